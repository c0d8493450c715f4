/- Contracts of the package box: a ledger's put and find. -/
import Derived.Test.YtdlaojpjkijccaaDoorBox
import Derived.Test.YtdlaojpjkijccaaDoorZeros
import Derived.StillTailTactics
set_option linter.unusedVariables false
set_option linter.unusedSimpArgs false
namespace Go.Proofs.YtdlaojpjkijccaaDoor
open Go.RowKit

theorem Rv.lit (w : World) (vs : List Value) (T : TypeId) (size : Nat) (hl : vs.length = size) (h1 : ∀ v ∈ vs, v.oneCell' = true) : Rv (w.alloc (.cells vs.toArray T)) size (Option.some ⟨w.heap.size, 0, Option.none⟩) 1 1 vs :=
  ⟨by omega, Nat.le_refl _, by unfold maxLen; omega, fun h => (by cases h), fun ad ha j u hu => by
    injection ha with ha
    subst ha
    have hadd : (⟨w.heap.size, 0, Option.none⟩ : Addr).add j = ⟨w.heap.size, j, Option.none⟩ := by unfold Addr.add; split <;> simp_all
    rw [hadd]
    exact (At.new w vs.toArray T).cell (by simpa using hu), h1⟩
theorem info_sealed : (Tryd.prog.info? 128).map (fun i => (i.zero, i.size, i.bytes)) = some (some (.agg #[.int .i64 0, .int .i64 0, .int .i64 0, .int .i64 0, .int .i64 0, .int .i64 0, .int .i64 0, .slice none 0 0, .slice none 0 0]), 9, 104) := by kernel_rfl
theorem info_marked : (Tryd.prog.info? 160).map (fun i => (i.zero, i.size, i.bytes)) = some (some (.agg #[.int .i64 0, .int .i64 0, .int .i64 0, .int .i64 0, .int .i64 0, .int .i64 0, .slice none 0 0]), 7, 72) := by kernel_rfl
theorem nb_i64 (n : Int) : (I64 n).oneCell' = true ∧ NB (I64 n) := ⟨rfl, fun u e => by simp [I64, B] at e⟩
theorem nb_slice (A : Option Addr) (n c : Nat) : (Value.slice A n c).oneCell' = true ∧ NB (.slice A n c) := ⟨rfl, fun u e => by simp [B] at e⟩
theorem zero_sealed : ∀ v ∈ (Value.agg #[.int .i64 0, .int .i64 0, .int .i64 0, .int .i64 0, .int .i64 0, .int .i64 0, .int .i64 0, .slice none 0 0, .slice none 0 0]).cells, v.oneCell' = true ∧ NB v := by
  intro v hv
  have : v = I64 0 ∨ v = .slice none 0 0 := by simpa [Value.cells, I64] using hv
  rcases this with rfl | rfl
  · exact nb_i64 0
  · exact nb_slice none 0 0
theorem zero_marked : ∀ v ∈ (Value.agg #[.int .i64 0, .int .i64 0, .int .i64 0, .int .i64 0, .int .i64 0, .int .i64 0, .slice none 0 0]).cells, v.oneCell' = true ∧ NB v := by
  intro v hv
  have : v = I64 0 ∨ v = .slice none 0 0 := by simpa [Value.cells, I64] using hv
  rcases this with rfl | rfl
  · exact nb_i64 0
  · exact nb_slice none 0 0
theorem row_load (w : World) (g : Nat) (T : TypeId) (vs : List Value) (hat : At w g vs.toArray) (d : TypeDesc) (hu : Tryd.prog.underlying T = some d) (hd : d.isRow = true) (hi : (Tryd.prog.info? T).map (·.size) = some vs.length) :
    (loadVar T ⟨g, 0, none⟩).run Tryd.prog w = .ok (.agg vs.toArray) w := by
  obtain ⟨U, hat⟩ := hat
  exact run_loadVar_row w g U T vs.toArray (0, 0) d hat hu (by cases d <;> simp_all [TypeDesc.isRow]) (by simpa using hi)

set_option maxHeartbeats 1000000 in
theorem putS_c (w : World) (b : Nat) (F : Nat → Prop) (x : BoxS) (hx : BoxAt w b F x) (e : SealE) (ta tt : Option Addr × Nat × Nat) (ha : Bs w ta.1 ta.2.1 ta.2.2 e.2.1) (ht : Bs w tt.1 tt.2.1 tt.2.2 e.2.2)
    (hn : x.seals.length ≤ 1000000000000) (sz : Nat) (h8 : 8 ≤ sz) (hsz : sz ≤ 1099511627776)
    (K : Ending → World → Prop) (hK : ∀ A' c' F' w', Kp F w w' → BoxAt w' b F' { x with seals := x.seals ++ [e] } → (∀ y, F' y → F y ∨ w.heap.size ≤ y) →
      Ob w' w.heap.size A' sz c' (beN 8 x.seals.length ++ List.replicate (sz - 8) 0) → K (.returned (.slice A' sz c')) w') :
    Calls Tryd.prog 76 #[.pointer (some ⟨b, 3, none⟩), .agg (e.1.1.l.map I64 ++ [I64 e.1.2] ++ [sv ta, sv tt]).toArray, .int .i64 sz] w K := by
  obtain ⟨sA, sn, sc, lA, ln, lc, mA, mn, mc, m, cnt, rep, hx⟩ := hx
  have hln := hx.seals.len
  obtain ⟨vs, hvs⟩ : ∃ vs, e.1.1.l.map I64 ++ [I64 e.1.2] ++ [sv ta, sv tt] = vs := ⟨_, rfl⟩
  have hvl : vs.length = 9 := by rw [← hvs]; rfl
  rw [hvs]
  have c3 : ∀ o, (w.alloc o).cell? ⟨b, 3, none⟩ = some (.slice lA ln lc) := fun o => (hx.cells.alloc o).cell rfl
  go_enter Tryd.func76, Tryd.ntmps76
  go_wp2_with fail
  have a1 : At (w.alloc (.cells vs.toArray 128)) w.heap.size vs.toArray := At.new w _ _
  have e1 : Ext w (w.alloc (.cells vs.toArray 128)) := (Ext.refl w).alloc _
  generalize (w.alloc (.cells vs.toArray 128)) = w1 at a1 e1 ⊢
  clear c3
  refine putNum_c w1 none 0 0 [] _ (by omega) (by omega) (Bs.nil _) _ ?_
  intro A2 c2 w2 e2 ho2
  have b2 := hx.cells.ext (e1.trans e2)
  have c3 := b2.cell (j := 3) rfl
  have f3 := b2.frozen 3
  have a2 := a1.ext e2
  have hz2lt : ∀ y, ablk A2 = some y → y < w2.heap.size := fun y hy => (Ow.base ho2 hy).2
  obtain ⟨rows, hr1, hr2, hrl, hr4⟩ := hx.seals
  have row2 := hr2.ext (e1.trans e2)
  obtain ⟨i0, hi0, hz0, hz1, hz2⟩ := info_parts info_sealed
  have hone : ∀ v ∈ vs, v.oneCell' = true ∧ NB v := by
    rw [← hvs]
    intro v hv
    simp only [List.mem_append, List.mem_map, List.mem_cons, List.not_mem_nil, or_false] at hv
    rcases hv with (⟨y, _, rfl⟩ | rfl) | rfl | rfl
    · exact nb_i64 _
    · exact nb_i64 _
    · exact nb_slice _ _ _
    · exact nb_slice _ _ _
  obtain ⟨v0, v1, v2, v3, v4, v5, v6, v7, v8, hv9⟩ : ∃ v0 v1 v2 v3 v4 v5 v6 v7 v8, vs = [v0, v1, v2, v3, v4, v5, v6, v7, v8] := ⟨_, _, _, _, _, _, _, _, _, hvs.symm⟩
  have HV : Hid (e.1.1.l.map I64 ++ [I64 e.1.2] ++ [sv ta, sv tt] = [v0, v1, v2, v3, v4, v5, v6, v7, v8]) := hvs.trans hv9
  clear hvs
  subst hv9
  have l0 : w2.cell? ⟨w.heap.size, 0, none⟩ = some v0 := a2.cell rfl
  have l1 : w2.cell? ⟨w.heap.size, 1, none⟩ = some v1 := a2.cell rfl
  have l2 : w2.cell? ⟨w.heap.size, 2, none⟩ = some v2 := a2.cell rfl
  have l3 : w2.cell? ⟨w.heap.size, 3, none⟩ = some v3 := a2.cell rfl
  have l4 : w2.cell? ⟨w.heap.size, 4, none⟩ = some v4 := a2.cell rfl
  have l5 : w2.cell? ⟨w.heap.size, 5, none⟩ = some v5 := a2.cell rfl
  have l6 : w2.cell? ⟨w.heap.size, 6, none⟩ = some v6 := a2.cell rfl
  have l7 : w2.cell? ⟨w.heap.size, 7, none⟩ = some v7 := a2.cell rfl
  have l8 : w2.cell? ⟨w.heap.size, 8, none⟩ = some v8 := a2.cell rfl
  have c3d : w2.drew.cell? ⟨b, 3, none⟩ = some (.slice lA ln lc) := c3
  have c3a : ∀ o, (w2.alloc o).cell? ⟨b, 3, none⟩ = some (.slice lA ln lc) := fun o => Ext.cell (Ext.alloc (Ext.refl w2) o) c3
  have hne : ∀ k, ablk lA = some k → k ≠ b := fun k hk e => hx.bl (e ▸ hk)
  go_wp2_with fail
  go_region_law ((refine step_append_row rfl rfl 128 9 104 i0 _ Tryd.underlying73 hi0 hz0 hz1 hz2 rfl (by omega) zero_sealed rfl (row2.ext (Ext.drew (Ext.alloc (Ext.refl w2) _))) rfl (Rv.ext (Rv.lit w2 [v0, v1, v2, v3, v4, v5, v6, v7, v8] _ 9 hvl (fun v hv => (hone v hv).1)) (Ext.drew (Ext.refl _))) (fun v hv => (hone v hv).2) (by omega) (by unfold maxLen; omega) ?_; intro A3 c4 w3 hr3 hk3 hA3; have b3 := At.kp (At.ext b2 (Ext.drew (Ext.alloc (Ext.refl w2) _))) hk3 (fun h => hne b h rfl); have c5 := b3.cell (j := 3) rfl; have f5 := b3.frozen 3))
  all_goals
    clear l0 l1 l2 l3 l4 l5 l6 l7 l8 c3 c3d c3a f3
    have hk4 := (Ext.drew (Ext.alloc (Ext.refl w2) _)).kp (fun k => ablk lA = some k) |>.trans hk3 (fun _ _ h => h) (fun _ _ h => h)
    have hA4 : A3 = lA ∨ ∃ k, A3 = some ⟨k, 0, none⟩ ∧ w2.heap.size < k := hA3.imp id (fun h => ⟨_, h, by simp⟩)
    clear hA3 hk3 c5
    have e12 := e1.trans e2
    have hbw : b < w.heap.size := hx.cells.lt
    have hlw : ∀ k, ablk lA = some k → k < w.heap.size := fun k hk => (hr2.noB hk).2
    obtain ⟨w4, hw4⟩ : ∃ w4, w3.setCell ⟨b, 3, none⟩ (.slice A3 (ln + 1) c4) = w4 := ⟨_, rfl⟩
    have k34 : Kp (fun k => k = b) w3 w4 := hw4 ▸ Kp.set1 w3 ⟨b, 3, none⟩ _
    have b4 := b3.set 3 (.slice A3 (ln + 1) c4)
    have hA3b : ∀ k, ablk A3 = some k → k ≠ b := fun k hk e => by
      rcases hA4 with rfl | ⟨g, rfl, hg⟩
      · exact hne k hk e
      · have : g = k := Option.some.inj hk
        have := e12.size
        omega
    rw [hw4] at b4 ⊢
    have r4 := hr3.kp k34 hA3b
    have kf4 : Kp (fun y => y = b ∨ ablk lA = some y) w w4 := (e12.kp _).trans (hk4.trans k34 (T := fun y => y = b ∨ ablk lA = some y) (fun _ _ h => Or.inr h) (fun _ _ h => Or.inl h)) (fun _ _ h => h) (fun _ _ h => h)
    have ho4 : Ob w4 w1.heap.size A2 8 c2 (beN 8 ln) := by
      have h := ho2
      simp only [Nat.zero_add, List.nil_append, Int.toNat_natCast] at h
      refine (Ow.kp h hk4 (fun y hy hs => ?_)).kp k34 (fun y hy hs => ?_)
      · have := (Ow.base h hy).1
        have := hlw y hs
        have := e1.size
        omega
      · have := (Ow.base h hy).1
        have := e1.size
        have : y = b := hs
        omega
    have z24 : w2.heap.size ≤ w4.heap.size := Nat.le_trans hk4.size k34.size
    clear hw4 b3 hr3 k34 hk4 ho2 row2 f5 b2 a1 a2
    go_wp2_with (with_reducible refine stop_append ?_)
    refine Stop.go (wpList_append_zeros w.heap.size rfl (ho4.mono e1.size) (sz - 8) rfl (by omega) (by omega) (by have := e12.size; omega) ?_)
    intro A5 c5 w5 ho5 hk5
    have hA2 : ∀ y, ablk A2 = some y → w1.heap.size ≤ y ∧ y < w2.heap.size := fun y hy => ⟨(Ow.base ho4 hy).1, hz2lt y hy⟩
    have kf : Kp (fun y => y = b ∨ ablk lA = some y) w w5 := kf4.new hk5 (fun y hy => by have := hA2 y hy; have := e1.size; omega)
    have b5 := b4.kp hk5 (fun hy => by have := hA2 b hy; have := e1.size; omega)
    have r5 := r4.kp hk5 (fun y hy hs => by
      have h2 := hA2 y hs
      have := e1.size
      rcases hA4 with rfl | ⟨g, rfl, hg⟩
      · have := hlw y hy; omega
      · have : g = y := Option.some.inj hy
        omega)
    have hbx := BoxIn.sealed hx kf b5 hr1 hrl hr4 r5 hvl ⟨ta, tt, HV.out.symm, ha, ht⟩ (hA4.imp id (fun ⟨k, h, hk⟩ => ⟨k, h, by have := e12.size; omega⟩))
    go_wp2_with (with_reducible refine stop_append ?_)
    refine hK A5 c5 _ w5 (kf.mono (fun y _ hy => ?_)) hbx (fun y hy => ?_) ?_
    · rcases hy with rfl | hy
      · exact hx.fb
      · exact hx.fl y hy
    · rcases hy with hy | hy
      · exact Or.inl hy.1
      · rcases hA4 with rfl | ⟨g, rfl, hg⟩
        · exact Or.inl (hx.fl y hy)
        · have : g = y := Option.some.inj hy
          exact Or.inr (by have := e12.size; omega)
    · rw [hln]
      have : 8 + (sz - 8) = sz := by omega
      rw [this] at ho5
      exact ho5
set_option maxHeartbeats 1000000 in
theorem putM_c (w : World) (b : Nat) (F : Nat → Prop) (x : BoxS) (hx : BoxAt w b F x) (e : MarkE) (tt : Option Addr × Nat × Nat) (ht : Bs w tt.1 tt.2.1 tt.2.2 e.2)
    (hn : x.marks.length ≤ 1000000000000) (sz : Nat) (h8 : 8 ≤ sz) (hsz : sz ≤ 1099511627776)
    (K : Ending → World → Prop) (hK : ∀ A' c' F' w', Kp F w w' → BoxAt w' b F' { x with marks := x.marks ++ [e] } → (∀ y, F' y → F y ∨ w.heap.size ≤ y) →
      Ob w' w.heap.size A' sz c' (beN 8 x.marks.length ++ List.replicate (sz - 8) 0) → K (.returned (.slice A' sz c')) w') :
    Calls Tryd.prog 80 #[.pointer (some ⟨b, 4, none⟩), .agg (e.1.l.map I64 ++ [sv tt]).toArray, .int .i64 sz] w K := by
  obtain ⟨sA, sn, sc, lA, ln, lc, mA, mn, mc, m, cnt, rep, hx⟩ := hx
  have hln := hx.marks.len
  obtain ⟨vs, hvs⟩ : ∃ vs, e.1.l.map I64 ++ [sv tt] = vs := ⟨_, rfl⟩
  have hvl : vs.length = 7 := by rw [← hvs]; rfl
  rw [hvs]
  have c3 : ∀ o, (w.alloc o).cell? ⟨b, 4, none⟩ = some (.slice mA mn mc) := fun o => (hx.cells.alloc o).cell rfl
  go_enter Tryd.func80, Tryd.ntmps80
  go_wp2_with fail
  have a1 : At (w.alloc (.cells vs.toArray 160)) w.heap.size vs.toArray := At.new w _ _
  have e1 : Ext w (w.alloc (.cells vs.toArray 160)) := (Ext.refl w).alloc _
  generalize (w.alloc (.cells vs.toArray 160)) = w1 at a1 e1 ⊢
  clear c3
  refine putNum_c w1 none 0 0 [] _ (by omega) (by omega) (Bs.nil _) _ ?_
  intro A2 c2 w2 e2 ho2
  have b2 := hx.cells.ext (e1.trans e2)
  have c3 := b2.cell (j := 4) rfl
  have f3 := b2.frozen 4
  have a2 := a1.ext e2
  have hz2lt : ∀ y, ablk A2 = some y → y < w2.heap.size := fun y hy => (Ow.base ho2 hy).2
  obtain ⟨rows, hr1, hr2, hrl, hr4⟩ := hx.marks
  have row2 := hr2.ext (e1.trans e2)
  obtain ⟨i0, hi0, hz0, hz1, hz2⟩ := info_parts info_marked
  have hone : ∀ v ∈ vs, v.oneCell' = true ∧ NB v := by
    rw [← hvs]
    intro v hv
    simp only [List.mem_append, List.mem_map, List.mem_cons, List.not_mem_nil, or_false] at hv
    rcases hv with ⟨y, _, rfl⟩ | rfl
    · exact nb_i64 _
    · exact nb_slice _ _ _
  obtain ⟨v0, v1, v2, v3, v4, v5, v6, hv9⟩ : ∃ v0 v1 v2 v3 v4 v5 v6, vs = [v0, v1, v2, v3, v4, v5, v6] := ⟨_, _, _, _, _, _, _, hvs.symm⟩
  have HV : Hid (e.1.l.map I64 ++ [sv tt] = [v0, v1, v2, v3, v4, v5, v6]) := hvs.trans hv9
  clear hvs
  subst hv9
  have l0 : w2.cell? ⟨w.heap.size, 0, none⟩ = some v0 := a2.cell rfl
  have l1 : w2.cell? ⟨w.heap.size, 1, none⟩ = some v1 := a2.cell rfl
  have l2 : w2.cell? ⟨w.heap.size, 2, none⟩ = some v2 := a2.cell rfl
  have l3 : w2.cell? ⟨w.heap.size, 3, none⟩ = some v3 := a2.cell rfl
  have l4 : w2.cell? ⟨w.heap.size, 4, none⟩ = some v4 := a2.cell rfl
  have l5 : w2.cell? ⟨w.heap.size, 5, none⟩ = some v5 := a2.cell rfl
  have l6 : w2.cell? ⟨w.heap.size, 6, none⟩ = some v6 := a2.cell rfl
  have c3d : w2.drew.cell? ⟨b, 4, none⟩ = some (.slice mA mn mc) := c3
  have c3a : ∀ o, (w2.alloc o).cell? ⟨b, 4, none⟩ = some (.slice mA mn mc) := fun o => Ext.cell (Ext.alloc (Ext.refl w2) o) c3
  have hne : ∀ k, ablk mA = some k → k ≠ b := fun k hk e => hx.bk (e ▸ hk)
  go_wp2_with fail
  go_region_law ((refine step_append_row rfl rfl 160 7 72 i0 _ Tryd.underlying76 hi0 hz0 hz1 hz2 rfl (by omega) zero_marked rfl (row2.ext (Ext.drew (Ext.alloc (Ext.refl w2) _))) rfl (Rv.ext (Rv.lit w2 [v0, v1, v2, v3, v4, v5, v6] _ 7 hvl (fun v hv => (hone v hv).1)) (Ext.drew (Ext.refl _))) (fun v hv => (hone v hv).2) (by omega) (by unfold maxLen; omega) ?_; intro A3 c4 w3 hr3 hk3 hA3; have b3 := At.kp (At.ext b2 (Ext.drew (Ext.alloc (Ext.refl w2) _))) hk3 (fun h => hne b h rfl); have c5 := b3.cell (j := 4) rfl; have f5 := b3.frozen 4))
  all_goals
    clear l0 l1 l2 l3 l4 l5 l6 c3 c3d c3a f3
    have hk4 := (Ext.drew (Ext.alloc (Ext.refl w2) _)).kp (fun k => ablk mA = some k) |>.trans hk3 (fun _ _ h => h) (fun _ _ h => h)
    have hA4 : A3 = mA ∨ ∃ k, A3 = some ⟨k, 0, none⟩ ∧ w2.heap.size < k := hA3.imp id (fun h => ⟨_, h, by simp⟩)
    clear hA3 hk3 c5
    have e12 := e1.trans e2
    have hbw : b < w.heap.size := hx.cells.lt
    have hlw : ∀ k, ablk mA = some k → k < w.heap.size := fun k hk => (hr2.noB hk).2
    obtain ⟨w4, hw4⟩ : ∃ w4, w3.setCell ⟨b, 4, none⟩ (.slice A3 (mn + 1) c4) = w4 := ⟨_, rfl⟩
    have k34 : Kp (fun k => k = b) w3 w4 := hw4 ▸ Kp.set1 w3 ⟨b, 4, none⟩ _
    have b4 := b3.set 4 (.slice A3 (mn + 1) c4)
    have hA3b : ∀ k, ablk A3 = some k → k ≠ b := fun k hk e => by
      rcases hA4 with rfl | ⟨g, rfl, hg⟩
      · exact hne k hk e
      · have : g = k := Option.some.inj hk
        have := e12.size
        omega
    rw [hw4] at b4 ⊢
    have r4 := hr3.kp k34 hA3b
    have kf4 : Kp (fun y => y = b ∨ ablk mA = some y) w w4 := (e12.kp _).trans (hk4.trans k34 (T := fun y => y = b ∨ ablk mA = some y) (fun _ _ h => Or.inr h) (fun _ _ h => Or.inl h)) (fun _ _ h => h) (fun _ _ h => h)
    have ho4 : Ob w4 w1.heap.size A2 8 c2 (beN 8 mn) := by
      have h := ho2
      simp only [Nat.zero_add, List.nil_append, Int.toNat_natCast] at h
      refine (Ow.kp h hk4 (fun y hy hs => ?_)).kp k34 (fun y hy hs => ?_)
      · have := (Ow.base h hy).1
        have := hlw y hs
        have := e1.size
        omega
      · have := (Ow.base h hy).1
        have := e1.size
        have : y = b := hs
        omega
    have z24 : w2.heap.size ≤ w4.heap.size := Nat.le_trans hk4.size k34.size
    clear hw4 b3 hr3 k34 hk4 ho2 row2 f5 b2 a1 a2
    go_wp2_with (with_reducible refine stop_append ?_)
    refine Stop.go (wpList_append_zeros w.heap.size rfl (ho4.mono e1.size) (sz - 8) rfl (by omega) (by omega) (by have := e12.size; omega) ?_)
    intro A5 c5 w5 ho5 hk5
    have hA2 : ∀ y, ablk A2 = some y → w1.heap.size ≤ y ∧ y < w2.heap.size := fun y hy => ⟨(Ow.base ho4 hy).1, hz2lt y hy⟩
    have kf : Kp (fun y => y = b ∨ ablk mA = some y) w w5 := kf4.new hk5 (fun y hy => by have := hA2 y hy; have := e1.size; omega)
    have b5 := b4.kp hk5 (fun hy => by have := hA2 b hy; have := e1.size; omega)
    have r5 := r4.kp hk5 (fun y hy hs => by
      have h2 := hA2 y hs
      have := e1.size
      rcases hA4 with rfl | ⟨g, rfl, hg⟩
      · have := hlw y hy; omega
      · have : g = y := Option.some.inj hy
        omega)
    have hbx := BoxIn.marked hx kf b5 hr1 hrl hr4 r5 hvl ⟨tt, HV.out.symm, ht⟩ (hA4.imp id (fun ⟨k, h, hk⟩ => ⟨k, h, by have := e12.size; omega⟩))
    go_wp2_with (with_reducible refine stop_append ?_)
    refine hK A5 c5 _ w5 (kf.mono (fun y _ hy => ?_)) hbx (fun y hy => ?_) ?_
    · rcases hy with rfl | hy
      · exact hx.fb
      · exact hx.fk y hy
    · rcases hy with hy | hy
      · exact Or.inl hy.1
      · rcases hA4 with rfl | ⟨g, rfl, hg⟩
        · exact Or.inl (hx.fk y hy)
        · have : g = y := Option.some.inj hy
          exact Or.inr (by have := e12.size; omega)
    · rw [hln]
      have : 8 + (sz - 8) = sz := by omega
      rw [this] at ho5
      exact ho5
end Go.Proofs.YtdlaojpjkijccaaDoor
