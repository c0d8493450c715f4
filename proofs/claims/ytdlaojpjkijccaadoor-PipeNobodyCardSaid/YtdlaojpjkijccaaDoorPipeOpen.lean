/- Contracts of the package pipe: Close, take, Open, Up. -/
import Derived.Test.YtdlaojpjkijccaaDoorPipeSeal
import Derived.Test.YtdlaojpjkijccaaDoorSlices
set_option linter.unusedVariables false
set_option linter.unusedSimpArgs false
namespace Go.Proofs.YtdlaojpjkijccaaDoor
open Go.RowKit

theorem sealRes_err (x : BoxS) (k : Kid) (n : Int) (ad tx : List UInt8) : (sealRes x k n ad tx).1 = 0 ∨ (sealRes x k n ad tx).1 = 1 ∨ (sealRes x k n ad tx).1 = 5 := by
  unfold sealRes sealE
  rcases askE_out k n with ⟨h, _⟩ | h
  · rw [h]
    by_cases hl : ad.length ≤ 65536 ∧ tx.length ≤ 65536
    · simp [hl]
    · simp [hl]
  · rw [h]
    simp
theorem pipeSeal_err (s : PipeS) (x : BoxS) (kind : UInt8) (tx : List UInt8) : ¬ (pipeSeal s x kind tx).err = 2 := by
  unfold pipeSeal
  split
  · simp
  · split
    · simp
    · split
      · simp
      · dsimp only
        split
        · simp
        · rcases sealRes_err x (s.kid s.side) (s.lane s.side).seq [] (kind :: tx) with h | h | h <;> simp [h]
def PipeS.shut (s : PipeS) (c : Bool) : PipeS := { s with closed := c }
theorem PipeAt.shut {w : World} {p b : Nat} {s : PipeS} (h : PipeAt w p b s) (c : Bool) : PipeAt (w.setCell ⟨p, 18, none⟩ (.bool c)) p b (s.shut c) := by
  have := At.set h 18 (.bool c)
  exact this
def pipeClose (s : PipeS) (x : BoxS) : PipeR := { pipeSeal s x 2 [] with pipe := (pipeSeal s x 2 []).pipe.shut true }
/-- A box lives on when its pipe's block is written. -/
theorem BoxAt.pipe {w w' : World} {p b : Nat} {s : PipeS} {F F0 : Nat → Prop} {x : BoxS} {w0 : World} (h : BoxAt w b F x) (hp : PipeAt w p b s) (k : Kp (fun y => y = p) w w') (hF : ∀ y, F y → F0 y ∨ w0.heap.size ≤ y) (hpF : ¬ F0 p) (hpl : p < w0.heap.size) : BoxAt w' b F x :=
  h.kp k (fun y hy => by subst hy; exact hp.noB) (fun y hy e => by
    subst e
    rcases hF y hy with h | h
    · exact hpF h
    · omega)

set_option maxRecDepth 100000 in
set_option maxHeartbeats 1000000 in
theorem pipeClose_c (w : World) (p b : Nat) (F : Nat → Prop) (s : PipeS) (x : BoxS) (hp : PipeAt w p b s) (hs : s.side < 2) (hx : BoxAt w b F x) (hf : Fit x) (hpF : ¬ F p) (hsn : x.seals.length ≤ 1000000000000)
    (K : Ending → World → Prop)
    (hK : ∀ A' n' c' F' w', Kp (fun y => F y ∨ y = p) w w' → PipeAt w' p b (pipeClose s x).pipe → BoxAt w' b F' (pipeClose s x).box → (∀ y, F' y → F y ∨ w.heap.size ≤ y) →
      Bs w' A' n' c' (pipeClose s x).text → K (.returned (.tuple #[.slice A' n' c', .int .i64 (pipeClose s x).err])) w') :
    Calls Tryd.prog 21 #[.pointer (some ⟨p, 0, none⟩)] w K := by
  unfold pipeClose at hK
  dsimp only at hK
  have HO : Hid _ := hK
  clear hK
  have he2 := pipeSeal_err s x 2 []
  go_enter Tryd.func21, Tryd.ntmps21
  go_wp2_with fail
  refine pipeSeal_c w p b F s x hp hs hx hf hpF hsn 2 none 0 0 [] (Bs.nil _) _ ?_
  intro A' n' c' F' w' h1 h2 h3 h4 h5
  generalize pipeSeal s x 2 [] = r at *
  obtain ⟨e, t, q, y⟩ := r
  dsimp only at *
  have he3 : (e == 2) = false := by simpa using he2
  have c18 : w'.cell? ⟨p, 18, none⟩ = some (.bool q.closed) := At.cell h2 rfl
  have f18 := At.frozen h2 18
  have k2 := Kp.set1 w' ⟨p, 18, none⟩ (.bool true)
  have hpl : p < w.heap.size := At.lt hp
  have HN : Hid _ := HO.out A' n' c' F' _ (h1.trans k2 (fun _ _ h => h) (fun _ _ h => Or.inr h)) (h2.shut true) (h3.pipe h2 k2 h4 hpF hpl) h4 (h5.bs.clean k2 (fun z hz => by
    have hz' : z = p := hz
    subst hz'
    exact h2.noB))
  clear HO h1 h2 h3 h4 h5 k2
  go_wp2_with fail
  exact HN.out

/-- What an end takes. -/
def pipeTake (s : PipeS) (x : BoxS) (fr : List UInt8) : Int × List UInt8 × PipeS :=
  let i := 1 - s.side
  if s.spent i then (7, [], s)
  else if fr.length = 0 ∨ ¬ fr.getD 0 0 = 4 then (6, [], s)
  else
    let r := openOut x (s.kid i) (s.lane i).seq [] (fr.drop 1)
    if ¬ r.1 = 0 ∨ r.2.length = 0 ∨ 60001 < r.2.length then (6, [], s)
    else if r.2.getD 0 0 = 1 then (0, r.2.drop 1, s.step i)
    else if r.2.getD 0 0 = 2 ∧ r.2.length = 1 then (14, [], s.step i)
    else (6, [], s.step i)

set_option maxRecDepth 100000 in
set_option maxHeartbeats 1000000 in
theorem pipeTake_c (w : World) (p b : Nat) (F : Nat → Prop) (s : PipeS) (x : BoxS) (hp : PipeAt w p b s) (hs : s.side < 2) (hx : BoxAt w b F x) (hf : Fit x) (hpF : ¬ F p)
    (T : Option Addr) (tn tc : Nat) (fr : List UInt8) (ht : Bs w T tn tc fr)
    (K : Ending → World → Prop)
    (hK : ∀ A' n' c' w', Kp (fun y => y = p) w w' → PipeAt w' p b (pipeTake s x fr).2.2 →
      Bs w' A' n' c' (pipeTake s x fr).2.1 → K (.returned (.tuple #[.slice A' n' c', .int .i64 (pipeTake s x fr).1])) w') :
    Calls Tryd.prog 39 #[.pointer (some ⟨p, 0, none⟩), .slice T tn tc] w K := by
  have htl := ht.len
  have ht1 := Rv.le ht
  have ht2 := Rv.cap ht
  unfold maxLen at ht2
  have HO : Hid _ := hK
  clear hK
  have hno : ∀ e w', pipeTake s x fr = (e, [], s) → Ext w w' → Hid (K (.returned (.tuple #[.slice none 0 0, .int .i64 e])) w') := fun e w' he hext => by
    have h := HO.out none 0 0 w' (hext.kp _)
    rw [he] at h
    exact h (hp.ext hext) (Bs.nil _)
  have c4 : w.cell? ⟨p, 4, none⟩ = some (.int .i64 s.side) := At.cell hp rfl
  obtain ⟨i, hi⟩ : ∃ i, 1 - s.side = i := ⟨_, rfl⟩
  have hw1 : IntKind.i64.wrap (1 - (s.side : Int)) = (i : Int) := by rw [IntKind.wrap_i64]; omega
  have hi2 : i < 2 := by omega
  unfold pipeTake at hno HO
  rw [hi] at hno HO
  dsimp only at hno HO
  clear hi
  go_enter Tryd.func39, Tryd.ntmps39
  go_wp2_with fail
  refine spent_c w p b s hp _ i rfl hi2 _ ?_
  intro w1 e1 hh1
  clear hh1 hw1 c4
  have hp1 : PipeAt w1 p b s := hp.ext e1
  cases hsp : s.spent i with
  | true =>
    have HN := hno 7 w1 (by simp [hsp]) e1
    clear hno HO
    go_wp2_with fail
    exact HN.out
  | false =>
    simp only [hsp, Bool.false_eq_true, if_false] at hno HO
    by_cases h0 : tn = 0
    · have HN := hno 6 w1 (by simp [htl, h0]) e1
      subst h0
      clear hno HO
      go_wp2_with fail
      exact HN.out
    · obtain ⟨ad, hA⟩ := ht.ex (show 0 < tc by omega)
      subst hA
      have hc0 := (ht.ext e1).cell rfl (show 0 < tn by omega)
      have e00 : ad.add 0 = ad := by unfold Addr.add; rfl
      have hc1 := hc0
      rw [e00] at hc1
      have htn : 0 < tn := by omega
      by_cases h4 : fr.getD 0 0 = 4
      · rw [h4] at hc0 hc1
        have h04 : ¬ (fr.length = 0 ∨ ¬ fr.getD 0 0 = 4) := by
          rw [htl, h4]
          simp [h0]
        simp only [h04, if_false] at hno HO
        have HR : Hid _ := hno
        clear hno e00
        have x0 : w1.cell? ⟨p, 12 + i * 3, none⟩ = some (.int .i64 (s.lane i).epoch) := by
          rcases (by omega : i = 0 ∨ i = 1) with rfl | rfl <;> exact At.cell hp1 rfl
        have x1 : w1.cell? ⟨p, 12 + i * 3 + 1, none⟩ = some (.int .i64 (s.lane i).seq) := by
          rcases (by omega : i = 0 ∨ i = 1) with rfl | rfl <;> exact At.cell hp1 rfl
        have x2 : w1.cell? ⟨p, 12 + i * 3 + 2, none⟩ = some (.int .i64 (s.lane i).count) := by
          rcases (by omega : i = 0 ∨ i = 1) with rfl | rfl <;> exact At.cell hp1 rfl
        have x0a : ∀ o, (w1.alloc o).cell? ⟨p, 12 + i * 3, none⟩ = some (.int .i64 (s.lane i).epoch) := fun o => Ext.cell ((Ext.refl w1).alloc o) x0
        have x1a : ∀ o, (w1.alloc o).cell? ⟨p, 12 + i * 3 + 1, none⟩ = some (.int .i64 (s.lane i).seq) := fun o => Ext.cell ((Ext.refl w1).alloc o) x1
        have x2a : ∀ o, (w1.alloc o).cell? ⟨p, 12 + i * 3 + 2, none⟩ = some (.int .i64 (s.lane i).count) := fun o => Ext.cell ((Ext.refl w1).alloc o) x2
        have hi3 : (i : Int) < 2 := by omega
        have hi4 : (0 : Int) ≤ (i : Int) := by omega
        have l0 : ∀ o, (w1.alloc o).cell? ⟨p, 0, none⟩ = some (.pointer (some ⟨b, 0, none⟩)) := fun o => ((Ext.refl w1).alloc o).cell (At.cell hp1 rfl)
        have l1 : ∀ o, (w1.alloc o).cell? ⟨p, 1, none⟩ = some (.int .i64 s.keys.life) := fun o => ((Ext.refl w1).alloc o).cell (At.cell hp1 rfl)
        have l2 : ∀ o, (w1.alloc o).cell? ⟨p, 2, none⟩ = some (.int .i64 s.keys.conn) := fun o => ((Ext.refl w1).alloc o).cell (At.cell hp1 rfl)
        have l3 : ∀ o, (w1.alloc o).cell? ⟨p, 3, none⟩ = some (.int .i64 s.keys.peer) := fun o => ((Ext.refl w1).alloc o).cell (At.cell hp1 rfl)
        go_wp2_with fail
        have ag := At.new w1 #[.int .i64 (s.lane i).epoch, .int .i64 (s.lane i).seq, .int .i64 (s.lane i).count] 95
        have e2 := (Ext.refl w1).alloc (.cells #[.int .i64 (s.lane i).epoch, .int .i64 (s.lane i).seq, .int .i64 (s.lane i).count] 95)
        replace l0 := l0 (.cells #[.int .i64 (s.lane i).epoch, .int .i64 (s.lane i).seq, .int .i64 (s.lane i).count] 95)
        replace l1 := l1 (.cells #[.int .i64 (s.lane i).epoch, .int .i64 (s.lane i).seq, .int .i64 (s.lane i).count] 95)
        replace l2 := l2 (.cells #[.int .i64 (s.lane i).epoch, .int .i64 (s.lane i).seq, .int .i64 (s.lane i).count] 95)
        replace l3 := l3 (.cells #[.int .i64 (s.lane i).epoch, .int .i64 (s.lane i).seq, .int .i64 (s.lane i).count] 95)
        clear x0a x1a x2a
        generalize (w1.alloc (.cells #[.int .i64 (s.lane i).epoch, .int .i64 (s.lane i).seq, .int .i64 (s.lane i).count] 95)) = wc at *
        have hcap : tc = 1 ∨ ¬ tc = 1 := by omega
        have eW := e1.trans e2
        have hpc := hp1.ext e2
        have hxc := hx.ext eW
        obtain ⟨g, hg⟩ : ∃ g, w1.heap.size = g := ⟨_, rfl⟩
        rw [hg] at ag ⊢
        clear hg
        have l5 : wc.cell? ⟨g, 0, none⟩ = some (.int .i64 (s.lane i).epoch) := ag.cell rfl
        have l6 : wc.cell? ⟨g, 1, none⟩ = some (.int .i64 (s.lane i).seq) := ag.cell rfl
        have hS : ∀ w', Ext wc w' → (w'.cell? ⟨p, 0, none⟩ = some (.pointer (some ⟨b, 0, none⟩)) ∧ w'.cell? ⟨p, 1, none⟩ = some (.int .i64 s.keys.life) ∧ w'.cell? ⟨p, 2, none⟩ = some (.int .i64 s.keys.conn) ∧ w'.cell? ⟨p, 3, none⟩ = some (.int .i64 s.keys.peer) ∧ w'.cell? ⟨g, 0, none⟩ = some (.int .i64 (s.lane i).epoch) ∧ w'.cell? ⟨g, 1, none⟩ = some (.int .i64 (s.lane i).seq)) :=
          fun w' h => ⟨h.cell l0, h.cell l1, h.cell l2, h.cell l3, h.cell l5, h.cell l6⟩
        have HS : Hid _ := hS
        clear hS
        have hbs1 : ∀ A', (tc = 1 → A' = some ad) → (¬ tc = 1 → A' = some (ad.add 1)) → Bs wc A' (tn - 1) (tc - 1) (fr.drop 1) := fun A' h1 h2 => (ht.from 1 (by omega) (fun h => by rw [h1 h]) (fun h => by rw [h2 h]; rfl)).ext eW
        have hb1 : (1 : Int) ≤ (tn : Int) := by omega
        have hb2 : (tn : Int) ≤ (tc : Int) := by omega
        have hb5 : (tn = 1 ∧ tc = 1 ∧ Bs wc (some ad) 0 0 (fr.drop 1)) ∨ (¬ tc = 1 ∧ Bs wc (some (ad.add 1)) (tn - 1) (tc - 1) (fr.drop 1)) := by
          rcases hcap with h | h
          · have h1 : tn = 1 := by omega
            have := hbs1 (some ad) (fun _ => rfl) (fun h' => absurd h h')
            rw [h, h1] at this
            exact Or.inl ⟨h1, h, this⟩
          · exact Or.inr ⟨h, hbs1 _ (fun h' => absurd h' h) (fun _ => rfl)⟩
        clear hbs1 hcap
        obtain ⟨fd, hfd⟩ : ∃ fd, fr.drop 1 = fd := ⟨_, rfl⟩
        rw [hfd] at hb5 HO HR
        clear hfd
        rcases hb5 with ⟨h51, h52, hb5⟩ | ⟨h52, hb5⟩
        case' inl =>
          subst h51 h52
          clear ht
          have hb1' : (1 : Int) ≤ 1 := by omega
          go_region_held3 (fun w' => w'.cell? ⟨p, 0, none⟩ = some (.pointer (some ⟨b, 0, none⟩)) ∧ w'.cell? ⟨p, 1, none⟩ = some (.int .i64 s.keys.life) ∧ w'.cell? ⟨p, 2, none⟩ = some (.int .i64 s.keys.conn) ∧ w'.cell? ⟨p, 3, none⟩ = some (.int .i64 s.keys.peer) ∧ w'.cell? ⟨g, 0, none⟩ = some (.int .i64 (s.lane i).epoch) ∧ w'.cell? ⟨g, 1, none⟩ = some (.int .i64 (s.lane i).seq))
            (first
              | exact HS.out _ (Ext.drew (Ext.refl _))
              | exact HS.out _ hel
              | exact HS.out _ hel10)
            (first
              | (go_at_call 30; refine keysID_c _ s.keys _ _ _ ?_; intro w10 he10; have hel10 : Ext wc w10 := Ext.trans (Ext.drew (Ext.refl wc)) he10)
              | (go_at_call 34; refine open_c _ b F x (hxc.ext hel10) hf (s.kid i) _ none 0 0 [] (Bs.nil _) _ _ _ fd (hb5.ext hel10) _ ?_; intro A12 n12 c12 w12 he12 ho12; have hel := hel10.trans he12))
        case' inr =>
          go_region_held3 (fun w' => w'.cell? ⟨p, 0, none⟩ = some (.pointer (some ⟨b, 0, none⟩)) ∧ w'.cell? ⟨p, 1, none⟩ = some (.int .i64 s.keys.life) ∧ w'.cell? ⟨p, 2, none⟩ = some (.int .i64 s.keys.conn) ∧ w'.cell? ⟨p, 3, none⟩ = some (.int .i64 s.keys.peer) ∧ w'.cell? ⟨g, 0, none⟩ = some (.int .i64 (s.lane i).epoch) ∧ w'.cell? ⟨g, 1, none⟩ = some (.int .i64 (s.lane i).seq))
          (first
            | exact HS.out _ (Ext.drew (Ext.refl _))
            | exact HS.out _ hel
            | exact HS.out _ hel10)
          (first
            | (go_at_call 30; refine keysID_c _ s.keys _ _ _ ?_; intro w10 he10; have hel10 : Ext wc w10 := Ext.trans (Ext.drew (Ext.refl wc)) he10)
            | (go_at_call 34; refine open_c _ b F x (hxc.ext hel10) hf (s.kid i) _ none 0 0 [] (Bs.nil _) _ _ _ fd (hb5.ext hel10) _ ?_; intro A12 n12 c12 w12 he12 ho12; have hel := hel10.trans he12))
        all_goals
          clear l0 l1 l2 l3 l5 l6 ag HS he10 hel10
          have eAll := eW.trans hel
          have hp12 : PipeAt w12 p b s := At.ext hpc hel
          have hbl := ho12.len
          have hcap := Rv.cap ho12.bs
          have hle := Rv.le ho12.bs
          unfold maxLen at hcap
          have ho := ho12.bs
          clear ho12 he12
          generalize openOut x (s.kid i) (s.lane i).seq [] fd = r at *
          obtain ⟨e, ts⟩ := r
          dsimp only at ho hbl HO HR
          by_cases hbad : ¬ e = 0 ∨ ts.length = 0 ∨ 60001 < ts.length
          · have HN := HR.out 6 w12 (if_pos hbad) eAll
            clear HO HR
            rw [hbl] at hbad
            by_cases he : e = 0
            · subst he
              by_cases hn0 : n12 = 0
              · subst hn0
                clear hbad
                go_wp2_with fail
                exact HN.out
              · have hn1 : 60001 < n12 := by omega
                clear hbad
                go_wp2_with fail
                exact HN.out
            · have he2 : (e == 0) = false := by simpa using he
              clear hbad
              go_wp2_with fail
              exact HN.out
          · simp only [hbad, if_false] at HO
            clear HR
            have he : e = 0 := by
              by_cases h : e = 0
              · exact h
              · exact absurd (Or.inl h) hbad
            have hn0 : 0 < n12 := by
              rcases Nat.eq_zero_or_pos n12 with h | h
              · exact absurd (Or.inr (Or.inl (hbl.trans h))) hbad
              · exact h
            have hn1 : n12 ≤ 60001 := by
              rcases Nat.lt_or_ge 60001 n12 with h | h
              · exact absurd (Or.inr (Or.inr (by rw [hbl]; exact h))) hbad
              · exact h
            subst he
            clear hbad
            have hnb : ((n12 : Int) == 0) = false := by
              rw [beq_eq_false_iff_ne]
              omega
            have hnc : ¬ (60001 : Int) < (n12 : Int) := by omega
            go_wp2_with fail
            refine step_c w12 p b s hp12 _ i rfl hi2 _ ?_
            intro w13 hk13 hp13
            have ho13 := ho.clean hk13 (fun y hy => by
              have hy' : y = p := hy
              subst hy'
              exact hp12.noB)
            obtain ⟨ad2, hA⟩ := ho13.ex (show 0 < c12 by omega)
            subst hA
            have k13 : Kp (fun y => y = p) w w13 := (eAll.kp _).trans hk13 (fun _ _ h => h) (fun _ _ h => h)
            have hc0 := ho13.cell rfl hn0
            have e01 : ad2.add 0 = ad2 := by unfold Addr.add; rfl
            have hc1 := hc0
            rw [e01] at hc1
            clear e01
            by_cases h1 : ts.getD 0 0 = 1
            · rw [h1] at hc0 hc1
              simp only [h1, if_true] at HO
              clear ho
              go_wp2_with ((with_reducible refine stop_slice ?_); refine Stop.go (wpList_slice_l (l := 1) rfl ho13 rfl (by omega) ?_); intro A' hb)
              have HB : Hid _ := ho13
              clear ho13
              go_wp2_with fail
              refine clone_c _ _ _ _ _ (by omega) hb _ ?_
              intro A14 c14 w14 e14 ho14
              have HN : Hid _ := HO.out _ _ _ w14 (k13.ext e14) (hp13.ext e14) ho14.bs
              clear HO
              go_wp2_with fail
              exact HN.out
            · have h1v : (((ts.getD 0 0).toNat : Int) == 1) = false := by
                have : (ts.getD 0 0).toNat ≠ 1 := fun h => h1 (UInt8.toNat_inj.1 h)
                rw [beq_eq_false_iff_ne]
                omega
              simp only [h1, if_false] at HO
              by_cases h2 : ts.getD 0 0 = 2 ∧ ts.length = 1
              · simp only [h2.1, h2.2, and_self, if_true] at HO
                rw [h2.1] at hc0 hc1
                have hn : n12 = 1 := by omega
                subst hn
                have HN : Hid _ := HO.out none 0 0 w13 k13 hp13 (Bs.nil _)
                clear HO h2 h1 h1v
                go_wp2_with fail
                exact HN.out
              · simp only [h2, if_false] at HO
                have HN : Hid _ := HO.out none 0 0 w13 k13 hp13 (Bs.nil _)
                clear HO h1
                by_cases h3 : ts.getD 0 0 = 2
                · have hn : ((n12 : Int) == 1) = false := by
                    rw [beq_eq_false_iff_ne]
                    intro h
                    exact h2 ⟨h3, by omega⟩
                  rw [h3] at hc0 hc1
                  clear h2 h3 h1v
                  go_wp2_with fail
                  exact HN.out
                · have h3v : (((ts.getD 0 0).toNat : Int) == 2) = false := by
                    have : (ts.getD 0 0).toNat ≠ 2 := fun h => h3 (UInt8.toNat_inj.1 h)
                    rw [beq_eq_false_iff_ne]
                    omega
                  generalize (ts.getD 0 0).toNat = v0 at *
                  clear h2 h3
                  go_wp2_with fail
                  exact HN.out
      · have HN := hno 6 w1 (if_pos (Or.inr h4)) e1
        have hv : ((((fr.getD 0 0).toNat : Int)) == 4) = false := by
          have : (fr.getD 0 0).toNat ≠ 4 := fun h => h4 (UInt8.toNat_inj.1 h)
          rw [beq_eq_false_iff_ne]
          omega
        generalize (fr.getD 0 0).toNat = v0 at *
        have hv3 : ((v0 : Int) != 4) = true := by
          have : ¬ (v0 : Int) = 4 := by simpa using hv
          simpa using this
        clear hno HO hv
        go_wp2_with fail
        exact HN.out
end Go.Proofs.YtdlaojpjkijccaaDoor
