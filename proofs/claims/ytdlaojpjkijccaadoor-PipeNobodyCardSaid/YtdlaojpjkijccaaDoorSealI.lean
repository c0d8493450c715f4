/- Contracts of the package box: Seal, of an ideal box. -/
import Derived.Test.YtdlaojpjkijccaaDoorFind
import Derived.Deep.DeepCutAuto
import Derived.StillTailTactics
set_option linter.unusedVariables false
set_option linter.unusedSimpArgs false
namespace Go.Proofs.YtdlaojpjkijccaaDoor
open Go.RowKit

/-- Why a box does not seal, or 0. -/
def sealE (k : Kid) (n : Int) (an tn : Nat) : Int := if askE k n = 0 then (if an ≤ 65536 ∧ tn ≤ 65536 then 0 else 5) else askE k n
theorem askE_out (k : Kid) (n : Int) : askE k n = 0 ∧ okNum n = true ∧ k.ok = true ∨ askE k n = 1 := by
  unfold askE
  split
  · rename_i h; exact Or.inl ⟨rfl, h.1, h.2⟩
  · exact Or.inr rfl

theorem putS_x (w : World) (b : Nat) (F : Nat → Prop) (x : BoxS) (hx : BoxAt w b F x) (e : SealE) (ta tt : Option Addr × Nat × Nat) (ha : Bs w ta.1 ta.2.1 ta.2.2 e.2.1) (ht : Bs w tt.1 tt.2.1 tt.2.2 e.2.2)
    (hn : x.seals.length ≤ 1000000000000) (sz : Nat) (X : Int) (hX : X = sz) (h8 : 8 ≤ sz) (hsz : sz ≤ 1099511627776)
    (K : Ending → World → Prop) (hK : ∀ A' c' F' w', Kp F w w' → BoxAt w' b F' { x with seals := x.seals ++ [e] } → (∀ y, F' y → F y ∨ w.heap.size ≤ y) →
      Ob w' w.heap.size A' sz c' (beN 8 x.seals.length ++ List.replicate (sz - 8) 0) → K (.returned (.slice A' sz c')) w') :
    Calls Tryd.prog 76 #[.pointer (some ⟨b, 3, none⟩), .agg (e.1.1.l.map I64 ++ [I64 e.1.2] ++ [sv ta, sv tt]).toArray, .int .i64 X] w K := by
  subst hX
  exact putS_c w b F x hx e ta tt ha ht hn sz h8 hsz K hK

/-- One use more. -/
theorem BoxIn.used {w w' : World} {b : Nat} {F : Nat → Prop} {x : BoxS} {sA : Option Addr} {sn sc : Nat} {lA : Option Addr} {ln lc : Nat} {mA : Option Addr} {mn mc m : Nat} {cnt rep : Int}
    (hx : BoxIn w b F x sA sn sc lA ln lc mA mn mc m cnt rep) (kf : Kp (fun y => y = b ∨ y = m) w w') {cnt' rep' : Int} {u : Use}
    (hb : At w' b #[.slice sA sn sc, .bool x.ideal, .bool true, .slice lA ln lc, .slice mA mn mc, .map (some m), .int .i64 cnt', .int .i64 rep'])
    (hu : MapU w' m (u :: x.us)) (hr : x.us.Nodup → u ∉ x.us → rep' = 0) : BoxIn w' b F { x with us := u :: x.us } sA sn sc lA ln lc mA mn mc m cnt' rep' := by
  have hS : ∀ y, (y = b ∨ y = m) → NoB w y := by
    rintro y (rfl | rfl)
    · exact boxNB hx.cells
    · exact hx.uses.noB
  obtain ⟨rows0, _, hrow0, _, _⟩ := hx.seals
  obtain ⟨rows1, _, hrow1, _, _⟩ := hx.marks
  exact {
    cells := hb, secret := hx.secret.clean kf hS, short := hx.short
    seals := hx.seals.kp kf (fun y hy hs => by
      rcases hs with rfl | rfl
      · exact hx.bl hy
      · exact hrow0.neMap hx.uses hy) (fun _ _ h => h.kp kf hS)
    marks := hx.marks.kp kf (fun y hy hs => by
      rcases hs with rfl | rfl
      · exact hx.bk hy
      · exact hrow1.neMap hx.uses hy) (fun _ _ h => h.kp kf hS)
    uses := hu, once := fun hn => hr (List.nodup_cons.1 hn).2 (List.nodup_cons.1 hn).1
    fb := hx.fb, fm := hx.fm, fl := hx.fl, fk := hx.fk, bl := hx.bl, bk := hx.bk, lk := hx.lk
    clean := fun y hy => by
      by_cases h1 : y = b
      · subst h1; exact ⟨boxNB hb, hb.lt⟩
      · by_cases h2 : y = m
        · subst h2; exact ⟨hu.noB, hu.lt⟩
        · exact ⟨(hx.clean y hy).1.kp (hx.clean y hy).2 kf (fun h => by rcases h with h | h; exact h1 h; exact h2 h), Nat.lt_of_lt_of_le (hx.clean y hy).2 kf.size⟩ }

set_option maxRecDepth 100000 in
set_option maxHeartbeats 1000000 in
theorem sealI_c (w : World) (b : Nat) (F : Nat → Prop) (x : BoxS) (hx : BoxAt w b F x) (hi : x.ideal = true) (hsn : x.seals.length ≤ 1000000000000) (k : Kid) (n : Int)
    (A : Option Addr) (an ac : Nat) (ad : List UInt8) (ha : Bs w A an ac ad) (T : Option Addr) (tn tc : Nat) (tx : List UInt8) (ht : Bs w T tn tc tx)
    (K : Ending → World → Prop)
    (hNo : ∀ e w', sealE k n an tn = e → ¬ e = 0 → Ext w w' → K (.returned (.tuple #[.slice none 0 0, .int .i64 e])) w')
    (hOk : sealE k n an tn = 0 → ∀ A' c' F' w', Kp F w w' → BoxAt w' b F' { x with seals := x.seals ++ [((k, n), ad, tx)], us := (k, n) :: x.us } → (∀ y, F' y → F y ∨ w.heap.size ≤ y) →
      Ob w' w.heap.size A' (tn + 16) c' (beN 8 x.seals.length ++ List.replicate (tn + 8) 0) → K (.returned (.tuple #[.slice A' (tn + 16) c', .int .i64 0])) w') :
    Calls Tryd.prog 61 #[.pointer (some ⟨b, 0, none⟩), k.v, .int .i64 n, .slice A an ac, .slice T tn tc] w K := by
  obtain ⟨sA, sn, sc, lA, ln, lc, mA, mn, mc, m, cnt, rep, hx⟩ := hx
  have hFw : ∀ y, F y → y < w.heap.size := fun y hy => (hx.clean y hy).2
  have hal := ha.len
  have htl := ht.len
  have ha1 := Rv.le ha
  have ha2 := Rv.cap ha
  have ht1 := Rv.le ht
  have ht2 := Rv.cap ht
  unfold maxLen at ha2 ht2
  rw [Kid.v_eq]
  go_enter Tryd.func61, Tryd.ntmps61
  go_wp2_with (with_reducible refine stop_load 89 ?_)
  have e1 : ∀ o, Ext w (w.alloc o) := fun o => (Ext.refl w).alloc o
  have a1 : At (w.alloc (.cells (k.l.map I64).toArray 89)) w.heap.size (k.l.map I64).toArray := At.new w _ _
  replace e1 := e1 (.cells (k.l.map I64).toArray 89)
  change Stop (wpList _ _ _ _ _ (w.alloc (.cells (k.l.map I64).toArray 89)))
  generalize w.alloc (.cells (k.l.map I64).toArray 89) = w1 at a1 e1 ⊢
  refine Stop.go (wpList_load_arr (b := w.heap.size) (o := 0) rfl (vs := [.int .i64 k.label, .int .i64 k.epoch, .int .i64 k.life, .int .i64 k.num, .int .i64 k.side, .int .i64 k.peer]) a1.rangeAll _ Tryd.underlying89 rfl (by kernel_rfl) ?_)
  go_wp2_with fail
  refine ask_c w1 b _ (hx.cells.ext e1) rfl k n _ ?_
  intro w2 e2
  replace a1 := a1.ext e2
  replace e1 := e1.trans e2
  clear e2
  unfold sealE at hNo hOk
  rcases askE_out k n with ⟨hE, hn1, hk1⟩ | hE
  · rw [hE] at hNo hOk ⊢
    simp only [if_true] at hNo hOk
    by_cases hl : an ≤ 65536 ∧ tn ≤ 65536
    · simp only [hl, and_self, if_true, true_implies] at hOk
      clear hNo
      obtain ⟨hl1, hl2⟩ := hl
      go_wp2_with (with_reducible refine stop_load 89 ?_)
      refine Stop.go (wpList_load_arr (b := w.heap.size) (o := 0) rfl (vs := [.int .i64 k.label, .int .i64 k.epoch, .int .i64 k.life, .int .i64 k.num, .int .i64 k.side, .int .i64 k.peer]) a1.rangeAll _ Tryd.underlying89 rfl (by kernel_rfl) ?_)
      go_wp2_with (with_reducible refine stop_store 126 ?_)
      refine Stop.go (wpList_store_arr (b := w2.heap.size) (o := 0) rfl (vs := [.int .i64 k.label, .int .i64 k.epoch, .int .i64 k.life, .int .i64 k.num, .int .i64 k.side, .int .i64 k.peer, .int .i64 n]) rfl (cs := List.replicate 7 (.int .i64 0)) (At.new w2 _ _) (by simp) (by kernel_rfl) (by simp [Value.oneCell']) ?_)
      intro w3 a3 hk3
      rw [splice_all _ _ (by simp)] at a3
      have hs12 := e1.size
      have e3 : Ext w w3 := (e1.alloc _).new1 hk3 hs12
      clear a1 hk3 e1
      generalize hu0 : w2.heap.size = u0 at *
      clear hu0
      have b3 := hx.cells.ext e3
      have c6 := b3.cell (j := 6) rfl
      have f6 := b3.frozen 6
      have hbw := hx.cells.lt
      go_wp2_with fail
      obtain ⟨w4, hw4⟩ : ∃ w4, w3.setCell ⟨b, 6, none⟩ (.int .i64 (wrap64 (cnt + 1))) = w4 := ⟨_, rfl⟩
      have b4 := b3.set 6 (.int .i64 (wrap64 (cnt + 1)))
      have k34 : Kp (fun y => y = b) w3 w4 := hw4 ▸ Kp.set1 w3 ⟨b, 6, none⟩ _
      rw [hw4] at b4 ⊢
      clear hw4
      have k4 : Kp (fun y => y = b) w w4 := (e3.kp _).trans k34 (fun _ _ h => h) (fun _ _ h => h)
      have a4 := a3.kp1 k34 (by omega)
      generalize hc1 : wrap64 (cnt + 1) = cnt1 at *
      clear hc1 c6 f6 b3 k34 e3 a3
      have u4 := hx.uses.kp k4 (hx.cells.neMap hx.uses)
      obtain ⟨cu, hlk, hcu⟩ := run_lookup_use w4 m x.us (k, n) u4 hk1 hn1
      replace hlk := fun q => hlk (w4.drewN q) rfl
      rw [uv_eq] at hlk
      dsimp only at hlk
      have b5 : At w4 b #[.slice sA sn sc, .bool x.ideal, .bool true, .slice lA ln lc, .slice mA mn mc, .map (some m), .int .i64 cnt1, .int .i64 rep] := b4
      clear b4
      have c5 : w4.cell? ⟨b, 5, none⟩ = some (.map (some m)) := b5.cell rfl
      have l0 : w4.cell? ⟨u0, 0, none⟩ = some (.int .i64 k.label) := a4.cell rfl
      have l1 : w4.cell? ⟨u0, 1, none⟩ = some (.int .i64 k.epoch) := a4.cell rfl
      have l2 : w4.cell? ⟨u0, 2, none⟩ = some (.int .i64 k.life) := a4.cell rfl
      have l3 : w4.cell? ⟨u0, 3, none⟩ = some (.int .i64 k.num) := a4.cell rfl
      have l4 : w4.cell? ⟨u0, 4, none⟩ = some (.int .i64 k.side) := a4.cell rfl
      have l5 : w4.cell? ⟨u0, 5, none⟩ = some (.int .i64 k.peer) := a4.cell rfl
      have l6 : w4.cell? ⟨u0, 6, none⟩ = some (.int .i64 n) := a4.cell rfl
      go_wp2_with fail
      go_quiet (fail)
      obtain ⟨w5, hq, e5, e5', hh⟩ := drewN_abs w4 nq
      rw [hq]
      clear hq hlk c5 l0 l1 l2 l3 l4 l5 l6
      replace k4 := k4.ext e5
      replace u4 := u4.kp e5 (fun h => h)
      replace a4 := a4.ext e5
      replace b5 := b5.ext e5
      clear e5 e5' hh
      go_upto_if 47 with (fail)
      go_cut [] (fun wx => ∃ rep', (x.us.Nodup → (k, n) ∉ x.us → rep' = 0) ∧ At wx b #[.slice sA sn sc, .bool x.ideal, .bool true, .slice lA ln lc, .slice mA mn mc, .map (some m), .int .i64 cnt1, .int .i64 rep'] ∧ Kp (fun y => y = b) w5 wx)
      case first =>
        have c7 := b5.cell (j := 7) rfl
        have f7 := b5.frozen 7
        by_cases h0 : 0 < cu
        · go_wp2_with fail
          go_meet
          exact ⟨wrap64 (rep + 1), fun _ h => absurd (hcu h) (by omega), b5.set 7 _, Kp.set1 _ ⟨b, 7, none⟩ _⟩
        · go_wp2_with fail
          go_meet
          exact ⟨rep, fun hd _ => hx.once hd, b5, Kp.refl _ _⟩
      case rest =>
        obtain ⟨rep', hrep, b6, k56⟩ := hcut
        have hmb := hx.cells.neMap hx.uses
        have k6 : Kp (fun y => y = b) w wc := k4.trans k56 (fun _ _ h => h) (fun _ _ h => h)
        have u6 := u4.kp k56 hmb
        have a6 := a4.kp1 k56 (by omega)
        clear k4 u4 a4 b5 hcu k56
        obtain ⟨wd, hwd⟩ : ∃ wd, wd = wc := ⟨_, rfl⟩
        subst hwd
        go_upto_region 10 with (fail)
        go_cut [] (fun wx => MapU wx m ((k, n) :: x.us) ∧ Kp (fun y => y = m) wd wx)
        case first =>
          have c5 : wd.cell? ⟨b, 5, none⟩ = some (.map (some m)) := b6.cell rfl
          have l0 : wd.cell? ⟨u0, 0, none⟩ = some (.int .i64 k.label) := a6.cell rfl
          have l1 : wd.cell? ⟨u0, 1, none⟩ = some (.int .i64 k.epoch) := a6.cell rfl
          have l2 : wd.cell? ⟨u0, 2, none⟩ = some (.int .i64 k.life) := a6.cell rfl
          have l3 : wd.cell? ⟨u0, 3, none⟩ = some (.int .i64 k.num) := a6.cell rfl
          have l4 : wd.cell? ⟨u0, 4, none⟩ = some (.int .i64 k.side) := a6.cell rfl
          have l5 : wd.cell? ⟨u0, 5, none⟩ = some (.int .i64 k.peer) := a6.cell rfl
          have l6 : wd.cell? ⟨u0, 6, none⟩ = some (.int .i64 n) := a6.cell rfl
          obtain ⟨cv, hlk, _⟩ := run_lookup_use wd m x.us (k, n) u6 hk1 hn1
          have hlk1 := hlk wd.drew rfl
          have u7 : MapU wd.drew m x.us := u6.kp (Ext.drew (Ext.refl wd)) (fun h => h)
          obtain ⟨v0, st, wm, hme, hkm, hum, hst⟩ := run_entry_use wd.drew m x.us (k, n) u7 hk1 hn1
          obtain ⟨cw, hlk, _⟩ := run_lookup_use wm m _ (k, n) hum hk1 hn1
          have hlk2 := hlk wm rfl
          obtain ⟨wa, hsa, hka, hua⟩ := hst wm (IntKind.i64.wrap (cv + 1)) rfl
          obtain ⟨wb, hsb, hkb, hub⟩ := hst wm (IntKind.i64.wrap (cw + 1)) rfl
          rw [uv_eq] at hlk1 hlk2 hme
          dsimp only at hlk1 hlk2 hme
          simp only [goInt] at hsa hsb hme
          have hkm2 : Kp (fun y => y = m) wd wm := (Ext.drew (Ext.refl wd)).kp _ |>.trans hkm (fun _ _ h => h) (fun _ _ h => h)
          have hka2 := hkm2.trans hka (T := fun y => y = m) (fun _ _ h => h) (fun _ _ h => h)
          have hkb2 := hkm2.trans hkb (T := fun y => y = m) (fun _ _ h => h) (fun _ _ h => h)
          have HA : Hid (MapU wa m ((k, n) :: x.us) ∧ Kp (fun y => y = m) wd wa) := ⟨hua, hka2⟩
          have HB : Hid (MapU wb m ((k, n) :: x.us) ∧ Kp (fun y => y = m) wd wb) := ⟨hub, hkb2⟩
          clear hlk hum hst hkm hkm2 hka hka2 hkb hkb2 hua hub u7
          go_region_law (fail)
          all_goals
            go_wp2_with fail
            go_meet
            first | exact HA.out | exact HB.out
        case rest =>
          obtain ⟨u8, k8⟩ := hcut
          have hmb2 : b ≠ m := fun e => hmb e.symm
          have b8 := b6.kp k8 hmb2
          have a8 := a6.kp k8 (fun e => by have := hx.uses.lt; omega)
          have k9 : Kp (fun y => y = b ∨ y = m) w wc := k6.trans k8 (fun _ _ h => Or.inl h) (fun _ _ h => Or.inr h)
          clear k6 u6 b6 a6 k8
          have c1 : wc.cell? ⟨b, 1, none⟩ = some (.bool true) := by rw [← hi]; exact b8.cell rfl
          have hbox : BoxAt wc b F { x with us := (k, n) :: x.us } := ⟨sA, sn, sc, lA, ln, lc, mA, mn, mc, m, cnt1, rep', hx.used k9 b8 u8 hrep⟩
          have hSb : ∀ y, (y = b ∨ y = m) → NoB w y := by
            rintro y (rfl | rfl)
            · exact boxNB hx.cells
            · exact hx.uses.noB
          have ha9 := ha.clean k9 hSb
          have ht9 := ht.clean k9 hSb
          have kF : Kp F w wc := k9.mono (fun y _ h => by
            rcases h with rfl | rfl
            · exact hx.fb
            · exact hx.fm)
          have l0 : wc.cell? ⟨u0, 0, none⟩ = some (.int .i64 k.label) := a8.cell rfl
          have l1 : wc.cell? ⟨u0, 1, none⟩ = some (.int .i64 k.epoch) := a8.cell rfl
          have l2 : wc.cell? ⟨u0, 2, none⟩ = some (.int .i64 k.life) := a8.cell rfl
          have l3 : wc.cell? ⟨u0, 3, none⟩ = some (.int .i64 k.num) := a8.cell rfl
          have l4 : wc.cell? ⟨u0, 4, none⟩ = some (.int .i64 k.side) := a8.cell rfl
          have l5 : wc.cell? ⟨u0, 5, none⟩ = some (.int .i64 k.peer) := a8.cell rfl
          have l6 : wc.cell? ⟨u0, 6, none⟩ = some (.int .i64 n) := a8.cell rfl
          have hw16 : IntKind.i64.wrap ((tn : Int) + 16) = (tn : Int) + 16 := by rw [IntKind.wrap_i64]; omega
          have hsz : w.heap.size ≤ wc.heap.size := k9.size
          clear hx b8 hrep u8 k9 hSb ha ht a8 hmb hmb2
          have hu0F : ¬ F u0 := fun h => by have := hFw u0 h; omega
          go_wp2_with fail
          go_region_held3 (fun w' => w'.cell? ⟨u0, 0, none⟩ = some (.int .i64 k.label) ∧ w'.cell? ⟨u0, 1, none⟩ = some (.int .i64 k.epoch) ∧ w'.cell? ⟨u0, 2, none⟩ = some (.int .i64 k.life) ∧ w'.cell? ⟨u0, 3, none⟩ = some (.int .i64 k.num) ∧ w'.cell? ⟨u0, 4, none⟩ = some (.int .i64 k.side) ∧ w'.cell? ⟨u0, 5, none⟩ = some (.int .i64 k.peer) ∧ w'.cell? ⟨u0, 6, none⟩ = some (.int .i64 n))
            (first
              | exact ⟨l0, l1, l2, l3, l4, l5, l6⟩
              | (go_split_ands; exact ⟨Kp.cell hk12 (by assumption) hu0F, Kp.cell hk12 (by assumption) hu0F, Kp.cell hk12 (by assumption) hu0F, Kp.cell hk12 (by assumption) hu0F, Kp.cell hk12 (by assumption) hu0F, Kp.cell hk12 (by assumption) hu0F, Kp.cell hk12 (by assumption) hu0F⟩)
              | (go_split_ands; exact ⟨Ext.cell he11 (by assumption), Ext.cell he11 (by assumption), Ext.cell he11 (by assumption), Ext.cell he11 (by assumption), Ext.cell he11 (by assumption), Ext.cell he11 (by assumption), Ext.cell he11 (by assumption)⟩)
              | (go_split_ands; exact ⟨Ext.cell he10 (by assumption), Ext.cell he10 (by assumption), Ext.cell he10 (by assumption), Ext.cell he10 (by assumption), Ext.cell he10 (by assumption), Ext.cell he10 (by assumption), Ext.cell he10 (by assumption)⟩))
            (first
              | (go_at_call 33; refine clone_c _ A an ac ad (by omega) (ha9.ext (Ext.drew (Ext.refl _))) _ ?_; intro A10 c10 w10 he10 ho10)
              | (go_at_call 33; refine clone_c _ T tn tc tx (by omega) (ht9.ext (Ext.trans (Ext.drew (Ext.refl _)) he10)) _ ?_; intro A11 c11 w11 he11 ho11)
              | (go_at_call 76; refine putS_x _ b F { x with us := (k, n) :: x.us } (hbox.ext (Ext.trans (Ext.trans (Ext.drew (Ext.refl _)) he10) he11)) ((k, n), ad, tx) (A10, an, c10) (A11, tn, c11) (ho10.bs.ext he11) ho11.bs (by omega) (tn + 16) _ (by omega) (by omega) (by omega) _ ?_; intro A12 c12 F12 w12 hk12 hb12 hF12 ho12))
          have hel : Ext wc w11 := Ext.trans (Ext.trans (Ext.drew (Ext.refl _)) he10) he11
          have hfin := hOk A12 c12 F12 w12 ((kF.ext hel).trans hk12 (fun _ _ h => h) (fun _ _ h => h)) hb12 (fun y hy => (hF12 y hy).imp id (fun h => by have := hel.size; omega))
            (by
              have : tn + 16 - 8 = tn + 8 := by omega
              rw [this] at ho12
              exact ho12.mono (by have := hel.size; omega))
          clear hOk hbox ho10 ho11 ho12 hb12 hF12
          have HF : Hid _ := hfin
          clear hfin
          go_wp2_with fail
          exact HF.out
    · have hl' : ¬ (an ≤ 65536 ∧ tn ≤ 65536) := hl
      simp only [hl, if_false] at hNo
      clear hOk
      by_cases hl1 : an ≤ 65536
      · have hl2 : ¬ tn ≤ 65536 := fun h => hl ⟨hl1, h⟩
        have HN : Hid _ := hNo 5 w2 rfl (by omega) e1
        clear hNo hl hl'
        go_wp2_with fail
        exact HN.out
      · have HN : Hid _ := hNo 5 w2 rfl (by omega) e1
        clear hNo hl hl'
        go_wp2_with fail
        exact HN.out
  · rw [hE] at hNo ⊢
    have HN : Hid _ := hNo 1 w2 (by simp) (by omega) e1
    clear hNo hOk
    go_wp2_with fail
    exact HN.out
end Go.Proofs.YtdlaojpjkijccaaDoor
