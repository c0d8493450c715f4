/- Contracts of the package box: Mark and Check, of an ideal box. -/
import Derived.Test.YtdlaojpjkijccaaDoorOpenI
set_option linter.unusedVariables false
set_option linter.unusedSimpArgs false
namespace Go.Proofs.YtdlaojpjkijccaaDoor
open Go.RowKit

set_option maxRecDepth 100000 in
set_option maxHeartbeats 1000000 in
theorem markI_c (w : World) (b : Nat) (F : Nat → Prop) (x : BoxS) (hx : BoxAt w b F x) (hi : x.ideal = true) (hsn : x.marks.length ≤ 1000000000000) (k : Kid)
    (T : Option Addr) (tn tc : Nat) (tx : List UInt8) (ht : Bs w T tn tc tx) (htn : tn ≤ 1099511627776)
    (K : Ending → World → Prop)
    (hNo : ∀ w', askE k 0 = 1 → Ext w w' → K (.returned (.tuple #[.slice none 0 0, .int .i64 1])) w')
    (hOk : askE k 0 = 0 → ∀ A' c' F' w', Kp F w w' → BoxAt w' b F' { x with marks := x.marks ++ [(k, tx)] } → (∀ y, F' y → F y ∨ w.heap.size ≤ y) →
      Ob w' w.heap.size A' 32 c' (beN 8 x.marks.length ++ List.replicate 24 0) → K (.returned (.tuple #[.slice A' 32 c', .int .i64 0])) w') :
    Calls Tryd.prog 68 #[.pointer (some ⟨b, 0, none⟩), k.v, .slice T tn tc] w K := by
  have hbox := hx
  obtain ⟨sA, sn, sc, lA, ln, lc, mA, mn, mc, m, cnt, rep, hx⟩ := hx
  have hFw : ∀ y, F y → y < w.heap.size := fun y hy => (hx.clean y hy).2
  have htl := ht.len
  have ht1 := Rv.le ht
  have ht2 := Rv.cap ht
  unfold maxLen at ht2
  rw [Kid.v_eq]
  go_enter Tryd.func68, Tryd.ntmps68
  go_wp2_with (with_reducible refine stop_load 89 ?_)
  have e1 : ∀ o, Ext w (w.alloc o) := fun o => (Ext.refl w).alloc o
  have a1 : At (w.alloc (.cells (k.l.map I64).toArray 89)) w.heap.size (k.l.map I64).toArray := At.new w _ _
  replace e1 := e1 (.cells (k.l.map I64).toArray 89)
  change Stop (wpList _ _ _ _ _ (w.alloc (.cells (k.l.map I64).toArray 89)))
  generalize w.alloc (.cells (k.l.map I64).toArray 89) = w1 at a1 e1 ⊢
  refine Stop.go (wpList_load_arr (b := w.heap.size) (o := 0) rfl (vs := [.int .i64 k.label, .int .i64 k.epoch, .int .i64 k.life, .int .i64 k.num, .int .i64 k.side, .int .i64 k.peer]) a1.rangeAll _ Tryd.underlying89 rfl (by kernel_rfl) ?_)
  go_wp2_with fail
  refine ask_c w1 b _ (hx.cells.ext e1) rfl k 0 _ ?_
  intro w2 e2
  replace a1 := a1.ext e2
  replace e1 := e1.trans e2
  clear e2
  have c1 : w2.cell? ⟨b, 1, none⟩ = some (.bool true) := by rw [← hi]; exact (hx.cells.ext e1).cell rfl
  rcases askE_out k 0 with ⟨hE, hn1, hk1⟩ | hE
  · rw [hE] at hNo hOk ⊢
    have HO : Hid _ := hOk rfl
    clear hNo hOk
    have l0 : w2.cell? ⟨w.heap.size, 0, none⟩ = some (.int .i64 k.label) := a1.cell rfl
    have l1 : w2.cell? ⟨w.heap.size, 1, none⟩ = some (.int .i64 k.epoch) := a1.cell rfl
    have l2 : w2.cell? ⟨w.heap.size, 2, none⟩ = some (.int .i64 k.life) := a1.cell rfl
    have l3 : w2.cell? ⟨w.heap.size, 3, none⟩ = some (.int .i64 k.num) := a1.cell rfl
    have l4 : w2.cell? ⟨w.heap.size, 4, none⟩ = some (.int .i64 k.side) := a1.cell rfl
    have l5 : w2.cell? ⟨w.heap.size, 5, none⟩ = some (.int .i64 k.peer) := a1.cell rfl
    have hu0F : ¬ F w.heap.size := fun h => by have := hFw _ h; omega
    have ht9 := ht.ext e1
    replace hbox := hbox.ext e1
    clear hx ht a1
    go_wp2_with fail
    go_region_held3 (fun w' => w'.cell? ⟨w.heap.size, 0, none⟩ = some (.int .i64 k.label) ∧ w'.cell? ⟨w.heap.size, 1, none⟩ = some (.int .i64 k.epoch) ∧ w'.cell? ⟨w.heap.size, 2, none⟩ = some (.int .i64 k.life) ∧ w'.cell? ⟨w.heap.size, 3, none⟩ = some (.int .i64 k.num) ∧ w'.cell? ⟨w.heap.size, 4, none⟩ = some (.int .i64 k.side) ∧ w'.cell? ⟨w.heap.size, 5, none⟩ = some (.int .i64 k.peer))
      (first
        | exact ⟨l0, l1, l2, l3, l4, l5⟩
        | (go_split_ands; exact ⟨Kp.cell hk12 (by assumption) hu0F, Kp.cell hk12 (by assumption) hu0F, Kp.cell hk12 (by assumption) hu0F, Kp.cell hk12 (by assumption) hu0F, Kp.cell hk12 (by assumption) hu0F, Kp.cell hk12 (by assumption) hu0F⟩)
        | (go_split_ands; exact ⟨Ext.cell he10 (by assumption), Ext.cell he10 (by assumption), Ext.cell he10 (by assumption), Ext.cell he10 (by assumption), Ext.cell he10 (by assumption), Ext.cell he10 (by assumption)⟩))
      (first
        | (go_at_call 33; refine clone_c _ T tn tc tx (by omega) (ht9.ext (Ext.drew (Ext.refl _))) _ ?_; intro A10 c10 w10 he10 ho10)
        | (go_at_call 80; refine putM_c _ b F x (hbox.ext (Ext.trans (Ext.drew (Ext.refl _)) he10)) (k, tx) (A10, tn, c10) ho10.bs (by omega) 32 (by omega) (by omega) _ ?_; intro A12 c12 F12 w12 hk12 hb12 hF12 ho12))
    have hel : Ext w w10 := e1.trans (Ext.trans (Ext.drew (Ext.refl _)) he10)
    have hfin := HO.out A12 c12 F12 w12 ((hel.kp F).trans hk12 (fun _ _ h => h) (fun _ _ h => h)) hb12 (fun y hy => (hF12 y hy).imp id (fun h => by have := hel.size; omega)) (ho12.mono (by have := hel.size; omega))
    clear HO hbox ho10 ho12 hb12 hF12
    have HF : Hid _ := hfin
    clear hfin
    go_wp2_with fail
    exact HF.out
  · rw [hE] at hNo ⊢
    have HN : Hid _ := hNo w2 rfl e1
    clear hNo hOk
    go_wp2_with fail
    exact HN.out

/-- What an ideal box says of a mark. -/
def checkI (x : BoxS) (k : Kid) (tx mk : List UInt8) : Bool :=
  (askE k 0 == 0) && decide (mk.length = 32) && (match (findAt mk x.marks.length).bind fun i => x.marks[i]? with
    | some e => decide (e.1 = k) && decide (e.2 = tx)
    | none => false)

set_option maxRecDepth 100000 in
set_option maxHeartbeats 1000000 in
theorem checkI_c (w : World) (b : Nat) (F : Nat → Prop) (x : BoxS) (hx : BoxAt w b F x) (hi : x.ideal = true) (k : Kid)
    (A : Option Addr) (an ac : Nat) (tx : List UInt8) (ha : Bs w A an ac tx) (T : Option Addr) (tn tc : Nat) (mk : List UInt8) (ht : Bs w T tn tc mk)
    (K : Ending → World → Prop) (hK : ∀ w', Ext w w' → K (.returned (.bool (checkI x k tx mk))) w') :
    Calls Tryd.prog 70 #[.pointer (some ⟨b, 0, none⟩), k.v, .slice A an ac, .slice T tn tc] w K := by
  have hbox := hx
  obtain ⟨sA, sn, sc, lA, ln, lc, mA, mn, mc, m, cnt, rep, hx⟩ := hx
  have htl := ht.len
  have ht1 := Rv.le ht
  have ht2 := Rv.cap ht
  unfold maxLen at ht2
  have HO : Hid _ := hK
  clear hK
  rw [Kid.v_eq]
  go_enter Tryd.func70, Tryd.ntmps70
  go_wp2_with (with_reducible refine stop_load 89 ?_)
  have e1 : ∀ o, Ext w (w.alloc o) := fun o => (Ext.refl w).alloc o
  have a1 : At (w.alloc (.cells (k.l.map I64).toArray 89)) w.heap.size (k.l.map I64).toArray := At.new w _ _
  replace e1 := e1 (.cells (k.l.map I64).toArray 89)
  change Stop (wpList _ _ _ _ _ (w.alloc (.cells (k.l.map I64).toArray 89)))
  generalize w.alloc (.cells (k.l.map I64).toArray 89) = w1 at a1 e1 ⊢
  refine Stop.go (wpList_load_arr (b := w.heap.size) (o := 0) rfl (vs := [.int .i64 k.label, .int .i64 k.epoch, .int .i64 k.life, .int .i64 k.num, .int .i64 k.side, .int .i64 k.peer]) a1.rangeAll _ Tryd.underlying89 rfl (by kernel_rfl) ?_)
  go_wp2_with fail
  refine ask_c w1 b _ (hx.cells.ext e1) rfl k 0 _ ?_
  intro w2 e2
  replace a1 := a1.ext e2
  replace e1 := e1.trans e2
  clear e2
  have c1 : w2.cell? ⟨b, 1, none⟩ = some (.bool true) := by rw [← hi]; exact (hx.cells.ext e1).cell rfl
  rcases askE_out k 0 with ⟨hE, hn1, hk1⟩ | hE
  · rw [hE]
    by_cases h32 : tn = 32
    · subst h32
      have hRR : checkI x k tx mk = (match (findAt mk x.marks.length).bind fun i => x.marks[i]? with
        | some e => decide (e.1 = k) && decide (e.2 = tx)
        | none => false) := by simp [checkI, hE, htl]
      clear hx
      go_wp2_with fail
      refine findM_c w2 b F x (hbox.ext e1) T 32 tc mk (ht.ext e1) (by omega) _ ?_ ?_
      · intro i e vs w3 hf he e3 hr hvl
        obtain ⟨tt, hvs, htt⟩ := hr
        have hR : checkI x k tx mk = (decide (e.1 = k) && decide (e.2 = tx)) := by rw [hRR, hf]; simp [he]
        have e13 := e1.trans e3
        have a3 := a1.ext e3
        clear a1 c1 e1 hf he hRR
        have hone : ∀ v ∈ vs, v.oneCell' = true := by
          rw [hvs]
          intro v hv
          simp only [List.mem_append, List.mem_map, List.mem_cons, List.not_mem_nil, or_false] at hv
          rcases hv with ⟨y, _, rfl⟩ | rfl <;> rfl
        have HV : Hid _ := hvs
        have HR : Hid _ := hR
        clear hvs hR
        go_wp2_with (first | (with_reducible refine stop_load 89 ?_) | (with_reducible refine stop_store 160 ?_) | (with_reducible refine stop_bin 89 ?_))
        refine Stop.go (wpList_store_arr (b := w3.heap.size) (o := 0) rfl (vs := vs) rfl (cs := markZ) (At.new w3 _ _) (by simp [markZ, hvl]) (by rw [hvl]; kernel_rfl) hone ?_)
        intro w4 a4 hk4
        rw [splice_all _ _ (by simp [markZ, hvl])] at a4
        have e4 : Ext w w4 := (e13.alloc _).new1 hk4 e13.size
        have a5 := (a3.alloc _).kp1 hk4 (by have := a3.lt; omega)
        have htt4 := htt.ext (((Ext.refl w3).alloc _).new1 hk4 (Nat.le_refl _))
        have hv7 : vs = [.int .i64 e.1.label, .int .i64 e.1.epoch, .int .i64 e.1.life, .int .i64 e.1.num, .int .i64 e.1.side, .int .i64 e.1.peer, .slice tt.1 tt.2.1 tt.2.2] := HV.out
        clear HV
        subst hv7
        clear hone hvl
        have ha4 := ha.ext e4
        obtain ⟨xA, xl, xcp⟩ := tt
        dsimp only at htt4 a4
        clear htt
        have c6 : w4.cell? ⟨w3.heap.size, 6, none⟩ = some (.slice xA xl xcp) := a4.cell rfl
        have hne := eql_kid w4 e.1 k
        have HN : Hid _ := HO.out w4 e4
        clear HO
        go_wp2_with (first | (with_reducible refine stop_load 89 ?_) | (with_reducible refine stop_bin 89 ?_))
        refine Stop.go (wpList_free rfl (wpList_load_arr (b := w3.heap.size) (o := 0) rfl (vs := [.int .i64 e.1.label, .int .i64 e.1.epoch, .int .i64 e.1.life, .int .i64 e.1.num, .int .i64 e.1.side, .int .i64 e.1.peer]) (a4.range 0 _ rfl) _ Tryd.underlying89 rfl (by kernel_rfl) ?_))
        go_wp2_with (first | (with_reducible refine stop_load 89 ?_) | (with_reducible refine stop_bin 89 ?_))
        refine Stop.go (wpList_free rfl (wpList_load_arr (b := w.heap.size) (o := 0) rfl (vs := [.int .i64 k.label, .int .i64 k.epoch, .int .i64 k.life, .int .i64 k.num, .int .i64 k.side, .int .i64 k.peer]) a5.rangeAll _ Tryd.underlying89 rfl (by kernel_rfl) ?_))
        go_wp2_with (first | (with_reducible refine stop_load 89 ?_) | (with_reducible refine stop_bin 89 ?_))
        refine Stop.go (wpList_bin rfl rfl rfl guard_kid hne ?_)
        clear hne
        by_cases hu : e.1 = k
        · have hd : decide (e.1 = k) = true := by simp [hu]
          have HR2 : Hid (checkI x k tx mk = (e.2 == tx)) := by
            have : checkI x k tx mk = (e.2 == tx) := by
              rw [HR.out, hd, Bool.true_and]
              by_cases h : e.2 = tx <;> simp [h]
            exact this
          rw [hd]
          have HN2 : Hid (K (.returned (.bool (e.2 == tx))) w4) := by have := HN.out; rw [HR2.out] at this; exact this
          clear HR HR2 HN hu hd
          go_wp2_with fail
          refine equal_c w4 _ _ _ _ _ _ _ _ htt4 ha4 _ ?_
          go_wp2_with fail
          exact HN2.out
        · have hd : decide (e.1 = k) = false := by simp [hu]
          have HN2 : Hid (K (.returned (.bool false)) w4) := by have := HN.out; rw [HR.out, hd, Bool.false_and] at this; exact this
          rw [hd]
          clear HR HN hu hd
          go_wp2_with fail
          exact HN2.out
      · intro w3 hf e3
        have hR : checkI x k tx mk = false := by rw [hRR, hf]; rfl
        go_wp2_with (with_reducible refine stop_store 160 ?_)
        refine Stop.go (wpList_store_arr (b := w3.heap.size) (o := 0) rfl (vs := markZ) rfl (cs := markZ) (At.new w3 _ _) (by simp) (by kernel_rfl) markZ_one ?_)
        intro w4 a4 hk4
        have e4 : Ext w w4 := ((e1.trans e3).alloc _).new1 hk4 (e1.trans e3).size
        have HN : Hid (K (.returned (.bool false)) w4) := by have := HO.out w4 e4; rw [hR] at this; exact this
        clear HO hR hRR
        go_wp2_with fail
        exact HN.out
    · have hR : checkI x k tx mk = false := by simp [checkI, htl, h32]
      have HN : Hid (K (.returned (.bool false)) w2) := by have := HO.out w2 e1; rw [hR] at this; exact this
      have h32' : ¬ (tn : Int) = 32 := by omega
      clear HO hR
      go_wp2_with fail
      exact HN.out
  · rw [hE]
    have hR : checkI x k tx mk = false := by simp [checkI, hE]
    have HN : Hid (K (.returned (.bool false)) w2) := by have := HO.out w2 e1; rw [hR] at this; exact this
    clear HO hR
    go_wp2_with fail
    exact HN.out
end Go.Proofs.YtdlaojpjkijccaaDoor
