/- Contracts of the package box: Open, of an ideal box. -/
import Derived.Test.YtdlaojpjkijccaaDoorSealI
set_option linter.unusedVariables false
set_option linter.unusedSimpArgs false
namespace Go.Proofs.YtdlaojpjkijccaaDoor
open Go.RowKit

/-- What an ideal box opens: the error, and the text. -/
def openI (x : BoxS) (k : Kid) (n : Int) (ad hs : List UInt8) : Int × List UInt8 :=
  if askE k n = 0 then
    if hs.length < 16 then (4, [])
    else if 65536 < ad.length ∨ 65552 < hs.length then (5, [])
    else match (findAt hs x.seals.length).bind fun i => x.seals[i]? with
      | some e => if e.1 = (k, n) ∧ e.2.1 = ad ∧ hs.length = e.2.2.length + 16 then (0, e.2.2) else (6, [])
      | none => (6, [])
  else (askE k n, [])
theorem findAt_lt {xs : List UInt8} {n i : Nat} (h : findAt xs n = some i) : i < n := by
  unfold findAt at h
  dsimp only at h
  split at h
  · rename_i hc
    have hi := rNum_nonneg 1099511627776 (xs, 0)
    simp only [Option.some.injEq, Bool.and_eq_true, decide_eq_true_eq] at h hc
    omega
  · cases h

set_option maxRecDepth 100000 in
set_option maxHeartbeats 1000000 in
theorem openI_c (w : World) (b : Nat) (F : Nat → Prop) (x : BoxS) (hx : BoxAt w b F x) (hi : x.ideal = true) (k : Kid) (n : Int)
    (A : Option Addr) (an ac : Nat) (ad : List UInt8) (ha : Bs w A an ac ad) (T : Option Addr) (tn tc : Nat) (hs : List UInt8) (ht : Bs w T tn tc hs)
    (K : Ending → World → Prop)
    (hK : ∀ A' n' c' w', Ext w w' → Ob w' w.heap.size A' n' c' (openI x k n ad hs).2 → K (.returned (.tuple #[.slice A' n' c', .int .i64 (openI x k n ad hs).1])) w') :
    Calls Tryd.prog 34 #[.pointer (some ⟨b, 0, none⟩), k.v, .int .i64 n, .slice A an ac, .slice T tn tc] w K := by
  have hbox := hx
  obtain ⟨sA, sn, sc, lA, ln, lc, mA, mn, mc, m, cnt, rep, hx⟩ := hx
  have hal := ha.len
  have htl := ht.len
  have ha1 := Rv.le ha
  have ha2 := Rv.cap ha
  have ht1 := Rv.le ht
  have ht2 := Rv.cap ht
  unfold maxLen at ha2 ht2
  have HO : Hid _ := hK
  clear hK
  rw [Kid.v_eq]
  go_enter Tryd.func34, Tryd.ntmps34
  go_wp2_with (with_reducible refine stop_load 89 ?_)
  have e1 : ∀ o, Ext w (w.alloc o) := fun o => (Ext.refl w).alloc o
  have a1 : At (w.alloc (.cells (k.l.map I64).toArray 89)) w.heap.size (k.l.map I64).toArray := At.new w _ _
  replace e1 := e1 (.cells (k.l.map I64).toArray 89)
  change Stop (wpList _ _ _ _ _ (w.alloc (.cells (k.l.map I64).toArray 89)))
  generalize w.alloc (.cells (k.l.map I64).toArray 89) = w1 at a1 e1 ⊢
  refine Stop.go (wpList_load_arr (b := w.heap.size) (o := 0) rfl (vs := [.int .i64 k.label, .int .i64 k.epoch, .int .i64 k.life, .int .i64 k.num, .int .i64 k.side, .int .i64 k.peer]) a1.rangeAll _ Tryd.underlying89 rfl (by kernel_rfl) ?_)
  go_wp2_with fail
  refine ask_c w1 b _ (hx.cells.ext e1) rfl k n _ ?_
  intro w2 e2
  replace a1 := a1.ext e2
  replace e1 := e1.trans e2
  clear e2
  have c1 : w2.cell? ⟨b, 1, none⟩ = some (.bool true) := by rw [← hi]; exact (hx.cells.ext e1).cell rfl
  rcases askE_out k n with ⟨hE, hn1, hk1⟩ | hE
  · rw [hE]
    by_cases h16 : tn < 16
    · have hR : openI x k n ad hs = (4, []) := by simp [openI, hE, htl, h16]
      have HN : Hid (K (.returned (.tuple #[.slice none 0 0, .int .i64 4])) w2) := by have := HO.out none 0 0 w2 e1; rw [hR] at this; exact this (Ob.nil _ _)
      clear HO hR
      go_wp2_with fail
      exact HN.out
    · by_cases hbig : 65536 < an ∨ 65552 < tn
      · have hR : openI x k n ad hs = (5, []) := by simp [openI, hE, htl, h16, hal, hbig]
        have HN : Hid (K (.returned (.tuple #[.slice none 0 0, .int .i64 5])) w2) := by have := HO.out none 0 0 w2 e1; rw [hR] at this; exact this (Ob.nil _ _)
        clear HO hR
        by_cases hb1 : 65536 < an
        · clear hbig
          go_wp2_with fail
          exact HN.out
        · have hb2 : 65552 < tn := by omega
          clear hbig
          go_wp2_with fail
          exact HN.out
      · have hb1 : ¬ 65536 < an := by omega
        have hb2 : ¬ 65552 < tn := by omega
        go_wp2_with fail
        refine findS_c w2 b F x (hbox.ext e1) T tn tc hs (ht.ext e1) (by omega) _ ?_ ?_
        · intro i e vs w3 hf he e3 hr hvl
          obtain ⟨ta, tt, hvs, hta, htt⟩ := hr
          have hR : openI x k n ad hs = if e.1 = (k, n) ∧ e.2.1 = ad ∧ tn = e.2.2.length + 16 then (0, e.2.2) else (6, []) := by simp [openI, hE, htl, h16, hal, hb1, hb2, hf, he]
          have e13 := e1.trans e3
          have a3 := a1.ext e3
          clear a1 c1 e1 hf he
          have hone : ∀ v ∈ vs, v.oneCell' = true := by
            rw [hvs]
            intro v hv
            simp only [List.mem_append, List.mem_map, List.mem_cons, List.not_mem_nil, or_false] at hv
            rcases hv with (⟨y, _, rfl⟩ | rfl) | rfl | rfl <;> rfl
          have HV : Hid _ := hvs
          have HR : Hid _ := hR
          clear hvs hR
          go_wp2_with (first | (with_reducible refine stop_load 89 ?_) | (with_reducible refine stop_store 128 ?_) | (with_reducible refine stop_load 126 ?_) | (with_reducible refine stop_bin 126 ?_))
          refine Stop.go (wpList_store_arr (b := w3.heap.size) (o := 0) rfl (vs := vs) rfl (cs := sealZ) (At.new w3 _ _) (by simp [sealZ, hvl]) (by rw [hvl]; kernel_rfl) hone ?_)
          intro w4 a4 hk4
          rw [splice_all _ _ (by simp [sealZ, hvl])] at a4
          have e4 : Ext w w4 := (e13.alloc _).new1 hk4 e13.size
          have a5 := (a3.alloc _).kp1 hk4 (by have := a3.lt; omega)
          have hta4 := hta.ext (((Ext.refl w3).alloc _).new1 hk4 (Nat.le_refl _))
          have htt4 := htt.ext (((Ext.refl w3).alloc _).new1 hk4 (Nat.le_refl _))
          have hv9 : vs = [.int .i64 e.1.1.label, .int .i64 e.1.1.epoch, .int .i64 e.1.1.life, .int .i64 e.1.1.num, .int .i64 e.1.1.side, .int .i64 e.1.1.peer, .int .i64 e.1.2, .slice ta.1 ta.2.1 ta.2.2, .slice tt.1 tt.2.1 tt.2.2] := HV.out
          clear HV
          subst hv9
          have hR := HR.out
          clear HR hone hvl
          have ha4 := ha.ext e4
          obtain ⟨tA, tl, tcp⟩ := ta
          obtain ⟨xA, xl, xcp⟩ := tt
          dsimp only at hta4 htt4 a4
          clear hta htt
          have c7 : w4.cell? ⟨w3.heap.size, 7, none⟩ = some (.slice tA tl tcp) := a4.cell rfl
          have c8 : w4.cell? ⟨w3.heap.size, 8, none⟩ = some (.slice xA xl xcp) := a4.cell rfl
          have hxl := htt4.len
          have hxc1 := Rv.le htt4
          have hxc2 := Rv.cap htt4
          unfold maxLen at hxc2
          have hne := neq_use w4 e.1 (k, n)
          by_cases hu : e.1 = (k, n)
          · have hd : decide (e.1 = (k, n)) = true := by simp [hu]
            rw [hd] at hne
            simp only [hu, true_and] at hR
            have HR : Hid _ := hR
            have HU : Hid _ := hu
            clear hR hu hd
            go_wp2_with (first | (with_reducible refine stop_load 89 ?_) | (with_reducible refine stop_load 126 ?_) | (with_reducible refine stop_bin 126 ?_))
            refine Stop.go (wpList_free rfl (wpList_load_arr (b := w3.heap.size) (o := 0) rfl (vs := [.int .i64 e.1.1.label, .int .i64 e.1.1.epoch, .int .i64 e.1.1.life, .int .i64 e.1.1.num, .int .i64 e.1.1.side, .int .i64 e.1.1.peer, .int .i64 e.1.2]) (a4.range 0 _ rfl) _ Tryd.underlying126 rfl (by kernel_rfl) ?_))
            go_wp2_with (first | (with_reducible refine stop_load 89 ?_) | (with_reducible refine stop_load 126 ?_) | (with_reducible refine stop_bin 126 ?_))
            refine Stop.go (wpList_free rfl (wpList_load_arr (b := w.heap.size) (o := 0) rfl (vs := [.int .i64 k.label, .int .i64 k.epoch, .int .i64 k.life, .int .i64 k.num, .int .i64 k.side, .int .i64 k.peer]) a5.rangeAll _ Tryd.underlying89 rfl (by kernel_rfl) ?_))
            go_wp2_with (first | (with_reducible refine stop_load 89 ?_) | (with_reducible refine stop_load 126 ?_) | (with_reducible refine stop_bin 126 ?_))
            refine Stop.go (wpList_bin rfl rfl rfl guard_use hne ?_)
            clear hne
            go_wp2_with fail
            refine equal_c w4 _ _ _ _ _ _ _ _ hta4 ha4 _ ?_
            have hR := HR.out
            by_cases hq : e.2.1 = ad
            · have hq2 : (e.2.1 == ad) = true := by simp [hq]
              rw [hq2]
              simp only [hq, true_and, hxl] at hR
              by_cases hlen : tn = xl + 16
              · simp only [hlen, if_true] at hR
                clear HR hq hq2 HU
                have HR : Hid _ := hR
                clear hR
                go_wp2_with fail
                refine clone_c w4 _ _ _ _ (by omega) htt4 _ ?_
                intro A6 c6 w6 e6 ho6
                have HN : Hid (K (.returned (.tuple #[.slice A6 xl c6, .int .i64 0])) w6) := by
                  have := HO.out A6 xl c6 w6 (e4.trans e6)
                  rw [HR.out] at this
                  exact this (ho6.mono e4.size)
                clear HO HR
                go_wp2_with fail
                exact HN.out
              · simp only [hlen, if_false] at hR
                have HN : Hid (K (.returned (.tuple #[.slice none 0 0, .int .i64 6])) w4) := by have := HO.out none 0 0 w4 e4; rw [hR] at this; exact this (Ob.nil _ _)
                clear HO hR HR hq hq2 HU
                have hlen2 : ((tn : Int) != wrap64 ((xl : Int) + 16)) = true := by
                  simp only [wrap64, bne_iff_ne, ne_eq]
                  omega
                go_wp2_with fail
                exact HN.out
            · have hq2 : (e.2.1 == ad) = false := by simpa using hq
              rw [hq2]
              simp only [hq, false_and, if_false] at hR
              have HN : Hid (K (.returned (.tuple #[.slice none 0 0, .int .i64 6])) w4) := by have := HO.out none 0 0 w4 e4; rw [hR] at this; exact this (Ob.nil _ _)
              clear HO hR HR hq hq2 HU
              go_wp2_with fail
              exact HN.out
          · have hd : decide (e.1 = (k, n)) = false := by simp [hu]
            rw [hd] at hne
            simp only [hu, false_and, if_false] at hR
            have HN : Hid (K (.returned (.tuple #[.slice none 0 0, .int .i64 6])) w4) := by have := HO.out none 0 0 w4 e4; rw [hR] at this; exact this (Ob.nil _ _)
            clear HO hR hu hd
            go_wp2_with (first | (with_reducible refine stop_load 89 ?_) | (with_reducible refine stop_load 126 ?_) | (with_reducible refine stop_bin 126 ?_))
            refine Stop.go (wpList_free rfl (wpList_load_arr (b := w3.heap.size) (o := 0) rfl (vs := [.int .i64 e.1.1.label, .int .i64 e.1.1.epoch, .int .i64 e.1.1.life, .int .i64 e.1.1.num, .int .i64 e.1.1.side, .int .i64 e.1.1.peer, .int .i64 e.1.2]) (a4.range 0 _ rfl) _ Tryd.underlying126 rfl (by kernel_rfl) ?_))
            go_wp2_with (first | (with_reducible refine stop_load 89 ?_) | (with_reducible refine stop_load 126 ?_) | (with_reducible refine stop_bin 126 ?_))
            refine Stop.go (wpList_free rfl (wpList_load_arr (b := w.heap.size) (o := 0) rfl (vs := [.int .i64 k.label, .int .i64 k.epoch, .int .i64 k.life, .int .i64 k.num, .int .i64 k.side, .int .i64 k.peer]) a5.rangeAll _ Tryd.underlying89 rfl (by kernel_rfl) ?_))
            go_wp2_with (first | (with_reducible refine stop_load 89 ?_) | (with_reducible refine stop_load 126 ?_) | (with_reducible refine stop_bin 126 ?_))
            refine Stop.go (wpList_bin rfl rfl rfl guard_use hne ?_)
            clear hne
            go_wp2_with fail
            exact HN.out
        · intro w3 hf e3
          have hR : openI x k n ad hs = (6, []) := by simp [openI, hE, htl, h16, hal, hb1, hb2, hf]
          go_wp2_with (first | (with_reducible refine stop_store 128 ?_) | (with_reducible refine stop_load 126 ?_))
          refine Stop.go (wpList_store_arr (b := w3.heap.size) (o := 0) rfl (vs := sealZ) rfl (cs := sealZ) (At.new w3 _ _) (by simp) (by kernel_rfl) sealZ_one ?_)
          intro w4 a4 hk4
          have e4 : Ext w w4 := ((e1.trans e3).alloc _).new1 hk4 (e1.trans e3).size
          have HN : Hid (K (.returned (.tuple #[.slice none 0 0, .int .i64 6])) w4) := by have := HO.out none 0 0 w4 e4; rw [hR] at this; exact this (Ob.nil _ _)
          clear HO hR
          go_wp2_with fail
          exact HN.out
  · rw [hE]
    have hR : openI x k n ad hs = (1, []) := by simp [openI, hE]
    have HN : Hid (K (.returned (.tuple #[.slice none 0 0, .int .i64 1])) w2) := by have := HO.out none 0 0 w2 e1; rw [hR] at this; exact this (Ob.nil _ _)
    clear HO hR
    go_wp2_with fail
    exact HN.out
end Go.Proofs.YtdlaojpjkijccaaDoor
