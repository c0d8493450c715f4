/- The statements' helpers keys, wide and awake of layer 23. -/
import Derived.Test.YtdlaojpjkijccaaDoorDuo
set_option linter.unusedVariables false
set_option linter.unusedSimpArgs false
namespace Go.Proofs.YtdlaojpjkijccaaDoor
open Go.RowKit

def K0 : KeysS := ⟨1, 2, 3⟩
theorem keys_c (w : World) (K : Ending → World → Prop) (hK : ∀ w', Ext w w' → K (.returned K0.v) w') :
    Calls Tryd.prog 13 #[] w K := by
  have HO : Hid _ := hK
  clear hK
  go_enter Tryd.func13, Tryd.ntmps13
  go_wp2_with fail
  refine ret_cell rfl rfl (At.new w #[.int .i64 1, .int .i64 2, .int .i64 3] 31) _ Tryd.underlying31 rfl (by kernel_rfl) rfl ?_
  exact HO.out _ ((Ext.refl w).alloc _)
def W0 : Value := .agg #[.int .i64 0, .int .i64 1000, .int .i64 0, .int .i64 0, .int .i64 0, .int .i64 1000, .int .i64 0]
theorem wide_c (w : World) (K : Ending → World → Prop) (hK : ∀ w', Ext w w' → K (.returned W0) w') :
    Calls Tryd.prog 32 #[] w K := by
  have HO : Hid _ := hK
  clear hK
  go_enter Tryd.func32, Tryd.ntmps32
  go_wp2_with fail
  refine ret_cell rfl rfl (At.new w #[.int .i64 0, .int .i64 1000, .int .i64 0, .int .i64 0, .int .i64 0, .int .i64 1000, .int .i64 0] 25) _ Tryd.underlying25 rfl (by kernel_rfl) rfl ?_
  exact HO.out _ ((Ext.refl w).alloc _)
/-- A new end. -/
def pipe0 (k : KeysS) (sd : Nat) (sq en : Int) : PipeS := ⟨k, sd, fitN sq, fitN en, ⟨0, 0, 0⟩, ⟨0, 0, 0⟩, false⟩
theorem Duo.new {w1 w2 w3 : World} {b : Nat} {F : Nat → Prop} {x : BoxS} {p q : Nat} {k : KeysS} {sq en : Int} {base : Nat} (hx : BoxAt w1 b F x) (hf : Fit x) (hF : ∀ y, F y → base ≤ y) (hb : base ≤ w1.heap.size)
    (e12 : Ext w1 w2) (hp : w1.heap.size ≤ p) (ap : PipeAt w2 p b (pipe0 k 0 sq en)) (e23 : Ext w2 w3) (hq : w2.heap.size ≤ q) (aq : PipeAt w3 q b (pipe0 k 1 sq en)) :
    Duo w3 b F x (fun i => if i = 0 then p else q) (fun i => pipe0 k i sq en) base := by
  have hs := e12.size
  have hpl := At.lt ap
  refine ⟨fun i hi => ?_, fun i hi => rfl, by simp; omega⟩
  rcases (by omega : i = 0 ∨ i = 1) with rfl | rfl
  · refine ⟨hx.ext (e12.trans e23), hf, At.ext ap e23, fun h => ?_, (by show 0 < 2; omega), Nat.le_trans hb hp, hF⟩
    have := hx.lt h
    simp at this
    omega
  · refine ⟨hx.ext (e12.trans e23), hf, aq, fun h => ?_, (by show 1 < 2; omega), ?_, hF⟩
    · have := hx.lt h
      simp at this
      omega
    · simp
      omega

/-! What comes of 'awake', reckoned. -/
def X0 : BoxS := ⟨[], true, [], [], []⟩
def awS (i : Nat) : PipeS := pipe0 K0 i 1000 1000
def awR : PipeR := pipeSeal (awS 0) X0 1 [104, 105]
def awS8 : Nat → PipeS := upd awS 0 awR.pipe
def awO : Int × List UInt8 × PipeS := pipeOpen (awS8 1) awR.box awR.text
def awS9 : Nat → PipeS := upd awS8 1 awO.2.2
def awO2 : Int × List UInt8 × PipeS := pipeOpen (awS9 1) awR.box awR.text
def awS10 : Nat → PipeS := upd awS9 1 awO2.2.2
theorem awR_err : awR.err = 0 := by decide +kernel
theorem awO_err : awO.1 = 0 := by decide +kernel
theorem awO_text : awO.2.1 = [104, 105] := by decide +kernel
theorem awO2_err : awO2.1 = 6 := by decide +kernel
theorem awU0 : (awS10 0).closed = false := by decide +kernel
theorem awU1 : (awS10 1).closed = true := by decide +kernel

set_option maxRecDepth 100000 in
set_option maxHeartbeats 1000000 in
theorem awake23_c (w : World) (K : Ending → World → Prop) (hK : ∀ w', Ext w w' → K (.returned (.bool true)) w') :
    Calls Tryd.prog 10 #[] w K := by
  have HO : Hid _ := hK
  clear hK
  have kc := kc
  go_enter Tryd.func10, Tryd.ntmps10
  go_wp2_with fail
  refine new_c w none 0 0 [] true (by omega) (Bs.nil w) _ ?_
  intro b F w1 e1 hx hF
  have hsz1 := e1.size
  go_wp2_with fail
  refine keys_c _ _ ?_
  intro w2 e2
  go_wp2_with fail
  refine wide_c _ _ ?_
  intro w3 e3
  go_wp2_with fail
  refine pipeNew_c _ b F _ (hx.ext (e2.trans e3)) K0 0 0 1000 0 0 0 1000 0 _ ?_ ?_
  · intro w' h
    rcases h with h | h | h
    · omega
    · omega
    · exact absurd h (by decide)
  intro w4 p sd hsd _ _ e4 hp0 hp
  obtain rfl : sd = 0 := by omega
  clear hsd
  go_wp2_with fail
  refine keys_c _ _ ?_
  intro w5 e5
  go_wp2_with fail
  refine wide_c _ _ ?_
  intro w6 e6
  go_wp2_with fail
  refine pipeNew_c _ b F _ (hx.ext (((e2.trans e3).trans e4).trans (e5.trans e6))) K0 1 0 1000 0 0 0 1000 0 _ ?_ ?_
  · intro w' h
    rcases h with h | h | h
    · omega
    · omega
    · exact absurd h (by decide)
  intro w7 q sd hsd _ _ e7 hq0 hq
  obtain rfl : sd = 1 := by omega
  clear hsd
  have hsz2 := (e2.trans e3).size
  have hsz5 := (e5.trans e6).size
  have D0 := Duo.new (k := K0) (sq := 1000) (en := 1000) hx rfl hF hsz1 ((e2.trans e3).trans e4) (by omega) hp ((e5.trans e6).trans e7) (by omega) hq
  have e17 := (((e1.trans (e2.trans e3)).trans e4).trans (e5.trans e6)).trans e7
  clear e2 e3 e4 e5 e6 e7 hx hF hp hq hp0 hq0 hsz1 hsz2 hsz5 e1
  have hB := e17.size
  obtain ⟨P, hP⟩ : ∃ P : Nat → Nat, P = fun i => if i = 0 then p else q := ⟨_, rfl⟩
  have hp : P 0 = p := by rw [hP]; rfl
  have hq : P 1 = q := by rw [hP]; rfl
  rw [← hP] at D0
  have D0 : Duo w7 b F X0 P awS w.heap.size := D0
  subst hp hq
  clear hP
  go_wp2_with fail
  refine (D0.ext ((Ext.refl w7).alloc _)).seal (i := 0) (by omega) (by simp; omega) (by decide) (Bs.const w7 [104, 105] _ 2 _ rfl rfl (by simp)) _ ?_
  intro A8 n8 c8 F8 w8 k8 D8 o8
  have D8 : Duo w8 b F8 awR.box P awS8 w.heap.size := D8
  have o8 : Bs w8 A8 n8 c8 awR.text := o8.bs
  rw [show (pipeSeal (awS 0) X0 1 [104, 105]).err = 0 from awR_err]
  have k08 : Kp (fun y => w.heap.size ≤ y) w w8 := ((e17.kp _).alloc _).trans k8 (fun _ _ h => h) (fun y hy h => h.elim (fun h => (D0.at_ 0 (by omega)).bF y h) (fun h => by have := (D0.at_ 0 (by omega)).bp; omega))
  have e08 : Ext w w8 := k08.mono (fun y hy h => by omega)
  clear k8 D0 e17 k08
  go_wp2_with fail
  refine D8.open (i := 1) (by omega) o8 _ ?_
  intro A9 n9 c9 w9 k9 D9 o9
  have D9 : Duo w9 b F8 awR.box P awS9 w.heap.size := D9
  have o9 : Bs w9 A9 n9 c9 awO.2.1 := o9
  rw [awO_text] at o9
  rw [show (pipeOpen (awS8 1) awR.box awR.text).1 = 0 from awO_err]
  have e89 : Ext w w9 := (e08.kp (fun y => w.heap.size ≤ y)).trans k9 (fun _ _ h => h) (fun y hy h => by have := (D8.at_ 1 (by omega)).bp; omega) |>.mono (fun y hy h => by omega)
  have o8 := D8.bs (i := 1) (by omega) (k9.mono fun _ _ h => Or.inr h) o8
  clear k9 D8
  go_wp2_with fail
  refine D9.open (i := 1) (by omega) o8 _ ?_
  intro A10 n10 c10 w10 k10 D10 o10
  have D10 : Duo w10 b F8 awR.box P awS10 w.heap.size := D10
  rw [show (pipeOpen (awS9 1) awR.box awR.text).1 = 6 from awO2_err]
  have e10 : Ext w w10 := (e89.kp (fun y => w.heap.size ≤ y)).trans k10 (fun _ _ h => h) (fun y hy h => by have := (D9.at_ 1 (by omega)).bp; omega) |>.mono (fun y hy h => by omega)
  have o9 := D9.bs (i := 1) (by omega) (k10.mono fun _ _ h => Or.inr h) o9
  clear k10 D9 o8 e89 e08 o10
  have u0 := (D10.at_ 0 (by omega)).p0
  have u1 := (D10.at_ 1 (by omega)).p0
  clear D10
  have HN : Hid _ := HO.out w10 e10
  clear HO kc
  go_wp2_with ((with_reducible refine stop_convert 22 9 ?_); refine Stop.go (wpList_free rfl (wpList_convert_bs 5 Tryd.underlying22 Tryd.underlying5 Tryd.underlying9 rfl o9 ?_)); rw [show Str [104, 105] = Value.string ⟨#[104, 105]⟩ from rfl])
  refine pipeUp_c _ _ _ _ u0 _ ?_
  rw [awU0]
  go_wp2_with fail
  refine pipeUp_c _ _ _ _ u1 _ ?_
  rw [awU1]
  go_wp2_with fail
  exact HN.out
end Go.Proofs.YtdlaojpjkijccaaDoor
