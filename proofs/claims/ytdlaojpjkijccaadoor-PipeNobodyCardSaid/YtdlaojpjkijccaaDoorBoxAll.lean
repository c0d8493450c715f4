/- Contracts of the package box, for whatever box: what the callers use. (So far of an ideal box: Fit.) -/
import Derived.Test.YtdlaojpjkijccaaDoorMarkI
set_option linter.unusedVariables false
set_option linter.unusedSimpArgs false
namespace Go.Proofs.YtdlaojpjkijccaaDoor
open Go.RowKit

/-- The boxes that the contracts speak of. -/
def Fit (x : BoxS) : Prop := x.ideal = true
def sealOut (x : BoxS) (k : Kid) (n : Int) (ad tx : List UInt8) : List UInt8 := if x.ideal then beN 8 x.seals.length ++ List.replicate (tx.length + 8) 0 else []
def sealNew (x : BoxS) (k : Kid) (n : Int) (ad tx : List UInt8) : BoxS := { x with seals := if x.ideal then x.seals ++ [((k, n), ad, tx)] else x.seals, us := (k, n) :: x.us }
def openOut (x : BoxS) (k : Kid) (n : Int) (ad hs : List UInt8) : Int × List UInt8 := if x.ideal then openI x k n ad hs else (0, [])
def markOut (x : BoxS) (k : Kid) (tx : List UInt8) : List UInt8 := if x.ideal then beN 8 x.marks.length ++ List.replicate 24 0 else []
def markNew (x : BoxS) (k : Kid) (tx : List UInt8) : BoxS := { x with marks := if x.ideal then x.marks ++ [(k, tx)] else x.marks }
def checkOut (x : BoxS) (k : Kid) (tx mk : List UInt8) : Bool := if x.ideal then checkI x k tx mk else false

theorem sealOut_len (x : BoxS) (hf : Fit x) (k : Kid) (n : Int) (ad tx : List UInt8) : (sealOut x k n ad tx).length = tx.length + 16 := by
  have hi : x.ideal = true := hf
  simp [sealOut, hi, beN_len]
  omega
theorem markOut_len (x : BoxS) (hf : Fit x) (k : Kid) (tx : List UInt8) : (markOut x k tx).length = 32 := by
  have hi : x.ideal = true := hf
  simp [markOut, hi, beN_len]

theorem seal_c (w : World) (b : Nat) (F : Nat → Prop) (x : BoxS) (hx : BoxAt w b F x) (hf : Fit x) (hsn : x.seals.length ≤ 1000000000000) (k : Kid) (n : Int)
    (A : Option Addr) (an ac : Nat) (ad : List UInt8) (ha : Bs w A an ac ad) (T : Option Addr) (tn tc : Nat) (tx : List UInt8) (ht : Bs w T tn tc tx)
    (K : Ending → World → Prop)
    (hNo : ∀ e w', sealE k n an tn = e → ¬ e = 0 → Ext w w' → K (.returned (.tuple #[.slice none 0 0, .int .i64 e])) w')
    (hOk : sealE k n an tn = 0 → ∀ A' c' F' w', Kp F w w' → BoxAt w' b F' (sealNew x k n ad tx) → (∀ y, F' y → F y ∨ w.heap.size ≤ y) →
      Ob w' w.heap.size A' (tn + 16) c' (sealOut x k n ad tx) → K (.returned (.tuple #[.slice A' (tn + 16) c', .int .i64 0])) w') :
    Calls Tryd.prog 61 #[.pointer (some ⟨b, 0, none⟩), k.v, .int .i64 n, .slice A an ac, .slice T tn tc] w K := by
  have hi : x.ideal = true := hf
  refine sealI_c w b F x hx hi hsn k n A an ac ad ha T tn tc tx ht K hNo ?_
  unfold sealNew sealOut at hOk
  rw [ht.len] at hOk
  simp only [hi, if_true] at hOk
  simpa [hi] using hOk

/-- What Seal tells: the error, the bytes, and the box behind it. -/
def sealRes (x : BoxS) (k : Kid) (n : Int) (ad tx : List UInt8) : Int × List UInt8 × BoxS :=
  if sealE k n ad.length tx.length = 0 then (0, sealOut x k n ad tx, sealNew x k n ad tx) else (sealE k n ad.length tx.length, [], x)
theorem seal_r (w : World) (b : Nat) (F : Nat → Prop) (x : BoxS) (hx : BoxAt w b F x) (hf : Fit x) (hsn : x.seals.length ≤ 1000000000000) (k : Kid) (n : Int)
    (A : Option Addr) (an ac : Nat) (ad : List UInt8) (ha : Bs w A an ac ad) (T : Option Addr) (tn tc : Nat) (tx : List UInt8) (ht : Bs w T tn tc tx)
    (K : Ending → World → Prop)
    (hK : ∀ A' n' c' F' w', Kp F w w' → BoxAt w' b F' (sealRes x k n ad tx).2.2 → (∀ y, F' y → F y ∨ w.heap.size ≤ y) →
      Ob w' w.heap.size A' n' c' (sealRes x k n ad tx).2.1 → K (.returned (.tuple #[.slice A' n' c', .int .i64 (sealRes x k n ad tx).1])) w') :
    Calls Tryd.prog 61 #[.pointer (some ⟨b, 0, none⟩), k.v, .int .i64 n, .slice A an ac, .slice T tn tc] w K := by
  refine seal_c w b F x hx hf hsn k n A an ac ad ha T tn tc tx ht K ?_ ?_
  · intro e w' he hne hext
    have h := hK none 0 0 F w' (hext.kp F)
    unfold sealRes at h
    rw [ha.len, ht.len, he, if_neg hne] at h
    exact h (hx.ext hext) (fun y hy => Or.inl hy) (Ob.nil _ _)
  · intro he A' c' F' w' h1 h2 h3 h4
    have h := hK A' (tn + 16) c' F' w' h1
    unfold sealRes at h
    rw [ha.len, ht.len, if_pos he] at h
    exact h h2 h3 h4

theorem open_c (w : World) (b : Nat) (F : Nat → Prop) (x : BoxS) (hx : BoxAt w b F x) (hf : Fit x) (k : Kid) (n : Int)
    (A : Option Addr) (an ac : Nat) (ad : List UInt8) (ha : Bs w A an ac ad) (T : Option Addr) (tn tc : Nat) (hs : List UInt8) (ht : Bs w T tn tc hs)
    (K : Ending → World → Prop)
    (hK : ∀ A' n' c' w', Ext w w' → Ob w' w.heap.size A' n' c' (openOut x k n ad hs).2 → K (.returned (.tuple #[.slice A' n' c', .int .i64 (openOut x k n ad hs).1])) w') :
    Calls Tryd.prog 34 #[.pointer (some ⟨b, 0, none⟩), k.v, .int .i64 n, .slice A an ac, .slice T tn tc] w K := by
  have hi : x.ideal = true := hf
  refine openI_c w b F x hx hi k n A an ac ad ha T tn tc hs ht K ?_
  unfold openOut at hK
  simpa only [hi, if_true] using hK

theorem mark_c (w : World) (b : Nat) (F : Nat → Prop) (x : BoxS) (hx : BoxAt w b F x) (hf : Fit x) (hsn : x.marks.length ≤ 1000000000000) (k : Kid)
    (T : Option Addr) (tn tc : Nat) (tx : List UInt8) (ht : Bs w T tn tc tx) (htn : tn ≤ 1099511627776)
    (K : Ending → World → Prop)
    (hNo : ∀ w', askE k 0 = 1 → Ext w w' → K (.returned (.tuple #[.slice none 0 0, .int .i64 1])) w')
    (hOk : askE k 0 = 0 → ∀ A' c' F' w', Kp F w w' → BoxAt w' b F' (markNew x k tx) → (∀ y, F' y → F y ∨ w.heap.size ≤ y) →
      Ob w' w.heap.size A' 32 c' (markOut x k tx) → K (.returned (.tuple #[.slice A' 32 c', .int .i64 0])) w') :
    Calls Tryd.prog 68 #[.pointer (some ⟨b, 0, none⟩), k.v, .slice T tn tc] w K := by
  have hi : x.ideal = true := hf
  refine markI_c w b F x hx hi hsn k T tn tc tx ht htn K hNo ?_
  unfold markNew markOut at hOk
  simp only [hi, if_true] at hOk
  simpa [hi] using hOk

def markRes (x : BoxS) (k : Kid) (tx : List UInt8) : Int × List UInt8 × BoxS := if askE k 0 = 0 then (0, markOut x k tx, markNew x k tx) else (1, [], x)
theorem mark_r (w : World) (b : Nat) (F : Nat → Prop) (x : BoxS) (hx : BoxAt w b F x) (hf : Fit x) (hsn : x.marks.length ≤ 1000000000000) (k : Kid)
    (T : Option Addr) (tn tc : Nat) (tx : List UInt8) (ht : Bs w T tn tc tx) (htn : tn ≤ 1099511627776)
    (K : Ending → World → Prop)
    (hK : ∀ A' n' c' F' w', Kp F w w' → BoxAt w' b F' (markRes x k tx).2.2 → (∀ y, F' y → F y ∨ w.heap.size ≤ y) →
      Ob w' w.heap.size A' n' c' (markRes x k tx).2.1 → K (.returned (.tuple #[.slice A' n' c', .int .i64 (markRes x k tx).1])) w') :
    Calls Tryd.prog 68 #[.pointer (some ⟨b, 0, none⟩), k.v, .slice T tn tc] w K := by
  refine mark_c w b F x hx hf hsn k T tn tc tx ht htn K ?_ ?_
  · intro w' he hext
    have h := hK none 0 0 F w' (hext.kp F)
    unfold markRes at h
    rw [he, if_neg (by omega)] at h
    exact h (hx.ext hext) (fun y hy => Or.inl hy) (Ob.nil _ _)
  · intro he A' c' F' w' h1 h2 h3 h4
    have h := hK A' 32 c' F' w' h1
    unfold markRes at h
    rw [if_pos he] at h
    exact h h2 h3 h4

theorem check_c (w : World) (b : Nat) (F : Nat → Prop) (x : BoxS) (hx : BoxAt w b F x) (hf : Fit x) (k : Kid)
    (A : Option Addr) (an ac : Nat) (tx : List UInt8) (ha : Bs w A an ac tx) (T : Option Addr) (tn tc : Nat) (mk : List UInt8) (ht : Bs w T tn tc mk)
    (K : Ending → World → Prop) (hK : ∀ w', Ext w w' → K (.returned (.bool (checkOut x k tx mk))) w') :
    Calls Tryd.prog 70 #[.pointer (some ⟨b, 0, none⟩), k.v, .slice A an ac, .slice T tn tc] w K := by
  have hi : x.ideal = true := hf
  refine checkI_c w b F x hx hi k A an ac tx ha T tn tc mk ht K ?_
  unfold checkOut at hK
  simpa only [hi, if_true] using hK

def Kid.zero : Kid := ⟨0, 0, 0, 0, 0, 0⟩
theorem Kid.zero_v : Kid.zero.v = .agg #[.int .i64 0, .int .i64 0, .int .i64 0, .int .i64 0, .int .i64 0, .int .i64 0] := rfl
/-- Open with a key that is none: it is asked whether a call made the box. -/
theorem openZero_c (w : World) (b : Nat) (F : Nat → Prop) (x : BoxS) (hx : BoxAt w b F x)
    (K : Ending → World → Prop) (hK : ∀ w', Ext w w' → K (.returned (.tuple #[.slice none 0 0, .int .i64 1])) w') :
    Calls Tryd.prog 34 #[.pointer (some ⟨b, 0, none⟩), Kid.zero.v, .int .i64 0, .slice none 0 0, .slice none 0 0] w K := by
  obtain ⟨sA, sn, sc, lA, ln, lc, mA, mn, mc, m, cnt, rep, hx⟩ := hx
  have hE : askE Kid.zero 0 = 1 := by decide
  rw [Kid.zero_v]
  go_enter Tryd.func34, Tryd.ntmps34
  go_wp2_with (with_reducible refine stop_load 89 ?_)
  have e1 := (Ext.refl w).alloc (.cells #[.int .i64 0, .int .i64 0, .int .i64 0, .int .i64 0, .int .i64 0, .int .i64 0] 89)
  refine Stop.go (wpList_load_arr (b := w.heap.size) (o := 0) rfl (vs := [.int .i64 0, .int .i64 0, .int .i64 0, .int .i64 0, .int .i64 0, .int .i64 0]) (At.new w _ _).rangeAll _ Tryd.underlying89 rfl (by kernel_rfl) ?_)
  go_wp2_with fail
  refine ask_c _ b _ (hx.cells.ext e1) rfl Kid.zero 0 _ ?_
  intro w2 e2
  rw [hE]
  have HN : Hid _ := hK w2 (e1.trans e2)
  clear hK
  go_wp2_with fail
  exact HN.out
theorem openNil_c (w : World) (K : Ending → World → Prop) (hK : ∀ w', Ext w w' → K (.returned (.tuple #[.slice none 0 0, .int .i64 2])) w') :
    Calls Tryd.prog 34 #[.pointer none, Kid.zero.v, .int .i64 0, .slice none 0 0, .slice none 0 0] w K := by
  rw [Kid.zero_v]
  go_enter Tryd.func34, Tryd.ntmps34
  go_wp2_with (with_reducible refine stop_load 89 ?_)
  have e1 := (Ext.refl w).alloc (.cells #[.int .i64 0, .int .i64 0, .int .i64 0, .int .i64 0, .int .i64 0, .int .i64 0] 89)
  refine Stop.go (wpList_load_arr (b := w.heap.size) (o := 0) rfl (vs := [.int .i64 0, .int .i64 0, .int .i64 0, .int .i64 0, .int .i64 0, .int .i64 0]) (At.new w _ _).rangeAll _ Tryd.underlying89 rfl (by kernel_rfl) ?_)
  go_wp2_with fail
  refine ask_nil _ Kid.zero 0 _ ?_
  intro w2 e2
  have HN : Hid _ := hK w2 (e1.trans e2)
  clear hK
  go_wp2_with fail
  exact HN.out
theorem openUnmade_c (w : World) (b : Nat) (cs : Array Value) (hat : At w b cs) (hm : cs[2]? = some (.bool false)) (K : Ending → World → Prop) (hK : ∀ w', Ext w w' → K (.returned (.tuple #[.slice none 0 0, .int .i64 2])) w') :
    Calls Tryd.prog 34 #[.pointer (some ⟨b, 0, none⟩), Kid.zero.v, .int .i64 0, .slice none 0 0, .slice none 0 0] w K := by
  rw [Kid.zero_v]
  go_enter Tryd.func34, Tryd.ntmps34
  go_wp2_with (with_reducible refine stop_load 89 ?_)
  have e1 := (Ext.refl w).alloc (.cells #[.int .i64 0, .int .i64 0, .int .i64 0, .int .i64 0, .int .i64 0, .int .i64 0] 89)
  refine Stop.go (wpList_load_arr (b := w.heap.size) (o := 0) rfl (vs := [.int .i64 0, .int .i64 0, .int .i64 0, .int .i64 0, .int .i64 0, .int .i64 0]) (At.new w _ _).rangeAll _ Tryd.underlying89 rfl (by kernel_rfl) ?_)
  go_wp2_with fail
  refine ask_unmade _ b cs (hat.ext e1) hm Kid.zero 0 _ ?_
  intro w2 e2
  have HN : Hid _ := hK w2 (e1.trans e2)
  clear hK
  go_wp2_with fail
  exact HN.out
end Go.Proofs.YtdlaojpjkijccaaDoor
