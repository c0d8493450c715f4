/- Slicing of texts as a law of the walk: one way, whatever the capacity. -/
import Derived.Test.YtdlaojpjkijccaaDoorMore
import Derived.Lib.SlBytesConst
import Derived.OwnWalk
import Derived.Laws.OwnMore
set_option linter.unusedVariables false
set_option linter.unusedSimpArgs false
namespace Go.Proofs.YtdlaojpjkijccaaDoor
open Go.RowKit

theorem size_u8 : (Tryd.prog.info? 5).map (·.size) = some 1 := by kernel_rfl
theorem elem_bytes : Tryd.prog.elem 22 = 5 := by kernel_rfl
theorem run_sizeOf_u8 (w : World) : (sizeOf 5).run Tryd.prog w = .ok 1 w := by
  cases hq : Tryd.prog.info? 5 with
  | none => have := size_u8; simp [hq] at this
  | some i =>
    have h1 : i.size = 1 := by have := size_u8; simpa [hq] using this
    simp [sizeOf, typeInfo, hq, h1]
theorem bytes_und : Tryd.prog.underlying 22 = some (.slice (Tryd.prog.elem 22)) := by rw [elem_bytes]; exact Tryd.underlying22

theorem Bs.mid {w : World} {A : Option Addr} {n c : Nat} {xs : List UInt8} (h : Bs w A n c xs) (l m : Nat) (hl : l ≤ m) (hm : m ≤ n) :
    Bs w (if c = l then A else A.map (·.add (l * 1))) (m - l) (c - l) ((xs.take m).drop l) := by
  have h1 := h.sub m hm
  refine h1.from l hl (fun h => by rw [if_pos h]) (fun h => by rw [if_neg h, Nat.mul_one])

set_option maxRecDepth 100000 in
theorem wpList_slice_lh {w : World} {ops : Array Oper} {rest : List Oper} {a : Act} {Q : Exit → Act → World → Prop} {d : Option Tmp} {x y z : Operand} {ty : TypeId} {pos : String} {after : Array Edge}
    {A : Option Addr} {n c : Nat} {xs : List UInt8} (hx : a.eval x = .slice A n c) (hb : Bs w A n c xs) {l m : Nat} {k1 k2 : IntKind} (hy : a.eval y = .int k1 l) (hz : a.eval z = .int k2 m) (hl : l ≤ m) (hm : m ≤ n)
    (h : ∀ A', Bs w A' (m - l) (c - l) ((xs.take m).drop l) → wpList Tryd.prog ops Q rest (a.put d (.slice A' (m - l) (c - l))) w) :
    wpList Tryd.prog ops Q ({ dst := d, op := .slice 22 x (some y) (some z) none, type := ty, pos, after, guard := none } :: rest) a w := by
  have hle := Rv.le hb
  refine wpList_plain rfl fun K hK' => ?_
  unfold Oper.wp
  have e1 := run_slice_lh (P := Tryd.prog) (w := w) 22 A n c bytes_und k1 k2 l m (by omega) (by omega) (by omega)
  rw [elem_bytes, run_sizeOf_u8] at e1
  simp [execOp, hx, hy, hz, run_sliceAt_slice (h := bytes_und), e1, Result.andThen, sliced]
  exact hK' _ _ (h _ (by simpa using hb.mid l m hl hm))
set_option maxRecDepth 100000 in
theorem wpList_slice_l {w : World} {ops : Array Oper} {rest : List Oper} {a : Act} {Q : Exit → Act → World → Prop} {d : Option Tmp} {x y : Operand} {ty : TypeId} {pos : String} {after : Array Edge}
    {A : Option Addr} {n c : Nat} {xs : List UInt8} (hx : a.eval x = .slice A n c) (hb : Bs w A n c xs) {l : Nat} {k1 : IntKind} (hy : a.eval y = .int k1 l) (hl : l ≤ n)
    (h : ∀ A', Bs w A' (n - l) (c - l) (xs.drop l) → wpList Tryd.prog ops Q rest (a.put d (.slice A' (n - l) (c - l))) w) :
    wpList Tryd.prog ops Q ({ dst := d, op := .slice 22 x (some y) none none, type := ty, pos, after, guard := none } :: rest) a w := by
  have hle := Rv.le hb
  have hxl := hb.len
  refine wpList_plain rfl fun K hK' => ?_
  unfold Oper.wp
  have e1 := run_slice_l (P := Tryd.prog) (w := w) 22 A n c bytes_und k1 l (by omega) (by omega)
  rw [elem_bytes, run_sizeOf_u8] at e1
  simp [execOp, hx, hy, run_sliceAt_slice (h := bytes_und), e1, Result.andThen, sliced]
  refine hK' _ _ (h _ ?_)
  have := hb.mid l n hl (Nat.le_refl _)
  rw [List.take_of_length_le (by omega)] at this
  simpa using this
set_option maxRecDepth 100000 in
theorem wpList_slice_h {w : World} {ops : Array Oper} {rest : List Oper} {a : Act} {Q : Exit → Act → World → Prop} {d : Option Tmp} {x z : Operand} {ty : TypeId} {pos : String} {after : Array Edge}
    {A : Option Addr} {n c : Nat} {xs : List UInt8} (hx : a.eval x = .slice A n c) (hb : Bs w A n c xs) {m : Nat} {k2 : IntKind} (hz : a.eval z = .int k2 m) (hm : m ≤ n)
    (h : Bs w A m c (xs.take m) → wpList Tryd.prog ops Q rest (a.put d (.slice A m c)) w) :
    wpList Tryd.prog ops Q ({ dst := d, op := .slice 22 x none (some z) none, type := ty, pos, after, guard := none } :: rest) a w := by
  have hle := Rv.le hb
  refine wpList_plain rfl fun K hK' => ?_
  unfold Oper.wp
  have e1 := run_slice_h (P := Tryd.prog) (w := w) 22 A n c bytes_und k2 m (by omega) (by omega)
  rw [elem_bytes, run_sizeOf_u8] at e1
  simp [execOp, hx, hz, run_sliceAt_slice (h := bytes_und), e1, Result.andThen, sliced]
  refine hK' _ _ ?_
  have e2 : (if c = 0 then A else A.map (·.add 0)) = A := by
    split
    · rfl
    · cases A with
      | none => rfl
      | some ad => simp [Addr.add]
  simpa [e2] using h (hb.sub m hm)
/-- The bytes of a constant string, as []byte makes them: their block is marked. -/
theorem Bs.const (w : World) (xs : List UInt8) (cs : Array Value) (n : Nat) (fr : Nat × Nat) (hcs : cs = (xs.map B).toArray) (hl : n = xs.length) (hm : xs.length ≤ 1000000) :
    Bs (w.alloc (.cells cs 5 fr)) (some ⟨w.heap.size, 0, none⟩) n n xs := by
  subst hcs hl
  refine ⟨by simp, Nat.le_refl _, by unfold maxLen; omega, fun e => (by cases e), fun ad ha j u hu => ?_, fun u hu => ?_⟩
  · cases ha
    have e0 : (⟨w.heap.size, 0, none⟩ : Addr).add j = ⟨w.heap.size, j, none⟩ := by
      cases j with
      | zero => rfl
      | succ j => simp [Addr.add]
    rw [e0, cell_of_row _ w.heap.size j _ _ fr (heap_alloc_new w _)]
    simpa using hu
  · obtain ⟨x, _, rfl⟩ := List.mem_map.1 hu
    rfl
theorem kc (w : World) (C : Array Value) (n c : Nat) : (convert 22 22 (.slice (some ⟨w.heap.size, 0, none⟩) n c)).run Tryd.prog (w.alloc (.cells C 5)) = .ok (.slice (some ⟨w.heap.size, 0, none⟩) n c) (w.alloc (.cells C 5 (C.size, C.size + 1))) :=
  Lib.run_convert_bytes_const (P := Tryd.prog) w 22 5 C n c Tryd.underlying22 Tryd.underlying5
/-- make of n zero bytes. -/
theorem wpList_make_zeros {w : World} {ops : Array Oper} {rest : List Oper} {a : Act} {Q : Exit → Act → World → Prop} {d : Option Tmp} {l c : Operand} {ty : TypeId} {pos : String} {after : Array Edge}
    (base n : Nat) {L C : Int} {kl k2 : IntKind} (hl : a.eval l = .int kl L) (hc : a.eval c = .int k2 C) (hL : L = (n : Int)) (hC : C = (n : Int)) (hn : n ≤ 281474976710656) (hbase : base ≤ w.heap.size)
    (h : ∀ w', Ob w' base (some ⟨w.heap.size, 0, none⟩) n n (List.replicate n 0) → Ext w w' → wpList Tryd.prog ops Q rest (a.put d (.slice (some ⟨w.heap.size, 0, none⟩) n n)) w') :
    wpList Tryd.prog ops Q ({ dst := d, op := .makeSlice 22 l c, type := ty, pos, after, guard := none } :: rest) a w := by
  obtain ⟨i0, hi, hz0, hz1, hz2⟩ := info_parts info_u8
  refine wpList_make_full w rfl l c 22 rfl base 5 i0 (.int .u8 0) 1 Tryd.underlying22 hi hz0 hz1 kl k2 L C n hl hc hL hC (by rw [hz2]; omega) (by unfold maxLen; omega) hbase ?_
  intro w' ho hg
  refine h w' ?_ (Ext.of_grown hg)
  have e1 : (madeCells (Value.int .u8 0).cells (n * 1)).toList = (List.replicate n (0 : UInt8)).map B := by
    have e2 := toList_madeCells_one (.int .u8 0) (n * 1)
    rw [Nat.mul_one] at e2
    rw [Nat.mul_one]
    exact e2.trans (by simp [B])
  rw [e1] at ho
  refine ⟨ho, fun u hu => ?_⟩
  obtain ⟨x, _, rfl⟩ := List.mem_map.1 hu
  rfl
end Go.Proofs.YtdlaojpjkijccaaDoor
