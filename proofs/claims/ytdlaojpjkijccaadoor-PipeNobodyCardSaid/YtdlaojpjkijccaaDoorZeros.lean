/- append(b, make([]byte, n)...). -/
import Derived.Test.YtdlaojpjkijccaaDoorMore
set_option linter.unusedVariables false
set_option linter.unusedSimpArgs false
namespace Go.Proofs.YtdlaojpjkijccaaDoor
open Go.RowKit

theorem zc (n : Nat) : (Builtin.zeroCells #[Value.int .u8 0] n) = ((List.replicate n (0 : UInt8)).map B).toArray := by
  apply Array.ext'
  simp [Builtin.zeroCells]
  apply List.ext_getElem
  · simp
  · intro i h1 h2
    simp [Nat.mod_one, B]
theorem run_zero_u8 (w : World) : (zeroValue 5).run Tryd.prog w = .ok (.int .u8 0) w := by
  obtain ⟨i0, hi, hz0, hz1, hz2⟩ := info_parts info_u8
  simp [zeroValue, typeInfo, hi, hz0]
theorem run_append_zeros (w : World) (base : Nat) (ty : TypeId) {A : Option Addr} {n c : Nat} {xs : List UInt8} (hown : Ob w base A n c xs) (l : Nat) (hl : n + l ≤ 140737488355328) (hbase : base ≤ w.heap.size) :
    ∃ A2 c2 w', (Builtin.append_ #[22, 3] ty #[.slice A n c, .int .i64 l]).run Tryd.prog w = .ok (.slice A2 (n + l) c2) w' ∧ Ob w' base A2 (n + l) c2 (xs ++ List.replicate l 0) ∧ Kp (fun k => ablk A = some k) w w' := by
  obtain ⟨i0, hi, hz0, hz1, hz2⟩ := info_parts info_u8
  have ht := Tryd.underlying22
  have hint := Tryd.underlying3
  have hw : IntKind.i64.wrap (l : Int) = l := by rw [IntKind.wrap_i64]; omega
  have hl0 : ¬ (l : Int) < 0 := by omega
  have hl48 : ¬ (281474976710656 < l) := by omega
  have hl48i : ¬ (281474976710656 < (l : Int)) := by omega
  have hml : n + l ≤ maxLen := by unfold maxLen; omega
  have hlen := hown.len
  have hle : n ≤ c := Rv.le hown.bs
  by_cases hl' : l = 0
  · subst hl'
    have hw0 : IntKind.i64.wrap 0 = 0 := by decide
    refine ⟨A, c, w, ?_, by simpa using hown, Kp.refl _ _⟩
    cases A with
    | none => simp [Builtin.append_, run_underlying ht, run_underlying hint, sizeOf, typeInfo, hi, asInt, asIntOf, hz1, hz2, hw0, hle]
    | some ad => simp [Builtin.append_, run_underlying ht, run_underlying hint, sizeOf, typeInfo, hi, asInt, asIntOf, hz1, hz2, hw0, hle, storeCells]
  have hlen2 : xs.length = n * 1 := by omega
  by_cases hroom : n + l ≤ c
  · rcases hown.1.2 with ⟨e1, h0⟩ | ⟨g, cap, cur, e1, hb, hg, h2, h3, h4, h5⟩
    · obtain ⟨e1, e2, e3⟩ := (Value.slice.injEq ..).mp e1
      subst e1 e3 h0
      omega
    · obtain ⟨e1, e2, e3⟩ := (Value.slice.injEq ..).mp e1
      subst e1 e3
      have hst := run_storeCells_at Tryd.prog g n 5 ((List.replicate l (0 : UInt8)).map B) 0 cur w hg (by simp; simp at h4; omega) (by intro v hv; obtain ⟨x, _, rfl⟩ := List.mem_map.1 hv; rfl)
      simp only [Nat.add_zero] at hst
      have hadd : (⟨g, 0, none⟩ : Addr).add n = ⟨g, n, none⟩ := by unfold Addr.add; split <;> simp_all
      simp only [Nat.mul_one] at h5 h4
      refine ⟨some ⟨g, 0, none⟩, c, w.setRow g (List.take n cur.toList ++ (List.replicate l (0 : UInt8)).map B ++ List.drop (n + ((List.replicate l (0 : UInt8)).map B).length) cur.toList).toArray, ?_, ⟨⟨?_, Or.inr ⟨g, c, _, rfl, hb, setRow_heap w g cur _ 5 _ hg, hroom, h3, ?_, ?_⟩⟩, ?_⟩, (Kp.setRow w g _).mono (fun x _ hx => by rw [hx]; rfl)⟩
      · simp [Builtin.append_, run_underlying ht, run_underlying hint, sizeOf, typeInfo, hi, asInt, asIntOf, hz1, hz2, hw, hl0, hl48, hl48i, hl', run_zero_u8, Value.cells, zc, hroom, hadd]
        simp at hst
        simp [hst]
      · simp; omega
      · simp; omega
      · rw [h5]
        simp only [List.map_append]
        rw [Nat.mul_one]
        have : (List.map B xs ++ List.map B (List.replicate l 0)).length = n + l := by simp; omega
        rw [← this]
        exact List.take_left
      · intro u hu
        obtain ⟨x, _, rfl⟩ := List.mem_map.1 hu
        rfl
  · have hfit := growslice_fits (bytes := 1) (show c < n + l by omega) (by omega : (n + l) * 1 ≤ 140737488355328)
    have hfit' : ¬ (281474976710656 < Builtin.nextslicecap (n + l) c) := by omega
    have hge := grownCap_ge w (n + l) c 5
    have hcm := grownCap_le_maxLen w (n + l) c 5 hml
    have hold : (Builtin.firstCells 1 n (.slice A n c)).run Tryd.prog w.drew = .ok (xs.map B).toArray w.drew := by
      cases A with
      | none =>
        have h0 := Rv.nil hown.bs rfl
        have : xs = [] := List.eq_nil_of_length_eq_zero (by omega)
        subst this
        simp [Builtin.firstCells]
      | some ad => exact run_firstCells_some (P := Tryd.prog) w.drew 1 n ad n c (xs.map B) (by simp; omega) (by simpa using Rv.cell hown.bs ad rfl)
    have h63 : ¬ (9223372036854775807 < ((n : Int) + (l : Int))) := by omega
    refine ⟨some ⟨w.heap.size, 0, none⟩, grownCap w (n + l) c 5, w.drew.alloc (.cells ((xs.map B).toArray ++ ((List.replicate l (0 : UInt8)).map B).toArray ++ Builtin.zeroCells #[.int .u8 0] (grownCap w (n + l) c 5 - (n + l))) 5), ?_, ⟨⟨?_, Or.inr ⟨w.heap.size, _, _, rfl, hbase, heap_alloc_new w.drew _, hge, hcm, ?_, ?_⟩⟩, ?_⟩, Kp.alloc (Kp.drew (Kp.refl _ w)) _⟩
    · simp [Builtin.append_, run_underlying ht, run_underlying hint, sizeOf, typeInfo, hi, asInt, asIntOf, hz1, hz2, hw, hl0, hl48, hl48i, hl', run_zero_u8, Value.cells, hroom, hfit', h63, Question.forced, hold, newRow, grownCap]
      simp [zc]
    · simp; omega
    · simp only [Array.size_append, List.size_toArray, List.length_map, List.length_replicate, size_zeroCells]
      show xs.length + l + (grownCap w (n + l) c 5 - (n + l)) * 1 = grownCap w (n + l) c 5 * 1
      rw [Nat.mul_one, Nat.mul_one, hlen, Nat.add_sub_cancel' hge]
    · have : (List.map B xs ++ List.map B (List.replicate l 0)).length = (n + l) * 1 := by simp; omega
      simp only [Array.toList_append, List.map_append]
      rw [← this]
      exact List.take_left
    · intro u hu
      obtain ⟨x, _, rfl⟩ := List.mem_map.1 hu
      rfl

theorem wpList_append_zeros {w : World} {ops : Array Oper} {rest : List Oper} {a : Act} {Q : Exit → Act → World → Prop} {d : Option Tmp} {s x : Operand} {ty : TypeId} {pos : String} {after : Array Edge}
    (base : Nat) {A : Option Addr} {n c : Nat} {xs : List UInt8} (hs : a.eval s = .slice A n c) (hown : Ob w base A n c xs) (l : Nat) {X : Int} (hx : a.eval x = .int .i64 X) (hX : X = l) (hl : n + l ≤ 140737488355328) (hbase : base ≤ w.heap.size)
    (h : ∀ A2 c2 w', Ob w' base A2 (n + l) c2 (xs ++ List.replicate l 0) → Kp (fun k => ablk A = some k) w w' → wpList Tryd.prog ops Q rest (a.put d (.slice A2 (n + l) c2)) w') :
    wpList Tryd.prog ops Q ({ dst := d, op := .call { callee := .builtin .append, args := #[s, x], argTypes := #[22, 3] }, type := ty, pos, after, guard := none } :: rest) a w := by
  subst hX
  obtain ⟨A2, c2, w', hrun, h1, h2⟩ := run_append_zeros w base ty hown l hl hbase
  refine wpList_plain rfl fun K hK => ?_
  unfold Oper.wp
  simp [execOp, resolve, invoke, builtin, hs, hx, hrun, Result.andThen]
  exact hK _ _ (h A2 c2 w' h1 h2)
end Go.Proofs.YtdlaojpjkijccaaDoor
