/- Laws as steps of a region that draws: append of bytes. -/
import Derived.Test.YtdlaojpjkijccaaDoorMore
set_option linter.unusedVariables false
set_option linter.unusedSimpArgs false
namespace Go.Proofs.YtdlaojpjkijccaaDoor
open Go.RowKit

theorem run_append_ob (w : World) (ty : TypeId) (base : Nat) {A : Option Addr} {n c : Nat} {xs : List UInt8} (hown : Ob w base A n c xs)
    {A' : Option Addr} {m d' : Nat} {ys : List UInt8} (hy : Bs w A' m d' ys) (hlen : n + m ≤ 140737488355328) (hbase : base ≤ w.heap.size) :
    ∃ A2 c2 w', (Builtin.append_ #[22, 22] ty #[.slice A n c, .slice A' m d']).run Tryd.prog w = .ok (.slice A2 (n + m) c2) w' ∧ Ob w' base A2 (n + m) c2 (xs ++ ys) ∧ Kp (fun k => ablk A = some k) w w' := by
  obtain ⟨i0, hi, hz0, hz1, hz2⟩ := info_parts info_u8
  have ht := Tryd.underlying22
  have hml : n + m ≤ maxLen := by unfold maxLen; omega
  cases A' with
  | some ad =>
    obtain ⟨v', w', hr, h2, h3, _, _⟩ := run_append_own_at (P := Tryd.prog) w base 22 ty 5 i0 (.int .u8 0) 1 1 ht hi hz0 hz1 hz2 rfl (by omega) (.slice A n c) n (xs.map B) hown.1 ad m d' (ys.map B) (Rv.len hy) (Rv.cell hy ad rfl) (Rv.one hy) hml (by omega) hbase
    have hsl : ∃ A2 c2, v' = .slice A2 (n + m) c2 := by
      rcases h2.2 with ⟨rfl, h0⟩ | ⟨g, cap, cur, rfl, _⟩
      · exact ⟨none, 0, by rw [h0]⟩
      · exact ⟨_, cap, rfl⟩
    obtain ⟨A2, c2, rfl⟩ := hsl
    refine ⟨A2, c2, w', hr, ⟨by rw [List.map_append]; exact h2, fun u hu => ?_⟩, ?_⟩
    · obtain ⟨x, _, rfl⟩ := List.mem_map.1 hu
      rfl
    · rw [← ownBlock_ablk A n c]
      exact Kp.of_grown h3
  | none =>
    have hd : d' = 0 := Rv.nil hy rfl
    have hm : m = 0 := by have := Rv.le hy; omega
    subst hd hm
    have hu : ys = [] := List.eq_nil_of_length_eq_zero hy.len
    subst hu
    have hrun := run_append_owned_none (P := Tryd.prog) w base 22 ty 5 i0 1 ht hi (.slice A n c) n (xs.map B) hown.1
    exact ⟨A, c, w, by simpa using hrun, by simpa using hown, Kp.refl _ _⟩

theorem step_append_ob {ops : Array Oper} {o : Oper} {a : Act} {w : World} {K : Act → World → Prop} {Q : Exit → Act → World → Prop} {E : Prop} (hgd : o.guard = none) {s x : Operand}
    (ho : o.op = .call { callee := .builtin .append, args := #[s, x], argTypes := #[22, 22] }) (base : Nat)
    {A : Option Addr} {n c : Nat} {xs : List UInt8} (hs : a.eval s = .slice A n c) (hown : Ob w base A n c xs)
    {A' : Option Addr} {m d' : Nat} {ys : List UInt8} (hx : a.eval x = .slice A' m d') (hy : Bs w A' m d' ys) (hlen : n + m ≤ 140737488355328) (hbase : base ≤ w.heap.size)
    (h : ∀ A2 c2 w', Ob w' base A2 (n + m) c2 (xs ++ ys) → Kp (fun k => ablk A = some k) w w' → K (a.put o.dst (.slice A2 (n + m) c2)) w') :
    if Region.wanted o (yielded ops a.tmps) = true then Oper.wp Tryd.prog o a w K Q else E := by
  have hw : Region.wanted o (yielded ops a.tmps) = true := by simp [Region.wanted, hgd]
  rw [if_pos hw]
  obtain ⟨A2, c2, w', hrun, h1, h2⟩ := run_append_ob w o.type base hown hy hlen hbase
  unfold Oper.wp
  simp [execOp, ho, resolve, invoke, builtin, hs, hx, hrun, Result.andThen]
  exact h A2 c2 w' h1 h2
end Go.Proofs.YtdlaojpjkijccaaDoor
