/- Contracts of the package bytes. -/
import Derived.Test.YtdlaojpjkijccaaDoorMore
set_option linter.unusedVariables false
set_option linter.unusedSimpArgs false
namespace Go.Proofs.YtdlaojpjkijccaaDoor
open Go.RowKit
attribute [local go_sem] eql_nil_bytes

theorem clone_c (w : World) (A : Option Addr) (n c : Nat) (xs : List UInt8) (hn : n ≤ 1099511627776) (hb : Bs w A n c xs)
    (K : Ending → World → Prop) (hK : ∀ A' c' w', Ext w w' → Ob w' w.heap.size A' n c' xs → K (.returned (.slice A' n c')) w') :
    Calls Tryd.prog 33 #[.slice A n c] w K := by
  cases A with
  | none =>
    have h0 := Rv.nil hb rfl
    have h1 := Rv.le hb
    have hl := hb.len
    have hn : n = 0 := by omega
    subst hn
    have hx : xs = [] := List.eq_nil_of_length_eq_zero (by omega)
    subst hx
    go_enter Tryd.func33, Tryd.ntmps33
    go_wp2_with (with_reducible refine stop_append ?_)
    exact hK _ _ _ (Ext.refl w) (Ob.nil w w.heap.size)
  | some ad =>
    go_enter Tryd.func33, Tryd.ntmps33
    go_wp2_with (with_reducible refine stop_append ?_)
    refine Stop.go (wpList_append_ob w.heap.size rfl (Ob.lit w w.heap.size [] _ 0 (Nat.le_refl _) rfl rfl (by simp)) rfl (hb.ext ((Ext.refl w).alloc _)) (by omega) (by simp) ?_)
    intro A2 c2 w1 ho hk1
    simp only [List.nil_append, Nat.zero_add] at ho ⊢
    go_wp2_with fail
    exact hK _ _ _ (((Ext.refl w).alloc _).new hk1 (fun x hx => by have h : w.heap.size = x := Option.some.inj hx; omega)) ho

theorem equal_c (w : World) (A : Option Addr) (n c : Nat) (xs : List UInt8) (A' : Option Addr) (n' c' : Nat) (ys : List UInt8) (hb : Bs w A n c xs) (hb' : Bs w A' n' c' ys)
    (K : Ending → World → Prop) (hK : K (.returned (.bool (xs == ys))) w) :
    Calls Tryd.prog 16 #[.slice A n c, .slice A' n' c'] w K := by
  go_enter Tryd.func16, Tryd.ntmps16
  go_wp2_with (with_reducible refine stop_convert 22 9 ?_)
  refine Stop.go (wpList_convert_bs 5 Tryd.underlying22 Tryd.underlying5 Tryd.underlying9 rfl hb ?_)
  go_wp2_with (with_reducible refine stop_convert 22 9 ?_)
  refine Stop.go (wpList_convert_bs 5 Tryd.underlying22 Tryd.underlying5 Tryd.underlying9 rfl hb' ?_)
  unfold Str
  go_wp2_with fail
  exact hK
end Go.Proofs.YtdlaojpjkijccaaDoor
