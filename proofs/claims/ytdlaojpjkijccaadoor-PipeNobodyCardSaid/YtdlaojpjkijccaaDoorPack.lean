/- Contracts of the package pack. -/
import Derived.Test.YtdlaojpjkijccaaDoorWords
set_option linter.unusedVariables false
set_option linter.unusedSimpArgs false
namespace Go.Proofs.YtdlaojpjkijccaaDoor
open Go.RowKit

/-- A number's n bytes, the highest first. -/
def beN (n x : Nat) : List UInt8 := (List.range n).map fun i => UInt8.ofNat (x / 2 ^ (8 * (n - 1 - i)))
/-- A number's n bytes, the lowest first. -/
def leN (n x : Nat) : List UInt8 := (List.range n).map fun i => UInt8.ofNat (x / 2 ^ (8 * i))
theorem B_ofNat (x : Nat) : B (UInt8.ofNat x) = .int .u8 ((x : Int) % 256) := by
  unfold B
  congr 1

set_option maxHeartbeats 400000 in
theorem high64_c (w : World) (A : Option Addr) (n c : Nat) (xs : List UInt8) (X : Int) (x k : Nat) (hX : X = x) (hk : k ≤ 8) (hn : n ≤ 1099511627776) (hb : Bs w A n c xs)
    (K : Ending → World → Prop) (hK : ∀ A' c' w', Ext w w' → Ob w' w.heap.size A' (n + k) c' (xs ++ beN k x) → K (.returned (.slice A' (n + k) c')) w') :
    Calls Tryd.prog 78 #[.slice A n c, .int .u64 X, .int .i64 k] w K := by
  subst hX
  go_enter Tryd.func78, Tryd.ntmps78
  go_wp2_with (with_reducible refine stop_append ?_)
  refine Stop.go (wpList_append_ob w.heap.size rfl (Ob.nil w w.heap.size) rfl hb (by omega) (Nat.le_refl _) ?_)
  intro A2 c2 w1 ho hk1
  simp only [List.nil_append, Nat.zero_add] at ho ⊢
  have he : Ext w w1 := hk1.mono (fun _ _ h => by cases h)
  clear hk1
  go_wp2_with (with_reducible refine stop_append ?_)
  go_loopw [7, 8] (fun v i wr => ∃ (j : Nat) (A3 : Option Addr) (c3 : Nat), j ≤ k ∧ i = .int .i64 ((k:Int) - 1 - j) ∧ v = .slice A3 (n+j) c3 ∧ Ext w wr ∧ Ob wr w.heap.size A3 (n+j) c3 (xs ++ (List.range j).map fun i => UInt8.ofNat (x / 2 ^ (8 * (k - 1 - i))))) (fun _ i _ => (intOf i + 1).toNat)
  case atStart => exact ⟨0, A2, c2, Nat.zero_le _, by simp, rfl, he, by simpa using ho⟩
  case round =>
    obtain ⟨j, A3, c3, hj, rfl, rfl, he, ho3⟩ := hrel
    by_cases hjk : j < k
    · go_wp2_with (with_reducible refine stop_append ?_)
      refine Stop.go (wpList_append_ob w.heap.size rfl (ho3.ext (Ext.alloc (Ext.refl wr) _)) rfl (Ob.lit wr w.heap.size [UInt8.ofNat (x / 2 ^ (8 * (k - 1 - j)))] _ 1 he.size (by simp [B_ofNat]) rfl (by simp)).bs (by omega) (by simp; have := he.size; omega) ?_)
      intro A4 c4 w4 ho4 hk4
      go_wp2_with (with_reducible refine stop_append ?_)
      go_roundw
      case rel =>
        refine ⟨j + 1, A4, c4, by omega, by go_num, rfl, ?_, ?_⟩
        · exact (Ext.alloc he _).new hk4 (fun x hx => (ho3.base hx).1)
        · rw [List.range_succ, List.map_append, ← List.append_assoc]
          exact ho4
      case measure => simp [intOf]; omega
    · obtain rfl : j = k := by omega
      go_wp2_with (with_reducible refine stop_append ?_)
      exact hK _ _ _ he ho3


set_option maxHeartbeats 400000 in
theorem high32_c (w : World) (A : Option Addr) (n c : Nat) (xs : List UInt8) (X : Int) (x k : Nat) (hX : X = x) (hk : k ≤ 4) (hn : n ≤ 1099511627776) (hb : Bs w A n c xs)
    (K : Ending → World → Prop) (hK : ∀ A' c' w', Ext w w' → Ob w' w.heap.size A' (n + k) c' (xs ++ beN k x) → K (.returned (.slice A' (n + k) c')) w') :
    Calls Tryd.prog 82 #[.slice A n c, .int .u32 X, .int .i64 k] w K := by
  subst hX
  go_enter Tryd.func82, Tryd.ntmps82
  go_wp2_with (with_reducible refine stop_append ?_)
  refine Stop.go (wpList_append_ob w.heap.size rfl (Ob.nil w w.heap.size) rfl hb (by omega) (Nat.le_refl _) ?_)
  intro A2 c2 w1 ho hk1
  simp only [List.nil_append, Nat.zero_add] at ho ⊢
  have he : Ext w w1 := hk1.mono (fun _ _ h => by cases h)
  clear hk1
  go_wp2_with (with_reducible refine stop_append ?_)
  go_loopw [7, 8] (fun v i wr => ∃ (j : Nat) (A3 : Option Addr) (c3 : Nat), j ≤ k ∧ i = .int .i64 ((k:Int) - 1 - j) ∧ v = .slice A3 (n+j) c3 ∧ Ext w wr ∧ Ob wr w.heap.size A3 (n+j) c3 (xs ++ (List.range j).map fun i => UInt8.ofNat (x / 2 ^ (8 * (k - 1 - i))))) (fun _ i _ => (intOf i + 1).toNat)
  case atStart => exact ⟨0, A2, c2, Nat.zero_le _, by simp, rfl, he, by simpa using ho⟩
  case round =>
    obtain ⟨j, A3, c3, hj, rfl, rfl, he, ho3⟩ := hrel
    by_cases hjk : j < k
    · go_wp2_with (with_reducible refine stop_append ?_)
      refine Stop.go (wpList_append_ob w.heap.size rfl (ho3.ext (Ext.alloc (Ext.refl wr) _)) rfl (Ob.lit wr w.heap.size [UInt8.ofNat (x / 2 ^ (8 * (k - 1 - j)))] _ 1 he.size (by simp [B_ofNat]) rfl (by simp)).bs (by omega) (by simp; have := he.size; omega) ?_)
      intro A4 c4 w4 ho4 hk4
      go_wp2_with (with_reducible refine stop_append ?_)
      go_roundw
      case rel =>
        refine ⟨j + 1, A4, c4, by omega, by go_num, rfl, ?_, ?_⟩
        · exact (Ext.alloc he _).new hk4 (fun x hx => (ho3.base hx).1)
        · rw [List.range_succ, List.map_append, ← List.append_assoc]
          exact ho4
      case measure => simp [intOf]; omega
    · obtain rfl : j = k := by omega
      go_wp2_with (with_reducible refine stop_append ?_)
      exact hK _ _ _ he ho3


set_option maxHeartbeats 400000 in
theorem low64_c (w : World) (A : Option Addr) (n c : Nat) (xs : List UInt8) (X : Int) (x k : Nat) (hX : X = x) (hk : k ≤ 8) (hn : n ≤ 1099511627776) (hb : Bs w A n c xs)
    (K : Ending → World → Prop) (hK : ∀ A' c' w', Ext w w' → Ob w' w.heap.size A' (n + k) c' (xs ++ leN k x) → K (.returned (.slice A' (n + k) c')) w') :
    Calls Tryd.prog 104 #[.slice A n c, .int .u64 X, .int .i64 k] w K := by
  subst hX
  go_enter Tryd.func104, Tryd.ntmps104
  go_wp2_with (with_reducible refine stop_append ?_)
  refine Stop.go (wpList_append_ob w.heap.size rfl (Ob.nil w w.heap.size) rfl hb (by omega) (Nat.le_refl _) ?_)
  intro A2 c2 w1 ho hk1
  simp only [List.nil_append, Nat.zero_add] at ho ⊢
  have he : Ext w w1 := hk1.mono (fun _ _ h => by cases h)
  clear hk1
  go_wp2_with (with_reducible refine stop_append ?_)
  go_loopw [7, 12] (fun v i wr => ∃ (j : Nat) (A3 : Option Addr) (c3 : Nat), j ≤ k ∧ i = .int .i64 j ∧ v = .slice A3 (n+j) c3 ∧ Ext w wr ∧ Ob wr w.heap.size A3 (n+j) c3 (xs ++ (List.range j).map fun i => UInt8.ofNat (x / 2 ^ (8 * i)))) (fun _ i _ => k - (intOf i).toNat)
  case atStart => exact ⟨0, A2, c2, Nat.zero_le _, by simp, rfl, he, by simpa using ho⟩
  case round =>
    obtain ⟨j, A3, c3, hj, rfl, rfl, he, ho3⟩ := hrel
    by_cases hjk : j < k
    · go_wp2_with (with_reducible refine stop_append ?_)
      refine Stop.go (wpList_append_ob w.heap.size rfl (ho3.ext (Ext.alloc (Ext.refl wr) _)) rfl (Ob.lit wr w.heap.size [UInt8.ofNat (x / 2 ^ (8 * j))] _ 1 he.size (by simp [B_ofNat]) rfl (by simp)).bs (by omega) (by simp; have := he.size; omega) ?_)
      intro A4 c4 w4 ho4 hk4
      go_wp2_with (with_reducible refine stop_append ?_)
      go_roundw
      case rel =>
        refine ⟨j + 1, A4, c4, by omega, by go_num, rfl, ?_, ?_⟩
        · exact (Ext.alloc he _).new hk4 (fun x hx => (ho3.base hx).1)
        · rw [List.range_succ, List.map_append, ← List.append_assoc]
          exact ho4
      case measure => simp [intOf]; omega
    · obtain rfl : j = k := by omega
      go_wp2_with (with_reducible refine stop_append ?_)
      exact hK _ _ _ he ho3

set_option maxHeartbeats 400000 in
theorem low32_c (w : World) (A : Option Addr) (n c : Nat) (xs : List UInt8) (X : Int) (x k : Nat) (hX : X = x) (hk : k ≤ 4) (hn : n ≤ 1099511627776) (hb : Bs w A n c xs)
    (K : Ending → World → Prop) (hK : ∀ A' c' w', Ext w w' → Ob w' w.heap.size A' (n + k) c' (xs ++ leN k x) → K (.returned (.slice A' (n + k) c')) w') :
    Calls Tryd.prog 112 #[.slice A n c, .int .u32 X, .int .i64 k] w K := by
  subst hX
  go_enter Tryd.func112, Tryd.ntmps112
  go_wp2_with (with_reducible refine stop_append ?_)
  refine Stop.go (wpList_append_ob w.heap.size rfl (Ob.nil w w.heap.size) rfl hb (by omega) (Nat.le_refl _) ?_)
  intro A2 c2 w1 ho hk1
  simp only [List.nil_append, Nat.zero_add] at ho ⊢
  have he : Ext w w1 := hk1.mono (fun _ _ h => by cases h)
  clear hk1
  go_wp2_with (with_reducible refine stop_append ?_)
  go_loopw [7, 12] (fun v i wr => ∃ (j : Nat) (A3 : Option Addr) (c3 : Nat), j ≤ k ∧ i = .int .i64 j ∧ v = .slice A3 (n+j) c3 ∧ Ext w wr ∧ Ob wr w.heap.size A3 (n+j) c3 (xs ++ (List.range j).map fun i => UInt8.ofNat (x / 2 ^ (8 * i)))) (fun _ i _ => k - (intOf i).toNat)
  case atStart => exact ⟨0, A2, c2, Nat.zero_le _, by simp, rfl, he, by simpa using ho⟩
  case round =>
    obtain ⟨j, A3, c3, hj, rfl, rfl, he, ho3⟩ := hrel
    by_cases hjk : j < k
    · go_wp2_with (with_reducible refine stop_append ?_)
      refine Stop.go (wpList_append_ob w.heap.size rfl (ho3.ext (Ext.alloc (Ext.refl wr) _)) rfl (Ob.lit wr w.heap.size [UInt8.ofNat (x / 2 ^ (8 * j))] _ 1 he.size (by simp [B_ofNat]) rfl (by simp)).bs (by omega) (by simp; have := he.size; omega) ?_)
      intro A4 c4 w4 ho4 hk4
      go_wp2_with (with_reducible refine stop_append ?_)
      go_roundw
      case rel =>
        refine ⟨j + 1, A4, c4, by omega, by go_num, rfl, ?_, ?_⟩
        · exact (Ext.alloc he _).new hk4 (fun x hx => (ho3.base hx).1)
        · rw [List.range_succ, List.map_append, ← List.append_assoc]
          exact ho4
      case measure => simp [intOf]; omega
    · obtain rfl : j = k := by omega
      go_wp2_with (with_reducible refine stop_append ?_)
      exact hK _ _ _ he ho3


theorem put32_c (w : World) (A : Option Addr) (n c : Nat) (xs : List UInt8) (X : Int) (x : Nat) (hX : X = x) (hn : n ≤ 1099511627776) (hb : Bs w A n c xs)
    (K : Ending → World → Prop) (hK : ∀ A' c' w', Ext w w' → Ob w' w.heap.size A' (n + 4) c' (xs ++ beN 4 x) → K (.returned (.slice A' (n + 4) c')) w') :
    Calls Tryd.prog 69 #[.slice A n c, .int .u32 X] w K := by
  subst hX
  go_enter Tryd.func69, Tryd.ntmps69
  go_wp2_with fail
  refine high32_c _ A n c xs _ x 4 rfl (by omega) hn hb _ ?_
  intro A' c' w' he ho
  go_wp2_with fail
  exact hK _ _ _ he ho

theorem put64_c (w : World) (A : Option Addr) (n c : Nat) (xs : List UInt8) (X : Int) (x : Nat) (hX : X = x) (hn : n ≤ 1099511627776) (hb : Bs w A n c xs)
    (K : Ending → World → Prop) (hK : ∀ A' c' w', Ext w w' → Ob w' w.heap.size A' (n + 8) c' (xs ++ beN 8 x) → K (.returned (.slice A' (n + 8) c')) w') :
    Calls Tryd.prog 63 #[.slice A n c, .int .u64 X] w K := by
  subst hX
  go_enter Tryd.func63, Tryd.ntmps63
  go_wp2_with fail
  refine high64_c _ A n c xs _ x 8 rfl (by omega) hn hb _ ?_
  intro A' c' w' he ho
  go_wp2_with fail
  exact hK _ _ _ he ho

theorem putLe32_c (w : World) (A : Option Addr) (n c : Nat) (xs : List UInt8) (X : Int) (x : Nat) (hX : X = x) (hn : n ≤ 1099511627776) (hb : Bs w A n c xs)
    (K : Ending → World → Prop) (hK : ∀ A' c' w', Ext w w' → Ob w' w.heap.size A' (n + 4) c' (xs ++ leN 4 x) → K (.returned (.slice A' (n + 4) c')) w') :
    Calls Tryd.prog 100 #[.slice A n c, .int .u32 X] w K := by
  subst hX
  go_enter Tryd.func100, Tryd.ntmps100
  go_wp2_with fail
  refine low32_c _ A n c xs _ x 4 rfl (by omega) hn hb _ ?_
  intro A' c' w' he ho
  go_wp2_with fail
  exact hK _ _ _ he ho

theorem putLe64_c (w : World) (A : Option Addr) (n c : Nat) (xs : List UInt8) (X : Int) (x : Nat) (hX : X = x) (hn : n ≤ 1099511627776) (hb : Bs w A n c xs)
    (K : Ending → World → Prop) (hK : ∀ A' c' w', Ext w w' → Ob w' w.heap.size A' (n + 8) c' (xs ++ leN 8 x) → K (.returned (.slice A' (n + 8) c')) w') :
    Calls Tryd.prog 88 #[.slice A n c, .int .u64 X] w K := by
  subst hX
  go_enter Tryd.func88, Tryd.ntmps88
  go_wp2_with fail
  refine low64_c _ A n c xs _ x 8 rfl (by omega) hn hb _ ?_
  intro A' c' w' he ho
  go_wp2_with fail
  exact hK _ _ _ he ho

theorem putNum_c (w : World) (A : Option Addr) (n c : Nat) (xs : List UInt8) (x : Int) (hx : x ≤ 9223372036854775807) (hn : n ≤ 1099511627776) (hb : Bs w A n c xs)
    (K : Ending → World → Prop) (hK : ∀ A' c' w', Ext w w' → Ob w' w.heap.size A' (n + 8) c' (xs ++ beN 8 x.toNat) → K (.returned (.slice A' (n + 8) c')) w') :
    Calls Tryd.prog 43 #[.slice A n c, .int .i64 x] w K := by
  go_enter Tryd.func43, Tryd.ntmps43
  go_wp2_with fail
  all_goals
    refine put64_c _ A n c xs _ x.toNat (by omega) hn hb _ ?_
    intro A' c' w' he ho
    go_wp2_with fail
    exact hK _ _ _ he ho

theorem put_c (w : World) (A : Option Addr) (n c : Nat) (xs : List UInt8) (A1 : Option Addr) (n1 c1 : Nat) (ys : List UInt8) (hn : n ≤ 1099511627776) (hb : Bs w A n c xs) (hn1 : n1 ≤ 1000000000) (hb1 : Bs w A1 n1 c1 ys)
    (K : Ending → World → Prop) (hK : ∀ A' c' w', Ext w w' → Ob w' w.heap.size A' (n + 4 + n1) c' (xs ++ beN 4 n1 ++ ys) → K (.returned (.slice A' (n + 4 + n1) c')) w') :
    Calls Tryd.prog 50 #[.slice A n c, .slice A1 n1 c1] w K := by
  go_enter Tryd.func50, Tryd.ntmps50
  go_wp2_with fail
  refine put32_c _ A n c xs _ n1 (by omega) hn hb _ ?_
  intro A' c' w' he ho
  go_wp2_with (with_reducible refine stop_append ?_)
  refine Stop.go (wpList_append_ob w.heap.size rfl ho rfl (hb1.ext he) (by omega) he.size ?_)
  intro A2 c2 w2 ho2 hk2
  go_wp2_with fail
  exact hK _ _ _ (Kp.new he hk2 (fun x hx => (ho.base hx).1)) ho2

/-- The number whose bytes stand from a place on, the lowest first; what is not there counts 0. -/
def leAt (xs : List UInt8) (at_ n : Nat) : Nat := ((List.range n).map fun i => (xs.getD (at_ + i) 0).toNat * 2 ^ (8 * i)).sum
theorem leAt_succ (xs : List UInt8) (a n : Nat) : leAt xs a (n + 1) = leAt xs a n + (xs.getD (a + n) 0).toNat * 2 ^ (8 * n) := by
  simp [leAt, List.range_succ]
theorem leAt_lt (xs : List UInt8) (a n : Nat) : leAt xs a n < 2 ^ (8 * n) := by
  induction n with
  | zero => simp [leAt]
  | succ n ih =>
    rw [leAt_succ]
    have h : (xs.getD (a + n) 0).toNat ≤ 255 := by have := (xs.getD (a + n) 0).toNat_lt; omega
    have h2 : (xs.getD (a + n) 0).toNat * 2 ^ (8 * n) ≤ 255 * 2 ^ (8 * n) := Nat.mul_le_mul_right _ h
    have h3 : 2 ^ (8 * (n + 1)) = 256 * 2 ^ (8 * n) := by rw [Nat.mul_add, Nat.pow_add, Nat.mul_comm]
    omega

theorem wrap_u64 (n : Int) : IntKind.u64.wrap n = n % 18446744073709551616 := by simp [IntKind.wrap, IntKind.bits, IntKind.signed]
theorem le_or (a b j : Nat) (ha : a < 2 ^ (8 * j)) (hb : b ≤ 255) (hj : j ≤ 7) :
    bits .or .u64 (a : Int) (IntKind.u64.wrap (IntKind.u64.wrap (b : Int) * 2 ^ (8 * j))) = ((a + b * 2 ^ (8 * j) : Nat) : Int) := by
  have h : b * 2 ^ (8 * j) < 18446744073709551616 := by
    calc b * 2 ^ (8 * j) ≤ 255 * 2 ^ (8 * 7) := Nat.mul_le_mul hb (Nat.pow_le_pow_right (by decide) (by omega))
      _ < 18446744073709551616 := by decide
  have h2 : 2 ^ (8 * j) ≤ 2 ^ (8 * 7) := Nat.pow_le_pow_right (by decide) (by omega)
  have e1 : IntKind.u64.wrap (b : Int) = (b : Int) := by rw [wrap_u64]; omega
  have e2 : IntKind.u64.wrap ((b : Int) * 2 ^ (8 * j)) = ((b * 2 ^ (8 * j) : Nat) : Int) := by
    have e : ((b : Int) * 2 ^ (8 * j)) = ((b * 2 ^ (8 * j) : Nat) : Int) := by simp
    rw [e, wrap_u64]
    omega
  rw [e1, e2, u64_or_nat _ _ (by omega) h, Nat.or_comm, nat_join (8 * j) _ _ (by simp) ha, Nat.add_comm]

set_option maxHeartbeats 400000 in
theorem take_c (w : World) (A : Option Addr) (n c : Nat) (xs : List UInt8) (at_ k : Nat) (hk : k ≤ 8) (ha : at_ ≤ 1099511627776) (hn : n ≤ 1099511627776) (hb : Bs w A n c xs)
    (K : Ending → World → Prop) (hK : K (.returned (.int .u64 (leAt xs at_ k))) w) :
    Calls Tryd.prog 113 #[.slice A n c, .int .i64 at_, .int .i64 k] w K := by
  go_enter Tryd.func113, Tryd.ntmps113
  go_wp2_with fail
  go_loop [7, 10] (fun v i => ∃ j : Nat, j ≤ k ∧ i = .int .i64 j ∧ v = .int .u64 (leAt xs at_ j)) (fun _ i => k - (intOf i).toNat)
  case atStart => exact ⟨0, Nat.zero_le _, by simp, by simp [leAt]⟩
  case round =>
    obtain ⟨j, hj, rfl, rfl⟩ := hrel
    by_cases hjk : j < k
    · by_cases hin : at_ + j < n
      · obtain ⟨ad, hA⟩ := hb.ex (by have := Rv.le hb; omega)
        subst hA
        have hcell := hb.cell rfl hin
        go_wp2_with fail
        go_round
        case rel => exact ⟨j + 1, by omega, by go_num, by rw [leAt_succ, ← le_or _ _ _ (leAt_lt xs at_ j) (by have := (xs.getD (at_ + j) 0).toNat_lt; omega) (by omega)]; rfl⟩
        case measure => simp [intOf]; omega
      · go_wp2_with fail
        go_round
        case rel => exact ⟨j + 1, by omega, by go_num, by
          have hl := hb.len
          rw [leAt_succ, List.getD_eq_getElem?_getD, List.getElem?_eq_none (by omega)]; simp⟩
        case measure => simp [intOf]; omega
    · obtain rfl : j = k := by omega
      go_wp2_with fail
      exact hK

theorem le32_c (w : World) (A : Option Addr) (n c : Nat) (xs : List UInt8) (X : Int) (at_ : Nat) (hX : X = at_) (ha : at_ ≤ 1099511627776) (hn : n ≤ 1099511627776) (hb : Bs w A n c xs)
    (K : Ending → World → Prop) (hK : K (.returned (.int .u32 (leAt xs at_ 4))) w) :
    Calls Tryd.prog 110 #[.slice A n c, .int .i64 X] w K := by
  subst hX
  have hlt : leAt xs at_ 4 < 4294967296 := leAt_lt xs at_ 4
  go_enter Tryd.func110, Tryd.ntmps110
  go_wp2_with fail
  refine take_c _ A n c xs at_ 4 (by omega) ha hn hb _ ?_
  go_wp2_with fail
  exact hK

theorem le64_c (w : World) (A : Option Addr) (n c : Nat) (xs : List UInt8) (X : Int) (at_ : Nat) (hX : X = at_) (ha : at_ ≤ 1099511627776) (hn : n ≤ 1099511627776) (hb : Bs w A n c xs)
    (K : Ending → World → Prop) (hK : K (.returned (.int .u64 (leAt xs at_ 8))) w) :
    Calls Tryd.prog 101 #[.slice A n c, .int .i64 X] w K := by
  subst hX
  go_enter Tryd.func101, Tryd.ntmps101
  go_wp2_with fail
  refine take_c _ A n c xs at_ 8 (by omega) ha hn hb _ ?_
  go_wp2_with fail
  exact hK

theorem take_flatten_succ (ls : List (List UInt8)) (j : Nat) (hj : j < ls.length) : (ls.take (j + 1)).flatten = (ls.take j).flatten ++ ls.getD j [] := by
  rw [List.take_succ_eq_append_getElem hj, List.flatten_append, List.getD_eq_getElem?_getD, List.getElem?_eq_getElem hj]
  simp
theorem take_flatten_le (ls : List (List UInt8)) (j : Nat) : (ls.take j).flatten.length ≤ ls.flatten.length := by
  have h : ls.flatten = (ls.take j).flatten ++ (ls.drop j).flatten := by rw [← List.flatten_append, List.take_append_drop]
  rw [h, List.length_append]
  omega

set_option maxHeartbeats 400000 in
theorem join_c (w : World) (A : Option Addr) (n c : Nat) (ls : List (List UInt8)) (hn : n ≤ 1099511627776) (hl : ls.flatten.length ≤ 1099511627776) (hb : Ls w A n c ls)
    (K : Ending → World → Prop) (hK : ∀ A' m c' w', Ext w w' → Ob w' w.heap.size A' m c' ls.flatten → K (.returned (.slice A' m c')) w') :
    Calls Tryd.prog 107 #[.slice A n c] w K := by
  go_enter Tryd.func107, Tryd.ntmps107
  go_wp2_with (with_reducible refine stop_append ?_)
  go_loopw [3, 8] (fun v i wr => ∃ (j : Nat) (A3 : Option Addr) (m c3 : Nat), j ≤ n ∧ i = .int .i64 j ∧ v = .slice A3 m c3 ∧ Ext w wr ∧ Ob wr w.heap.size A3 m c3 (ls.take j).flatten) (fun _ i _ => n - (intOf i).toNat)
  case atStart => exact ⟨0, none, 0, 0, Nat.zero_le _, by simp, rfl, Ext.refl w, by simpa using Ob.nil w _⟩
  case round =>
    obtain ⟨j, A3, m, c3, hj, rfl, rfl, he, ho⟩ := hrel
    by_cases hjn : j < n
    · obtain ⟨ad, hA⟩ := hb.ex (by have := hb.le; omega)
      subst hA
      obtain ⟨A', n', c', hc, hbs⟩ := hb.cell rfl hjn
      have hc2 := he.cell hc
      have hm := ho.len
      have hn' := hbs.len
      have hle := take_flatten_le ls (j + 1)
      rw [take_flatten_succ ls j (by rw [hb.len]; exact hjn), List.length_append] at hle
      go_wp2_with (with_reducible refine stop_append ?_)
      refine Stop.go (wpList_append_ob w.heap.size rfl ho rfl (hbs.ext he) (by omega) he.size ?_)
      intro A4 c4 w4 ho4 hk4
      go_wp2_with (with_reducible refine stop_append ?_)
      go_roundw
      case rel =>
        refine ⟨j + 1, A4, m + n', c4, by omega, by go_num, rfl, he.new hk4 (fun x hx => (ho.base hx).1), ?_⟩
        rw [take_flatten_succ ls j (by rw [hb.len]; exact hjn)]
        exact ho4
      case measure => simp [intOf]; omega
    · obtain rfl : j = n := by omega
      go_wp2_with (with_reducible refine stop_append ?_)
      refine hK _ _ _ _ he ?_
      rw [List.take_of_length_le (Nat.le_of_eq hb.len)] at ho
      exact ho

/-! ### the reader -/
/-- A reader that was made: its bytes, and its error. -/
def Rdr (w : World) (b : Nat) (xs : List UInt8) (e : Int) : Prop :=
  ∃ A n c, At w b #[.slice A n c, .int .i64 e, .bool true] ∧ Bs w A n c xs ∧ n ≤ 1099511627776 ∧ ∀ ad, A = some ad → ad.block ≠ b
theorem Rdr.ext {w w' : World} {b : Nat} {xs : List UInt8} {e : Int} (h : Rdr w b xs e) (k : Ext w w') : Rdr w' b xs e := by
  obtain ⟨A, n, c, h1, h2, h3⟩ := h
  exact ⟨A, n, c, h1.ext k, h2.ext k, h3⟩

theorem read_c (w : World) (A : Option Addr) (n c : Nat) (xs : List UInt8) (hn : n ≤ 1099511627776) (hb : Bs w A n c xs)
    (K : Ending → World → Prop) (hK : ∀ b w', Ext w w' → w.heap.size ≤ b → Rdr w' b xs 0 → K (.returned (.pointer (some ⟨b, 0, none⟩))) w') :
    Calls Tryd.prog 45 #[.slice A n c] w K := by
  go_enter Tryd.func45, Tryd.ntmps45
  go_wp2_with (with_reducible refine stop_append ?_)
  refine Stop.go (wpList_append_ob w.heap.size rfl (Ob.nil w w.heap.size) rfl hb (by omega) (Nat.le_refl _) ?_)
  intro A2 c2 w1 ho hk1
  simp only [List.nil_append, Nat.zero_add] at ho ⊢
  have he : Ext w w1 := hk1.mono (fun _ _ h => by cases h)
  clear hk1
  go_wp2_with fail
  refine hK _ _ (he.alloc _) he.size ⟨A2, n, c2, At.new _ _ _, (ho.ext (Ext.alloc (Ext.refl _) _)).bs, hn, ?_⟩
  intro ad ha e
  subst ha
  have := (ho.base (k := ad.block) rfl).2
  omega

theorem ok_c (w : World) (b : Nat) (xs : List UInt8) (e : Int) (hr : Rdr w b xs e)
    (K : Ending → World → Prop) (hK : K (.returned (.bool (e == 0))) w) :
    Calls Tryd.prog 66 #[.pointer (some ⟨b, 0, none⟩)] w K := by
  obtain ⟨A, n, c, h1, h2, h3⟩ := hr
  have c0 := h1.cell (j := 0) rfl
  have c1 := h1.cell (j := 1) rfl
  have c2 := h1.cell (j := 2) rfl
  go_enter Tryd.func66, Tryd.ntmps66
  go_wp2_with fail
  exact hK

end Go.Proofs.YtdlaojpjkijccaaDoor
