/- Contracts of pack's reader. -/
import Derived.Test.YtdlaojpjkijccaaDoorPack
set_option linter.unusedVariables false
set_option linter.unusedSimpArgs false
namespace Go.Proofs.YtdlaojpjkijccaaDoor
open Go.RowKit

/-- A reader's state: what is left, and the error. -/
abbrev RS := List UInt8 × Int
def beVal (l : List UInt8) : Nat := l.foldl (fun a c => a * 256 + c.toNat) 0
def rNext (n : Nat) (s : RS) : RS := if s.2 = 0 then (if n ≤ s.1.length then (s.1.drop n, 0) else ([], 4)) else s
def rGot (n : Nat) (s : RS) : List UInt8 := if s.2 = 0 ∧ n ≤ s.1.length then s.1.take n else []
def rNumber (n : Nat) (s : RS) : Nat := beVal (rGot n s)
def rNumOk (most : Int) (s : RS) : Bool := (rNext 8 s).2 == 0 && decide (rNumber 8 s < 9223372036854775808) && decide ((rNumber 8 s : Int) ≤ most)
def rNum (most : Int) (s : RS) : Int := if rNumOk most s then (rNumber 8 s : Int) else 0
def rNumS (most : Int) (s : RS) : RS := if (rNext 8 s).2 = 0 then (if rNumOk most s then rNext 8 s else ([], 5)) else rNext 8 s
def rBytes (most : Int) (s : RS) : List UInt8 := if (rNext 4 s).2 = 0 ∧ (rNumber 4 s : Int) ≤ most then rGot (rNumber 4 s) (rNext 4 s) else []
def rBytesS (most : Int) (s : RS) : RS := if (rNext 4 s).2 = 0 then (if (rNumber 4 s : Int) ≤ most then rNext (rNumber 4 s) (rNext 4 s) else ([], 5)) else rNext 4 s
def rRest (s : RS) : List UInt8 := rGot s.1.length s
def rRestS (s : RS) : RS := rNext s.1.length s
def rEnd (s : RS) : Int := if s.2 = 0 ∧ 0 < s.1.length then 3 else s.2

theorem Bs.kpb {w w' : World} {A : Option Addr} {n c : Nat} {xs : List UInt8} {b : Nat} (h : Bs w A n c xs) (k : Kp (fun x => x = b) w w') (hb : ∀ ad, A = some ad → ad.block ≠ b) : Bs w' A n c xs := h.kp k (fun ad ha _ => hb ad ha)
theorem Rdr.kpAt {w w' : World} {b b' : Nat} {xs : List UInt8} {e : Int} {cs : Array Value} (h : Rdr w b xs e) (k : Kp (fun x => x = b') w w') (hat : At w b' cs) (hne : ∀ v ∈ cs, ∀ u, v ≠ B u) (hb : b ≠ b') : Rdr w' b xs e := by
  obtain ⟨A, n, c, h1, h2, h3⟩ := h
  exact ⟨A, n, c, h1.kp1 k hb, h2.kpAt k hat hne, h3⟩
theorem Rdr.lt {w : World} {b : Nat} {xs : List UInt8} {e : Int} (h : Rdr w b xs e) : b < w.heap.size := by
  obtain ⟨A, n, c, h1, _⟩ := h
  exact h1.lt
theorem Rdr.len {w : World} {b : Nat} {xs : List UInt8} {e : Int} (h : Rdr w b xs e) : xs.length ≤ 1099511627776 := by
  obtain ⟨A, n, c, _, h2, h3, _⟩ := h
  have := h2.len
  omega

theorem fail_c (w : World) (b : Nat) (xs : List UInt8) (e f : Int) (hr : Rdr w b xs e)
    (K : Ending → World → Prop) (hK : ∀ w', Kp (fun x => x = b) w w' → Rdr w' b [] f → K (.returned (.tuple #[])) w') :
    Calls Tryd.prog 67 #[.pointer (some ⟨b, 0, none⟩), .int .i64 f] w K := by
  obtain ⟨A, n, c, h1, h2, h3, h4⟩ := hr
  have c0 := h1.cell (j := 0) rfl
  have c1 := h1.cell (j := 1) rfl
  have f0 := h1.frozen 0
  have f1 := h1.frozen 1
  go_enter Tryd.func67, Tryd.ntmps67
  go_wp2_with fail
  go_end0
  refine hK _ (((Kp.refl (fun x => x = b) w).setCell (p := ⟨b, 1, none⟩) (Or.inl rfl) _).setCell (p := ⟨b, 0, none⟩) (Or.inl rfl) _) ⟨none, 0, 0, (h1.set 1 _).set 0 _, Bs.nil _, by omega, fun _ h => (by cases h)⟩

theorem next_ok (w : World) (b : Nat) (xs : List UInt8) (n : Nat) (hn : n ≤ xs.length) (hr : Rdr w b xs 0)
    (K : Ending → World → Prop) (hK : ∀ A' c' w', Kp (fun x => x = b) w w' → Rdr w' b (xs.drop n) 0 → Bs w' A' n c' (xs.take n) → (∀ ad, A' = some ad → ad.block ≠ b) →
      K (.returned (.tuple #[.slice A' n c', .bool true])) w') :
    Calls Tryd.prog 79 #[.pointer (some ⟨b, 0, none⟩), .int .i64 n] w K := by
  have hr' := hr
  obtain ⟨A, l, c, h1, h2, h3, h4⟩ := hr
  have c0 := h1.cell (j := 0) rfl
  have f0 := h1.frozen 0
  have hl := h2.len
  have hle := Rv.le h2
  have hcap := Rv.cap h2
  unfold maxLen at hcap
  have hnl : n ≤ l := by omega
  have hfin : ∀ A' l' c' w', (c = n ∧ A' = A ∧ l' = l - n ∧ c' = c - n ∨ ¬ c = n ∧ A' = Option.map (fun x => x.add n) A ∧ l' = l - n ∧ c' = c - n) → w' = w.setCell ⟨b, 0, none⟩ (.slice A' l' c') →
      K (.returned (.tuple #[.slice A n c, .bool true])) w' := by
    intro A' l' c' w' hA hw
    obtain ⟨rfl, rfl⟩ : l' = l - n ∧ c' = c - n := by omega
    have hb2 : Bs w A' (l - n) (c - n) (xs.drop n) := h2.from n hnl (fun h => by rcases hA with ⟨_, h, _⟩ | ⟨h', _⟩; exact h; exact absurd h h') (fun h => by rcases hA with ⟨h', _⟩ | ⟨_, h, _⟩; exact absurd h' h; exact h)
    have hk : Kp (fun x => x = b) w w' := by subst hw; exact Kp.set1 w ⟨b, 0, none⟩ _
    have hne : ∀ ad, A' = some ad → ad.block ≠ b := by
      intro ad had
      rcases hA with ⟨_, h, _⟩ | ⟨_, h, _⟩
      · exact h4 ad (h ▸ had)
      · subst h
        cases A with
        | none => cases had
        | some a => injection had with had; subst had; rw [addr_add_block]; exact h4 a rfl
    refine hK A c w' hk ⟨A', l - n, c - n, by subst hw; exact h1.set 0 _, Bs.kpb hb2 hk hne, by omega, hne⟩ (Bs.kpb (h2.sub n hnl) hk h4) h4
  go_enter Tryd.func79, Tryd.ntmps79
  go_wp2_with (go_at_call 66; refine ok_c _ _ _ _ hr' _ ?_)
  · have hcn : c = n := by assumption
    subst hcn
    exact hfin A (l - c) 0 _ (Or.inl ⟨rfl, rfl, rfl, by omega⟩) rfl
  · exact hfin _ _ _ _ (Or.inr ⟨by assumption, rfl, rfl, rfl⟩) rfl

theorem next_short (w : World) (b : Nat) (xs : List UInt8) (n : Nat) (hn : xs.length < n) (hr : Rdr w b xs 0)
    (K : Ending → World → Prop) (hK : ∀ w', Kp (fun x => x = b) w w' → Rdr w' b [] 4 → K (.returned (.tuple #[.slice none 0 0, .bool false])) w') :
    Calls Tryd.prog 79 #[.pointer (some ⟨b, 0, none⟩), .int .i64 n] w K := by
  have hr' := hr
  obtain ⟨A, l, c, h1, h2, h3, h4⟩ := hr
  have c0 := h1.cell (j := 0) rfl
  have hl := h2.len
  have hnl : l < n := by omega
  go_enter Tryd.func79, Tryd.ntmps79
  go_wp2_with (first | (go_at_call 66; refine ok_c _ _ _ _ hr' _ ?_) | (go_at_call 67; refine fail_c _ _ _ _ 4 hr' _ ?_; intro w' hk hf))
  exact hK _ hk hf

theorem next_err (w : World) (b : Nat) (xs : List UInt8) (e : Int) (n : Int) (he : ¬ e = 0) (hr : Rdr w b xs e)
    (K : Ending → World → Prop) (hK : K (.returned (.tuple #[.slice none 0 0, .bool false])) w) :
    Calls Tryd.prog 79 #[.pointer (some ⟨b, 0, none⟩), .int .i64 n] w K := by
  have he' : (e == 0) = false := by simpa using he
  go_enter Tryd.func79, Tryd.ntmps79
  go_wp2_with (go_at_call 66; refine ok_c _ _ _ _ hr _ ?_)
  exact hK

theorem next_c (w : World) (b : Nat) (xs : List UInt8) (e : Int) (n : Nat) (hr : Rdr w b xs e)
    (K : Ending → World → Prop) (hK : ∀ A' n' c' f w', Kp (fun x => x = b) w w' → Rdr w' b (rNext n (xs, e)).1 (rNext n (xs, e)).2 → Bs w' A' n' c' (rGot n (xs, e)) → (∀ ad, A' = some ad → ad.block ≠ b) →
      K (.returned (.tuple #[.slice A' n' c', .bool f])) w') :
    Calls Tryd.prog 79 #[.pointer (some ⟨b, 0, none⟩), .int .i64 n] w K := by
  by_cases he : e = 0
  · subst he
    by_cases hn : n ≤ xs.length
    · refine next_ok w b xs n hn hr K fun A' c' w' h1 h2 h3 h4 => hK A' n c' true w' h1 ?_ ?_ h4
      · simpa [rNext, hn] using h2
      · simpa [rGot, hn] using h3
    · refine next_short w b xs n (by omega) hr K fun w' h1 h2 => hK none 0 0 false w' h1 ?_ ?_ (fun _ h => by cases h)
      · simpa [rNext, hn] using h2
      · simpa [rGot, hn] using Bs.nil w'
  · refine next_err w b xs e n he hr K (hK none 0 0 false w (Kp.refl _ w) ?_ ?_ (fun _ h => by cases h))
    · simpa [rNext, he] using hr
    · simpa [rGot, he] using Bs.nil w

theorem rGot_len (n : Nat) (s : RS) : (rGot n s).length ≤ n := by
  unfold rGot
  split
  · simp; omega
  · simp
theorem beVal_snoc (l : List UInt8) (c : UInt8) : beVal (l ++ [c]) = beVal l * 256 + c.toNat := by simp [beVal]
theorem beVal_lt (l : List UInt8) : beVal l < 256 ^ l.length := by
  suffices h : ∀ l : List UInt8, beVal l.reverse < 256 ^ l.length by simpa using h l.reverse
  intro l
  induction l with
  | nil => simp [beVal]
  | cons x l ih =>
    rw [List.reverse_cons, beVal_snoc, List.length_cons, Nat.pow_succ]
    have := x.toNat_lt
    omega
theorem shl8_or (a b : Nat) (ha : a < 72057594037927936) (hb : b ≤ 255) : bits .or .u64 (IntKind.u64.wrap ((a : Int) * 2 ^ 8)) (IntKind.u64.wrap (b : Int)) = ((a * 256 + b : Nat) : Int) := by
  have e1 : IntKind.u64.wrap (b : Int) = (b : Int) := by rw [wrap_u64]; omega
  have e2 : IntKind.u64.wrap ((a : Int) * 2 ^ 8) = ((a * 256 : Nat) : Int) := by rw [wrap_u64]; omega
  rw [e1, e2, u64_or_nat _ _ (by omega) (by omega), nat_join 8 _ _ (by omega) (by omega)]

set_option maxHeartbeats 400000 in
theorem number_c (w : World) (b : Nat) (xs : List UInt8) (e : Int) (X : Int) (n : Nat) (hX : X = n) (hn : n ≤ 8) (hr : Rdr w b xs e)
    (K : Ending → World → Prop) (hK : ∀ w', Kp (fun x => x = b) w w' → Rdr w' b (rNext n (xs, e)).1 (rNext n (xs, e)).2 → K (.returned (.int .u64 (rNumber n (xs, e)))) w') :
    Calls Tryd.prog 64 #[.pointer (some ⟨b, 0, none⟩), .int .i64 X] w K := by
  subst hX
  go_enter Tryd.func64, Tryd.ntmps64
  go_wp2_with fail
  refine next_c w b xs e n hr _ ?_
  intro A' m c' f w' hk h2 h3 h4
  have hm := h3.len
  have hm2 := rGot_len n (xs, e)
  have hle := Rv.le h3
  have hfin := hK w' hk h2
  unfold rNumber at hfin
  generalize rGot n (xs, e) = g at h3 hm hm2 hfin
  clear hK hk h2 h4
  go_wp2_with fail
  go_loop [7, 18] (fun v i => ∃ j : Nat, j ≤ m ∧ i = .int .i64 j ∧ v = .int .u64 (beVal (g.take j))) (fun _ i => m - (intOf i).toNat)
  case atStart => exact ⟨0, Nat.zero_le _, by simp, by simp [beVal]⟩
  case round =>
    obtain ⟨j, hj, rfl, rfl⟩ := hrel
    by_cases hjm : j < m
    · obtain ⟨ad, hA⟩ := h3.ex (by omega)
      subst hA
      have hcell := h3.cell rfl hjm
      go_wp2_with fail
      go_round
      case rel =>
        have hl := beVal_lt (g.take j)
        have h5 : 256 ^ (g.take j).length ≤ 256 ^ 7 := Nat.pow_le_pow_right (by decide) (by simp; omega)
        refine ⟨j + 1, by omega, by go_num, ?_⟩
        rw [List.take_succ_eq_append_getElem (by omega), beVal_snoc]
        rw [← shl8_or _ _ (by omega) (by have := (g[j]'(by omega)).toNat_lt; omega)]
        simp [List.getElem?_eq_getElem (show j < g.length by omega)]
      case measure => simp [intOf]; omega
    · obtain rfl : j = m := by omega
      go_wp2_with fail
      rw [List.take_of_length_le (by omega)]
      exact hfin

theorem beVal_lt_pow (l : List UInt8) (k : Nat) (h : l.length ≤ k) : beVal l < 256 ^ k := Nat.lt_of_lt_of_le (beVal_lt l) (Nat.pow_le_pow_right (by decide) h)
theorem rNumber_lt (n : Nat) (s : RS) : rNumber n s < 256 ^ n := beVal_lt_pow _ _ (rGot_len n s)

theorem u64_c (w : World) (b : Nat) (xs : List UInt8) (e : Int) (hr : Rdr w b xs e)
    (K : Ending → World → Prop) (hK : ∀ w', Kp (fun x => x = b) w w' → Rdr w' b (rNext 8 (xs, e)).1 (rNext 8 (xs, e)).2 → K (.returned (.int .u64 (rNumber 8 (xs, e)))) w') :
    Calls Tryd.prog 65 #[.pointer (some ⟨b, 0, none⟩)] w K := by
  go_enter Tryd.func65, Tryd.ntmps65
  go_wp2_with fail
  refine number_c w b xs e _ 8 rfl (by omega) hr _ ?_
  intro w' hk h2
  go_wp2_with fail
  exact hK w' hk h2

theorem u32_c (w : World) (b : Nat) (xs : List UInt8) (e : Int) (hr : Rdr w b xs e)
    (K : Ending → World → Prop) (hK : ∀ w', Kp (fun x => x = b) w w' → Rdr w' b (rNext 4 (xs, e)).1 (rNext 4 (xs, e)).2 → K (.returned (.int .u32 (rNumber 4 (xs, e)))) w') :
    Calls Tryd.prog 126 #[.pointer (some ⟨b, 0, none⟩)] w K := by
  have hlt : rNumber 4 (xs, e) < 4294967296 := rNumber_lt 4 (xs, e)
  go_enter Tryd.func126, Tryd.ntmps126
  go_wp2_with fail
  refine number_c w b xs e _ 4 rfl (by omega) hr _ ?_
  intro w' hk h2
  go_wp2_with fail
  exact hK w' hk h2

theorem u8_c (w : World) (b : Nat) (xs : List UInt8) (e : Int) (hr : Rdr w b xs e)
    (K : Ending → World → Prop) (hK : ∀ w', Kp (fun x => x = b) w w' → Rdr w' b (rNext 1 (xs, e)).1 (rNext 1 (xs, e)).2 → K (.returned (.int .i64 (rNumber 1 (xs, e)))) w') :
    Calls Tryd.prog 46 #[.pointer (some ⟨b, 0, none⟩)] w K := by
  have hlt : rNumber 1 (xs, e) < 256 := rNumber_lt 1 (xs, e)
  go_enter Tryd.func46, Tryd.ntmps46
  go_wp2_with fail
  refine number_c w b xs e _ 1 rfl (by omega) hr _ ?_
  intro w' hk h2
  go_wp2_with fail
  exact hK w' hk h2

theorem err_c (w : World) (b : Nat) (xs : List UInt8) (e : Int) (hr : Rdr w b xs e)
    (K : Ending → World → Prop) (hK : K (.returned (.int .i64 e)) w) :
    Calls Tryd.prog 48 #[.pointer (some ⟨b, 0, none⟩)] w K := by
  obtain ⟨A, n, c, h1, h2, h3⟩ := hr
  have c1 := h1.cell (j := 1) rfl
  have c2 := h1.cell (j := 2) rfl
  go_enter Tryd.func48, Tryd.ntmps48
  go_wp2_with fail
  exact hK

theorem left_c (w : World) (b : Nat) (xs : List UInt8) (e : Int) (hr : Rdr w b xs e)
    (K : Ending → World → Prop) (hK : K (.returned (.int .i64 (xs.length : Nat))) w) :
    Calls Tryd.prog 95 #[.pointer (some ⟨b, 0, none⟩)] w K := by
  obtain ⟨A, n, c, h1, h2, h3⟩ := hr
  have c0 := h1.cell (j := 0) rfl
  rw [h2.len] at hK
  go_enter Tryd.func95, Tryd.ntmps95
  go_wp2_with fail
  exact hK

theorem num_c (w : World) (b : Nat) (xs : List UInt8) (e : Int) (most : Int) (hm : 0 ≤ most) (hm2 : most ≤ 9223372036854775807) (hr : Rdr w b xs e)
    (K : Ending → World → Prop) (hK : ∀ w', Kp (fun x => x = b) w w' → Rdr w' b (rNumS most (xs, e)).1 (rNumS most (xs, e)).2 → K (.returned (.int .i64 (rNum most (xs, e)))) w') :
    Calls Tryd.prog 47 #[.pointer (some ⟨b, 0, none⟩), .int .i64 most] w K := by
  have hlt : rNumber 8 (xs, e) < 18446744073709551616 := rNumber_lt 8 (xs, e)
  go_enter Tryd.func47, Tryd.ntmps47
  go_wp2_with fail
  refine u64_c w b xs e hr _ ?_
  intro w1 hk1 h1
  unfold rNum rNumS rNumOk at hK
  generalize hs : rNext 8 (xs, e) = s at h1 hK
  generalize rNumber 8 (xs, e) = v at hlt hK ⊢
  obtain ⟨ys, f⟩ := s
  simp only at h1 hK
  clear hs
  by_cases hf : f = 0
  · subst hf
    simp only [beq_self_eq_true, Bool.true_and, if_true, Bool.and_eq_true, decide_eq_true_eq] at hK
    by_cases hv : v < 9223372036854775808
    · have hd : (((v : Int) / 9223372036854775808) == 1) = false := by simp; omega
      by_cases hv2 : (v : Int) ≤ most
      · simp only [hv, hv2, and_self, if_true] at hK
        go_wp2_with (first | (go_at_call 66; refine ok_c _ _ _ _ h1 _ ?_))
        exact hK w1 hk1 h1
      · simp only [hv, hv2, and_false, if_false] at hK
        go_wp2_with (first | (go_at_call 66; refine ok_c _ _ _ _ h1 _ ?_))
        refine fail_c _ _ _ _ 5 h1 _ ?_
        intro w2 hk2 h2
        go_wp2_with fail
        exact hK w2 (hk1.trans hk2 (fun _ _ h => h) (fun _ _ h => h)) h2
    · have hd : (((v : Int) / 9223372036854775808) == 1) = true := by simp; omega
      simp only [hv, false_and, if_false] at hK
      go_wp2_with (first | (go_at_call 66; refine ok_c _ _ _ _ h1 _ ?_))
      refine fail_c _ _ _ _ 5 h1 _ ?_
      intro w2 hk2 h2
      go_wp2_with fail
      exact hK w2 (hk1.trans hk2 (fun _ _ h => h) (fun _ _ h => h)) h2
  · have hf' : (f == 0) = false := by simpa using hf
    simp only [hf, hf', Bool.false_and, if_false, Bool.false_eq_true] at hK
    go_wp2_with (first | (go_at_call 66; refine ok_c _ _ _ _ h1 _ ?_))
    exact hK w1 hk1 h1

theorem rest_c (w : World) (b : Nat) (xs : List UInt8) (e : Int) (hr : Rdr w b xs e)
    (K : Ending → World → Prop) (hK : ∀ A' n' c' w', Kp (fun x => x = b) w w' → Rdr w' b (rRestS (xs, e)).1 (rRestS (xs, e)).2 → Ob w' w.heap.size A' n' c' (rRest (xs, e)) → K (.returned (.slice A' n' c')) w') :
    Calls Tryd.prog 75 #[.pointer (some ⟨b, 0, none⟩)] w K := by
  have hlen := hr.len
  go_enter Tryd.func75, Tryd.ntmps75
  go_wp2_with fail
  refine left_c _ _ _ _ hr _ ?_
  go_wp2_with fail
  refine next_c w b xs e xs.length hr _ ?_
  intro A1 n1 c1 f w1 hk1 h1 h2 h3
  have hg := rGot_len xs.length (xs, e)
  have hl := h2.len
  go_wp2_with (with_reducible refine stop_append ?_)
  refine Stop.go (wpList_append_ob w.heap.size rfl (Ob.nil w1 w.heap.size) rfl h2 (by omega) hk1.size ?_)
  intro A2 c2 w2 ho2 hk2
  simp only [List.nil_append, Nat.zero_add] at ho2 ⊢
  have he : Ext w1 w2 := hk2.mono (fun _ _ h => by cases h)
  go_wp2_with fail
  exact hK _ _ _ _ (hk1.ext he) (h1.ext he) ho2


end Go.Proofs.YtdlaojpjkijccaaDoor
