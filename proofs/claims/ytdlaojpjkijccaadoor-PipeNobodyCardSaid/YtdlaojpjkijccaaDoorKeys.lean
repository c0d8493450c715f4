/- Contracts of the package keys (Valid, Nonce). -/
import Derived.Test.YtdlaojpjkijccaaDoorReader
import Derived.Test.YtdlaojpjkijccaaDoorMore
set_option linter.unusedVariables false
set_option linter.unusedSimpArgs false
namespace Go.Proofs.YtdlaojpjkijccaaDoor
open Go.RowKit

/-- A key's id. -/
structure Kid where
  label : Int
  epoch : Int
  life : Int
  num : Int
  side : Int
  peer : Int
deriving DecidableEq
def I64 (x : Int) : Value := .int .i64 x
def Kid.l (k : Kid) : List Int := [k.label, k.epoch, k.life, k.num, k.side, k.peer]
def Kid.v (k : Kid) : Value := .agg (k.l.map I64).toArray
def okNum (n : Int) : Bool := decide (0 ≤ n) && decide (n ≤ 1099511627776)
def Kid.ok (k : Kid) : Bool := k.l.all okNum && decide (1 ≤ k.label) && decide (k.label ≤ 6) && decide (k.side ≤ 1)
theorem i64_one (l : List Int) : ∀ v ∈ l.map I64, v.oneCell' = true := by
  intro v hv
  obtain ⟨x, _, rfl⟩ := List.mem_map.1 hv
  rfl
theorem Kid.len (k : Kid) : k.l.length = 6 := rfl

theorem Kid.v_eq (k : Kid) : k.v = .agg #[.int .i64 k.label, .int .i64 k.epoch, .int .i64 k.life, .int .i64 k.num, .int .i64 k.side, .int .i64 k.peer] := rfl

theorem numbers_c (w : World) (k : Kid) (K : Ending → World → Prop) (hK : ∀ w', Ext w w' → K (.returned k.v) w') :
    Calls Tryd.prog 59 #[k.v] w K := by
  obtain ⟨k1, k2, k3, k4, k5, k6⟩ := k
  rw [Kid.v_eq] at hK ⊢
  dsimp only at hK ⊢
  go_enter Tryd.func59, Tryd.ntmps59
  go_wp2_with (with_reducible refine stop_store 131 ?_)
  refine Stop.go (wpList_store_arr (b := w.heap.size + 1) (o := 0) rfl (vs := [k1, k2, k3, k4, k5, k6].map I64) rfl (At.new2 w _ _ _) (by simp) (by kernel_rfl) (i64_one _) ?_)
  intro w2 a2 hk2
  rw [splice_all _ _ (by simp)] at a2
  go_wp2_with fail
  refine ret_cell rfl rfl a2 _ Tryd.underlying131 rfl (by simp only [List.size_toArray, List.length_map]; kernel_rfl) rfl ?_
  exact hK _ ((((Ext.refl w).alloc _).alloc _).new1 hk2 (by omega))

theorem okNum_out (n : Int) : okNum n = (decide (0 ≤ n) && decide (n ≤ 1099511627776)) := rfl

set_option maxHeartbeats 400000 in
theorem valid_c (w : World) (k : Kid) (K : Ending → World → Prop) (hK : ∀ w', Ext w w' → K (.returned (.bool k.ok)) w') :
    Calls Tryd.prog 35 #[k.v] w K := by
  have hv : k.v = .agg #[.int .i64 k.label, .int .i64 k.epoch, .int .i64 k.life, .int .i64 k.num, .int .i64 k.side, .int .i64 k.peer] := rfl
  have hall : k.ok = (k.l.all okNum && (decide (1 ≤ k.label) && decide (k.label ≤ 6) && decide (k.side ≤ 1))) := by simp [Kid.ok, Bool.and_assoc]
  have hl := k.len
  rw [hall] at hK
  rw [hv]
  have c0 : ∀ w' : World, At w' w.heap.size (k.l.map I64).toArray → w'.cell? ⟨w.heap.size, 0, none⟩ = some (.int .i64 k.label) := fun w' h => h.cell rfl
  have c4 : ∀ w' : World, At w' w.heap.size (k.l.map I64).toArray → w'.cell? ⟨w.heap.size, 4, none⟩ = some (.int .i64 k.side) := fun w' h => h.cell rfl
  go_enter Tryd.func35, Tryd.ntmps35
  go_wp2_with (with_reducible refine stop_load 89 ?_)
  have a0 : At (w.alloc (.cells (k.l.map I64).toArray 89)) w.heap.size (k.l.map I64).toArray := At.new w _ _
  have hlist : (#[.int .i64 k.label, .int .i64 k.epoch, .int .i64 k.life, .int .i64 k.num, .int .i64 k.side, .int .i64 k.peer] : Array Value) = (k.l.map I64).toArray := rfl
  rw [hlist]
  have e0 : Ext w (w.alloc (.cells (k.l.map I64).toArray 89)) := (Ext.refl w).alloc _
  generalize w.alloc (.cells (k.l.map I64).toArray 89) = w1 at a0 e0 ⊢
  refine Stop.go (wpList_load_arr (b := w.heap.size) (o := 0) rfl (vs := k.l.map I64) a0.rangeAll _ Tryd.underlying89 rfl (by kernel_rfl) ?_)
  clear hlist
  go_wp2_with fail
  refine numbers_c w1 k _ ?_
  intro w2 e2
  replace a0 := a0.ext e2
  replace e0 := e0.trans e2
  clear e2
  rw [show k.v = .agg (k.l.map I64).toArray from rfl]
  generalize hkl : k.l = kl at *
  clear hv hall
  go_wp2_with fail
  go_loop [7] (fun i => ∃ j : Nat, j ≤ 6 ∧ i = .int .i64 j ∧ (kl.take j).all okNum = true) (fun i => 6 - (intOf i).toNat)
  case atStart => exact ⟨0, by omega, by simp, by simp⟩
  case round =>
    obtain ⟨j, hj, rfl, hal⟩ := hrel
    by_cases hjk : j < 6
    · obtain ⟨x, hx⟩ : ∃ x, kl[j]? = some x := ⟨kl[j]'(by omega), List.getElem?_eq_getElem (by omega)⟩
      have hx2 : (kl.map I64).toArray[j]? = some (.int .i64 x) := by simp [hx, I64]
      have htk : (kl.take (j + 1)).all okNum = okNum x := by
        have e : kl[j]'(by omega) = x := by simpa [List.getElem?_eq_getElem (show j < kl.length by omega)] using hx
        rw [List.take_succ_eq_append_getElem (by omega), List.all_append, hal, e]
        simp
      have hno : okNum x = false → kl.all okNum = false := by
        intro h
        rw [List.all_eq_false]
        exact ⟨x, List.mem_of_getElem? hx, by simp [h]⟩
      clear hx hal
      go_wp2_with (with_reducible refine stop_index ?_)
      refine Stop.go (wpList_index 6 3 .i64 Tryd.underlying131 Tryd.underlying3 (by kernel_rfl) rfl rfl hjk (v := .int .i64 x) hx2 ?_)
      clear hx2
      by_cases h1 : x < 0
      · have h2 : okNum x = false := by simp [okNum]; omega
        rw [hno h2] at hK
        clear htk hno h2
        go_wp2_with fail
        all_goals first | exact hK _ e0 | exact e0
      · by_cases h3 : 1099511627776 < x
        · have h2 : okNum x = false := by simp [okNum]; omega
          rw [hno h2] at hK
          clear htk hno h2
          go_wp2_with fail
          all_goals first | exact hK _ e0 | exact e0
        · have h2 : okNum x = true := by simp [okNum]; omega
          rw [h2] at htk
          clear hno h2
          go_wp2_with fail
          go_round
          case rel => exact ⟨j + 1, by omega, by go_num, htk⟩
          case measure => simp [intOf]; omega
    · have hj6 : j = 6 := by omega
      have hall6 : kl.all okNum = true := by
        rw [hj6, List.take_of_length_le (by omega)] at hal
        exact hal
      rw [hall6] at hK
      simp only [Bool.true_and] at hK
      clear hal hj6 hall6 hl hkl
      have d0 := c0 _ a0
      have d4 := c4 _ a0
      by_cases h1 : 1 ≤ k.label
      · by_cases h2 : k.label ≤ 6
        · by_cases h3 : k.side ≤ 1
          · simp only [h1, h2, h3, decide_true, Bool.and_true] at hK
            go_wp2_with fail
            all_goals first | exact hK _ e0 | exact e0
          · simp only [h1, h2, h3, decide_true, decide_false, Bool.and_true, Bool.and_false] at hK
            go_wp2_with fail
            all_goals first | exact hK _ e0 | exact e0
        · simp only [h1, h2, decide_true, decide_false, Bool.and_true, Bool.and_false, Bool.false_and] at hK
          go_wp2_with fail
          all_goals first | exact hK _ e0 | exact e0
      · simp only [h1, decide_true, decide_false, Bool.and_true, Bool.and_false, Bool.false_and] at hK
        go_wp2_with fail
        all_goals first | exact hK _ e0 | exact e0

/-- A number's nonce. -/
def nonceOf (n : Int) : List UInt8 := [0, 0, 0, 0] ++ beN 8 n.toNat
theorem beN_len (n x : Nat) : (beN n x).length = n := by simp [beN]

set_option maxRecDepth 100000 in
theorem nonce_c (w : World) (n : Int) (K : Ending → World → Prop) (h0 : okNum n = true) (hK : ∀ w', Ext w w' → K (.returned (.tuple #[.agg ((nonceOf n).map B).toArray, .bool true])) w') :
    Calls Tryd.prog 55 #[.int .i64 n] w K := by
  obtain ⟨h1, h2⟩ : 0 ≤ n ∧ n ≤ 1099511627776 := by simpa [okNum] using h0
  clear h0
  have hbl := beN_len 8 n.toNat
  go_enter Tryd.func55, Tryd.ntmps55
  go_wp2_with fail
  have e0 : ∀ o o', Ext w ((w.alloc o).alloc o') := fun _ _ => ((Ext.refl w).alloc _).alloc _
  have a0 := (At.new w (List.replicate 12 (.int .u8 0)).toArray 119).alloc (.cells (List.replicate 12 (.int .u8 0)).toArray 119)
  have a1 := At.new2 w (.cells (List.replicate 12 (.int .u8 0)).toArray 119) (List.replicate 12 (.int .u8 0)).toArray 119
  replace e0 := e0 (.cells (List.replicate 12 (.int .u8 0)).toArray 119) (.cells (List.replicate 12 (.int .u8 0)).toArray 119)
  change Code.wp _ _ _ _ ((w.alloc (.cells (List.replicate 12 (.int .u8 0)).toArray 119)).alloc (.cells (List.replicate 12 (.int .u8 0)).toArray 119))
  generalize ((w.alloc (.cells (List.replicate 12 (.int .u8 0)).toArray 119)).alloc (.cells (List.replicate 12 (.int .u8 0)).toArray 119)) = w1 at a0 a1 e0 ⊢
  go_region_held3 (fun w' => Ext w w' ∧ At w' w.heap.size (List.replicate 12 (.int .u8 0)).toArray)
    (first | exact ⟨e0.drew, a0⟩ | (go_split_ands; exact ⟨Ext.trans (by assumption) he2, At.ext (by assumption) he2⟩) | (go_split_ands; exact ⟨Ext.new1 (by assumption) hk3 (by omega), At.kp1 (by assumption) hk3 (by omega)⟩))
    (first | (go_at_call 43; refine putNum_c _ none 0 0 [] n (by omega) (by omega) (Bs.nil _) _ ?_; intro A2 c2 w2 he2 ho2)
           | (refine step_copy_at rfl rfl 5 Tryd.underlying22 (by kernel_rfl) rfl rfl (w.heap.size + 1) 4 (List.replicate 12 (.int .u8 0)) (At.ext (At.drew a1) he2) (Ow.rv ho2) (fun _ => rfl) (by simp) ?_; intro w3 a3 hk3))
  go_split_ands
  have hsp : splice (List.replicate 12 (Value.int IntKind.u8 0)) 4 (List.take 8 (List.map B ([] ++ beN 8 n.toNat))) = (nonceOf n).map B := by
    have e : (List.map B (beN 8 n.toNat)).length = 8 := by simp [hbl]
    rw [List.nil_append, List.take_of_length_le (by omega)]
    simp [splice, nonceOf, hbl, B]
  rw [hsp] at a3
  have hl12 : (nonceOf n).length = 12 := by simp [nonceOf, hbl]
  generalize nonceOf n = xs at *
  have e3 : Ext w w3 := by assumption
  have a0' : At w3 w.heap.size (List.replicate 12 (.int .u8 0)).toArray := by assumption
  clear hbl a1 a0 e0 he2 ho2 hk3 hsp
  go_wp2_with (first | (with_reducible refine stop_load 119 ?_) | (with_reducible refine stop_store 119 ?_))
  refine Stop.go (wpList_load_arr (b := w.heap.size + 1) (o := 0) rfl (vs := xs.map B) a3.rangeAll _ Tryd.underlying119 rfl (by rw [List.length_map, hl12]; kernel_rfl) ?_)
  go_wp2_with (first | (with_reducible refine stop_load 119 ?_) | (with_reducible refine stop_store 119 ?_))
  refine Stop.go (wpList_store_arr (b := w.heap.size) (o := 0) rfl (vs := xs.map B) rfl a0' (by simp [hl12]) (by rw [List.length_map, hl12]; kernel_rfl) (by intro v hv; obtain ⟨x, _, rfl⟩ := List.mem_map.1 hv; rfl) ?_)
  intro w4 a4 hk4
  rw [splice_all _ _ (by simp [hl12])] at a4
  go_wp2_with fail
  refine ret_cell_tmp rfl rfl a4 _ Tryd.underlying119 rfl (by simp only [List.size_toArray, List.length_map, hl12]; kernel_rfl) rfl rfl ?_
  exact hK _ (e3.new1 hk4 (by omega))

theorem nonce_no (w : World) (n : Int) (K : Ending → World → Prop) (h0 : okNum n = false) (hK : ∀ w', Ext w w' → K (.returned (.tuple #[.agg (List.replicate 12 (B 0)).toArray, .bool false])) w') :
    Calls Tryd.prog 55 #[.int .i64 n] w K := by
  have hno : n < 0 ∨ 1099511627776 < n := by simp [okNum] at h0; omega
  have e0 : ∀ o o', Ext w ((w.alloc o).alloc o') := fun _ _ => ((Ext.refl w).alloc _).alloc _
  have a0 := (At.new w (List.replicate 12 (B 0)).toArray 119).alloc (.cells (List.replicate 12 (B 0)).toArray 119)
  have a1 := At.new2 w (.cells (List.replicate 12 (B 0)).toArray 119) (List.replicate 12 (B 0)).toArray 119
  replace e0 := e0 (.cells (List.replicate 12 (B 0)).toArray 119) (.cells (List.replicate 12 (B 0)).toArray 119)
  go_enter Tryd.func55, Tryd.ntmps55
  go_wp2_with (first | (with_reducible refine stop_load 119 ?_) | (with_reducible refine stop_store 119 ?_))
  all_goals
    refine Stop.go (wpList_load_arr (b := w.heap.size + 1) (o := 0) rfl (vs := List.replicate 12 (B 0)) a1.rangeAll _ Tryd.underlying119 rfl (by kernel_rfl) ?_)
    go_wp2_with (first | (with_reducible refine stop_load 119 ?_) | (with_reducible refine stop_store 119 ?_))
    refine Stop.go (wpList_store_arr (b := w.heap.size) (o := 0) rfl (vs := List.replicate 12 (B 0)) rfl a0 (by simp) (by kernel_rfl) (by intro v hv; rw [List.eq_of_mem_replicate hv]; rfl) ?_)
    intro w4 a4 hk4
    rw [splice_all _ _ (by simp)] at a4
    go_wp2_with fail
    refine ret_cell_tmp rfl rfl a4 _ Tryd.underlying119 rfl (by kernel_rfl) rfl rfl ?_
    exact hK _ (e0.new1 hk4 (by omega))

end Go.Proofs.YtdlaojpjkijccaaDoor
