/- Contracts of the package box: a ledger's find. -/
import Derived.Test.YtdlaojpjkijccaaDoorLedger
set_option linter.unusedVariables false
set_option linter.unusedSimpArgs false
namespace Go.Proofs.YtdlaojpjkijccaaDoor
open Go.RowKit

/-- Which of n elements a text names. -/
def findAt (xs : List UInt8) (n : Nat) : Option Nat :=
  let s := rNumS 1099511627776 (xs, 0)
  let i := rNum 1099511627776 (xs, 0)
  if (rRest s).all (· == 0) && ((rRestS s).2 == 0) && decide (i < n) then some i.toNat else none

def sealZ : List Value := [.int .i64 0, .int .i64 0, .int .i64 0, .int .i64 0, .int .i64 0, .int .i64 0, .int .i64 0, .slice none 0 0, .slice none 0 0]
def markZ : List Value := [.int .i64 0, .int .i64 0, .int .i64 0, .int .i64 0, .int .i64 0, .int .i64 0, .slice none 0 0]
theorem sealZ_one : ∀ v ∈ sealZ, v.oneCell' = true := by simp [sealZ, Value.oneCell']
theorem markZ_one : ∀ v ∈ markZ, v.oneCell' = true := by simp [markZ, Value.oneCell']
theorem rows_mid {size : Nat} : ∀ (rows : List (List Value)) (i : Nat) (vs : List Value), (∀ r ∈ rows, r.length = size) → rows[i]? = some vs → (rows.flatten.drop (i * size)).take size = vs
  | [], _, _, _, h => by cases h
  | r :: rows, 0, vs, hl, h => by
    have : r = vs := by simpa using h
    subst this
    have h1 := hl r (by simp)
    simp [h1]
  | r :: rows, i + 1, vs, hl, h => by
    have h1 := hl r (by simp)
    have ih := rows_mid rows i vs (fun r hr => hl r (by simp [hr])) (by simpa using h)
    rw [List.flatten_cons, show (i + 1) * size = r.length + i * size by rw [h1, Nat.add_mul]; omega, List.drop_append]
    rw [List.drop_of_length_le (by omega)]
    simpa using ih

theorem rNum_nonneg (most : Int) (s : RS) : 0 ≤ rNum most s := by
  unfold rNum
  split <;> omega
theorem f2_getR {α β : Type} {R : α → β → Prop} : ∀ {l : List α} {m : List β}, F2 R l m → ∀ (j : Nat) (b : β), m[j]? = some b → ∃ a, l[j]? = some a ∧ R a b
  | [], [], _, j, b, hb => by cases hb
  | [], _ :: _, h, _, _, _ => h.elim
  | _ :: _, [], h, _, _, _ => h.elim
  | a :: l, b :: m, h, 0, c, hb => by
    have : b = c := by simpa using hb
    subst this
    exact ⟨a, rfl, h.1⟩
  | a :: l, b :: m, h, j + 1, c, hb => by
    have := f2_getR h.2 j c (by simpa using hb)
    simpa using this

set_option maxHeartbeats 1000000 in
theorem findS_c (w : World) (b : Nat) (F : Nat → Prop) (x : BoxS) (hx : BoxAt w b F x) (A : Option Addr) (n c : Nat) (xs : List UInt8) (hxs : Bs w A n c xs) (hn : n ≤ 1099511627776)
    (K : Ending → World → Prop)
    (hS : ∀ i e vs w', findAt xs x.seals.length = some i → x.seals[i]? = some e → Ext w w' → SealRow w' e vs → vs.length = 9 → K (.returned (.tuple #[.agg vs.toArray, .bool true])) w')
    (hN : ∀ w', findAt xs x.seals.length = none → Ext w w' → K (.returned (.tuple #[.agg sealZ.toArray, .bool false])) w') :
    Calls Tryd.prog 58 #[.pointer (some ⟨b, 3, none⟩), .slice A n c] w K := by
  obtain ⟨sA, sn, sc, lA, ln, lc, mA, mn, mc, m, cnt, rep, hx⟩ := hx
  have hln := hx.seals.len
  rw [hln] at hS hN
  unfold findAt at hS hN
  dsimp only at hS hN
  go_enter Tryd.func58, Tryd.ntmps58
  go_wp2_with fail
  have e1 : ∀ o o', Ext w ((w.alloc o).alloc o') := fun o o' => ((Ext.refl w).alloc _).alloc _
  have z0 := (At.new w sealZ.toArray 128).alloc (.cells sealZ.toArray 128)
  have z1 := At.new2 w (.cells sealZ.toArray 128) sealZ.toArray 128
  replace e1 := e1 (.cells sealZ.toArray 128) (.cells sealZ.toArray 128)
  change Calls _ _ _ ((w.alloc (.cells sealZ.toArray 128)).alloc (.cells sealZ.toArray 128)) _
  generalize ((w.alloc (.cells sealZ.toArray 128)).alloc (.cells sealZ.toArray 128)) = w1 at z0 z1 e1 ⊢
  refine read_c w1 A n c xs hn (hxs.ext e1) _ ?_
  intro rb w2 e2 hrb hrd
  go_wp2_with fail
  refine num_c w2 rb _ _ 1099511627776 (by omega) (by omega) hrd _ ?_
  intro w3 hk3 hr3
  generalize rNumS 1099511627776 (xs, 0) = s1 at *
  have hi00 := rNum_nonneg 1099511627776 (xs, 0)
  generalize hi0 : rNum 1099511627776 (xs, 0) = i0 at *
  obtain ⟨ys, f1⟩ := s1
  dsimp only at hr3
  go_wp2_with fail
  refine rest_c w3 rb _ _ hr3 _ ?_
  intro A4 n4 c4 w4 hk4 hr4 ho4
  have zz : ∀ w', Kp (fun y => y = rb) w2 w' → At w' w.heap.size sealZ.toArray ∧ At w' (w.heap.size + 1) sealZ.toArray ∧ Ext w w' := fun w' k => by
    have hs := e1.size
    have h1 := (z1.ext e2).lt
    have h0 := z1.lt
    exact ⟨(z0.ext e2).kp1 k (by omega), (z1.ext e2).kp1 k (by omega), (e1.trans e2).new1 k (by omega)⟩
  obtain ⟨a0, a1, e4⟩ := zz w4 (hk3.trans hk4 (fun _ _ h => h) (fun _ _ h => h))
  clear zz z0 z1 hk3 hk4 hr3 e1 e2 hrd
  generalize hR : rRest (ys, f1) = rs at *
  generalize hR2 : rRestS (ys, f1) = s2 at *
  have hbs := ho4.bs
  have hrl := hbs.len
  have hle := Rv.le hbs
  have hcap := Rv.cap hbs
  unfold maxLen at hcap
  clear ho4
  go_wp2_with fail
  go_loop [18] (fun i => ∃ j : Nat, j ≤ n4 ∧ i = .int .i64 j ∧ (rs.take j).all (· == 0) = true) (fun i => n4 - (intOf i).toNat)
  case atStart => exact ⟨0, by omega, by simp, by simp⟩
  case round =>
    obtain ⟨j, hj, rfl, hal⟩ := hrel
    by_cases hjk : j < n4
    · obtain ⟨ad, hA⟩ := hbs.ex (by omega)
      subst hA
      have hcell := hbs.cell rfl hjk
      obtain ⟨v, hv⟩ : ∃ v, rs.getD j 0 = v := ⟨_, rfl⟩
      rw [hv] at hcell
      have htk : (rs.take (j + 1)).all (· == 0) = (v == 0) := by
        have e : rs[j]'(by omega) = v := by rw [← hv]; simp [List.getD, List.getElem?_eq_getElem (show j < rs.length by omega)]
        rw [List.take_succ_eq_append_getElem (by omega), List.all_append, hal, e]
        simp
      have hno : (v == 0) = false → rs.all (· == 0) = false := by
        intro h
        rw [List.all_eq_false]
        refine ⟨v, ?_, by simp [h]⟩
        rw [← hv]
        simp [List.getD, List.getElem?_eq_getElem (show j < rs.length by omega)]
      clear hv hal
      by_cases h1 : v = 0
      · subst h1
        have htk2 : (rs.take (j + 1)).all (· == 0) = true := htk
        clear htk hno
        go_wp2_with fail
        go_round
        case rel => exact ⟨j + 1, by omega, by go_num, htk2⟩
        case measure => simp [intOf]; omega
      · have hvn : ((v.toNat : Int) == 0) = false := by
          have : v.toNat ≠ 0 := fun h => h1 (UInt8.toNat_inj.1 h)
          simp; omega
        have hal2 := hno (by simpa using h1)
        simp only [hal2, Bool.false_and, Bool.false_eq_true, if_false, forall_const] at hN
        clear hno htk hal2
        go_wp2_with (first | (with_reducible refine stop_load 128 ?_) | (with_reducible refine stop_store 128 ?_))
        refine Stop.go (wpList_load_arr (b := w.heap.size + 1) (o := 0) rfl (vs := sealZ) a1.rangeAll _ Tryd.underlying128 rfl (by kernel_rfl) ?_)
        go_wp2_with (first | (with_reducible refine stop_load 128 ?_) | (with_reducible refine stop_store 128 ?_))
        refine Stop.go (wpList_store_arr (b := w.heap.size) (o := 0) rfl (vs := sealZ) rfl a0 (by simp) (by kernel_rfl) sealZ_one ?_)
        intro w5 a5 hk5
        rw [splice_all _ _ rfl] at a5
        go_wp2_with fail
        refine ret_cell_tmp rfl rfl a5 _ Tryd.underlying128 rfl (by kernel_rfl) rfl rfl ?_
        exact hN _ (e4.new1 hk5 (by omega))
    · have hall : rs.all (· == 0) = true := by
        rw [← hal, List.take_of_length_le (by omega)]
      clear hal hi0 hR hR2
      rw [hall] at hS hN
      simp only [Bool.true_and] at hS hN
      by_cases h1 : s2.2 = 0
      · obtain ⟨zs, f2⟩ := s2
        dsimp only at h1
        subst h1
        by_cases h2 : i0 < (ln : Int)
        · simp only [beq_self_eq_true, h2, decide_true, Bool.and_self, if_true, Option.some.injEq, reduceCtorEq, false_implies, forall_const] at hS hN
          obtain ⟨k, rfl⟩ : ∃ k : Nat, i0 = k := ⟨i0.toNat, by omega⟩
          have hk : k < ln := by omega
          have c3 := (hx.cells.ext e4).cell (j := 3) rfl
          obtain ⟨rows, hr1, hr2, hrl2, hr5⟩ := hx.seals
          obtain ⟨e, he⟩ : ∃ e, x.seals[k]? = some e := ⟨x.seals[k]'(by omega), List.getElem?_eq_getElem (by omega)⟩
          obtain ⟨vs, hv1, hv2⟩ := f2_getR hr1 k e he
          have hvl := hr5 vs (List.mem_of_getElem? hv1)
          have hmid := rows_mid rows k vs hr5 hv1
          have hrow := (hr2.ext e4).rv
          obtain ⟨g, hg⟩ : ∃ g, lA = some ⟨g, 0, none⟩ := by
            rcases hr2 with ⟨_, h, _⟩ | ⟨g, sp, h, _⟩
            · omega
            · exact ⟨g, h⟩
          have hfin := hS k e vs
          have hcap2 := Rv.cap hrow
          have hle2 := Rv.le hrow
          unfold maxLen at hcap2
          subst hg
          have hvs : w4.rangeAt g (k * 9) vs := fun j v hj => by
            have hadd : (⟨g, 0, none⟩ : Addr).add (k * 9 + j) = ⟨g, k * 9 + j, none⟩ := by unfold Addr.add; split <;> simp_all
            rw [← hadd]
            refine hrow.cell _ rfl (k * 9 + j) v ?_
            rw [← hmid, List.getElem?_take] at hj
            split at hj
            · simpa [List.getElem?_drop] using hj
            · cases hj
          have hone : ∀ v ∈ vs, v.oneCell' = true := fun v hv => hrow.one v (by
            rw [← hmid] at hv
            exact List.mem_of_mem_drop (List.mem_of_mem_take hv))
          clear hS hN hx hr1 hr2 hrow hmid hr5 hv1
          have HS : Hid _ := hfin
          clear hfin
          go_wp2_with fail
          refine err_c w4 rb _ _ hr4 _ ?_
          go_wp2_with (first | (with_reducible refine stop_load 128 ?_) | (with_reducible refine stop_store 128 ?_))
          refine Stop.go (wpList_load_arr (b := g) (o := k * 9) rfl (vs := vs) hvs _ Tryd.underlying128 rfl (by rw [hvl]; kernel_rfl) ?_)
          go_wp2_with (first | (with_reducible refine stop_load 128 ?_) | (with_reducible refine stop_store 128 ?_))
          refine Stop.go (wpList_store_arr (b := w.heap.size) (o := 0) rfl (vs := vs) rfl a0 (by simp [sealZ, hvl]) (by rw [hvl]; kernel_rfl) hone ?_)
          intro w5 a5 hk5
          rw [splice_all _ _ (by simp [sealZ, hvl])] at a5
          go_wp2_with fail
          refine ret_cell_tmp rfl rfl a5 _ Tryd.underlying128 rfl (by simp only [List.size_toArray, hvl]; kernel_rfl) rfl rfl ?_
          have e5 := e4.new1 hk5 (Nat.le_refl _)
          exact HS.out _ (by simp) he e5 (hv2.kp e5 (fun _ h => h.elim)) hvl
        · simp only [beq_self_eq_true, h2, decide_false, Bool.and_false, Bool.false_eq_true, if_false, reduceCtorEq, false_implies, forall_const, implies_true, true_implies] at hS hN
          obtain ⟨k, rfl⟩ : ∃ k : Nat, i0 = k := ⟨i0.toNat, by omega⟩
          have c3 := (hx.cells.ext e4).cell (j := 3) rfl
          have hk : ¬ k < ln := by omega
          clear hS hx
          have HN : Hid _ := hN
          clear hN
          go_wp2_with fail
          refine err_c w4 rb _ _ hr4 _ ?_
          go_wp2_with (first | (with_reducible refine stop_load 128 ?_) | (with_reducible refine stop_store 128 ?_))
          refine Stop.go (wpList_load_arr (b := w.heap.size + 1) (o := 0) rfl (vs := sealZ) a1.rangeAll _ Tryd.underlying128 rfl (by kernel_rfl) ?_)
          go_wp2_with (first | (with_reducible refine stop_load 128 ?_) | (with_reducible refine stop_store 128 ?_))
          refine Stop.go (wpList_store_arr (b := w.heap.size) (o := 0) rfl (vs := sealZ) rfl a0 (by simp) (by kernel_rfl) sealZ_one ?_)
          intro w5 a5 hk5
          rw [splice_all _ _ rfl] at a5
          go_wp2_with fail
          refine ret_cell_tmp rfl rfl a5 _ Tryd.underlying128 rfl (by kernel_rfl) rfl rfl ?_
          exact HN.out _ (e4.new1 hk5 (by omega))
      · have h3 : (s2.2 == 0) = false := by simpa using h1
        simp only [h3, Bool.false_and, Bool.false_eq_true, if_false, reduceCtorEq, false_implies, forall_const, implies_true, true_implies] at hS hN
        obtain ⟨zs, f2⟩ := s2
        dsimp only at h1 h3 hr4
        clear hS hx
        have HN : Hid _ := hN
        clear hN
        go_wp2_with fail
        refine err_c w4 rb _ _ hr4 _ ?_
        go_wp2_with (first | (with_reducible refine stop_load 128 ?_) | (with_reducible refine stop_store 128 ?_))
        refine Stop.go (wpList_load_arr (b := w.heap.size + 1) (o := 0) rfl (vs := sealZ) a1.rangeAll _ Tryd.underlying128 rfl (by kernel_rfl) ?_)
        go_wp2_with (first | (with_reducible refine stop_load 128 ?_) | (with_reducible refine stop_store 128 ?_))
        refine Stop.go (wpList_store_arr (b := w.heap.size) (o := 0) rfl (vs := sealZ) rfl a0 (by simp) (by kernel_rfl) sealZ_one ?_)
        intro w5 a5 hk5
        rw [splice_all _ _ rfl] at a5
        go_wp2_with fail
        refine ret_cell_tmp rfl rfl a5 _ Tryd.underlying128 rfl (by kernel_rfl) rfl rfl ?_
        exact HN.out _ (e4.new1 hk5 (by omega))
set_option maxHeartbeats 1000000 in
theorem findM_c (w : World) (b : Nat) (F : Nat → Prop) (x : BoxS) (hx : BoxAt w b F x) (A : Option Addr) (n c : Nat) (xs : List UInt8) (hxs : Bs w A n c xs) (hn : n ≤ 1099511627776)
    (K : Ending → World → Prop)
    (hS : ∀ i e vs w', findAt xs x.marks.length = some i → x.marks[i]? = some e → Ext w w' → MarkRow w' e vs → vs.length = 7 → K (.returned (.tuple #[.agg vs.toArray, .bool true])) w')
    (hN : ∀ w', findAt xs x.marks.length = none → Ext w w' → K (.returned (.tuple #[.agg markZ.toArray, .bool false])) w') :
    Calls Tryd.prog 83 #[.pointer (some ⟨b, 4, none⟩), .slice A n c] w K := by
  obtain ⟨sA, sn, sc, lA, ln, lc, mA, mn, mc, m, cnt, rep, hx⟩ := hx
  have hln := hx.marks.len
  rw [hln] at hS hN
  unfold findAt at hS hN
  dsimp only at hS hN
  go_enter Tryd.func83, Tryd.ntmps83
  go_wp2_with fail
  have e1 : ∀ o o', Ext w ((w.alloc o).alloc o') := fun o o' => ((Ext.refl w).alloc _).alloc _
  have z0 := (At.new w markZ.toArray 160).alloc (.cells markZ.toArray 160)
  have z1 := At.new2 w (.cells markZ.toArray 160) markZ.toArray 160
  replace e1 := e1 (.cells markZ.toArray 160) (.cells markZ.toArray 160)
  change Calls _ _ _ ((w.alloc (.cells markZ.toArray 160)).alloc (.cells markZ.toArray 160)) _
  generalize ((w.alloc (.cells markZ.toArray 160)).alloc (.cells markZ.toArray 160)) = w1 at z0 z1 e1 ⊢
  refine read_c w1 A n c xs hn (hxs.ext e1) _ ?_
  intro rb w2 e2 hrb hrd
  go_wp2_with fail
  refine num_c w2 rb _ _ 1099511627776 (by omega) (by omega) hrd _ ?_
  intro w3 hk3 hr3
  generalize rNumS 1099511627776 (xs, 0) = s1 at *
  have hi00 := rNum_nonneg 1099511627776 (xs, 0)
  generalize hi0 : rNum 1099511627776 (xs, 0) = i0 at *
  obtain ⟨ys, f1⟩ := s1
  dsimp only at hr3
  go_wp2_with fail
  refine rest_c w3 rb _ _ hr3 _ ?_
  intro A4 n4 c4 w4 hk4 hr4 ho4
  have zz : ∀ w', Kp (fun y => y = rb) w2 w' → At w' w.heap.size markZ.toArray ∧ At w' (w.heap.size + 1) markZ.toArray ∧ Ext w w' := fun w' k => by
    have hs := e1.size
    have h1 := (z1.ext e2).lt
    have h0 := z1.lt
    exact ⟨(z0.ext e2).kp1 k (by omega), (z1.ext e2).kp1 k (by omega), (e1.trans e2).new1 k (by omega)⟩
  obtain ⟨a0, a1, e4⟩ := zz w4 (hk3.trans hk4 (fun _ _ h => h) (fun _ _ h => h))
  clear zz z0 z1 hk3 hk4 hr3 e1 e2 hrd
  generalize hR : rRest (ys, f1) = rs at *
  generalize hR2 : rRestS (ys, f1) = s2 at *
  have hbs := ho4.bs
  have hrl := hbs.len
  have hle := Rv.le hbs
  have hcap := Rv.cap hbs
  unfold maxLen at hcap
  clear ho4
  go_wp2_with fail
  go_loop [18] (fun i => ∃ j : Nat, j ≤ n4 ∧ i = .int .i64 j ∧ (rs.take j).all (· == 0) = true) (fun i => n4 - (intOf i).toNat)
  case atStart => exact ⟨0, by omega, by simp, by simp⟩
  case round =>
    obtain ⟨j, hj, rfl, hal⟩ := hrel
    by_cases hjk : j < n4
    · obtain ⟨ad, hA⟩ := hbs.ex (by omega)
      subst hA
      have hcell := hbs.cell rfl hjk
      obtain ⟨v, hv⟩ : ∃ v, rs.getD j 0 = v := ⟨_, rfl⟩
      rw [hv] at hcell
      have htk : (rs.take (j + 1)).all (· == 0) = (v == 0) := by
        have e : rs[j]'(by omega) = v := by rw [← hv]; simp [List.getD, List.getElem?_eq_getElem (show j < rs.length by omega)]
        rw [List.take_succ_eq_append_getElem (by omega), List.all_append, hal, e]
        simp
      have hno : (v == 0) = false → rs.all (· == 0) = false := by
        intro h
        rw [List.all_eq_false]
        refine ⟨v, ?_, by simp [h]⟩
        rw [← hv]
        simp [List.getD, List.getElem?_eq_getElem (show j < rs.length by omega)]
      clear hv hal
      by_cases h1 : v = 0
      · subst h1
        have htk2 : (rs.take (j + 1)).all (· == 0) = true := htk
        clear htk hno
        go_wp2_with fail
        go_round
        case rel => exact ⟨j + 1, by omega, by go_num, htk2⟩
        case measure => simp [intOf]; omega
      · have hvn : ((v.toNat : Int) == 0) = false := by
          have : v.toNat ≠ 0 := fun h => h1 (UInt8.toNat_inj.1 h)
          simp; omega
        have hal2 := hno (by simpa using h1)
        simp only [hal2, Bool.false_and, Bool.false_eq_true, if_false, forall_const] at hN
        clear hno htk hal2
        go_wp2_with (first | (with_reducible refine stop_load 160 ?_) | (with_reducible refine stop_store 160 ?_))
        refine Stop.go (wpList_load_arr (b := w.heap.size + 1) (o := 0) rfl (vs := markZ) a1.rangeAll _ Tryd.underlying160 rfl (by kernel_rfl) ?_)
        go_wp2_with (first | (with_reducible refine stop_load 160 ?_) | (with_reducible refine stop_store 160 ?_))
        refine Stop.go (wpList_store_arr (b := w.heap.size) (o := 0) rfl (vs := markZ) rfl a0 (by simp) (by kernel_rfl) markZ_one ?_)
        intro w5 a5 hk5
        rw [splice_all _ _ rfl] at a5
        go_wp2_with fail
        refine ret_cell_tmp rfl rfl a5 _ Tryd.underlying160 rfl (by kernel_rfl) rfl rfl ?_
        exact hN _ (e4.new1 hk5 (by omega))
    · have hall : rs.all (· == 0) = true := by
        rw [← hal, List.take_of_length_le (by omega)]
      clear hal hi0 hR hR2
      rw [hall] at hS hN
      simp only [Bool.true_and] at hS hN
      by_cases h1 : s2.2 = 0
      · obtain ⟨zs, f2⟩ := s2
        dsimp only at h1
        subst h1
        by_cases h2 : i0 < (mn : Int)
        · simp only [beq_self_eq_true, h2, decide_true, Bool.and_self, if_true, Option.some.injEq, reduceCtorEq, false_implies, forall_const] at hS hN
          obtain ⟨k, rfl⟩ : ∃ k : Nat, i0 = k := ⟨i0.toNat, by omega⟩
          have hk : k < mn := by omega
          have c3 := (hx.cells.ext e4).cell (j := 4) rfl
          obtain ⟨rows, hr1, hr2, hrl2, hr5⟩ := hx.marks
          obtain ⟨e, he⟩ : ∃ e, x.marks[k]? = some e := ⟨x.marks[k]'(by omega), List.getElem?_eq_getElem (by omega)⟩
          obtain ⟨vs, hv1, hv2⟩ := f2_getR hr1 k e he
          have hvl := hr5 vs (List.mem_of_getElem? hv1)
          have hmid := rows_mid rows k vs hr5 hv1
          have hrow := (hr2.ext e4).rv
          obtain ⟨g, hg⟩ : ∃ g, mA = some ⟨g, 0, none⟩ := by
            rcases hr2 with ⟨_, h, _⟩ | ⟨g, sp, h, _⟩
            · omega
            · exact ⟨g, h⟩
          have hfin := hS k e vs
          have hcap2 := Rv.cap hrow
          have hle2 := Rv.le hrow
          unfold maxLen at hcap2
          subst hg
          have hvs : w4.rangeAt g (k * 7) vs := fun j v hj => by
            have hadd : (⟨g, 0, none⟩ : Addr).add (k * 7 + j) = ⟨g, k * 7 + j, none⟩ := by unfold Addr.add; split <;> simp_all
            rw [← hadd]
            refine hrow.cell _ rfl (k * 7 + j) v ?_
            rw [← hmid, List.getElem?_take] at hj
            split at hj
            · simpa [List.getElem?_drop] using hj
            · cases hj
          have hone : ∀ v ∈ vs, v.oneCell' = true := fun v hv => hrow.one v (by
            rw [← hmid] at hv
            exact List.mem_of_mem_drop (List.mem_of_mem_take hv))
          clear hS hN hx hr1 hr2 hrow hmid hr5 hv1
          have HS : Hid _ := hfin
          clear hfin
          go_wp2_with fail
          refine err_c w4 rb _ _ hr4 _ ?_
          go_wp2_with (first | (with_reducible refine stop_load 160 ?_) | (with_reducible refine stop_store 160 ?_))
          refine Stop.go (wpList_load_arr (b := g) (o := k * 7) rfl (vs := vs) hvs _ Tryd.underlying160 rfl (by rw [hvl]; kernel_rfl) ?_)
          go_wp2_with (first | (with_reducible refine stop_load 160 ?_) | (with_reducible refine stop_store 160 ?_))
          refine Stop.go (wpList_store_arr (b := w.heap.size) (o := 0) rfl (vs := vs) rfl a0 (by simp [markZ, hvl]) (by rw [hvl]; kernel_rfl) hone ?_)
          intro w5 a5 hk5
          rw [splice_all _ _ (by simp [markZ, hvl])] at a5
          go_wp2_with fail
          refine ret_cell_tmp rfl rfl a5 _ Tryd.underlying160 rfl (by simp only [List.size_toArray, hvl]; kernel_rfl) rfl rfl ?_
          have e5 := e4.new1 hk5 (Nat.le_refl _)
          exact HS.out _ (by simp) he e5 (hv2.kp e5 (fun _ h => h.elim)) hvl
        · simp only [beq_self_eq_true, h2, decide_false, Bool.and_false, Bool.false_eq_true, if_false, reduceCtorEq, false_implies, forall_const, implies_true, true_implies] at hS hN
          obtain ⟨k, rfl⟩ : ∃ k : Nat, i0 = k := ⟨i0.toNat, by omega⟩
          have c3 := (hx.cells.ext e4).cell (j := 4) rfl
          have hk : ¬ k < mn := by omega
          clear hS hx
          have HN : Hid _ := hN
          clear hN
          go_wp2_with fail
          refine err_c w4 rb _ _ hr4 _ ?_
          go_wp2_with (first | (with_reducible refine stop_load 160 ?_) | (with_reducible refine stop_store 160 ?_))
          refine Stop.go (wpList_load_arr (b := w.heap.size + 1) (o := 0) rfl (vs := markZ) a1.rangeAll _ Tryd.underlying160 rfl (by kernel_rfl) ?_)
          go_wp2_with (first | (with_reducible refine stop_load 160 ?_) | (with_reducible refine stop_store 160 ?_))
          refine Stop.go (wpList_store_arr (b := w.heap.size) (o := 0) rfl (vs := markZ) rfl a0 (by simp) (by kernel_rfl) markZ_one ?_)
          intro w5 a5 hk5
          rw [splice_all _ _ rfl] at a5
          go_wp2_with fail
          refine ret_cell_tmp rfl rfl a5 _ Tryd.underlying160 rfl (by kernel_rfl) rfl rfl ?_
          exact HN.out _ (e4.new1 hk5 (by omega))
      · have h3 : (s2.2 == 0) = false := by simpa using h1
        simp only [h3, Bool.false_and, Bool.false_eq_true, if_false, reduceCtorEq, false_implies, forall_const, implies_true, true_implies] at hS hN
        obtain ⟨zs, f2⟩ := s2
        dsimp only at h1 h3 hr4
        clear hS hx
        have HN : Hid _ := hN
        clear hN
        go_wp2_with fail
        refine err_c w4 rb _ _ hr4 _ ?_
        go_wp2_with (first | (with_reducible refine stop_load 160 ?_) | (with_reducible refine stop_store 160 ?_))
        refine Stop.go (wpList_load_arr (b := w.heap.size + 1) (o := 0) rfl (vs := markZ) a1.rangeAll _ Tryd.underlying160 rfl (by kernel_rfl) ?_)
        go_wp2_with (first | (with_reducible refine stop_load 160 ?_) | (with_reducible refine stop_store 160 ?_))
        refine Stop.go (wpList_store_arr (b := w.heap.size) (o := 0) rfl (vs := markZ) rfl a0 (by simp) (by kernel_rfl) markZ_one ?_)
        intro w5 a5 hk5
        rw [splice_all _ _ rfl] at a5
        go_wp2_with fail
        refine ret_cell_tmp rfl rfl a5 _ Tryd.underlying160 rfl (by kernel_rfl) rfl rfl ?_
        exact HN.out _ (e4.new1 hk5 (by omega))
end Go.Proofs.YtdlaojpjkijccaaDoor
