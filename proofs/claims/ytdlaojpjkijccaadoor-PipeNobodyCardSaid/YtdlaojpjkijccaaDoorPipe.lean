/- Contracts of the packages shake and pipe: the pipe's state; ID, open, spent, step. -/
import Derived.Test.YtdlaojpjkijccaaDoorBoxAll
set_option linter.unusedVariables false
set_option linter.unusedSimpArgs false
namespace Go.Proofs.YtdlaojpjkijccaaDoor
open Go.RowKit

/-- Keys of a connection. -/
structure KeysS where
  life : Int
  conn : Int
  peer : Int
deriving DecidableEq
def KeysS.v (k : KeysS) : Value := .agg #[.int .i64 k.life, .int .i64 k.conn, .int .i64 k.peer]
def KeysS.id (k : KeysS) (label epoch side : Int) : Kid := ⟨label, epoch, k.life, k.conn, side, k.peer⟩

theorem keysId_c (w : World) (k : KeysS) (label epoch side : Int) (K : Ending → World → Prop) (hK : ∀ w', Ext w w' → K (.returned (k.id label epoch side).v) w') :
    Calls Tryd.prog 53 #[k.v, .int .i64 label, .int .i64 epoch, .int .i64 side] w K := by
  rw [Kid.v_eq] at hK
  unfold KeysS.v KeysS.id at *
  dsimp only at hK
  have HO : Hid _ := hK
  clear hK
  go_enter Tryd.func53, Tryd.ntmps53
  go_wp2_with (with_reducible refine stop_store 89 ?_)
  refine Stop.go (wpList_store_arr (b := w.heap.size + 1) (o := 0) rfl (vs := [label, epoch, k.life, k.conn, side, k.peer].map I64) rfl (cs := List.replicate 6 (.int .i64 0)) (At.new2 w _ _ _) (by simp) (by kernel_rfl) (i64_one _) ?_)
  intro w2 a2 hk2
  rw [splice_all _ _ (by simp)] at a2
  go_wp2_with fail
  refine ret_cell rfl rfl a2 _ Tryd.underlying89 rfl (by simp only [List.size_toArray, List.length_map]; kernel_rfl) rfl ?_
  exact HO.out _ ((((Ext.refl w).alloc _).alloc _).new1 hk2 (by omega))

theorem keysID_c (w : World) (k : KeysS) (epoch side : Int) (K : Ending → World → Prop) (hK : ∀ w', Ext w w' → K (.returned (k.id 6 epoch side).v) w') :
    Calls Tryd.prog 30 #[k.v, .int .i64 epoch, .int .i64 side] w K := by
  have HO : Hid _ := hK
  clear hK
  have hkv : k.v = .agg #[.int .i64 k.life, .int .i64 k.conn, .int .i64 k.peer] := rfl
  rw [hkv]
  go_enter Tryd.func30, Tryd.ntmps30
  go_wp2_with (with_reducible refine stop_load 31 ?_)
  have a0 := (At.new w [.int .i64 k.life, .int .i64 k.conn, .int .i64 k.peer].toArray 31).alloc (.cells (List.replicate 6 (.int .i64 0)).toArray 89)
  have a1 := At.new2 w (.cells [.int .i64 k.life, .int .i64 k.conn, .int .i64 k.peer].toArray 31) (List.replicate 6 (.int .i64 0)).toArray 89
  have e1 := ((Ext.refl w).alloc (.cells [.int .i64 k.life, .int .i64 k.conn, .int .i64 k.peer].toArray 31)).alloc (.cells (List.replicate 6 (.int .i64 0)).toArray 89)
  refine Stop.go (wpList_load_arr (b := w.heap.size) (o := 0) rfl (vs := [.int .i64 k.life, .int .i64 k.conn, .int .i64 k.peer]) a0.rangeAll _ Tryd.underlying31 rfl (by kernel_rfl) ?_)
  go_wp2_with fail
  refine keysId_c _ k 6 epoch side _ ?_
  intro w2 e2
  have e12 := e1.trans e2
  have a2 := a1.ext e2
  go_wp2_with (with_reducible refine stop_store 89 ?_)
  refine Stop.go (wpList_store_arr (b := w.heap.size + 1) (o := 0) rfl (vs := (k.id 6 epoch side).l.map I64) rfl (cs := List.replicate 6 (.int .i64 0)) a2 (by simp [Kid.l]) (by kernel_rfl) (i64_one _) ?_)
  intro w3 a3 hk3
  rw [splice_all _ _ (by simp [Kid.l])] at a3
  go_wp2_with fail
  refine ret_cell rfl rfl a3 _ Tryd.underlying89 rfl (by kernel_rfl) rfl ?_
  exact HO.out _ (e12.new1 hk3 (by omega))

/-! ### the pipe -/
structure LaneS where
  epoch : Int
  seq : Int
  count : Int
structure PipeS where
  keys : KeysS
  side : Nat
  sb : Int
  eb : Int
  l0 : LaneS
  l1 : LaneS
  closed : Bool
def PipeS.lane (s : PipeS) (i : Nat) : LaneS := if i = 0 then s.l0 else s.l1
def PipeS.setLane (s : PipeS) (i : Nat) (l : LaneS) : PipeS := if i = 0 then { s with l0 := l } else { s with l1 := l }
def PipeS.cs (b : Nat) (s : PipeS) : Array Value :=
  #[.pointer (some ⟨b, 0, none⟩), .int .i64 s.keys.life, .int .i64 s.keys.conn, .int .i64 s.keys.peer, .int .i64 s.side, .int .i64 0, .int .i64 s.sb, .int .i64 0, .int .i64 0, .int .i64 0, .int .i64 s.eb, .int .i64 0,
    .int .i64 s.l0.epoch, .int .i64 s.l0.seq, .int .i64 s.l0.count, .int .i64 s.l1.epoch, .int .i64 s.l1.seq, .int .i64 s.l1.count, .bool s.closed]
/-- Block p is a pipe of the box b. -/
def PipeAt (w : World) (p b : Nat) (s : PipeS) : Prop := At w p (s.cs b)
def PipeS.spent (s : PipeS) (i : Nat) : Bool := (s.sb == 0) || decide (s.eb < (s.lane i).epoch)
def LaneS.step (l : LaneS) (sb : Int) : LaneS :=
  if wrap64 (l.seq + 1) = sb then ⟨wrap64 (l.epoch + 1), 0, wrap64 (l.count + 1)⟩ else ⟨l.epoch, wrap64 (l.seq + 1), wrap64 (l.count + 1)⟩
def PipeS.step (s : PipeS) (i : Nat) : PipeS := s.setLane i ((s.lane i).step s.sb)
theorem PipeAt.noB {w : World} {p b : Nat} {s : PipeS} (h : PipeAt w p b s) : NoB w p := by
  refine At.noB h ?_
  intro v hv u e
  subst e
  simp [PipeS.cs, B] at hv

def openE (s : PipeS) : Int := if s.closed then 14 else 0
theorem pipeOpen_c (w : World) (p b : Nat) (s : PipeS) (h : PipeAt w p b s) (K : Ending → World → Prop) (hK : K (.returned (.int .i64 (openE s))) w) :
    Calls Tryd.prog 38 #[.pointer (some ⟨p, 0, none⟩)] w K := by
  have c0 : w.cell? ⟨p, 0, none⟩ = some (.pointer (some ⟨b, 0, none⟩)) := At.cell h rfl
  have c18 : w.cell? ⟨p, 18, none⟩ = some (.bool s.closed) := At.cell h rfl
  unfold openE at hK
  cases hc : s.closed with
  | true =>
    rw [hc] at hK c18
    simp only [if_true] at hK
    go_enter Tryd.func38, Tryd.ntmps38
    go_wp2_with fail
    exact hK
  | false =>
    rw [hc] at hK c18
    simp only [if_false, Bool.false_eq_true] at hK
    go_enter Tryd.func38, Tryd.ntmps38
    go_wp2_with fail
    exact hK
theorem pipeOpen_nil (w : World) (K : Ending → World → Prop) (hK : K (.returned (.int .i64 2)) w) : Calls Tryd.prog 38 #[.pointer none] w K := by
  go_enter Tryd.func38, Tryd.ntmps38
  go_wp2_with fail
  exact hK
theorem pipeOpen_unmade (w : World) (p : Nat) (cs : Array Value) (h : At w p cs) (hm : cs[0]? = some (.pointer none)) (K : Ending → World → Prop) (hK : K (.returned (.int .i64 2)) w) :
    Calls Tryd.prog 38 #[.pointer (some ⟨p, 0, none⟩)] w K := by
  have c0 : w.cell? ⟨p, 0, none⟩ = some (.pointer none) := At.cell h hm
  go_enter Tryd.func38, Tryd.ntmps38
  go_wp2_with fail
  exact hK

theorem spent_c (w : World) (p b : Nat) (s : PipeS) (h : PipeAt w p b s) (X : Int) (i : Nat) (hX : X = i) (hi : i < 2) (K : Ending → World → Prop) (hK : ∀ w', Ext w w' → w'.heap = w.heap → K (.returned (.bool (s.spent i))) w') :
    Calls Tryd.prog 60 #[.pointer (some ⟨p, 0, none⟩), .int .i64 X] w K := by
  subst hX
  have c6 : w.cell? ⟨p, 6, none⟩ = some (.int .i64 s.sb) := At.cell h rfl
  have c10 : w.cell? ⟨p, 10, none⟩ = some (.int .i64 s.eb) := At.cell h rfl
  have c12 : w.cell? ⟨p, 12, none⟩ = some (.int .i64 s.l0.epoch) := At.cell h rfl
  have c15 : w.cell? ⟨p, 15, none⟩ = some (.int .i64 s.l1.epoch) := At.cell h rfl
  unfold PipeS.spent PipeS.lane at hK
  have HO : Hid _ := hK
  clear hK
  have hfin : ∀ v, v = ((s.sb == 0) || decide (s.eb < (if i = 0 then s.l0 else s.l1).epoch)) → Hid (∀ w', Ext w w' → w'.heap = w.heap → K (.returned (.bool v)) w') := fun v hv => by
    subst hv
    exact HO.out
  clear HO
  by_cases h0 : s.sb = 0
  · have HN := hfin true (by simp [h0])
    clear hfin
    rcases (by omega : i = 0 ∨ i = 1) with rfl | rfl
    all_goals
      go_enter Tryd.func60, Tryd.ntmps60
      go_wp2_with fail
      go_quiet (fail)
      obtain ⟨wq, hq, e1, e2, hh⟩ := drewN_abs w nq
      rw [hq]
      go_wp2_with fail
      exact HN.out _ e1 hh
  · have h0' : (s.sb == 0) = false := by simpa using h0
    rcases (by omega : i = 0 ∨ i = 1) with rfl | rfl
    · have HN := hfin (decide (s.eb < s.l0.epoch)) (by simp [h0'])
      clear hfin
      go_enter Tryd.func60, Tryd.ntmps60
      go_wp2_with fail
      go_quiet (fail)
      obtain ⟨wq, hq, e1, e2, hh⟩ := drewN_abs w nq
      rw [hq]
      go_wp2_with fail
      exact HN.out _ e1 hh
    · have HN := hfin (decide (s.eb < s.l1.epoch)) (by simp [h0'])
      clear hfin
      go_enter Tryd.func60, Tryd.ntmps60
      go_wp2_with fail
      go_quiet (fail)
      obtain ⟨wq, hq, e1, e2, hh⟩ := drewN_abs w nq
      rw [hq]
      go_wp2_with fail
      exact HN.out _ e1 hh

set_option maxHeartbeats 1000000 in
theorem step_c (w : World) (p b : Nat) (s : PipeS) (h : PipeAt w p b s) (X : Int) (i : Nat) (hX : X = i) (hi : i < 2) (K : Ending → World → Prop)
    (hK : ∀ w', Kp (fun y => y = p) w w' → PipeAt w' p b (s.step i) → K (.returned (.tuple #[])) w') :
    Calls Tryd.prog 62 #[.pointer (some ⟨p, 0, none⟩), .int .i64 X] w K := by
  subst hX
  obtain ⟨⟨kl, kc, kp⟩, side, sb, eb, ⟨e0, q0, n0⟩, ⟨e1, q1, n1⟩, cl⟩ := s
  unfold PipeAt PipeS.cs at h
  dsimp only at h
  unfold PipeS.step PipeS.setLane PipeS.lane LaneS.step at hK
  dsimp only at hK
  have HO : Hid _ := hK
  clear hK
  have c6 : w.cell? ⟨p, 6, none⟩ = some (.int .i64 sb) := At.cell h rfl
  rcases (by omega : i = 0 ∨ i = 1) with rfl | rfl
  · have HN0 := HO.out
    simp only [reduceIte, Nat.one_ne_zero] at HN0
    clear HO
    have HO : Hid _ := HN0
    clear HN0
    have c12 : w.cell? ⟨p, 12, none⟩ = some (.int .i64 e0) := At.cell h rfl
    have c13 : w.cell? ⟨p, 13, none⟩ = some (.int .i64 q0) := At.cell h rfl
    have c14 : w.cell? ⟨p, 14, none⟩ = some (.int .i64 n0) := At.cell h rfl
    have f12 := h.frozen 12
    have f13 := h.frozen 13
    have f14 := h.frozen 14
    go_enter Tryd.func62, Tryd.ntmps62
    go_wp2_with fail
    have h2 := (h.set 14 (.int .i64 (wrap64 (n0 + 1)))).set 13 (.int .i64 (wrap64 (q0 + 1)))
    have k2 := (Kp.set1 w ⟨p, 14, none⟩ (.int .i64 (wrap64 (n0 + 1)))).trans (Kp.set1 _ ⟨p, 13, none⟩ (.int .i64 (wrap64 (q0 + 1)))) (T := fun y => y = p) (fun _ _ h => h) (fun _ _ h => h)
    generalize wrap64 (n0 + 1) = nn at *
    generalize wrap64 (q0 + 1) = qq at *
    generalize ((w.setCell ⟨p, 14, none⟩ (.int .i64 nn)).setCell ⟨p, 13, none⟩ (.int .i64 qq)) = w2 at h2 k2 ⊢
    clear c6 c12 c13 c14 f12 f13 f14
    have c6 : w2.cell? ⟨p, 6, none⟩ = some (.int .i64 sb) := At.cell h2 rfl
    have c13 : w2.cell? ⟨p, 13, none⟩ = some (.int .i64 qq) := At.cell h2 rfl
    go_quiet (fail)
    obtain ⟨w3, hq, x1, x2, hh⟩ := drewN_abs w2 nq
    rw [hq]
    clear hq hh c6 c13
    have h3 := h2.ext x1
    have k3 := k2.ext x1
    have c12 : w3.cell? ⟨p, 12, none⟩ = some (.int .i64 e0) := At.cell h3 rfl
    have f12 := h3.frozen 12
    have f13 := h3.frozen 13
    have c13 : w3.cell? ⟨p, 13, none⟩ = some (.int .i64 qq) := At.cell h3 rfl
    by_cases hqs : qq = sb
    · have HN := HO.out
      simp only [hqs, if_true, if_false] at HN
      have HN2 : Hid _ := HN
      clear HO HN
      subst hqs
      go_wp2_with fail
      go_end0
      exact HN2.out _ (k3.trans ((Kp.set1 w3 ⟨p, 12, none⟩ _).trans (Kp.set1 _ ⟨p, 13, none⟩ _) (T := fun y => y = p) (fun _ _ h => h) (fun _ _ h => h)) (fun _ _ h => h) (fun _ _ h => h)) ((h3.set 12 _).set 13 _)
    · have hb : (qq == sb) = false := by simpa using hqs
      have HN := HO.out
      simp only [hqs, if_true, if_false] at HN
      have HN2 : Hid _ := HN
      clear HO HN
      go_wp2_with fail
      go_end0
      exact HN2.out _ k3 h3
  · have HN0 := HO.out
    simp only [reduceIte, Nat.one_ne_zero] at HN0
    clear HO
    have HO : Hid _ := HN0
    clear HN0
    have c12 : w.cell? ⟨p, 15, none⟩ = some (.int .i64 e1) := At.cell h rfl
    have c13 : w.cell? ⟨p, 16, none⟩ = some (.int .i64 q1) := At.cell h rfl
    have c14 : w.cell? ⟨p, 17, none⟩ = some (.int .i64 n1) := At.cell h rfl
    have f12 := h.frozen 15
    have f13 := h.frozen 16
    have f14 := h.frozen 17
    go_enter Tryd.func62, Tryd.ntmps62
    go_wp2_with fail
    have h2 := (h.set 17 (.int .i64 (wrap64 (n1 + 1)))).set 16 (.int .i64 (wrap64 (q1 + 1)))
    have k2 := (Kp.set1 w ⟨p, 17, none⟩ (.int .i64 (wrap64 (n1 + 1)))).trans (Kp.set1 _ ⟨p, 16, none⟩ (.int .i64 (wrap64 (q1 + 1)))) (T := fun y => y = p) (fun _ _ h => h) (fun _ _ h => h)
    generalize wrap64 (n1 + 1) = nn at *
    generalize wrap64 (q1 + 1) = qq at *
    generalize ((w.setCell ⟨p, 17, none⟩ (.int .i64 nn)).setCell ⟨p, 16, none⟩ (.int .i64 qq)) = w2 at h2 k2 ⊢
    clear c6 c12 c13 c14 f12 f13 f14
    have c6 : w2.cell? ⟨p, 6, none⟩ = some (.int .i64 sb) := At.cell h2 rfl
    have c13 : w2.cell? ⟨p, 16, none⟩ = some (.int .i64 qq) := At.cell h2 rfl
    go_quiet (fail)
    obtain ⟨w3, hq, x1, x2, hh⟩ := drewN_abs w2 nq
    rw [hq]
    clear hq hh c6 c13
    have h3 := h2.ext x1
    have k3 := k2.ext x1
    have c12 : w3.cell? ⟨p, 15, none⟩ = some (.int .i64 e1) := At.cell h3 rfl
    have f12 := h3.frozen 15
    have f13 := h3.frozen 16
    have c13 : w3.cell? ⟨p, 16, none⟩ = some (.int .i64 qq) := At.cell h3 rfl
    by_cases hqs : qq = sb
    · have HN := HO.out
      simp only [hqs, if_true, if_false] at HN
      have HN2 : Hid _ := HN
      clear HO HN
      subst hqs
      go_wp2_with fail
      go_end0
      exact HN2.out _ (k3.trans ((Kp.set1 w3 ⟨p, 15, none⟩ _).trans (Kp.set1 _ ⟨p, 16, none⟩ _) (T := fun y => y = p) (fun _ _ h => h) (fun _ _ h => h)) (fun _ _ h => h) (fun _ _ h => h)) ((h3.set 15 _).set 16 _)
    · have hb : (qq == sb) = false := by simpa using hqs
      have HN := HO.out
      simp only [hqs, if_true, if_false] at HN
      have HN2 : Hid _ := HN
      clear HO HN
      go_wp2_with fail
      go_end0
      exact HN2.out _ k3 h3

end Go.Proofs.YtdlaojpjkijccaaDoor
