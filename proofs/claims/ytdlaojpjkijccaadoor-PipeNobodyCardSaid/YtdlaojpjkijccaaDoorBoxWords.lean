/- Words and laws of the box: its state, comparing ids, the map of uses. -/
import Derived.Test.YtdlaojpjkijccaaDoorKeys
import Derived.Test.YtdlaojpjkijccaaDoorBytes
import Derived.Test.YtdlaojpjkijccaaDoorOwnRows
import Derived.Laws.StructEq
import Derived.WideKeyEntry
import Derived.DeepKeys4
set_option linter.unusedVariables false
set_option linter.unusedSimpArgs false
namespace Go.Proofs.YtdlaojpjkijccaaDoor
open Go.RowKit

theorem kid_beq (k k' : Kid) : (k.label == k'.label && (k.epoch == k'.epoch && (k.life == k'.life && (k.num == k'.num && (k.side == k'.side && k.peer == k'.peer))))) = decide (k = k') := by
  obtain ⟨a1, a2, a3, a4, a5, a6⟩ := k
  obtain ⟨b1, b2, b3, b4, b5, b6⟩ := k'
  simp only [Kid.mk.injEq, Bool.decide_and]
  rfl
theorem run_part_int (w : World) (t : TypeId) (k : IntKind) (cs : Array Value) (j : Nat) (v : Value) (hu : Tryd.prog.underlying t = some (.int k)) (hs : (Tryd.prog.info? t).map (·.size) = some 1) (hv : cs[j]? = some v) :
    (part t cs j).run Tryd.prog w = .ok v w := by
  cases hq : Tryd.prog.info? t with
  | none => simp [hq] at hs
  | some i =>
    have h1 : i.size = 1 := by simpa [hq] using hs
    simp [part, isAgg, run_underlying hu, sizeOf, typeInfo, hq, h1, hv]
theorem size_int : (Tryd.prog.info? 3).map (·.size) = some 1 := by kernel_rfl
theorem held_kid : Tryd.prog.stoodInHeld 89 = false := by kernel_rfl
theorem run_eqf_cons (w : World) (d : Nat) (xs ys : Array Value) (f : Field) (fs : List Field) (a b : Int) (hn : (f.name ≠ "_")) (ht : f.type = 3) (hx : xs[f.offset]? = some (.int .i64 a)) (hy : ys[f.offset]? = some (.int .i64 b)) :
    (Op.eqFields (d + 1) xs ys (f :: fs)).run Tryd.prog w = if a = b then (Op.eqFields (d + 1) xs ys fs).run Tryd.prog w else .ok false w := by
  have h1 := run_part_int w 3 .i64 xs f.offset _ Tryd.underlying3 size_int hx
  have h2 := run_part_int w 3 .i64 ys f.offset _ Tryd.underlying3 size_int hy
  have h3 := run_equalIn_int (P := Tryd.prog) w d 3 .i64 .i64 a b Tryd.underlying3
  rw [← ht] at h1 h2 h3
  rw [Op.eqFields, if_pos hn]
  simp only [Sem.run_bind, h1, h2, h3, Result.andThen_ok]
  by_cases h : a = b
  · simp [h]
  · have : (a == b) = false := by simpa using h
    simp [h, this, Sem.run_pure]
theorem run_eqf_nil (w : World) (d : Nat) (xs ys : Array Value) : (Op.eqFields d xs ys []).run Tryd.prog w = .ok true w := rfl

theorem run_equalIn_kid (w : World) (d : Nat) (k k' : Kid) : (Op.equalIn (d + 1 + 1) 89 k.v k'.v).run Tryd.prog w = .ok (decide (k = k')) w := by
  have hu := Tryd.underlying89
  have hf : Tryd.prog.underlying 89 = some (.struct (Tryd.prog.fieldsOf 89)) := by unfold Program.fieldsOf; rw [hu]
  rw [Kid.v_eq, Kid.v_eq, run_equalIn_struct w (d + 1) _ _ _ hf held_kid]
  unfold Program.fieldsOf
  rw [hu]
  dsimp only
  rw [run_eqf_cons w d _ _ _ _ k.label k'.label (by decide) rfl rfl rfl, run_eqf_cons w d _ _ _ _ k.epoch k'.epoch (by decide) rfl rfl rfl, run_eqf_cons w d _ _ _ _ k.life k'.life (by decide) rfl rfl rfl,
    run_eqf_cons w d _ _ _ _ k.num k'.num (by decide) rfl rfl rfl, run_eqf_cons w d _ _ _ _ k.side k'.side (by decide) rfl rfl rfl, run_eqf_cons w d _ _ _ _ k.peer k'.peer (by decide) rfl rfl rfl, run_eqf_nil, ← kid_beq]
  by_cases h1 : k.label = k'.label <;> by_cases h2 : k.epoch = k'.epoch <;> by_cases h3 : k.life = k'.life <;> by_cases h4 : k.num = k'.num <;> by_cases h5 : k.side = k'.side <;> by_cases h6 : k.peer = k'.peer <;> simp [h1, h2, h3, h4, h5, h6]

theorem eql_kid (w : World) (k k' : Kid) : (binOp .eql 89 k.v k'.v).run Tryd.prog w = .ok (.bool (decide (k = k'))) w := by
  have h := run_equalIn_kid w 9998 k k'
  rw [Kid.v_eq, Kid.v_eq] at h ⊢
  simp [binOp, Op.equal, Op.maxDepth, h]

/-- A use of a key: its id, and the number. -/
abbrev Use := Kid × Int
def uv (u : Use) : Value := .agg ((u.1.l.map I64 ++ [I64 u.2]).toArray)
theorem uv_eq (u : Use) : uv u = .agg #[.int .i64 u.1.label, .int .i64 u.1.epoch, .int .i64 u.1.life, .int .i64 u.1.num, .int .i64 u.1.side, .int .i64 u.1.peer, .int .i64 u.2] := rfl
theorem held_use : Tryd.prog.stoodInHeld 126 = false := by kernel_rfl
theorem run_part_kid (w : World) (u : Use) : (part 89 #[.int .i64 u.1.label, .int .i64 u.1.epoch, .int .i64 u.1.life, .int .i64 u.1.num, .int .i64 u.1.side, .int .i64 u.1.peer, .int .i64 u.2] 0).run Tryd.prog w = .ok u.1.v w := by
  have hs : (Tryd.prog.info? 89).map (·.size) = some 6 := by kernel_rfl
  cases hq : Tryd.prog.info? 89 with
  | none => simp [hq] at hs
  | some i =>
    have h1 : i.size = 6 := by simpa [hq] using hs
    simp [part, isAgg, run_underlying Tryd.underlying89, sizeOf, typeInfo, hq, h1, Kid.v_eq]
theorem neq_use (w : World) (u u' : Use) : (binOp .neq 126 (uv u) (uv u')).run Tryd.prog w = .ok (.bool (!decide (u = u'))) w := by
  have hu := Tryd.underlying126
  have hf : Tryd.prog.underlying 126 = some (.struct (Tryd.prog.fieldsOf 126)) := by unfold Program.fieldsOf; rw [hu]
  rw [uv_eq, uv_eq]
  simp only [binOp, Op.equal, Op.maxDepth]
  have h := run_equalIn_struct w (9999) _ #[.int .i64 u.1.label, .int .i64 u.1.epoch, .int .i64 u.1.life, .int .i64 u.1.num, .int .i64 u.1.side, .int .i64 u.1.peer, .int .i64 u.2] #[.int .i64 u'.1.label, .int .i64 u'.1.epoch, .int .i64 u'.1.life, .int .i64 u'.1.num, .int .i64 u'.1.side, .int .i64 u'.1.peer, .int .i64 u'.2] hf held_use
  have h2 : (Op.equalIn 10000 126 (.agg #[.int .i64 u.1.label, .int .i64 u.1.epoch, .int .i64 u.1.life, .int .i64 u.1.num, .int .i64 u.1.side, .int .i64 u.1.peer, .int .i64 u.2]) (.agg #[.int .i64 u'.1.label, .int .i64 u'.1.epoch, .int .i64 u'.1.life, .int .i64 u'.1.num, .int .i64 u'.1.side, .int .i64 u'.1.peer, .int .i64 u'.2])).run Tryd.prog w = .ok (decide (u = u')) w := by
    rw [h]
    unfold Program.fieldsOf
    rw [hu]
    dsimp only
    rw [Op.eqFields, if_pos (by decide)]
    simp only [Sem.run_bind, run_part_kid, Result.andThen_ok, run_equalIn_kid w 9997 u.1 u'.1]
    by_cases hk : u.1 = u'.1
    · simp only [hk, decide_true, Bool.not_true, Bool.false_eq_true, if_false]
      rw [run_eqf_cons w 9998 _ _ _ _ u.2 u'.2 (by decide) rfl rfl rfl, run_eqf_nil]
      by_cases hn : u.2 = u'.2
      · have : u = u' := Prod.ext hk hn
        simp [this]
      · have : ¬ u = u' := fun e => hn (by rw [e])
        simp [this, hn]
    · have : ¬ u = u' := fun e => hk (by rw [e])
      simp [hk, this, Sem.run_pure]
  simp [h2]

theorem eqGuard_off (w : World) (op : BinOp) (T : TypeId) (x y : Operand) (u v : Array Value) (h : Tryd.prog.eqGuardType Tryd.prog.depth T = false) : (eqGuard op T x y (.agg u) (.agg v)).run Tryd.prog w = .ok () w := by
  unfold eqGuard
  cases op <;> simp [h, Sem.run_pure, run_program]
theorem wpList_bin {w : World} {ops : Array Oper} {rest : List Oper} {a : Act} {Q : Exit → Act → World → Prop} {d : Option Tmp} {x y : Operand} {op : BinOp} {T Ty ty : TypeId} {pos : String} {after : Array Edge} {g : Option (Nat × Bool)}
    (hw : Region.wanted { dst := d, op := .binOp op T x y Ty, type := ty, pos, after, guard := g } (yielded ops a.tmps) = true)
    {u u' : Array Value} (hx : a.eval x = .agg u) (hy : a.eval y = .agg u') (h0 : Tryd.prog.eqGuardType Tryd.prog.depth T = false)
    {v : Value} (hrun : (binOp op T (.agg u) (.agg u')).run Tryd.prog w = .ok v w)
    (h : wpList Tryd.prog ops Q rest (a.put d v) w) : wpList Tryd.prog ops Q ({ dst := d, op := .binOp op T x y Ty, type := ty, pos, after, guard := g } :: rest) a w := by
  have hgd := eqGuard_off w op T x y u u' h0
  refine wpList_step fun K hK => ?_
  rw [if_pos hw]
  unfold Oper.wp
  simp [execOp, hx, hy, hgd, hrun, Result.andThen]
  exact hK _ _ h
theorem guard_kid : Tryd.prog.eqGuardType Tryd.prog.depth 89 = false := by kernel_rfl
theorem guard_use : Tryd.prog.eqGuardType Tryd.prog.depth 126 = false := by kernel_rfl
theorem stop_bin {P : Program} {w : World} {ops : Array Oper} {rest : List Oper} {a : Act} {Q : Exit → Act → World → Prop} {d : Option Tmp} {x y : Operand} {op : BinOp} (T : TypeId) {Ty ty : TypeId} {pos : String} {after : Array Edge} {g : Option (Nat × Bool)}
    (h : Stop (wpList P ops Q ({ dst := d, op := .binOp op T x y Ty, type := ty, pos, after, guard := g } :: rest) a w)) :
    wpList P ops Q ({ dst := d, op := .binOp op T x y Ty, type := ty, pos, after, guard := g } :: rest) a w := h

/-! ### the map of uses -/
theorem laidOut : laidOutB Tryd.prog = true := by kernel_rfl
theorem use_row : (126 : TypeId) < Tryd.prog.types.size := Nat.le_of_ble_eq_true (by kernel_rfl)
theorem use_at : Tryd.prog.keyTypeAt 3 126 = true := by kernel_rfl
theorem use_law : WideMaps.KeyLaw Tryd.prog 126 := @deep_law_laid Tryd.prog laidOut 3 (by omega) 126 use_row use_at (by rw [Tryd.underlying126])
theorem use_keyType : Tryd.prog.keyType 126 = true := by kernel_rfl
theorem use_cells : Tryd.prog.cellsOf 126 = 7 := by kernel_rfl
theorem kid_cells : Tryd.prog.cellsOf 89 = 6 := by kernel_rfl
theorem int_cells : Tryd.prog.cellsOf 3 = 1 := by kernel_rfl
theorem types_many : ∃ m, Tryd.prog.types.size = m + 3 := by
  have h : decide (3 ≤ Tryd.prog.types.size) = true := by kernel_rfl
  have h2 := of_decide_eq_true h
  exact ⟨Tryd.prog.types.size - 3, by omega⟩
def i64In (n : Int) : Prop := -9223372036854775808 ≤ n ∧ n ≤ 9223372036854775807
theorem wf_i64 (n : Int) (h : i64In n) : (Lit.int .i64 n).wf = true := by
  obtain ⟨h1, h2⟩ := h
  have e : IntKind.i64.min = -9223372036854775808 := by decide
  simp [Lit.wf, e]
  omega
theorem wf_kid (k : Kid) (h : k.ok = true) : (i64In k.label ∧ i64In k.epoch ∧ i64In k.life ∧ i64In k.num ∧ i64In k.side ∧ i64In k.peer) := by
  simp [Kid.ok, Kid.l, okNum] at h
  unfold i64In
  omega
set_option maxHeartbeats 400000 in
theorem use_key (u : Use) (h1 : u.1.ok = true) (h2 : okNum u.2 = true) : ∃ l, keyOf Tryd.prog 126 (uv u) = some l := by
  obtain ⟨a1, a2, a3, a4, a5, a6⟩ := wf_kid u.1 h1
  have a7 : i64In u.2 := by simp [okNum] at h2; unfold i64In; omega
  replace a1 := wf_i64 _ a1
  replace a2 := wf_i64 _ a2
  replace a3 := wf_i64 _ a3
  replace a4 := wf_i64 _ a4
  replace a5 := wf_i64 _ a5
  replace a6 := wf_i64 _ a6
  replace a7 := wf_i64 _ a7
  obtain ⟨m, hm⟩ := types_many
  have hu := Tryd.underlying126
  have hk := Tryd.underlying89
  have hi := Tryd.underlying3
  have hl : ∃ ls, Tryd.prog.keyLits (m + 4) 126 [.int .i64 u.1.label, .int .i64 u.1.epoch, .int .i64 u.1.life, .int .i64 u.1.num, .int .i64 u.1.side, .int .i64 u.1.peer, .int .i64 u.2] = some ls := by
    have h6 : ∃ ls, Tryd.prog.keyLits (m + 3) 89 [.int .i64 u.1.label, .int .i64 u.1.epoch, .int .i64 u.1.life, .int .i64 u.1.num, .int .i64 u.1.side, .int .i64 u.1.peer] = some ls := by
      unfold Program.keyLits
      rw [hk]
      dsimp only
      rw [if_pos ⟨by rw [kid_cells]; rfl, by kernel_rfl⟩]
      simp [int_cells, Program.keyLits, hi, a1, a2, a3, a4, a5, a6]
    obtain ⟨l6, h6⟩ := h6
    unfold Program.keyLits
    rw [hu]
    dsimp only
    rw [if_pos ⟨by rw [use_cells]; rfl, by kernel_rfl⟩]
    simp [kid_cells, int_cells, h6]
    simp [Program.keyLits, hi, a7]
  obtain ⟨ls, hl⟩ := hl
  refine ⟨.string (keyBytes ls), ?_⟩
  rw [uv_eq]
  unfold keyOf
  rw [hu]
  simp only [use_keyType, hm, Value.formed, hu, use_cells, Value.cells]
  simp
  exact ⟨ls, hl, rfl⟩

open Go.ChangeMaps (setBlock) in
theorem kp_setBlock (w : World) (m : Nat) (o : Obj) : Kp (fun k => k = m) w (setBlock w m o) :=
  ⟨rfl, rfl, rfl, by simp [setBlock], fun k hk hn => by
    simp only [setBlock]
    simp [Array.getElem?_setIfInBounds, Ne.symm hn]⟩

/-- Block m is a map of uses, none but those of us. -/
def MapU (w : World) (m : Nat) (us : List Use) : Prop :=
  ∃ es clock, w.heap[m]? = some (.map es clock) ∧ (∀ x ∈ es.toList, x.born < clock) ∧ (es.toList.map (·.born)).Nodup ∧ es.toList.Pairwise (fun x y => x.key ≠ y.key) ∧
    ∀ e ∈ es.toList, ∃ u ∈ us, u.1.ok = true ∧ okNum u.2 = true ∧ e.key = uv u ∧ ∃ c, e.val = .int .i64 c
theorem uv_inj (u v : Use) (h : uv u = uv v) : u = v := by
  obtain ⟨⟨a1, a2, a3, a4, a5, a6⟩, a7⟩ := u
  obtain ⟨⟨b1, b2, b3, b4, b5, b6⟩, b7⟩ := v
  simpa [uv_eq, and_assoc] using h
theorem MapU.kp {S : Nat → Prop} {w w' : World} {m : Nat} {us : List Use} (h : MapU w m us) (k : Kp S w w') (hm : ¬ S m) : MapU w' m us := by
  obtain ⟨es, clock, h1, r⟩ := h
  exact ⟨es, clock, k.heap h1 hm, r⟩
theorem MapU.lt {w : World} {m : Nat} {us : List Use} (h : MapU w m us) : m < w.heap.size := by
  obtain ⟨es, clock, h1, r⟩ := h
  exact (Array.getElem?_eq_some_iff.1 h1).1
theorem MapU.noB {w : World} {m : Nat} {us : List Use} (h : MapU w m us) : NoB w m := by
  obtain ⟨es, clock, h1, r⟩ := h
  intro ad v ha hc
  subst ha
  simp [World.cell?, h1] at hc
theorem MapU.keys {es : Array MapEntry} {us : List Use} (h : ∀ e ∈ es.toList, ∃ u ∈ us, u.1.ok = true ∧ okNum u.2 = true ∧ e.key = uv u ∧ ∃ c, e.val = .int .i64 c) : ∀ e ∈ es.toList, ∃ l, keyOf Tryd.prog 126 e.key = some l := by
  intro e he
  obtain ⟨u, _, h1, h2, h3, _⟩ := h e he
  rw [h3]
  exact use_key u h1 h2
theorem zero_int (w : World) : (zeroValue 3).run Tryd.prog w = .ok (.int .i64 0) w := by
  have h : (Tryd.prog.info? 3).map (·.zero) = some (some (.int .i64 0)) := by kernel_rfl
  cases hq : Tryd.prog.info? 3 with
  | none => simp [hq] at h
  | some i =>
    have h1 : i.zero = some (.int .i64 0) := by simpa [hq] using h
    simp [zeroValue, typeInfo, hq, h1]

theorem run_lookup_use (w : World) (m : Nat) (us : List Use) (u : Use) (hm : MapU w m us) (h1 : u.1.ok = true) (h2 : okNum u.2 = true) :
    ∃ c, (∀ w', w'.heap = w.heap → (Instr.lookup 79 (.map (some m)) (uv u) false).run Tryd.prog w' = .ok (.int .i64 c) w') ∧ (u ∉ us → c = 0) := by
  obtain ⟨es, clock, hb, hs1, hs2, hs3, he⟩ := hm
  obtain ⟨l, hkey⟩ := use_key u h1 h2
  have ht := Tryd.underlying79
  rcases use_law.find w hkey es.toList (MapU.keys he) with ⟨h3, h4⟩ | ⟨j, e, h3, h4, h5⟩
  · refine ⟨0, fun w' hw' => ?_, fun _ => rfl⟩
    have hb' : w'.heap[m]? = some (.map es clock) := by rw [hw']; exact hb
    rcases use_law.find w' hkey es.toList (MapU.keys he) with ⟨h3', _⟩ | ⟨j, e, _, h4', h5'⟩
    · simp [Instr.lookup, run_underlying ht, MapKept.run_getObj_map hb', use_law.check w' _ hkey, h3', zero_int, Result.andThen]
    · exact absurd h5' (h4 e (List.mem_of_getElem? h4'))
  · obtain ⟨u', hu', _, _, h6, c, h7⟩ := he e (List.mem_of_getElem? h4)
    refine ⟨c, fun w' hw' => ?_, fun hn => absurd ?_ hn⟩
    · have hb' : w'.heap[m]? = some (.map es clock) := by rw [hw']; exact hb
      rcases use_law.find w' hkey es.toList (MapU.keys he) with ⟨_, h4'⟩ | ⟨j', e', h3', h4', h5'⟩
      · exact absurd h5 (h4' e (List.mem_of_getElem? h4))
      · have hee : e' = e := by
          have hj : j < es.toList.length := (List.getElem?_eq_some_iff.1 h4).1
          have hj' : j' < es.toList.length := (List.getElem?_eq_some_iff.1 h4').1
          have q := (List.getElem?_eq_some_iff.1 h4).2
          have q' := (List.getElem?_eq_some_iff.1 h4').2
          rcases Nat.lt_trichotomy j j' with h | h | h
          · have := List.pairwise_iff_getElem.1 hs3 j j' hj hj' h
            rw [q, q', h5, h5'] at this
            exact absurd rfl this
          · subst h
            rw [← q, ← q']
          · have := List.pairwise_iff_getElem.1 hs3 j' j hj' hj h
            rw [q, q', h5, h5'] at this
            exact absurd rfl this
        subst hee
        simp [Instr.lookup, run_underlying ht, MapKept.run_getObj_map hb', use_law.check w' _ hkey, h3', h7, Result.andThen]
    · rw [h5] at h6
      rw [uv_inj u u' h6]
      exact hu'

open Go.ChangeMaps (setBlock heap_setBlock_same) in
theorem run_entry_use (w : World) (m : Nat) (us : List Use) (u : Use) (hm : MapU w m us) (h1 : u.1.ok = true) (h2 : okNum u.2 = true) :
    ∃ v0 st w1, (Instr.mapEntry 79 (.map (some m)) (uv u)).run Tryd.prog w = .ok (.tuple #[v0, goInt st]) w1 ∧ Kp (fun k => k = m) w w1 ∧ MapU w1 m (u :: us) ∧
      ∀ w2 c, w2.heap[m]? = w1.heap[m]? → ∃ w3, (Instr.entryStore 79 (.map (some m)) (goInt st) (.int .i64 c)).run Tryd.prog w2 = .ok () w3 ∧ Kp (fun k => k = m) w2 w3 ∧ MapU w3 m (u :: us) := by
  have hlt := hm.lt
  obtain ⟨es, clock, hb, hs1, hs2, hs3, he⟩ := hm
  obtain ⟨l, hkey⟩ := use_key u h1 h2
  have ht := Tryd.underlying79
  rcases use_law.find w hkey es.toList (MapU.keys he) with ⟨h3, h4⟩ | ⟨j, e, h3, h4, h5⟩
  · refine ⟨.int .i64 0, (clock : Int), setBlock w m (.map (es.push ⟨uv u, .int .i64 0, clock⟩) (clock + 1)), ?_, kp_setBlock _ _ _, ?_, ?_⟩
    · simp [Instr.mapEntry, run_underlying ht, MapKept.run_getObj_map hb, use_law.check w false hkey, h3, zero_int, MapKept.run_setObj_map _ hb, Result.andThen, setBlock]
    · refine ⟨_, _, heap_setBlock_same hb _, ?_, ?_, ?_, ?_⟩
      · intro x hx
        simp only [Array.toList_push, List.mem_append, List.mem_singleton] at hx
        rcases hx with hx | rfl
        · have := hs1 x hx; omega
        · simp
      · simp only [Array.toList_push, List.map_append, List.map_cons, List.map_nil]
        refine List.nodup_append.2 ⟨hs2, by simp, fun a ha c hc e1 => ?_⟩
        simp only [List.mem_singleton] at hc
        obtain ⟨x, hx, rfl⟩ := List.mem_map.1 ha
        have := hs1 x hx
        omega
      · simp only [Array.toList_push]
        refine List.pairwise_append.2 ⟨hs3, by simp, fun a ha c hc => ?_⟩
        rw [List.mem_singleton.1 hc]
        exact h4 a ha
      · intro x hx
        simp only [Array.toList_push, List.mem_append, List.mem_singleton] at hx
        rcases hx with hx | rfl
        · obtain ⟨u', h6, r⟩ := he x hx
          exact ⟨u', List.mem_cons_of_mem _ h6, r⟩
        · exact ⟨u, List.mem_cons_self, h1, h2, rfl, 0, rfl⟩
    · intro w2 c hw2
      rw [heap_setBlock_same hb] at hw2
      have hidx : (es.push ⟨uv u, .int .i64 0, clock⟩).findIdx? (fun e => ((e.born : Nat) : Int) == ((clock : Nat) : Int)) = some es.size := by
        rw [WideElems.findIdx_arr]
        exact WideElems.findIdx_born (l := (es.push ⟨uv u, .int .i64 0, clock⟩).toList) (j := es.size) (e0 := ⟨uv u, .int .i64 0, clock⟩) (by
          simp only [Array.toList_push, List.map_append, List.map_cons, List.map_nil]
          refine List.nodup_append.2 ⟨hs2, by simp, fun a ha c hc e1 => ?_⟩
          simp only [List.mem_singleton] at hc
          obtain ⟨x, hx, rfl⟩ := List.mem_map.1 ha
          have := hs1 x hx
          omega) (by simp)
      have hmod : (es.push ⟨uv u, .int .i64 0, clock⟩).modify es.size (fun e => { e with val := .int .i64 c }) = es.push ⟨uv u, .int .i64 c, clock⟩ := by
        apply Array.ext'
        rw [Array.toList_modify, Array.toList_push, Array.toList_push, ← Array.length_toList, WideElems.modify_last]
      refine ⟨setBlock w2 m (.map (es.push ⟨uv u, .int .i64 c, clock⟩) (clock + 1)), ?_, kp_setBlock _ _ _, ?_⟩
      · simp [Instr.entryStore, MapKept.run_getObj_map hw2, asInt, asIntOf, goInt, hidx, hmod, MapKept.run_setObj_map _ hw2, Result.andThen, setBlock]
      · refine ⟨_, _, heap_setBlock_same hw2 _, ?_, ?_, ?_, ?_⟩
        · intro x hx
          simp only [Array.toList_push, List.mem_append, List.mem_singleton] at hx
          rcases hx with hx | rfl
          · have := hs1 x hx; omega
          · simp
        · simp only [Array.toList_push, List.map_append, List.map_cons, List.map_nil]
          refine List.nodup_append.2 ⟨hs2, by simp, fun a ha c hc e1 => ?_⟩
          simp only [List.mem_singleton] at hc
          obtain ⟨x, hx, rfl⟩ := List.mem_map.1 ha
          have := hs1 x hx
          omega
        · simp only [Array.toList_push]
          refine List.pairwise_append.2 ⟨hs3, by simp, fun a ha c hc => ?_⟩
          rw [List.mem_singleton.1 hc]
          exact h4 a ha
        · intro x hx
          simp only [Array.toList_push, List.mem_append, List.mem_singleton] at hx
          rcases hx with hx | rfl
          · obtain ⟨u', h6, r⟩ := he x hx
            exact ⟨u', List.mem_cons_of_mem _ h6, r⟩
          · exact ⟨u, List.mem_cons_self, h1, h2, rfl, c, rfl⟩
  · have hj : es[j]? = some e := by simpa using h4
    have hsame : es.modify j (fun e => { e with key := uv u }) = es := by
      apply Array.ext'
      rw [Array.toList_modify, ChangeMaps.modify_eq_set _ _ _ _ h4]
      have : ({ e with key := uv u } : MapEntry) = e := by rw [← h5]
      rw [this]
      exact WideElems.set_self _ _ _ h4
    refine ⟨e.val, (e.born : Int), setBlock w m (.map es clock), ?_, kp_setBlock _ _ _, ⟨_, _, heap_setBlock_same hb _, hs1, hs2, hs3, fun x hx => by
      obtain ⟨u', h6, r⟩ := he x hx
      exact ⟨u', List.mem_cons_of_mem _ h6, r⟩⟩, ?_⟩
    · simp [Instr.mapEntry, run_underlying ht, MapKept.run_getObj_map hb, use_law.check w false hkey, h3, hj, h5, use_law.stays w hkey, hsame, MapKept.run_setObj_map _ hb, Result.andThen, setBlock]
    · intro w2 c hw2
      rw [heap_setBlock_same hb] at hw2
      have hidx : es.findIdx? (fun e' => ((e'.born : Nat) : Int) == ((e.born : Nat) : Int)) = some j := by
        rw [WideElems.findIdx_arr]
        exact WideElems.findIdx_born hs2 h4
      refine ⟨setBlock w2 m (.map (es.modify j (fun e' => { e' with val := .int .i64 c })) clock), ?_, kp_setBlock _ _ _, ?_⟩
      · simp [Instr.entryStore, MapKept.run_getObj_map hw2, asInt, asIntOf, goInt, hidx, MapKept.run_setObj_map _ hw2, Result.andThen, setBlock]
      · have hl : (es.modify j (fun e' => { e' with val := .int .i64 c })).toList = es.toList.set j { e with val := .int .i64 c } := by
          rw [Array.toList_modify, ChangeMaps.modify_eq_set _ _ _ _ h4]
        refine ⟨_, _, heap_setBlock_same hw2 _, ?_, ?_, ?_, ?_⟩
        · intro x hx
          rw [hl] at hx
          rcases List.mem_or_eq_of_mem_set hx with hx | rfl
          · exact hs1 x hx
          · exact hs1 e (List.mem_of_getElem? h4)
        · rw [hl, List.map_set]
          rw [WideElems.set_self (es.toList.map (·.born)) j e.born (by rw [List.getElem?_map, h4]; rfl)]
          exact hs2
        · have hk2 : ((es.modify j (fun e' => { e' with val := .int .i64 c })).toList.map (·.key)) = es.toList.map (·.key) := by
            rw [hl, List.map_set]
            exact WideElems.set_self _ j e.key (by rw [List.getElem?_map, h4]; rfl)
          have h8 : (es.toList.map (·.key)).Pairwise (fun a b => a ≠ b) := List.pairwise_map.2 hs3
          rw [← hk2] at h8
          exact List.pairwise_map.1 h8
        · intro x hx
          rw [hl] at hx
          rcases List.mem_or_eq_of_mem_set hx with hx | rfl
          · obtain ⟨u', h6, r⟩ := he x hx
            exact ⟨u', List.mem_cons_of_mem _ h6, r⟩
          · exact ⟨u, List.mem_cons_self, h1, h2, h5, c, rfl⟩
end Go.Proofs.YtdlaojpjkijccaaDoor
