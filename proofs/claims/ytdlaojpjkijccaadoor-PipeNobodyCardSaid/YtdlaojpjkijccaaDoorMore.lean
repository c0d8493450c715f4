/- More of the walk's laws: copy. -/
import Derived.Test.YtdlaojpjkijccaaDoorWords
import Derived.Laws.CopyOwn
import Derived.Deep.RegionHeld3
import Derived.Laws.IdiomStrings
import Derived.Deep.AppendLies
import Derived.Lib.SliceRun
set_option linter.unusedVariables false
set_option linter.unusedSimpArgs false
namespace Go.Proofs.YtdlaojpjkijccaaDoor
open Go.RowKit

theorem Kp.setRow (w : World) (g : Nat) (cs : Array Value) : Kp (fun k => k = g) w (w.setRow g cs) :=
  ⟨rfl, rfl, rfl, by simp [World.setRow], fun k hk hn => setRow_other w g k cs hn⟩

theorem run_copy_at (w : World) (dT sT ty elem : TypeId) (hu : Tryd.prog.underlying dT = some (.slice elem)) (hsz : (Tryd.prog.info? elem).map (·.size) = some 1)
    (dp sp : Option Addr) (dLen dCap sLen sCap : Nat) (g off : Nat) (cur : List Value) (hat : At w g cur.toArray) (xs : List Value) (hsrc : Rv w 1 sp sLen sCap xs)
    (hp : 0 < dLen → dp = some ⟨g, off, none⟩) (hfit : off + min sLen dLen ≤ cur.length) :
    ∃ w', (Builtin.copy_ #[dT, sT] ty #[.slice dp dLen dCap, .slice sp sLen sCap]).run Tryd.prog w = .ok (goInt (min sLen dLen : Nat)) w' ∧ At w' g (splice cur off (xs.take dLen)).toArray ∧ Kp (fun k => k = g) w w' := by
  have hl := hsrc.len
  have hle := hsrc.le
  by_cases h0 : min sLen dLen = 0
  · have hx : xs.take dLen = [] := by
      apply List.eq_nil_of_length_eq_zero
      rw [List.length_take]
      omega
    refine ⟨w, ?_, ?_, Kp.refl _ _⟩
    · rw [run_copy_none (P := Tryd.prog) w dT sT ty elem dp sp dLen dCap sLen sCap hu hsz h0, h0]
      rfl
    · rw [hx]
      simpa [splice] using hat
  · have hd := hp (by omega)
    subst hd
    cases sp with
    | none => have := hsrc.nil rfl; omega
    | some ad =>
      obtain ⟨T, hat⟩ := hat
      have hlen : (xs.take dLen).length = min sLen dLen := by rw [List.length_take]; omega
      have hrun := run_copy_row (P := Tryd.prog) w dT sT ty elem g off dLen dCap ad sLen sCap cur.toArray T (xs.take dLen) hu hsz hat hlen (fun j v hj => hsrc.cell ad rfl j v (by
          rw [List.getElem?_take] at hj
          split at hj
          · exact hj
          · cases hj)) (by rw [hlen]; simpa using hfit) (fun v hv => hsrc.one v (List.mem_of_mem_take hv))
      refine ⟨_, hrun.trans (by rw [show ((xs.take dLen).length : Int) = ((min sLen dLen : Nat) : Int) by rw [hlen]]), ?_, Kp.setRow _ _ _⟩
      have h := At.setRow (w := w) (b := g) (cs := cur.toArray) ⟨T, hat⟩ ((cur.take off ++ xs.take dLen ++ cur.drop (off + (xs.take dLen).length)).toArray)
      simpa [splice] using h

theorem wpList_copy_at {w : World} {ops : Array Oper} {rest : List Oper} {a : Act} {Q : Exit → Act → World → Prop} {dst : Option Tmp} {d s : Operand} {dT sT ty : TypeId} {pos : String} {after : Array Edge}
    (elem : TypeId) (hu : Tryd.prog.underlying dT = some (.slice elem)) (hsz : (Tryd.prog.info? elem).map (·.size) = some 1)
    {dp sp : Option Addr} {dLen dCap sLen sCap : Nat} (hd : a.eval d = .slice dp dLen dCap) (hs : a.eval s = .slice sp sLen sCap)
    (g off : Nat) (cur : List Value) (hat : At w g cur.toArray) {xs : List Value} (hsrc : Rv w 1 sp sLen sCap xs)
    (hp : 0 < dLen → dp = some ⟨g, off, none⟩) (hfit : off + min sLen dLen ≤ cur.length)
    (h : ∀ w', At w' g (splice cur off (xs.take dLen)).toArray → Kp (fun k => k = g) w w' → wpList Tryd.prog ops Q rest (a.put dst (goInt (min sLen dLen : Nat))) w') :
    wpList Tryd.prog ops Q ({ dst := dst, op := .call { callee := .builtin .copy, args := #[d, s], argTypes := #[dT, sT] }, type := ty, pos, after, guard := none } :: rest) a w := by
  obtain ⟨w', hrun, h1, h2⟩ := run_copy_at w dT sT ty elem hu hsz dp sp dLen dCap sLen sCap g off cur hat xs hsrc hp hfit
  refine wpList_plain rfl fun K hK => ?_
  unfold Oper.wp
  simp [execOp, resolve, invoke, builtin, hd, hs, hrun, Result.andThen]
  exact hK _ _ (by simpa using h w' h1 h2)

theorem step_copy_at {ops : Array Oper} {o : Oper} {a : Act} {w : World} {K : Act → World → Prop} {Q : Exit → Act → World → Prop} {E : Prop} (hgd : o.guard = none) {d s : Operand} {dT sT : TypeId}
    (ho : o.op = .call { callee := .builtin .copy, args := #[d, s], argTypes := #[dT, sT] }) (elem : TypeId) (hu : Tryd.prog.underlying dT = some (.slice elem)) (hsz : (Tryd.prog.info? elem).map (·.size) = some 1)
    {dp sp : Option Addr} {dLen dCap sLen sCap : Nat} (hd : a.eval d = .slice dp dLen dCap) (hs : a.eval s = .slice sp sLen sCap)
    (g off : Nat) (cur : List Value) (hat : At w g cur.toArray) {xs : List Value} (hsrc : Rv w 1 sp sLen sCap xs)
    (hp : 0 < dLen → dp = some ⟨g, off, none⟩) (hfit : off + min sLen dLen ≤ cur.length)
    (h : ∀ w', At w' g (splice cur off (xs.take dLen)).toArray → Kp (fun k => k = g) w w' → K (a.put o.dst (goInt (min sLen dLen : Nat))) w') :
    if Region.wanted o (yielded ops a.tmps) = true then Oper.wp Tryd.prog o a w K Q else E := by
  have hw : Region.wanted o (yielded ops a.tmps) = true := by simp [Region.wanted, hgd]
  rw [if_pos hw]
  obtain ⟨w', hrun, h1, h2⟩ := run_copy_at w dT sT o.type elem hu hsz dp sp dLen dCap sLen sCap g off cur hat xs hsrc hp hfit
  unfold Oper.wp
  simp [execOp, ho, resolve, invoke, builtin, hd, hs, hrun, Result.andThen]
  exact h w' h1 h2

theorem eql_nil_bytes (w : World) (A : Option Addr) (n c n' c' : Nat) : (binOp .eql 22 (.slice A n c) (.slice none n' c')).run Tryd.prog w = .ok (.bool A.isNone) w :=
  Lib.run_eql_slice_nil w _ _ A n c n' c' Tryd.underlying22
/-! ### a text as a string -/
def Str (xs : List UInt8) : Value := .string ⟨xs.toArray⟩
theorem run_convert_bs (w : World) (src dst e : TypeId) (hs : Tryd.prog.underlying src = some (.slice e)) (he : Tryd.prog.underlying e = some (.int .u8)) (hd : Tryd.prog.underlying dst = some .string)
    (A : Option Addr) (n c : Nat) (xs : List UInt8) (hb : Bs w A n c xs) : (convert src dst (.slice A n c)).run Tryd.prog w = .ok (Str xs) w := by
  have hl := hb.len
  cases A with
  | some ad =>
    have h := run_convert_bytes_back (P := Tryd.prog) w src dst e ad c xs hs he hd (fun j hj => by
      have := hb.cell rfl (show j < n by omega)
      rw [this]
      simp [List.getD, List.getElem?_eq_getElem hj])
    rw [hl] at h
    exact h
  | none =>
    have h0 := Rv.nil hb rfl
    have h1 := Rv.le hb
    have hn : n = 0 := by omega
    subst hn
    have hx : xs = [] := List.eq_nil_of_length_eq_zero (by omega)
    subst hx
    rw [run_convert_bytes_string w src dst e none 0 c hs he hd]
    rfl
theorem wpList_convert_bs {w : World} {ops : Array Oper} {rest : List Oper} {a : Act} {Q : Exit → Act → World → Prop} {d : Option Tmp} {x : Operand} {src dst ty : TypeId} {pos : String} {after : Array Edge}
    (e : TypeId) (hs : Tryd.prog.underlying src = some (.slice e)) (he : Tryd.prog.underlying e = some (.int .u8)) (hd : Tryd.prog.underlying dst = some .string)
    {A : Option Addr} {n c : Nat} {xs : List UInt8} (hx : a.eval x = .slice A n c) (hb : Bs w A n c xs)
    (h : wpList Tryd.prog ops Q rest (a.put d (Str xs)) w) : wpList Tryd.prog ops Q ({ dst := d, op := .convert src dst x, type := ty, pos, after, guard := none } :: rest) a w := by
  have hrun := run_convert_bs w src dst e hs he hd A n c xs hb
  refine wpList_plain rfl fun K hK => ?_
  unfold Oper.wp
  simp [execOp, hx, hrun, Result.andThen]
  exact hK _ _ h
theorem stop_convert {P : Program} {w : World} {ops : Array Oper} {rest : List Oper} {a : Act} {Q : Exit → Act → World → Prop} {d : Option Tmp} {x : Operand} (src dst : TypeId) {ty : TypeId} {pos : String} {after : Array Edge} {g : Option (Nat × Bool)}
    (h : Stop (wpList P ops Q ({ dst := d, op := .convert src dst x, type := ty, pos, after, guard := g } :: rest) a w)) :
    wpList P ops Q ({ dst := d, op := .convert src dst x, type := ty, pos, after, guard := g } :: rest) a w := h
theorem results_row_tmp {fn : Func} {p u : Tmp} {ty : TypeId} (h : fn.results = #[.cell p ty, .tmp u]) (tmps : Array Value) (w : World) (g : Nat) (cs : Array Value) (hat : At w g cs) (d : TypeDesc)
    (hp : tmps.getD p undef = .pointer (some ⟨g, 0, none⟩)) (hu : Tryd.prog.underlying ty = some d) (hd : d.isRow = true) (hi : (Tryd.prog.info? ty).map (·.size) = some cs.size) :
    (results fn tmps).run Tryd.prog w = .ok (.tuple #[.agg cs, tmps.getD u undef]) w := by
  obtain ⟨T, hg⟩ := hat
  have hp' : tmps[p]?.getD undef = .pointer (some ⟨g, 0, none⟩) := by simpa using hp
  simp [results, h, hp', asAddr, run_loadVar_row w g T ty cs (0, 0) d hg hu (by cases d <;> simp_all [TypeDesc.isRow]) hi]
theorem ret_cell_tmp {fn : Func} {p u : Tmp} {ty : TypeId} {R : Ending → World → Prop} {a : Act} {w : World} {g : Nat} {cs : Array Value} (h : fn.results = #[.cell p ty, .tmp u]) (hp : a.tmps.getD p undef = .pointer (some ⟨g, 0, none⟩)) (hat : At w g cs)
    (d : TypeDesc) (hu : Tryd.prog.underlying ty = some d) (hd : d.isRow = true) (hi : (Tryd.prog.info? ty).map (·.size) = some cs.size) (hf : a.defers = []) {v : Value} (hv : a.tmps.getD u undef = v)
    (hR : R (.returned (.tuple #[.agg cs, v])) w) : bodyPost Tryd.prog fn R .ret a w := by
  subst hv
  exact bodyPost_ret (results_row_tmp h a.tmps w g cs hat d hp hu hd hi) hf hR
theorem results_tmp_row_tmp {fn : Func} {p u q : Tmp} {ty : TypeId} (h : fn.results = #[.tmp q, .cell p ty, .tmp u]) (tmps : Array Value) (w : World) (g : Nat) (cs : Array Value) (hat : At w g cs) (d : TypeDesc)
    (hp : tmps.getD p undef = .pointer (some ⟨g, 0, none⟩)) (hu : Tryd.prog.underlying ty = some d) (hd : d.isRow = true) (hi : (Tryd.prog.info? ty).map (·.size) = some cs.size) :
    (results fn tmps).run Tryd.prog w = .ok (.tuple #[tmps.getD q undef, .agg cs, tmps.getD u undef]) w := by
  obtain ⟨T, hg⟩ := hat
  have hp' : tmps[p]?.getD undef = .pointer (some ⟨g, 0, none⟩) := by simpa using hp
  simp [results, h, hp', asAddr, run_loadVar_row w g T ty cs (0, 0) d hg hu (by cases d <;> simp_all [TypeDesc.isRow]) hi]
theorem ret_tmp_cell_tmp {fn : Func} {p u q : Tmp} {ty : TypeId} {R : Ending → World → Prop} {a : Act} {w : World} {g : Nat} {cs : Array Value} (h : fn.results = #[.tmp q, .cell p ty, .tmp u]) (hp : a.tmps.getD p undef = .pointer (some ⟨g, 0, none⟩)) (hat : At w g cs)
    (d : TypeDesc) (hu : Tryd.prog.underlying ty = some d) (hd : d.isRow = true) (hi : (Tryd.prog.info? ty).map (·.size) = some cs.size) (hf : a.defers = []) {v z : Value} (hv : a.tmps.getD u undef = v) (hz : a.tmps.getD q undef = z)
    (hR : R (.returned (.tuple #[z, .agg cs, v])) w) : bodyPost Tryd.prog fn R .ret a w := by
  subst hv hz
  exact bodyPost_ret (results_tmp_row_tmp h a.tmps w g cs hat d hp hu hd hi) hf hR

/-- An operation whose guard lets it run is as one without. -/
theorem wpList_free {P : Program} {ops : Array Oper} {Q : Exit → Act → World → Prop} {a : Act} {w : World} {rest : List Oper} {dst : Option Tmp} {op : Op} {ty : TypeId} {pos : String} {after : Array Edge} {g : Option (Nat × Bool)}
    (hw : Region.wanted { dst := dst, op := op, type := ty, pos := pos, after := after, guard := g } (yielded ops a.tmps) = true)
    (h : wpList P ops Q ({ dst := dst, op := op, type := ty, pos := pos, after := after, guard := none } :: rest) a w) : wpList P ops Q ({ dst := dst, op := op, type := ty, pos := pos, after := after, guard := g } :: rest) a w := by
  have h0 : Region.wanted { dst := dst, op := op, type := ty, pos := pos, after := after, guard := none } (yielded ops a.tmps) = true := by simp [Region.wanted]
  unfold wpList at h ⊢
  rw [if_pos h0] at h
  rw [if_pos hw]
  exact h
end Go.Proofs.YtdlaojpjkijccaaDoor
