/- The step from a law's walk to its row, once for all laws: the arguments read as they did behind a call that only makes new blocks. -/
import Derived.Test.YtdlaojpjkijccaaDoorOwnRows
import Derived.Test.YtdlaojpjkijccaaDoorSlices
import Derived.ChangeStays
import Derived.ChangeSame
import Derived.ChangeBears
import Derived.ProofKit
import Derived.OpenShut
import Derived.Deep.DeepHandedRow
import Derived.Lib.LaidTab
set_option linter.unusedVariables false
set_option linter.unusedSimpArgs false
namespace Go.Proofs.YtdlaojpjkijccaaDoor
open Go.RowKit Go.ChangeShapes Go.WideShapes Go.ChangeAt

theorem laidOutP : laidOutB Tryd.prog = true := by kernel_rfl
theorem mapsRowedP : mapsRowed Tryd.prog = true := by kernel_rfl
theorem own : ownKnob Tryd.prog.godebug = none := by kernel_rfl
noncomputable def sliceB : Bool := (List.range Tryd.prog.types.size).all fun t => match Tryd.prog.underlying t with
  | some (.slice e) => decide (0 < Tryd.prog.cellsOf e)
  | _ => true
theorem sliceB_yes : sliceB = true := by kernel_rfl
theorem slice_cells {t e : TypeId} (ht : t < Tryd.prog.types.size) (h : Tryd.prog.underlying t = some (.slice e)) : 0 < Tryd.prog.cellsOf e := by
  have h1 := sliceB_yes
  unfold sliceB at h1
  rw [List.all_eq_true] at h1
  have h2 := h1 t (List.mem_range.2 ht)
  rw [h] at h2
  simpa using h2
theorem typeName_lt {t : TypeId} {u : TypeId} {name : String} (h : Tryd.prog.typeName? 3 u = some name) : True := trivial

section
variable {H : Type} {enc : TypeId × Value → H}
/-- What was read is read behind a call that only makes new blocks. -/
theorem trod_ext {W W' : World} {base : Nat} {t : TypeId} {v : Value} {d : DataW H} {ps : List MemPlace} (ht : t < Tryd.prog.types.size) (h : DataW.Trod enc Tryd.prog W base (fun _ => true) true t v d ps) (hb : Below W.heap.size W W')
    (sp : Nat → Bool) (hs : ∀ p ∈ ps, sp p.block = true) : DataW.Trod enc Tryd.prog W' base sp true t v d ps := by
  obtain ⟨n, hn⟩ := h
  exact ⟨n, DataW.trod_stays (kids_rows laidOutP mapsRowedP) slice_cells (fun h => by cases h) ht hn (fun p hp => hb.same (DataW.trod_lt _ _ _ _ hn p hp)) hs⟩
theorem trodAll_ext {W W' : World} {base : Nat} (hb : Below W.heap.size W W') (sp : Nat → Bool) : ∀ {ts : List TypeId} {vs : List Value} {ds : List (DataW H)} {ps : List MemPlace}, (∀ t ∈ ts, t < Tryd.prog.types.size) →
    DataW.TrodAll enc Tryd.prog W base (fun _ => true) true ts vs ds ps → (∀ p ∈ ps, sp p.block = true) → DataW.TrodAll enc Tryd.prog W' base sp true ts vs ds ps
  | [], [], [], _, _, h, _ => h
  | t :: ts, v :: vs, d :: ds, _, ht, ⟨p, q, h1, h2, rfl⟩, hs =>
    ⟨p, q, trod_ext (ht t (by simp)) h1 hb sp (fun x hx => hs x (by simp [hx])), trodAll_ext hb sp (fun t h => ht t (by simp [h])) h2 (fun x hx => hs x (by simp [hx])), rfl⟩

theorem post_of_below {f : Func} {s : ChangeSpec} {apart fresh handsOn again : Bool} {W W' : World} {args : Array Value} {v : Value} {ds gs : List (DataW H)} {before pa pv : List MemPlace} {P : Program}
    (hW : DataW.Whole enc P f.params.toList s.vars apart W args.toList ds gs before)
    (hres : ∀ (b : Nat) (sp : Nat → Bool) (hd : Bool), DataW.TrodAll enc P W' b sp hd f.resultTypes.toList (v.resultList f.resultTypes.size) (s.fn H (ds ++ gs)).results [])
    (hargs : ∀ sp : Nat → Bool, (∀ p ∈ before, sp p.block = true) → DataW.TrodAll enc P W' 0 sp true f.params.toList args.toList (s.fn H (ds ++ gs)).args pa)
    (hvars : ∀ sp : Nat → Bool, (∀ p ∈ before, sp p.block = true) → DataW.TrodVars enc P W' sp s.vars (s.fn H (ds ++ gs)).vars pv)
    (hps : before = pa ++ pv) (hb : Below W.heap.size W W')
    (hok : ∀ (j : Nat) (t : TypeId) (r : Value), f.resultTypes[j]? = some t → (v.resultList f.resultTypes.size)[j]? = some r → Value.okWide P W' .any 0 t r) :
    s.post enc P f apart fresh handsOn again W args v W' := by
  have hlt : ∀ p ∈ before, p.block < W.heap.size := fun p hp => hW.lt p hp
  have hold : ∀ p ∈ before, (fun b => decide (b < W.heap.size)) p.block = true := fun p hp => by simpa using hlt p hp
  refine ⟨ds, gs, before, [], pa, pv, hW, hres _ _ _, hargs _ hold, hvars _ hold, World.keptBut_mono (fun p hp => ⟨hp, ?_⟩) (hb.frame (· ∈ before)), fun _ => ?_⟩
  · rw [hps, List.mem_append] at hp
    exact Or.inr hp
  · obtain ⟨_, _, _, _, _, hz, hn⟩ := hW
    refine ⟨hok, _, _, ([] ++ pa) ++ pv, ⟨[] ++ pa, pv, trodAll_append (hargs _ (fun _ _ => rfl)) (hres _ _ _), hvars _ (fun _ _ => rfl), rfl, ?_, ?_⟩, ?_⟩
    · intro b off hp
      have hin : MemPlace.cell b off ∈ before := by rw [hps]; simpa using hp
      rw [hb.frozen (hlt _ hin)]
      exact hz b off hin
    · intro ha
      have := hn ha
      rw [hps] at this
      simpa using this
    · intro p hp _
      rw [hps]
      simpa using hp

set_option maxRecDepth 100000 in
theorem ok_bool (W' : World) (b : Bool) : Value.okWide Tryd.prog W' .any 0 4 (.bool b) := okWide_bool_mk Tryd.underlying4 b
set_option maxRecDepth 100000 in
/-- A law's post: true, and the arguments as they were. -/
theorem law_post {f : Func} {s : ChangeSpec} {apart fresh handsOn again : Bool} {W W' : World} {args : Array Value} {ds gs : List (DataW H)} {before : List MemPlace}
    (hW : DataW.Whole enc Tryd.prog f.params.toList s.vars apart W args.toList ds gs before) (hv : s.vars = [])
    (hts : ∀ t ∈ f.params.toList, t < Tryd.prog.types.size) (hr : f.resultTypes = #[4])
    (hs : s.fn H ds = { results := [.lit (.bool true)], args := ds }) (hx : Ext W W') : s.post enc Tryd.prog f apart fresh handsOn again W args (.bool true) W' := by
  have hW' := hW
  obtain ⟨p, q, hA, hV, rfl, hfz, hnd⟩ := hW
  rw [hv] at hV
  obtain ⟨rfl, rfl⟩ := trodVars_none hV
  rw [List.append_nil] at hW'
  have hb := hx.below
  refine post_of_below (pa := p) (pv := []) hW' ?_ ?_ ?_ (by simp) hb ?_
  · intro b sp hd
    rw [List.append_nil, hs, hr]
    exact trodAll_cons_mk (shut_bool Tryd.underlying4 _) trodAll_mk0
  · intro sp hsp
    rw [List.append_nil, hs]
    exact trodAll_ext hb sp hts hA hsp
  · intro sp hsp
    rw [List.append_nil, hs, hv]
    rfl
  · exact ok_one (v := .bool true) (t := 4) hr (by simp [Value.resultList]) (ok_bool W' true)
end
end Go.Proofs.YtdlaojpjkijccaaDoor
