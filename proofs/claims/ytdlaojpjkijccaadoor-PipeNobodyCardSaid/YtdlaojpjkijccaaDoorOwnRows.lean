/- Rows of elements without bytes that grow: they keep away from all texts. -/
import Derived.Test.YtdlaojpjkijccaaDoorMore
set_option linter.unusedVariables false
set_option linter.unusedSimpArgs false
namespace Go.Proofs.YtdlaojpjkijccaaDoor
open Go.RowKit

/-- No byte. -/
def NB (v : Value) : Prop := ∀ u, v ≠ B u
/-- No cell of the block is a byte. -/
def NoB (w : World) (x : Nat) : Prop := ∀ ad v, ad.block = x → w.cell? ad = some v → NB v
theorem At.noB {w : World} {b : Nat} {cs : Array Value} (h : At w b cs) (hn : ∀ v ∈ cs, NB v) : NoB w b := by
  intro ad v ha hc
  obtain ⟨T, h⟩ := h
  subst ha
  simp only [World.cell?, h] at hc
  split at hc
  · cases hc
  · exact hn v (Array.mem_of_getElem? hc)
theorem NoB.kp {S : Nat → Prop} {w w' : World} {x : Nat} (h : NoB w x) (hx : x < w.heap.size) (k : Kp S w w') (hS : ¬ S x) : NoB w' x := by
  intro ad v ha hc
  subst ha
  refine h ad v rfl ?_
  rw [← World.cell?_of_block (k.block ad.block hx hS)]
  exact hc
/-- What keeps away from the blocks with bytes leaves the texts. -/
theorem Bs.clean {S : Nat → Prop} {w w' : World} {A : Option Addr} {n c : Nat} {xs : List UInt8} (h : Bs w A n c xs) (k : Kp S w w') (hS : ∀ x, S x → NoB w x) : Bs w' A n c xs :=
  h.kp k (fun ad ha hn hs => by
    have hc := h.cell ha hn
    have e0 : ad.add 0 = ad := by unfold Addr.add; rfl
    rw [e0] at hc
    exact hS _ hs ad _ rfl hc _ rfl)

/-- '.slice A n c' owns its row, whole; no cell of it is a byte. -/
def Row (w : World) (e size : Nat) (A : Option Addr) (n c : Nat) (vs : List Value) : Prop :=
  (A = none ∧ n = 0 ∧ c = 0 ∧ vs = []) ∨
  ∃ g sp, A = some ⟨g, 0, none⟩ ∧ w.heap[g]? = some (.cells (vs ++ sp).toArray e (0, 0)) ∧ vs.length = n * size ∧ (vs ++ sp).length = c * size ∧ n ≤ c ∧ c ≤ maxLen ∧ ∀ v ∈ vs ++ sp, v.oneCell' = true ∧ NB v
theorem Row.nil (w : World) (e size : Nat) : Row w e size none 0 0 [] := Or.inl ⟨rfl, rfl, rfl, rfl⟩
theorem Row.len {w : World} {e size : Nat} {A : Option Addr} {n c : Nat} {vs : List Value} (h : Row w e size A n c vs) : vs.length = n * size := by
  rcases h with ⟨_, rfl, _, rfl⟩ | ⟨g, sp, _, _, h, _⟩
  · simp
  · exact h
theorem Row.ow {w : World} {e size : Nat} {A : Option Addr} {n c : Nat} {vs : List Value} (h : Row w e size A n c vs) : Ow w 0 e size A n c vs := by
  rcases h with ⟨rfl, rfl, rfl, rfl⟩ | ⟨g, sp, rfl, hg, h1, h2, h3, h4, h5⟩
  · exact Ow.nil w 0 e size
  · refine ⟨⟨h1, Or.inr ⟨g, c, _, rfl, Nat.zero_le _, hg, h3, h4, by simpa using h2, ?_⟩⟩, fun u hu => (h5 u (List.mem_append_left _ hu)).1⟩
    rw [← h1]
    exact List.take_left
theorem Row.rv {w : World} {e size : Nat} {A : Option Addr} {n c : Nat} {vs : List Value} (h : Row w e size A n c vs) : Rv w size A n c vs := h.ow.rv
theorem Row.noB {w : World} {e size : Nat} {A : Option Addr} {n c : Nat} {vs : List Value} (h : Row w e size A n c vs) {k : Nat} (hk : ablk A = some k) : NoB w k ∧ k < w.heap.size := by
  rcases h with ⟨rfl, rfl, rfl, rfl⟩ | ⟨g, sp, rfl, hg, h1, h2, h3, h4, h5⟩
  · cases hk
  · have : g = k := Option.some.inj hk
    subst this
    exact ⟨At.noB (cs := (vs ++ sp).toArray) ⟨e, hg⟩ (fun v hv => (h5 v (by simpa using hv)).2), (Array.getElem?_eq_some_iff.1 hg).1⟩
theorem Row.kp {S : Nat → Prop} {w w' : World} {e size : Nat} {A : Option Addr} {n c : Nat} {vs : List Value} (h : Row w e size A n c vs) (k : Kp S w w') (hs : ∀ x, ablk A = some x → ¬ S x) : Row w' e size A n c vs := by
  rcases h with h | ⟨g, sp, rfl, hg, r⟩
  · exact Or.inl h
  · exact Or.inr ⟨g, sp, rfl, k.heap hg (hs g rfl), r⟩
theorem Row.ext {w w' : World} {e size : Nat} {A : Option Addr} {n c : Nat} {vs : List Value} (h : Row w e size A n c vs) (k : Ext w w') : Row w' e size A n c vs := Row.kp h k (fun _ _ h => h)

theorem zeroCells_mem (z : Array Value) (n : Nat) : ∀ v ∈ Builtin.zeroCells z n, v ∈ z := by
  intro v hv
  obtain ⟨i, hi, rfl⟩ := Array.mem_map.1 hv
  have h0 : i < n * z.size := Array.mem_range.1 hi
  have hz : 0 < z.size := by
    rcases Nat.eq_zero_or_pos z.size with h | h
    · rw [h] at h0; omega
    · exact h
  have hm : i % z.size < z.size := Nat.mod_lt _ hz
  rw [getElem!_pos z (i % z.size) hm]
  exact Array.getElem_mem hm

theorem run_append_row (w : World) (t ty e : TypeId) (i : TypeInfo) (z : Value) (size bytes : Nat) (ht : Tryd.prog.underlying t = some (.slice e)) (hi : Tryd.prog.info? e = some i) (hz : i.zero = some z) (hsz : i.size = size) (hby : i.bytes = bytes)
    (hzs : z.cells.size = size) (hs0 : 0 < size) (hz1 : ∀ v ∈ z.cells, v.oneCell' = true ∧ NB v)
    {A : Option Addr} {n c : Nat} {vs : List Value} (hown : Row w e size A n c vs)
    {A' : Option Addr} {m d' : Nat} {us : List Value} (hy : Rv w size A' m d' us) (hnb : ∀ v ∈ us, NB v)
    (hlen : (n + m) * bytes ≤ 140737488355328) (hml : n + m ≤ maxLen) :
    ∃ A2 c2 w', (Builtin.append_ #[t, t] ty #[.slice A n c, .slice A' m d']).run Tryd.prog w = .ok (.slice A2 (n + m) c2) w' ∧ Row w' e size A2 (n + m) c2 (vs ++ us) ∧ Kp (fun k => ablk A = some k) w w' ∧
      (A2 = A ∨ A2 = some ⟨w.heap.size, 0, none⟩) := by
  subst hsz hby
  have h63 : ((n + m : Nat) : Int) ≤ 9223372036854775807 := by unfold maxLen at hml; omega
  have hyl := hy.len
  have hvl := hown.len
  have hone : ∀ v ∈ us, v.oneCell' = true ∧ NB v := fun v hv => ⟨hy.one v hv, hnb v hv⟩
  by_cases hm : m = 0
  · subst hm
    have hu : us = [] := List.eq_nil_of_length_eq_zero (by simpa using hyl)
    subst hu
    refine ⟨A, c, w, ?_, by simpa using hown, Kp.refl _ _, Or.inl rfl⟩
    rcases hown.ow.1.2 with ⟨e1, h0⟩ | ⟨g, cap, cur, e1, hb, hg, h2, h3, h4, h5⟩
    · obtain ⟨e1, e2, e3⟩ := (Value.slice.injEq ..).mp e1
      subst e1 e3 h0
      cases A' <;> simp [Builtin.append_, run_underlying ht, sizeOf, typeInfo, hi, Builtin.lenOf, Builtin.firstCells, loadCells, loadCellsFrom]
    · obtain ⟨e1, e2, e3⟩ := (Value.slice.injEq ..).mp e1
      subst e1 e3
      cases A' with
      | none => simp [Builtin.append_, run_underlying ht, sizeOf, typeInfo, hi, Builtin.lenOf, Builtin.firstCells, loadCells, loadCellsFrom, h2, storeCells]
      | some ad =>
        have := run_append_room (P := Tryd.prog) w t ty e i ht hi g n c cur hg ad 0 d' [] (by simp) (by simp) (by simp) (by omega) (by
          have : n * i.size ≤ c * i.size := Nat.mul_le_mul_right _ h2
          simp; omega)
        simp only [Nat.add_zero, List.length_nil, List.append_nil, List.take_append_drop] at this
        rw [setRow_self w g cur e (0, 0) hg] at this
        simpa using this
  · obtain ⟨ad, hA⟩ : ∃ ad, A' = some ad := by
      cases A' with
      | none => have := hy.nil rfl; have := hy.le; omega
      | some ad => exact ⟨ad, rfl⟩
    subst hA
    have hge : ∀ old, n + m ≤ grownCap w (n + m) old e := fun old => grownCap_ge w (n + m) old e
    have hcm : ∀ old, grownCap w (n + m) old e ≤ maxLen := fun old => grownCap_le_maxLen w (n + m) old e hml
    have grown : ∀ old, Row (w.drew.alloc (.cells (vs.toArray ++ us.toArray ++ Builtin.zeroCells z.cells (grownCap w (n + m) old e - (n + m))) e)) e i.size (some ⟨w.heap.size, 0, none⟩) (n + m) (grownCap w (n + m) old e) (vs ++ us) := by
      intro old
      have hg := hge old
      have ha : ∀ v ∈ vs, v.oneCell' = true ∧ NB v := by
        rcases hown with ⟨_, _, _, rfl⟩ | ⟨g, sp, _, _, _, _, _, _, h⟩
        · intro v hv; cases hv
        · exact fun v hv => h v (List.mem_append_left _ hv)
      refine Or.inr ⟨w.heap.size, (Builtin.zeroCells z.cells (grownCap w (n + m) old e - (n + m))).toList, rfl, ?_, ?_, ?_, hg, hcm old, ?_⟩
      · have := heap_alloc_new w.drew (.cells (vs.toArray ++ us.toArray ++ Builtin.zeroCells z.cells (grownCap w (n + m) old e - (n + m))) e)
        have e2 : (vs ++ us ++ (Builtin.zeroCells z.cells (grownCap w (n + m) old e - (n + m))).toList).toArray = vs.toArray ++ us.toArray ++ Builtin.zeroCells z.cells (grownCap w (n + m) old e - (n + m)) := by
          apply Array.ext'
          simp
        rw [e2]
        exact this
      · rw [List.length_append, hvl, hyl, Nat.add_mul]
      · simp only [List.length_append, Array.length_toList, size_zeroCells, hzs, hvl, hyl, ← Nat.add_mul]
        rw [Nat.add_sub_cancel' hg]
      · intro v hv
        rcases List.mem_append.1 hv with hv | hv
        · rcases List.mem_append.1 hv with hv | hv
          · exact ha v hv
          · exact hone v hv
        · exact hz1 v (zeroCells_mem _ _ v (by simpa using hv))
    have hk2 : ∀ o, Kp (fun k => ablk A = some k) w (w.drew.alloc o) := fun o => Kp.alloc (Kp.drew (Kp.refl _ w)) o
    rcases hown with ⟨rfl, rfl, rfl, rfl⟩ | ⟨g, sp, rfl, hg, h1, h2, h3, h4, h5⟩
    · have hr := run_append_nil (P := Tryd.prog) w t ty e i z ht hi hz ad m d' us hyl (hy.cell ad rfl) (by omega) (by omega) (by have hb := hlen; simp only [Nat.zero_add] at hb; omega)
      have hgr := grown 0
      simp only [Nat.zero_add, List.nil_append, Array.empty_append] at hgr ⊢
      exact ⟨_, _, _, hr, hgr, hk2 _, Or.inr rfl⟩
    · by_cases hroom : n + m ≤ c
      · have hfit : n * i.size + us.length ≤ (vs ++ sp).toArray.size := by
          rw [List.size_toArray, h2, hyl, ← Nat.add_mul]
          exact Nat.mul_le_mul_right _ hroom
        have hr := run_append_room (P := Tryd.prog) w t ty e i ht hi g n c _ hg ad m d' us hyl (hy.cell ad rfl) hy.one hroom hfit
        have ecur : (List.take (n * i.size) (vs ++ sp).toArray.toList ++ us ++ List.drop (n * i.size + us.length) (vs ++ sp).toArray.toList) = vs ++ us ++ sp.drop us.length := by
          rw [← h1]
          simp [List.drop_append]
        rw [ecur] at hr
        refine ⟨_, _, _, hr, Or.inr ⟨g, sp.drop us.length, rfl, setRow_heap w g _ _ e _ hg, ?_, ?_, hroom, h4, ?_⟩, (Kp.setRow w g _).mono (fun x _ hx => by rw [hx]; rfl), Or.inl rfl⟩
        · rw [List.length_append, hvl, hyl, Nat.add_mul]
        · rw [List.size_toArray] at hfit
          simp only [List.length_append, List.length_drop] at h2 hfit ⊢
          omega
        · intro v hv
          rcases List.mem_append.1 hv with hv | hv
          · rcases List.mem_append.1 hv with hv | hv
            · exact h5 v (List.mem_append_left _ hv)
            · exact hone v hv
          · exact h5 v (List.mem_append_right _ (List.mem_of_mem_drop hv))
      · have hrv : Row w e i.size (some ⟨g, 0, none⟩) n c vs := Or.inr ⟨g, sp, rfl, hg, h1, h2, h3, h4, h5⟩
        have hr := run_append_grow (P := Tryd.prog) w t ty e i z ht hi hz ⟨g, 0, none⟩ n c vs h1 (hrv.rv.cell _ rfl) ad m d' us hyl (hy.cell ad rfl) (by omega) h63 (growslice_fits (by omega) hlen)
        exact ⟨_, _, _, hr, grown c, hk2 _, Or.inr rfl⟩

theorem wpList_append_row {w : World} {ops : Array Oper} {rest : List Oper} {a : Act} {Q : Exit → Act → World → Prop} {d : Option Tmp} {s x : Operand} {t ty : TypeId} {pos : String} {after : Array Edge}
    (e size bytes : Nat) (i : TypeInfo) (z : Value) (ht : Tryd.prog.underlying t = some (.slice e)) (hi : Tryd.prog.info? e = some i) (hz : i.zero = some z) (hsz : i.size = size) (hby : i.bytes = bytes)
    (hzs : z.cells.size = size) (hs0 : 0 < size) (hz1 : ∀ v ∈ z.cells, v.oneCell' = true ∧ NB v)
    {A : Option Addr} {n c : Nat} {vs : List Value} (hs : a.eval s = .slice A n c) (hown : Row w e size A n c vs)
    {A' : Option Addr} {m d' : Nat} {us : List Value} (hx : a.eval x = .slice A' m d') (hy : Rv w size A' m d' us) (hnb : ∀ v ∈ us, NB v)
    (hlen : (n + m) * bytes ≤ 140737488355328) (hml : n + m ≤ maxLen)
    (h : ∀ A2 c2 w', Row w' e size A2 (n + m) c2 (vs ++ us) → Kp (fun k => ablk A = some k) w w' → (A2 = A ∨ A2 = some ⟨w.heap.size, 0, none⟩) → wpList Tryd.prog ops Q rest (a.put d (.slice A2 (n + m) c2)) w') :
    wpList Tryd.prog ops Q ({ dst := d, op := .call { callee := .builtin .append, args := #[s, x], argTypes := #[t, t] }, type := ty, pos, after, guard := none } :: rest) a w := by
  obtain ⟨A2, c2, w', hrun, h1, h2, h3⟩ := run_append_row w t ty e i z size bytes ht hi hz hsz hby hzs hs0 hz1 hown hy hnb hlen hml
  refine wpList_plain rfl fun K hK => ?_
  unfold Oper.wp
  simp [execOp, resolve, invoke, builtin, hs, hx, hrun, Result.andThen]
  exact hK _ _ (h A2 c2 w' h1 h2 h3)
theorem step_append_row {ops : Array Oper} {o : Oper} {a : Act} {w : World} {K : Act → World → Prop} {Q : Exit → Act → World → Prop} {E : Prop} (hgd : o.guard = none) {s x : Operand} {t : TypeId}
    (ho : o.op = .call { callee := .builtin .append, args := #[s, x], argTypes := #[t, t] })
    (e size bytes : Nat) (i : TypeInfo) (z : Value) (ht : Tryd.prog.underlying t = some (.slice e)) (hi : Tryd.prog.info? e = some i) (hz : i.zero = some z) (hsz : i.size = size) (hby : i.bytes = bytes)
    (hzs : z.cells.size = size) (hs0 : 0 < size) (hz1 : ∀ v ∈ z.cells, v.oneCell' = true ∧ NB v)
    {A : Option Addr} {n c : Nat} {vs : List Value} (hs : a.eval s = .slice A n c) (hown : Row w e size A n c vs)
    {A' : Option Addr} {m d' : Nat} {us : List Value} (hx : a.eval x = .slice A' m d') (hy : Rv w size A' m d' us) (hnb : ∀ v ∈ us, NB v)
    (hlen : (n + m) * bytes ≤ 140737488355328) (hml : n + m ≤ maxLen)
    (h : ∀ A2 c2 w', Row w' e size A2 (n + m) c2 (vs ++ us) → Kp (fun k => ablk A = some k) w w' → (A2 = A ∨ A2 = some ⟨w.heap.size, 0, none⟩) → K (a.put o.dst (.slice A2 (n + m) c2)) w') :
    if Region.wanted o (yielded ops a.tmps) = true then Oper.wp Tryd.prog o a w K Q else E := by
  have hw : Region.wanted o (yielded ops a.tmps) = true := by simp [Region.wanted, hgd]
  rw [if_pos hw]
  obtain ⟨A2, c2, w', hrun, h1, h2, h3⟩ := run_append_row w t o.type e i z size bytes ht hi hz hsz hby hzs hs0 hz1 hown hy hnb hlen hml
  unfold Oper.wp
  simp [execOp, ho, resolve, invoke, builtin, hs, hx, hrun, Result.andThen]
  exact h A2 c2 w' h1 h2 h3
end Go.Proofs.YtdlaojpjkijccaaDoor
