/- How a law's arguments are read: texts, lists of texts, rows of structs. -/
import Derived.Test.YtdlaojpjkijccaaDoorLaw
import Derived.Test.YtdlaojpjkijccaaDoorPack
import Derived.Deep.Slices
set_option linter.unusedVariables false
set_option linter.unusedSimpArgs false
set_option maxRecDepth 100000
namespace Go.Proofs.YtdlaojpjkijccaaDoor
open Go.RowKit Go.ChangeShapes Go.WideShapes Go.ChangeAt

section
variable {H : Type} (enc : TypeId × Value → H)
/-- The cells cs read as some datum of the type t. -/
def Rds (W : World) (t : TypeId) (cs : List Value) : Prop := ∃ fuel x, DataW.trod enc Tryd.prog W 0 (fun _ => true) true fuel t cs = some x
variable {enc}
theorem rds_of {W : World} {t : TypeId} {v : Value} {d : DataW H} {ps : List MemPlace} (h : DataW.Trod enc Tryd.prog W 0 (fun _ => true) true t v d ps) : Rds enc W t v.cells.toList := by
  obtain ⟨n, hn⟩ := h
  exact ⟨n, _, hn⟩
theorem rds_int {W : World} {t : TypeId} {cs : List Value} {k : IntKind} (ht : Tryd.prog.underlying t = some (.int k)) (h : Rds enc W t cs) : ∃ n, cs = [.int k n] ∧ (Lit.int k n).wf = true := by
  obtain ⟨f, x, h⟩ := h
  obtain ⟨n, h1, h2, h3⟩ := DataW.trod_int ht h
  exact ⟨n, h1, h3⟩
theorem rds_i64 {W : World} {t : TypeId} {cs : List Value} (ht : Tryd.prog.underlying t = some (.int .i64)) (h : Rds enc W t cs) : ∃ n, cs = [.int .i64 n] ∧ -9223372036854775808 ≤ n ∧ n ≤ 9223372036854775807 := by
  obtain ⟨n, h1, h2⟩ := rds_int ht h
  have e : IntKind.i64.min = -9223372036854775808 := by decide
  have e' : IntKind.i64.max = 9223372036854775807 := by decide
  simp [Lit.wf, e, e'] at h2
  exact ⟨n, h1, by omega, by omega⟩
theorem rds_u8 {W : World} {t : TypeId} {cs : List Value} (ht : Tryd.prog.underlying t = some (.int .u8)) (h : Rds enc W t cs) : ∃ x : UInt8, cs = [B x] := by
  obtain ⟨n, h1, h2⟩ := rds_int ht h
  have e : IntKind.u8.min = 0 := by decide
  have e' : IntKind.u8.max = 255 := by decide
  simp [Lit.wf, e, e'] at h2
  refine ⟨UInt8.ofNat n.toNat, ?_⟩
  rw [h1, B_ofNat]
  have : n = ((n.toNat : Nat) : Int) % 256 := by omega
  rw [← this]
theorem rds_u16 {W : World} {t : TypeId} {cs : List Value} (ht : Tryd.prog.underlying t = some (.int .u16)) (h : Rds enc W t cs) : ∃ x : Nat, cs = [.int .u16 x] ∧ x < 65536 := by
  obtain ⟨n, h1, h2⟩ := rds_int ht h
  have e : IntKind.u16.min = 0 := by decide
  have e' : IntKind.u16.max = 65535 := by decide
  simp [Lit.wf, e, e'] at h2
  refine ⟨n.toNat, ?_, by omega⟩
  rw [h1]
  have : n = ((n.toNat : Nat) : Int) := by omega
  rw [← this]
theorem rds_bool {W : World} {t : TypeId} {cs : List Value} (ht : Tryd.prog.underlying t = some .bool) (h : Rds enc W t cs) : ∃ b, cs = [.bool b] := by
  obtain ⟨f, x, h⟩ := h
  obtain ⟨b, h1, _⟩ := DataW.trod_bool ht h
  exact ⟨b, h1⟩
theorem rds_field {W : World} {t : TypeId} {cs : List Value} {fs : Array Field} (hu : Tryd.prog.underlying t = some (.struct fs)) (h : Rds enc W t cs) (i : Nat) (ty o : Nat) (hf : (fs[i]?).map (fun f => (f.type, f.offset)) = some (ty, o)) :
    Rds enc W ty ((cs.drop o).take (Tryd.prog.cellsOf ty)) := by
  obtain ⟨f, x, h⟩ := h
  obtain ⟨xs, n, h1, h2, h3, h4, h5⟩ := DataW.trod_struct hu h
  rw [Option.map_eq_some_iff] at hf
  obtain ⟨fd, hfd, he⟩ := hf
  obtain ⟨rfl, rfl⟩ := Prod.mk.inj he
  have h6 := h5 i fd hfd
  have hlt : i < xs.length := by
    rw [h4]
    exact (Array.getElem?_eq_some_iff.1 hfd).1
  rw [List.getElem?_eq_getElem hlt] at h6
  exact ⟨n, _, h6⟩
theorem rds_len {W : World} {t : TypeId} {cs : List Value} {fs : Array Field} (hu : Tryd.prog.underlying t = some (.struct fs)) (h : Rds enc W t cs) : cs.length = Tryd.prog.cellsOf t := by
  obtain ⟨f, x, h⟩ := h
  obtain ⟨xs, n, h1, h2, h3, h4, h5⟩ := DataW.trod_struct hu h
  exact h3
theorem rds_arr {W : World} {t e : TypeId} {cs : List Value} {n : Nat} (hu : Tryd.prog.underlying t = some (.array n e)) (h : Rds enc W t cs) : cs.length = Tryd.prog.cellsOf t ∧ ∀ i, i < n → Rds enc W e ((cs.drop (i * Tryd.prog.cellsOf e)).take (Tryd.prog.cellsOf e)) := by
  obtain ⟨f, x, h⟩ := h
  obtain ⟨xs, m, h1, h2, h3, h4, h5⟩ := DataW.trod_array hu h
  refine ⟨h3, fun i hi => ?_⟩
  have h6 := h5 i hi
  rw [List.getElem?_eq_getElem (show i < xs.length by omega)] at h6
  exact ⟨m, _, h6⟩
theorem all_Bi : ∀ (cs : List Value), (∀ i, i < cs.length → ∃ x : UInt8, cs[i]? = some (B x)) → ∃ xs : List UInt8, cs = xs.map B
  | [], _ => ⟨[], rfl⟩
  | c :: cs, h => by
    obtain ⟨xs, h1⟩ := all_Bi cs (fun i hi => by simpa using h (i + 1) (by simpa using hi))
    obtain ⟨x, hx⟩ := h 0 (by simp)
    simp at hx
    exact ⟨x :: xs, by rw [hx, h1]; rfl⟩
/-- An array of bytes. -/
theorem rds_bytes {W : World} {t e : TypeId} {cs : List Value} {n : Nat} (hu : Tryd.prog.underlying t = some (.array n e)) (he : Tryd.prog.underlying e = some (.int .u8)) (hc : Tryd.prog.cellsOf e = 1) (hn : Tryd.prog.cellsOf t = n) (h : Rds enc W t cs) :
    ∃ xs : List UInt8, cs = xs.map B ∧ xs.length = n := by
  obtain ⟨h1, h2⟩ := rds_arr hu h
  rw [hn] at h1
  rw [hc] at h2
  obtain ⟨xs, rfl⟩ := all_Bi cs (fun i hi => by
    obtain ⟨x, hx⟩ := rds_u8 he (h2 i (by omega))
    refine ⟨x, ?_⟩
    have : ((cs.drop (i * 1)).take 1)[0]? = some (B x) := by rw [hx]; rfl
    simpa [List.getElem?_take, List.getElem?_drop] using this)
  exact ⟨xs, rfl, by simpa using h1⟩
/-- A slice, read element by element. -/
theorem rds_slice {W : World} {t e : TypeId} {cs : List Value} (hu : Tryd.prog.underlying t = some (.slice e)) (sz : Nat) (hsz : Tryd.prog.cellsOf e = sz) (h0 : 0 < sz) (R : List Value → Prop) (hR : ∀ r, r.length = sz → Rds enc W e r → R r ∧ ∀ v ∈ r, v.oneCell' = true) (h : Rds enc W t cs) :
    ∃ (A : Option Addr) (n c : Nat) (rows : List (List Value)), cs = [.slice A n c] ∧ rows.length = n ∧ (∀ r ∈ rows, r.length = sz ∧ R r) ∧ Rv W sz A n c rows.flatten := by
  obtain ⟨f, x, h⟩ := h
  rcases Go.Deep.open_slice hu h with ⟨h1, h2⟩ | ⟨a, len, cap, m, n, D, Pl, rfl, hb, hl, hm, hmm, rfl, hx⟩
  · exact ⟨none, 0, 0, [], h1, rfl, by simp, Rv.none W sz⟩
  · rw [hsz] at hx
    have hlm : len ≤ m := by rw [hmm]; simp; omega
    have hrow : ∀ i, i < len → ∃ r, r.length = sz ∧ R r ∧ (∀ v ∈ r, v.oneCell' = true) ∧ ∀ j, j < sz → W.cell? (a.add (i * sz + j)) = r[j]? := fun i hi => by
      obtain ⟨r, hr1, hr2⟩ := hx i (by omega)
      obtain ⟨_, hr3, hr4⟩ := World.cells?_some hr1
      obtain ⟨hr5, hr6⟩ := hR r hr3 ⟨_, _, hr2⟩
      refine ⟨r, hr3, hr5, hr6, fun j hj => ?_⟩
      rw [← hr4 j hj, addr_add_add]
    have hall : ∀ k, k ≤ len → ∃ rows : List (List Value), rows.length = k ∧ (∀ r ∈ rows, r.length = sz ∧ R r) ∧ (∀ r ∈ rows, ∀ v ∈ r, v.oneCell' = true) ∧ ∀ i, i < k → ∃ r, rows[i]? = some r ∧ ∀ j, j < sz → W.cell? (a.add (i * sz + j)) = r[j]? := by
      intro k
      induction k with
      | zero => intro _; exact ⟨[], rfl, by simp, by simp, fun i hi => by omega⟩
      | succ k ih =>
        intro hk
        obtain ⟨rows, i1, i2, i3, i4⟩ := ih (by omega)
        obtain ⟨r, r1, r2, r3, r4⟩ := hrow k (by omega)
        refine ⟨rows ++ [r], by simp [i1], fun q hq => ?_, fun q hq => ?_, fun i hi => ?_⟩
        · rcases List.mem_append.1 hq with hq | hq
          · exact i2 q hq
          · rw [List.mem_singleton.1 hq]; exact ⟨r1, r2⟩
        · rcases List.mem_append.1 hq with hq | hq
          · exact i3 q hq
          · rw [List.mem_singleton.1 hq]; exact r3
        · rcases Nat.lt_or_ge i k with hik | hik
          · obtain ⟨q, q1, q2⟩ := i4 i hik
            exact ⟨q, by rw [List.getElem?_append_left (by omega)]; exact q1, q2⟩
          · have : i = k := by omega
            subst this
            exact ⟨r, by rw [List.getElem?_append_right (by omega)]; simp [i1], r4⟩
    obtain ⟨rows, i1, i2, i3, i4⟩ := hall len (Nat.le_refl _)
    refine ⟨some a, len, cap, rows, rfl, i1, i2, ?_, hl, hm, (fun e => by cases e), ?_, ?_⟩
    · clear i4
      have : ∀ rows : List (List Value), (∀ r ∈ rows, r.length = sz ∧ R r) → rows.flatten.length = rows.length * sz := by
        intro rows
        induction rows with
        | nil => intro _; simp
        | cons r rows ih =>
          intro h
          rw [List.flatten_cons, List.length_append, ih (fun q hq => h q (by simp [hq])), (h r (by simp)).1, List.length_cons, Nat.add_mul]
          omega
      rw [this rows i2, i1]
    · intro ad ha j u hu'
      cases ha
      have hfl : ∀ (rows : List (List Value)), (∀ r ∈ rows, r.length = sz ∧ R r) → ∀ (j : Nat) (u : Value), rows.flatten[j]? = some u → ∃ r, rows[j / sz]? = some r ∧ r[j % sz]? = some u := by
        intro rows
        induction rows with
        | nil => intro _ j u h; simp at h
        | cons r rows ih =>
          intro hr j u h
          have hrl := (hr r (by simp)).1
          rw [List.flatten_cons] at h
          rcases Nat.lt_or_ge j sz with hj | hj
          · rw [List.getElem?_append_left (by omega)] at h
            rw [Nat.div_eq_of_lt hj, Nat.mod_eq_of_lt hj]
            exact ⟨r, rfl, h⟩
          · rw [List.getElem?_append_right (by omega), hrl] at h
            obtain ⟨q, q1, q2⟩ := ih (fun q hq => hr q (by simp [hq])) (j - sz) u h
            have e1 : j / sz = (j - sz) / sz + 1 := by
              rw [Nat.div_eq_sub_div h0 hj]
            have e2 : j % sz = (j - sz) % sz := Nat.mod_eq_sub_mod hj
            rw [e1, e2]
            exact ⟨q, by simpa using q1, q2⟩
      obtain ⟨r, r1, r2⟩ := hfl rows i2 j u hu'
      have hj : j / sz < len := by
        rw [← i1]
        exact (List.getElem?_eq_some_iff.1 r1).1
      obtain ⟨q, q1, q2⟩ := i4 (j / sz) hj
      rw [r1] at q1
      obtain rfl := Option.some.inj q1
      have := q2 (j % sz) (Nat.mod_lt _ h0)
      rw [Nat.div_add_mod' j sz] at this
      rw [this, r2]
    · intro u hu'
      obtain ⟨r, hr, hur⟩ := List.mem_flatten.1 hu'
      exact i3 r hr u hur
theorem cells_u8 : Tryd.prog.cellsOf 5 = 1 := by kernel_rfl
theorem cells_bytes : Tryd.prog.cellsOf 22 = 1 := by kernel_rfl
theorem rows_one {R : List Value → Prop} : ∀ {rows : List (List Value)}, (∀ r ∈ rows, r.length = 1 ∧ R r) → ∃ vs : List Value, rows = vs.map (fun v => [v]) ∧ ∀ v ∈ vs, R [v]
  | [], _ => ⟨[], rfl, by simp⟩
  | r :: rows, h => by
    obtain ⟨vs, h1, h2⟩ := rows_one (rows := rows) (fun q hq => h q (by simp [hq]))
    have hr := (h r (by simp))
    match r, hr with
    | [v], hr => exact ⟨v :: vs, by rw [h1]; rfl, fun u hu => by
        rcases List.mem_cons.1 hu with rfl | hu
        · exact hr.2
        · exact h2 u hu⟩
theorem flatten_one (vs : List Value) : (vs.map (fun v => [v])).flatten = vs := by
  induction vs with
  | nil => rfl
  | cons v vs ih => simp [ih]
theorem all_B : ∀ {vs : List Value}, (∀ v ∈ vs, ∃ x : UInt8, v = B x) → ∃ xs : List UInt8, vs = xs.map B
  | [], _ => ⟨[], rfl⟩
  | v :: vs, h => by
    obtain ⟨xs, h1⟩ := all_B (vs := vs) (fun u hu => h u (by simp [hu]))
    obtain ⟨x, hx⟩ := h v (by simp)
    exact ⟨x :: xs, by rw [hx, h1]; rfl⟩
theorem rds_bs {W : World} {cs : List Value} (h : Rds enc W 22 cs) : ∃ A n c xs, cs = [.slice A n c] ∧ Bs W A n c xs := by
  obtain ⟨A, n, c, rows, h1, h2, h3, h4⟩ := rds_slice Tryd.underlying22 1 cells_u8 (by omega) (fun r => ∃ x : UInt8, r = [B x]) (fun r _ hr => by
    obtain ⟨x, rfl⟩ := rds_u8 Tryd.underlying5 hr
    exact ⟨⟨x, rfl⟩, fun v hv => by rw [List.mem_singleton.1 hv]; rfl⟩) h
  obtain ⟨vs, rfl, h6⟩ := rows_one h3
  obtain ⟨xs, rfl⟩ := all_B (vs := vs) (fun v hv => by
    obtain ⟨x, hx⟩ := h6 v hv
    exact ⟨x, (List.cons.inj hx).1⟩)
  rw [flatten_one] at h4
  exact ⟨A, n, c, xs, h1, h4⟩
theorem all_sv {R : World → (Option Addr × Nat × Nat) → List UInt8 → Prop} {W : World} : ∀ {vs : List Value}, (∀ v ∈ vs, ∃ t xs, v = sv t ∧ R W t xs) → ∃ ts ls, vs = ts.map sv ∧ F2 (fun t xs => R W t xs) ts ls
  | [], _ => ⟨[], [], rfl, trivial⟩
  | v :: vs, h => by
    obtain ⟨ts, ls, h1, h2⟩ := all_sv (vs := vs) (fun u hu => h u (by simp [hu]))
    obtain ⟨t, xs, hx, hr⟩ := h v (by simp)
    exact ⟨t :: ts, xs :: ls, by rw [hx, h1]; rfl, hr, h2⟩
theorem rds_ls {W : World} {cs : List Value} (h : Rds enc W 43 cs) : ∃ A n c ls, cs = [.slice A n c] ∧ Ls W A n c ls := by
  obtain ⟨A, n, c, rows, h1, h2, h3, h4⟩ := rds_slice Tryd.underlying43 1 cells_bytes (by omega) (fun r => ∃ t xs, r = [sv t] ∧ Bs W t.1 t.2.1 t.2.2 xs) (fun r _ hr => by
    obtain ⟨A, n, c, xs, rfl, hb⟩ := rds_bs hr
    exact ⟨⟨(A, n, c), xs, rfl, hb⟩, fun v hv => by rw [List.mem_singleton.1 hv]; rfl⟩) h
  obtain ⟨vs, rfl, h6⟩ := rows_one h3
  obtain ⟨ts, ls, rfl, h8⟩ := all_sv (R := fun W t xs => Bs W t.1 t.2.1 t.2.2 xs) (W := W) (vs := vs) (fun v hv => by
    obtain ⟨t, xs, hx, hb⟩ := h6 v hv
    exact ⟨t, xs, (List.cons.inj hx).1, hb⟩)
  rw [flatten_one] at h4
  exact ⟨A, n, c, ls, h1, ts, h4, h8⟩

/-! ### whole arguments -/
theorem arg_int {W : World} {r : Reach} {b0 : Nat} {t : TypeId} {v : Value} {k : IntKind} (hu : Tryd.prog.underlying t = some (.int k)) (hv : Value.okWide Tryd.prog W r b0 t v) : ∃ n, v = .int k n := okWide_int hu hv
theorem arg_bool {W : World} {r : Reach} {b0 : Nat} {t : TypeId} {v : Value} (hu : Tryd.prog.underlying t = some .bool) (hv : Value.okWide Tryd.prog W r b0 t v) : ∃ b, v = .bool b := by
  unfold Value.okWide Cell.okWide Cell.ok at hv
  simp only [hu] at hv
  cases v <;> simp at hv
  exact ⟨_, rfl⟩
theorem arg_slice {W : World} {r : Reach} {b0 : Nat} {t e : TypeId} {v : Value} (hu : Tryd.prog.underlying t = some (.slice e)) (hv : Value.okWide Tryd.prog W r b0 t v) : ∃ A n c, v = .slice A n c := by
  unfold Value.okWide Cell.okWide Cell.ok at hv
  simp only [hu] at hv
  cases v <;> simp at hv
  exact ⟨_, _, _, rfl⟩
theorem arg_struct {W : World} {r : Reach} {b0 : Nat} {t : TypeId} {v : Value} {fs : Array Field} (hu : Tryd.prog.underlying t = some (.struct fs)) (hv : Value.okWide Tryd.prog W r b0 t v) : ∃ cs, v = .agg cs := by
  unfold Value.okWide at hv
  simp only [hu] at hv
  obtain ⟨cs, h, _⟩ := hv
  exact ⟨cs, h⟩
theorem arg_array {W : World} {r : Reach} {b0 : Nat} {t e : TypeId} {v : Value} {n : Nat} (hu : Tryd.prog.underlying t = some (.array n e)) (hv : Value.okWide Tryd.prog W r b0 t v) : ∃ cs, v = .agg cs := by
  unfold Value.okWide at hv
  simp only [hu] at hv
  obtain ⟨cs, h, _⟩ := hv
  exact ⟨cs, h⟩
end
end Go.Proofs.YtdlaojpjkijccaaDoor
