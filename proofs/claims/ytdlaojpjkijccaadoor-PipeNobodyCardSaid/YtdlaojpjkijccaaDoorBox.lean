/- Contracts of the package box: the box's state, New, ask. -/
import Derived.Test.YtdlaojpjkijccaaDoorBoxWords
import Derived.WideMake
set_option linter.unusedVariables false
set_option linter.unusedSimpArgs false
namespace Go.Proofs.YtdlaojpjkijccaaDoor
open Go.RowKit

/-- What was sealed, and marked. -/
abbrev SealE := Use × List UInt8 × List UInt8
abbrev MarkE := Kid × List UInt8
def SealRow (w : World) (e : SealE) (vs : List Value) : Prop :=
  ∃ ta tt : Option Addr × Nat × Nat, vs = e.1.1.l.map I64 ++ [I64 e.1.2] ++ [sv ta, sv tt] ∧ Bs w ta.1 ta.2.1 ta.2.2 e.2.1 ∧ Bs w tt.1 tt.2.1 tt.2.2 e.2.2
def MarkRow (w : World) (e : MarkE) (vs : List Value) : Prop :=
  ∃ tt : Option Addr × Nat × Nat, vs = e.1.l.map I64 ++ [sv tt] ∧ Bs w tt.1 tt.2.1 tt.2.2 e.2
/-- A ledger: '.slice A n c' owns a row of elements. -/
def Led {α : Type} (R : World → α → List Value → Prop) (w : World) (e size : Nat) (A : Option Addr) (n c : Nat) (es : List α) : Prop :=
  ∃ rows : List (List Value), F2 (fun r x => R w x r) rows es ∧ Row w e size A n c rows.flatten ∧ rows.length = n ∧ ∀ r ∈ rows, r.length = size

structure BoxS where
  secret : List UInt8
  ideal : Bool
  seals : List SealE
  marks : List MarkE
  us : List Use

/-- Block b is a box, whose blocks are among F. -/
structure BoxIn (w : World) (b : Nat) (F : Nat → Prop) (x : BoxS) (sA : Option Addr) (sn sc : Nat) (lA : Option Addr) (ln lc : Nat) (mA : Option Addr) (mn mc : Nat) (m : Nat) (cnt rep : Int) : Prop where
  cells : At w b #[.slice sA sn sc, .bool x.ideal, .bool true, .slice lA ln lc, .slice mA mn mc, .map (some m), .int .i64 cnt, .int .i64 rep]
  secret : Bs w sA sn sc x.secret
  short : sn ≤ 1099511627776
  seals : Led SealRow w 128 9 lA ln lc x.seals
  marks : Led MarkRow w 160 7 mA mn mc x.marks
  uses : MapU w m x.us
  once : x.us.Nodup → rep = 0
  fb : F b
  fm : F m
  fl : ∀ k, ablk lA = some k → F k
  fk : ∀ k, ablk mA = some k → F k
  bl : ablk lA ≠ some b
  bk : ablk mA ≠ some b
  lk : ∀ k, ablk lA = some k → ablk mA ≠ some k
  clean : ∀ k, F k → NoB w k ∧ k < w.heap.size
def BoxAt (w : World) (b : Nat) (F : Nat → Prop) (x : BoxS) : Prop :=
  ∃ sA sn sc lA ln lc mA mn mc m cnt rep, BoxIn w b F x sA sn sc lA ln lc mA mn mc m cnt rep

theorem SealRow.kp {S : Nat → Prop} {w w' : World} {e : SealE} {vs : List Value} (h : SealRow w e vs) (k : Kp S w w') (hS : ∀ x, S x → NoB w x) : SealRow w' e vs := by
  obtain ⟨ta, tt, h1, h2, h3⟩ := h
  exact ⟨ta, tt, h1, h2.clean k hS, h3.clean k hS⟩
theorem MarkRow.kp {S : Nat → Prop} {w w' : World} {e : MarkE} {vs : List Value} (h : MarkRow w e vs) (k : Kp S w w') (hS : ∀ x, S x → NoB w x) : MarkRow w' e vs := by
  obtain ⟨tt, h1, h2⟩ := h
  exact ⟨tt, h1, h2.clean k hS⟩
theorem Led.kp {α : Type} {R : World → α → List Value → Prop} {S : Nat → Prop} {w w' : World} {e size : Nat} {A : Option Addr} {n c : Nat} {es : List α} (h : Led R w e size A n c es) (k : Kp S w w') (hA : ∀ x, ablk A = some x → ¬ S x)
    (hR : ∀ x r, R w x r → R w' x r) : Led R w' e size A n c es := by
  obtain ⟨rows, h1, h2, h3⟩ := h
  exact ⟨rows, f2_imp h1 fun _ _ _ _ h => hR _ _ h, h2.kp k hA, h3⟩
theorem Led.len {α : Type} {R : World → α → List Value → Prop} {w : World} {e size : Nat} {A : Option Addr} {n c : Nat} {es : List α} (h : Led R w e size A n c es) : es.length = n := by
  obtain ⟨rows, h1, h2, h3, h4⟩ := h
  rw [← h3, f2_len h1]

/-- Whatever keeps away from the box's blocks leaves the box. -/
theorem BoxAt.kp {S : Nat → Prop} {w w' : World} {b : Nat} {F : Nat → Prop} {x : BoxS} (h : BoxAt w b F x) (k : Kp S w w') (hS : ∀ y, S y → NoB w y) (hF : ∀ y, F y → ¬ S y) : BoxAt w' b F x := by
  obtain ⟨sA, sn, sc, lA, ln, lc, mA, mn, mc, m, cnt, rep, h⟩ := h
  exact ⟨sA, sn, sc, lA, ln, lc, mA, mn, mc, m, cnt, rep, {
    cells := h.cells.kp k (hF _ h.fb), secret := h.secret.clean k hS, short := h.short
    seals := h.seals.kp k (fun y hy => hF y (h.fl y hy)) (fun _ _ hr => hr.kp k hS)
    marks := h.marks.kp k (fun y hy => hF y (h.fk y hy)) (fun _ _ hr => hr.kp k hS)
    uses := h.uses.kp k (hF _ h.fm), once := h.once, fb := h.fb, fm := h.fm, fl := h.fl, fk := h.fk, bl := h.bl, bk := h.bk, lk := h.lk
    clean := fun y hy => ⟨(h.clean y hy).1.kp (h.clean y hy).2 k (hF y hy), Nat.lt_of_lt_of_le (h.clean y hy).2 k.size⟩ }⟩
theorem BoxAt.ext {w w' : World} {b : Nat} {F : Nat → Prop} {x : BoxS} (h : BoxAt w b F x) (k : Ext w w') : BoxAt w' b F x := h.kp k (fun _ h => h.elim) (fun _ _ h => h)
theorem BoxAt.bs {w w' : World} {b : Nat} {F : Nat → Prop} {x : BoxS} (h : BoxAt w b F x) (k : Kp F w w') {A : Option Addr} {n c : Nat} {xs : List UInt8} (hb : Bs w A n c xs) : Bs w' A n c xs := by
  obtain ⟨sA, sn, sc, lA, ln, lc, mA, mn, mc, m, cnt, rep, h⟩ := h
  exact hb.clean k fun y hy => (h.clean y hy).1

theorem At.neMap {w : World} {b m : Nat} {cs : Array Value} {us : List Use} (h : At w b cs) (k : MapU w m us) : m ≠ b := by
  intro e
  subst e
  obtain ⟨T, h⟩ := h
  obtain ⟨es, clock, k, _⟩ := k
  rw [h] at k
  cases k
theorem Row.neMap {w : World} {e size : Nat} {A : Option Addr} {n c m : Nat} {vs : List Value} {us : List Use} (h : Row w e size A n c vs) (k : MapU w m us) : ablk A ≠ some m := by
  intro hm
  rcases h with ⟨rfl, _⟩ | ⟨g, sp, rfl, hg, _⟩
  · cases hm
  · have : g = m := Option.some.inj hm
    subst this
    obtain ⟨es, clock, k, _⟩ := k
    rw [hg] at k
    cases k
theorem boxNB {w : World} {b : Nat} {sA lA mA : Option Addr} {sn sc ln lc mn mc m : Nat} {i : Bool} {cnt rep : Int} (h : At w b #[.slice sA sn sc, .bool i, .bool true, .slice lA ln lc, .slice mA mn mc, .map (some m), .int .i64 cnt, .int .i64 rep]) : NoB w b := by
  refine h.noB ?_
  intro v hv u e
  subst e
  simp [B] at hv

/-- One seal more. -/
theorem BoxIn.sealed {w w' : World} {b : Nat} {F : Nat → Prop} {x : BoxS} {sA : Option Addr} {sn sc : Nat} {lA : Option Addr} {ln lc : Nat} {mA : Option Addr} {mn mc m : Nat} {cnt rep : Int}
    (hx : BoxIn w b F x sA sn sc lA ln lc mA mn mc m cnt rep) {A3 : Option Addr} {c4 : Nat} (kf : Kp (fun y => y = b ∨ ablk lA = some y) w w')
    (hb : At w' b #[.slice sA sn sc, .bool x.ideal, .bool true, .slice A3 (ln + 1) c4, .slice mA mn mc, .map (some m), .int .i64 cnt, .int .i64 rep])
    {rows : List (List Value)} {vs : List Value} {e : SealE} (h1 : F2 (fun r x => SealRow w x r) rows x.seals) (h2 : rows.length = ln) (h3 : ∀ r ∈ rows, r.length = 9) (h4 : Row w' 128 9 A3 (ln + 1) c4 (rows.flatten ++ vs)) (hv : vs.length = 9)
    (he : SealRow w e vs) (hA3 : A3 = lA ∨ ∃ k, A3 = some ⟨k, 0, none⟩ ∧ w.heap.size ≤ k) :
    BoxAt w' b (fun y => (F y ∧ ablk lA ≠ some y) ∨ ablk A3 = some y) { x with seals := x.seals ++ [e] } := by
  obtain ⟨rows0, _, hrow0, _, _⟩ := hx.seals
  have hS : ∀ y, (y = b ∨ ablk lA = some y) → NoB w y := by
    rintro y (rfl | hy)
    · exact boxNB hx.cells
    · exact (hrow0.noB hy).1
  have hmb : m ≠ b := hx.cells.neMap hx.uses
  have hml : ablk lA ≠ some m := hrow0.neMap hx.uses
  have hold : ∀ y, ablk A3 = some y → ablk lA ≠ some y → w.heap.size ≤ y := by
    intro y hy hn
    rcases hA3 with rfl | ⟨k, rfl, hk⟩
    · exact absurd hy hn
    · have : k = y := Option.some.inj hy
      omega
  have hblt : b < w.heap.size := hx.cells.lt
  refine ⟨sA, sn, sc, A3, ln + 1, c4, mA, mn, mc, m, cnt, rep, {
    cells := hb, secret := hx.secret.clean kf hS, short := hx.short
    seals := ⟨rows ++ [vs], f2_append (f2_imp h1 fun _ _ _ _ h => h.kp kf hS) ⟨he.kp kf hS, trivial⟩, by simpa using h4, by simp [h2], fun r hr => by
      rcases List.mem_append.1 hr with hr | hr
      · exact h3 r hr
      · rw [List.mem_singleton.1 hr]; exact hv⟩
    marks := hx.marks.kp kf (fun y hy hs => by
      rcases hs with rfl | hs
      · exact hx.bk hy
      · exact hx.lk y hs hy) (fun _ _ h => h.kp kf hS)
    uses := hx.uses.kp kf (fun hs => by
      rcases hs with h | h
      · exact hmb h
      · exact hml h)
    once := hx.once, fb := Or.inl ⟨hx.fb, hx.bl⟩, fm := Or.inl ⟨hx.fm, hml⟩, fl := fun k hk => Or.inr hk
    fk := fun k hk => Or.inl ⟨hx.fk k hk, fun h => hx.lk k h hk⟩
    bl := fun h => by
      by_cases hl : ablk lA = some b
      · exact hx.bl hl
      · have := hold b h hl; omega
    bk := hx.bk
    lk := fun k h hk => by
      by_cases hl : ablk lA = some k
      · exact hx.lk k hl hk
      · have := hold k h hl
        obtain ⟨rows1, _, hrow1, _, _⟩ := hx.marks
        have := (hrow1.noB hk).2
        omega
    clean := fun y hy => ?_ }⟩
  rcases hy with ⟨hF, hn⟩ | hy
  · by_cases hyb : y = b
    · subst hyb
      exact ⟨boxNB hb, hb.lt⟩
    · have := hx.clean y hF
      exact ⟨this.1.kp this.2 kf (fun h => by rcases h with h | h; exact hyb h; exact hn h), Nat.lt_of_lt_of_le this.2 kf.size⟩
  · exact h4.noB hy

/-- One mark more. -/
theorem BoxIn.marked {w w' : World} {b : Nat} {F : Nat → Prop} {x : BoxS} {sA : Option Addr} {sn sc : Nat} {lA : Option Addr} {ln lc : Nat} {mA : Option Addr} {mn mc m : Nat} {cnt rep : Int}
    (hx : BoxIn w b F x sA sn sc lA ln lc mA mn mc m cnt rep) {A3 : Option Addr} {c4 : Nat} (kf : Kp (fun y => y = b ∨ ablk mA = some y) w w')
    (hb : At w' b #[.slice sA sn sc, .bool x.ideal, .bool true, .slice lA ln lc, .slice A3 (mn + 1) c4, .map (some m), .int .i64 cnt, .int .i64 rep])
    {rows : List (List Value)} {vs : List Value} {e : MarkE} (h1 : F2 (fun r x => MarkRow w x r) rows x.marks) (h2 : rows.length = mn) (h3 : ∀ r ∈ rows, r.length = 7) (h4 : Row w' 160 7 A3 (mn + 1) c4 (rows.flatten ++ vs)) (hv : vs.length = 7)
    (he : MarkRow w e vs) (hA3 : A3 = mA ∨ ∃ k, A3 = some ⟨k, 0, none⟩ ∧ w.heap.size ≤ k) :
    BoxAt w' b (fun y => (F y ∧ ablk mA ≠ some y) ∨ ablk A3 = some y) { x with marks := x.marks ++ [e] } := by
  obtain ⟨rows0, _, hrow0, _, _⟩ := hx.marks
  have hS : ∀ y, (y = b ∨ ablk mA = some y) → NoB w y := by
    rintro y (rfl | hy)
    · exact boxNB hx.cells
    · exact (hrow0.noB hy).1
  have hmb : m ≠ b := hx.cells.neMap hx.uses
  have hml : ablk mA ≠ some m := hrow0.neMap hx.uses
  have hold : ∀ y, ablk A3 = some y → ablk mA ≠ some y → w.heap.size ≤ y := by
    intro y hy hn
    rcases hA3 with rfl | ⟨k, rfl, hk⟩
    · exact absurd hy hn
    · have : k = y := Option.some.inj hy
      omega
  have hblt : b < w.heap.size := hx.cells.lt
  refine ⟨sA, sn, sc, lA, ln, lc, A3, mn + 1, c4, m, cnt, rep, {
    cells := hb, secret := hx.secret.clean kf hS, short := hx.short
    marks := ⟨rows ++ [vs], f2_append (f2_imp h1 fun _ _ _ _ h => h.kp kf hS) ⟨he.kp kf hS, trivial⟩, by simpa using h4, by simp [h2], fun r hr => by
      rcases List.mem_append.1 hr with hr | hr
      · exact h3 r hr
      · rw [List.mem_singleton.1 hr]; exact hv⟩
    seals := hx.seals.kp kf (fun y hy hs => by
      rcases hs with rfl | hs
      · exact hx.bl hy
      · exact hx.lk y hy hs) (fun _ _ h => h.kp kf hS)
    uses := hx.uses.kp kf (fun hs => by
      rcases hs with h | h
      · exact hmb h
      · exact hml h)
    once := hx.once, fb := Or.inl ⟨hx.fb, hx.bk⟩, fm := Or.inl ⟨hx.fm, hml⟩, fk := fun k hk => Or.inr hk
    fl := fun k hk => Or.inl ⟨hx.fl k hk, fun h => hx.lk k hk h⟩
    bk := fun h => by
      by_cases hl : ablk mA = some b
      · exact hx.bk hl
      · have := hold b h hl; omega
    bl := hx.bl
    lk := fun k hk h => by
      by_cases hl : ablk mA = some k
      · exact hx.lk k hk hl
      · have := hold k h hl
        obtain ⟨rows1, _, hrow1, _, _⟩ := hx.seals
        have := (hrow1.noB hk).2
        omega
    clean := fun y hy => ?_ }⟩
  rcases hy with ⟨hF, hn⟩ | hy
  · by_cases hyb : y = b
    · subst hyb
      exact ⟨boxNB hb, hb.lt⟩
    · have := hx.clean y hF
      exact ⟨this.1.kp this.2 kf (fun h => by rcases h with h | h; exact hyb h; exact hn h), Nat.lt_of_lt_of_le this.2 kf.size⟩
  · exact h4.noB hy

/-- Why a box does not take an id and a number, or 0. -/
def askE (k : Kid) (n : Int) : Int := if okNum n = true ∧ k.ok = true then 0 else 1

theorem ask_c (w : World) (b : Nat) (cs : Array Value) (hat : At w b cs) (hm : cs[2]? = some (.bool true)) (k : Kid) (n : Int)
    (K : Ending → World → Prop) (hK : ∀ w', Ext w w' → K (.returned (.int .i64 (askE k n))) w') :
    Calls Tryd.prog 54 #[.pointer (some ⟨b, 0, none⟩), k.v, .int .i64 n] w K := by
  have c2 : ∀ o, (w.alloc o).cell? ⟨b, 2, none⟩ = some (.bool true) := fun o => (hat.alloc o).cell hm
  rw [Kid.v_eq]
  unfold askE at hK
  go_enter Tryd.func54, Tryd.ntmps54
  go_wp2_with fail
  have e0 : Ext w (w.alloc (.cells (k.l.map I64).toArray 89)) := (Ext.refl w).alloc _
  have a0 : At (w.alloc (.cells (k.l.map I64).toArray 89)) w.heap.size (k.l.map I64).toArray := At.new w _ _
  change Calls _ _ _ (w.alloc (.cells (k.l.map I64).toArray 89)) _
  generalize w.alloc (.cells (k.l.map I64).toArray 89) = w1 at a0 e0 ⊢
  clear c2 hat hm
  by_cases hn : okNum n = true
  · refine nonce_c w1 n _ hn ?_
    intro w2 e2
    have hl : (nonceOf n).length = 12 := by simp [nonceOf, beN_len]
    generalize nonceOf n = xs at *
    go_wp2_with (with_reducible refine stop_store 119 ?_)
    refine Stop.go (wpList_store_arr (b := w2.heap.size) (o := 0) rfl (vs := xs.map B) rfl (cs := List.replicate 12 (.int .u8 0)) (At.new w2 _ _) (by simp [hl]) (by rw [List.length_map, hl]; kernel_rfl) (by intro v hv; obtain ⟨x, _, rfl⟩ := List.mem_map.1 hv; rfl) ?_)
    intro w3 a3 hk3
    have e3 : Ext w w3 := ((e0.trans e2).alloc _).new1 hk3 (by have := e2.size; have := e0.size; omega)
    have b3 : At w3 w.heap.size (k.l.map I64).toArray := ((a0.ext e2).alloc _).kp1 hk3 (by have := (a0.ext e2).lt; omega)
    clear a3 hk3 a0 e0 e2
    go_wp2_with (with_reducible refine stop_load 89 ?_)
    refine Stop.go (wpList_free rfl (wpList_load_arr (b := w.heap.size) (o := 0) rfl (vs := k.l.map I64) b3.rangeAll _ Tryd.underlying89 rfl (by kernel_rfl) ?_))
    go_wp2_with fail
    refine valid_c w3 k _ ?_
    intro w4 e4
    by_cases hk : k.ok = true
    · simp only [hn, hk, and_self, if_true] at hK
      rw [hk]
      go_wp2_with fail
      first | exact e3.trans e4 | exact hK _ (e3.trans e4)
    · have hk' : k.ok = false := by simpa using hk
      simp only [hk', Bool.false_eq_true, and_false, if_false] at hK
      rw [hk']
      go_wp2_with fail
      first | exact e3.trans e4 | exact hK _ (e3.trans e4)
  · have hn' : okNum n = false := by simpa using hn
    simp only [hn', Bool.false_eq_true, false_and, if_false] at hK
    refine nonce_no w1 n _ hn' ?_
    intro w2 e2
    go_wp2_with (with_reducible refine stop_store 119 ?_)
    refine Stop.go (wpList_store_arr (b := w2.heap.size) (o := 0) rfl (vs := List.replicate 12 (B 0)) rfl (cs := List.replicate 12 (.int .u8 0)) (At.new w2 _ _) (by simp) (by kernel_rfl) (by intro v hv; rw [List.eq_of_mem_replicate hv]; rfl) ?_)
    intro w3 a3 hk3
    have e3 : Ext w w3 := ((e0.trans e2).alloc _).new1 hk3 (by have := e2.size; have := e0.size; omega)
    go_wp2_with fail
    first | exact e3 | exact hK _ e3

/-- A box that no call made. -/
theorem ask_nil (w : World) (k : Kid) (n : Int)
    (K : Ending → World → Prop) (hK : ∀ w', Ext w w' → K (.returned (.int .i64 2)) w') :
    Calls Tryd.prog 54 #[.pointer none, k.v, .int .i64 n] w K := by
  rw [Kid.v_eq]
  have e0 : ∀ o, Ext w (w.alloc o) := fun _ => (Ext.refl w).alloc _
  go_enter Tryd.func54, Tryd.ntmps54
  go_wp2_with fail
  first | exact e0 _ | exact hK _ (e0 _)
theorem ask_unmade (w : World) (b : Nat) (cs : Array Value) (hat : At w b cs) (hm : cs[2]? = some (.bool false)) (k : Kid) (n : Int)
    (K : Ending → World → Prop) (hK : ∀ w', Ext w w' → K (.returned (.int .i64 2)) w') :
    Calls Tryd.prog 54 #[.pointer (some ⟨b, 0, none⟩), k.v, .int .i64 n] w K := by
  have c2 : ∀ o, (w.alloc o).cell? ⟨b, 2, none⟩ = some (.bool false) := fun o => (hat.alloc o).cell hm
  rw [Kid.v_eq]
  have e0 : ∀ o, Ext w (w.alloc o) := fun _ => (Ext.refl w).alloc _
  go_enter Tryd.func54, Tryd.ntmps54
  go_wp2_with fail
  first | exact e0 _ | exact hK _ (e0 _)


theorem MapU.made (w : World) : MapU (w.alloc (.map #[] 0)) w.heap.size [] :=
  ⟨#[], 0, heap_alloc_new w _, by simp, by simp, by simp, by simp⟩
theorem Led.nil {α : Type} (R : World → α → List Value → Prop) (w : World) (e size : Nat) : Led R w e size none 0 0 [] := ⟨[], trivial, Row.nil w e size, rfl, by simp⟩

theorem new_c (w : World) (A : Option Addr) (n c : Nat) (xs : List UInt8) (ideal : Bool) (hn : n ≤ 1099511627776) (hb : Bs w A n c xs)
    (K : Ending → World → Prop) (hK : ∀ b F w', Ext w w' → BoxAt w' b F ⟨xs, ideal, [], [], []⟩ → (∀ x, F x → w.heap.size ≤ x) → K (.returned (.pointer (some ⟨b, 0, none⟩))) w') :
    Calls Tryd.prog 11 #[.slice A n c, .bool ideal] w K := by
  have hmm := @run_makeMap_plain Tryd.prog
  go_enter Tryd.func11, Tryd.ntmps11
  go_wp2_with fail
  refine clone_c w A n c xs hn hb _ ?_
  intro A' c' w1 he1 ho1
  go_wp2_with fail
  have e1 : ∀ o, Ext w ((w1.alloc (.map #[] 0)).alloc o) := fun o => (he1.alloc _).alloc _
  have m1 : ∀ o, MapU ((w1.alloc (.map #[] 0)).alloc o) w1.heap.size [] := fun o => (MapU.made w1).kp (Ext.alloc (Ext.refl _) o) (fun h => h)
  have b1 : ∀ o, Bs ((w1.alloc (.map #[] 0)).alloc o) A' n c' xs := fun o => ho1.bs.ext (((Ext.refl w1).alloc _).alloc o)
  have a1 := At.new2 w1 (.map #[] 0) #[.slice A' n c', .bool ideal, .bool true, .slice none 0 0, .slice none 0 0, .map (some w1.heap.size), .int .i64 0, .int .i64 0] 81
  have hsz : ∀ o, ((w1.alloc (.map #[] 0)).alloc o).heap.size = w1.heap.size + 2 := fun o => by simp
  have hbs := he1.size
  refine hK (w1.heap.size + 1) (fun k => k = w1.heap.size ∨ k = w1.heap.size + 1) _ (e1 _) ⟨A', n, c', none, 0, 0, none, 0, 0, w1.heap.size, 0, 0, ?_⟩ (fun x hx => by rcases hx with rfl | rfl <;> omega)
  exact {
    cells := a1, secret := b1 _, short := hn, seals := Led.nil _ _ _ _, marks := Led.nil _ _ _ _, uses := m1 _, once := fun _ => rfl
    fb := Or.inr rfl, fm := Or.inl rfl, fl := fun k h => (by cases h), fk := fun k h => (by cases h), bl := by simp [ablk], bk := by simp [ablk], lk := fun k h => (by cases h)
    clean := fun k hk => by
      rcases hk with rfl | rfl
      · exact ⟨(m1 _).noB, by rw [hsz]; omega⟩
      · refine ⟨a1.noB ?_, by rw [hsz]; omega⟩
        intro v hv u e
        subst e
        simp [B] at hv }
end Go.Proofs.YtdlaojpjkijccaaDoor
