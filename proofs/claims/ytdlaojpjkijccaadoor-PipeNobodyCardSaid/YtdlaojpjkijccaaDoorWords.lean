/- Words of this claim: how worlds are compared, how slices, owned rows and objects are read, and the walk's laws on them. -/
import Derived.Test.YtdlaojpjkijccaaDoorProg
import Derived.WalkKit
import Derived.Deep.QuietTactic
import Derived.BigQuiet
import Derived.Deep.RegionHeld3
import Derived.Deep.LoopGhost
import Derived.Deep.MidRow
import Derived.KernelRfl
set_option linter.unusedVariables false
set_option linter.unusedSimpArgs false
namespace Go.Proofs.YtdlaojpjkijccaaDoor
open Go.RowKit

/-- A goal at which the walk stands still. -/
def Stop (p : Prop) : Prop := p
theorem stop_at {p : Prop} (h : Stop p) : p := h
theorem Stop.go {p : Prop} (h : p) : Stop p := h

/-- All blocks of w but those in S are in w' as they were. -/
structure Kp (S : Nat → Prop) (w w' : World) : Prop where
  os : w'.os = w.os
  tape : w'.tape = w.tape
  output : w'.output = w.output
  size : w.heap.size ≤ w'.heap.size
  block : ∀ k, k < w.heap.size → ¬ S k → w'.heap[k]? = w.heap[k]?

/-- All blocks of w are in w' as they were. -/
def Ext (w w' : World) : Prop := Kp (fun _ => False) w w'

theorem Kp.refl (S : Nat → Prop) (w : World) : Kp S w w := ⟨rfl, rfl, rfl, Nat.le_refl _, fun _ _ _ => rfl⟩
theorem Kp.trans {S S' T : Nat → Prop} {a b c : World} (h : Kp S a b) (k : Kp S' b c) (h1 : ∀ x, x < a.heap.size → S x → T x) (h2 : ∀ x, x < a.heap.size → S' x → T x) : Kp T a c :=
  ⟨k.os.trans h.os, k.tape.trans h.tape, k.output.trans h.output, Nat.le_trans h.size k.size, fun i hi hT =>
    (k.block i (Nat.lt_of_lt_of_le hi h.size) (fun hs => hT (h2 i hi hs))).trans (h.block i hi (fun hs => hT (h1 i hi hs)))⟩
theorem Kp.mono {S T : Nat → Prop} {a b : World} (h : Kp S a b) (h1 : ∀ x, x < a.heap.size → S x → T x) : Kp T a b := h.trans (Kp.refl (fun _ => False) b) h1 (fun _ _ h => h.elim)
/-- Behind, only blocks that are new to a were written. -/
theorem Kp.new {S S' : Nat → Prop} {a b c : World} (h : Kp S a b) (k : Kp S' b c) (h2 : ∀ x, S' x → a.heap.size ≤ x) : Kp S a c :=
  h.trans k (fun _ _ h => h) (fun x hx hs => absurd hx (by have := h2 x hs; omega))
theorem Kp.new1 {S : Nat → Prop} {a b c : World} {x : Nat} (h : Kp S a b) (k : Kp (fun y => y = x) b c) (hx : a.heap.size ≤ x) : Kp S a c := h.new k (fun y hy => by subst hy; exact hx)
theorem Kp.ext {S : Nat → Prop} {a b c : World} (h : Kp S a b) (k : Ext b c) : Kp S a c := h.trans k (fun _ _ h => h) (fun _ _ h => h.elim)
theorem Ext.refl (w : World) : Ext w w := Kp.refl _ w
theorem Ext.trans {a b c : World} (h : Ext a b) (k : Ext b c) : Ext a c := Kp.ext h k
theorem Ext.new1 {a b c : World} {x : Nat} (h : Ext a b) (k : Kp (fun y => y = x) b c) (hx : a.heap.size ≤ x) : Ext a c := Kp.new1 h k hx
theorem Ext.kp {a b : World} (h : Ext a b) (S : Nat → Prop) : Kp S a b := Kp.mono h (fun _ _ h => h.elim)
theorem Ext.size {a b : World} (h : Ext a b) : a.heap.size ≤ b.heap.size := Kp.size h
theorem Ext.below {a b : World} (h : Ext a b) : Below a.heap.size a b := ⟨h.os, h.tape, h.output, h.size, fun k hk => h.block k hk (fun h => h)⟩
theorem Ext.of_below {a b : World} (h : Below a.heap.size a b) : Ext a b := ⟨h.os, h.tape, h.output, h.size, fun k hk _ => h.block k hk⟩
theorem Kp.alloc {S : Nat → Prop} {a b : World} (h : Kp S a b) (o : Obj) : Kp S a (b.alloc o) :=
  h.ext ⟨rfl, rfl, rfl, by simp, fun k hk _ => by
    show (b.heap.push o)[k]? = _
    rw [Array.getElem?_push, if_neg (by omega)]⟩
theorem Ext.alloc {a b : World} (h : Ext a b) (o : Obj) : Ext a (b.alloc o) := Kp.alloc h o
theorem Kp.drew {S : Nat → Prop} {a b : World} (h : Kp S a b) : Kp S a b.drew := ⟨h.os, h.tape, h.output, h.size, h.block⟩
theorem Ext.drew {a b : World} (h : Ext a b) : Ext a b.drew := Kp.drew h
theorem Kp.drewN {S : Nat → Prop} {a b : World} (h : Kp S a b) (n : Nat) : Kp S a (b.drewN n) := ⟨h.os, h.tape, h.output, h.size, h.block⟩
theorem Ext.drewN {a b : World} (h : Ext a b) (n : Nat) : Ext a (b.drewN n) := Kp.drewN h n
theorem Kp.set1 (w : World) (p : Addr) (v : Value) : Kp (fun k => k = p.block) w (w.setCell p v) :=
  ⟨rfl, rfl, rfl, by simp, fun k _ hk => by
    simp only [World.setCell, Array.getElem?_modify]
    rw [if_neg (fun e => hk e.symm)]⟩
theorem Kp.setCell {S : Nat → Prop} {a b : World} (h : Kp S a b) {p : Addr} (hp : S p.block ∨ a.heap.size ≤ p.block) (v : Value) : Kp S a (b.setCell p v) :=
  h.trans (Kp.set1 b p v) (fun _ _ h => h) (fun x hx e => by subst e; rcases hp with hp | hp; exact hp; omega)
theorem Ext.setCell {a b : World} (h : Ext a b) {p : Addr} (hp : a.heap.size ≤ p.block) (v : Value) : Ext a (b.setCell p v) := Kp.setCell h (Or.inr hp) v
theorem Kp.of_grown {w w' : World} {row : Option Nat} (h : w.grownBy w' row) : Kp (fun k => row = some k) w w' :=
  ⟨h.os, h.tape, h.output, h.size, fun k hk hn => h.block k hk (fun e => hn e.symm)⟩
theorem Ext.of_grown {w w' : World} (h : w.grownBy w' none) : Ext w w' := (Kp.of_grown h).mono (fun _ _ h => by cases h)

theorem Kp.cell {S : Nat → Prop} {w w' : World} (h : Kp S w w') {p : Addr} {v : Value} (hc : w.cell? p = some v) (hp : ¬ S p.block) : w'.cell? p = some v :=
  (World.cell?_of_block (h.block p.block (World.block_lt_of_cell? w _ hc) hp)).trans hc
theorem Ext.cell {w w' : World} (h : Ext w w') {p : Addr} {v : Value} (hc : w.cell? p = some v) : w'.cell? p = some v := Kp.cell h hc (fun h => h)
theorem Kp.heap {S : Nat → Prop} {w w' : World} (h : Kp S w w') {b : Nat} {o : Obj} (hc : w.heap[b]? = some o) (hp : ¬ S b) : w'.heap[b]? = some o :=
  (h.block b (Array.getElem?_eq_some_iff.1 hc).1 hp).trans hc

/-- Behind draws a world is another one with the same blocks. -/
theorem drewN_abs (w : World) (n : Nat) : ∃ q, w.drewN n = q ∧ Ext w q ∧ Ext q w ∧ q.heap = w.heap := ⟨_, rfl, Ext.drewN (Ext.refl w) n, ⟨rfl, rfl, rfl, Nat.le_refl _, fun _ _ _ => rfl⟩, rfl⟩
theorem drew_abs (w : World) : ∃ q, w.drew = q ∧ Ext w q ∧ Ext q w ∧ q.heap = w.heap := ⟨_, rfl, Ext.drew (Ext.refl w), ⟨rfl, rfl, rfl, Nat.le_refl _, fun _ _ _ => rfl⟩, rfl⟩
theorem frozen_of_heap {w q : World} (h : q.heap = w.heap) {p : Addr} {b : Bool} (hf : w.frozen? p = b) : q.frozen? p = b := by
  unfold World.frozen? at *
  rw [h]
  exact hf

/-- Block b holds these cells, none of them frozen. -/
def At (w : World) (b : Nat) (cs : Array Value) : Prop := ∃ T, w.heap[b]? = some (.cells cs T (0, 0))
theorem At.lt {w : World} {b : Nat} {cs : Array Value} (h : At w b cs) : b < w.heap.size := by
  obtain ⟨T, h⟩ := h
  exact (Array.getElem?_eq_some_iff.1 h).1
theorem At.cell {w : World} {b : Nat} {cs : Array Value} (h : At w b cs) {j : Nat} {v : Value} (hv : cs[j]? = some v) : w.cell? ⟨b, j, none⟩ = some v := by
  obtain ⟨T, h⟩ := h
  rw [cell_of_row w b j cs T (0, 0) h, hv]
theorem At.frozen {w : World} {b : Nat} {cs : Array Value} (h : At w b cs) (j : Nat) : w.frozen? ⟨b, j, none⟩ = false := by
  obtain ⟨T, h⟩ := h
  simp [World.frozen?, h]
theorem At.kp {S : Nat → Prop} {w w' : World} {b : Nat} {cs : Array Value} (h : At w b cs) (k : Kp S w w') (hb : ¬ S b) : At w' b cs := by
  obtain ⟨T, h⟩ := h
  exact ⟨T, k.heap h hb⟩
theorem At.kp1 {w w' : World} {b k : Nat} {cs : Array Value} (h : At w b cs) (hk : Kp (fun x => x = k) w w') (hb : b ≠ k) : At w' b cs := h.kp hk hb
theorem At.ext {w w' : World} {b : Nat} {cs : Array Value} (h : At w b cs) (k : Ext w w') : At w' b cs := At.kp h k (fun h => h)
theorem At.new (w : World) (cs : Array Value) (T : TypeId) : At (w.alloc (.cells cs T)) w.heap.size cs := ⟨T, heap_alloc_new w _⟩
theorem At.new2 (w : World) (o : Obj) (cs : Array Value) (T : TypeId) : At ((w.alloc o).alloc (.cells cs T)) (w.heap.size + 1) cs := by
  have h := At.new (w.alloc o) cs T
  rwa [World.size_alloc] at h
theorem At.new3 (w : World) (o o' : Obj) (cs : Array Value) (T : TypeId) : At (((w.alloc o).alloc o').alloc (.cells cs T)) (w.heap.size + 2) cs := by
  have h := At.new ((w.alloc o).alloc o') cs T
  rwa [World.size_alloc, World.size_alloc] at h
theorem At.alloc {w : World} {b : Nat} {cs : Array Value} (h : At w b cs) (o : Obj) : At (w.alloc o) b cs := h.ext (Ext.alloc (Ext.refl w) o)
theorem At.drew {w : World} {b : Nat} {cs : Array Value} (h : At w b cs) : At w.drew b cs := h
theorem At.set {w : World} {b : Nat} {cs : Array Value} (h : At w b cs) (j : Nat) (v : Value) : At (w.setCell ⟨b, j, none⟩ v) b (cs.setIfInBounds j v) := by
  obtain ⟨T, h⟩ := h
  exact ⟨T, heap_setCell_same w b j cs T v h⟩
theorem At.set_other {w : World} {b : Nat} {cs : Array Value} (h : At w b cs) {p : Addr} (hp : p.block ≠ b) (v : Value) : At (w.setCell p v) b cs :=
  h.kp (Kp.set1 w p v) (fun e => hp e.symm)
theorem At.setRow {w : World} {b : Nat} {cs : Array Value} (h : At w b cs) (ds : Array Value) : At (w.setRow b ds) b ds := by
  obtain ⟨T, h⟩ := h
  exact ⟨T, setRow_heap w b cs ds T _ h⟩
theorem At.range {w : World} {b : Nat} {cs : Array Value} (h : At w b cs) (o : Nat) (vs : List Value) (hv : (cs.toList.drop o).take vs.length = vs) : w.rangeAt b o vs := fun j v hj => by
  refine h.cell ?_
  rw [← hv, List.getElem?_take] at hj
  split at hj
  · simpa [List.getElem?_drop] using hj
  · cases hj
theorem At.rangeAll {w : World} {b : Nat} {vs : List Value} (h : At w b vs.toArray) : w.rangeAt b 0 vs := h.range 0 vs (by simp)
/-- One cell more of a row is set. -/
theorem set_row (pre : List Value) (z v : Value) (k : Nat) : ((pre ++ List.replicate (k + 1) z).toArray).setIfInBounds pre.length v = (pre ++ [v] ++ List.replicate k z).toArray := by
  apply Array.ext'
  simp [List.replicate_succ]
theorem At.inj {w : World} {b : Nat} {cs ds : Array Value} (h : At w b cs) (k : At w b ds) : cs = ds := by
  obtain ⟨T, h⟩ := h
  obtain ⟨U, k⟩ := k
  rw [h] at k
  injection k with k
  injection k

/-- The slice '.slice A n c' of elements of 'size' cells reads as the cells vs. -/
structure Rv (w : World) (size : Nat) (A : Option Addr) (n c : Nat) (vs : List Value) : Prop where
  len : vs.length = n * size
  le : n ≤ c
  cap : c ≤ maxLen
  nil : A = none → c = 0
  cell : ∀ ad, A = some ad → ∀ j u, vs[j]? = some u → w.cell? (ad.add j) = some u
  one : ∀ u ∈ vs, u.oneCell' = true

theorem addr_add_block (ad : Addr) (j : Nat) : (ad.add j).block = ad.block := by
  unfold Addr.add
  split <;> rfl
theorem Rv.kp {S : Nat → Prop} {w w' : World} {size : Nat} {A : Option Addr} {n c : Nat} {vs : List Value} (h : Rv w size A n c vs) (k : Kp S w w') (hs : ∀ ad, A = some ad → 0 < n → ¬ S ad.block) : Rv w' size A n c vs :=
  ⟨h.len, h.le, h.cap, h.nil, fun ad ha j u hu => k.cell (h.cell ad ha j u hu) (by
    rw [addr_add_block]
    refine hs ad ha (Nat.pos_of_ne_zero fun e => ?_)
    subst e
    have hl := h.len
    have : vs = [] := List.eq_nil_of_length_eq_zero (by simpa using hl)
    subst this
    cases hu), h.one⟩
theorem Rv.ext {w w' : World} {size : Nat} {A : Option Addr} {n c : Nat} {vs : List Value} (h : Rv w size A n c vs) (k : Ext w w') : Rv w' size A n c vs := Rv.kp h k (fun _ _ _ h => h)
theorem Rv.none (w : World) (size : Nat) : Rv w size none 0 0 [] := ⟨by simp, Nat.le_refl _, by unfold maxLen; omega, fun _ => rfl, fun _ h => (by cases h), fun _ h => (by cases h)⟩

/-- The slice '.slice A n c' owns its cells vs from block base on (a nil one owns none). -/
def Ow (w : World) (base e size : Nat) (A : Option Addr) (n c : Nat) (vs : List Value) : Prop :=
  w.ownsRow base e size (.slice A n c) n vs ∧ ∀ u ∈ vs, u.oneCell' = true
def ablk (A : Option Addr) : Option Nat := A.map (·.block)
theorem ownBlock_ablk (A : Option Addr) (n c : Nat) : Value.ownBlock (.slice A n c) = ablk A := by cases A <;> rfl
theorem Ow.nil (w : World) (base e size : Nat) : Ow w base e size none 0 0 [] := ⟨World.ownsRow_nil w base e size, fun _ h => (by cases h)⟩
theorem Ow.mono {w : World} {base base' e size : Nat} {A : Option Addr} {n c : Nat} {vs : List Value} (h : Ow w base e size A n c vs) (hb : base' ≤ base) : Ow w base' e size A n c vs := by
  obtain ⟨h, h1⟩ := h
  refine ⟨⟨h.1, ?_⟩, h1⟩
  rcases h.2 with hn | ⟨g, cap, cur, e, hb', r⟩
  · exact Or.inl hn
  · exact Or.inr ⟨g, cap, cur, e, Nat.le_trans hb hb', r⟩
theorem Ow.base {w : World} {base e size : Nat} {A : Option Addr} {n c : Nat} {vs : List Value} (h : Ow w base e size A n c vs) {k : Nat} (hk : ablk A = some k) : base ≤ k ∧ k < w.heap.size :=
  World.ownsRow.lt h.1 k (by rw [ownBlock_ablk]; exact hk)
theorem Ow.rv {w : World} {base e size : Nat} {A : Option Addr} {n c : Nat} {vs : List Value} (h : Ow w base e size A n c vs) : Rv w size A n c vs := by
  obtain ⟨h, h1⟩ := h
  have hl := h.1
  rcases h.2 with ⟨e, hn⟩ | ⟨g, cap, cur, e, hb, hg, h2, h3, h4, h5⟩
  · injection e with e1 e2 e3
    subst e1 e3
    exact ⟨hl, by omega, by unfold maxLen; omega, fun _ => rfl, fun ad ha => (by cases ha), h1⟩
  · injection e with e1 e2 e3
    subst e1 e3
    refine ⟨hl, h2, h3, fun e => (by cases e), fun ad ha j u hu => ?_, h1⟩
    cases ha
    exact h.cells (g := g) rfl j u hu
theorem Ow.kp {S : Nat → Prop} {w w' : World} {base e size : Nat} {A : Option Addr} {n c : Nat} {vs : List Value} (h : Ow w base e size A n c vs) (k : Kp S w w') (hs : ∀ x, ablk A = some x → ¬ S x) : Ow w' base e size A n c vs := by
  refine ⟨⟨h.1.1, ?_⟩, h.2⟩
  rcases h.1.2 with hn | ⟨g, cap, cur, e, hb', hg, r⟩
  · exact Or.inl hn
  · refine Or.inr ⟨g, cap, cur, e, hb', k.heap hg (hs g ?_), r⟩
    injection e with e
    subst e
    rfl
theorem Ow.ext {w w' : World} {base e size : Nat} {A : Option Addr} {n c : Nat} {vs : List Value} (h : Ow w base e size A n c vs) (k : Ext w w') : Ow w' base e size A n c vs := Ow.kp h k (fun _ _ h => h)
theorem Ow.below {S : Nat → Prop} {w w' : World} {base e size : Nat} {A : Option Addr} {n c : Nat} {vs : List Value} (h : Ow w base e size A n c vs) (k : Kp S w w') (hs : ∀ x, S x → x < base) : Ow w' base e size A n c vs :=
  h.kp k (fun x hx hS => by have h1 := (h.base hx).1; have h2 := hs x hS; omega)

/-! ### bytes -/
def B (x : UInt8) : Value := .int .u8 x.toNat
def Bs (w : World) (A : Option Addr) (n c : Nat) (xs : List UInt8) : Prop := Rv w 1 A n c (xs.map B)
def Ob (w : World) (base : Nat) (A : Option Addr) (n c : Nat) (xs : List UInt8) : Prop := Ow w base 5 1 A n c (xs.map B)
theorem Bs.ext {w w' : World} {A : Option Addr} {n c : Nat} {xs : List UInt8} (h : Bs w A n c xs) (k : Ext w w') : Bs w' A n c xs := Rv.ext h k
theorem Bs.kp {S : Nat → Prop} {w w' : World} {A : Option Addr} {n c : Nat} {xs : List UInt8} (h : Bs w A n c xs) (k : Kp S w w') (hs : ∀ ad, A = some ad → 0 < n → ¬ S ad.block) : Bs w' A n c xs := Rv.kp h k hs
theorem Bs.len {w : World} {A : Option Addr} {n c : Nat} {xs : List UInt8} (h : Bs w A n c xs) : xs.length = n := by have := Rv.len h; simpa using this
theorem Bs.nil (w : World) : Bs w none 0 0 [] := Rv.none w 1
theorem Bs.cell {w : World} {A : Option Addr} {n c : Nat} {xs : List UInt8} (h : Bs w A n c xs) {ad : Addr} (ha : A = some ad) {j : Nat} (hj : j < n) :
    w.cell? (ad.add j) = some (.int .u8 ((xs.getD j 0).toNat : Int)) := by
  have hl := h.len
  refine Rv.cell h ad ha j _ ?_
  simp [B, List.getElem?_map, List.getElem?_eq_getElem (show j < xs.length by omega), List.getD]
/-- A block without bytes bears none of a text's bytes. -/
theorem Bs.apart {w : World} {A : Option Addr} {n c b : Nat} {xs : List UInt8} {cs : Array Value} (h : Bs w A n c xs) (hat : At w b cs) (hne : ∀ v ∈ cs, ∀ u, v ≠ B u) {ad : Addr} (ha : A = some ad) (hn : 0 < n) : ad.block ≠ b := by
  intro e
  have hc := h.cell ha hn
  have e0 : ad.add 0 = ad := by unfold Addr.add; rfl
  rw [e0] at hc
  obtain ⟨T, hat⟩ := hat
  subst e
  simp only [World.cell?, hat] at hc
  split at hc
  · cases hc
  · exact hne _ (Array.mem_of_getElem? hc) _ rfl
theorem Bs.kpAt {w w' : World} {A : Option Addr} {n c b : Nat} {xs : List UInt8} {cs : Array Value} (h : Bs w A n c xs) (k : Kp (fun x => x = b) w w') (hat : At w b cs) (hne : ∀ v ∈ cs, ∀ u, v ≠ B u) : Bs w' A n c xs :=
  h.kp k (fun _ ha hn e => h.apart hat hne ha hn e)
theorem Bs.ex {w : World} {A : Option Addr} {n c : Nat} {xs : List UInt8} (h : Bs w A n c xs) (hn : 0 < c) : ∃ ad, A = Option.some ad := by
  cases A with
  | none => have := Rv.nil h rfl; omega
  | some ad => exact ⟨ad, rfl⟩
theorem Bs.sub {w : World} {A : Option Addr} {n c : Nat} {xs : List UInt8} (h : Bs w A n c xs) (m : Nat) (hm : m ≤ n) : Bs w A m c (xs.take m) := by
  have hl := h.len
  refine ⟨by simp; omega, Nat.le_trans hm (Rv.le h), Rv.cap h, Rv.nil h, fun ad ha j u hu => Rv.cell h ad ha j u ?_, fun u hu => Rv.one h u ?_⟩
  · rw [List.map_take, List.getElem?_take] at hu
    split at hu
    · exact hu
    · cases hu
  · rw [List.map_take] at hu
    exact List.mem_of_mem_take hu
theorem addr_add_add (ad : Addr) (i j : Nat) : (ad.add i).add j = ad.add (i + j) := by
  unfold Addr.add
  split <;> split <;> split <;> simp_all <;> omega
theorem Bs.from {w : World} {A A' : Option Addr} {n c : Nat} {xs : List UInt8} (h : Bs w A n c xs) (m : Nat) (hm : m ≤ n) (h0 : c = m → A' = A) (h1 : ¬ c = m → A' = Option.map (fun x => x.add m) A) : Bs w A' (n - m) (c - m) (xs.drop m) := by
  have hl := h.len
  have hle := Rv.le h
  refine ⟨by simp; omega, by omega, Nat.le_trans (Nat.sub_le _ _) (Rv.cap h), fun e => ?_, fun ad ha j u hu => ?_, fun u hu => Rv.one h u ?_⟩
  · by_cases hc : c = m
    · omega
    · rw [h1 hc] at e
      have := Rv.nil h (by cases A with | none => rfl | some a => cases e)
      omega
  · by_cases hc : c = m
    · have : xs.drop m = [] := List.drop_of_length_le (by omega)
      rw [this] at hu
      cases hu
    · rw [h1 hc] at ha
      cases A with
      | none => cases ha
      | some b =>
        injection ha with ha
        subst ha
        rw [addr_add_add]
        refine Rv.cell h b rfl (m + j) u ?_
        rw [List.map_drop, List.getElem?_drop] at hu
        exact hu
  · rw [List.map_drop] at hu
    exact List.mem_of_mem_drop hu
theorem Ob.ext {w w' : World} {base : Nat} {A : Option Addr} {n c : Nat} {xs : List UInt8} (h : Ob w base A n c xs) (k : Ext w w') : Ob w' base A n c xs := Ow.ext h k
theorem Ob.bs {w : World} {base : Nat} {A : Option Addr} {n c : Nat} {xs : List UInt8} (h : Ob w base A n c xs) : Bs w A n c xs := Ow.rv h
theorem Ob.len {w : World} {base : Nat} {A : Option Addr} {n c : Nat} {xs : List UInt8} (h : Ob w base A n c xs) : xs.length = n := h.bs.len
theorem Ob.nil (w : World) (base : Nat) : Ob w base none 0 0 [] := Ow.nil w base _ 1
theorem Ob.mono {w : World} {base base' : Nat} {A : Option Addr} {n c : Nat} {xs : List UInt8} (h : Ob w base A n c xs) (hb : base' ≤ base) : Ob w base' A n c xs := Ow.mono h hb
/-- A literal of bytes, new. -/
theorem Ob.lit (w : World) (base : Nat) (xs : List UInt8) (cs : Array Value) (n : Nat) (hb : base ≤ w.heap.size) (hcs : cs = (xs.map B).toArray) (hl : n = xs.length) (hm : xs.length ≤ 1000000) : Ob (w.alloc (.cells cs 5)) base (some ⟨w.heap.size, 0, none⟩) n n xs := by
  subst hcs hl
  refine ⟨⟨by simp, Or.inr ⟨w.heap.size, xs.length, _, rfl, hb, heap_alloc_new w _, Nat.le_refl _, by unfold maxLen; omega, by simp, ?_⟩⟩, ?_⟩
  · simp only [Nat.mul_one]
    exact List.take_of_length_le (by simp)
  · intro u hu
    obtain ⟨x, _, rfl⟩ := List.mem_map.1 hu
    rfl

theorem info_u8 : (Tryd.prog.info? 5).map (fun i => (i.zero, i.size, i.bytes)) = some (some (.int .u8 0), 1, 1) := by kernel_rfl

/-- append, what is appended to being owned, and what is appended readable. -/
theorem wpList_append_ow {w : World} {ops : Array Oper} {rest : List Oper} {a : Act} {Q : Exit → Act → World → Prop} {d : Option Tmp} {s x : Operand} {T ty : TypeId} {pos : String} {after : Array Edge}
    (base e size bytes : Nat) (i : TypeInfo) (z : Value) (ht : Tryd.prog.underlying T = some (.slice e)) (hi : Tryd.prog.info? e = some i) (hz : i.zero = some z) (hsz : i.size = size) (hby : i.bytes = bytes) (hzs : z.cells.size = size) (hs0 : 0 < size)
    {A : Option Addr} {n c : Nat} {vs : List Value} (hs : a.eval s = .slice A n c) (hown : Ow w base e size A n c vs)
    {A' : Option Addr} {m d' : Nat} {us : List Value} (hx : a.eval x = .slice A' m d') (hy : Rv w size A' m d' us)
    (hlen : (n + m) * bytes ≤ 140737488355328) (hml : n + m ≤ maxLen) (hbase : base ≤ w.heap.size)
    (h : ∀ A2 c2 w', Ow w' base e size A2 (n + m) c2 (vs ++ us) → Kp (fun k => ablk A = some k) w w' → wpList Tryd.prog ops Q rest (a.put d (.slice A2 (n + m) c2)) w') :
    wpList Tryd.prog ops Q ({ dst := d, op := .call { callee := .builtin .append, args := #[s, x], argTypes := #[T, T] }, type := ty, pos, after, guard := none } :: rest) a w := by
  cases A' with
  | some ad =>
    refine wpList_append_own w rfl s x T rfl base e i z size bytes ht hi hz hsz hby hzs hs0 _ n vs hs hown.1 ad m d' us hx hy.len (hy.cell ad rfl) hy.one hml hlen hbase ?_
    intro v' w' ho hg _
    have hsl : ∃ A2 c2, v' = .slice A2 (n + m) c2 := by
      rcases ho.2 with ⟨rfl, h0⟩ | ⟨g, cap, cur, rfl, _⟩
      · exact ⟨none, 0, by rw [h0]⟩
      · exact ⟨_, cap, rfl⟩
    obtain ⟨A2, c2, rfl⟩ := hsl
    refine h A2 c2 w' ⟨ho, fun u hu => ?_⟩ ?_
    · rcases List.mem_append.1 hu with hu | hu
      · exact hown.2 u hu
      · exact hy.one u hu
    · rw [← ownBlock_ablk A n c]
      exact Kp.of_grown hg
  | none =>
    have hd : d' = 0 := hy.nil rfl
    have hm : m = 0 := by have := hy.le; omega
    subst hd hm
    have hu : us = [] := List.eq_nil_of_length_eq_zero (by simpa using hy.len)
    subst hu
    refine wpList_plain rfl fun K hK' => ?_
    have hrun := run_append_owned_none (P := Tryd.prog) w base T ty e i size ht hi (.slice A n c) n vs hown.1
    unfold Oper.wp
    simp [execOp, resolve, invoke, builtin, hs, hx, hrun, Result.andThen]
    exact hK' _ _ (by simpa using h A c w (by simpa using hown) (Kp.refl _ _))

/-- append of bytes. -/
theorem wpList_append_ob {w : World} {ops : Array Oper} {rest : List Oper} {a : Act} {Q : Exit → Act → World → Prop} {d : Option Tmp} {s x : Operand} {ty : TypeId} {pos : String} {after : Array Edge}
    (base : Nat) {A : Option Addr} {n c : Nat} {xs : List UInt8} (hs : a.eval s = .slice A n c) (hown : Ob w base A n c xs)
    {A' : Option Addr} {m d' : Nat} {ys : List UInt8} (hx : a.eval x = .slice A' m d') (hy : Bs w A' m d' ys)
    (hlen : n + m ≤ 140737488355328) (hbase : base ≤ w.heap.size)
    (h : ∀ A2 c2 w', Ob w' base A2 (n + m) c2 (xs ++ ys) → Kp (fun k => ablk A = some k) w w' → wpList Tryd.prog ops Q rest (a.put d (.slice A2 (n + m) c2)) w') :
    wpList Tryd.prog ops Q ({ dst := d, op := .call { callee := .builtin .append, args := #[s, x], argTypes := #[22, 22] }, type := ty, pos, after, guard := none } :: rest) a w := by
  obtain ⟨i0, hi, hz0, hz1, hz2⟩ := info_parts info_u8
  refine wpList_append_ow base 5 1 1 i0 (.int .u8 0) Tryd.underlying22 hi hz0 hz1 hz2 rfl (by decide) hs hown hx hy (by omega) (by unfold maxLen; omega) hbase ?_
  intro A2 c2 w' ho hk
  exact h A2 c2 w' (by unfold Ob; rw [List.map_append]; exact ho) hk

/-! ### lists of texts -/
def F2 {α β : Type} (R : α → β → Prop) : List α → List β → Prop
  | [], [] => True
  | a :: l, b :: m => R a b ∧ F2 R l m
  | _, _ => False
def sv (t : Option Addr × Nat × Nat) : Value := .slice t.1 t.2.1 t.2.2
/-- The slice '.slice A n c' is of slices that read as the texts ls. -/
def Ls (w : World) (A : Option Addr) (n c : Nat) (ls : List (List UInt8)) : Prop :=
  ∃ ts : List (Option Addr × Nat × Nat), Rv w 1 A n c (ts.map sv) ∧ F2 (fun t xs => Bs w t.1 t.2.1 t.2.2 xs) ts ls
def Ol (w : World) (base : Nat) (A : Option Addr) (n c : Nat) (ls : List (List UInt8)) : Prop :=
  ∃ ts : List (Option Addr × Nat × Nat), Ow w base 22 1 A n c (ts.map sv) ∧ F2 (fun t xs => Bs w t.1 t.2.1 t.2.2 xs) ts ls
theorem f2_imp {α β : Type} {R S : α → β → Prop} {l : List α} : ∀ {m : List β}, F2 R l m → (∀ a b, a ∈ l → b ∈ m → R a b → S a b) → F2 S l m := by
  induction l with
  | nil => intro m h _; cases m with
    | nil => trivial
    | cons _ _ => exact h.elim
  | cons x l ih => intro m h hi; cases m with
    | nil => exact h.elim
    | cons y m => exact ⟨hi x y (by simp) (by simp) h.1, ih h.2 fun a b ha hb => hi a b (by simp [ha]) (by simp [hb])⟩
theorem f2_len {α β : Type} {R : α → β → Prop} {l : List α} : ∀ {m : List β}, F2 R l m → l.length = m.length := by
  induction l with
  | nil => intro m h; cases m with
    | nil => rfl
    | cons _ _ => exact h.elim
  | cons x l ih => intro m h; cases m with
    | nil => exact h.elim
    | cons y m => simp [ih h.2]
theorem f2_get {α β : Type} {R : α → β → Prop} {l : List α} : ∀ {m : List β}, F2 R l m → ∀ (j : Nat) (a : α), l[j]? = some a → ∃ b, m[j]? = some b ∧ R a b := by
  induction l with
  | nil => intro m h j a ha; cases ha
  | cons x l ih => intro m h j a ha; cases m with
    | nil => exact h.elim
    | cons y m =>
      cases j with
      | zero => simp at ha; subst ha; exact ⟨_, rfl, h.1⟩
      | succ j => simpa using ih h.2 j a (by simpa using ha)
theorem f2_append {α β : Type} {R : α → β → Prop} {l l' : List α} {m' : List β} : ∀ {m : List β}, F2 R l m → F2 R l' m' → F2 R (l ++ l') (m ++ m') := by
  induction l with
  | nil => intro m h h'; cases m with
    | nil => exact h'
    | cons _ _ => exact h.elim
  | cons x l ih => intro m h h'; cases m with
    | nil => exact h.elim
    | cons y m => exact ⟨h.1, ih h.2 h'⟩
theorem f2_take {α β : Type} {R : α → β → Prop} {l : List α} : ∀ {m : List β}, F2 R l m → ∀ k, F2 R (l.take k) (m.take k) := by
  induction l with
  | nil => intro m h k; cases m with
    | nil => simp [F2]
    | cons _ _ => exact h.elim
  | cons x l ih => intro m h k; cases m with
    | nil => exact h.elim
    | cons y m =>
      cases k with
      | zero => simp [F2]
      | succ k => exact ⟨h.1, ih h.2 k⟩
theorem Ls.ext {w w' : World} {A : Option Addr} {n c : Nat} {ls : List (List UInt8)} (h : Ls w A n c ls) (k : Ext w w') : Ls w' A n c ls := by
  obtain ⟨ts, h1, h2⟩ := h
  exact ⟨ts, h1.ext k, f2_imp h2 fun _ _ _ _ h => h.ext k⟩
theorem Ls.len {w : World} {A : Option Addr} {n c : Nat} {ls : List (List UInt8)} (h : Ls w A n c ls) : ls.length = n := by
  obtain ⟨ts, h1, h2⟩ := h
  have := h1.len
  rw [← f2_len h2]
  simpa using this
theorem Ls.le {w : World} {A : Option Addr} {n c : Nat} {ls : List (List UInt8)} (h : Ls w A n c ls) : n ≤ c := by
  obtain ⟨ts, h1, h2⟩ := h
  exact h1.le
theorem Ls.ex {w : World} {A : Option Addr} {n c : Nat} {ls : List (List UInt8)} (h : Ls w A n c ls) (hn : 0 < c) : ∃ ad, A = Option.some ad := by
  obtain ⟨ts, h1, h2⟩ := h
  cases A with
  | none => have := h1.nil rfl; omega
  | some ad => exact ⟨ad, rfl⟩
theorem Ls.cell {w : World} {A : Option Addr} {n c : Nat} {ls : List (List UInt8)} (h : Ls w A n c ls) {ad : Addr} (ha : A = Option.some ad) {j : Nat} (hj : j < n) :
    ∃ A' n' c', w.cell? (ad.add j) = Option.some (.slice A' n' c') ∧ Bs w A' n' c' (ls.getD j []) := by
  obtain ⟨ts, h1, h2⟩ := h
  have hl : ts.length = n := by have := h1.len; simpa using this
  have ht : ts[j]? = Option.some ts[j] := List.getElem?_eq_getElem (by omega)
  obtain ⟨xs, hx, hb⟩ := f2_get h2 j _ ht
  refine ⟨_, _, _, h1.cell ad ha j (sv ts[j]) (by rw [List.getElem?_map, ht]; rfl), ?_⟩
  rw [List.getD_eq_getElem?_getD, hx]
  exact hb
theorem Ol.ls {w : World} {base : Nat} {A : Option Addr} {n c : Nat} {ls : List (List UInt8)} (h : Ol w base A n c ls) : Ls w A n c ls := by
  obtain ⟨ts, h1, h2⟩ := h
  exact ⟨ts, h1.rv, h2⟩
theorem Ol.ext {w w' : World} {base : Nat} {A : Option Addr} {n c : Nat} {ls : List (List UInt8)} (h : Ol w base A n c ls) (k : Ext w w') : Ol w' base A n c ls := by
  obtain ⟨ts, h1, h2⟩ := h
  exact ⟨ts, Ow.ext h1 k, f2_imp h2 fun _ _ _ _ h => h.ext k⟩
theorem Ol.nil (w : World) (base : Nat) : Ol w base none 0 0 [] := ⟨[], Ow.nil w base _ 1, trivial⟩
theorem Ol.base {w : World} {base : Nat} {A : Option Addr} {n c : Nat} {ls : List (List UInt8)} (h : Ol w base A n c ls) {k : Nat} (hk : ablk A = Option.some k) : base ≤ k ∧ k < w.heap.size := by
  obtain ⟨ts, h1, h2⟩ := h
  exact Ow.base h1 hk

/-! ### arrays and structs, whole -/
def splice (cs : List Value) (o : Nat) (vs : List Value) : List Value := cs.take o ++ vs ++ cs.drop (o + vs.length)
theorem at_setCells (b : Nat) (vs : List Value) : ∀ (w : World) (o : Nat) (cs : List Value), o + vs.length ≤ cs.length → At w b cs.toArray → At (w.setCells b o vs) b (splice cs o vs).toArray := by
  induction vs with
  | nil =>
    intro w o cs _ h
    simpa [World.setCells, splice] using h
  | cons v vs ih =>
    intro w o cs hl h
    have h1 := h.set o v
    simp only [List.setIfInBounds_toArray] at h1
    have h2 := ih (w.setCell ⟨b, o, none⟩ v) (o + 1) (cs.set o v) (by simp at hl ⊢; omega) h1
    have e : splice (cs.set o v) (o + 1) vs = splice cs o (v :: vs) := by
      have hol : o < cs.length := by simp at hl; omega
      have e1 : (cs.set o v).take (o + 1) = cs.take o ++ [v] := by
        apply List.ext_getElem?
        intro i
        rcases Nat.lt_trichotomy i o with h | h | h
        · simp [List.getElem?_take, List.getElem?_append, List.getElem?_set, h, Nat.lt_succ_of_lt h, show ¬ o = i by omega, show i < cs.length by omega]
          omega
        · subst h
          simp [List.getElem?_take, List.getElem?_append, List.getElem?_set, hol, Nat.min_eq_left (Nat.le_of_lt hol)]
        · simp [List.getElem?_take, List.getElem?_append, show ¬ i < o + 1 by omega, show ¬ i < o by omega, Nat.min_eq_left (Nat.le_of_lt hol)]
          try omega
      have e2 : (cs.set o v).drop (o + 1 + vs.length) = cs.drop (o + 1 + vs.length) := List.drop_set_of_lt (by omega)
      unfold splice
      rw [e1, e2]
      simp [Nat.add_assoc, Nat.add_comm 1]
    rw [World.setCells]
    rw [← e]
    exact h2
theorem kp_setCells (b : Nat) (vs : List Value) : ∀ (w : World) (o : Nat), Kp (fun k => k = b) w (w.setCells b o vs) := by
  induction vs with
  | nil => intro w o; exact Kp.refl _ _
  | cons v vs ih =>
    intro w o
    rw [World.setCells]
    exact (Kp.set1 w ⟨b, o, none⟩ v).trans (ih _ _) (fun _ _ h => h) (fun _ _ h => h)

theorem wpList_load_arr {w : World} {ops : Array Oper} {rest : List Oper} {a : Act} {Q : Exit → Act → World → Prop} {d : Option Tmp} {x : Operand} {T ty : TypeId} {pos : String} {after : Array Edge}
    {b o : Nat} (hx : a.eval x = .pointer (some ⟨b, o, none⟩)) {vs : List Value} (hc : w.rangeAt b o vs) (desc : TypeDesc) (hu : Tryd.prog.underlying T = some desc) (hd : desc.isRow = true) (hi : (Tryd.prog.info? T).map (·.size) = some vs.length)
    (h : wpList Tryd.prog ops Q rest (a.put d (.agg vs.toArray)) w) : wpList Tryd.prog ops Q ({ dst := d, op := .load T x, type := ty, pos, after, guard := none } :: rest) a w :=
  wpList_load_mid rfl T x rfl b o hx vs desc hc hu hd hi h
theorem wpList_store_arr {w : World} {ops : Array Oper} {rest : List Oper} {a : Act} {Q : Exit → Act → World → Prop} {d : Option Tmp} {x y : Operand} {T ty : TypeId} {pos : String} {after : Array Edge}
    {b o : Nat} (hx : a.eval x = .pointer (some ⟨b, o, none⟩)) {vs : List Value} (hy : a.eval y = .agg vs.toArray) {cs : List Value} (hat : At w b cs.toArray) (ho : o + vs.length ≤ cs.length)
    (hi : (Tryd.prog.info? T).map (·.size) = some vs.length) (h1 : ∀ v ∈ vs, v.oneCell' = true)
    (h : ∀ w', At w' b (splice cs o vs).toArray → Kp (fun k => k = b) w w' → wpList Tryd.prog ops Q rest (a.put d undef) w') : wpList Tryd.prog ops Q ({ dst := d, op := .store T x y, type := ty, pos, after, guard := none } :: rest) a w := by
  refine wpList_store_mid rfl T x y rfl b o vs.toArray hx hy (fun j hj => ?_) (by simpa using hi) (all_oneCell_toArray h1) (h _ (at_setCells b vs w o cs ho hat) (kp_setCells b vs w o))
  have hj' : j < vs.length := by simpa using hj
  refine ⟨?_, hat.frozen _⟩
  rw [hat.cell (j := o + j) (v := cs[o + j]'(by omega)) (by simp [List.getElem?_eq_getElem (show o + j < cs.length by omega)])]
  rfl
theorem splice_all (cs vs : List Value) (h : vs.length = cs.length) : splice cs 0 vs = vs := by
  unfold splice
  rw [List.take_zero, List.drop_of_length_le (by omega)]
  simp
theorem results_row {fn : Func} {p : Tmp} {ty : TypeId} (h : fn.results = #[.cell p ty]) (tmps : Array Value) (w : World) (g : Nat) (t : TypeId) (cs : Array Value) (fr : Nat × Nat) (d : TypeDesc)
    (hp : tmps.getD p undef = .pointer (some ⟨g, 0, none⟩)) (hg : w.heap[g]? = some (.cells cs t fr))
    (hu : Tryd.prog.underlying ty = some d) (hd : d.isRow = true) (hi : (Tryd.prog.info? ty).map (·.size) = some cs.size) :
    (results fn tmps).run Tryd.prog w = .ok (.agg cs) w :=
  results_cell_row h tmps w g t cs fr d hp hg hu (by cases d <;> simp_all [TypeDesc.isRow]) hi
theorem ret_cell {fn : Func} {p : Tmp} {ty : TypeId} {R : Ending → World → Prop} {a : Act} {w : World} {g : Nat} {cs : Array Value} (h : fn.results = #[.cell p ty]) (hp : a.tmps.getD p undef = .pointer (some ⟨g, 0, none⟩)) (hat : At w g cs)
    (d : TypeDesc) (hu : Tryd.prog.underlying ty = some d) (hd : d.isRow = true) (hi : (Tryd.prog.info? ty).map (·.size) = some cs.size) (hf : a.defers = [])
    (hR : R (.returned (.agg cs)) w) : bodyPost Tryd.prog fn R .ret a w := by
  obtain ⟨T, hat⟩ := hat
  exact bodyPost_ret (results_row h a.tmps w g T cs _ d hp hat hu hd hi) hf hR

/-- An array's element of one cell, at a place that is a variable. -/
theorem wpList_index {w : World} {ops : Array Oper} {rest : List Oper} {a : Act} {Q : Exit → Act → World → Prop} {d : Option Tmp} {x y : Operand} {T ty : TypeId} {pos : String} {after : Array Edge}
    (n e : Nat) (k : IntKind) (hT : Tryd.prog.underlying T = some (.array n e)) (hE : Tryd.prog.underlying e = some (.int k)) (hs : (Tryd.prog.info? e).map (·.size) = some 1)
    {cs : Array Value} (hx : a.eval x = .agg cs) {j : Nat} {ki : IntKind} (hy : a.eval y = .int ki j) (hj : j < n) {v : Value} (hv : cs[j]? = some v)
    (h : wpList Tryd.prog ops Q rest (a.put d v) w) : wpList Tryd.prog ops Q ({ dst := d, op := .index T x y, type := ty, pos, after, guard := none } :: rest) a w := by
  refine wpList_plain rfl fun K hK' => ?_
  cases hq : Tryd.prog.info? e with
  | none => simp [hq] at hs
  | some i =>
    have h1 : i.size = 1 := by simpa [hq] using hs
    unfold Oper.wp
    have e1 : (j : Int) < n := by omega
    simp [execOp, hx, hy, Instr.index, asIntOf, run_underlying hT, part, isAgg, run_underlying hE, sizeOf, typeInfo, hq, h1, hv, hj, Result.andThen]
    exact hK' _ _ h
theorem stop_index {P : Program} {w : World} {ops : Array Oper} {rest : List Oper} {a : Act} {Q : Exit → Act → World → Prop} {d : Option Tmp} {x y : Operand} {T ty : TypeId} {pos : String} {after : Array Edge} {g : Option (Nat × Bool)}
    (h : Stop (wpList P ops Q ({ dst := d, op := .index T x y, type := ty, pos, after, guard := g } :: rest) a w)) :
    wpList P ops Q ({ dst := d, op := .index T x y, type := ty, pos, after, guard := g } :: rest) a w := h

/-- The walk stands still at an append. -/
theorem stop_append {P : Program} {w : World} {ops : Array Oper} {rest : List Oper} {a : Act} {Q : Exit → Act → World → Prop} {d : Option Tmp} {az : Array Operand} {ts : Array TypeId} {ty : TypeId} {pos : String} {after : Array Edge} {g : Option (Nat × Bool)}
    (h : Stop (wpList P ops Q ({ dst := d, op := .call { callee := .builtin .append, args := az, argTypes := ts }, type := ty, pos, after, guard := g } :: rest) a w)) :
    wpList P ops Q ({ dst := d, op := .call { callee := .builtin .append, args := az, argTypes := ts }, type := ty, pos, after, guard := g } :: rest) a w := h
theorem stop_copy {P : Program} {w : World} {ops : Array Oper} {rest : List Oper} {a : Act} {Q : Exit → Act → World → Prop} {d : Option Tmp} {az : Array Operand} {ts : Array TypeId} {ty : TypeId} {pos : String} {after : Array Edge} {g : Option (Nat × Bool)}
    (h : Stop (wpList P ops Q ({ dst := d, op := .call { callee := .builtin .copy, args := az, argTypes := ts }, type := ty, pos, after, guard := g } :: rest) a w)) :
    wpList P ops Q ({ dst := d, op := .call { callee := .builtin .copy, args := az, argTypes := ts }, type := ty, pos, after, guard := g } :: rest) a w := h
theorem stop_load {P : Program} {w : World} {ops : Array Oper} {rest : List Oper} {a : Act} {Q : Exit → Act → World → Prop} {d : Option Tmp} {x : Operand} (T : TypeId) {ty : TypeId} {pos : String} {after : Array Edge} {g : Option (Nat × Bool)}
    (h : Stop (wpList P ops Q ({ dst := d, op := .load T x, type := ty, pos, after, guard := g } :: rest) a w)) :
    wpList P ops Q ({ dst := d, op := .load T x, type := ty, pos, after, guard := g } :: rest) a w := h
theorem stop_store {P : Program} {w : World} {ops : Array Oper} {rest : List Oper} {a : Act} {Q : Exit → Act → World → Prop} {d : Option Tmp} {x y : Operand} (T : TypeId) {ty : TypeId} {pos : String} {after : Array Edge} {g : Option (Nat × Bool)}
    (h : Stop (wpList P ops Q ({ dst := d, op := .store T x y, type := ty, pos, after, guard := g } :: rest) a w)) :
    wpList P ops Q ({ dst := d, op := .store T x y, type := ty, pos, after, guard := g } :: rest) a w := h
theorem stop_make {P : Program} {w : World} {ops : Array Oper} {rest : List Oper} {a : Act} {Q : Exit → Act → World → Prop} {d : Option Tmp} {l c : Operand} {T ty : TypeId} {pos : String} {after : Array Edge} {g : Option (Nat × Bool)}
    (h : Stop (wpList P ops Q ({ dst := d, op := .makeSlice T l c, type := ty, pos, after, guard := g } :: rest) a w)) :
    wpList P ops Q ({ dst := d, op := .makeSlice T l c, type := ty, pos, after, guard := g } :: rest) a w := h
theorem stop_slice {P : Program} {w : World} {ops : Array Oper} {rest : List Oper} {a : Act} {Q : Exit → Act → World → Prop} {d : Option Tmp} {x : Operand} {l h' m : Option Operand} {T ty : TypeId} {pos : String} {after : Array Edge} {g : Option (Nat × Bool)}
    (h : Stop (wpList P ops Q ({ dst := d, op := .slice T x l h' m, type := ty, pos, after, guard := g } :: rest) a w)) :
    wpList P ops Q ({ dst := d, op := .slice T x l h' m, type := ty, pos, after, guard := g } :: rest) a w := h

end Go.Proofs.YtdlaojpjkijccaaDoor
