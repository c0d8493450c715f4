/- Two ends over one box, as one state: what each call does to all three. -/
import Derived.Test.YtdlaojpjkijccaaDoorPipeMore
set_option linter.unusedVariables false
set_option linter.unusedSimpArgs false
namespace Go.Proofs.YtdlaojpjkijccaaDoor
open Go.RowKit

theorem BoxAt.lt {w : World} {b : Nat} {F : Nat → Prop} {x : BoxS} (h : BoxAt w b F x) {y : Nat} (hy : F y) : y < w.heap.size := by
  obtain ⟨sA, sn, sc, lA, ln, lc, mA, mn, mc, m, cnt, rep, hx0⟩ := h
  exact (hx0.clean y hy).2
theorem sealRes_ideal (x : BoxS) (k : Kid) (n : Int) (ad tx : List UInt8) : (sealRes x k n ad tx).2.2.ideal = x.ideal := by
  unfold sealRes sealNew
  split <;> rfl
theorem sealRes_secret (x : BoxS) (k : Kid) (n : Int) (ad tx : List UInt8) : (sealRes x k n ad tx).2.2.secret = x.secret := by
  unfold sealRes sealNew
  split <;> rfl
theorem Fit.seal {x : BoxS} (h : Fit x) (k : Kid) (n : Int) (ad tx : List UInt8) : Fit (sealRes x k n ad tx).2.2 := by
  have hi : x.ideal = true := h
  show (sealRes x k n ad tx).2.2.ideal = true
  rw [sealRes_ideal]
  exact hi
theorem sealRes_more (x : BoxS) (k : Kid) (n : Int) (ad tx : List UInt8) : (sealRes x k n ad tx).2.2.seals.length ≤ x.seals.length + 1 := by
  unfold sealRes sealNew
  split
  · dsimp only
    split <;> simp
  · simp
theorem pipeSeal_box (s : PipeS) (x : BoxS) (kind : UInt8) (tx : List UInt8) : (pipeSeal s x kind tx).box = x ∨ (pipeSeal s x kind tx).box = (sealRes x (s.kid s.side) (s.lane s.side).seq [] (kind :: tx)).2.2 := by
  unfold pipeSeal
  split
  · exact Or.inl rfl
  · split
    · exact Or.inl rfl
    · split
      · exact Or.inl rfl
      · dsimp only
        split <;> exact Or.inr rfl
theorem Fit.pipe {x : BoxS} (h : Fit x) (s : PipeS) (kind : UInt8) (tx : List UInt8) : Fit (pipeSeal s x kind tx).box := by
  rcases pipeSeal_box s x kind tx with e | e <;> rw [e]
  · exact h
  · exact h.seal _ _ _ _
theorem pipeSeal_more (s : PipeS) (x : BoxS) (kind : UInt8) (tx : List UInt8) : (pipeSeal s x kind tx).box.seals.length ≤ x.seals.length + 1 := by
  rcases pipeSeal_box s x kind tx with e | e <;> rw [e]
  · omega
  · exact sealRes_more _ _ _ _ _
theorem step_side (s : PipeS) (i : Nat) : (s.step i).side = s.side := by
  unfold PipeS.step PipeS.setLane
  split <;> rfl
theorem pipeSeal_side (s : PipeS) (x : BoxS) (kind : UInt8) (tx : List UInt8) : (pipeSeal s x kind tx).pipe.side = s.side := by
  unfold pipeSeal
  split
  · rfl
  · split
    · rfl
    · split
      · rfl
      · dsimp only
        split
        · exact step_side _ _
        · rfl
theorem pipeTake_side (s : PipeS) (x : BoxS) (fr : List UInt8) : (pipeTake s x fr).2.2.side = s.side := by
  unfold pipeTake
  dsimp only
  split
  · rfl
  · split
    · rfl
    · split
      · rfl
      · split
        · exact step_side _ _
        · split <;> exact step_side _ _
theorem pipeOpen_side (s : PipeS) (x : BoxS) (fr : List UInt8) : (pipeOpen s x fr).2.2.side = s.side := by
  unfold pipeOpen
  split
  · rfl
  · exact pipeTake_side s x fr

/-- A box, and one end of a pipe. -/
structure Uno (w : World) (b : Nat) (F : Nat → Prop) (x : BoxS) (p : Nat) (s : PipeS) (base : Nat) : Prop where
  box : BoxAt w b F x
  fit : Fit x
  p0 : PipeAt w p b s
  f0 : ¬ F p
  sd : s.side < 2
  bp : base ≤ p
  bF : ∀ y, F y → base ≤ y
theorem Uno.ext {w w' : World} {b : Nat} {F : Nat → Prop} {x : BoxS} {p : Nat} {s : PipeS} {base : Nat} (h : Uno w b F x p s base) (k : Ext w w') : Uno w' b F x p s base :=
  ⟨h.box.ext k, h.fit, At.ext h.p0 k, h.f0, h.sd, h.bp, h.bF⟩
theorem Uno.seal {w : World} {b : Nat} {F : Nat → Prop} {x : BoxS} {p : Nat} {s : PipeS} {base : Nat} (h : Uno w b F x p s base) (hbase : base ≤ w.heap.size) (hsn : x.seals.length ≤ 1000000000000)
    {T : Option Addr} {tn tc : Nat} {tx : List UInt8} (ht : Bs w T tn tc tx) (K : Ending → World → Prop)
    (hK : ∀ A' n' c' F' w', Kp (fun y => F y ∨ y = p) w w' → Uno w' b F' (pipeSeal s x 1 tx).box p (pipeSeal s x 1 tx).pipe base → Ob w' w.heap.size A' n' c' (pipeSeal s x 1 tx).text →
      (∀ y, F' y → F y ∨ w.heap.size ≤ y) → K (.returned (.tuple #[.slice A' n' c', .int .i64 (pipeSeal s x 1 tx).err])) w') :
    Calls Tryd.prog 14 #[.pointer (some ⟨p, 0, none⟩), .slice T tn tc] w K := by
  refine pipeSealPub_c w p b F s x h.p0 h.sd h.box h.fit h.f0 hsn T tn tc tx ht K ?_
  intro A' n' c' F' w' k1 k2 k3 k4 k5
  have hp := At.lt h.p0
  exact hK A' n' c' F' w' k1 ⟨k3, h.fit.pipe _ _ _, k2, fun hF => (k4 p hF).elim h.f0 (fun h => by omega), by rw [pipeSeal_side]; exact h.sd, h.bp, fun y hy => (k4 y hy).elim (h.bF y) (fun h => by omega)⟩ k5 k4
theorem Uno.close {w : World} {b : Nat} {F : Nat → Prop} {x : BoxS} {p : Nat} {s : PipeS} {base : Nat} (h : Uno w b F x p s base) (hbase : base ≤ w.heap.size) (hsn : x.seals.length ≤ 1000000000000)
    (K : Ending → World → Prop)
    (hK : ∀ A' n' c' F' w', Kp (fun y => F y ∨ y = p) w w' → Uno w' b F' (pipeClose s x).box p (pipeClose s x).pipe base → Bs w' A' n' c' (pipeClose s x).text →
      (∀ y, F' y → F y ∨ w.heap.size ≤ y) → K (.returned (.tuple #[.slice A' n' c', .int .i64 (pipeClose s x).err])) w') :
    Calls Tryd.prog 21 #[.pointer (some ⟨p, 0, none⟩)] w K := by
  refine pipeClose_c w p b F s x h.p0 h.sd h.box h.fit h.f0 hsn K ?_
  intro A' n' c' F' w' k1 k2 k3 k4 k5
  have hp := At.lt h.p0
  have hs : (pipeClose s x).pipe.side = s.side := pipeSeal_side s x 2 []
  exact hK A' n' c' F' w' k1 ⟨k3, h.fit.pipe _ _ _, k2, fun hF => (k4 p hF).elim h.f0 (fun h => by omega), by rw [hs]; exact h.sd, h.bp, fun y hy => (k4 y hy).elim (h.bF y) (fun h => by omega)⟩ k5 k4
theorem Uno.open {w : World} {b : Nat} {F : Nat → Prop} {x : BoxS} {p : Nat} {s : PipeS} {base : Nat} (h : Uno w b F x p s base)
    {T : Option Addr} {tn tc : Nat} {fr : List UInt8} (ht : Bs w T tn tc fr) (K : Ending → World → Prop)
    (hK : ∀ A' n' c' w', Kp (fun y => y = p) w w' → Uno w' b F x p (pipeOpen s x fr).2.2 base → Bs w' A' n' c' (pipeOpen s x fr).2.1 →
      K (.returned (.tuple #[.slice A' n' c', .int .i64 (pipeOpen s x fr).1])) w') :
    Calls Tryd.prog 15 #[.pointer (some ⟨p, 0, none⟩), .slice T tn tc] w K := by
  refine pipeOpenPub_c w p b F s x h.p0 h.sd h.box h.fit h.f0 T tn tc fr ht K ?_
  intro A' n' c' w' k1 k2 k5
  refine hK A' n' c' w' k1 ⟨h.box.kp k1 (fun y hy => ?_) (fun y hy e => ?_), h.fit, k2, h.f0, by rw [pipeOpen_side]; exact h.sd, h.bp, h.bF⟩ k5
  · have hy' : y = p := hy
    subst hy'
    exact h.p0.noB
  · have hy' : y = p := e
    subst hy'
    exact h.f0 hy

/-- A box, and both ends of a pipe. -/
structure Duo (w : World) (b : Nat) (F : Nat → Prop) (x : BoxS) (P : Nat → Nat) (S : Nat → PipeS) (base : Nat) : Prop where
  at_ : ∀ i, i < 2 → Uno w b F x (P i) (S i) base
  side : ∀ i, i < 2 → (S i).side = i
  ne : P 0 ≠ P 1
theorem Duo.ext {w w' : World} {b : Nat} {F : Nat → Prop} {x : BoxS} {P : Nat → Nat} {S : Nat → PipeS} {base : Nat} (h : Duo w b F x P S base) (k : Ext w w') : Duo w' b F x P S base :=
  ⟨fun i hi => (h.at_ i hi).ext k, h.side, h.ne⟩
def upd (S : Nat → PipeS) (i : Nat) (s : PipeS) : Nat → PipeS := fun j => if j = i then s else S j
theorem Duo.ne' {w : World} {b : Nat} {F : Nat → Prop} {x : BoxS} {P : Nat → Nat} {S : Nat → PipeS} {base : Nat} (h : Duo w b F x P S base) {i j : Nat} (hi : i < 2) (hj : j < 2) (hij : j ≠ i) : P j ≠ P i := by
  have h1 := h.ne
  rcases (by omega : i = 0 ∧ j = 1 ∨ i = 1 ∧ j = 0) with ⟨rfl, rfl⟩ | ⟨rfl, rfl⟩
  · exact fun e => h1 e.symm
  · exact h1
theorem Duo.step {w w' : World} {b : Nat} {F F' : Nat → Prop} {x x' : BoxS} {P : Nat → Nat} {S : Nat → PipeS} {base : Nat} (h : Duo w b F x P S base) {i : Nat} (hi : i < 2) {s : PipeS}
    (k : Kp (fun y => F y ∨ y = P i) w w') (hu : Uno w' b F' x' (P i) s base) (hs : s.side = i) (hF : ∀ y, F' y → F y ∨ w.heap.size ≤ y) : Duo w' b F' x' P (upd S i s) base := by
  refine ⟨fun j hj => ?_, fun j hj => ?_, h.ne⟩
  · unfold upd
    by_cases hji : j = i
    · subst hji
      rw [if_pos rfl]
      exact hu
    · rw [if_neg hji]
      have h1 := h.at_ j hj
      have hp := At.lt h1.p0
      have hn := h.ne' hi hj hji
      exact ⟨hu.box, hu.fit, At.kp h1.p0 k (fun e => e.elim h1.f0 hn), fun e => (hF _ e).elim h1.f0 (fun h => by omega), h1.sd, h1.bp, hu.bF⟩
  · unfold upd
    by_cases hji : j = i
    · rw [if_pos hji, hs, hji]
    · rw [if_neg hji]
      exact h.side j hj
/-- What is kept by a call of either end, of what lies elsewhere. -/
theorem Duo.seal {w : World} {b : Nat} {F : Nat → Prop} {x : BoxS} {P : Nat → Nat} {S : Nat → PipeS} {base : Nat} (h : Duo w b F x P S base) {i : Nat} (hi : i < 2) (hbase : base ≤ w.heap.size) (hsn : x.seals.length ≤ 1000000000000)
    {T : Option Addr} {tn tc : Nat} {tx : List UInt8} (ht : Bs w T tn tc tx) (K : Ending → World → Prop)
    (hK : ∀ A' n' c' F' w', Kp (fun y => F y ∨ y = P i) w w' → Duo w' b F' (pipeSeal (S i) x 1 tx).box P (upd S i (pipeSeal (S i) x 1 tx).pipe) base → Ob w' w.heap.size A' n' c' (pipeSeal (S i) x 1 tx).text →
      K (.returned (.tuple #[.slice A' n' c', .int .i64 (pipeSeal (S i) x 1 tx).err])) w') :
    Calls Tryd.prog 14 #[.pointer (some ⟨P i, 0, none⟩), .slice T tn tc] w K := by
  refine (h.at_ i hi).seal hbase hsn ht K ?_
  intro A' n' c' F' w' k1 k2 k3 k4
  exact hK A' n' c' F' w' k1 (h.step hi k1 k2 (by rw [pipeSeal_side]; exact h.side i hi) k4) k3
theorem Duo.close {w : World} {b : Nat} {F : Nat → Prop} {x : BoxS} {P : Nat → Nat} {S : Nat → PipeS} {base : Nat} (h : Duo w b F x P S base) {i : Nat} (hi : i < 2) (hbase : base ≤ w.heap.size) (hsn : x.seals.length ≤ 1000000000000)
    (K : Ending → World → Prop)
    (hK : ∀ A' n' c' F' w', Kp (fun y => F y ∨ y = P i) w w' → Duo w' b F' (pipeClose (S i) x).box P (upd S i (pipeClose (S i) x).pipe) base → Bs w' A' n' c' (pipeClose (S i) x).text →
      K (.returned (.tuple #[.slice A' n' c', .int .i64 (pipeClose (S i) x).err])) w') :
    Calls Tryd.prog 21 #[.pointer (some ⟨P i, 0, none⟩)] w K := by
  refine (h.at_ i hi).close hbase hsn K ?_
  intro A' n' c' F' w' k1 k2 k3 k4
  have hs : (pipeClose (S i) x).pipe.side = (S i).side := pipeSeal_side (S i) x 2 []
  exact hK A' n' c' F' w' k1 (h.step hi k1 k2 (by rw [hs]; exact h.side i hi) k4) k3
theorem Duo.open {w : World} {b : Nat} {F : Nat → Prop} {x : BoxS} {P : Nat → Nat} {S : Nat → PipeS} {base : Nat} (h : Duo w b F x P S base) {i : Nat} (hi : i < 2)
    {T : Option Addr} {tn tc : Nat} {fr : List UInt8} (ht : Bs w T tn tc fr) (K : Ending → World → Prop)
    (hK : ∀ A' n' c' w', Kp (fun y => y = P i) w w' → Duo w' b F x P (upd S i (pipeOpen (S i) x fr).2.2) base → Bs w' A' n' c' (pipeOpen (S i) x fr).2.1 →
      K (.returned (.tuple #[.slice A' n' c', .int .i64 (pipeOpen (S i) x fr).1])) w') :
    Calls Tryd.prog 15 #[.pointer (some ⟨P i, 0, none⟩), .slice T tn tc] w K := by
  refine (h.at_ i hi).open ht K ?_
  intro A' n' c' w' k1 k2 k3
  exact hK A' n' c' w' k1 (h.step hi (k1.mono fun _ _ h => Or.inr h) k2 (by rw [pipeOpen_side]; exact h.side i hi) (fun y hy => Or.inl hy)) k3
/-- Texts live on. -/
theorem Duo.bs {w w' : World} {b : Nat} {F : Nat → Prop} {x : BoxS} {P : Nat → Nat} {S : Nat → PipeS} {base : Nat} (h : Duo w b F x P S base) {i : Nat} (hi : i < 2) (k : Kp (fun y => F y ∨ y = P i) w w')
    {A : Option Addr} {n c : Nat} {xs : List UInt8} (hb : Bs w A n c xs) : Bs w' A n c xs := by
  refine hb.clean k (fun y hy => ?_)
  rcases hy with hy | hy
  · obtain ⟨sA, sn, sc, lA, ln, lc, mA, mn, mc, m, cnt, rep, hx0⟩ := (h.at_ i hi).box
    exact (hx0.clean y hy).1
  · subst hy
    exact (h.at_ i hi).p0.noB
end Go.Proofs.YtdlaojpjkijccaaDoor
