/- Contracts of the package pipe: Open, Up, Counts, New. -/
import Derived.Test.YtdlaojpjkijccaaDoorPipeOpen
set_option linter.unusedVariables false
set_option linter.unusedSimpArgs false
namespace Go.Proofs.YtdlaojpjkijccaaDoor
open Go.RowKit

def pipeOpen (s : PipeS) (x : BoxS) (fr : List UInt8) : Int × List UInt8 × PipeS :=
  if s.closed then (14, [], s) else ((pipeTake s x fr).1, (pipeTake s x fr).2.1, (pipeTake s x fr).2.2.shut ((pipeTake s x fr).1 != 0))

set_option maxRecDepth 100000 in
set_option maxHeartbeats 1000000 in
theorem pipeOpenPub_c (w : World) (p b : Nat) (F : Nat → Prop) (s : PipeS) (x : BoxS) (hp : PipeAt w p b s) (hs : s.side < 2) (hx : BoxAt w b F x) (hf : Fit x) (hpF : ¬ F p)
    (T : Option Addr) (tn tc : Nat) (fr : List UInt8) (ht : Bs w T tn tc fr)
    (K : Ending → World → Prop)
    (hK : ∀ A' n' c' w', Kp (fun y => y = p) w w' → PipeAt w' p b (pipeOpen s x fr).2.2 →
      Bs w' A' n' c' (pipeOpen s x fr).2.1 → K (.returned (.tuple #[.slice A' n' c', .int .i64 (pipeOpen s x fr).1])) w') :
    Calls Tryd.prog 15 #[.pointer (some ⟨p, 0, none⟩), .slice T tn tc] w K := by
  have HO : Hid _ := hK
  clear hK
  go_enter Tryd.func15, Tryd.ntmps15
  go_wp2_with fail
  refine pipeOpen_c w p b s hp _ ?_
  cases hc : s.closed with
  | true =>
    have h := HO.out none 0 0 w (Kp.refl _ w)
    simp only [pipeOpen, hc, if_true] at h
    have HN : Hid _ := h hp (Bs.nil _)
    clear HO h
    have hE : openE s = 14 := by simp [openE, hc]
    rw [hE]
    clear hE
    go_wp2_with fail
    exact HN.out
  | false =>
    have hE : openE s = 0 := by simp [openE, hc]
    rw [hE]
    clear hE
    go_wp2_with fail
    refine pipeTake_c w p b F s x hp hs hx hf hpF T tn tc fr ht _ ?_
    intro A' n' c' w' hk h2 h3
    have c18 : w'.cell? ⟨p, 18, none⟩ = some (.bool (pipeTake s x fr).2.2.closed) := At.cell h2 rfl
    have f18 := At.frozen h2 18
    have k2 := fun v => Kp.set1 w' ⟨p, 18, none⟩ v
    have HN : Hid _ := HO.out A' n' c' (w'.setCell ⟨p, 18, none⟩ (.bool ((pipeTake s x fr).1 != 0)))
    unfold pipeOpen at HN
    simp only [hc, Bool.false_eq_true, if_false] at HN
    have hN := HN.out (hk.trans (k2 _) (fun _ _ h => h) (fun _ _ h => h)) (h2.shut _) (h3.clean (k2 _) (fun z hz => by
      have hz' : z = p := hz
      subst hz'
      exact h2.noB))
    clear HO HN h2 h3 hk k2 hc
    have HN : Hid _ := hN
    clear hN
    generalize pipeTake s x fr = r at *
    obtain ⟨e, ts, q⟩ := r
    dsimp only at *
    go_wp2_with fail
    exact HN.out

theorem pipeUp_c (w : World) (p b : Nat) (s : PipeS) (h : PipeAt w p b s) (K : Ending → World → Prop) (hK : K (.returned (.bool (!s.closed))) w) :
    Calls Tryd.prog 18 #[.pointer (some ⟨p, 0, none⟩)] w K := by
  go_enter Tryd.func18, Tryd.ntmps18
  go_wp2_with fail
  refine pipeOpen_c w p b s h _ ?_
  cases hc : s.closed with
  | true =>
    rw [hc] at hK
    have hE : openE s = 14 := by simp [openE, hc]
    rw [hE]
    clear hE
    go_wp2_with fail
    exact hK
  | false =>
    rw [hc] at hK
    have hE : openE s = 0 := by simp [openE, hc]
    rw [hE]
    clear hE
    go_wp2_with fail
    exact hK
theorem pipeUp_nil (w : World) (K : Ending → World → Prop) (hK : K (.returned (.bool false)) w) : Calls Tryd.prog 18 #[.pointer none] w K := by
  go_enter Tryd.func18, Tryd.ntmps18
  go_wp2_with fail
  refine pipeOpen_nil w _ ?_
  go_wp2_with fail
  exact hK
theorem pipeUp_unmade (w : World) (p : Nat) (cs : Array Value) (h : At w p cs) (hm : cs[0]? = some (.pointer none)) (K : Ending → World → Prop) (hK : K (.returned (.bool false)) w) :
    Calls Tryd.prog 18 #[.pointer (some ⟨p, 0, none⟩)] w K := by
  go_enter Tryd.func18, Tryd.ntmps18
  go_wp2_with fail
  refine pipeOpen_unmade w p cs h hm _ ?_
  go_wp2_with fail
  exact hK

/-- A pipe that no call made: nothing comes of it. -/
theorem pipeSealIn_nil (w : World) (kind : Int) (T : Option Addr) (tn tc : Nat) (K : Ending → World → Prop) (hK : K (.returned (.tuple #[.slice none 0 0, .int .i64 2])) w) :
    Calls Tryd.prog 37 #[.pointer none, .int .u8 kind, .slice T tn tc] w K := by
  go_enter Tryd.func37, Tryd.ntmps37
  go_wp2_with fail
  refine pipeOpen_nil w _ ?_
  go_wp2_with fail
  exact hK
theorem pipeSealIn_unmade (w : World) (p : Nat) (cs : Array Value) (h : At w p cs) (hm : cs[0]? = some (.pointer none)) (kind : Int) (T : Option Addr) (tn tc : Nat) (K : Ending → World → Prop) (hK : K (.returned (.tuple #[.slice none 0 0, .int .i64 2])) w) :
    Calls Tryd.prog 37 #[.pointer (some ⟨p, 0, none⟩), .int .u8 kind, .slice T tn tc] w K := by
  go_enter Tryd.func37, Tryd.ntmps37
  go_wp2_with fail
  refine pipeOpen_unmade w p cs h hm _ ?_
  go_wp2_with fail
  exact hK
theorem pipeSeal_nil (w : World) (T : Option Addr) (tn tc : Nat) (K : Ending → World → Prop) (hK : K (.returned (.tuple #[.slice none 0 0, .int .i64 2])) w) :
    Calls Tryd.prog 14 #[.pointer none, .slice T tn tc] w K := by
  go_enter Tryd.func14, Tryd.ntmps14
  go_wp2_with fail
  refine pipeSealIn_nil w _ _ _ _ _ ?_
  go_wp2_with fail
  exact hK
theorem pipeSeal_unmade (w : World) (p : Nat) (cs : Array Value) (h : At w p cs) (hm : cs[0]? = some (.pointer none)) (T : Option Addr) (tn tc : Nat) (K : Ending → World → Prop) (hK : K (.returned (.tuple #[.slice none 0 0, .int .i64 2])) w) :
    Calls Tryd.prog 14 #[.pointer (some ⟨p, 0, none⟩), .slice T tn tc] w K := by
  go_enter Tryd.func14, Tryd.ntmps14
  go_wp2_with fail
  refine pipeSealIn_unmade w p cs h hm _ _ _ _ _ ?_
  go_wp2_with fail
  exact hK
theorem pipeClose_nil (w : World) (K : Ending → World → Prop) (hK : K (.returned (.tuple #[.slice none 0 0, .int .i64 2])) w) :
    Calls Tryd.prog 21 #[.pointer none] w K := by
  go_enter Tryd.func21, Tryd.ntmps21
  go_wp2_with fail
  refine pipeSealIn_nil w _ _ _ _ _ ?_
  go_wp2_with fail
  exact hK
theorem pipeClose_unmade (w : World) (p : Nat) (cs : Array Value) (h : At w p cs) (hm : cs[0]? = some (.pointer none)) (K : Ending → World → Prop) (hK : K (.returned (.tuple #[.slice none 0 0, .int .i64 2])) w) :
    Calls Tryd.prog 21 #[.pointer (some ⟨p, 0, none⟩)] w K := by
  go_enter Tryd.func21, Tryd.ntmps21
  go_wp2_with fail
  refine pipeSealIn_unmade w p cs h hm _ _ _ _ _ ?_
  go_wp2_with fail
  exact hK
theorem pipeOpenPub_nil (w : World) (T : Option Addr) (tn tc : Nat) (K : Ending → World → Prop) (hK : K (.returned (.tuple #[.slice none 0 0, .int .i64 2])) w) :
    Calls Tryd.prog 15 #[.pointer none, .slice T tn tc] w K := by
  go_enter Tryd.func15, Tryd.ntmps15
  go_wp2_with fail
  refine pipeOpen_nil w _ ?_
  go_wp2_with fail
  exact hK
theorem pipeOpenPub_unmade (w : World) (p : Nat) (cs : Array Value) (h : At w p cs) (hm : cs[0]? = some (.pointer none)) (T : Option Addr) (tn tc : Nat) (K : Ending → World → Prop) (hK : K (.returned (.tuple #[.slice none 0 0, .int .i64 2])) w) :
    Calls Tryd.prog 15 #[.pointer (some ⟨p, 0, none⟩), .slice T tn tc] w K := by
  go_enter Tryd.func15, Tryd.ntmps15
  go_wp2_with fail
  refine pipeOpen_unmade w p cs h hm _ ?_
  go_wp2_with fail
  exact hK

theorem pipeCounts_c (w : World) (p b : Nat) (s : PipeS) (hs : s.side < 2) (h : PipeAt w p b s) (K : Ending → World → Prop)
    (hK : ∀ w', Ext w w' → w'.heap = w.heap → K (.returned (.tuple #[.int .i64 (s.lane s.side).count, .int .i64 (s.lane (1 - s.side)).count])) w') :
    Calls Tryd.prog 17 #[.pointer (some ⟨p, 0, none⟩)] w K := by
  have HO : Hid _ := hK
  clear hK
  have c14 : w.cell? ⟨p, 14, none⟩ = some (.int .i64 s.l0.count) := At.cell h rfl
  have c17 : w.cell? ⟨p, 17, none⟩ = some (.int .i64 s.l1.count) := At.cell h rfl
  have c4 : w.cell? ⟨p, 4, none⟩ = some (.int .i64 s.side) := At.cell h rfl
  rcases (by omega : s.side = 0 ∨ s.side = 1) with h0 | h0
  all_goals
    rw [h0] at c4 HO
    simp only [PipeS.lane, if_true, Nat.one_ne_zero, Nat.sub_self, Nat.sub_zero, if_false] at HO
    clear h hs h0
    go_enter Tryd.func17, Tryd.ntmps17
    go_wp2_with fail
    go_quiet (fail)
    obtain ⟨wq, hq, e1, e2, hh⟩ := drewN_abs w nq
    rw [hq]
    go_wp2_with fail
    exact HO.out _ e1 hh
theorem pipeCounts_nil (w : World) (K : Ending → World → Prop) (hK : K (.returned (.tuple #[.int .i64 0, .int .i64 0])) w) :
    Calls Tryd.prog 17 #[.pointer none] w K := by
  go_enter Tryd.func17, Tryd.ntmps17
  go_wp2_with fail
  exact hK

def zeroPipe : Array Value := #[.pointer none, .int .i64 0, .int .i64 0, .int .i64 0, .int .i64 0, .int .i64 0, .int .i64 0, .int .i64 0, .int .i64 0, .int .i64 0, .int .i64 0, .int .i64 0,
    .int .i64 0, .int .i64 0, .int .i64 0, .int .i64 0, .int .i64 0, .int .i64 0, .bool false]
theorem pipeCounts_zero (w : World) (p : Nat) (h : At w p zeroPipe) (K : Ending → World → Prop)
    (hK : ∀ w', Ext w w' → w'.heap = w.heap → K (.returned (.tuple #[.int .i64 0, .int .i64 0])) w') :
    Calls Tryd.prog 17 #[.pointer (some ⟨p, 0, none⟩)] w K := by
  have HO : Hid _ := hK
  clear hK
  have c14 : w.cell? ⟨p, 14, none⟩ = some (.int .i64 0) := At.cell h rfl
  have c17 : w.cell? ⟨p, 17, none⟩ = some (.int .i64 0) := At.cell h rfl
  have c4 : w.cell? ⟨p, 4, none⟩ = some (.int .i64 0) := At.cell h rfl
  go_enter Tryd.func17, Tryd.ntmps17
  go_wp2_with fail
  go_quiet (fail)
  obtain ⟨wq, hq, e1, e2, hh⟩ := drewN_abs w nq
  rw [hq]
  go_wp2_with fail
  exact HO.out _ e1 hh

def fitN (n : Int) : Int := min (max n 0) 1099511627776
theorem pipeFit_c (w : World) (n : Int) (K : Ending → World → Prop) (hK : K (.returned (.int .i64 (fitN n))) w) :
    Calls Tryd.prog 36 #[.int .i64 n] w K := by
  have hfin : ∀ m, m = fitN n → Hid (K (.returned (.int .i64 m)) w) := fun m hm => by rw [hm]; exact hK
  unfold fitN at hfin
  clear hK
  go_enter Tryd.func36, Tryd.ntmps36
  go_wp2_with fail
  all_goals exact (hfin _ (by omega)).out

theorem pipeNew_c (w : World) (b : Nat) (F : Nat → Prop) (x : BoxS) (hx : BoxAt w b F x) (k : KeysS) (side : Int) (bn sq pn gn ln en cn : Int)
    (K : Ending → World → Prop)
    (hNo : ∀ w', side < 0 ∨ 1 < side ∨ (k.id 6 0 side).ok = false → Ext w w' → K (.returned (.pointer none)) w')
    (hOk : ∀ w' p sd, side = (sd : Nat) → sd < 2 → (k.id 6 0 side).ok = true → Ext w w' → w.heap.size ≤ p → PipeAt w' p b ⟨k, sd, fitN sq, fitN en, ⟨0, 0, 0⟩, ⟨0, 0, 0⟩, false⟩ → K (.returned (.pointer (some ⟨p, 0, none⟩))) w') :
    Calls Tryd.prog 12 #[.pointer (some ⟨b, 0, none⟩), k.v, .int .i64 side, .agg #[.int .i64 bn, .int .i64 sq, .int .i64 pn, .int .i64 gn, .int .i64 ln, .int .i64 en, .int .i64 cn]] w K := by
  have hkv : k.v = .agg #[.int .i64 k.life, .int .i64 k.conn, .int .i64 k.peer] := rfl
  rw [hkv]
  have HNo : Hid _ := hNo
  have HOk : Hid _ := hOk
  clear hNo hOk
  go_enter Tryd.func12, Tryd.ntmps12
  go_wp2_with fail
  have e1 := ((Ext.refl w).alloc (.cells #[.int .i64 k.life, .int .i64 k.conn, .int .i64 k.peer] 31)).alloc (.cells #[.int .i64 bn, .int .i64 sq, .int .i64 pn, .int .i64 gn, .int .i64 ln, .int .i64 en, .int .i64 cn] 25)
  have a1 := (At.new w #[.int .i64 k.life, .int .i64 k.conn, .int .i64 k.peer] 31).alloc (.cells #[.int .i64 bn, .int .i64 sq, .int .i64 pn, .int .i64 gn, .int .i64 ln, .int .i64 en, .int .i64 cn] 25)
  have a2 := At.new2 w (.cells #[.int .i64 k.life, .int .i64 k.conn, .int .i64 k.peer] 31) #[.int .i64 bn, .int .i64 sq, .int .i64 pn, .int .i64 gn, .int .i64 ln, .int .i64 en, .int .i64 cn] 25
  generalize (w.alloc (.cells #[.int .i64 k.life, .int .i64 k.conn, .int .i64 k.peer] 31)).alloc (.cells #[.int .i64 bn, .int .i64 sq, .int .i64 pn, .int .i64 gn, .int .i64 ln, .int .i64 en, .int .i64 cn] 25) = w1 at *
  refine openZero_c _ b F x (hx.ext e1) _ ?_
  intro w2 e2
  have a1 := a1.ext e2
  have a2 := a2.ext e2
  have e12 := e1.trans e2
  have hx2 := hx.ext e12
  clear e1 hx
  have k0 : w2.cell? ⟨w.heap.size, 0, none⟩ = some (.int .i64 k.life) := At.cell a1 rfl
  have k1 : w2.cell? ⟨w.heap.size, 1, none⟩ = some (.int .i64 k.conn) := At.cell a1 rfl
  have k2 : w2.cell? ⟨w.heap.size, 2, none⟩ = some (.int .i64 k.peer) := At.cell a1 rfl
  by_cases h0 : side < 0
  · have HN : Hid _ := HNo.out w2 (Or.inl h0) e12
    clear HNo HOk
    go_wp2_with fail
    exact HN.out
  · by_cases h1 : 1 < side
    · have HN : Hid _ := HNo.out w2 (Or.inr (Or.inl h1)) e12
      clear HNo HOk
      go_wp2_with fail
      exact HN.out
    · obtain ⟨sd, rfl⟩ : ∃ sd : Nat, side = sd := ⟨side.toNat, by omega⟩
      have hsd : sd < 2 := by omega
      go_wp2_with fail
      refine keysID_c _ k 0 sd _ ?_
      intro w3 e3
      go_wp2_with fail
      refine valid_c _ _ _ ?_
      intro w4 e4
      have e14 := (e12.trans e3).trans e4
      have e24 := e3.trans e4
      have a1 := a1.ext e24
      have a2 := a2.ext e24
      clear k0 k1 k2
      cases hv : (k.id 6 0 sd).ok with
      | false =>
        have HN : Hid _ := HNo.out w4 (Or.inr (Or.inr hv)) e14
        clear HNo HOk hv
        go_wp2_with fail
        exact HN.out
      | true =>
        have HN : Hid _ := fun w' p => HOk.out w' p sd rfl hsd hv
        clear HNo HOk hv
        have k0 : w4.cell? ⟨w.heap.size, 0, none⟩ = some (.int .i64 k.life) := At.cell a1 rfl
        have k1 : w4.cell? ⟨w.heap.size, 1, none⟩ = some (.int .i64 k.conn) := At.cell a1 rfl
        have k2 : w4.cell? ⟨w.heap.size, 2, none⟩ = some (.int .i64 k.peer) := At.cell a1 rfl
        have b1 : w4.cell? ⟨w.heap.size + 1, 1, none⟩ = some (.int .i64 sq) := At.cell a2 rfl
        have b5 : w4.cell? ⟨w.heap.size + 1, 5, none⟩ = some (.int .i64 en) := At.cell a2 rfl
        have HS : Hid _ := fun w' (h : Ext w4 w') => (⟨h.cell k0, h.cell k1, h.cell k2, h.cell b1, h.cell b5⟩ : w'.cell? ⟨w.heap.size, 0, none⟩ = some (.int .i64 k.life) ∧ w'.cell? ⟨w.heap.size, 1, none⟩ = some (.int .i64 k.conn) ∧ w'.cell? ⟨w.heap.size, 2, none⟩ = some (.int .i64 k.peer) ∧ w'.cell? ⟨w.heap.size + 1, 1, none⟩ = some (.int .i64 sq) ∧ w'.cell? ⟨w.heap.size + 1, 5, none⟩ = some (.int .i64 en))
        go_wp2_with fail
        go_region_held3 (fun w' => w'.cell? ⟨w.heap.size, 0, none⟩ = some (.int .i64 k.life) ∧ w'.cell? ⟨w.heap.size, 1, none⟩ = some (.int .i64 k.conn) ∧ w'.cell? ⟨w.heap.size, 2, none⟩ = some (.int .i64 k.peer) ∧ w'.cell? ⟨w.heap.size + 1, 1, none⟩ = some (.int .i64 sq) ∧ w'.cell? ⟨w.heap.size + 1, 5, none⟩ = some (.int .i64 en))
          (first
            | exact HS.out _ (Ext.refl _)
            | exact HS.out _ (Ext.drew (Ext.refl _))
            | exact HS.out _ (Ext.drew (Ext.drew (Ext.refl _)))
            | exact HS.out _ (Ext.alloc (Ext.drew (Ext.refl _)) _))
          (first | (go_at_call 36; refine pipeFit_c _ _ _ ?_))
        go_wp2_with fail
        all_goals exact HN.out _ w4.heap.size (e14.trans (Ext.alloc (Ext.drew (Ext.refl _)) _)) (Kp.size e14) (At.new w4 _ _)
end Go.Proofs.YtdlaojpjkijccaaDoor
