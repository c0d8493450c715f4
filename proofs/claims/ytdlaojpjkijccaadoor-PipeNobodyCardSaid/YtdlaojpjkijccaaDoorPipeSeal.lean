/- Contracts of the package pipe: seal, Seal, Close. -/
import Derived.Test.YtdlaojpjkijccaaDoorPipe
import Derived.Test.YtdlaojpjkijccaaDoorSteps
set_option linter.unusedVariables false
set_option linter.unusedSimpArgs false
namespace Go.Proofs.YtdlaojpjkijccaaDoor
open Go.RowKit

/-- What a call of a pipe tells, and leaves. -/
structure PipeR where
  err : Int
  text : List UInt8
  pipe : PipeS
  box : BoxS
def PipeS.kid (s : PipeS) (i : Nat) : Kid := s.keys.id 6 (s.lane i).epoch i
def pipeSeal (s : PipeS) (x : BoxS) (kind : UInt8) (tx : List UInt8) : PipeR :=
  if s.closed then ⟨14, [], s, x⟩
  else if 60000 < tx.length then ⟨5, [], s, x⟩
  else if s.spent s.side then ⟨7, [], s, x⟩
  else
    let r := sealRes x (s.kid s.side) (s.lane s.side).seq [] (kind :: tx)
    if r.1 = 0 then ⟨0, 4 :: r.2.1, s.step s.side, r.2.2⟩ else ⟨r.1, [], s, r.2.2⟩

theorem sealRes_len (x : BoxS) (hf : Fit x) (k : Kid) (n : Int) (ad tx : List UInt8) : (sealRes x k n ad tx).2.1.length ≤ tx.length + 16 := by
  unfold sealRes
  split
  · exact Nat.le_of_eq (sealOut_len x hf k n ad tx)
  · simp

set_option maxRecDepth 100000 in
set_option maxHeartbeats 1000000 in
theorem pipeSeal_c (w : World) (p b : Nat) (F : Nat → Prop) (s : PipeS) (x : BoxS) (hp : PipeAt w p b s) (hs : s.side < 2) (hx : BoxAt w b F x) (hf : Fit x) (hpF : ¬ F p) (hsn : x.seals.length ≤ 1000000000000)
    (kind : UInt8) (T : Option Addr) (tn tc : Nat) (tx : List UInt8) (ht : Bs w T tn tc tx)
    (K : Ending → World → Prop)
    (hK : ∀ A' n' c' F' w', Kp (fun y => F y ∨ y = p) w w' → PipeAt w' p b (pipeSeal s x kind tx).pipe → BoxAt w' b F' (pipeSeal s x kind tx).box → (∀ y, F' y → F y ∨ w.heap.size ≤ y) →
      Ob w' w.heap.size A' n' c' (pipeSeal s x kind tx).text → K (.returned (.tuple #[.slice A' n' c', .int .i64 (pipeSeal s x kind tx).err])) w') :
    Calls Tryd.prog 37 #[.pointer (some ⟨p, 0, none⟩), B kind, .slice T tn tc] w K := by
  have htl := ht.len
  have ht1 := Rv.le ht
  have ht2 := Rv.cap ht
  unfold maxLen at ht2
  have HO : Hid _ := hK
  clear hK
  have hno : ∀ e w', pipeSeal s x kind tx = ⟨e, [], s, x⟩ → Ext w w' → Hid (K (.returned (.tuple #[.slice none 0 0, .int .i64 e])) w') := fun e w' he hext => by
    have h := HO.out none 0 0 F w' (hext.kp _)
    rw [he] at h
    exact h (hp.ext hext) (hx.ext hext) (fun y hy => Or.inl hy) (Ob.nil _ _)
  unfold B
  go_enter Tryd.func37, Tryd.ntmps37
  go_wp2_with fail
  refine pipeOpen_c w p b s hp _ ?_
  cases hc : s.closed with
  | true =>
    have HN := hno 14 w (by simp [pipeSeal, hc]) (Ext.refl w)
    clear hno HO
    have hE : openE s = 14 := by simp [openE, hc]
    rw [hE]
    clear hE
    go_wp2_with fail
    exact HN.out
  | false =>
    have hE : openE s = 0 := by simp [openE, hc]
    rw [hE]
    clear hE
    by_cases hbig : 60000 < tn
    · have HN := hno 5 w (by simp [pipeSeal, hc, htl, hbig]) (Ext.refl w)
      clear hno HO
      go_wp2_with fail
      exact HN.out
    · have c4 : w.cell? ⟨p, 4, none⟩ = some (.int .i64 s.side) := At.cell hp rfl
      go_wp2_with fail
      refine spent_c w p b s hp _ s.side rfl hs _ ?_
      intro w1 e1 hh1
      clear hh1
      have hp1 : PipeAt w1 p b s := hp.ext e1
      cases hsp : s.spent s.side with
      | true =>
        have HN := hno 7 w1 (by simp [pipeSeal, hc, htl, hbig, hsp]) e1
        clear hno HO
        go_wp2_with fail
        exact HN.out
      | false =>
        have hR : pipeSeal s x kind tx = (if (sealRes x (s.kid s.side) (s.lane s.side).seq [] (kind :: tx)).1 = 0 then ⟨0, 4 :: (sealRes x (s.kid s.side) (s.lane s.side).seq [] (kind :: tx)).2.1, s.step s.side, (sealRes x (s.kid s.side) (s.lane s.side).seq [] (kind :: tx)).2.2⟩
            else ⟨(sealRes x (s.kid s.side) (s.lane s.side).seq [] (kind :: tx)).1, [], s, (sealRes x (s.kid s.side) (s.lane s.side).seq [] (kind :: tx)).2.2⟩) := by simp [pipeSeal, hc, htl, hbig, hsp]
        have HR : Hid _ := hR
        clear hR hno hsp hc c4
        go_upto_region 8 with (fail)
        go_cut [9] (fun s9 wx => ∃ g, s9 = .pointer (some ⟨g, 0, none⟩) ∧ w1.heap.size ≤ g ∧ At wx g #[.int .i64 (s.lane s.side).epoch, .int .i64 (s.lane s.side).seq, .int .i64 (s.lane s.side).count] ∧ Ext w1 wx)
        case first =>
          rcases (by omega : s.side = 0 ∨ s.side = 1) with h0 | h0
          · have c4 : w1.cell? ⟨p, 4, none⟩ = some (.int .i64 0) := by
              have h := At.cell hp1 (j := 4) (v := .int .i64 (s.side : Nat)) rfl
              rw [h0] at h
              exact h
            have x0 : w1.cell? ⟨p, 12, none⟩ = some (.int .i64 s.l0.epoch) := At.cell hp1 rfl
            have x1 : w1.cell? ⟨p, 13, none⟩ = some (.int .i64 s.l0.seq) := At.cell hp1 rfl
            have x2 : w1.cell? ⟨p, 14, none⟩ = some (.int .i64 s.l0.count) := At.cell hp1 rfl
            have c4a : ∀ o, (w1.alloc o).cell? ⟨p, 4, none⟩ = some (.int .i64 0) := fun o => Ext.cell ((Ext.refl w1).alloc o) c4
            have x0a : ∀ o, (w1.alloc o).cell? ⟨p, 12, none⟩ = some (.int .i64 s.l0.epoch) := fun o => Ext.cell ((Ext.refl w1).alloc o) x0
            have x1a : ∀ o, (w1.alloc o).cell? ⟨p, 13, none⟩ = some (.int .i64 s.l0.seq) := fun o => Ext.cell ((Ext.refl w1).alloc o) x1
            have x2a : ∀ o, (w1.alloc o).cell? ⟨p, 14, none⟩ = some (.int .i64 s.l0.count) := fun o => Ext.cell ((Ext.refl w1).alloc o) x2
            have hln : s.lane s.side = s.l0 := by rw [h0]; rfl
            have HL : Hid _ := hln
            clear hln h0 HO HR hp hp1 hx
            go_region_law (fail)
            all_goals
              go_wp2_with fail
              go_meet
              exact ⟨w1.heap.size, rfl, Nat.le_refl _, by rw [HL.out]; exact (At.new w1 _ _).drew, ((Ext.refl w1).alloc _).drew⟩
          · have c4 : w1.cell? ⟨p, 4, none⟩ = some (.int .i64 1) := by
              have h := At.cell hp1 (j := 4) (v := .int .i64 (s.side : Nat)) rfl
              rw [h0] at h
              exact h
            have x0 : w1.cell? ⟨p, 15, none⟩ = some (.int .i64 s.l1.epoch) := At.cell hp1 rfl
            have x1 : w1.cell? ⟨p, 16, none⟩ = some (.int .i64 s.l1.seq) := At.cell hp1 rfl
            have x2 : w1.cell? ⟨p, 17, none⟩ = some (.int .i64 s.l1.count) := At.cell hp1 rfl
            have c4a : ∀ o, (w1.alloc o).cell? ⟨p, 4, none⟩ = some (.int .i64 1) := fun o => Ext.cell ((Ext.refl w1).alloc o) c4
            have x0a : ∀ o, (w1.alloc o).cell? ⟨p, 15, none⟩ = some (.int .i64 s.l1.epoch) := fun o => Ext.cell ((Ext.refl w1).alloc o) x0
            have x1a : ∀ o, (w1.alloc o).cell? ⟨p, 16, none⟩ = some (.int .i64 s.l1.seq) := fun o => Ext.cell ((Ext.refl w1).alloc o) x1
            have x2a : ∀ o, (w1.alloc o).cell? ⟨p, 17, none⟩ = some (.int .i64 s.l1.count) := fun o => Ext.cell ((Ext.refl w1).alloc o) x2
            have hln : s.lane s.side = s.l1 := by rw [h0]; rfl
            have HL : Hid _ := hln
            clear hln h0 HO HR hp hp1 hx
            go_region_law (fail)
            all_goals
              go_wp2_with fail
              go_meet
              exact ⟨w1.heap.size, rfl, Nat.le_refl _, by rw [HL.out]; exact (At.new w1 _ _).drew, ((Ext.refl w1).alloc _).drew⟩
        case rest =>
          obtain ⟨g, rfl, hg, ag, e2⟩ := hcut
          have eW := e1.trans e2
          have hpc := hp1.ext e2
          have hxc := hx.ext eW
          have htc := ht.ext eW
          have hFw : ∀ y, F y → y < w.heap.size := by
            obtain ⟨sA, sn, sc, lA, ln, lc, mA, mn, mc, m, cnt, rep, hx0⟩ := hx
            exact fun y hy => (hx0.clean y hy).2
          have hgF : ¬ F g := fun h => by have := hFw g h; have := e1.size; omega
          have l0 : wc.cell? ⟨p, 0, none⟩ = some (.pointer (some ⟨b, 0, none⟩)) := At.cell hpc rfl
          have l1 : wc.cell? ⟨p, 1, none⟩ = some (.int .i64 s.keys.life) := At.cell hpc rfl
          have l2 : wc.cell? ⟨p, 2, none⟩ = some (.int .i64 s.keys.conn) := At.cell hpc rfl
          have l3 : wc.cell? ⟨p, 3, none⟩ = some (.int .i64 s.keys.peer) := At.cell hpc rfl
          have l4 : wc.cell? ⟨p, 4, none⟩ = some (.int .i64 s.side) := At.cell hpc rfl
          have l5 : wc.cell? ⟨g, 0, none⟩ = some (.int .i64 (s.lane s.side).epoch) := ag.cell rfl
          have l6 : wc.cell? ⟨g, 1, none⟩ = some (.int .i64 (s.lane s.side).seq) := ag.cell rfl
          have hS : ∀ w', Ext wc w' → (w'.cell? ⟨p, 0, none⟩ = some (.pointer (some ⟨b, 0, none⟩)) ∧ w'.cell? ⟨p, 1, none⟩ = some (.int .i64 s.keys.life) ∧ w'.cell? ⟨p, 2, none⟩ = some (.int .i64 s.keys.conn) ∧ w'.cell? ⟨p, 3, none⟩ = some (.int .i64 s.keys.peer) ∧ w'.cell? ⟨p, 4, none⟩ = some (.int .i64 s.side) ∧ w'.cell? ⟨g, 0, none⟩ = some (.int .i64 (s.lane s.side).epoch) ∧ w'.cell? ⟨g, 1, none⟩ = some (.int .i64 (s.lane s.side).seq)) :=
            fun w' h => ⟨h.cell l0, h.cell l1, h.cell l2, h.cell l3, h.cell l4, h.cell l5, h.cell l6⟩
          have hS2 : ∀ W w', Ext wc W → Kp F W w' → (w'.cell? ⟨p, 0, none⟩ = some (.pointer (some ⟨b, 0, none⟩)) ∧ w'.cell? ⟨p, 1, none⟩ = some (.int .i64 s.keys.life) ∧ w'.cell? ⟨p, 2, none⟩ = some (.int .i64 s.keys.conn) ∧ w'.cell? ⟨p, 3, none⟩ = some (.int .i64 s.keys.peer) ∧ w'.cell? ⟨p, 4, none⟩ = some (.int .i64 s.side) ∧ w'.cell? ⟨g, 0, none⟩ = some (.int .i64 (s.lane s.side).epoch) ∧ w'.cell? ⟨g, 1, none⟩ = some (.int .i64 (s.lane s.side).seq)) :=
            fun W w' h k => ⟨k.cell (h.cell l0) hpF, k.cell (h.cell l1) hpF, k.cell (h.cell l2) hpF, k.cell (h.cell l3) hpF, k.cell (h.cell l4) hpF, k.cell (h.cell l5) hgF, k.cell (h.cell l6) hgF⟩
          have HS : Hid _ := hS
          have HS2 : Hid _ := hS2
          clear hS hS2
          have hsz := e2.size
          have hsz2 := e1.size
          go_wp2_with fail
          go_region_held3 (fun w' => w'.cell? ⟨p, 0, none⟩ = some (.pointer (some ⟨b, 0, none⟩)) ∧ w'.cell? ⟨p, 1, none⟩ = some (.int .i64 s.keys.life) ∧ w'.cell? ⟨p, 2, none⟩ = some (.int .i64 s.keys.conn) ∧ w'.cell? ⟨p, 3, none⟩ = some (.int .i64 s.keys.peer) ∧ w'.cell? ⟨p, 4, none⟩ = some (.int .i64 s.side) ∧ w'.cell? ⟨g, 0, none⟩ = some (.int .i64 (s.lane s.side).epoch) ∧ w'.cell? ⟨g, 1, none⟩ = some (.int .i64 (s.lane s.side).seq))
            (first
              | exact HS.out _ (Ext.drew (Ext.refl _))
              | exact HS2.out _ _ hel hk12
              | exact HS.out _ hel
              | exact HS.out _ (Ext.alloc hel10 _)
              | exact HS.out _ hel10
              | exact HS.out _ (Ext.drew (Ext.alloc (Ext.refl wc) _)))
            (first
              | (go_at_call 30; refine keysID_c _ s.keys _ _ _ ?_; intro w10 he10; have hel10 : Ext wc w10 := by first | exact Ext.trans (Ext.drew (Ext.refl wc)) he10 | exact Ext.trans (Ext.drew (Ext.alloc (Ext.refl wc) _)) he10)
              | (refine step_append_ob rfl rfl wc.heap.size rfl (Ob.lit w10 wc.heap.size [kind] _ 1 (Ext.size hel10) rfl rfl (by simp)) rfl (htc.ext (Ext.alloc hel10 _)) (by omega) (by simp; have := Ext.size hel10; omega) ?_; intro A11 c11 w11 ho11 hk11; have hel : Ext wc w11 := Kp.new (Ext.alloc hel10 _) hk11 (fun y hy => by have h : w10.heap.size = y := Option.some.inj hy; have := Ext.size hel10; omega))
              | (refine step_append_ob rfl rfl wc.heap.size rfl (Ob.ext (Ob.lit wc wc.heap.size [kind] _ 1 (Nat.le_refl _) rfl rfl (by simp)) (Ext.trans (Ext.drew (Ext.refl _)) he10)) rfl (htc.ext hel10) (by omega) (Ext.size hel10) ?_; intro A11 c11 w11 ho11 hk11; have hel : Ext wc w11 := Kp.new hel10 hk11 (fun y hy => by have h : wc.heap.size = y := Option.some.inj hy; omega))
              | (go_at_call 61; refine seal_r _ b F x (hxc.ext hel) hf hsn (s.kid s.side) _ none 0 0 [] (Bs.nil _) A11 (1 + tn) c11 (kind :: tx) ho11.bs _ ?_; intro A12 n12 c12 F12 w12 hk12 hb12 hF12 ho12))
          all_goals
            clear l0 l1 l2 l3 l4 l5 l6 HS HS2 ag hk11 ho11 he10 hel10
            have hpl : p < w.heap.size := At.lt hp
            have eAll := eW.trans hel
            have hp12 : PipeAt w12 p b s := At.kp (At.ext hpc hel) hk12 hpF
            have k12 : Kp F w w12 := (eAll.kp F).trans hk12 (fun _ _ h => h) (fun _ _ h => h)
            have hs11 := eAll.size
            have hrl := sealRes_len x hf (s.kid s.side) (s.lane s.side).seq [] (kind :: tx)
            rw [List.length_cons, htl] at hrl
            generalize sealRes x (s.kid s.side) (s.lane s.side).seq [] (kind :: tx) = r at *
            obtain ⟨e, bs, x'⟩ := r
            have hR := HR.out
            dsimp only at hR hb12 ho12 hrl
            clear HR
            by_cases he : e = 0
            · subst he
              simp only [if_true] at hR
              have HO2 := HO.out
              rw [hR] at HO2
              have HN : Hid _ := HO2
              clear HO HO2 hR
              have c4 : w12.cell? ⟨p, 4, none⟩ = some (.int .i64 s.side) := At.cell hp12 rfl
              have hbl := ho12.len
              have hcap := Rv.cap ho12.bs
              have hle := Rv.le ho12.bs
              unfold maxLen at hcap
              go_wp2_with fail
              refine step_c w12 p b s hp12 _ s.side rfl hs _ ?_
              intro w13 hk13 hp13
              have hPN : ∀ y, y = p → NoB w12 y := fun y hy => by subst hy; exact hp12.noB
              have hb13 := hb12.kp hk13 hPN (fun y hy e => by
                subst e
                rcases hF12 y hy with h | h
                · exact hpF h
                · omega)
              have ho13 := ho12.bs.clean hk13 hPN
              have k13 : Kp (fun y => F y ∨ y = p) w w13 := k12.trans hk13 (fun _ _ h => Or.inl h) (fun _ _ h => Or.inr h)
              clear c4
              go_wp2_with (with_reducible refine stop_append ?_)
              refine Stop.go (wpList_append_ob w13.heap.size rfl (Ob.lit w13 w13.heap.size [4] _ 1 (Nat.le_refl _) rfl rfl (by simp)) rfl (ho13.ext ((Ext.refl w13).alloc _)) (by omega) (by simp) ?_)
              intro A14 c14 w14 ho14 hk14
              have e14 : Ext w13 w14 := ((Ext.refl w13).alloc _).new hk14 (fun y hy => by have h : w13.heap.size = y := Option.some.inj hy; omega)
              go_wp2_with fail
              exact HN.out A14 _ c14 F12 w14 (k13.ext e14) (At.ext hp13 e14) (hb13.ext e14) (fun y hy => (hF12 y hy).imp id (fun h => by omega)) (ho14.mono k13.size)
            · simp only [he, if_false] at hR
              have HO2 := HO.out none 0 0 F12 w12 (k12.mono (fun _ _ h => Or.inl h))
              rw [hR] at HO2
              have HN : Hid _ := HO2 hp12 hb12 (fun y hy => (hF12 y hy).imp id (fun h => by omega)) (Ob.nil _ _)
              have he2 : (e == 0) = false := by simpa using he
              clear HO HO2 hR
              go_wp2_with fail
              exact HN.out

theorem pipeSealPub_c (w : World) (p b : Nat) (F : Nat → Prop) (s : PipeS) (x : BoxS) (hp : PipeAt w p b s) (hs : s.side < 2) (hx : BoxAt w b F x) (hf : Fit x) (hpF : ¬ F p) (hsn : x.seals.length ≤ 1000000000000)
    (T : Option Addr) (tn tc : Nat) (tx : List UInt8) (ht : Bs w T tn tc tx)
    (K : Ending → World → Prop)
    (hK : ∀ A' n' c' F' w', Kp (fun y => F y ∨ y = p) w w' → PipeAt w' p b (pipeSeal s x 1 tx).pipe → BoxAt w' b F' (pipeSeal s x 1 tx).box → (∀ y, F' y → F y ∨ w.heap.size ≤ y) →
      Ob w' w.heap.size A' n' c' (pipeSeal s x 1 tx).text → K (.returned (.tuple #[.slice A' n' c', .int .i64 (pipeSeal s x 1 tx).err])) w') :
    Calls Tryd.prog 14 #[.pointer (some ⟨p, 0, none⟩), .slice T tn tc] w K := by
  have HO : Hid _ := hK
  clear hK
  go_enter Tryd.func14, Tryd.ntmps14
  go_wp2_with fail
  refine pipeSeal_c w p b F s x hp hs hx hf hpF hsn 1 T tn tc tx ht _ ?_
  intro A' n' c' F' w' h1 h2 h3 h4 h5
  have HN : Hid _ := HO.out A' n' c' F' w' h1 h2 h3 h4 h5
  clear HO h1 h2 h3 h4 h5
  go_wp2_with fail
  exact HN.out
end Go.Proofs.YtdlaojpjkijccaaDoor
