/- PipeNobody: the walk. -/
import Derived.Test.YtdlaojpjkijccaaDoorPipeAwake
import Derived.Test.YtdlaojpjkijccaaDoorZeros
set_option linter.unusedVariables false
set_option linter.unusedSimpArgs false
namespace Go.Proofs.YtdlaojpjkijccaaDoor
open Go.RowKit

theorem pipeNew_nil (w : World) (k : KeysS) (side : Int) (bn sq pn gn ln en cn : Int)
    (K : Ending → World → Prop) (hK : ∀ w', Ext w w' → K (.returned (.pointer none)) w') :
    Calls Tryd.prog 12 #[.pointer none, k.v, .int .i64 side, .agg #[.int .i64 bn, .int .i64 sq, .int .i64 pn, .int .i64 gn, .int .i64 ln, .int .i64 en, .int .i64 cn]] w K := by
  have hkv : k.v = .agg #[.int .i64 k.life, .int .i64 k.conn, .int .i64 k.peer] := rfl
  rw [hkv]
  have HO : Hid _ := hK
  clear hK
  go_enter Tryd.func12, Tryd.ntmps12
  go_wp2_with fail
  have e1 := ((Ext.refl w).alloc (.cells #[.int .i64 k.life, .int .i64 k.conn, .int .i64 k.peer] 31)).alloc (.cells #[.int .i64 bn, .int .i64 sq, .int .i64 pn, .int .i64 gn, .int .i64 ln, .int .i64 en, .int .i64 cn] 25)
  refine openNil_c _ _ ?_
  intro w2 e2
  go_wp2_with fail
  exact HO.out _ (e1.trans e2)
theorem pipeSeal_long (tx : List UInt8) (h : 60000 < tx.length) : pipeSeal (awS 0) X0 1 tx = ⟨5, [], awS 0, X0⟩ := by
  unfold pipeSeal
  rw [if_neg (by decide), if_pos h]
theorem pipeSeal_first (tx : List UInt8) (h : tx.length ≤ 60000) : (pipeSeal (awS 0) X0 1 tx).err = 0 := by
  have h1 : ¬ ((awS 0).closed = true) := by decide
  have h2 : ¬ ((awS 0).spent (awS 0).side = true) := by decide
  have h3 : sealE ((awS 0).kid (awS 0).side) ((awS 0).lane (awS 0).side).seq 0 (tx.length + 1) = 0 := by
    unfold sealE
    rw [if_pos (by decide), if_pos (by omega)]
  unfold pipeSeal
  rw [if_neg h1, if_neg (by omega), if_neg h2]
  dsimp only
  rw [if_pos ?_]
  unfold sealRes
  rw [List.length_nil, List.length_cons, if_pos h3]
/-- Is there no pipe of such a side? -/
def badSide (side : Int) : Bool := decide (side < 0) || decide (1 < side)

set_option maxRecDepth 100000 in
set_option maxHeartbeats 2000000 in
theorem pipeNobody_c (w : World) (A : Option Addr) (n c : Nat) (xs : List UInt8) (hb : Bs w A n c xs) (side : Int) (more : Nat) (hm : more < 256) (K : Ending → World → Prop) (hK : ∀ w', Ext w w' → K (.returned (.bool true)) w') :
    Calls Tryd.prog 9 #[.slice A n c, .int .i64 side, .int .u8 more] w K := by
  have HO : Hid _ := hK
  clear hK
  have h1 := Rv.le hb
  have h2 := Rv.cap hb
  have hl := hb.len
  unfold maxLen at h2
  by_cases hn : 500 < n
  · go_enter Tryd.func9, Tryd.ntmps9
    go_wp2_with fail
    refine awake23_c _ _ ?_
    intro w1 e1
    go_wp2_with fail
    exact HO.out _ e1
  · go_enter Tryd.func9, Tryd.ntmps9
    go_wp2_with fail
    have e1 := ((Ext.refl w).alloc (.cells zeroPipe 98)).alloc (.cells #[.pointer none, .pointer (some ⟨w.heap.size, 0, none⟩)] 28)
    have a1 := (At.new w zeroPipe 98).alloc (.cells #[.pointer none, .pointer (some ⟨w.heap.size, 0, none⟩)] 28)
    have a2 := At.new2 w (.cells zeroPipe 98) #[.pointer none, .pointer (some ⟨w.heap.size, 0, none⟩)] 28
    go_loopw [8] (fun s8 wx => ∃ k : Nat, k ≤ 2 ∧ s8 = .int .i64 k ∧ Ext ((w.alloc (.cells zeroPipe 98)).alloc (.cells #[.pointer none, .pointer (some ⟨w.heap.size, 0, none⟩)] 28)) wx) (fun s8 _ => 2 - (intOf s8).toNat)
    case atStart => exact ⟨0, by omega, rfl, Ext.refl _⟩
    case round =>
      obtain ⟨k, hk, rfl, ex⟩ := hrel
      have b1 := a1.ext ex
      have b2 := a2.ext ex
      have c0 : wr.cell? ⟨w.heap.size + 1, 0, none⟩ = some (.pointer none) := b2.cell rfl
      have c1 : wr.cell? ⟨w.heap.size + 1, 1, none⟩ = some (.pointer (some ⟨w.heap.size, 0, none⟩)) := b2.cell rfl
      rcases (by omega : k = 0 ∨ k = 1 ∨ k = 2) with rfl | rfl | rfl
      · go_wp2_with (first
          | (go_at_call 14; refine pipeSeal_nil _ _ _ _ _ ?_)
          | (go_at_call 15; refine pipeOpenPub_nil _ _ _ _ _ ?_)
          | (go_at_call 21; refine pipeClose_nil _ _ ?_)
          | (go_at_call 17; refine pipeCounts_nil _ _ ?_)
          | (go_at_call 18; refine pipeUp_nil _ _ ?_))
        go_roundw
        case rel => exact ⟨1, by omega, rfl, ex⟩
        case measure => simp [intOf]
      · go_wp2_with (first
          | (go_at_call 14; refine pipeSeal_unmade _ _ _ b1 rfl _ _ _ _ ?_)
          | (go_at_call 15; refine pipeOpenPub_unmade _ _ _ b1 rfl _ _ _ _ ?_)
          | (go_at_call 21; refine pipeClose_unmade _ _ _ b1 rfl _ ?_))
        refine pipeCounts_zero _ _ b1 _ ?_
        intro w2 e2 hh
        clear hh
        have c1 : w2.cell? ⟨w.heap.size + 1, 1, none⟩ = some (.pointer (some ⟨w.heap.size, 0, none⟩)) := e2.cell c1
        go_wp2_with fail
        refine pipeUp_unmade _ _ _ (b1.ext e2) rfl _ ?_
        go_wp2_with fail
        go_roundw
        case rel => exact ⟨2, by omega, rfl, ex.trans e2⟩
        case measure => simp [intOf]
      · clear a1 a2 b1 b2 c0 c1
        have e2 := e1.trans ex
        clear e1 ex
        go_wp2_with fail
        refine new_c _ none 0 0 [] true (by omega) (Bs.nil _) _ ?_
        intro b F w3 e3 hx hF
        have hsz3 := (e2.trans e3).size
        have hwr := e2.size
        go_wp2_with fail
        refine keys_c _ _ ?_
        intro w4 e4
        go_wp2_with fail
        refine wide_c _ _ ?_
        intro w5 e5
        go_wp2_with fail
        refine pipeNew_c _ b F _ (hx.ext (e4.trans e5)) K0 0 0 1000 0 0 0 1000 0 _ ?_ ?_
        · intro w' h
          rcases h with h | h | h
          · omega
          · omega
          · exact absurd h (by decide)
        intro w6 p sd hsd _ _ e6 hp0 hp
        obtain rfl : sd = 0 := by omega
        clear hsd
        have e36 := (e4.trans e5).trans e6
        have hsz5 := (e4.trans e5).size
        have U : Uno w6 b F X0 p (awS 0) w.heap.size := ⟨hx.ext e36, rfl, hp, fun h => (by have := hx.lt h; omega), (by show 0 < 2; omega), (by omega), fun y hy => (by have := hF y hy; omega)⟩
        have e06 := ((e2.trans e3).trans e36)
        have hb6 := hb.ext e06
        clear hx hF hp hp0 e2 e3 e4 e5 e6 e36 hsz3 hwr hsz5
        have hB := e06.size
        have hmm : IntKind.i64.wrap (60001 + (more : Int)) = ((60001 + more : Nat) : Int) := by rw [IntKind.wrap_i64]; omega
        go_wp2_with ((with_reducible refine stop_make ?_); refine Stop.go (wpList_make_zeros 0 (60001 + more) rfl rfl (by omega) (by omega) (by omega) (Nat.zero_le _) ?_); intro w7 o7 e7)
        refine (U.ext e7).seal (by have := e7.size; omega) (by decide) o7.bs _ ?_
        intro A8 n8 c8 F8 w8 k8 U8 o8 hF8
        rw [pipeSeal_long _ (by rw [List.length_replicate]; omega)] at U8 o8 ⊢
        dsimp only at U8 o8 ⊢
        have hfin : ∀ (w0 w1 : World) (F0 : Nat → Prop) (s0 : PipeS) (x0 : BoxS), Ext w w0 → Uno w0 b F0 x0 p s0 w.heap.size → Kp (fun y => F0 y ∨ y = p) w0 w1 → Ext w w1 := fun w0 w1 F0 s0 x0 h1 h2 h3 =>
          ((h1.kp (fun y => w.heap.size ≤ y)).trans h3 (fun _ _ h => h) (fun y hy h => h.elim (fun h => h2.bF y h) (fun h => by have := h2.bp; omega))).mono (fun y hy h => by omega)
        have HF : Hid _ := hfin
        clear hfin
        have e08 : Ext w w8 := HF.out _ _ _ _ _ (e06.trans e7) (U.ext e7) k8
        have hb8 := hb.ext e08
        clear e06 e7 k8 U o7 hF8 o8 hb6 hB hmm
        have hB8 := e08.size
        go_wp2_with fail
        refine U8.seal hB8 (by decide) hb8 _ ?_
        intro A9 n9 c9 F9 w9 k9 U9 o9 hF9
        rw [pipeSeal_first xs (by omega)]
        have e09 : Ext w w9 := HF.out _ _ _ _ _ e08 U8 k9
        have hx9 := U9.box
        clear e08 U8 k9 U9 o9 hF9 hb8 hB8 HF
        go_wp2_with fail
        refine keys_c _ _ ?_
        intro w10 e10
        go_wp2_with fail
        refine wide_c _ _ ?_
        intro w11 e11
        have e011 := (e09.trans e10).trans e11
        have hx11 := (hx9.ext e10).ext e11
        clear e09 e10 e11 hx9
        go_wp2_with fail
        refine pipeNew_c _ b F9 _ hx11 K0 side 0 1000 0 0 0 1000 0 _ ?_ ?_
        · intro w12 hs e12
          have e012 := e011.trans e12
          have hs0 : side ≠ 0 ∧ side ≠ 1 := by
            rcases hs with h | h | h
            · omega
            · omega
            · refine ⟨fun e => ?_, fun e => ?_⟩ <;> (subst e; exact absurd h (by decide))
          have q0 : (side == 0) = false := by simpa using hs0.1
          have q1 : (side == 1) = false := by simpa using hs0.2
          have q2 : (side != 0) = true := by simpa using hs0.1
          have q3 : (side != 1) = true := by simpa using hs0.2
          clear hs hs0 hx11 e011 e12
          go_wp2_with fail
          refine keys_c _ _ ?_
          intro w13 e13
          go_wp2_with fail
          refine wide_c _ _ ?_
          intro w14 e14
          go_wp2_with fail
          refine pipeNew_nil _ K0 0 0 1000 0 0 0 1000 0 _ ?_
          intro w15 e15
          go_wp2_with fail
          refine awake23_c _ _ ?_
          intro w16 e16
          have HN : Hid _ := HO.out w16 ((((e012.trans e13).trans e14).trans e15).trans e16)
          clear HO
          go_wp2_with fail
          exact HN.out
        · intro w12 q sd hsd hs2 _ e12 hq0 hq
          have e012 := e011.trans e12
          clear hx11 e011 e12 hq hq0
          rcases (by omega : side = 0 ∨ side = 1) with rfl | rfl
          all_goals
            clear hsd
            go_wp2_with fail
            refine keys_c _ _ ?_
            intro w13 e13
            go_wp2_with fail
            refine wide_c _ _ ?_
            intro w14 e14
            go_wp2_with fail
            refine pipeNew_nil _ K0 0 0 1000 0 0 0 1000 0 _ ?_
            intro w15 e15
            go_wp2_with fail
            refine awake23_c _ _ ?_
            intro w16 e16
            have HN : Hid _ := HO.out w16 ((((e012.trans e13).trans e14).trans e15).trans e16)
            clear HO
            go_wp2_with fail
            exact HN.out
end Go.Proofs.YtdlaojpjkijccaaDoor
