/- The law of flattening formulas. -/
import Derived.Test.YtdloeiaaokhniaaFmDraw3
import Derived.Test.YtdloeiaaokhniaaFmFl
import Derived.Test.YtdloeiaaokhniaaFmExact3
import Derived.Test.YtdloeiaaokhniaaFmSize
import Derived.Deep.RegionHeld3
namespace Go.Proofs.Ytdloeiaaokhniaa
open Go.RowKit
open FL
set_option maxHeartbeats 4000000
set_option maxRecDepth 100000
set_option linter.unusedVariables false

theorem flattenFormula_walk (a : Option Addr) (len cap : Nat) (zs : List Int) (w : World) (h : RowIn .u8 w a len cap zs) :
    Calls Try.prog 8 #[.slice a len cap] w fun e w' => e = .returned (.bool true) ∧ Below w.heap.size w w' := by
  have hm := h.len_le.1
  unfold maxLen at hm
  have HR := Lib.hid h; clear h
  by_cases hl : 1048576 < len
  · go_enter Try.func8, Try.ntmps8
    go_wp2
    go_ret
    exact ⟨rfl, Below.refl _ _⟩
  · go_enter Try.func8, Try.ntmps8
    go_wp2_with fail
    refine (drawFlattenFormula_any a len cap zs _ HR.out).mono ?_
    rintro e w1 ⟨k, a', b, c, u, g, rfl, hk, hsz, b1⟩
    obtain ⟨au, cu, rfl, _⟩ := hk.cells
    have ba : Below w1.heap.size w1 (w1.alloc (.cells #[.int .i64 k, .int .i64 a', .int .i64 b, .int .i64 c, .slice au g.len cu] 32)) := (Below.refl _ _).alloc (Nat.le_refl _) _
    have HB1 := Lib.hid (b1.trans (ba.mono b1.size))
    have F1 := Lib.hid (Five.new 32 w1 (.int .i64 k) (.int .i64 a') (.int .i64 b) (.int .i64 c) (.slice au g.len cu))
    have O1 := Lib.hid (hk.below ba)
    clear hk b1 ba
    unfold fmV
    go_wp2_with fail
    generalize w1.alloc (.cells #[.int .i64 k, .int .i64 a', .int .i64 b, .int .i64 c, .slice au g.len cu] 32) = W1 at *
    refine (flattenFm_any g k a' b c _ W1 O1.out (by omega)).mono ?_
    rintro e w2 ⟨u1, rfl, ou1, b2⟩
    have hg1 := flatM_sz g (decide (k = 2))
    have hg2 := flatM_twice g (decide (k = 2))
    have hg3 := flat_layFm k a' b c g
    have hOk := Lib.hid (rfl : flOk k a' b c g = flOk k a' b c g)
    have HFl := Lib.hid (fun (w' : World) (h : Kids AllS w' (.slice au g.len cu) g) => sflattenFm_any g k a' b c _ w' h (by omega))
    have HSf := Lib.hid (fun (w' : World) (h : Kids AllS w' (.slice au g.len cu) g) => formulaSize_any g k a' b c _ w' h (by omega))
    have HLf := Lib.hid (fun (w' : World) (h : Kids AllS w' (.slice au g.len cu) g) => layoutFm_any g k a' b c _ w' h)
    have h0 : Hid (flOk k a' b c g = true → okFm k a' b c g 6 = true ∧ okFm k a' b c (flatM (decide (k = 2)) g) 6 = true) := Lib.hid (fun h => by unfold flOk at h; rwa [Bool.and_eq_true] at h)
    cases hq : flOk k a' b c g with
    | false =>
      rw [hq] at ou1 HFl
      simp only [flI, flG, Bool.false_eq_true, if_false] at ou1 HFl ⊢
      clear hg1 hg2 hg3 hOk HSf HLf h0 hq
      obtain ⟨au1, cu1, rfl, _⟩ := ou1.shape
      simp only [FL.len] at *
      have ba : Below w2.heap.size w2 (w2.alloc (.cells #[.int .i64 0, .int .i64 0, .int .i64 0, .int .i64 0, .slice au1 0 cu1] 32)) := (Below.refl _ _).alloc (Nat.le_refl _) _
      have b2' := b2.trans (ba.mono b2.size)
      have HB2 := Lib.hid (HB1.out.trans (b2'.mono HB1.out.size))
      have F2 := Lib.hid (F1.out.below b2')
      have O2 := Lib.hid (O1.out.below b2')
      have K2 : Hid (Kids AllS (w2.alloc (.cells #[.int .i64 0, .int .i64 0, .int .i64 0, .int .i64 0, .slice au1 0 cu1] 32)) (.slice au1 0 cu1) FL.nil) := Lib.hid (ou1.kids.below ba)
      have X2 := Lib.hid (Five.new 32 w2 (.int .i64 0) (.int .i64 0) (.int .i64 0) (.int .i64 0) (.slice au1 0 cu1))
      clear b2 b2' ba HB1 F1 O1 ou1
      obtain ⟨s0, s1, s2, s3, s4⟩ := F2.out.cells
      unfold fmV
      go_wp2_with fail
      generalize w2.alloc (.cells #[.int .i64 0, .int .i64 0, .int .i64 0, .int .i64 0, .slice au1 0 cu1] 32) = W2 at *
      refine (HFl.out W2 O2.out).mono ?_
      rintro e w3 ⟨u2, rfl, ou2, b3⟩
      obtain ⟨au2, cu2, rfl, _⟩ := ou2.shape
      simp only [FL.len] at *
      have ba : Below w3.heap.size w3 (w3.alloc (.cells #[.int .i64 0, .int .i64 0, .int .i64 0, .int .i64 0, .slice au2 0 cu2] 32)) := (Below.refl _ _).alloc (Nat.le_refl _) _
      have b3' := b3.trans (ba.mono b3.size)
      have HB3 := Lib.hid (HB2.out.trans (b3'.mono HB2.out.size))
      have X3 := Lib.hid (X2.out.below b3')
      have K3 := Lib.hid (K2.out.below b3')
      have L3 : Hid (Kids AllS (w3.alloc (.cells #[.int .i64 0, .int .i64 0, .int .i64 0, .int .i64 0, .slice au2 0 cu2] 32)) (.slice au2 0 cu2) FL.nil) := Lib.hid (ou2.kids.below ba)
      have Y3 := Lib.hid (Five.new 32 w3 (.int .i64 0) (.int .i64 0) (.int .i64 0) (.int .i64 0) (.slice au2 0 cu2))
      clear b3 b3' ba HB2 F2 O2 K2 X2 ou2 s0 s1 s2 s3 s4
      obtain ⟨s0, s1, s2, s3, s4⟩ := X3.out.cells
      obtain ⟨t0, t1, t2, t3, t4⟩ := Y3.out.cells
      unfold fmV
      go_wp2_with fail
      generalize w3.alloc (.cells #[.int .i64 0, .int .i64 0, .int .i64 0, .int .i64 0, .slice au2 0 cu2] 32) = W3 at *
      obtain ⟨P, p0, pc, pk1, pk2, pb, ps⟩ : ∃ P : World → Prop, Hid (P W3.drew) ∧ Hid (∀ x, P x → (x.cell? ⟨w2.heap.size, 0, none⟩ = some (.int .i64 0) ∧ x.cell? ⟨w2.heap.size, 1, none⟩ = some (.int .i64 0) ∧ x.cell? ⟨w2.heap.size, 2, none⟩ = some (.int .i64 0) ∧ x.cell? ⟨w2.heap.size, 3, none⟩ = some (.int .i64 0) ∧ x.cell? ⟨w2.heap.size, 4, none⟩ = some (.slice au1 0 cu1)) ∧ (x.cell? ⟨w3.heap.size, 0, none⟩ = some (.int .i64 0) ∧ x.cell? ⟨w3.heap.size, 1, none⟩ = some (.int .i64 0) ∧ x.cell? ⟨w3.heap.size, 2, none⟩ = some (.int .i64 0) ∧ x.cell? ⟨w3.heap.size, 3, none⟩ = some (.int .i64 0) ∧ x.cell? ⟨w3.heap.size, 4, none⟩ = some (.slice au2 0 cu2))) ∧ Hid (∀ x, P x → Kids AllS x (.slice au1 0 cu1) FL.nil) ∧ Hid (∀ x, P x → Kids AllS x (.slice au2 0 cu2) FL.nil) ∧ Hid (∀ x, P x → Below w.heap.size w x) ∧ Hid (∀ x y, P x → Below x.heap.size x y → P y) :=
        ⟨fun x => Below w.heap.size w x ∧ Five 32 x w2.heap.size (.int .i64 0) (.int .i64 0) (.int .i64 0) (.int .i64 0) (.slice au1 0 cu1) ∧ Five 32 x w3.heap.size (.int .i64 0) (.int .i64 0) (.int .i64 0) (.int .i64 0) (.slice au2 0 cu2) ∧ Kids AllS x (.slice au1 0 cu1) FL.nil ∧ Kids AllS x (.slice au2 0 cu2) FL.nil,
          Lib.hid ⟨HB3.out.drew, X3.out.same rfl, Y3.out.same rfl, K3.out.drewN 1, L3.out.drewN 1⟩, Lib.hid (fun x h => ⟨h.2.1.cells, h.2.2.1.cells⟩), Lib.hid (fun x h => h.2.2.2.1), Lib.hid (fun x h => h.2.2.2.2), Lib.hid (fun x h => h.1),
          Lib.hid (fun x y h b => ⟨h.1.trans (b.mono h.1.size), h.2.1.below b, h.2.2.1.below b, h.2.2.2.1.below b, h.2.2.2.2.below b⟩)⟩
      have hN : Hid (P W3.drew) ∧ (W3.drew.cell? ⟨w2.heap.size, 0, none⟩ = some (.int .i64 0) ∧ W3.drew.cell? ⟨w2.heap.size, 1, none⟩ = some (.int .i64 0) ∧ W3.drew.cell? ⟨w2.heap.size, 2, none⟩ = some (.int .i64 0) ∧ W3.drew.cell? ⟨w2.heap.size, 3, none⟩ = some (.int .i64 0) ∧ W3.drew.cell? ⟨w2.heap.size, 4, none⟩ = some (.slice au1 0 cu1)) ∧ (W3.drew.cell? ⟨w3.heap.size, 0, none⟩ = some (.int .i64 0) ∧ W3.drew.cell? ⟨w3.heap.size, 1, none⟩ = some (.int .i64 0) ∧ W3.drew.cell? ⟨w3.heap.size, 2, none⟩ = some (.int .i64 0) ∧ W3.drew.cell? ⟨w3.heap.size, 3, none⟩ = some (.int .i64 0) ∧ W3.drew.cell? ⟨w3.heap.size, 4, none⟩ = some (.slice au2 0 cu2)) := ⟨p0, pc.out _ p0.out⟩
      have HS := Lib.hid (fun (v : Value) (w' : World) (h : Kids AllS w' v FL.nil) => formulaSize_any FL.nil 0 0 0 0 v w' h (by simp [FL.sz]))
      generalize sizeS 0 0 0 0 FL.nil = sz0 at *
      unfold fmV at HS
      clear HB3 X3 K3 L3 Y3 p0 HFl s0 s1 s2 s3 s4 t0 t1 t2 t3 t4
      go_region_held3 (fun w' => Hid (P w') ∧ (w'.cell? ⟨w2.heap.size, 0, none⟩ = some (.int .i64 0) ∧ w'.cell? ⟨w2.heap.size, 1, none⟩ = some (.int .i64 0) ∧ w'.cell? ⟨w2.heap.size, 2, none⟩ = some (.int .i64 0) ∧ w'.cell? ⟨w2.heap.size, 3, none⟩ = some (.int .i64 0) ∧ w'.cell? ⟨w2.heap.size, 4, none⟩ = some (.slice au1 0 cu1)) ∧ (w'.cell? ⟨w3.heap.size, 0, none⟩ = some (.int .i64 0) ∧ w'.cell? ⟨w3.heap.size, 1, none⟩ = some (.int .i64 0) ∧ w'.cell? ⟨w3.heap.size, 2, none⟩ = some (.int .i64 0) ∧ w'.cell? ⟨w3.heap.size, 3, none⟩ = some (.int .i64 0) ∧ w'.cell? ⟨w3.heap.size, 4, none⟩ = some (.slice au2 0 cu2))) (exact hN)
        (first
            | (go_at_call 17; refine (HS.out _ _ (pk1.out _ (And.left ‹Hid (P _) ∧ _›).out)).mono ?_; rintro e w9 ⟨rfl, b9⟩; have hp := ps.out _ _ (And.left ‹Hid (P _) ∧ _›).out b9; have hN : Hid (P w9) ∧ (w9.cell? ⟨w2.heap.size, 0, none⟩ = some (.int .i64 0) ∧ w9.cell? ⟨w2.heap.size, 1, none⟩ = some (.int .i64 0) ∧ w9.cell? ⟨w2.heap.size, 2, none⟩ = some (.int .i64 0) ∧ w9.cell? ⟨w2.heap.size, 3, none⟩ = some (.int .i64 0) ∧ w9.cell? ⟨w2.heap.size, 4, none⟩ = some (.slice au1 0 cu1)) ∧ (w9.cell? ⟨w3.heap.size, 0, none⟩ = some (.int .i64 0) ∧ w9.cell? ⟨w3.heap.size, 1, none⟩ = some (.int .i64 0) ∧ w9.cell? ⟨w3.heap.size, 2, none⟩ = some (.int .i64 0) ∧ w9.cell? ⟨w3.heap.size, 3, none⟩ = some (.int .i64 0) ∧ w9.cell? ⟨w3.heap.size, 4, none⟩ = some (.slice au2 0 cu2)) := ⟨Lib.hid hp, pc.out _ hp⟩)
            | (go_at_call 17; refine (HS.out _ _ (pk2.out _ (And.left ‹Hid (P _) ∧ _›).out)).mono ?_; rintro e w9 ⟨rfl, b9⟩; have hp := ps.out _ _ (And.left ‹Hid (P _) ∧ _›).out b9; have hN : Hid (P w9) ∧ (w9.cell? ⟨w2.heap.size, 0, none⟩ = some (.int .i64 0) ∧ w9.cell? ⟨w2.heap.size, 1, none⟩ = some (.int .i64 0) ∧ w9.cell? ⟨w2.heap.size, 2, none⟩ = some (.int .i64 0) ∧ w9.cell? ⟨w2.heap.size, 3, none⟩ = some (.int .i64 0) ∧ w9.cell? ⟨w2.heap.size, 4, none⟩ = some (.slice au1 0 cu1)) ∧ (w9.cell? ⟨w3.heap.size, 0, none⟩ = some (.int .i64 0) ∧ w9.cell? ⟨w3.heap.size, 1, none⟩ = some (.int .i64 0) ∧ w9.cell? ⟨w3.heap.size, 2, none⟩ = some (.int .i64 0) ∧ w9.cell? ⟨w3.heap.size, 3, none⟩ = some (.int .i64 0) ∧ w9.cell? ⟨w3.heap.size, 4, none⟩ = some (.slice au2 0 cu2)) := ⟨Lib.hid hp, pc.out _ hp⟩))
      all_goals
        go_wp2_with fail
        go_ret
        exact ⟨rfl, pb.out _ hp⟩
    | true =>
      rw [hq] at ou1 HFl
      obtain ⟨e1, e2⟩ := h0.out hq
      simp only [flI, flG, if_true] at ou1 HFl ⊢
      clear hOk h0 hq
      generalize flatM (decide (k = 2)) g = G at *
      have e3 : flOk k a' b c G = true := by unfold flOk; rw [hg2, e2]; rfl
      have eI : ∀ x, flI true x = x := fun _ => rfl
      have HFG : Hid (∀ (v : Value) (w' : World), Kids AllS w' v G → Calls Try.prog 24 #[fmV k a' b c v] w' fun e w'' => ∃ u, e = .returned (.tuple #[fmV k a' b c u, .bool true]) ∧ OwnFm w'.heap.size w''.heap.size w'' u G ∧ Below w'.heap.size w' w'') := Lib.hid (fun v w' h => by
        have := flattenFm_any G k a' b c v w' h (by omega)
        rw [e3] at this
        simpa only [flI, flG, if_true, hg2] using this)
      have HSG : Hid (∀ (v : Value) (w' : World), Kids AllS w' v G → Calls Try.prog 17 #[fmV k a' b c v] w' fun e w'' => e = .returned (.int .i64 (sizeS k a' b c G)) ∧ Below w'.heap.size w' w'') := Lib.hid (fun v w' h => formulaSize_any G k a' b c v w' h (by omega))
      have HLG : Hid (∀ (v : Value) (w' : World), Kids AllS w' v G → Calls Try.prog 20 #[fmV k a' b c v] w' fun e w'' => e = .returned (layV (layS k a' b c g)) ∧ Below w'.heap.size w' w'') := Lib.hid (fun v w' h => by
        have := layoutFm_any G k a' b c v w' h
        have e4 : layS k a' b c G = layS k a' b c g := by unfold layS; rw [e1, e2, hg3]
        rwa [e4] at this)
      have hle : (sizeS k a' b c G : Int) ≤ (sizeS k a' b c g : Int) := by
        unfold sizeS; rw [e1, e2]; simp only [if_true]; omega
      generalize sizeS k a' b c G = sG at *
      generalize sizeS k a' b c g = sg at *
      obtain ⟨⟨q0, q1, q2⟩, hq⟩ : ∃ p, layS k a' b c g = p := ⟨_, rfl⟩
      rw [hq] at HLG HLf
      clear hq eI e1 e2 e3 hg1 hg2 hg3 hsz
      unfold layV bxV fmV at HLG HLf
      unfold fmV at HFl HFG HSf HSG
      simp only at HLG HLf
      obtain ⟨au1, cu1, rfl, _⟩ := ou1.shape
      have ba : Below w2.heap.size w2 (w2.alloc (.cells #[.int .i64 k, .int .i64 a', .int .i64 b, .int .i64 c, .slice au1 G.len cu1] 32)) := (Below.refl _ _).alloc (Nat.le_refl _) _
      have b2' := b2.trans (ba.mono b2.size)
      have HB2 := Lib.hid (HB1.out.trans (b2'.mono HB1.out.size))
      have F2 := Lib.hid (F1.out.below b2')
      have O2 := Lib.hid (O1.out.below b2')
      have K2 : Hid (Kids AllS (w2.alloc (.cells #[.int .i64 k, .int .i64 a', .int .i64 b, .int .i64 c, .slice au1 G.len cu1] 32)) (.slice au1 G.len cu1) G) := Lib.hid (ou1.kids.below ba)
      have X2 := Lib.hid (Five.new 32 w2 (.int .i64 k) (.int .i64 a') (.int .i64 b) (.int .i64 c) (.slice au1 G.len cu1))
      clear b2 b2' ba HB1 F1 O1 ou1
      obtain ⟨s0, s1, s2, s3, s4⟩ := F2.out.cells
      unfold fmV
      go_wp2_with fail
      generalize w2.alloc (.cells #[.int .i64 k, .int .i64 a', .int .i64 b, .int .i64 c, .slice au1 G.len cu1] 32) = W2 at *
      refine (HFl.out W2 O2.out).mono ?_
      rintro e w3 ⟨u2, rfl, ou2, b3⟩
      obtain ⟨au2, cu2, rfl, _⟩ := ou2.shape
      have ba : Below w3.heap.size w3 (w3.alloc (.cells #[.int .i64 k, .int .i64 a', .int .i64 b, .int .i64 c, .slice au2 G.len cu2] 32)) := (Below.refl _ _).alloc (Nat.le_refl _) _
      have b3' := b3.trans (ba.mono b3.size)
      have HB3 := Lib.hid (HB2.out.trans (b3'.mono HB2.out.size))
      have F3 := Lib.hid (F2.out.below b3')
      have X3 := Lib.hid (X2.out.below b3')
      have O3 := Lib.hid (O2.out.below b3')
      have K3 := Lib.hid (K2.out.below b3')
      have L3 : Hid (Kids AllS (w3.alloc (.cells #[.int .i64 k, .int .i64 a', .int .i64 b, .int .i64 c, .slice au2 G.len cu2] 32)) (.slice au2 G.len cu2) G) := Lib.hid (ou2.kids.below ba)
      have Y3 := Lib.hid (Five.new 32 w3 (.int .i64 k) (.int .i64 a') (.int .i64 b) (.int .i64 c) (.slice au2 G.len cu2))
      clear b3 b3' ba HB2 F2 O2 K2 X2 ou2 s0 s1 s2 s3 s4 HFl
      obtain ⟨s0, s1, s2, s3, s4⟩ := X3.out.cells
      go_wp2_with fail
      generalize w3.alloc (.cells #[.int .i64 k, .int .i64 a', .int .i64 b, .int .i64 c, .slice au2 G.len cu2] 32) = W3 at *
      refine (HFG.out _ W3 K3.out).mono ?_
      rintro e w4 ⟨u3, rfl, ou3, b4⟩
      obtain ⟨au3, cu3, rfl, _⟩ := ou3.shape
      have ba : Below w4.heap.size w4 (w4.alloc (.cells #[.int .i64 k, .int .i64 a', .int .i64 b, .int .i64 c, .slice au3 G.len cu3] 32)) := (Below.refl _ _).alloc (Nat.le_refl _) _
      have b4' := b4.trans (ba.mono b4.size)
      have HB4 := Lib.hid (HB3.out.trans (b4'.mono HB3.out.size))
      have F4 := Lib.hid (F3.out.below b4')
      have X4 := Lib.hid (X3.out.below b4')
      have Y4 := Lib.hid (Y3.out.below b4')
      have O4 := Lib.hid (O3.out.below b4')
      have K4 := Lib.hid (K3.out.below b4')
      have L4 := Lib.hid (L3.out.below b4')
      have M4 : Hid (Kids AllS (w4.alloc (.cells #[.int .i64 k, .int .i64 a', .int .i64 b, .int .i64 c, .slice au3 G.len cu3] 32)) (.slice au3 G.len cu3) G) := Lib.hid (ou3.kids.below ba)
      have Z4 := Lib.hid (Five.new 32 w4 (.int .i64 k) (.int .i64 a') (.int .i64 b) (.int .i64 c) (.slice au3 G.len cu3))
      clear b4 b4' ba HB3 F3 O3 K3 L3 X3 Y3 ou3 s0 s1 s2 s3 s4 HFG
      go_wp2_with fail
      generalize w4.alloc (.cells #[.int .i64 k, .int .i64 a', .int .i64 b, .int .i64 c, .slice au3 G.len cu3] 32) = W4 at *
      obtain ⟨P, p0, pc, pkf, pk1, pk2, pk3, pb, ps⟩ : ∃ P : World → Prop, Hid (P W4.drew) ∧ Hid (∀ x, P x → (x.cell? ⟨w1.heap.size, 0, none⟩ = some (.int .i64 k) ∧ x.cell? ⟨w1.heap.size, 1, none⟩ = some (.int .i64 a') ∧ x.cell? ⟨w1.heap.size, 2, none⟩ = some (.int .i64 b) ∧ x.cell? ⟨w1.heap.size, 3, none⟩ = some (.int .i64 c) ∧ x.cell? ⟨w1.heap.size, 4, none⟩ = some (.slice au g.len cu)) ∧ (x.cell? ⟨w2.heap.size, 0, none⟩ = some (.int .i64 k) ∧ x.cell? ⟨w2.heap.size, 1, none⟩ = some (.int .i64 a') ∧ x.cell? ⟨w2.heap.size, 2, none⟩ = some (.int .i64 b) ∧ x.cell? ⟨w2.heap.size, 3, none⟩ = some (.int .i64 c) ∧ x.cell? ⟨w2.heap.size, 4, none⟩ = some (.slice au1 G.len cu1)) ∧ (x.cell? ⟨w3.heap.size, 0, none⟩ = some (.int .i64 k) ∧ x.cell? ⟨w3.heap.size, 1, none⟩ = some (.int .i64 a') ∧ x.cell? ⟨w3.heap.size, 2, none⟩ = some (.int .i64 b) ∧ x.cell? ⟨w3.heap.size, 3, none⟩ = some (.int .i64 c) ∧ x.cell? ⟨w3.heap.size, 4, none⟩ = some (.slice au2 G.len cu2)) ∧ (x.cell? ⟨w4.heap.size, 0, none⟩ = some (.int .i64 k) ∧ x.cell? ⟨w4.heap.size, 1, none⟩ = some (.int .i64 a') ∧ x.cell? ⟨w4.heap.size, 2, none⟩ = some (.int .i64 b) ∧ x.cell? ⟨w4.heap.size, 3, none⟩ = some (.int .i64 c) ∧ x.cell? ⟨w4.heap.size, 4, none⟩ = some (.slice au3 G.len cu3))) ∧ Hid (∀ x, P x → Kids AllS x (.slice au g.len cu) g) ∧ Hid (∀ x, P x → Kids AllS x (.slice au1 G.len cu1) G) ∧ Hid (∀ x, P x → Kids AllS x (.slice au2 G.len cu2) G) ∧ Hid (∀ x, P x → Kids AllS x (.slice au3 G.len cu3) G) ∧ Hid (∀ x, P x → Below w.heap.size w x) ∧ Hid (∀ x y, P x → Below x.heap.size x y → P y) :=
        ⟨fun x => Below w.heap.size w x ∧ (Five 32 x w1.heap.size (.int .i64 k) (.int .i64 a') (.int .i64 b) (.int .i64 c) (.slice au g.len cu) ∧ Five 32 x w2.heap.size (.int .i64 k) (.int .i64 a') (.int .i64 b) (.int .i64 c) (.slice au1 G.len cu1) ∧ Five 32 x w3.heap.size (.int .i64 k) (.int .i64 a') (.int .i64 b) (.int .i64 c) (.slice au2 G.len cu2) ∧ Five 32 x w4.heap.size (.int .i64 k) (.int .i64 a') (.int .i64 b) (.int .i64 c) (.slice au3 G.len cu3)) ∧ Kids AllS x (.slice au g.len cu) g ∧ Kids AllS x (.slice au1 G.len cu1) G ∧ Kids AllS x (.slice au2 G.len cu2) G ∧ Kids AllS x (.slice au3 G.len cu3) G,
          Lib.hid ⟨HB4.out.drew, ⟨F4.out.same rfl, X4.out.same rfl, Y4.out.same rfl, Z4.out.same rfl⟩, O4.out.drewN 1, K4.out.drewN 1, L4.out.drewN 1, M4.out.drewN 1⟩,
          Lib.hid (fun x h => ⟨h.2.1.1.cells, h.2.1.2.1.cells, h.2.1.2.2.1.cells, h.2.1.2.2.2.cells⟩), Lib.hid (fun x h => h.2.2.1), Lib.hid (fun x h => h.2.2.2.1), Lib.hid (fun x h => h.2.2.2.2.1), Lib.hid (fun x h => h.2.2.2.2.2), Lib.hid (fun x h => h.1),
          Lib.hid (fun x y h b => ⟨h.1.trans (b.mono h.1.size), ⟨h.2.1.1.below b, h.2.1.2.1.below b, h.2.1.2.2.1.below b, h.2.1.2.2.2.below b⟩, h.2.2.1.below b, h.2.2.2.1.below b, h.2.2.2.2.1.below b, h.2.2.2.2.2.below b⟩)⟩
      have hN : Hid (P W4.drew) ∧ (W4.drew.cell? ⟨w1.heap.size, 0, none⟩ = some (.int .i64 k) ∧ W4.drew.cell? ⟨w1.heap.size, 1, none⟩ = some (.int .i64 a') ∧ W4.drew.cell? ⟨w1.heap.size, 2, none⟩ = some (.int .i64 b) ∧ W4.drew.cell? ⟨w1.heap.size, 3, none⟩ = some (.int .i64 c) ∧ W4.drew.cell? ⟨w1.heap.size, 4, none⟩ = some (.slice au g.len cu)) ∧ (W4.drew.cell? ⟨w2.heap.size, 0, none⟩ = some (.int .i64 k) ∧ W4.drew.cell? ⟨w2.heap.size, 1, none⟩ = some (.int .i64 a') ∧ W4.drew.cell? ⟨w2.heap.size, 2, none⟩ = some (.int .i64 b) ∧ W4.drew.cell? ⟨w2.heap.size, 3, none⟩ = some (.int .i64 c) ∧ W4.drew.cell? ⟨w2.heap.size, 4, none⟩ = some (.slice au1 G.len cu1)) ∧ (W4.drew.cell? ⟨w3.heap.size, 0, none⟩ = some (.int .i64 k) ∧ W4.drew.cell? ⟨w3.heap.size, 1, none⟩ = some (.int .i64 a') ∧ W4.drew.cell? ⟨w3.heap.size, 2, none⟩ = some (.int .i64 b) ∧ W4.drew.cell? ⟨w3.heap.size, 3, none⟩ = some (.int .i64 c) ∧ W4.drew.cell? ⟨w3.heap.size, 4, none⟩ = some (.slice au2 G.len cu2)) ∧ (W4.drew.cell? ⟨w4.heap.size, 0, none⟩ = some (.int .i64 k) ∧ W4.drew.cell? ⟨w4.heap.size, 1, none⟩ = some (.int .i64 a') ∧ W4.drew.cell? ⟨w4.heap.size, 2, none⟩ = some (.int .i64 b) ∧ W4.drew.cell? ⟨w4.heap.size, 3, none⟩ = some (.int .i64 c) ∧ W4.drew.cell? ⟨w4.heap.size, 4, none⟩ = some (.slice au3 G.len cu3)) := ⟨p0, pc.out _ p0.out⟩
      clear HB4 F4 X4 Y4 Z4 O4 K4 L4 M4 p0
      go_region_held3 (fun w' => Hid (P w') ∧ (w'.cell? ⟨w1.heap.size, 0, none⟩ = some (.int .i64 k) ∧ w'.cell? ⟨w1.heap.size, 1, none⟩ = some (.int .i64 a') ∧ w'.cell? ⟨w1.heap.size, 2, none⟩ = some (.int .i64 b) ∧ w'.cell? ⟨w1.heap.size, 3, none⟩ = some (.int .i64 c) ∧ w'.cell? ⟨w1.heap.size, 4, none⟩ = some (.slice au g.len cu)) ∧ (w'.cell? ⟨w2.heap.size, 0, none⟩ = some (.int .i64 k) ∧ w'.cell? ⟨w2.heap.size, 1, none⟩ = some (.int .i64 a') ∧ w'.cell? ⟨w2.heap.size, 2, none⟩ = some (.int .i64 b) ∧ w'.cell? ⟨w2.heap.size, 3, none⟩ = some (.int .i64 c) ∧ w'.cell? ⟨w2.heap.size, 4, none⟩ = some (.slice au1 G.len cu1)) ∧ (w'.cell? ⟨w3.heap.size, 0, none⟩ = some (.int .i64 k) ∧ w'.cell? ⟨w3.heap.size, 1, none⟩ = some (.int .i64 a') ∧ w'.cell? ⟨w3.heap.size, 2, none⟩ = some (.int .i64 b) ∧ w'.cell? ⟨w3.heap.size, 3, none⟩ = some (.int .i64 c) ∧ w'.cell? ⟨w3.heap.size, 4, none⟩ = some (.slice au2 G.len cu2)) ∧ (w'.cell? ⟨w4.heap.size, 0, none⟩ = some (.int .i64 k) ∧ w'.cell? ⟨w4.heap.size, 1, none⟩ = some (.int .i64 a') ∧ w'.cell? ⟨w4.heap.size, 2, none⟩ = some (.int .i64 b) ∧ w'.cell? ⟨w4.heap.size, 3, none⟩ = some (.int .i64 c) ∧ w'.cell? ⟨w4.heap.size, 4, none⟩ = some (.slice au3 G.len cu3))) (exact hN)
        (first
            | (go_at_call 20; refine (HLG.out _ _ (pk1.out _ (And.left ‹Hid (P _) ∧ _›).out)).mono ?_; rintro e w9 ⟨rfl, b9⟩; have hp := ps.out _ _ (And.left ‹Hid (P _) ∧ _›).out b9; have hN : Hid (P w9) ∧ (w9.cell? ⟨w1.heap.size, 0, none⟩ = some (.int .i64 k) ∧ w9.cell? ⟨w1.heap.size, 1, none⟩ = some (.int .i64 a') ∧ w9.cell? ⟨w1.heap.size, 2, none⟩ = some (.int .i64 b) ∧ w9.cell? ⟨w1.heap.size, 3, none⟩ = some (.int .i64 c) ∧ w9.cell? ⟨w1.heap.size, 4, none⟩ = some (.slice au g.len cu)) ∧ (w9.cell? ⟨w2.heap.size, 0, none⟩ = some (.int .i64 k) ∧ w9.cell? ⟨w2.heap.size, 1, none⟩ = some (.int .i64 a') ∧ w9.cell? ⟨w2.heap.size, 2, none⟩ = some (.int .i64 b) ∧ w9.cell? ⟨w2.heap.size, 3, none⟩ = some (.int .i64 c) ∧ w9.cell? ⟨w2.heap.size, 4, none⟩ = some (.slice au1 G.len cu1)) ∧ (w9.cell? ⟨w3.heap.size, 0, none⟩ = some (.int .i64 k) ∧ w9.cell? ⟨w3.heap.size, 1, none⟩ = some (.int .i64 a') ∧ w9.cell? ⟨w3.heap.size, 2, none⟩ = some (.int .i64 b) ∧ w9.cell? ⟨w3.heap.size, 3, none⟩ = some (.int .i64 c) ∧ w9.cell? ⟨w3.heap.size, 4, none⟩ = some (.slice au2 G.len cu2)) ∧ (w9.cell? ⟨w4.heap.size, 0, none⟩ = some (.int .i64 k) ∧ w9.cell? ⟨w4.heap.size, 1, none⟩ = some (.int .i64 a') ∧ w9.cell? ⟨w4.heap.size, 2, none⟩ = some (.int .i64 b) ∧ w9.cell? ⟨w4.heap.size, 3, none⟩ = some (.int .i64 c) ∧ w9.cell? ⟨w4.heap.size, 4, none⟩ = some (.slice au3 G.len cu3)) := ⟨Lib.hid hp, pc.out _ hp⟩)
            | (go_at_call 20; refine (HLf.out _ (pkf.out _ (And.left ‹Hid (P _) ∧ _›).out)).mono ?_; rintro e w9 ⟨rfl, b9⟩; have hp := ps.out _ _ (And.left ‹Hid (P _) ∧ _›).out b9; have hN : Hid (P w9) ∧ (w9.cell? ⟨w1.heap.size, 0, none⟩ = some (.int .i64 k) ∧ w9.cell? ⟨w1.heap.size, 1, none⟩ = some (.int .i64 a') ∧ w9.cell? ⟨w1.heap.size, 2, none⟩ = some (.int .i64 b) ∧ w9.cell? ⟨w1.heap.size, 3, none⟩ = some (.int .i64 c) ∧ w9.cell? ⟨w1.heap.size, 4, none⟩ = some (.slice au g.len cu)) ∧ (w9.cell? ⟨w2.heap.size, 0, none⟩ = some (.int .i64 k) ∧ w9.cell? ⟨w2.heap.size, 1, none⟩ = some (.int .i64 a') ∧ w9.cell? ⟨w2.heap.size, 2, none⟩ = some (.int .i64 b) ∧ w9.cell? ⟨w2.heap.size, 3, none⟩ = some (.int .i64 c) ∧ w9.cell? ⟨w2.heap.size, 4, none⟩ = some (.slice au1 G.len cu1)) ∧ (w9.cell? ⟨w3.heap.size, 0, none⟩ = some (.int .i64 k) ∧ w9.cell? ⟨w3.heap.size, 1, none⟩ = some (.int .i64 a') ∧ w9.cell? ⟨w3.heap.size, 2, none⟩ = some (.int .i64 b) ∧ w9.cell? ⟨w3.heap.size, 3, none⟩ = some (.int .i64 c) ∧ w9.cell? ⟨w3.heap.size, 4, none⟩ = some (.slice au2 G.len cu2)) ∧ (w9.cell? ⟨w4.heap.size, 0, none⟩ = some (.int .i64 k) ∧ w9.cell? ⟨w4.heap.size, 1, none⟩ = some (.int .i64 a') ∧ w9.cell? ⟨w4.heap.size, 2, none⟩ = some (.int .i64 b) ∧ w9.cell? ⟨w4.heap.size, 3, none⟩ = some (.int .i64 c) ∧ w9.cell? ⟨w4.heap.size, 4, none⟩ = some (.slice au3 G.len cu3)) := ⟨Lib.hid hp, pc.out _ hp⟩)
            | (go_at_call 17; refine (HSG.out _ _ (pk1.out _ (And.left ‹Hid (P _) ∧ _›).out)).mono ?_; rintro e w9 ⟨rfl, b9⟩; have hp := ps.out _ _ (And.left ‹Hid (P _) ∧ _›).out b9; have hN : Hid (P w9) ∧ (w9.cell? ⟨w1.heap.size, 0, none⟩ = some (.int .i64 k) ∧ w9.cell? ⟨w1.heap.size, 1, none⟩ = some (.int .i64 a') ∧ w9.cell? ⟨w1.heap.size, 2, none⟩ = some (.int .i64 b) ∧ w9.cell? ⟨w1.heap.size, 3, none⟩ = some (.int .i64 c) ∧ w9.cell? ⟨w1.heap.size, 4, none⟩ = some (.slice au g.len cu)) ∧ (w9.cell? ⟨w2.heap.size, 0, none⟩ = some (.int .i64 k) ∧ w9.cell? ⟨w2.heap.size, 1, none⟩ = some (.int .i64 a') ∧ w9.cell? ⟨w2.heap.size, 2, none⟩ = some (.int .i64 b) ∧ w9.cell? ⟨w2.heap.size, 3, none⟩ = some (.int .i64 c) ∧ w9.cell? ⟨w2.heap.size, 4, none⟩ = some (.slice au1 G.len cu1)) ∧ (w9.cell? ⟨w3.heap.size, 0, none⟩ = some (.int .i64 k) ∧ w9.cell? ⟨w3.heap.size, 1, none⟩ = some (.int .i64 a') ∧ w9.cell? ⟨w3.heap.size, 2, none⟩ = some (.int .i64 b) ∧ w9.cell? ⟨w3.heap.size, 3, none⟩ = some (.int .i64 c) ∧ w9.cell? ⟨w3.heap.size, 4, none⟩ = some (.slice au2 G.len cu2)) ∧ (w9.cell? ⟨w4.heap.size, 0, none⟩ = some (.int .i64 k) ∧ w9.cell? ⟨w4.heap.size, 1, none⟩ = some (.int .i64 a') ∧ w9.cell? ⟨w4.heap.size, 2, none⟩ = some (.int .i64 b) ∧ w9.cell? ⟨w4.heap.size, 3, none⟩ = some (.int .i64 c) ∧ w9.cell? ⟨w4.heap.size, 4, none⟩ = some (.slice au3 G.len cu3)) := ⟨Lib.hid hp, pc.out _ hp⟩)
            | (go_at_call 17; refine (HSf.out _ (pkf.out _ (And.left ‹Hid (P _) ∧ _›).out)).mono ?_; rintro e w9 ⟨rfl, b9⟩; have hp := ps.out _ _ (And.left ‹Hid (P _) ∧ _›).out b9; have hN : Hid (P w9) ∧ (w9.cell? ⟨w1.heap.size, 0, none⟩ = some (.int .i64 k) ∧ w9.cell? ⟨w1.heap.size, 1, none⟩ = some (.int .i64 a') ∧ w9.cell? ⟨w1.heap.size, 2, none⟩ = some (.int .i64 b) ∧ w9.cell? ⟨w1.heap.size, 3, none⟩ = some (.int .i64 c) ∧ w9.cell? ⟨w1.heap.size, 4, none⟩ = some (.slice au g.len cu)) ∧ (w9.cell? ⟨w2.heap.size, 0, none⟩ = some (.int .i64 k) ∧ w9.cell? ⟨w2.heap.size, 1, none⟩ = some (.int .i64 a') ∧ w9.cell? ⟨w2.heap.size, 2, none⟩ = some (.int .i64 b) ∧ w9.cell? ⟨w2.heap.size, 3, none⟩ = some (.int .i64 c) ∧ w9.cell? ⟨w2.heap.size, 4, none⟩ = some (.slice au1 G.len cu1)) ∧ (w9.cell? ⟨w3.heap.size, 0, none⟩ = some (.int .i64 k) ∧ w9.cell? ⟨w3.heap.size, 1, none⟩ = some (.int .i64 a') ∧ w9.cell? ⟨w3.heap.size, 2, none⟩ = some (.int .i64 b) ∧ w9.cell? ⟨w3.heap.size, 3, none⟩ = some (.int .i64 c) ∧ w9.cell? ⟨w3.heap.size, 4, none⟩ = some (.slice au2 G.len cu2)) ∧ (w9.cell? ⟨w4.heap.size, 0, none⟩ = some (.int .i64 k) ∧ w9.cell? ⟨w4.heap.size, 1, none⟩ = some (.int .i64 a') ∧ w9.cell? ⟨w4.heap.size, 2, none⟩ = some (.int .i64 b) ∧ w9.cell? ⟨w4.heap.size, 3, none⟩ = some (.int .i64 c) ∧ w9.cell? ⟨w4.heap.size, 4, none⟩ = some (.slice au3 G.len cu3)) := ⟨Lib.hid hp, pc.out _ hp⟩)
            | (go_at_call 17; refine (HSG.out _ _ (pk2.out _ (And.left ‹Hid (P _) ∧ _›).out)).mono ?_; rintro e w9 ⟨rfl, b9⟩; have hp := ps.out _ _ (And.left ‹Hid (P _) ∧ _›).out b9; have hN : Hid (P w9) ∧ (w9.cell? ⟨w1.heap.size, 0, none⟩ = some (.int .i64 k) ∧ w9.cell? ⟨w1.heap.size, 1, none⟩ = some (.int .i64 a') ∧ w9.cell? ⟨w1.heap.size, 2, none⟩ = some (.int .i64 b) ∧ w9.cell? ⟨w1.heap.size, 3, none⟩ = some (.int .i64 c) ∧ w9.cell? ⟨w1.heap.size, 4, none⟩ = some (.slice au g.len cu)) ∧ (w9.cell? ⟨w2.heap.size, 0, none⟩ = some (.int .i64 k) ∧ w9.cell? ⟨w2.heap.size, 1, none⟩ = some (.int .i64 a') ∧ w9.cell? ⟨w2.heap.size, 2, none⟩ = some (.int .i64 b) ∧ w9.cell? ⟨w2.heap.size, 3, none⟩ = some (.int .i64 c) ∧ w9.cell? ⟨w2.heap.size, 4, none⟩ = some (.slice au1 G.len cu1)) ∧ (w9.cell? ⟨w3.heap.size, 0, none⟩ = some (.int .i64 k) ∧ w9.cell? ⟨w3.heap.size, 1, none⟩ = some (.int .i64 a') ∧ w9.cell? ⟨w3.heap.size, 2, none⟩ = some (.int .i64 b) ∧ w9.cell? ⟨w3.heap.size, 3, none⟩ = some (.int .i64 c) ∧ w9.cell? ⟨w3.heap.size, 4, none⟩ = some (.slice au2 G.len cu2)) ∧ (w9.cell? ⟨w4.heap.size, 0, none⟩ = some (.int .i64 k) ∧ w9.cell? ⟨w4.heap.size, 1, none⟩ = some (.int .i64 a') ∧ w9.cell? ⟨w4.heap.size, 2, none⟩ = some (.int .i64 b) ∧ w9.cell? ⟨w4.heap.size, 3, none⟩ = some (.int .i64 c) ∧ w9.cell? ⟨w4.heap.size, 4, none⟩ = some (.slice au3 G.len cu3)) := ⟨Lib.hid hp, pc.out _ hp⟩)
            | (go_at_call 17; refine (HSG.out _ _ (pk3.out _ (And.left ‹Hid (P _) ∧ _›).out)).mono ?_; rintro e w9 ⟨rfl, b9⟩; have hp := ps.out _ _ (And.left ‹Hid (P _) ∧ _›).out b9; have hN : Hid (P w9) ∧ (w9.cell? ⟨w1.heap.size, 0, none⟩ = some (.int .i64 k) ∧ w9.cell? ⟨w1.heap.size, 1, none⟩ = some (.int .i64 a') ∧ w9.cell? ⟨w1.heap.size, 2, none⟩ = some (.int .i64 b) ∧ w9.cell? ⟨w1.heap.size, 3, none⟩ = some (.int .i64 c) ∧ w9.cell? ⟨w1.heap.size, 4, none⟩ = some (.slice au g.len cu)) ∧ (w9.cell? ⟨w2.heap.size, 0, none⟩ = some (.int .i64 k) ∧ w9.cell? ⟨w2.heap.size, 1, none⟩ = some (.int .i64 a') ∧ w9.cell? ⟨w2.heap.size, 2, none⟩ = some (.int .i64 b) ∧ w9.cell? ⟨w2.heap.size, 3, none⟩ = some (.int .i64 c) ∧ w9.cell? ⟨w2.heap.size, 4, none⟩ = some (.slice au1 G.len cu1)) ∧ (w9.cell? ⟨w3.heap.size, 0, none⟩ = some (.int .i64 k) ∧ w9.cell? ⟨w3.heap.size, 1, none⟩ = some (.int .i64 a') ∧ w9.cell? ⟨w3.heap.size, 2, none⟩ = some (.int .i64 b) ∧ w9.cell? ⟨w3.heap.size, 3, none⟩ = some (.int .i64 c) ∧ w9.cell? ⟨w3.heap.size, 4, none⟩ = some (.slice au2 G.len cu2)) ∧ (w9.cell? ⟨w4.heap.size, 0, none⟩ = some (.int .i64 k) ∧ w9.cell? ⟨w4.heap.size, 1, none⟩ = some (.int .i64 a') ∧ w9.cell? ⟨w4.heap.size, 2, none⟩ = some (.int .i64 b) ∧ w9.cell? ⟨w4.heap.size, 3, none⟩ = some (.int .i64 c) ∧ w9.cell? ⟨w4.heap.size, 4, none⟩ = some (.slice au3 G.len cu3)) := ⟨Lib.hid hp, pc.out _ hp⟩))
      all_goals
        go_wp2_with fail
        go_ret
        exact ⟨rfl, pb.out _ hp⟩
end Go.Proofs.Ytdloeiaaokhniaa
