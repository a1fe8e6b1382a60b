/- The law of rows of formulas. -/
import Derived.Test.YtdloeiaaokhniaaFmBox
namespace Go.Proofs.Ytdloeiaaokhniaa
open Go.RowKit
open FL
set_option maxHeartbeats 4000000
set_option maxRecDepth 100000
set_option linter.unusedVariables false

theorem layoutRow_walk (a : Option Addr) (len cap : Nat) (zs : List Int) (w : World) (h : RowIn .u8 w a len cap zs) :
    Calls Try.prog 7 #[.slice a len cap] w fun e w' => e = .returned (.bool true) ∧ Below w.heap.size w w' := by
  have hm := h.len_le.1
  unfold maxLen at hm
  have HR := Lib.hid h; clear h
  by_cases hl : 1048576 < len
  · go_enter Try.func7, Try.ntmps7
    go_wp2
    go_ret
    exact ⟨rfl, Below.refl _ _⟩
  · go_enter Try.func7, Try.ntmps7
    go_wp2_with fail
    refine (drawLayoutFormula_any a len cap zs _ HR.out).mono ?_
    rintro e w1 ⟨k, a', b, c, u, g, rfl, ou, han, b1⟩
    obtain ⟨au, cu, rfl, _⟩ := ou.shape
    have ba : Below w1.heap.size w1 (w1.alloc (.cells #[.int .i64 k, .int .i64 a', .int .i64 b, .int .i64 c, .slice au g.len cu] 32)) := (Below.refl _ _).alloc (Nat.le_refl _) _
    have HB1 := Lib.hid (b1.trans (ba.mono b1.size))
    have F1 := Lib.hid (Five.new 32 w1 (.int .i64 k) (.int .i64 a') (.int .i64 b) (.int .i64 c) (.slice au g.len cu))
    have O1 := Lib.hid (ou.kids.below ba)
    have hln := han.len
    clear ou b1 ba
    unfold fmV
    go_wp2_with fail
    generalize w1.alloc (.cells #[.int .i64 k, .int .i64 a', .int .i64 b, .int .i64 c, .slice au g.len cu] 32) = W1 at *
    refine (layoutFm_any g k a' b c _ W1 O1.out).mono ?_
    rintro e w2 ⟨rfl, b2⟩
    have hAn := Lib.hid han
    have hPr := Lib.hid (fun (h : okFm 2 0 0 0 (cons k a' b c g (cons k a' b c g FL.nil)) 6 = true) => pair_facts h han)
    have hLs := Lib.hid (fun (h : okFm k a' b c g 6 = true) => (show layS k a' b c g = layFm k a' b c g by unfold layS; rw [h]; rfl))
    have hRw := Lib.hid (fun (h : okFm 2 0 0 0 (cons k a' b c g (cons k a' b c g FL.nil)) 6 = true) => (show layS 2 0 0 0 (cons k a' b c g (cons k a' b c g FL.nil)) = (bxW [layFm k a' b c g, layFm k a' b c g], bxH [layFm k a' b c g, layFm k a' b c g], bxD [layFm k a' b c g, layFm k a' b c g]) by unfold layS; rw [h]; rfl))
    have hIn := layS_in k a' b c g
    have HSl := Lib.hid (fun (w' : World) (h : Kids AllS w' (.slice au g.len cu) g) => slayoutFm_any g k a' b c _ w' h)
    have HVl := Lib.hid (fun (w' : World) (h : Kids AllS w' (.slice au g.len cu) g) => validFm_any g k a' b c _ w' h)
    obtain ⟨⟨p0, p1, p2⟩, hp⟩ : ∃ p, layS k a' b c g = p := ⟨_, rfl⟩
    rw [hp] at hLs hIn HSl ⊢
    obtain ⟨⟨q0, q0'⟩, ⟨q1, q1'⟩, ⟨q2, q2'⟩⟩ := hIn
    simp only at q0 q0' q1 q1' q2 q2'
    clear hp
    unfold layV bxV fmV at HSl
    unfold fmV at HVl
    simp only at HSl
    unfold layV bxV
    simp only
    have ba : Below w2.heap.size w2 (w2.alloc (.cells #[.int .i64 p0, .int .i64 p1, .int .i64 p2] 29)) := (Below.refl _ _).alloc (Nat.le_refl _) _
    have b2' := b2.trans (ba.mono b2.size)
    have HB2 := Lib.hid (HB1.out.trans (b2'.mono HB1.out.size))
    have F2 := Lib.hid (F1.out.below b2')
    have O2 := Lib.hid (O1.out.below b2')
    have X2 := Lib.hid (Three.new 29 w2 (.int .i64 p0) (.int .i64 p1) (.int .i64 p2))
    clear b2 b2' ba HB1 F1 O1
    go_wp2_with fail
    generalize w2.alloc (.cells #[.int .i64 p0, .int .i64 p1, .int .i64 p2] 29) = W2 at *
    obtain ⟨s0, s1, s2, s3, s4⟩ := F2.out.cells
    obtain ⟨x0, x1, x2⟩ := X2.out.cells
    have HBd : Hid (Below w.heap.size w W2.drew) := Lib.hid HB2.out.drew
    have Fd : Hid (Five 32 W2.drew w1.heap.size (.int .i64 k) (.int .i64 a') (.int .i64 b) (.int .i64 c) (.slice au g.len cu)) := Lib.hid (F2.out.same rfl)
    have Xd : Hid (Three 29 W2.drew w2.heap.size (.int .i64 p0) (.int .i64 p1) (.int .i64 p2)) := Lib.hid (X2.out.same rfl)
    have Od : Hid (Kids AllS W2.drew (.slice au g.len cu) g) := Lib.hid (O2.out.drewN 1)
    cases hq : okFm k a' b c g 6 with
    | false =>
      rw [hq] at HVl
      clear hq hPr hLs hRw hAn
      go_region_with (first
        | (go_at_call 21; refine (HSl.out _ Od.out).mono ?_; rintro e w3 ⟨rfl, b3⟩; obtain ⟨u0, u1, u2, u3, u4⟩ := (Fd.out.below b3).cells; obtain ⟨v0, v1, v2⟩ := (Xd.out.below b3).cells)
        | (go_at_call 14; refine (HVl.out _ (Od.out.below b3)).mono ?_; rintro e w4 ⟨rfl, b4⟩))
      all_goals
        have b4' := b3.trans (b4.mono b3.size)
        have HB5 : Hid (Below w.heap.size w w4.drew) := Lib.hid ((HBd.out.trans (b4'.mono HBd.out.size)).drew)
        have F5 : Hid (Five 32 w4.drew w1.heap.size (.int .i64 k) (.int .i64 a') (.int .i64 b) (.int .i64 c) (.slice au g.len cu)) := Lib.hid ((Fd.out.below b4').same rfl)
        have X5 : Hid (Three 29 w4.drew w2.heap.size (.int .i64 p0) (.int .i64 p1) (.int .i64 p2)) := Lib.hid ((Xd.out.below b4').same rfl)
        have O5 : Hid (Kids AllS w4.drew (.slice au g.len cu) g) := Lib.hid ((Od.out.below b4').drewN 1)
        have C5 := Lib.hid (And.intro (Fd.out.below b4').cells (Xd.out.below b4').cells)
        clear b4' b4 b3 HBd Fd Xd Od HB2 F2 X2 O2 s0 s1 s2 s3 s4 x0 x1 x2 HVl
        obtain ⟨⟨s0, s1, s2, s3, s4⟩, x0, x1, x2⟩ := C5.out
        go_wp2_with fail
        go_region_with (go_at_call 21; refine (HSl.out _ O5.out).mono ?_; rintro e w7 ⟨rfl, b7⟩; obtain ⟨u0, u1, u2, u3, u4⟩ := (F5.out.below b7).cells; obtain ⟨v0, v1, v2⟩ := (X5.out.below b7).cells)
        all_goals
          go_wp2_with fail
          go_ret
          exact ⟨rfl, HB5.out.trans (b7.mono HB5.out.size)⟩
    | true =>
      rw [hq] at HVl
      have hLq := hLs.out hq
      rw [← hLq] at hPr hRw
      clear hq hLs hLq hAn han
      go_region_with (first
        | (go_at_call 21; refine (HSl.out _ Od.out).mono ?_; rintro e w3 ⟨rfl, b3⟩; obtain ⟨u0, u1, u2, u3, u4⟩ := (Fd.out.below b3).cells; obtain ⟨v0, v1, v2⟩ := (Xd.out.below b3).cells)
        | (go_at_call 14; refine (HVl.out _ (Od.out.below b3)).mono ?_; rintro e w4 ⟨rfl, b4⟩))
      all_goals
        have b4' := b3.trans (b4.mono b3.size)
        have HB5 : Hid (Below w.heap.size w w4) := Lib.hid (HBd.out.trans (b4'.mono HBd.out.size))
        have F5 := Lib.hid (Fd.out.below b4')
        have X5 := Lib.hid (Xd.out.below b4')
        have O5 := Lib.hid (Od.out.below b4')
        have hl5 : w1.heap.size < w4.heap.size := F5.out.lt
        have hm5 : w2.heap.size < w4.heap.size := X5.out.lt
        clear b4' b4 b3 HBd Fd Xd Od HB2 F2 X2 O2 s0 s1 s2 s3 s4 x0 x1 x2 HVl HSl
        obtain ⟨s0, s1, s2, s3, s4⟩ := F5.out.cells
        obtain ⟨x0, x1, x2⟩ := X5.out.cells
        have rw5 : w4.heap.size < w4.heap.size + 1 := by omega
        have bp : Below w4.heap.size w4 ((w4.alloc (.cells #[.int .i64 k, .int .i64 a', .int .i64 b, .int .i64 c, .slice au g.len cu, .int .i64 k, .int .i64 a', .int .i64 b, .int .i64 c, .slice au g.len cu] 32)).alloc (.cells #[.int .i64 2, .int .i64 0, .int .i64 0, .int .i64 0, .slice (some ⟨w4.heap.size, 0, none⟩) 2 2] 32)) := ((Below.refl _ _).alloc (Nat.le_refl _) _).alloc (by simp) _
        have h0 : (w4.alloc (.cells #[.int .i64 k, .int .i64 a', .int .i64 b, .int .i64 c, .slice au g.len cu, .int .i64 k, .int .i64 a', .int .i64 b, .int .i64 c, .slice au g.len cu] 32)).ownsRow w4.heap.size 32 5 (.slice (some ⟨w4.heap.size, 0, none⟩) 2 2) 2 [.int .i64 k, .int .i64 a', .int .i64 b, .int .i64 c, .slice au g.len cu, .int .i64 k, .int .i64 a', .int .i64 b, .int .i64 c, .slice au g.len cu] := World.ownsRow_lit w4 #[.int .i64 k, .int .i64 a', .int .i64 b, .int .i64 c, .slice au g.len cu, .int .i64 k, .int .i64 a', .int .i64 b, .int .i64 c, .slice au g.len cu] 2 (Nat.le_refl _) (by decide) rfl
        have h1 := ((ownC_of h0).below ((Below.refl _ _).alloc (Nat.le_refl _) (.cells #[.int .i64 2, .int .i64 0, .int .i64 0, .int .i64 0, .slice (some ⟨w4.heap.size, 0, none⟩) 2 2] 32))).row
        have KP := Lib.hid ((O5.out.below bp).pair (h1.lt _ rfl).2 (fun j hj => h1.cellAt j (by omega)))
        have R5 := Lib.hid (Five.new 32 (w4.alloc (.cells #[.int .i64 k, .int .i64 a', .int .i64 b, .int .i64 c, .slice au g.len cu, .int .i64 k, .int .i64 a', .int .i64 b, .int .i64 c, .slice au g.len cu] 32)) (.int .i64 2) (.int .i64 0) (.int .i64 0) (.int .i64 0) (.slice (some ⟨w4.heap.size, 0, none⟩) 2 2))
        simp only [alloc_sz] at R5
        have HB6 := Lib.hid (HB5.out.trans (bp.mono HB5.out.size))
        have X6 := Lib.hid (X5.out.below bp)
        clear bp h0 h1 HB5 F5 X5 O5 rw5
        go_wp2_with fail
        generalize (w4.alloc (.cells #[.int .i64 k, .int .i64 a', .int .i64 b, .int .i64 c, .slice au g.len cu, .int .i64 k, .int .i64 a', .int .i64 b, .int .i64 c, .slice au g.len cu] 32)).alloc (.cells #[.int .i64 2, .int .i64 0, .int .i64 0, .int .i64 0, .slice (some ⟨w4.heap.size, 0, none⟩) 2 2] 32) = W6 at *
        refine (validFm_any _ 2 0 0 0 _ W6 KP.out).mono ?_
        rintro e w7 ⟨he, b7⟩
        have HB7 := Lib.hid (HB6.out.trans (b7.mono HB6.out.size))
        have X7 := Lib.hid (X6.out.below b7)
        have R7 := Lib.hid (R5.out.below b7)
        have K7 := Lib.hid (KP.out.below b7)
        clear b7 HB6 X6 R5 KP s0 s1 s2 s3 s4 x0 x1 x2
        cases hr : okFm 2 0 0 0 (cons k a' b c g (cons k a' b c g FL.nil)) 6 with
        | false =>
          rw [hr] at he
          subst he
          clear hr hPr hRw
          go_wp2_with fail
          go_ret
          exact ⟨rfl, HB7.out⟩
        | true =>
          obtain ⟨-, hb672⟩ := hPr.out hr
          have hrw := hRw.out hr
          rw [hr] at he
          subst he
          obtain ⟨⟨a0, a1⟩, ⟨a2, a3⟩, ⟨a4, a5⟩⟩ := hb672
          simp only at a0 a1 a2 a3 a4 a5
          have HLr := Lib.hid (fun (w' : World) (h : Kids AllS w' (.slice (some ⟨w4.heap.size, 0, none⟩) 2 2) (cons k a' b c g (cons k a' b c g FL.nil))) => layoutFm_any _ 2 0 0 0 _ w' h)
          rw [hrw] at HLr
          clear hr hPr hRw hrw
          obtain ⟨x0, x1, x2⟩ := X7.out.cells
          have bq : Below w7.heap.size w7 (w7.alloc (.cells #[.int .i64 p0, .int .i64 p1, .int .i64 p2, .int .i64 p0, .int .i64 p1, .int .i64 p2] 29)) := (Below.refl _ _).alloc (Nat.le_refl _) _
          have SB : Hid (SlB (w7.alloc (.cells #[.int .i64 p0, .int .i64 p1, .int .i64 p2, .int .i64 p0, .int .i64 p1, .int .i64 p2] 29)) (.slice (some ⟨w7.heap.size, 0, none⟩) 2 2) [(p0, p1, p2), (p0, p1, p2)]) := Lib.hid (by
            have h0 : (w7.alloc (.cells #[.int .i64 p0, .int .i64 p1, .int .i64 p2, .int .i64 p0, .int .i64 p1, .int .i64 p2] 29)).ownsRow w7.heap.size 29 3 (.slice (some ⟨w7.heap.size, 0, none⟩) 2 2) 2 [.int .i64 p0, .int .i64 p1, .int .i64 p2, .int .i64 p0, .int .i64 p1, .int .i64 p2] := World.ownsRow_lit w7 #[.int .i64 p0, .int .i64 p1, .int .i64 p2, .int .i64 p0, .int .i64 p1, .int .i64 p2] 2 (Nat.le_refl _) (by decide) rfl
            exact OwnC.sl (ownC_of h0))
          have HRB := Lib.hid (fun (w' : World) (h : SlB w' (.slice (some ⟨w7.heap.size, 0, none⟩) 2 2) [(p0, p1, p2), (p0, p1, p2)]) => rowBox_ok _ [(p0, p1, p2), (p0, p1, p2)] w' h ⟨by simp, fun q hq => by simp at hq; subst hq; exact ⟨by simp only; omega, by simp only; omega, by simp only; omega⟩⟩ (fun k hk => by
            match k, hk with
            | 0, _ => exact ⟨by show 0 ≤ p0 ∧ p0 ≤ 10000; omega, by show 0 ≤ p1 ∧ p1 ≤ 10000; omega, by show 0 ≤ p2 ∧ p2 ≤ 10000; omega⟩
            | 1, _ => exact ⟨by show 0 ≤ p0 ∧ p0 ≤ 10000; omega, by show 0 ≤ p1 ∧ p1 ≤ 10000; omega, by show 0 ≤ p2 ∧ p2 ≤ 10000; omega⟩) (by simp only [bxW]; omega) (by simp only [bxH]; omega) (by simp only [bxD]; omega))
          generalize bxW [(p0, p1, p2), (p0, p1, p2)] = z0 at *
          generalize bxH [(p0, p1, p2), (p0, p1, p2)] = z1 at *
          generalize bxD [(p0, p1, p2), (p0, p1, p2)] = z2 at *
          unfold bxV at HRB
          unfold layV bxV fmV at HLr
          simp only at HLr
          have HB8 := Lib.hid (HB7.out.trans (bq.mono HB7.out.size))
          have R8 := Lib.hid (R7.out.below bq)
          have K8 := Lib.hid (K7.out.below bq)
          clear bq HB7 X7 R7 K7 a0 a1 a2 a3 a4 a5
          go_wp2_with fail
          generalize w7.alloc (.cells #[.int .i64 p0, .int .i64 p1, .int .i64 p2, .int .i64 p0, .int .i64 p1, .int .i64 p2] 29) = W8 at *
          refine (HRB.out W8 SB.out).mono ?_
          rintro e w9 ⟨rfl, b9⟩
          have br : Below w9.heap.size w9 (w9.alloc (.cells #[.int .i64 z0, .int .i64 z1, .int .i64 z2] 29)) := (Below.refl _ _).alloc (Nat.le_refl _) _
          have b9' := b9.trans (br.mono b9.size)
          have HB9 : Hid (Below w.heap.size w (w9.alloc (.cells #[.int .i64 z0, .int .i64 z1, .int .i64 z2] 29)).drew) := Lib.hid ((HB8.out.trans (b9'.mono HB8.out.size)).drew)
          have R9 := Lib.hid (R8.out.below b9')
          have K9 : Hid (Kids AllS (w9.alloc (.cells #[.int .i64 z0, .int .i64 z1, .int .i64 z2] 29)).drew (.slice (some ⟨w4.heap.size, 0, none⟩) 2 2) (cons k a' b c g (cons k a' b c g FL.nil))) := Lib.hid ((K8.out.below b9').drewN 1)
          have Z9 := Lib.hid (Three.new 29 w9 (.int .i64 z0) (.int .i64 z1) (.int .i64 z2))
          have Zd : Hid (Three 29 (w9.alloc (.cells #[.int .i64 z0, .int .i64 z1, .int .i64 z2] 29)).drew w9.heap.size (.int .i64 z0) (.int .i64 z1) (.int .i64 z2)) := Lib.hid (Z9.out.same rfl)
          have Rd : Hid (Five 32 (w9.alloc (.cells #[.int .i64 z0, .int .i64 z1, .int .i64 z2] 29)).drew (w4.heap.size + 1) (.int .i64 2) (.int .i64 0) (.int .i64 0) (.int .i64 0) (.slice (some ⟨w4.heap.size, 0, none⟩) 2 2)) := Lib.hid (R9.out.same rfl)
          clear b9 br b9' HB8 R8 K8 SB HRB x0 x1 x2
          go_wp2_with fail
          generalize w9.alloc (.cells #[.int .i64 z0, .int .i64 z1, .int .i64 z2] 29) = W9 at *
          obtain ⟨s0, s1, s2, s3, s4⟩ := R9.out.cells
          obtain ⟨x0, x1, x2⟩ := Z9.out.cells
          go_region_with (go_at_call 20; refine (HLr.out _ K9.out).mono ?_; rintro e wa ⟨rfl, ba⟩; obtain ⟨u0, u1, u2, u3, u4⟩ := (Rd.out.below ba).cells; obtain ⟨v0, v1, v2⟩ := (Zd.out.below ba).cells)
          all_goals
            go_wp2_with fail
            go_ret
            exact ⟨rfl, HB9.out.trans (ba.mono HB9.out.size)⟩
end Go.Proofs.Ytdloeiaaokhniaa
