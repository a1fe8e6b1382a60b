/- The law of the width of a layout. -/
import Derived.Test.YtdloeiaaokhniaaFmLaw1
import Derived.Test.YtdloeiaaokhniaaFmExact3
import Derived.Deep.RegionWith
namespace Go.Proofs.Ytdloeiaaokhniaa
open Go.RowKit
open FL
set_option maxHeartbeats 4000000
set_option maxRecDepth 100000
set_option linter.unusedVariables false

theorem drawLayoutFormula_any (a : Option Addr) (len cap : Nat) (zs : List Int) (w : World) (h : RowIn .u8 w a len cap zs) :
    Calls Try.prog 19 #[.slice a len cap] w (DrewL w) := by
  have hb0 : Below w.heap.size w (w.alloc (.cells #[.int .i64 0, .int .i64 0, .int .i64 0, .int .i64 0, .slice none 0 0] 32)) := (Below.refl _ _).alloc (Nat.le_refl _) _
  have F0 := Lib.hid (Five.new 32 w (.int .i64 0) (.int .i64 0) (.int .i64 0) (.int .i64 0) (.slice none 0 0))
  have HR : Hid (RowIn .u8 (w.alloc (.cells #[.int .i64 0, .int .i64 0, .int .i64 0, .int .i64 0, .slice none 0 0] 32)) a len cap zs) := Lib.hid (by
    rcases h with h | ⟨x, e, h1, h2, h3, hc, hw⟩
    · exact .inl h
    · refine .inr ⟨x, e, h1, h2, h3, fun i hi => ?_, hw⟩
      have hlt : (x.add i).block < w.heap.size := by
        exact cell_ltA (hc i hi)
      rw [hb0.cell hlt]
      exact hc i hi)
  have HB0 := Lib.hid hb0
  clear h hb0
  go_enter Try.func19, Try.ntmps19
  go_wp2_with fail
  generalize w.alloc (.cells #[.int .i64 0, .int .i64 0, .int .i64 0, .int .i64 0, .slice none 0 0] 32) = W at *
  refine (newReader_any a len cap zs W HR.out).mono ?_
  rintro e w1 ⟨rfl, hR, hb⟩
  have hlt : W.heap.size < w1.heap.size := hR.lies
  have hwW : w.heap.size < W.heap.size := F0.out.lt
  have F1 := Lib.hid (F0.out.below hb)
  have HB1 := Lib.hid (HB0.out.trans (hb.mono HB0.out.size))
  clear hb F0 HB0
  go_wp2_with fail
  refine (anyFormula_any W.heap.size 0 w1 (by omega) hR).mono ?_
  rintro e w2 ⟨k, a, b, c, u, g, rfl, ou, han, -, k2⟩
  obtain ⟨au, cu, rfl, _⟩ := ou.shape
  have F2 := F1.out.keeps k2 (by omega)
  obtain ⟨t0, t1, t2, t3, t4⟩ := F2.cells
  obtain ⟨y0, y1, y2, y3, y4⟩ := F2.free
  have HU := Lib.hid (F2.set5 (.int .i64 k) (.int .i64 a) (.int .i64 b) (.int .i64 c) (.slice au g.len cu)).cells
  have HB2 := Lib.hid (set5_below (HB1.out.trans (k2.below.mono (Nat.le_of_lt hwW))) w.heap.size (Nat.le_refl _) (.int .i64 k) (.int .i64 a) (.int .i64 b) (.int .i64 c) (.slice au g.len cu))
  have HO2 := Lib.hid ((ou.set5 (b := w.heap.size) (by omega) (.int .i64 k) (.int .i64 a) (.int .i64 b) (.int .i64 c) (.slice au g.len cu)).mono (lo' := w.heap.size) (by omega) (Nat.le_of_eq (set5_size ..).symm) (Nat.le_refl _))
  have HAn := Lib.hid han
  clear ou k2 F1 F2 HB1 hR han
  unfold fmV
  go_wp2_with fail
  unfold set5 at HU
  obtain ⟨g0, g1, g2, g3, g4⟩ := HU.out
  exact bodyPost_ret (v := .agg #[.int .i64 k, .int .i64 a, .int .i64 b, .int .i64 c, .slice au g.len cu]) (by simp [results, Try.results19, go_sem, g0, g1, g2, g3, g4]) rfl
    ⟨k, a, b, c, _, g, rfl, HO2.out, HAn.out, HB2.out⟩

theorem layS_in (k a b c : Int) (g : FL) : boxIn 4665600 (layS k a b c g) := by
  unfold layS
  split
  · rename_i h
    have := okFm_in h
    have e : bnd 6 = 4665600 := by simp [bnd]
    rw [e] at this; exact this
  · exact ⟨by simp, by simp, by simp⟩
theorem layS_kid {k a b c : Int} {g : FL} (h : okFm k a b c g 6 = true) {j : Nat} {k' x y z : Int} {f r : FL} (e : FL.drop j g = cons k' x y z f r) :
    (layS k' x y z f).1 ≤ (layS k a b c g).1 ∧ (layS k' x y z f).2.1 + (layS k' x y z f).2.2 ≤ (layS k a b c g).2.1 + (layS k a b c g).2.2 := by
  have hk := okFm_kid h e
  unfold layS
  rw [h, hk]
  simp only [if_true]
  have hb : BxOk (layL g) ∨ k = 1 := okFm_box h (Nat.le_refl _)
  have hj : j < g.len := by
    have := len_drop j g
    rw [e, FL.len] at this; omega
  have hm : layFm k' x y z f ∈ layL g := by
    rw [← layL_at j g e, List.getD_eq_getElem?_getD, List.getElem?_eq_getElem (by rw [layL_len]; exact hj)]
    exact List.getElem_mem _
  unfold okFm at h
  rw [Bool.and_eq_true] at h
  exact layN_kid (B := bnd (6 - 1)) (d := 6) (by rw [layL_len]; exact h.1) (allV_in g (6 - 1) h.2) _ hm

theorem layoutWidth_walk (a : Option Addr) (len cap : Nat) (zs : List Int) (w : World) (h : RowIn .u8 w a len cap zs) :
    Calls Try.prog 6 #[.slice a len cap] w fun e w' => e = .returned (.bool true) ∧ Below w.heap.size w w' := by
  have hm := h.len_le.1
  unfold maxLen at hm
  have HR := Lib.hid h; clear h
  by_cases hl : 1048576 < len
  · go_enter Try.func6, Try.ntmps6
    go_wp2
    go_ret
    exact ⟨rfl, Below.refl _ _⟩
  · go_enter Try.func6, Try.ntmps6
    go_wp2_with fail
    refine (drawLayoutFormula_any a len cap zs _ HR.out).mono ?_
    rintro e w1 ⟨k, a', b, c, u, g, rfl, ou, han, b1⟩
    obtain ⟨au, cu, rfl, _⟩ := ou.shape
    have ba : Below w1.heap.size w1 (w1.alloc (.cells #[.int .i64 k, .int .i64 a', .int .i64 b, .int .i64 c, .slice au g.len cu] 32)) := (Below.refl _ _).alloc (Nat.le_refl _) _
    have HB1 := Lib.hid (b1.trans (ba.mono b1.size))
    have F1 := Lib.hid (Five.new 32 w1 (.int .i64 k) (.int .i64 a') (.int .i64 b) (.int .i64 c) (.slice au g.len cu))
    have O1 := Lib.hid (ou.kids.below ba)
    have hln := han.len
    clear ou b1 ba han
    unfold fmV
    go_wp2_with fail
    generalize w1.alloc (.cells #[.int .i64 k, .int .i64 a', .int .i64 b, .int .i64 c, .slice au g.len cu] 32) = W1 at *
    refine (layoutFm_any g k a' b c _ W1 O1.out).mono ?_
    rintro e w2 ⟨rfl, b2⟩
    have hKd := Lib.hid (fun (h : okFm k a' b c g 6 = true) j k' x y z f r (e : FL.drop j g = cons k' x y z f r) => And.intro (layS_kid h e) (layS_in k' x y z f))
    have hIn := layS_in k a' b c g
    have HSl := Lib.hid (fun (w' : World) (h : Kids AllS w' (.slice au g.len cu) g) => slayoutFm_any g k a' b c _ w' h)
    have HVl := Lib.hid (fun (w' : World) (h : Kids AllS w' (.slice au g.len cu) g) => validFm_any g k a' b c _ w' h)
    obtain ⟨⟨p0, p1, p2⟩, hp⟩ : ∃ p, layS k a' b c g = p := ⟨_, rfl⟩
    rw [hp] at hKd hIn HSl ⊢
    obtain ⟨⟨q0, q0'⟩, ⟨q1, q1'⟩, ⟨q2, q2'⟩⟩ := hIn
    simp only at q0 q0' q1 q1' q2 q2'
    clear hp
    unfold layV bxV fmV at HSl
    unfold fmV at HVl
    simp only at HSl
    unfold layV bxV
    simp only
    have ba : Below w2.heap.size w2 (w2.alloc (.cells #[.int .i64 p0, .int .i64 p1, .int .i64 p2] 29)) := (Below.refl _ _).alloc (Nat.le_refl _) _
    have b2' := b2.trans (ba.mono b2.size)
    have HB2 := Lib.hid (HB1.out.trans (b2'.mono HB1.out.size))
    have F2 := Lib.hid (F1.out.below b2')
    have O2 := Lib.hid (O1.out.below b2')
    have X2 := Lib.hid (Three.new 29 w2 (.int .i64 p0) (.int .i64 p1) (.int .i64 p2))
    clear b2 b2' ba HB1 F1 O1
    go_wp2_with fail
    generalize w2.alloc (.cells #[.int .i64 p0, .int .i64 p1, .int .i64 p2] 29) = W2 at *
    obtain ⟨s0, s1, s2, s3, s4⟩ := F2.out.cells
    obtain ⟨x0, x1, x2⟩ := X2.out.cells
    have HBd : Hid (Below w.heap.size w W2.drew) := Lib.hid HB2.out.drew
    have Fd : Hid (Five 32 W2.drew w1.heap.size (.int .i64 k) (.int .i64 a') (.int .i64 b) (.int .i64 c) (.slice au g.len cu)) := Lib.hid (F2.out.same rfl)
    have Xd : Hid (Three 29 W2.drew w2.heap.size (.int .i64 p0) (.int .i64 p1) (.int .i64 p2)) := Lib.hid (X2.out.same rfl)
    have Od : Hid (Kids AllS W2.drew (.slice au g.len cu) g) := Lib.hid (O2.out.drewN 1)
    cases hq : okFm k a' b c g 6 with
    | false =>
      rw [hq] at HVl
      clear hq hKd
      go_region_with (first
        | (go_at_call 21; refine (HSl.out _ Od.out).mono ?_; rintro e w3 ⟨rfl, b3⟩; obtain ⟨u0, u1, u2, u3, u4⟩ := (Fd.out.below b3).cells; obtain ⟨v0, v1, v2⟩ := (Xd.out.below b3).cells)
        | (go_at_call 14; refine (HVl.out _ (Od.out.below b3)).mono ?_; rintro e w4 ⟨rfl, b4⟩))
      all_goals
        have b4' := b3.trans (b4.mono b3.size)
        have HB5 : Hid (Below w.heap.size w w4.drew) := Lib.hid ((HBd.out.trans (b4'.mono HBd.out.size)).drew)
        have F5 : Hid (Five 32 w4.drew w1.heap.size (.int .i64 k) (.int .i64 a') (.int .i64 b) (.int .i64 c) (.slice au g.len cu)) := Lib.hid ((Fd.out.below b4').same rfl)
        have X5 : Hid (Three 29 w4.drew w2.heap.size (.int .i64 p0) (.int .i64 p1) (.int .i64 p2)) := Lib.hid ((Xd.out.below b4').same rfl)
        have O5 : Hid (Kids AllS w4.drew (.slice au g.len cu) g) := Lib.hid ((Od.out.below b4').drewN 1)
        have C5 := Lib.hid (And.intro (Fd.out.below b4').cells (Xd.out.below b4').cells)
        clear b4' b4 b3 HBd Fd Xd Od HB2 F2 X2 O2 s0 s1 s2 s3 s4 x0 x1 x2 HVl
        obtain ⟨⟨s0, s1, s2, s3, s4⟩, x0, x1, x2⟩ := C5.out
        go_wp2_with fail
        go_region_with (go_at_call 21; refine (HSl.out _ O5.out).mono ?_; rintro e w7 ⟨rfl, b7⟩; obtain ⟨u0, u1, u2, u3, u4⟩ := (F5.out.below b7).cells; obtain ⟨v0, v1, v2⟩ := (X5.out.below b7).cells)
        all_goals
          go_wp2_with fail
          go_ret
          exact ⟨rfl, HB5.out.trans (b7.mono HB5.out.size)⟩
    | true =>
      rw [hq] at HVl
      have HK := Lib.hid (hKd.out hq)
      have HAt := Lib.hid (fun j (h : j < g.len) => FL.drop_at j g h)
      have HCe : Hid (0 < g.len → ∃ b' off, au = some ⟨b', off, none⟩ ∧ AllS b' ∧ b' < W2.heap.size ∧ ∀ i k x y z f r, FL.drop i g = cons k x y z f r → ∃ u, W2.cell? ⟨b', off + i * 5, none⟩ = some (.int .i64 k) ∧ W2.cell? ⟨b', off + i * 5 + 1, none⟩ = some (.int .i64 x) ∧ W2.cell? ⟨b', off + i * 5 + 2, none⟩ = some (.int .i64 y) ∧ W2.cell? ⟨b', off + i * 5 + 3, none⟩ = some (.int .i64 z) ∧ W2.cell? ⟨b', off + i * 5 + 4, none⟩ = some u ∧ Kids AllS W2 u f) := Lib.hid (by
        obtain ⟨a2, c2, e, _, _, h⟩ := O2.out.cells
        injection e with e1 e2 e3
        subst e1
        exact h)
      clear hq hKd
      go_region_with (first
        | (go_at_call 21; refine (HSl.out _ Od.out).mono ?_; rintro e w3 ⟨rfl, b3⟩; obtain ⟨u0, u1, u2, u3, u4⟩ := (Fd.out.below b3).cells; obtain ⟨v0, v1, v2⟩ := (Xd.out.below b3).cells)
        | (go_at_call 14; refine (HVl.out _ (Od.out.below b3)).mono ?_; rintro e w4 ⟨rfl, b4⟩))
      all_goals
        have b4' := b3.trans (b4.mono b3.size)
        have HB5 : Hid (Below W2.heap.size W2 w4) := Lib.hid ((Below.refl _ _ : Below W2.heap.size W2 W2).drew.trans b4')
        have F5 := Lib.hid (Fd.out.below b4')
        have X5 := Lib.hid (Xd.out.below b4')
        clear b4' b4 b3 HBd Fd Xd Od F2 X2 O2 s0 s1 s2 s3 s4 x0 x1 x2 HVl HSl
        go_wp2_with fail
        go_loopw [5, 6] (fun i _ wr => ∃ (j : Nat), j ≤ g.len ∧ i = .int .i64 j ∧ Hid (Below W2.heap.size W2 wr) ∧ Hid (Five 32 wr w1.heap.size (.int .i64 k) (.int .i64 a') (.int .i64 b) (.int .i64 c) (.slice au g.len cu)) ∧ Hid (Three 29 wr w2.heap.size (.int .i64 p0) (.int .i64 p1) (.int .i64 p2))) (fun i _ _ => g.len - (intOf i).toNat)
        case atStart => exact ⟨0, by omega, rfl, HB5, F5, X5⟩
        case round =>
          clear HB5 F5 X5
          obtain ⟨j, hj, rfl, HB, HF, HX⟩ := hrel
          obtain ⟨s0, s1, s2, s3, s4⟩ := HF.out.cells
          obtain ⟨x0, x1, x2⟩ := HX.out.cells
          by_cases hlt : j < g.len
          · obtain ⟨b', off, rfl, _, hb, hat⟩ := HCe.out (by omega)
            obtain ⟨k', y1, y2, y3, f, r, hd1, hd2⟩ := HAt.out j hlt
            obtain ⟨u, c0, c1, c2, c3, c4, hkk⟩ := hat j k' y1 y2 y3 f r hd1
            rw [← (bcell HB.out).1 _ _ hb] at c0 c1 c2 c3 c4
            have HS := Lib.hid (fun (w' : World) (hb' : Below W2.heap.size W2 w') => layoutFm_any f k' y1 y2 y3 u w' (hkk.below hb'))
            obtain ⟨⟨d1, d2⟩, hbx⟩ := HK.out j k' y1 y2 y3 f r hd1
            obtain ⟨ad', cap', rfl, _⟩ := hkk.cells
            obtain ⟨⟨r0, r1, r2⟩, hp⟩ : ∃ p, layS k' y1 y2 y3 f = p := ⟨_, rfl⟩
            rw [hp] at HS d1 d2 hbx
            obtain ⟨⟨_, z0⟩, ⟨z1, z1'⟩, ⟨z2, z2'⟩⟩ := hbx
            simp only at d1 d2 z0 z1 z1' z2 z2'
            have i1 : IntKind.i64.wrap (r1 + r2) = r1 + r2 := IntWalk.i64_in _ (by omega)
            have i2 : IntKind.i64.wrap (p1 + p2) = p1 + p2 := IntWalk.i64_in _ (by omega)
            have e1 : decide (p0 < r0) = false := decide_eq_false (by omega)
            have e2 : decide (p1 + p2 < r1 + r2) = false := decide_eq_false (by omega)
            clear hat hkk hd1 hd2 hp
            unfold layV bxV fmV at HS
            simp only at HS
            go_wp2_with fail
            refine (HS.out _ HB.out).mono ?_
            rintro e w5 ⟨rfl, b5⟩
            have hx5 : w2.heap.size < w5.heap.size := (HX.out.below b5).lt
            have ba : Below w5.heap.size w5 (w5.alloc (.cells #[.int .i64 r0, .int .i64 r1, .int .i64 r2] 29)) := (Below.refl _ _).alloc (Nat.le_refl _) _
            have b5' := b5.trans (ba.mono b5.size)
            have HB6 := Lib.hid (HB.out.trans (b5'.mono HB.out.size))
            have HF6 := Lib.hid (HF.out.below b5')
            have HX6 := Lib.hid (HX.out.below b5')
            obtain ⟨v0, v1, v2⟩ := (HX.out.below b5).cells
            clear b5 b5' ba HB HF HX HS c0 c1 c2 c3 c4 s0 s1 s2 s3 s4 x0 x1 x2
            go_wp2_with fail
            go_roundw
            case rel => exact ⟨j + 1, by omega, by first | rfl | go_num, HB6, HF6, HX6⟩
            case measure => simp [intOf]; omega
          · obtain rfl : j = g.len := by omega
            have e1 : decide (0 ≤ p1) = true := decide_eq_true q1
            have e2 : decide (0 ≤ p2) = true := decide_eq_true q2
            go_wp2_with fail
            go_ret
            exact ⟨rfl, HB2.out.trans (HB.out.mono HB2.out.size)⟩
end Go.Proofs.Ytdloeiaaokhniaa
