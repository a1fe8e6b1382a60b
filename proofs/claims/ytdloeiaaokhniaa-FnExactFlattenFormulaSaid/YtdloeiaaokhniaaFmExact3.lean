/- LayoutFormula of both; the program's is the reference's. -/
import Derived.Test.YtdloeiaaokhniaaFmLayS
import Derived.Test.YtdloeiaaokhniaaFmExact
import Derived.Deep.RegionWith
namespace Go.Proofs.Ytdloeiaaokhniaa
open Go.RowKit
open FL
set_option maxHeartbeats 2000000
set_option maxRecDepth 100000
set_option linter.unusedVariables false

def layS (k a b c : Int) (g : FL) : Int × Int × Int := if okFm k a b c g 6 then layFm k a b c g else (0, 0, 0)
theorem layoutFm_any (g : FL) (k a b c : Int) (v : Value) (w : World) (h : Kids AllS w v g) :
    Calls Try.prog 20 #[fmV k a b c v] w fun e w' => e = .returned (layV (layS k a b c g)) ∧ Below w.heap.size w w' := by
  obtain ⟨ad, cap, rfl, -⟩ := h.cells
  have HA : Hid (Below w.heap.size w ((w.alloc (.cells #[.int .i64 k, .int .i64 a, .int .i64 b, .int .i64 c, .slice ad g.len cap] 32)).alloc (.cells #[.int .i64 0, .int .i64 0, .int .i64 0] 29))) := Lib.hid (((Below.refl _ _).alloc (Nat.le_refl _) _).alloc (by simp) _)
  have F0 := Lib.hid ((Five.new 32 w (.int .i64 k) (.int .i64 a) (.int .i64 b) (.int .i64 c) (.slice ad g.len cap)).alloc (.cells #[.int .i64 0, .int .i64 0, .int .i64 0] 29))
  have T0 := Lib.hid (Three.new 29 (w.alloc (.cells #[.int .i64 k, .int .i64 a, .int .i64 b, .int .i64 c, .slice ad g.len cap] 32)) (.int .i64 0) (.int .i64 0) (.int .i64 0))
  simp only [alloc_sz] at T0
  have HK := Lib.hid (h.below HA.out)
  clear h
  unfold fmV
  go_enter Try.func20, Try.ntmps20
  go_wp2_with fail
  generalize (w.alloc (.cells #[.int .i64 k, .int .i64 a, .int .i64 b, .int .i64 c, .slice ad g.len cap] 32)).alloc (.cells #[.int .i64 0, .int .i64 0, .int .i64 0] 29) = W at *
  refine (validFm_any g k a b c _ _ HK.out).mono ?_
  rintro e w1 ⟨he, b1⟩
  have HB := Lib.hid (HA.out.trans (b1.mono HA.out.size))
  have F1 := Lib.hid (F0.out.below b1)
  have T1 := Lib.hid (T0.out.below b1)
  have HK1 := Lib.hid (HK.out.below b1)
  obtain ⟨s0, s1, s2, s3, s4⟩ := F1.out.cells
  obtain ⟨t0, t1, t2⟩ := T1.out.cells
  obtain ⟨y0, y1, y2⟩ := T1.out.free
  clear b1 HA F0 HK T0
  cases hq : okFm k a b c g 6 with
  | false =>
    have HE : Hid (layS k a b c g = (0, 0, 0)) := Lib.hid (by unfold layS; rw [hq]; rfl)
    rw [hq] at he
    subst he
    clear hq
    have HU := Lib.hid (((T1.out.set0 (.int .i64 0)).set1 (.int .i64 0)).set2 (.int .i64 0)).cells
    have HB6 := Lib.hid (((HB.out.setCell (p := ⟨w.heap.size + 1, 0, none⟩) (by simp only; omega) (.int .i64 0)).setCell (p := ⟨w.heap.size + 1, 1, none⟩) (by simp only; omega) (.int .i64 0)).setCell (p := ⟨w.heap.size + 1, 2, none⟩) (by simp only; omega) (.int .i64 0))
    go_wp2_with fail
    obtain ⟨g0, g1, g2⟩ := HU.out
    exact bodyPost_ret (v := bxV 0 0 0) (by simp [results, Try.results20, go_sem, bxV, g0, g1, g2]) rfl ⟨by rw [HE.out]; rfl, HB6.out⟩
  | true =>
    have HE : Hid (layS k a b c g = layFm k a b c g) := Lib.hid (by unfold layS; rw [hq]; rfl)
    have HS := Lib.hid (lyOk_all _ g (Nat.lt_succ_self _) k a b c _ _ 6 HK1.out hq (Nat.le_refl _))
    rw [hq] at he
    subst he
    clear hq
    unfold fmV at HS
    go_wp2_with fail
    refine HS.out.mono ?_
    rintro e w2 ⟨rfl, b2⟩
    have HB2 := Lib.hid (HB.out.trans (b2.mono HB.out.size))
    have T2 := Lib.hid (T1.out.below b2)
    clear b2 HB T1 F1 s0 s1 s2 s3 s4 t0 t1 t2 y0 y1 y2 HS HK1
    obtain ⟨⟨p0, p1, p2⟩, hp⟩ : ∃ p, layFm k a b c g = p := ⟨_, rfl⟩
    rw [hp] at HE ⊢
    obtain ⟨t0, t1, t2⟩ := T2.out.cells
    obtain ⟨y0, y1, y2⟩ := T2.out.free
    have HU := Lib.hid (((T2.out.set0 (.int .i64 p0)).set1 (.int .i64 p1)).set2 (.int .i64 p2)).cells
    have HB6 := Lib.hid (((HB2.out.setCell (p := ⟨w.heap.size + 1, 0, none⟩) (by simp only; omega) (.int .i64 p0)).setCell (p := ⟨w.heap.size + 1, 1, none⟩) (by simp only; omega) (.int .i64 p1)).setCell (p := ⟨w.heap.size + 1, 2, none⟩) (by simp only; omega) (.int .i64 p2))
    clear hp
    unfold layV bxV
    simp only
    go_wp2_with fail
    obtain ⟨g0, g1, g2⟩ := HU.out
    exact bodyPost_ret (v := bxV p0 p1 p2) (by simp [results, Try.results20, go_sem, bxV, g0, g1, g2]) rfl ⟨by rw [HE.out]; rfl, HB6.out⟩
theorem slayoutFm_any (g : FL) (k a b c : Int) (v : Value) (w : World) (h : Kids AllS w v g) :
    Calls Try.prog 21 #[fmV k a b c v] w fun e w' => e = .returned (layV (layS k a b c g)) ∧ Below w.heap.size w w' := by
  obtain ⟨ad, cap, rfl, -⟩ := h.cells
  have HA : Hid (Below w.heap.size w ((w.alloc (.cells #[.int .i64 k, .int .i64 a, .int .i64 b, .int .i64 c, .slice ad g.len cap] 32)).alloc (.cells #[.int .i64 0, .int .i64 0, .int .i64 0] 29))) := Lib.hid (((Below.refl _ _).alloc (Nat.le_refl _) _).alloc (by simp) _)
  have F0 := Lib.hid ((Five.new 32 w (.int .i64 k) (.int .i64 a) (.int .i64 b) (.int .i64 c) (.slice ad g.len cap)).alloc (.cells #[.int .i64 0, .int .i64 0, .int .i64 0] 29))
  have T0 := Lib.hid (Three.new 29 (w.alloc (.cells #[.int .i64 k, .int .i64 a, .int .i64 b, .int .i64 c, .slice ad g.len cap] 32)) (.int .i64 0) (.int .i64 0) (.int .i64 0))
  simp only [alloc_sz] at T0
  have HK := Lib.hid (h.below HA.out)
  clear h
  unfold fmV
  go_enter Try.func21, Try.ntmps21
  go_wp2_with fail
  generalize (w.alloc (.cells #[.int .i64 k, .int .i64 a, .int .i64 b, .int .i64 c, .slice ad g.len cap] 32)).alloc (.cells #[.int .i64 0, .int .i64 0, .int .i64 0] 29) = W at *
  refine (svalidFm_any g k a b c _ _ HK.out).mono ?_
  rintro e w1 ⟨he, b1⟩
  have HB := Lib.hid (HA.out.trans (b1.mono HA.out.size))
  have F1 := Lib.hid (F0.out.below b1)
  have T1 := Lib.hid (T0.out.below b1)
  have HK1 := Lib.hid (HK.out.below b1)
  obtain ⟨s0, s1, s2, s3, s4⟩ := F1.out.cells
  obtain ⟨t0, t1, t2⟩ := T1.out.cells
  obtain ⟨y0, y1, y2⟩ := T1.out.free
  clear b1 HA F0 HK T0
  cases hq : okFm k a b c g 6 with
  | false =>
    have HE : Hid (layS k a b c g = (0, 0, 0)) := Lib.hid (by unfold layS; rw [hq]; rfl)
    rw [hq] at he
    subst he
    clear hq
    have HU := Lib.hid (((T1.out.set0 (.int .i64 0)).set1 (.int .i64 0)).set2 (.int .i64 0)).cells
    have HB6 := Lib.hid (((HB.out.setCell (p := ⟨w.heap.size + 1, 0, none⟩) (by simp only; omega) (.int .i64 0)).setCell (p := ⟨w.heap.size + 1, 1, none⟩) (by simp only; omega) (.int .i64 0)).setCell (p := ⟨w.heap.size + 1, 2, none⟩) (by simp only; omega) (.int .i64 0))
    go_wp2_with fail
    obtain ⟨g0, g1, g2⟩ := HU.out
    exact bodyPost_ret (v := bxV 0 0 0) (by simp [results, Try.results21, go_sem, bxV, g0, g1, g2]) rfl ⟨by rw [HE.out]; rfl, HB6.out⟩
  | true =>
    have HE : Hid (layS k a b c g = layFm k a b c g) := Lib.hid (by unfold layS; rw [hq]; rfl)
    have HS := Lib.hid (lsOk_all _ g (Nat.lt_succ_self _) k a b c _ _ 6 HK1.out hq (Nat.le_refl _))
    rw [hq] at he
    subst he
    clear hq
    unfold fmV at HS
    go_wp2_with fail
    refine HS.out.mono ?_
    rintro e w2 ⟨rfl, b2⟩
    have HB2 := Lib.hid (HB.out.trans (b2.mono HB.out.size))
    have T2 := Lib.hid (T1.out.below b2)
    clear b2 HB T1 F1 s0 s1 s2 s3 s4 t0 t1 t2 y0 y1 y2 HS HK1
    obtain ⟨⟨p0, p1, p2⟩, hp⟩ : ∃ p, layFm k a b c g = p := ⟨_, rfl⟩
    rw [hp] at HE ⊢
    obtain ⟨t0, t1, t2⟩ := T2.out.cells
    obtain ⟨y0, y1, y2⟩ := T2.out.free
    have HU := Lib.hid (((T2.out.set0 (.int .i64 p0)).set1 (.int .i64 p1)).set2 (.int .i64 p2)).cells
    have HB6 := Lib.hid (((HB2.out.setCell (p := ⟨w.heap.size + 1, 0, none⟩) (by simp only; omega) (.int .i64 p0)).setCell (p := ⟨w.heap.size + 1, 1, none⟩) (by simp only; omega) (.int .i64 p1)).setCell (p := ⟨w.heap.size + 1, 2, none⟩) (by simp only; omega) (.int .i64 p2))
    clear hp
    unfold layV bxV
    simp only
    go_wp2_with fail
    obtain ⟨g0, g1, g2⟩ := HU.out
    exact bodyPost_ret (v := bxV p0 p1 p2) (by simp [results, Try.results21, go_sem, bxV, g0, g1, g2]) rfl ⟨by rw [HE.out]; rfl, HB6.out⟩
theorem exactLayout_walk (k a b c : Int) (v : Value) (g : FL) (w : World) (h : Kids AllS w v g) :
    Calls Try.prog 9 #[fmV k a b c v] w fun e w' => e = .returned (.bool true) ∧ Below w.heap.size w w' := by
  obtain ⟨ad, cap, rfl, -⟩ := h.cells
  have HA : Hid (Below w.heap.size w (w.alloc (.cells #[.int .i64 k, .int .i64 a, .int .i64 b, .int .i64 c, .slice ad g.len cap] 26))) := Lib.hid ((Below.refl _ _).alloc (Nat.le_refl _) _)
  have F0 := Lib.hid (Five.new 26 w (.int .i64 k) (.int .i64 a) (.int .i64 b) (.int .i64 c) (.slice ad g.len cap))
  have HK := Lib.hid h
  clear h
  unfold fmV
  go_enter Try.func9, Try.ntmps9
  go_wp2_with fail
  generalize w.alloc (.cells #[.int .i64 k, .int .i64 a, .int .i64 b, .int .i64 c, .slice ad g.len cap] 26) = W at *
  refine (szFm_any k a b c 1048576 (.slice ad g.len cap) W (HK.out.below HA.out) (by omega) (by omega)).mono ?_
  rintro e w2 ⟨he, b2⟩
  obtain ⟨z, hz⟩ : ∃ z, szZ 1048576 g = z := ⟨_, rfl⟩
  have HZ := Lib.hid hz
  rw [hz] at he
  subst he
  have B2 := Lib.hid (HA.out.trans (b2.mono HA.out.size))
  have F2 := Lib.hid (F0.out.below b2)
  clear hz b2 HA F0
  obtain ⟨s0, s1, s2, s3, s4⟩ := F2.out.cells
  by_cases hneg : z < 0
  · have hd : decide (z < 0) = true := decide_eq_true hneg
    go_wp2_with fail
    go_ret
    exact ⟨rfl, B2.out⟩
  · have hd : decide (z < 0) = false := decide_eq_false hneg
    have hsz : g.sz ≤ 1048576 := szZ_ok (by rw [HZ.out]; exact hneg)
    clear hneg
    go_wp2_with fail
    refine (toFm_any k a b c (.slice ad g.len cap) _ (HK.out.below B2.out) hsz).mono ?_
    rintro e w3 ⟨u1, rfl, o1, b3⟩
    have B3 := Lib.hid (B2.out.trans (b3.mono B2.out.size))
    have F3 := Lib.hid (F2.out.below b3)
    obtain ⟨a1, c1, rfl, _⟩ := o1.shape
    have O1 := Lib.hid o1
    clear b3 B2 F2 o1 s0 s1 s2 s3 s4
    unfold fmV
    go_wp2_with fail
    refine (slayoutFm_any g k a b c _ _ O1.out.kids).mono ?_
    rintro e w4 ⟨rfl, b4⟩
    obtain ⟨⟨p0, p1, p2⟩, hp⟩ : ∃ p, layS k a b c g = p := ⟨_, rfl⟩
    have HP := Lib.hid hp
    rw [hp]
    clear hp
    unfold layV bxV
    simp only
    have ba : Below w4.heap.size w4 (w4.alloc (.cells #[.int .i64 p0, .int .i64 p1, .int .i64 p2] 29)) := (Below.refl _ _).alloc (Nat.le_refl _) _
    have b4' := b4.trans (ba.mono b4.size)
    have B4 := Lib.hid (B3.out.trans (b4'.mono B3.out.size))
    have F4 := Lib.hid (F3.out.below b4')
    have X4 := Lib.hid (Three.new 29 w4 (.int .i64 p0) (.int .i64 p1) (.int .i64 p2))
    clear b4 b4' ba B3 F3 O1
    obtain ⟨s0, s1, s2, s3, s4⟩ := F4.out.cells
    go_wp2_with fail
    generalize w4.alloc (.cells #[.int .i64 p0, .int .i64 p1, .int .i64 p2] 29) = W4 at *
    refine (toFm_any k a b c (.slice ad g.len cap) W4 (HK.out.below B4.out) hsz).mono ?_
    rintro e w5 ⟨u2, rfl, o2, b5⟩
    have B5 := Lib.hid (B4.out.trans (b5.mono B4.out.size))
    obtain ⟨a2, c2, rfl, _⟩ := o2.shape
    have F5 := Lib.hid ((F4.out.below b5).alloc (.cells #[.int .i64 k, .int .i64 a, .int .i64 b, .int .i64 c, .slice a2 g.len c2] 32))
    have X5 := Lib.hid (Five.new 32 w5 (.int .i64 k) (.int .i64 a) (.int .i64 b) (.int .i64 c) (.slice a2 g.len c2))
    have Y5 := Lib.hid ((X4.out.below b5).alloc (.cells #[.int .i64 k, .int .i64 a, .int .i64 b, .int .i64 c, .slice a2 g.len c2] 32))
    have b6 : Below w5.heap.size w5 (w5.alloc (.cells #[.int .i64 k, .int .i64 a, .int .i64 b, .int .i64 c, .slice a2 g.len c2] 32)) := (Below.refl _ _).alloc (Nat.le_refl _) _
    have B6 := Lib.hid (B5.out.trans (b6.mono B5.out.size))
    have O2 := Lib.hid (o2.below b6)
    clear b5 b6 B4 B5 F4 X4 o2 s0 s1 s2 s3 s4
    unfold fmV
    go_wp2_with fail
    generalize w5.alloc (.cells #[.int .i64 k, .int .i64 a, .int .i64 b, .int .i64 c, .slice a2 g.len c2] 32) = W6 at *
    refine (layoutFm_any g k a b c _ _ O2.out.kids).mono ?_
    rintro e w7 ⟨rfl, b7⟩
    rw [HP.out]
    unfold layV bxV
    simp only
    have ba : Below w7.heap.size w7 (w7.alloc (.cells #[.int .i64 p0, .int .i64 p1, .int .i64 p2] 29)) := (Below.refl _ _).alloc (Nat.le_refl _) _
    have b7' := b7.trans (ba.mono b7.size)
    have B7 := Lib.hid (B6.out.trans (b7'.mono B6.out.size))
    have F7 := Lib.hid (F5.out.below b7')
    have X7 := Lib.hid (X5.out.below b7')
    have Y7 := Lib.hid (Y5.out.below b7')
    have Z7 := Lib.hid (Three.new 29 w7 (.int .i64 p0) (.int .i64 p1) (.int .i64 p2))
    have O7 := Lib.hid (O2.out.below b7')
    clear b7 b7' ba B6 F5 X5 O2 Y5
    obtain ⟨r0, r1, r2⟩ := Y7.out.cells
    go_wp2_with fail
    generalize w7.alloc (.cells #[.int .i64 p0, .int .i64 p1, .int .i64 p2] 29) = W7 at *
    refine (eqBox_same p0 p1 p2 W7).mono ?_
    rintro e w8 ⟨rfl, b8⟩
    have B9 := Lib.hid (B7.out.trans (b8.mono B7.out.size))
    have F8 := Lib.hid (F7.out.below b8)
    have X9 := Lib.hid (X7.out.below b8)
    have O9 := Lib.hid (O7.out.below b8)
    clear b8 B7 F7 X7 Y7 Z7 O7 r0 r1 r2
    obtain ⟨s0, s1, s2, s3, s4⟩ := F8.out.cells
    obtain ⟨t0, t1, t2, t3, t4⟩ := X9.out.cells
    go_wp2_with fail
    have B8 : Hid (Below w.heap.size w w8.drew) := Lib.hid B9.out.drew
    have O8 : Hid (Kids AllS w8.drew (.slice a2 g.len c2) g) := Lib.hid (O9.out.kids.drewN 1)
    have X8 : Hid (Five 32 w8.drew w5.heap.size (.int .i64 k) (.int .i64 a) (.int .i64 b) (.int .i64 c) (.slice a2 g.len c2)) := Lib.hid (X9.out.same rfl)
    go_region_with (first
      | (go_at_call 13; refine (toFm_agg k a b c (.slice ad g.len cap) _ (HK.out.below B8.out) hsz).mono ?_; rintro e w9 ⟨u3, rfl, o3, b9⟩; obtain ⟨a3, c3, rfl, _⟩ := o3.shape; obtain ⟨y0, y1, y2, y3, y4⟩ := (X8.out.below b9).cells)
      | (go_at_call 15; refine (eqFm_agg k a b c _ _ _ (O8.out.below b9) o3.kids).mono ?_; rintro e w10 ⟨rfl, b10⟩))
    all_goals
      go_wp2_with fail
      go_ret
      exact ⟨rfl, (B8.out.trans (b9.mono B8.out.size)).trans (b10.mono (Nat.le_trans B8.out.size b9.size))⟩
theorem exactLayout_of (v : Value) (X : FmX) (W : World) (h : FmIn W v X) :
    Calls Try.prog 9 #[v] W fun e w' => e = .returned (.bool true) ∧ Below W.heap.size W w' := by
  obtain ⟨rfl, hk⟩ := h
  exact exactLayout_walk _ _ _ _ _ _ _ hk
end Go.Proofs.Ytdloeiaaokhniaa
