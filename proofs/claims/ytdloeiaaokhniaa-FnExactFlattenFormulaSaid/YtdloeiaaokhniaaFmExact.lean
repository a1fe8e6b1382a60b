/- ValidFormula of the program is that of the reference. -/
import Derived.Test.YtdloeiaaokhniaaFmVal
import Derived.Test.YtdloeiaaokhniaaFmValS
import Derived.Test.YtdloeiaaokhniaaFmSz
import Derived.Test.YtdloeiaaokhniaaOpenFm
import Derived.Deep.RegionWith
namespace Go.Proofs.Ytdloeiaaokhniaa
open Go.RowKit
open FL
set_option maxHeartbeats 1000000
set_option maxRecDepth 100000
set_option linter.unusedVariables false

theorem szZ_ok {g : FL} (h : ¬ szZ 1048576 g < 0) : g.sz ≤ 1048576 := by
  unfold szZ at h; split at h <;> omega

theorem toFm_agg {g : FL} (k a b c : Int) (v : Value) (w : World) (h : Kids AllS w v g) (hsz : g.sz ≤ 1048576) :
    Calls Try.prog 13 #[.agg #[.int .i64 k, .int .i64 a, .int .i64 b, .int .i64 c, v]] w fun e w' => ∃ u, e = .returned (.agg #[.int .i64 k, .int .i64 a, .int .i64 b, .int .i64 c, u]) ∧ OwnFm w.heap.size w'.heap.size w' u g ∧ Below w.heap.size w w' := toFm_any k a b c v w h hsz
theorem eqFm_agg {g : FL} (k a b c : Int) (u v : Value) (w : World) (hu : Kids AllS w u g) (hv : Kids AllS w v g) :
    Calls Try.prog 15 #[.agg #[.int .i64 k, .int .i64 a, .int .i64 b, .int .i64 c, u], .agg #[.int .i64 k, .int .i64 a, .int .i64 b, .int .i64 c, v]] w fun e w' => e = .returned (.bool true) ∧ Below w.heap.size w w' := eqFm_same k a b c u v w hu hv
theorem exactValid_walk (k a b c : Int) (v : Value) (g : FL) (w : World) (h : Kids AllS w v g) :
    Calls Try.prog 3 #[fmV k a b c v] w fun e w' => e = .returned (.bool true) ∧ Below w.heap.size w w' := by
  obtain ⟨ad, cap, rfl, -⟩ := h.cells
  have HA : Hid (Below w.heap.size w (w.alloc (.cells #[.int .i64 k, .int .i64 a, .int .i64 b, .int .i64 c, .slice ad g.len cap] 26))) := Lib.hid ((Below.refl _ _).alloc (Nat.le_refl _) _)
  have F0 := Lib.hid (Five.new 26 w (.int .i64 k) (.int .i64 a) (.int .i64 b) (.int .i64 c) (.slice ad g.len cap))
  have HK := Lib.hid h
  clear h
  unfold fmV
  go_enter Try.func3, Try.ntmps3
  go_wp2_with fail
  generalize w.alloc (.cells #[.int .i64 k, .int .i64 a, .int .i64 b, .int .i64 c, .slice ad g.len cap] 26) = W at *
  refine (szFm_any k a b c 1048576 (.slice ad g.len cap) W (HK.out.below HA.out) (by omega) (by omega)).mono ?_
  rintro e w2 ⟨he, b2⟩
  obtain ⟨z, hz⟩ : ∃ z, szZ 1048576 g = z := ⟨_, rfl⟩
  have HZ := Lib.hid hz
  rw [hz] at he
  subst he
  have B2 := Lib.hid (HA.out.trans (b2.mono HA.out.size))
  have F2 := Lib.hid (F0.out.below b2)
  clear hz b2 HA F0
  obtain ⟨s0, s1, s2, s3, s4⟩ := F2.out.cells
  by_cases hneg : z < 0
  · have hd : decide (z < 0) = true := decide_eq_true hneg
    go_wp2_with fail
    go_ret
    exact ⟨rfl, B2.out⟩
  · have hd : decide (z < 0) = false := decide_eq_false hneg
    have hsz : g.sz ≤ 1048576 := szZ_ok (by rw [HZ.out]; exact hneg)
    clear hneg
    go_wp2_with fail
    refine (toFm_any k a b c (.slice ad g.len cap) _ (HK.out.below B2.out) hsz).mono ?_
    rintro e w3 ⟨u1, rfl, o1, b3⟩
    have B3 := Lib.hid (B2.out.trans (b3.mono B2.out.size))
    have F3 := Lib.hid (F2.out.below b3)
    obtain ⟨a1, c1, rfl, _⟩ := o1.shape
    have O1 := Lib.hid o1
    clear b3 B2 F2 o1 s0 s1 s2 s3 s4
    unfold fmV
    go_wp2_with fail
    refine (svalidFm_any g k a b c _ _ O1.out.kids).mono ?_
    rintro e w4 ⟨rfl, b4⟩
    have B4 := Lib.hid (B3.out.trans (b4.mono B3.out.size))
    have F4 := Lib.hid (F3.out.below b4)
    clear b4 B3 F3 O1
    obtain ⟨s0, s1, s2, s3, s4⟩ := F4.out.cells
    go_wp2_with fail
    refine (toFm_any k a b c (.slice ad g.len cap) _ (HK.out.below B4.out) hsz).mono ?_
    rintro e w5 ⟨u2, rfl, o2, b5⟩
    have B5 := Lib.hid (B4.out.trans (b5.mono B4.out.size))
    obtain ⟨a2, c2, rfl, _⟩ := o2.shape
    have F5 := Lib.hid ((F4.out.below b5).alloc (.cells #[.int .i64 k, .int .i64 a, .int .i64 b, .int .i64 c, .slice a2 g.len c2] 32))
    have X5 := Lib.hid (Five.new 32 w5 (.int .i64 k) (.int .i64 a) (.int .i64 b) (.int .i64 c) (.slice a2 g.len c2))
    have b6 : Below w5.heap.size w5 (w5.alloc (.cells #[.int .i64 k, .int .i64 a, .int .i64 b, .int .i64 c, .slice a2 g.len c2] 32)) := (Below.refl _ _).alloc (Nat.le_refl _) _
    have B6 := Lib.hid (B5.out.trans (b6.mono B5.out.size))
    have O2 := Lib.hid (o2.below b6)
    clear b5 b6 B4 B5 F4 o2 s0 s1 s2 s3 s4
    unfold fmV
    go_wp2_with fail
    generalize w5.alloc (.cells #[.int .i64 k, .int .i64 a, .int .i64 b, .int .i64 c, .slice a2 g.len c2] 32) = W6 at *
    refine (validFm_any g k a b c _ _ O2.out.kids).mono ?_
    rintro e w7 ⟨rfl, b7⟩
    have B7 := Lib.hid (B6.out.trans (b7.mono B6.out.size))
    have F7 := Lib.hid (F5.out.below b7)
    have X7 := Lib.hid (X5.out.below b7)
    have O7 := Lib.hid (O2.out.below b7)
    clear b7 B6 F5 X5 O2
    obtain ⟨s0, s1, s2, s3, s4⟩ := F7.out.cells
    obtain ⟨t0, t1, t2, t3, t4⟩ := X7.out.cells
    have hq : (okFm k a b c g 6 != okFm k a b c g 6) = false := by simp
    generalize okFm k a b c g 6 = ok at *
    go_wp2_with fail
    have B8 : Hid (Below w.heap.size w w7.drew) := Lib.hid B7.out.drew
    have O8 : Hid (Kids AllS w7.drew (.slice a2 g.len c2) g) := Lib.hid (O7.out.kids.drewN 1)
    have X8 : Hid (Five 32 w7.drew w5.heap.size (.int .i64 k) (.int .i64 a) (.int .i64 b) (.int .i64 c) (.slice a2 g.len c2)) := Lib.hid (X7.out.same rfl)
    go_region_with (first
      | (go_at_call 13; refine (toFm_agg k a b c (.slice ad g.len cap) _ (HK.out.below B8.out) hsz).mono ?_; rintro e w9 ⟨u3, rfl, o3, b9⟩; obtain ⟨a3, c3, rfl, _⟩ := o3.shape; obtain ⟨y0, y1, y2, y3, y4⟩ := (X8.out.below b9).cells)
      | (go_at_call 15; refine (eqFm_agg k a b c _ _ _ (O8.out.below b9) o3.kids).mono ?_; rintro e w10 ⟨rfl, b10⟩))
    all_goals
      go_wp2_with fail
      go_ret
      exact ⟨rfl, (B8.out.trans (b9.mono B8.out.size)).trans (b10.mono (Nat.le_trans B8.out.size b9.size))⟩
theorem exactValid_of (v : Value) (X : FmX) (W : World) (h : FmIn W v X) :
    Calls Try.prog 3 #[v] W fun e w' => e = .returned (.bool true) ∧ Below W.heap.size W w' := by
  obtain ⟨rfl, hk⟩ := h
  exact exactValid_walk _ _ _ _ _ _ _ hk
end Go.Proofs.Ytdloeiaaokhniaa
