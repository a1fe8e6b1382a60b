/- The program's LevelsOf gives what the reference's gives; it shares no memory with what it made before. -/
import Derived.Test.YtbecdndeddkibaaLevS
namespace Go.Proofs.Ytbecdndeddkibaa
open Go.RowKit
set_option maxHeartbeats 2000000
set_option maxRecDepth 100000
set_option linter.unusedVariables false

theorem sLevelsOf_any (s : ByteArray) (base : Int) (w : World) (hs : s.size ≤ maxLen) :
    Calls Try.prog 20 #[.string s, .int .i64 base] w (GaveI (levS s base) w) := by
  have HV := Lib.hid (fun w' => svalidText_any s w' hs)
  unfold maxLen at hs
  cases hok : okT s with
  | false =>
    rw [levS_no (by rw [hok]; simp)]
    rw [hok] at HV
    clear hok
    go_enter Try.func20, Try.ntmps20
    go_wp2_with fail
    refine (HV.out _).mono ?_
    rintro e w' ⟨rfl, rfl⟩
    go_wp2_with fail
    go_ret
    exact ⟨_, rfl, own_nil _ _ _ (Nat.le_refl _), Below.refl _ _⟩
  | true =>
    rw [hok] at HV
    by_cases hb : 0 ≤ base ∧ base ≤ 1
    · obtain ⟨b, rfl⟩ : ∃ b : Nat, base = b := ⟨base.toNat, by omega⟩
      have HL := Lib.hid (slevelsOf_any s b w hok (by omega))
      have hd : decide ((b : Int) ≤ 1) = true := decide_eq_true hb.2
      clear hok hb
      go_enter Try.func20, Try.ntmps20
      go_wp2_with fail
      refine (HV.out _).mono ?_
      rintro e w' ⟨rfl, rfl⟩
      go_wp2_with (go_at_call 22; refine (inRange_any _ _ _ _).mono ?_; rintro e w' ⟨rfl, rfl⟩)
      refine HL.out.mono ?_
      rintro e w' ⟨v, rfl, o, hb⟩
      go_wp2_with fail
      go_ret
      exact ⟨_, rfl, o, hb⟩
    · rw [levS_no (fun h => hb h.2)]
      have hd : decide (0 ≤ base ∧ base ≤ 1) = false := decide_eq_false hb
      clear hok hb
      go_enter Try.func20, Try.ntmps20
      go_wp2_with fail
      refine (HV.out _).mono ?_
      rintro e w' ⟨rfl, rfl⟩
      go_wp2_with (go_at_call 22; refine (inRange_any _ _ _ _).mono ?_; rintro e w' ⟨rfl, rfl⟩)
      go_ret
      exact ⟨_, rfl, own_nil _ _ _ (Nat.le_refl _), Below.refl _ _⟩

theorem exactLevels_walk (s : ByteArray) (base : Int) (w : World) (hs : s.size ≤ maxLen) :
    Calls Try.prog 8 #[.string s, .int .i64 base] w fun e w' => e = .returned (.bool true) ∧ Below w.heap.size w w' := by
  have HA := Lib.hid (fun w => levelsOf_any s base w hs)
  have HB := Lib.hid (fun w => sLevelsOf_any s base w hs)
  have hR := levS_len s base
  generalize levS s base = R at *
  unfold maxLen at hs
  have hk2 : decide ((1 : Int) + R.length < 0) = false := by simp; omega
  by_cases hl : 1048576 < s.size
  · go_enter Try.func8, Try.ntmps8
    go_wp2_with fail
    go_ret
    exact ⟨rfl, Below.refl _ _⟩
  · go_enter Try.func8, Try.ntmps8
    go_wp2_with fail
    refine (HB.out _).mono ?_
    rintro e w2 ⟨vw, rfl, ow, b2⟩
    have B2 := b2
    go_wp2_with fail
    refine (HA.out _).mono ?_
    rintro e w4 ⟨g0, rfl, og, b4⟩
    have B4 := B2.trans (b4.mono B2.size)
    have ow := ow.below b4
    go_wp2_with fail
    refine (eqIntS_any g0 vw R R _ og.sl ow.sl).mono ?_
    rintro e w9 ⟨n9, rfl, rfl⟩
    have B9 := below_drewN B4 n9
    have ow := ow.drewN n9
    have og := og.drewN n9
    go_wp2_with fail
    refine (markIntS_any _ _ g0 R 1 _ (by omega) (by omega) og).mono ?_
    rintro e w10 ⟨rfl, og10, g10⟩
    have B10 := B9.grown g10 B9.size (fun k hk => by have := (og.row.lt k hk).1; have := B2.size; omega)
    have ow := ow.beside og g10 (.inl (Nat.le_refl _))
    clear og
    go_wp2_with fail
    refine (heldIntS_any g0 1 R.length _ (by omega) (by omega) og10.sl).mono ?_
    rintro e w11 ⟨rfl, rfl⟩
    go_wp2_with fail
    refine (HA.out _).mono ?_
    rintro e w13 ⟨h0, rfl, oh, b13⟩
    have B13 := B10.trans (b13.mono B10.size)
    have ow := ow.below b13
    have og := og10.below b13
    clear og10
    go_wp2_with fail
    refine (eqIntS_any h0 vw R R _ oh.sl ow.sl).mono ?_
    rintro e w14 ⟨n14, rfl, rfl⟩
    have B14 := below_drewN B13 n14
    have og := og.drewN n14
    go_wp2_with fail
    refine (heldIntS_any g0 1 R.length _ (by omega) (by omega) og.sl).mono ?_
    rintro e w15 ⟨rfl, rfl⟩
    go_wp2_with fail
    go_ret
    exact ⟨rfl, B14⟩
end Go.Proofs.Ytbecdndeddkibaa
