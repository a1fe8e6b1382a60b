/- The program's CollectIndex gives what the reference's gives; it leaves its argument and shares no memory. -/
import Derived.Test.YtflnbpiegcepcaaOpenMen
import Derived.Test.YtflnbpiegcepcaaIdxColS
import Derived.Test.YtflnbpiegcepcaaIdxMenL
import Derived.Test.YtflnbpiegcepcaaIdxHeld
namespace Go.Proofs.Ytflnbpiegcepcaa
open Go.RowKit
set_option maxHeartbeats 4000000
set_option maxRecDepth 100000
set_option linter.unusedVariables false

theorem mN_le (m : Nat) : ∀ E : List Ent, (∀ e ∈ E, e.2.length ≤ m) → mN E ≤ E.length * (m + 1)
  | [], _ => by simp [mN]
  | (s, L) :: E, h => by
    have h1 := h (s, L) (by simp)
    have h2 := mN_le m E (fun e he => h e (by simp [he]))
    rw [mN, List.length_cons, Nat.succ_mul]
    simp only at h1
    omega
theorem colS_mN (M : List Men) : mN (colS M) ≤ 1640 := by
  obtain ⟨_, h1, h2⟩ := colS_facts M
  have := mN_le 40 (colS M) h2
  omega

theorem exactCollect_walk (a : Option Addr) (len cap : Nat) (M : List Men) (w : World) (hM : MenIn w (.slice a len cap) M) :
    Calls Try.prog 5 #[.slice a len cap] w fun e w' => e = .returned (.bool true) ∧ Below w.heap.size w w' := by
  have HS := Lib.hid hM.1
  have HZ := Lib.hid hM.2
  obtain ⟨n, hn⟩ : ∃ n, M.length = n := ⟨_, rfl⟩
  have HN := Lib.hid hn
  have HC := colS_mN M
  have HA := Lib.hid (fun v w h => collectIndex_any v M w h hM.2)
  have HB := Lib.hid (fun v w h => scollectIndex_any v M w h hM.2)
  clear hM hn
  generalize colS M = E at *
  have hq : decide (((1 + mN E : Nat) : Int) < 0) = false := decide_eq_false (by omega)
  have hk : decide (((1 + 2 * M.length : Nat) : Int) < 0) = false := decide_eq_false (by omega)
  go_enter Try.func5, Try.ntmps5
  go_wp2_with fail
  refine (szMentionS_any _ M 1048576 w HS.out HZ.out (by omega) (by omega)).mono ?_
  rintro e w1 ⟨r, rfl, r1, r2, b1⟩
  by_cases hr : r < 0
  · have hd : decide (r < 0) = true := decide_eq_true hr
    go_wp2_with fail
    go_ret
    exact ⟨rfl, b1⟩
  · have hd : decide (r < 0) = false := decide_eq_false hr
    have hL : M.length ≤ 1048576 := by have := r2 (by omega); omega
    have HL := Lib.hid hL
    have B1 := b1
    clear r1 r2 hr hL
    go_wp2_with fail
    refine (toMentionS_any _ M _ HL.out (HS.out.below B1)).mono ?_
    rintro e w2 ⟨u0, rfl, o2, b2⟩
    have B2 := B1.trans (b2.mono B1.size)
    go_wp2_with fail
    refine (HB.out _ _ o2.sl).mono ?_
    rintro e w3 ⟨vw, rfl, ow, b3⟩
    have B3 := B2.trans (b3.mono B2.size)
    go_wp2_with fail
    refine (toMentionS_any _ M _ HL.out (HS.out.below B3)).mono ?_
    rintro e w4 ⟨x0, rfl, ox, b4⟩
    have B4 := B3.trans (b4.mono B3.size)
    have ow := ow.below b4
    go_wp2_with fail
    refine (HA.out _ _ ox.sl).mono ?_
    rintro e w5 ⟨g0, rfl, og, b5⟩
    have B5 := B4.trans (b5.mono B4.size)
    have ow := ow.below b5
    have ox := OwnC.below ox b5
    have s34 : w3.heap.size ≤ w4.heap.size := b4.size
    go_wp2_with fail
    refine (eqEntryS_same g0 vw E _ og.sl ow.sl).mono ?_
    rintro e w6 ⟨rfl, b6⟩
    have B6 := B5.trans (b6.mono B5.size)
    have ow := ow.below b6
    have og := og.below b6
    have ox := OwnC.below ox b6
    go_wp2_with fail
    refine (toMentionS_any _ M _ HL.out (HS.out.below B6)).mono ?_
    rintro e w7 ⟨y0, rfl, oy, b7⟩
    have B7 := B6.trans (b7.mono B6.size)
    have ow := ow.below b7
    have og := og.below b7
    have ox := OwnC.below ox b7
    go_wp2_with fail
    refine (eqMentionS_same x0 y0 M _ (OwnM.sl ox) oy.sl).mono ?_
    rintro e w8 ⟨rfl, b8⟩
    have B8 := B7.trans (b8.mono B7.size)
    have ow := ow.below b8
    have og := og.below b8
    have ox := OwnC.below ox b8
    clear oy
    go_wp2_with fail
    refine (markMentionS_any _ _ x0 _ M.length 1 _ (by omega) (by have := HL.out; omega) ox).mono ?_
    rintro e w9 ⟨rfl, g9⟩
    have B9 := B8.trans (g9.below (B3.size) B8.size)
    have ow := ow.beside g9 (.inl (Nat.le_refl _))
    have og := og.beside g9 (.inr (Nat.le_refl _))
    clear ox
    go_wp2_with fail
    refine (eqEntryS_same g0 vw E _ og.sl ow.sl).mono ?_
    rintro e w10 ⟨rfl, b10⟩
    have B10 := B9.trans (b10.mono B9.size)
    have ow := ow.below b10
    have og := og.below b10
    go_wp2_with fail
    refine (markEntryS_any _ _ g0 E 1 _ (by omega) (by omega) og).mono ?_
    rintro e w11 ⟨rfl, og11, g11⟩
    have B11 := B10.trans (g11.below B4.size B10.size)
    have ow := ow.beside g11 (.inl s34)
    clear og
    go_wp2_with fail
    refine (heldEntryS_any g0 E 1 _ (by omega) (by omega) og11.sl).mono ?_
    rintro e w12 ⟨rfl, b12⟩
    have B12 := B11.trans (b12.mono B11.size)
    have ow := ow.below b12
    have og := og11.below b12
    clear og11
    go_wp2_with fail
    refine (toMentionS_any _ M _ HL.out (HS.out.below B12)).mono ?_
    rintro e w13 ⟨z0, rfl, oz, b13⟩
    have B13 := B12.trans (b13.mono B12.size)
    have ow := ow.below b13
    have og := og.below b13
    go_wp2_with fail
    refine (HA.out _ _ oz.sl).mono ?_
    rintro e w14 ⟨h0, rfl, oh, b14⟩
    have B14 := B13.trans (b14.mono B13.size)
    have ow := ow.below b14
    have og := og.below b14
    go_wp2_with fail
    refine (eqEntryS_same h0 vw E _ oh.sl ow.sl).mono ?_
    rintro e w15 ⟨rfl, b15⟩
    have B15 := B14.trans (b15.mono B14.size)
    have og := og.below b15
    go_wp2_with fail
    refine (heldEntryS_any g0 E 1 _ (by omega) (by omega) og.sl).mono ?_
    rintro e w16 ⟨rfl, b16⟩
    have B16 := B15.trans (b16.mono B15.size)
    go_wp2_with fail
    go_ret
    exact ⟨rfl, B16⟩
end Go.Proofs.Ytflnbpiegcepcaa
