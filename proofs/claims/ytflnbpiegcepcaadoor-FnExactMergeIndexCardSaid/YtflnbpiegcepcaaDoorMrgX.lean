/- The program's MergeIndex gives what the reference's gives; it leaves its arguments and shares no memory. -/
import Derived.Test.YtflnbpiegcepcaaDoorOpenEnt
import Derived.Test.YtflnbpiegcepcaaDoorMrg
import Derived.Test.YtflnbpiegcepcaaDoorMrgS
import Derived.Test.YtflnbpiegcepcaaDoorMrgTo
import Derived.Test.YtflnbpiegcepcaaDoorIdxHeld
namespace Go.Proofs.YtflnbpiegcepcaaDoor
open Go.RowKit
set_option maxHeartbeats 4000000
set_option maxRecDepth 100000
set_option linter.unusedVariables false

theorem mN_le (m : Nat) : ∀ E : List Ent, (∀ e ∈ E, e.2.length ≤ m) → mN E ≤ E.length * (m + 1)
  | [], _ => by simp [mN]
  | (s, L) :: E, h => by
    have h1 := h (s, L) (by simp)
    have h2 := mN_le m E (fun e he => h e (by simp [he]))
    rw [mN, List.length_cons, Nat.succ_mul]
    simp only at h1
    omega
theorem mN_bounds : ∀ E : List Ent, E.length ≤ mN E ∧ ∀ e ∈ E, e.2.length ≤ mN E
  | [] => ⟨by simp, fun e he => by simp at he⟩
  | (s, L) :: E => by
    obtain ⟨h1, h2⟩ := mN_bounds E
    rw [mN]
    refine ⟨by rw [List.length_cons]; omega, fun e he => ?_⟩
    rcases List.mem_cons.1 he with rfl | he
    · show L.length ≤ _; omega
    · have := h2 e he; omega
theorem mN_ep {E : List Ent} {m : Nat} (h : mN E ≤ m) : ∀ i, i < E.length → (ep E i).length ≤ m := by
  intro i hi
  have := (mN_bounds E).2 E[i] (List.getElem_mem _)
  rw [ent_at E i hi] at this
  simp only at this
  omega
theorem mrgS_mN (a b : List Ent) : mN (mrgS a b) ≤ 1640 := by
  obtain ⟨h1, h2⟩ := okI_mem (mrgS_ok a b)
  have := mN_le 40 (mrgS a b) (fun e he => (okPg_asc (h2 e he).2.1).1)
  omega

theorem exactMerge_walk (a0 : Option Addr) (len0 cap0 : Nat) (E0 : List Ent) (a1 : Option Addr) (len1 cap1 : Nat) (E1 : List Ent) (w : World) (h0 : EntIn w (.slice a0 len0 cap0) E0) (h1 : EntIn w (.slice a1 len1 cap1) E1) (hT : Pow10 w) :
    Calls Tryd.prog 9 #[.slice a0 len0 cap0, .slice a1 len1 cap1] w fun e w' => e = .returned (.bool true) ∧ Below w.heap.size w w' := by
  have HS0 := Lib.hid h0.1
  have HZ0 := Lib.hid h0.2
  have HS1 := Lib.hid h1.1
  have HZ1 := Lib.hid h1.2
  have HC := mrgS_mN E0 E1
  have HA := Lib.hid (fun v0 v1 W (g0 : SlE W v0 E0) (g1 : SlE W v1 E1) (gT : Pow10 W) => mergeIndex_any v0 v1 E0 E1 W g0 g1 h0.2 h1.2 gT)
  have HB := Lib.hid (fun v0 v1 W (g0 : SlE W v0 E0) (g1 : SlE W v1 E1) => smergeIndex_any v0 v1 E0 E1 W g0 g1 h0.2 h1.2)
  have HT := Lib.hid (fun w' (b : Below w.heap.size w w') => hT.below b)
  have HL0 := Lib.hid (mN_bounds E0).1
  have HL1 := Lib.hid (mN_bounds E1).1
  clear h0 h1 hT
  generalize mrgS E0 E1 = E at *
  have hq : decide (((1 + mN E : Nat) : Int) < 0) = false := decide_eq_false (by omega)
  have hk : decide (((1 + mN E0 + mN E1 : Nat) : Int) < 0) = false := decide_eq_false (by omega)
  go_enter Tryd.func9, Tryd.ntmps9
  go_wp2_with fail
  refine (szEntryS_any _ E0 1048576 w HS0.out HZ0.out (by omega) (by omega)).mono ?_
  rintro e wA ⟨r0, rfl, ra1, ra2, bA⟩
  by_cases hr : r0 < 0
  · have hd : decide (r0 < 0) = true := decide_eq_true hr
    go_wp2_with fail
    go_ret
    exact ⟨rfl, bA⟩
  have hd : decide (r0 < 0) = false := decide_eq_false hr
  go_wp2_with fail
  refine (szEntryS_any _ E1 r0 wA (HS1.out.below bA) HZ1.out (by omega) (by omega)).mono ?_
  rintro e wB ⟨r1, rfl, rb1, rb2, bB⟩
  have B1 := bA.trans (bB.mono bA.size)
  by_cases hr1 : r1 < 0
  · have hd1 : decide (r1 < 0) = true := decide_eq_true hr1
    go_wp2_with fail
    go_ret
    exact ⟨rfl, B1⟩
  have hd1 : decide (r1 < 0) = false := decide_eq_false hr1
  have hm0 : mN E0 ≤ 1048576 := by have := ra2 (by omega); omega
  have hm1 : mN E1 ≤ 1048576 := by have := ra2 (by omega); have := rb2 (by omega); omega
  have HG0 := Lib.hid (fun (v : Value) (W : World) (h : SlE W v E0) => toEntryS_any v E0 W (by have := HL0.out; omega) (mN_ep hm0) h)
  have HG1 := Lib.hid (fun (v : Value) (W : World) (h : SlE W v E1) => toEntryS_any v E1 W (by have := HL1.out; omega) (mN_ep hm1) h)
  clear ra1 ra2 rb1 rb2 bA bB
  go_wp2_with fail
  refine (HG0.out _ _ (HS0.out.below B1)).mono ?_
  rintro e w2 ⟨u0, rfl, o0, b2⟩
  have B2 := B1.trans (b2.mono B1.size)
  go_wp2_with fail
  refine (HG1.out _ _ (HS1.out.below B2)).mono ?_
  rintro e w3 ⟨u1, rfl, o1, b3⟩
  have B3 := B2.trans (b3.mono B2.size)
  go_wp2_with fail
  refine (HB.out _ _ _ (o0.below b3).sl o1.sl).mono ?_
  rintro e w4 ⟨vw, rfl, ow, b4⟩
  have B4 := B3.trans (b4.mono B3.size)
  clear o0 o1 b2 b3
  go_wp2_with fail
  refine (HG0.out _ _ (HS0.out.below B4)).mono ?_
  rintro e w5 ⟨x0, rfl, ox, b5⟩
  have B5 := B4.trans (b5.mono B4.size)
  have ow := ow.below b5
  have s45 : w4.heap.size ≤ w5.heap.size := b5.size
  go_wp2_with fail
  refine (HG1.out _ _ (HS1.out.below B5)).mono ?_
  rintro e w6 ⟨x1, rfl, oy, b6⟩
  have B6 := B5.trans (b6.mono B5.size)
  have ow := ow.below b6
  have ox := ox.below b6
  have s56 : w5.heap.size ≤ w6.heap.size := b6.size
  go_wp2_with fail
  refine (HA.out _ _ _ ox.sl oy.sl (HT.out _ B6)).mono ?_
  rintro e w7 ⟨g0, rfl, og, b7⟩
  have B7 := B6.trans (b7.mono B6.size)
  have ow := ow.below b7
  have ox := ox.below b7
  have oy := oy.below b7
  clear b4 b5 b6 b7
  go_wp2_with fail
  refine (eqEntryS_same g0 vw E _ og.sl ow.sl).mono ?_
  rintro e w8 ⟨rfl, b8⟩
  have B8 := B7.trans (b8.mono B7.size)
  have ow := ow.below b8
  have ox := ox.below b8
  have oy := oy.below b8
  have og := og.below b8
  go_wp2_with fail
  refine (HG0.out _ _ (HS0.out.below B8)).mono ?_
  rintro e w9 ⟨y0, rfl, oz, b9⟩
  have B9 := B8.trans (b9.mono B8.size)
  have ow := ow.below b9
  have ox := ox.below b9
  have oy := oy.below b9
  have og := og.below b9
  go_wp2_with fail
  refine (eqEntryS_same x0 y0 E0 _ ox.sl oz.sl).mono ?_
  rintro e w10 ⟨rfl, b10⟩
  have B10 := B9.trans (b10.mono B9.size)
  have ow := ow.below b10
  have ox := ox.below b10
  have oy := oy.below b10
  have og := og.below b10
  clear oz b8 b9 b10
  go_wp2_with fail
  refine (HG1.out _ _ (HS1.out.below B10)).mono ?_
  rintro e w11 ⟨y1, rfl, oz, b11⟩
  have B11 := B10.trans (b11.mono B10.size)
  have ow := ow.below b11
  have ox := ox.below b11
  have oy := oy.below b11
  have og := og.below b11
  go_wp2_with fail
  refine (eqEntryS_same x1 y1 E1 _ oy.sl oz.sl).mono ?_
  rintro e w12 ⟨rfl, b12⟩
  have B12 := B11.trans (b12.mono B11.size)
  have ow := ow.below b12
  have ox := ox.below b12
  have oy := oy.below b12
  have og := og.below b12
  clear oz b11 b12
  go_wp2_with fail
  refine (markEntryS_any _ _ x0 E0 1 _ (by omega) (by omega) ox).mono ?_
  rintro e w13 ⟨rfl, ox13, g13⟩
  have B13 := B12.trans (g13.below B4.size B12.size)
  have ow := ow.beside g13 (.inl (Nat.le_refl _))
  have oy := oy.beside g13 (.inr (Nat.le_refl _))
  have og := og.beside g13 (.inr s56)
  clear ox ox13 g13
  go_wp2_with fail
  refine (markEntryS_any _ _ x1 E1 (1 + mN E0) _ (by omega) (by omega) oy).mono ?_
  rintro e w14 ⟨rfl, oy14, g14⟩
  have B14 := B13.trans (g14.below B5.size B13.size)
  have ow := ow.beside g14 (.inl s45)
  have og := og.beside g14 (.inr (Nat.le_refl _))
  clear oy oy14 g14
  go_wp2_with fail
  refine (eqEntryS_same g0 vw E _ og.sl ow.sl).mono ?_
  rintro e w15 ⟨rfl, b15⟩
  have B15 := B14.trans (b15.mono B14.size)
  have ow := ow.below b15
  have og := og.below b15
  clear b15
  go_wp2_with fail
  refine (markEntryS_any _ _ g0 E 1 _ (by omega) (by omega) og).mono ?_
  rintro e w16 ⟨rfl, og16, g16⟩
  have B16 := B15.trans (g16.below B6.size B15.size)
  have ow := ow.beside g16 (.inl (Nat.le_trans s45 s56))
  clear og g16
  go_wp2_with fail
  refine (heldEntryS_any g0 E 1 _ (by omega) (by omega) og16.sl).mono ?_
  rintro e w17 ⟨rfl, b17⟩
  have B17 := B16.trans (b17.mono B16.size)
  have ow := ow.below b17
  have og := og16.below b17
  clear og16 b17
  go_wp2_with fail
  refine (HG0.out _ _ (HS0.out.below B17)).mono ?_
  rintro e w18 ⟨z0, rfl, oz0, b18⟩
  have B18 := B17.trans (b18.mono B17.size)
  have ow := ow.below b18
  have og := og.below b18
  go_wp2_with fail
  refine (HG1.out _ _ (HS1.out.below B18)).mono ?_
  rintro e w19 ⟨z1, rfl, oz1, b19⟩
  have B19 := B18.trans (b19.mono B18.size)
  have ow := ow.below b19
  have og := og.below b19
  have oz0 := oz0.below b19
  go_wp2_with fail
  refine (HA.out _ _ _ oz0.sl oz1.sl (HT.out _ B19)).mono ?_
  rintro e w20 ⟨h0, rfl, oh, b20⟩
  have B20 := B19.trans (b20.mono B19.size)
  have ow := ow.below b20
  have og := og.below b20
  clear oz0 oz1 b18 b19 b20
  go_wp2_with fail
  refine (eqEntryS_same h0 vw E _ oh.sl ow.sl).mono ?_
  rintro e w21 ⟨rfl, b21⟩
  have B21 := B20.trans (b21.mono B20.size)
  have og := og.below b21
  go_wp2_with fail
  refine (heldEntryS_any g0 E 1 _ (by omega) (by omega) og.sl).mono ?_
  rintro e w22 ⟨rfl, b22⟩
  have B22 := B21.trans (b22.mono B21.size)
  go_wp2_with fail
  go_ret
  exact ⟨rfl, B22⟩
end Go.Proofs.YtflnbpiegcepcaaDoor
