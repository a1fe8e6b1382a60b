/- The laws over checked figures: each holds for every code. -/
import Derived.Test.YtfiogefigjnaiaaDrawFig3
import Derived.Test.YtfiogefigjnaiaaSum
namespace Go.Proofs.Ytfiogefigjnaiaa
open Go.RowKit
set_option maxHeartbeats 2000000
set_option maxRecDepth 100000

theorem drawCheckFigures_any (a : Option Addr) (len cap : Nat) (zs : List Int) (w : World) (h : RowIn .u8 w a len cap zs) :
    Calls Try.prog 23 #[.slice a len cap] w (DrewFSP w) := by
  have HR := Lib.hid h; clear h
  go_enter Try.func23, Try.ntmps23
  go_wp2_with fail
  refine (someFigures_any a len cap zs _ HR.out).mono ?_
  rintro e w1 ⟨v, u, t, F, S, P, hF, hS, hP, rfl, r⟩
  have HX := Lib.hid r
  clear r
  go_wp2_with fail
  exact bodyPost_ret (v := .tuple #[v, u, t]) (by simp [results, Try.results23, go_sem]) rfl ⟨v, u, t, F, S, P, hF, hS, hP, rfl, HX.out⟩
theorem drawTotalDelay_any (a : Option Addr) (len cap : Nat) (zs : List Int) (w : World) (h : RowIn .u8 w a len cap zs) :
    Calls Try.prog 25 #[.slice a len cap] w (DrewFSP w) := by
  have HR := Lib.hid h; clear h
  go_enter Try.func25, Try.ntmps25
  go_wp2_with fail
  refine (someFigures_any a len cap zs _ HR.out).mono ?_
  rintro e w1 ⟨v, u, t, F, S, P, hF, hS, hP, rfl, r⟩
  have HX := Lib.hid r
  clear r
  go_wp2_with fail
  exact bodyPost_ret (v := .tuple #[v, u, t]) (by simp [results, Try.results25, go_sem]) rfl ⟨v, u, t, F, S, P, hF, hS, hP, rfl, HX.out⟩

theorem check_first {F : List (Int × Int)} {S P : List Int} (h : checkS F S P = true) : ∃ out, placeS F S = some out ∧ out.length = F.length ∧ P.length = F.length ∧ (∀ j, j < F.length → out.getD j 0 ≤ P.getD j 0) ∧ 0 ≤ delayS F S out ∧ delayS F S out ≤ delayS F S P := by
  obtain ⟨h1, h2, h3, l, h4⟩ := check_facts h
  obtain ⟨g, pg, out, e, _, _, hle⟩ := place_first h1 h2 F.length (Nat.le_refl _) l h4
  have hp : placeS F S = some out := by unfold placeS; rw [h1, h2, e]; rfl
  have hl := (plS_room h1 h2 F.length (Nat.le_refl _) g pg out e).2.2.1
  obtain ⟨c1, c2⟩ := place_check hp
  refine ⟨out, hp, hl, h3, hle, c2, ?_⟩
  rw [delayS_yes c1, delayS_yes h]
  exact dl_le F.length hle

theorem figuresEarliest_walk (a : Option Addr) (len cap : Nat) (zs : List Int) (w : World) (h : RowIn .u8 w a len cap zs) :
    Calls Try.prog 6 #[.slice a len cap] w fun e w' => e = .returned (.bool true) ∧ Below w.heap.size w w' := by
  have hm := h.len_le.1
  unfold maxLen at hm
  have HR := Lib.hid h; clear h
  by_cases hl : 1048576 < len
  · go_enter Try.func6, Try.ntmps6
    go_wp2
    go_ret
    exact ⟨rfl, Below.refl _ _⟩
  · go_enter Try.func6, Try.ntmps6
    go_wp2_with fail
    refine (drawCheckFigures_any a len cap zs _ HR.out).mono ?_
    rintro e w1 ⟨v, u, t, F, S, P, hF, hS, hP, rfl, of1, os1, op1, b1⟩
    have B1 := b1
    clear b1
    go_wp2_with fail
    refine (checkFigures_any v u t F S P _ (OwnF.sl of1) os1.sl op1.sl).mono ?_
    rintro e w2 ⟨rfl, b2⟩
    have B2 := B1.trans (b2.mono B1.size)
    have of1 : OwnF _ _ w2 v F := OwnC.below of1 b2
    have os1 := os1.below b2
    have op1 := op1.below b2
    clear b2 B1
    go_wp2_with fail
    refine (scheckFigures_any _ _ v u t F S P _ (OwnF.sl of1) os1 op1.sl).mono ?_
    rintro e w3 ⟨rfl, b3⟩
    have B3 := B2.trans (b3.mono B2.size)
    have of1 : OwnF _ _ w3 v F := OwnC.below of1 b3
    have os1 := os1.below b3
    have op1 := op1.below b3
    clear b3 B2
    cases hc : checkS F S P
    · go_wp2_with fail
      refine (scheckFigures_any _ _ v u t F S P _ (OwnF.sl of1) os1 op1.sl).mono ?_
      rintro e w4 ⟨rfl, b4⟩
      rw [hc]
      have B4 := B3.trans (b4.mono B3.size)
      clear b4 B3
      go_wp2_with fail
      go_ret
      exact ⟨rfl, B4⟩
    · obtain ⟨out, hp, hl1, hl2, hle, _, _⟩ := check_first hc
      have HLe := Lib.hid hle
      clear hle hc
      go_wp2_with fail
      refine (placeFigures_any v u F S _ (OwnF.sl of1) os1.sl).mono ?_
      rintro e w4 ⟨vp, rfl, op, b4⟩
      rw [hp] at op
      rw [hp]
      have op : OwnI w3.heap.size w4.heap.size w4 vp out := op
      have B4 := B3.trans (b4.mono B3.size)
      have op1 := op1.below b4
      clear b4 B3 hp of1 os1
      obtain ⟨a1, c1, rfl⟩ := slice_len op
      obtain ⟨a2, c2, rfl⟩ := slice_len op1
      have HA := Lib.hid op.sl
      have HB := Lib.hid op1.sl
      rw [hl1] at HA ⊢
      rw [hl2] at HB hP ⊢
      clear op op1 hl1 hl2
      generalize F.length = n at *
      have hnn : ((n : Int) != (n : Int)) = false := by simp
      go_wp2_with fail
      go_loopw [9] (fun i wr => ∃ j q : Nat, j ≤ n ∧ i = .int .i64 j ∧ wr = w4.drewN q) (fun i _ => n - (intOf i).toNat)
      case atStart => exact ⟨0, 0, by omega, rfl, rfl⟩
      case round =>
        obtain ⟨j, q, hj, rfl, rfl⟩ := hrel
        by_cases hjn : j < n
        · obtain ⟨b, off, rfl, _, hc1⟩ := HA.out.cells (by omega)
          obtain ⟨b', off', rfl, _, hc2⟩ := HB.out.cells (by omega)
          have c0 := hc1 j hjn
          have c1 := hc2 j hjn
          have hle := HLe.out j hjn
          clear hc1 hc2
          generalize out.getD j 0 = x at *
          generalize P.getD j 0 = y at *
          have hd : decide (y < x) = false := decide_eq_false (by omega)
          clear hle
          go_wp2_with fail
          go_quiet (fail)
          go_wp2_with fail
          go_roundw
          case rel => exact ⟨j + 1, _, by omega, by go_num, rfl⟩
          case measure => simp [intOf]; omega
        · obtain rfl : j = n := by omega
          have BB := below_drewN B4 q
          clear B4
          go_wp2_with fail
          go_ret
          exact ⟨rfl, BB⟩

def fsum (F : List (Int × Int)) : Nat → Int
  | 0 => 0
  | k + 1 => fsum F k + fp F k
theorem dl_sum (F : List (Int × Int)) (P : List Int) : ∀ k, dl F P k + fsum F k = sumTo P k := by
  intro k
  induction k with
  | zero => simp [dl, fsum, sumTo]
  | succ k ih => rw [dl, fsum, sumTo]; omega
theorem delay_sums {F : List (Int × Int)} {S P : List Int} (h : checkS F S P = true) : (∀ k, k ≤ F.length → 0 ≤ fsum F k ∧ fsum F k ≤ 110) ∧ 0 ≤ sumL P ∧ sumL P ≤ 220 ∧ sumL P - fsum F F.length = delayS F S P := by
  obtain ⟨f1, f2, f3, f4⟩ := delay_facts h
  have hs : ∀ k, k ≤ F.length → 0 ≤ fsum F k ∧ fsum F k ≤ k * 11 := by
    intro k
    induction k with
    | zero => intro _; simp [fsum]
    | succ k ih =>
      intro hk
      have a := ih (by omega)
      have b := f3 k (by omega)
      rw [fsum]
      omega
  have d := dl_sum F P F.length
  have e := f4 F.length (Nat.le_refl _)
  have s := hs F.length (Nat.le_refl _)
  have hsum : sumL P = sumTo P F.length := by unfold sumL; rw [f2]
  refine ⟨fun k hk => by have := hs k hk; omega, by omega, by omega, ?_⟩
  rw [delayS_yes h]
  omega

theorem totalDelay_walk (a : Option Addr) (len cap : Nat) (zs : List Int) (w : World) (h : RowIn .u8 w a len cap zs) :
    Calls Try.prog 7 #[.slice a len cap] w fun e w' => e = .returned (.bool true) ∧ Below w.heap.size w w' := by
  have hm := h.len_le.1
  unfold maxLen at hm
  have HR := Lib.hid h; clear h
  by_cases hl : 1048576 < len
  · go_enter Try.func7, Try.ntmps7
    go_wp2
    go_ret
    exact ⟨rfl, Below.refl _ _⟩
  · go_enter Try.func7, Try.ntmps7
    go_wp2_with fail
    refine (drawTotalDelay_any a len cap zs _ HR.out).mono ?_
    rintro e w1 ⟨v, u, t, F, S, P, hF, hS, hP, rfl, of1, os1, op1, b1⟩
    have B1 := b1
    clear b1
    go_wp2_with fail
    refine (totalDelay_any v u t F S P _ (OwnF.sl of1) os1.sl op1.sl).mono ?_
    rintro e w2 ⟨rfl, b2⟩
    have B2 := B1.trans (b2.mono B1.size)
    have of1 : OwnF _ _ w2 v F := OwnC.below of1 b2
    have os1 := os1.below b2
    have op1 := op1.below b2
    clear b2 B1
    go_wp2_with fail
    refine (stotalDelay_any _ _ v u t F S P _ (OwnF.sl of1) os1 op1.sl).mono ?_
    rintro e w3 ⟨rfl, b3⟩
    have B3 := B2.trans (b3.mono B2.size)
    have of1 : OwnF _ _ w3 v F := OwnC.below of1 b3
    have os1 := os1.below b3
    have op1 := op1.below b3
    clear b3 B2
    have hnn : (delayS F S P != delayS F S P) = false := by simp
    cases hc : checkS F S P
    · have hd := delayS_no hc
      rw [hd] at hnn ⊢
      go_wp2_with fail
      refine (stotalDelay_any _ _ v u t F S P _ (OwnF.sl of1) os1 op1.sl).mono ?_
      rintro e w4 ⟨rfl, b4⟩
      rw [hd]
      have B4 := B3.trans (b4.mono B3.size)
      clear b4 B3
      go_wp2_with fail
      go_ret
      exact ⟨rfl, B4⟩
    · obtain ⟨out, hp, hl1, hl2, _, hd0, hdle⟩ := check_first hc
      obtain ⟨f1, f2, f3, f4⟩ := delay_facts hc
      obtain ⟨s1, s2, s3, s4⟩ := delay_sums hc
      have hdn := (f4 F.length (Nat.le_refl _))
      have hde := delayS_yes hc
      have HFs := Lib.hid s1
      have HSt : Hid (∀ k, fsum F (k + 1) = fsum F k + fp F k) := Lib.hid (fun k => rfl)
      have HTot := Lib.hid s4
      have HPb := Lib.hid (show P.length ≤ 1000000 ∧ ∀ k, k < P.length → 0 ≤ P.getD k 0 ∧ P.getD k 0 ≤ 1000000 from ⟨by omega, fun k hk => by have := f3 k (by omega); omega⟩)
      have HFb := Lib.hid (show ∀ k, k < F.length → 0 ≤ fp F k ∧ fp F k ≤ 11 from fun k hk => by have := f3 k hk; omega)
      have hneg : decide (delayS F S P < 0) = false := decide_eq_false (by omega)
      have HD : Hid (delayS F S out ≤ delayS F S P) := Lib.hid hdle
      have H0 : Hid (fsum F 0 = 0) := rfl
      clear hc f3 f4 s1 s4 hdn hde hdle
      obtain ⟨av, cv, rfl⟩ : ∃ a c, v = .slice a F.length c := by obtain ⟨a, c, e, _⟩ := OwnF.sl of1; exact ⟨a, c, e⟩
      have hfc : F.length ≤ cv ∧ cv ≤ maxLen := by obtain ⟨_, _, e, h1, h2, _⟩ := OwnF.sl of1; injection e with _ _ e; subst e; exact ⟨h1, h2⟩
      unfold maxLen at hfc
      have HOf := Lib.hid of1
      have HOs := Lib.hid os1
      have HC : Hid (∀ k, k < F.length → ∃ b off, av = some ⟨b, off, none⟩ ∧ b < w3.heap.size ∧ ∀ i, i < F.length → w3.cell? ⟨b, off + i * 2, none⟩ = some (.int .i64 (fh F i)) ∧ w3.cell? ⟨b, off + i * 2 + 1, none⟩ = some (.int .i64 (fp F i))) := fun k hk => ((OwnF.sl of1).cells (by omega)).2
      go_wp2_with (go_at_call 26; refine (sum_any t P _ op1.sl HPb.out.1 HPb.out.2).mono ?_; rintro e w' ⟨rfl, rfl⟩)
      clear op1
      go_loop [7, 8] (fun s i => ∃ (k : Nat) (d : Int), k ≤ F.length ∧ i = .int .i64 k ∧ s = .int .i64 d ∧ Hid (d = sumL P - fsum F k) ∧ -110 ≤ d ∧ d ≤ 220) (fun _ i => F.length - (intOf i).toNat)
      case atStart => exact ⟨0, sumL P, by omega, rfl, rfl, Lib.hid (by rw [H0.out]; omega), by omega, by omega⟩
      case round =>
        obtain ⟨k, d, hk, rfl, rfl, HDk, d0, d1⟩ := hrel
        by_cases hlt : k < F.length
        · obtain ⟨b, off, rfl, hb, hcc⟩ := HC.out k hlt
          have c1 := (hcc k hlt).2
          have hy := HFb.out k hlt
          have HS := Lib.hid (HSt.out k)
          have hfs := HFs.out (k + 1) (by omega)
          have HDn : Hid (d - fp F k = sumL P - fsum F (k + 1)) := Lib.hid (by have := HDk.out; have := HS.out; omega)
          have hdb : -110 ≤ d - fp F k ∧ d - fp F k ≤ 220 := by have := HDn.out; omega
          clear hcc hfs HS
          generalize fp F k = y at *
          go_wp2_with fail
          go_round
          case rel => exact ⟨k + 1, d - y, by omega, by go_num, rfl, HDn, hdb.1, hdb.2⟩
          case measure => simp [intOf]; omega
        · have hke : k = F.length := by omega
          have HDe : Hid (d = delayS F S P) := Lib.hid (by rw [HDk.out, hke]; exact HTot.out)
          have hdk : decide ((k : Int) < (F.length : Int)) = false := decide_eq_false (by omega)
          clear hke
          go_wp2_with fail
          refine (placeFigures_any _ u F S _ (OwnF.sl HOf.out) HOs.out.sl).mono ?_
          rintro e w4 ⟨vp, rfl, op, b4⟩
          rw [hp] at op
          rw [hp]
          have op : OwnI w3.heap.size w4.heap.size w4 vp out := op
          have B4 := B3.trans (b4.mono B3.size)
          have HOf : Hid (OwnF _ _ w4 _ F) := Lib.hid (OwnC.below HOf.out b4)
          have HOs := Lib.hid (HOs.out.below b4)
          clear b4 B3 hp
          rw [HDe.out]
          have hee : (delayS F S P == delayS F S P) = true := by simp
          go_wp2_with fail
          refine (totalDelay_any _ u vp F S out _ (OwnF.sl HOf.out) HOs.out.sl op.sl).mono ?_
          rintro e w5 ⟨rfl, b5⟩
          have B5 := B4.trans (b5.mono B4.size)
          have hle := HD.out
          clear b5 B4 HD
          generalize delayS F S out = d2 at *
          go_wp2_with fail
          go_ret
          exact ⟨rfl, B5⟩
end Go.Proofs.Ytfiogefigjnaiaa
