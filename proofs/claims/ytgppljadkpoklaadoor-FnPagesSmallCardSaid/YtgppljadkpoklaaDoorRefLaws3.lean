/- The law of the smallest pages. -/
import Derived.Test.YtgppljadkpoklaaDoorRefLaws2
namespace Go.Proofs.YtgppljadkpoklaaDoor
open Go.RowKit
set_option maxHeartbeats 600000
set_option maxRecDepth 100000

theorem small_facts {B : List Blk} {z : Int} {K : List Int} (h : ¬ (pagesS B z K).length = 0) : ∃ ln : Nat, z = ln ∧ 1 ≤ ln ∧ ln ≤ 40 ∧ okB B = true ∧ okK K = true ∧ pagesS B z K = pagesF B ln K B.length := by
  unfold pagesS at *
  split at h
  · rename_i hc
    rw [if_pos hc]
    rw [Bool.and_eq_true, Bool.and_eq_true, decide_eq_true_eq] at hc
    exact ⟨z.toNat, by omega, by omega, by omega, hc.1.1, hc.2, rfl⟩
  · simp at h

theorem pagesSmall_walk (a : Option Addr) (len cap : Nat) (zs : List Int) (w : World) (h : RowIn .u8 w a len cap zs) (hT : Pow10 w) :
    Calls Tryd.prog 4 #[.slice a len cap] w fun e w' => e = .returned (.bool true) ∧ Below w.heap.size w w' := by
  have hm := h.len_le.1
  unfold maxLen at hm
  have HR := Lib.hid h; clear h
  by_cases hl : 1048576 < len
  · go_enter Tryd.func4, Tryd.ntmps4
    go_wp2
    go_ret
    exact ⟨rfl, Below.refl _ _⟩
  · have HT := Lib.hid hT
    clear hT
    go_enter Tryd.func4, Tryd.ntmps4
    go_wp2_with fail
    refine (drawPagesOf_any a len cap zs _ HR.out).mono ?_
    rintro e w1 ⟨v, u, B, z, K, hB, hK, rfl, of1, os1, b1⟩
    have B1 := b1
    clear b1
    go_wp2_with fail
    refine (pagesOf_all v u B z K _ of1.sl os1 (HT.out.below B1)).mono ?_
    rintro e w2 ⟨vp, rfl, op, b2⟩
    have B2 := B1.trans (b2.mono B1.size)
    have of1 : OwnB _ _ w2 v B := OwnC.below of1 b2
    have os1 := os1.below b2
    clear b2 B1
    go_wp2_with fail
    refine (spagesOf_all v u B z K _ of1.sl os1).mono ?_
    rintro e w3 ⟨vq, rfl, oq, b3⟩
    have B3 := B2.trans (b3.mono B2.size)
    have of1 : OwnB _ _ w3 v B := OwnC.below of1 b3
    have os1 := os1.below b3
    have op := op.below b3
    have HPf := Lib.hid (small_facts (B := B) (z := z) (K := K))
    have HSp := Lib.hid (fun (w' : World) (h : SlB w' v B) (h2 : SlI w' u K) => spagesOf_all v u B z K w' h h2)
    have hRl := pagesS_len B z K
    generalize pagesS B z K = R at *
    clear b3 B2
    go_wp2_with fail
    refine (equalInts_any vp vq R R _ op.sl oq.sl).mono ?_
    rintro e w4 ⟨n4, rfl, rfl⟩
    have B4 := blwD B3 n4
    have of1 : OwnB _ _ (w3.drewN n4) v B := OwnC.drewN of1 n4
    have os1 := os1.drewN n4
    have op := op.drewN n4
    clear B3 oq
    generalize w3.drewN n4 = w4 at *
    obtain ⟨av, cv, rfl⟩ := OwnC.slice of1
    obtain ⟨ap, cp, rfl⟩ : ∃ a c, vp = .slice a R.length c := by obtain ⟨a, c, e, _⟩ := op.sl; exact ⟨a, c, e⟩
    have hcp : R.length ≤ cp ∧ cp ≤ maxLen := by obtain ⟨_, _, e, h1, h2, _⟩ := op.sl; injection e with _ _ e; subst e; exact ⟨h1, h2⟩
    unfold maxLen at hcp
    by_cases h0 : R.length = 0
    · obtain rfl : R = [] := List.length_eq_zero_iff.1 h0
      have op0 : SlI w4 (.slice ap 0 cp) [] := op.sl
      clear h0 hRl HPf op
      go_wp2_with fail
      refine (HSp.out _ of1.sl os1).mono ?_
      rintro e w5 ⟨vq, rfl, oq, b5⟩
      have B5 := B4.trans (b5.mono B4.size)
      have op := op0.below b5
      go_wp2_with fail
      refine (equalInts_any (.slice ap 0 cp) vq [] [] _ op oq.sl).mono ?_
      rintro e w6 ⟨n6, rfl, rfl⟩
      go_wp2_with fail
      go_ret
      exact ⟨by simp, blwD B5 n6⟩
    · obtain ⟨ln, rfl, hn1, hn2, hok, hkk, hRe0⟩ := HPf.out h0
      have HRe := Lib.hid hRe0
      clear hRe0
      have hd : ((R.length : Int) == 0) = false := by rw [beq_eq_false_iff_ne]; omega
      obtain ⟨w5, hmk, hown, hb5⟩ := make_ten w4
      have HZ5 := Lib.hid (own_rowD (L := zeroK) hown rfl).sl
      have B5 := B4.trans (hb5.mono B4.size)
      have of5 : OwnB _ _ w5 (.slice av B.length cv) B := OwnC.below of1 hb5
      have op5 := op.below hb5
      clear hown hb5 B4 op of1 os1 HSp HPf
      go_wp2_with fail
      refine (pagesOf_all _ _ B (ln : Int) zeroK _ of5.sl HZ5.out (HT.out.below B5)).mono ?_
      rintro e w6 ⟨vs, rfl, os, b6⟩
      have B6 := Lib.hid (B5.trans (b6.mono B5.size))
      have of6 := of5.sl.below b6
      have op6 := op5.below b6
      have hRe := HRe.out
      have hse : pagesS B (ln : Int) zeroK = pagesF B ln zeroK B.length := by
        unfold pagesS; rw [hok, zeroK_ok, decide_eq_true (show 1 ≤ (ln : Int) ∧ (ln : Int) ≤ 40 by omega), Int.toNat_natCast]; rfl
      rw [hse] at os
      have hRl2 : R.length = B.length := by rw [hRe, pagesF_len]
      have hBl := (okB_at hok).1
      obtain ⟨asm, cs, rfl⟩ : ∃ a c, vs = .slice a B.length c := by obtain ⟨a, c, e, _⟩ := os.sl; rw [pagesF_len] at e; exact ⟨a, c, e⟩
      have HCs := Lib.hid (fun k (hk : k < B.length) => (os.sl.cells (n := B.length) (by omega)))
      have HCp := Lib.hid (fun k (hk : k < B.length) => (op6.sl.cells (n := R.length) (by omega)))
      have HCb := Lib.hid (fun k (hk : k < B.length) => (of6.cells (by omega)).2)
      have HAt : Hid (∀ k, k ≤ B.length → atF B zeroK k ≤ 880) := Lib.hid (fun k hk => by have := atF_bd hok zeroK_ok k hk; omega)
      have HSt : Hid (∀ k, atF B zeroK (k + 1) = atF B zeroK k + (bl B k).toNat) := Lib.hid (fun k => by
        rw [atF, zeroK_at]
        have : ndg (0 : Int).toNat = 1 := ndg_small (by decide)
        rw [this]; split <;> omega)
      have HLn := Lib.hid (fun k (hk : k < B.length) => (okB1_at ((okB_at hok).2 k hk)).1)
      have HSm : Hid (∀ k, k < B.length → (pagesF B ln zeroK B.length).getD k 0 = ((atF B zeroK k / ln + 1 : Nat) : Int) ∧ (pagesF B ln zeroK B.length).getD k 0 ≤ R.getD k 0) := Lib.hid (fun k hk => by
        rw [hRe, pagesF_at _ _ _ _ _ hk, pagesF_at _ _ _ _ _ hk]
        refine ⟨rfl, ?_⟩
        have a := atF_mono (B := B) (K := zeroK) (K' := K) (fun i => by rw [zeroK_at]; exact (okK_getD hkk i).1) k
        have : atF B zeroK k / ln ≤ atF B K k / ln := Nat.div_le_div_right a
        generalize atF B zeroK k / ln = q1 at *
        generalize atF B K k / ln = q2 at *
        omega)
      have hln0 : ((ln : Int) == 0) = false := by rw [beq_eq_false_iff_ne]; omega
      have hnb : ((B.length : Int) != (B.length : Int)) = false := by simp
      have hA0 : Hid (atF B zeroK 0 = 0) := Lib.hid rfl
      rw [hRl2] at hcp HCp
      clear hRe HRe hse hok hkk os of6 op6 b6 of5 op5 B5 hd h0 hRl HZ5
      generalize pagesF B ln zeroK B.length = Z at *
      generalize B.length = n at *
      go_wp2_with fail
      go_loopw [8, 9] (fun t i wr => ∃ (k m : Nat), k ≤ n ∧ i = .int .i64 k ∧ t = .int .i64 m ∧ Hid (atF B zeroK k = m) ∧ ∃ q, wr = w6.drewN q) (fun _ i _ => n - (intOf i).toNat)
      case atStart => exact ⟨0, 0, by omega, rfl, rfl, hA0, 0, rfl⟩
      case round =>
        obtain ⟨k, m, hk, rfl, rfl, HM, q, rfl⟩ := hrel
        have hm8 := HAt.out k hk
        rw [HM.out] at hm8
        by_cases hlt : k < n
        · obtain ⟨b1, o1, rfl, _, hc1⟩ := HCs.out k hlt
          obtain ⟨b2, o2, rfl, _, hc2⟩ := HCp.out k hlt
          obtain ⟨b3, o3, rfl, _, hc3⟩ := HCb.out k hlt
          have c1 := hc1 k hlt
          have c2 := hc2 k hlt
          have c3 := (hc3 k hlt).1
          obtain ⟨g1, g2⟩ := HSm.out k hlt
          rw [HM.out] at g1
          have HS := Lib.hid (HSt.out k)
          rw [HM.out] at HS
          have hbl := HLn.out k hlt
          obtain ⟨x, hx⟩ := Int.eq_ofNat_of_zero_le (show 0 ≤ bl B k by omega)
          rw [hx] at c3 HS hbl
          rw [Int.toNat_natCast] at HS
          have hdv : 0 ≤ (m : Int) / (ln : Int) ∧ (m : Int) / (ln : Int) ≤ 880 := by
            have e : (m : Int) / (ln : Int) = ((m / ln : Nat) : Int) := by simp
            have hq : m / ln ≤ m := Nat.div_le_self _ _
            rw [e]
            generalize m / ln = qq at *
            omega
          have e1 : Z.getD k 0 = (m : Int) / (ln : Int) + 1 := by rw [g1]; simp
          rw [e1] at c1 g2
          have t1 : (((m : Int) / (ln : Int) + 1) != ((m : Int) / (ln : Int) + 1)) = false := by simp
          have t2 : decide (R.getD k 0 < (m : Int) / (ln : Int) + 1) = false := decide_eq_false (by omega)
          generalize R.getD k 0 = y at *
          clear hc1 hc2 hc3 hx g1 g2 e1
          go_wp2_with fail
          go_quiet (fail)
          go_wp2_with fail
          go_roundw
          case rel => exact ⟨k + 1, m + x, by omega, by go_num, by go_num, HS, _, rfl⟩
          case measure => simp [intOf]; omega
        · obtain rfl : k = n := by omega
          go_wp2_with fail
          go_ret
          exact ⟨rfl, blwD B6.out _⟩
end Go.Proofs.YtgppljadkpoklaaDoor
