/- The law of PagesOf. -/
import Derived.Test.YtgppljadkpoklaaDoorDrawPg
namespace Go.Proofs.YtgppljadkpoklaaDoor
open Go.RowKit
set_option maxHeartbeats 600000
set_option maxRecDepth 100000

theorem pagesS_facts {B : List Blk} {z : Int} {K : List Int} (h : ¬ (pagesS B z K).length = 0) : (pagesS B z K).length = B.length ∧ (pagesS B z K).getD 0 0 = 1 ∧ ∀ j, j + 1 < (pagesS B z K).length → (pagesS B z K).getD j 0 ≤ (pagesS B z K).getD (j + 1) 0 := by
  unfold pagesS at *
  split at h
  · rename_i hc
    rw [if_pos hc]
    rw [pagesF_len] at h ⊢
    refine ⟨rfl, ?_, fun j hj => ?_⟩
    · rw [pagesF_at _ _ _ _ _ (by omega)]; simp [atF]
    · rw [pagesF_at _ _ _ _ _ (by omega), pagesF_at _ _ _ _ _ hj]
      have a := atF_step B K j
      have : atF B K j / z.toNat ≤ atF B K (j + 1) / z.toNat := Nat.div_le_div_right a
      generalize atF B K j / z.toNat = q1 at *
      generalize atF B K (j + 1) / z.toNat = q2 at *
      omega
  · simp at h

theorem pagesOf_walk (a : Option Addr) (len cap : Nat) (zs : List Int) (w : World) (h : RowIn .u8 w a len cap zs) (hT : Pow10 w) :
    Calls Tryd.prog 3 #[.slice a len cap] w fun e w' => e = .returned (.bool true) ∧ Below w.heap.size w w' := by
  have hm := h.len_le.1
  unfold maxLen at hm
  have HR := Lib.hid h; clear h
  by_cases hl : 1048576 < len
  · go_enter Tryd.func3, Tryd.ntmps3
    go_wp2
    go_ret
    exact ⟨rfl, Below.refl _ _⟩
  · have HT := Lib.hid hT
    clear hT
    go_enter Tryd.func3, Tryd.ntmps3
    go_wp2_with fail
    refine (drawPagesOf_any a len cap zs _ HR.out).mono ?_
    rintro e w1 ⟨v, u, B, z, K, hB, hK, rfl, of1, os1, b1⟩
    have B1 := b1
    clear b1
    go_wp2_with fail
    refine (pagesOf_all v u B z K _ of1.sl os1 (HT.out.below B1)).mono ?_
    rintro e w2 ⟨vp, rfl, op, b2⟩
    have B2 := B1.trans (b2.mono B1.size)
    have of1 : OwnB _ _ w2 v B := OwnC.below of1 b2
    have os1 := os1.below b2
    clear b2 B1
    go_wp2_with fail
    refine (spagesOf_all v u B z K _ of1.sl os1).mono ?_
    rintro e w3 ⟨vq, rfl, oq, b3⟩
    have B3 := B2.trans (b3.mono B2.size)
    have of1 : OwnB _ _ w3 v B := OwnC.below of1 b3
    have os1 := os1.below b3
    have op := op.below b3
    have HPf := Lib.hid (pagesS_facts (B := B) (z := z) (K := K))
    have HSp := Lib.hid (fun (w' : World) (h : SlB w' v B) (h2 : SlI w' u K) => spagesOf_all v u B z K w' h h2)
    have hRl := pagesS_len B z K
    generalize pagesS B z K = R at *
    clear b3 B2
    go_wp2_with fail
    refine (equalInts_any vp vq R R _ op.sl oq.sl).mono ?_
    rintro e w4 ⟨n4, rfl, rfl⟩
    have B4 := blwD B3 n4
    have of1 : OwnB _ _ (w3.drewN n4) v B := OwnC.drewN of1 n4
    have os1 := os1.drewN n4
    have op := op.drewN n4
    clear B3 oq
    generalize w3.drewN n4 = w4 at *
    obtain ⟨av, cv, rfl⟩ := OwnC.slice of1
    obtain ⟨ap, cp, rfl⟩ : ∃ a c, vp = .slice a R.length c := by obtain ⟨a, c, e, _⟩ := op.sl; exact ⟨a, c, e⟩
    have hcp : R.length ≤ cp ∧ cp ≤ maxLen := by obtain ⟨_, _, e, h1, h2, _⟩ := op.sl; injection e with _ _ e; subst e; exact ⟨h1, h2⟩
    unfold maxLen at hcp
    by_cases h0 : R.length = 0
    · obtain rfl : R = [] := List.length_eq_zero_iff.1 h0
      have op0 : SlI w4 (.slice ap 0 cp) [] := op.sl
      clear h0 hRl HPf op
      go_wp2_with fail
      refine (HSp.out _ of1.sl os1).mono ?_
      rintro e w5 ⟨vq, rfl, oq, b5⟩
      have B5 := B4.trans (b5.mono B4.size)
      have op := op0.below b5
      go_wp2_with fail
      refine (equalInts_any (.slice ap 0 cp) vq [] [] _ op oq.sl).mono ?_
      rintro e w6 ⟨n6, rfl, rfl⟩
      go_wp2_with fail
      go_ret
      exact ⟨by simp, blwD B5 n6⟩
    · obtain ⟨f1, f2, f3⟩ := HPf.out h0
      have hd : ((R.length : Int) == 0) = false := by rw [beq_eq_false_iff_ne]; omega
      have HM := Lib.hid f3
      obtain ⟨b, off, rfl, hb, hc⟩ := op.sl.cells (by omega)
      have HC := Lib.hid hc
      have c0 := hc 0 (by omega)
      rw [f2, Nat.add_zero] at c0
      have HB4 := Lib.hid B4
      have hbl : ((R.length : Int) == (B.length : Int)) = true := by rw [f1]; simp
      clear of1 os1 op HSp HPf f2 f3 hc B4 f1
      generalize R.length = n at *
      have hn1 : 1 ≤ n := by omega
      go_wp2_with fail
      go_loopw [7] (fun i wr => ∃ k : Nat, k + 1 ≤ n ∧ i = .int .i64 ((k : Int) + 1) ∧ ∃ q, wr = w4.drewN q) (fun i _ => n - (intOf i).toNat)
      case atStart => exact ⟨0, by omega, rfl, 0, rfl⟩
      case round =>
        obtain ⟨k, hk, rfl, q, rfl⟩ := hrel
        by_cases hlt : k + 1 < n
        · have c1 := HC.out (k + 1) hlt
          have c2 := HC.out k (by omega)
          have hz : decide (R.getD (k + 1) 0 < R.getD k 0) = false := decide_eq_false (by have := HM.out k hlt; omega)
          have hd1 : decide ((k : Int) + 1 < (n : Int)) = true := decide_eq_true (by omega)
          have hd2 : decide (k + 1 < n) = true := decide_eq_true hlt
          generalize R.getD (k + 1) 0 = x at *
          generalize R.getD k 0 = y at *
          go_wp2_with fail
          go_quiet (fail)
          go_wp2_with fail
          go_roundw
          case rel => exact ⟨k + 1, by omega, by first | rfl | go_num, _, rfl⟩
          case measure => simp [intOf]; omega
        · obtain rfl : n = k + 1 := by omega
          have hd1 : decide ((k : Int) + 1 < ((k + 1 : Nat) : Int)) = false := decide_eq_false (by omega)
          have hbl2 : ((k : Int) + 1 == (B.length : Int)) = true := hbl
          go_wp2_with fail
          go_ret
          exact ⟨rfl, blwD HB4.out _⟩
end Go.Proofs.YtgppljadkpoklaaDoor
