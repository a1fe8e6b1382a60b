/- The laws of CheckResolved and of the least pages. -/
import Derived.Test.YtgppljadkpoklaaDoorDrawCR
import Derived.Test.YtgppljadkpoklaaDoorRefRes
namespace Go.Proofs.YtgppljadkpoklaaDoor
open Go.RowKit
set_option maxHeartbeats 1000000
set_option maxRecDepth 100000

theorem chk_facts {B : List Blk} {z : Int} {K : List Int} (h : chkR B z K = true) : okB B = true ∧ K.length = 10 ∧ (pagesS B z K).length = B.length ∧ (∀ j, j < B.length → 0 ≤ bb B j ∧ bb B j ≤ 9) ∧ ∀ j, j < B.length → 0 < bb B j → K.getD (bb B j).toNat 0 = (pagesS B z K).getD j 0 := by
  unfold chkR at h
  rw [Bool.and_eq_true, Bool.and_eq_true, Bool.and_eq_true, decide_eq_true_eq, decide_eq_true_eq] at h
  obtain ⟨⟨⟨k1, k2⟩, k3⟩, k4⟩ := h
  have e : pagesS B z K = pagesF B z.toNat K B.length := by unfold pagesS; rw [k1, k3, decide_eq_true k2]; rfl
  rw [e]
  refine ⟨k1, (okK_at k3).1, pagesF_len .., okB_labels k1, fun j hj h0 => ?_⟩
  have := lpF_at (P := pagesF B z.toNat K B.length) k1 B.length (Nat.le_refl _) j hj h0
  rw [← this]
  conv => lhs; rw [← k4]
  rfl

theorem checkResolved_walk (a : Option Addr) (len cap : Nat) (zs : List Int) (w : World) (h : RowIn .u8 w a len cap zs) (hT : Pow10 w) :
    Calls Tryd.prog 9 #[.slice a len cap] w fun e w' => e = .returned (.bool true) ∧ Below w.heap.size w w' := by
  have hm := h.len_le.1
  unfold maxLen at hm
  have HR := Lib.hid h; clear h
  by_cases hl : 1048576 < len
  · go_enter Tryd.func9, Tryd.ntmps9
    go_wp2
    go_ret
    exact ⟨rfl, Below.refl _ _⟩
  · have HT := Lib.hid hT
    clear hT
    go_enter Tryd.func9, Tryd.ntmps9
    go_wp2_with fail
    refine (drawCheckResolved_any a len cap zs _ HR.out).mono ?_
    rintro e w1 ⟨v, u, B, z, K, hB, hK, rfl, of1, os1, b1⟩
    have B1 := b1
    clear b1
    go_wp2_with fail
    refine (chkR_any v u B z K _ of1.sl os1 (HT.out.below B1)).mono ?_
    rintro e w2 ⟨rfl, b2⟩
    have B2 := B1.trans (b2.mono B1.size)
    have of1 : OwnB _ _ w2 v B := OwnC.below of1 b2
    have os1 := os1.below b2
    clear b2 B1
    go_wp2_with fail
    refine (schkR_any v u B z K _ of1.sl os1).mono ?_
    rintro e w3 ⟨rfl, b3⟩
    have B3 := B2.trans (b3.mono B2.size)
    have of1 : OwnB _ _ w3 v B := OwnC.below of1 b3
    have os1 := os1.below b3
    clear b3 B2
    cases hc : chkR B z K with
    | false =>
      have HC := Lib.hid hc
      clear hc
      go_wp2_with fail
      refine (schkR_any v u B z K _ of1.sl os1).mono ?_
      rintro e w4 ⟨rfl, b4⟩
      have B4 := B3.trans (b4.mono B3.size)
      rw [HC.out]
      go_wp2_with fail
      go_ret
      exact ⟨rfl, B4⟩
    | true =>
      obtain ⟨f0, f1, f2, f3, f4⟩ := chk_facts hc
      have HL := Lib.hid f3
      have HM := Lib.hid f4
      clear hc f0 f3 f4
      go_wp2_with fail
      refine (pagesOf_all v u B z K _ of1.sl os1 (HT.out.below B3)).mono ?_
      rintro e w4 ⟨vp, rfl, op, b4⟩
      have B4 := Lib.hid (B3.trans (b4.mono B3.size))
      have of1 := of1.sl.below b4
      have os1 := os1.below b4
      have op := op.sl
      clear b4 B3
      generalize pagesS B z K = R at *
      obtain ⟨ab, cb, rfl⟩ : ∃ a c, v = .slice a B.length c := by obtain ⟨a, c, e, _⟩ := of1; exact ⟨a, c, e⟩
      obtain ⟨ap, cp, rfl⟩ : ∃ a c, vp = .slice a B.length c := by obtain ⟨a, c, e, _⟩ := op; rw [f2] at e; exact ⟨a, c, e⟩
      obtain ⟨ak, ck, rfl⟩ : ∃ a c, u = .slice a 10 c := by obtain ⟨a, c, e, _⟩ := os1; rw [f1] at e; exact ⟨a, c, e⟩
      have HCp := Lib.hid (fun k (hk : k < B.length) => (op.cells (n := B.length) (by omega)))
      have HCb := Lib.hid (fun k (hk : k < B.length) => (of1.cells (n := B.length) (by omega)).2)
      obtain ⟨bk, ok, rfl, _, hck⟩ := os1.cells (n := 10) (by omega)
      have HCk := Lib.hid hck
      have hnb : ((B.length : Int) != (B.length : Int)) = false := by simp
      clear op of1 os1 hck
      generalize hn : B.length = n at *
      go_wp2_with fail
      go_loopw [8] (fun i wr => ∃ k : Nat, k ≤ n ∧ i = .int .i64 k ∧ ∃ q, wr = w4.drewN q) (fun i _ => n - (intOf i).toNat)
      case atStart => exact ⟨0, by omega, rfl, 0, rfl⟩
      case round =>
        obtain ⟨k, hk, rfl, q, rfl⟩ := hrel
        by_cases hlt : k < n
        · obtain ⟨b2, o2, rfl, _, hc2⟩ := HCp.out k hlt
          obtain ⟨b3, o3, rfl, _, hc3⟩ := HCb.out k hlt
          have c1 := hc2 k hlt
          obtain ⟨c2, c3, c4⟩ := hc3 k hlt
          have hd1 : decide ((k : Int) < (n : Int)) = true := decide_eq_true (by omega)
          have hd2 : decide (k < n) = true := decide_eq_true hlt
          obtain ⟨l1, l2⟩ := HL.out k hlt
          have hm0 := HM.out k hlt
          clear hc2 hc3
          generalize bb B k = y at *
          generalize bl B k = y1 at *
          generalize br B k = y2 at *
          generalize R.getD k 0 = x at *
          by_cases h0 : 0 < y
          · obtain ⟨m, rfl⟩ := Int.eq_ofNat_of_zero_le l1
            have c5 := HCk.out m (by omega)
            have hm1 := hm0 h0
            rw [Int.toNat_natCast] at hm1
            rw [hm1] at c5
            have hd3 : decide ((0 : Int) < (m : Int)) = true := decide_eq_true h0
            have hd4 : decide (0 < m) = true := decide_eq_true (by omega)
            have hxx : (x != x) = false := by simp
            clear hm0 hm1
            go_wp2_with fail
            go_quiet (fail)
            go_wp2_with fail
            go_roundw
            case rel => exact ⟨k + 1, by omega, by first | rfl | go_num, _, rfl⟩
            case measure => simp [intOf]; omega
          · have hd3 : decide (0 < y) = false := decide_eq_false h0
            clear hm0
            go_wp2_with fail
            go_quiet (fail)
            go_wp2_with fail
            go_roundw
            case rel => exact ⟨k + 1, by omega, by first | rfl | go_num, _, rfl⟩
            case measure => simp [intOf]; omega
        · obtain rfl : k = n := by omega
          have hd1 : decide ((k : Int) < (k : Int)) = false := decide_eq_false (by omega)
          go_wp2_with fail
          go_ret
          exact ⟨rfl, blwD B4.out _⟩

theorem resolveLeast_walk (a : Option Addr) (len cap : Nat) (zs : List Int) (w : World) (h : RowIn .u8 w a len cap zs) (hT : Pow10 w) :
    Calls Tryd.prog 10 #[.slice a len cap] w fun e w' => e = .returned (.bool true) ∧ Below w.heap.size w w' := by
  have hm := h.len_le.1
  unfold maxLen at hm
  have HR := Lib.hid h; clear h
  by_cases hl : 1048576 < len
  · go_enter Tryd.func10, Tryd.ntmps10
    go_wp2
    go_ret
    exact ⟨rfl, Below.refl _ _⟩
  · have HT := Lib.hid hT
    clear hT
    go_enter Tryd.func10, Tryd.ntmps10
    go_wp2_with fail
    refine (drawCheckResolved_any a len cap zs _ HR.out).mono ?_
    rintro e w1 ⟨v, u, B, z, K, hB, hK, rfl, of1, os1, b1⟩
    have B1 := b1
    clear b1
    go_wp2_with fail
    refine (chkR_any v u B z K _ of1.sl os1 (HT.out.below B1)).mono ?_
    rintro e w2 ⟨rfl, b2⟩
    have B2 := B1.trans (b2.mono B1.size)
    have of1 : OwnB _ _ w2 v B := OwnC.below of1 b2
    have os1 := os1.below b2
    clear b2 B1
    go_wp2_with fail
    refine (schkR_any v u B z K _ of1.sl os1).mono ?_
    rintro e w3 ⟨rfl, b3⟩
    have B3 := B2.trans (b3.mono B2.size)
    have of1 : OwnB _ _ w3 v B := OwnC.below of1 b3
    have os1 := os1.below b3
    clear b3 B2
    cases hc : chkR B z K with
    | false =>
      have HC := Lib.hid hc
      clear hc
      go_wp2_with fail
      refine (schkR_any v u B z K _ of1.sl os1).mono ?_
      rintro e w4 ⟨rfl, b4⟩
      have B4 := B3.trans (b4.mono B3.size)
      rw [HC.out]
      go_wp2_with fail
      go_ret
      exact ⟨rfl, B4⟩
    | true =>
      obtain ⟨f0, f1, -, -, -⟩ := chk_facts hc
      have HC := Lib.hid hc
      clear hc f0
      go_wp2_with fail
      refine (resolvePages_any v B z _ of1.sl (HT.out.below B3)).mono ?_
      rintro e w4 ⟨vp, he4, op, b4⟩
      have B4 := Lib.hid (B3.trans (b4.mono B3.size))
      have os1 := os1.below b4
      clear b4 B3 of1
      cases hp : resS B z with
      | none =>
        have e1 : ((resM B z : Nat) : Int) = 0 := by unfold resM; rw [hp]; rfl
        have e2 : resB B z = false := by unfold resB; rw [hp]; rfl
        rw [e1, e2] at he4
        subst he4
        clear e1 e2 hp
        obtain ⟨ap, cp, rfl⟩ : ∃ a c, vp = .slice a (resL B z).length c := by obtain ⟨a, c, e, _⟩ := op.sl; exact ⟨a, c, e⟩
        clear op
        go_wp2_with fail
        go_ret
        exact ⟨rfl, B4.out⟩
      | some t =>
        obtain ⟨R, m⟩ := t
        obtain ⟨-, -, -, s4, -⟩ := resS_some hp
        have HM := Lib.hid (resS_least hp HC.out)
        have e1 : resM B z = m := by unfold resM; rw [hp]; rfl
        have e2 : resB B z = true := by unfold resB; rw [hp]; rfl
        have e3 : resL B z = R := by unfold resL; rw [hp]; rfl
        rw [e1, e2] at he4
        rw [e3] at op
        subst he4
        have op := op.sl
        obtain ⟨ap, cp, rfl⟩ : ∃ a c, vp = .slice a 10 c := by obtain ⟨a, c, e, _⟩ := op; rw [s4] at e; exact ⟨a, c, e⟩
        obtain ⟨ak, ck, rfl⟩ : ∃ a c, u = .slice a 10 c := by obtain ⟨a, c, e, _⟩ := os1; rw [f1] at e; exact ⟨a, c, e⟩
        obtain ⟨bk, ok, rfl, _, hck⟩ := os1.cells (n := 10) (by omega)
        obtain ⟨bp, ob, rfl, _, hcp⟩ := op.cells (n := 10) (by omega)
        have HCk := Lib.hid hck
        have HCp := Lib.hid hcp
        clear e1 e2 e3 hp op os1 hck hcp
        go_wp2_with fail
        go_loopw [10] (fun i wr => ∃ k : Nat, k ≤ 10 ∧ i = .int .i64 k ∧ ∃ q, wr = w4.drewN q) (fun i _ => 10 - (intOf i).toNat)
        case atStart => exact ⟨0, by omega, rfl, 0, rfl⟩
        case round =>
          obtain ⟨k, hk, rfl, q, rfl⟩ := hrel
          by_cases hlt : k < 10
          · have c1 := HCk.out k hlt
            have c2 := HCp.out k hlt
            have hd1 : decide ((k : Int) < 10) = true := decide_eq_true (by omega)
            have hd2 : decide (k < 10) = true := decide_eq_true hlt
            have hd3 : decide (K.getD k 0 < R.getD k 0) = false := decide_eq_false (by have := HM.out k; omega)
            generalize K.getD k 0 = x at *
            generalize R.getD k 0 = y at *
            go_wp2_with fail
            go_quiet (fail)
            go_wp2_with fail
            go_roundw
            case rel => exact ⟨k + 1, by omega, by first | rfl | go_num, _, rfl⟩
            case measure => simp [intOf]; omega
          · obtain rfl : k = 10 := by omega
            go_wp2_with fail
            go_ret
            exact ⟨rfl, blwD B4.out _⟩
end Go.Proofs.YtgppljadkpoklaaDoor
