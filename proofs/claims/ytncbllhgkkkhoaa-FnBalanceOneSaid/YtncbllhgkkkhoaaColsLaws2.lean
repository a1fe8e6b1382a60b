/- The laws over balanced columns: each holds for every code. -/
import Derived.Test.YtncbllhgkkkhoaaColsLaws
namespace Go.Proofs.Ytncbllhgkkkhoaa
open Go.RowKit
set_option maxHeartbeats 1000000
set_option maxRecDepth 100000

theorem sum_ok {L : List Int} (hok : okH L = true) : L.length ≤ 1000000 ∧ ∀ k, k < L.length → 0 ≤ L.getD k 0 ∧ L.getD k 0 ≤ 1000000 :=
  ⟨by have := (okH_at hok).1; omega, fun k hk => by have := (okH_at hok).2 k hk; omega⟩
theorem bal_one {L : List Int} (hok : okH L = true) (hs : sumL L ≤ 10000) : balI L 1 = sumL L := by
  have h0 := (sumTo_okH hok L.length (Nat.le_refl _)).1
  have e : balI L 1 = balN L 1 := balI_good (c := 1) hok (by omega) (by omega) hs
  rw [e]
  change 0 ≤ sumL L at h0
  obtain ⟨m, hm⟩ := Int.eq_ofNat_of_zero_le h0
  have h1 : balN L 1 ≤ m := balN_le (goodH_sum hok (by omega) (by omega))
  have hg := balN_good (c := 1) hok (by omega) hs
  unfold goodH at hg
  rw [Bool.and_eq_true, decide_eq_true_eq] at hg
  have b := room_bd (balN L 1) L L.length (by omega) (fun k hk => ⟨((okH_at hok).2 k hk).1, fitB_at hg.1 k hk⟩) L.length (Nat.le_refl _)
  have hsm := b.2.2.2.2
  have h2 : (cnt (balN L 1) L L.length : Int) * (balN L 1 : Int) ≤ 1 * (balN L 1 : Int) := Int.mul_le_mul_of_nonneg_right (by omega) (by omega)
  unfold sumL at hm ⊢
  omega
theorem bal_more {L : List Int} {c c' : Int} (h : 0 ≤ balI L c) (hc : c ≤ c') (h8 : c' ≤ 8) : 0 ≤ balI L c' ∧ balI L c' ≤ balI L c := by
  obtain ⟨h1, h2, h3, h4⟩ := balI_some (L := L) (c := c) (by omega)
  have e : balI L c' = balN L c'.toNat := by unfold balI; rw [if_pos ⟨h1, by omega, h3⟩]
  rw [e, h4]
  have hg := balN_good (c := c.toNat) h1 (by omega) h3
  have : goodH L c'.toNat (balN L c.toNat) = true := by
    unfold goodH at hg ⊢
    rw [Bool.and_eq_true, decide_eq_true_eq] at hg ⊢
    exact ⟨hg.1, by omega⟩
  have := balN_le this
  omega

theorem balanceOne_walk (a : Option Addr) (len cap : Nat) (zs : List Int) (w : World) (h : RowIn .u8 w a len cap zs) :
    Calls Try.prog 8 #[.slice a len cap] w fun e w' => e = .returned (.bool true) ∧ Below w.heap.size w w' := by
  have hm := h.len_le.1
  unfold maxLen at hm
  have HR := Lib.hid h; clear h
  by_cases hl : 1048576 < len
  · go_enter Try.func8, Try.ntmps8
    go_wp2
    go_ret
    exact ⟨rfl, Below.refl _ _⟩
  · go_enter Try.func8, Try.ntmps8
    go_wp2_with fail
    refine (drawBalancedHeight_any a len cap zs _ HR.out).mono ?_
    rintro e w1 ⟨v, L, z, hL, hz, rfl, ol, b1⟩
    have hzb : 0 ≤ z ∧ z ≤ 9 := by simp only [List.mem_cons, List.not_mem_nil, or_false] at hz; omega
    have B1 := b1
    clear hz
    go_wp2_with fail
    refine (balancedHeight_any v L z _ ol.sl).mono ?_
    rintro e w2 ⟨rfl, b2⟩
    have B2 := B1.trans (b2.mono B1.size)
    have ol := ol.below b2
    clear b1 b2 B1
    have HN : Hid (Calls Try.prog 20 #[v, .int .i64 z] w2 fun e w' => e = .returned (.int .i64 (balI L z)) ∧ w2 = w') := sbalancedHeight_any v L z _ ol.sl
    have HOne : Hid (0 ≤ balI L z → balI L 1 = sumL L) := fun h => bal_one (balI_some (L := L) (c := z) (by omega)).1 (balI_some (L := L) (c := z) (by omega)).2.2.1
    have HMo : Hid (0 ≤ balI L z → ∀ c', z ≤ c' → c' ≤ 8 → 0 ≤ balI L c' ∧ balI L c' ≤ balI L z) := fun h c' hc h8 => bal_more h hc h8
    have HSum : Hid (0 ≤ balI L z → L.length ≤ 1000000 ∧ ∀ k, k < L.length → 0 ≤ L.getD k 0 ∧ L.getD k 0 ≤ 1000000) := fun h => sum_ok (balI_some (L := L) (c := z) (by omega)).1
    have HZ : Hid (0 ≤ balI L z → z ≤ 8) := fun h => (balI_some (L := L) (c := z) (by omega)).2.1.2
    have HOl := Lib.hid ol
    clear ol
    generalize hn : balI L z = n at *
    clear hn
    have hnn : (n != n) = false := by simp
    by_cases hneg : n < 0
    · go_wp2_with (go_at_call 20; refine HN.out.mono ?_; rintro e w' ⟨rfl, rfl⟩)
      go_ret
      exact ⟨by simp, B2⟩
    · have hnd : decide (n < 0) = false := by simp; omega
      have hn0 : 0 ≤ n := by omega
      have HOne := Lib.hid (HOne.out hn0)
      have HSum := Lib.hid (HSum.out hn0)
      have HMo := Lib.hid (HMo.out hn0)
      have hz8 := HZ.out hn0
      clear HZ
      go_wp2_with (go_at_call 20; refine HN.out.mono ?_; rintro e w' ⟨rfl, rfl⟩)
      refine (balancedHeight_any v L 1 _ HOl.out.sl).mono ?_
      rintro e w3 ⟨rfl, b3⟩
      have B3 := B2.trans (b3.mono B2.size)
      have HOl := Lib.hid (HOl.out.below b3)
      rw [HOne.out]
      clear b3 B2 HN
      have hss : (sumL L == sumL L) = true := by simp
      by_cases hcap : z + 1 ≤ 8
      · have hd : decide ((8 : Int) < z + 1) = false := by simp; omega
        have HM1 := Lib.hid (HMo.out (z + 1) (by omega) hcap)
        clear HMo
        go_wp2_with (go_at_call 23; refine (sum_any v L _ HOl.out.sl HSum.out.1 HSum.out.2).mono ?_; rintro e w' ⟨rfl, rfl⟩)
        refine (balancedHeight_any v L (z + 1) _ HOl.out.sl).mono ?_
        rintro e w4 ⟨rfl, b4⟩
        have B4 := B3.trans (b4.mono B3.size)
        obtain ⟨m1, m2⟩ := HM1.out
        generalize balI L (z + 1) = m at *
        go_wp2_with fail
        go_ret
        exact ⟨rfl, B4⟩
      · have hd : decide ((8 : Int) < z + 1) = true := by simp; omega
        have HM1 := Lib.hid (HMo.out 8 (by omega) (by omega))
        clear HMo
        go_wp2_with (go_at_call 23; refine (sum_any v L _ HOl.out.sl HSum.out.1 HSum.out.2).mono ?_; rintro e w' ⟨rfl, rfl⟩)
        refine (balancedHeight_any v L 8 _ HOl.out.sl).mono ?_
        rintro e w4 ⟨rfl, b4⟩
        have B4 := B3.trans (b4.mono B3.size)
        obtain ⟨m1, m2⟩ := HM1.out
        generalize balI L 8 = m at *
        go_wp2_with fail
        go_ret
        exact ⟨rfl, B4⟩

theorem bal_facts {L : List Int} {c : Int} (h : 0 ≤ balI L c) : ∃ n m : Nat, balI L c = n ∧ c = m ∧ 1 ≤ m ∧ m ≤ 8 ∧ n ≤ 10000 ∧ okH L = true ∧ 0 ≤ needI L n ∧ needI L n ≤ m ∧ (n = 0 → L.length = 0 ∧ needI L 0 = 0) ∧ (0 < n → needI L ((n : Int) - 1) < 0 ∨ (m : Int) < needI L ((n : Int) - 1)) ∧ sumL L ≤ (n : Int) * m ∧ 0 ≤ sumL L := by
  obtain ⟨h1, h2, h3, h4⟩ := balI_some (L := L) (c := c) (by omega)
  obtain ⟨m, rfl⟩ := Int.eq_ofNat_of_zero_le (show 0 ≤ c by omega)
  rw [Int.toNat_natCast] at h4
  have hg := balN_good (c := m) h1 (by omega) h3
  have ht := balN_top L m
  have e : ∀ k : Nat, k ≤ 10000 → needI L k = need k L := fun k hk => by unfold needI; rw [if_pos ⟨h1, by omega, by omega⟩]
  have g := need_good hg
  refine ⟨balN L m, m, h4, rfl, by omega, by omega, ht, h1, by rw [e _ ht]; exact g.1, by rw [e _ ht]; exact g.2, fun h0 => ?_, fun h0 => ?_, ?_, (sumTo_okH h1 L.length (Nat.le_refl _)).1⟩
  · have hl : L.length = 0 := by
      rcases Nat.eq_zero_or_pos L.length with h | h
      · exact h
      · unfold goodH at hg
        rw [Bool.and_eq_true] at hg
        have a := fitB_at hg.1 0 h
        have b := (okH_at h1).2 0 h
        omega
    refine ⟨hl, ?_⟩
    have := e 0 (by omega)
    rw [show ((0 : Nat) : Int) = 0 from rfl] at this
    rw [this]
    have hf : fitB 0 L = true := fitB_of (fun k hk => by omega)
    unfold need
    rw [hf, if_pos rfl, hl, cnt_zero]
    rfl
  · have hlow : goodH L m (balN L m - 1) = false := balN_low (by omega)
    have hb := need_bad hlow
    have := e (balN L m - 1) (by omega)
    rw [show ((balN L m - 1 : Nat) : Int) = (balN L m : Int) - 1 by omega] at this hb
    rw [this]
    rcases hb with hb | hb
    · exact .inl hb
    · exact .inr hb.2
  · unfold goodH at hg
    rw [Bool.and_eq_true, decide_eq_true_eq] at hg
    have b := room_bd (balN L m) L L.length (by omega) (fun k hk => ⟨((okH_at h1).2 k hk).1, fitB_at hg.1 k hk⟩) L.length (Nat.le_refl _)
    have hsm := b.2.2.2.2
    have h2 : (cnt (balN L m) L L.length : Int) * (balN L m : Int) ≤ (m : Int) * (balN L m : Int) := Int.mul_le_mul_of_nonneg_right (by omega) (by omega)
    rw [Int.mul_comm]
    unfold sumL
    omega

theorem balancedHeight_walk (a : Option Addr) (len cap : Nat) (zs : List Int) (w : World) (h : RowIn .u8 w a len cap zs) :
    Calls Try.prog 9 #[.slice a len cap] w fun e w' => e = .returned (.bool true) ∧ Below w.heap.size w w' := by
  have hm := h.len_le.1
  unfold maxLen at hm
  have HR := Lib.hid h; clear h
  by_cases hl : 1048576 < len
  · go_enter Try.func9, Try.ntmps9
    go_wp2
    go_ret
    exact ⟨rfl, Below.refl _ _⟩
  · go_enter Try.func9, Try.ntmps9
    go_wp2_with fail
    refine (drawBalancedHeight_any a len cap zs _ HR.out).mono ?_
    rintro e w1 ⟨v, L, z, hL, hz, rfl, ol, b1⟩
    have hzb : 0 ≤ z ∧ z ≤ 9 := by simp only [List.mem_cons, List.not_mem_nil, or_false] at hz; omega
    have B1 := b1
    clear hz
    go_wp2_with fail
    refine (balancedHeight_any v L z _ ol.sl).mono ?_
    rintro e w2 ⟨rfl, b2⟩
    have B2 := B1.trans (b2.mono B1.size)
    have ol := ol.below b2
    clear b1 b2 B1
    have HN : Hid (Calls Try.prog 20 #[v, .int .i64 z] w2 fun e w' => e = .returned (.int .i64 (balI L z)) ∧ w2 = w') := sbalancedHeight_any v L z _ ol.sl
    have hnn : (balI L z != balI L z) = false := by simp
    by_cases hneg : balI L z < 0
    · go_wp2_with (go_at_call 20; refine HN.out.mono ?_; rintro e w' ⟨rfl, rfl⟩)
      go_ret
      exact ⟨by simp, B2⟩
    · obtain ⟨n, m, f1, rfl, f3, f4, f5, f6, f7, f8, f9, f10, f11, f12⟩ := bal_facts (L := L) (c := z) (by omega)
      rw [f1] at HN hnn hneg ⊢
      have HS := Lib.hid (sum_ok f6)
      have HLs := Lib.hid f9
      have HLow := Lib.hid f10
      have hnd : decide ((n : Int) < 0) = false := by simp
      have HSl := Lib.hid ol
      obtain ⟨av, cv, rfl⟩ := slice_len ol
      have h80 : (n : Int) * m ≤ 80000 := by
        have : n * m ≤ 10000 * 8 := Nat.mul_le_mul f5 f4
        have e : ((n * m : Nat) : Int) = (n : Int) * m := Int.natCast_mul n m
        omega
      have h00 : 0 ≤ (n : Int) * m := by omega
      clear ol f1 f9 f10 f6
      go_wp2_with (go_at_call 20; refine HN.out.mono ?_; rintro e w' ⟨rfl, rfl⟩)
      refine (columnsNeeded_any _ L n _ HSl.out.sl).mono ?_
      rintro e w3 ⟨rfl, b3⟩
      have B3 := B2.trans (b3.mono B2.size)
      have HSl := Lib.hid (HSl.out.below b3)
      clear b3 B2 HN
      by_cases hn0 : n = 0
      · subst hn0
        obtain ⟨e1, e2⟩ := HLs.out rfl
        have HE2 := Lib.hid e2
        rw [show ((0 : Nat) : Int) = 0 from rfl, HE2.out, e1]
        clear e1 e2 HE2 HLs HLow
        go_wp2_with fail
        go_ret
        exact ⟨rfl, B3⟩
      · have hn1 : ((n : Int) == 0) = false := by rw [beq_eq_false_iff_ne]; omega
        have HLo := Lib.hid (HLow.out (by omega))
        clear HLow HLs
        generalize needI L n = d at *
        go_wp2_with fail
        refine (columnsNeeded_any _ L ((n : Int) - 1) _ HSl.out.sl).mono ?_
        rintro e w4 ⟨rfl, b4⟩
        have B4 := B3.trans (b4.mono B3.size)
        have HSl := Lib.hid (HSl.out.below b4)
        clear b4 B3
        have hlo := HLo.out
        clear HLo
        generalize needI L ((n : Int) - 1) = q at *
        have hw : wrap64 ((n : Int) * (m : Int)) = (n : Int) * (m : Int) := IntWalk.wrap64_in _ (by omega)
        by_cases hq : q < 0
        · clear hlo
          go_wp2_with (go_at_call 23; refine (sum_any _ L _ HSl.out.sl HS.out.1 HS.out.2).mono ?_; rintro e w' ⟨rfl, rfl⟩)
          go_ret
          exact ⟨rfl, B4⟩
        · have hq2 : (m : Int) < q := by omega
          have hq3 : decide (q < 0) = false := by simp; omega
          clear hlo
          go_wp2_with (go_at_call 23; refine (sum_any _ L _ HSl.out.sl HS.out.1 HS.out.2).mono ?_; rintro e w' ⟨rfl, rfl⟩)
          go_ret
          exact ⟨rfl, B4⟩
end Go.Proofs.Ytncbllhgkkkhoaa
