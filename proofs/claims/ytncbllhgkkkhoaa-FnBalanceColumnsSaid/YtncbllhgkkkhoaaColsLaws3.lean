/- The laws over divided columns: each holds for every code. -/
import Derived.Test.YtncbllhgkkkhoaaColsLaws2
namespace Go.Proofs.Ytncbllhgkkkhoaa
open Go.RowKit
set_option maxHeartbeats 1000000
set_option maxRecDepth 100000

theorem chk_some {L E : List Int} (h : chkB L E = true) : okH L = true ∧ vE E L.length = true ∧ chkN L E = colMax L E E.length := by
  unfold chkB at h
  unfold chkN
  rw [if_pos h]
  rw [Bool.and_eq_true] at h
  exact ⟨h.1, h.2, rfl⟩
theorem chk_facts {L E : List Int} (h : chkB L E = true) : ∃ n : Nat, chkN L E = n ∧ n ≤ 40000 ∧ okH L = true ∧ (∀ k, k < L.length → L.getD k 0 ≤ n) ∧ (n : Int) ≤ sumL L ∧ sumL L ≤ (n : Int) * E.length ∧ E.length ≤ 40 := by
  obtain ⟨h1, h2, h3⟩ := chk_some h
  obtain ⟨v1, v2⟩ := vE_at h2
  obtain ⟨g0, g1⟩ := colMax_ge (L := L) (E := E) E.length
  obtain ⟨n, hn⟩ := Int.eq_ofNat_of_zero_le g0
  have hs := colMax_sum h1 v1 E.length (Nat.le_refl _)
  have hb := (sumTo_okH h1 L.length (Nat.le_refl _)).2
  change sumL L ≤ 40000 at hb
  obtain ⟨p1, p2, _⟩ := parts_say h1 v1 _ g1 E.length (Nat.le_refl _)
  have hf := frm_bd v1 E.length (Nat.le_refl _)
  rw [v2] at p1 p2 hf
  rw [Int.toNat_natCast] at p1
  rw [hn] at p1 p2 hs
  refine ⟨n, by rw [h3, hn], by omega, h1, fun k hk => p2 k (by omega), hs, by rw [Int.mul_comm]; exact p1, by have := (okH_at h1).1; omega⟩

theorem checkColumns_walk (a : Option Addr) (len cap : Nat) (zs : List Int) (w : World) (h : RowIn .u8 w a len cap zs) :
    Calls Try.prog 7 #[.slice a len cap] w fun e w' => e = .returned (.bool true) ∧ Below w.heap.size w w' := by
  have hm := h.len_le.1
  unfold maxLen at hm
  have HR := Lib.hid h; clear h
  by_cases hl : 1048576 < len
  · go_enter Try.func7, Try.ntmps7
    go_wp2
    go_ret
    exact ⟨rfl, Below.refl _ _⟩
  · go_enter Try.func7, Try.ntmps7
    go_wp2_with fail
    refine (drawCheckColumns_any a len cap zs _ HR.out).mono ?_
    rintro e w1 ⟨v, u, L, E, hL, hE, rfl, ol, oe, b1⟩
    have B1 := Lib.hid b1
    clear b1
    have HN : Hid (Calls Try.prog 15 #[v, u] w1 fun e w' => e = .returned (.tuple #[.int .i64 (chkN L E), .bool (chkB L E)]) ∧ w1 = w') := checkColumns_any v u L E _ ol.sl oe.sl
    have HS : Hid (Calls Try.prog 13 #[v, u] w1 fun e w' => e = .returned (.tuple #[.int .i64 (chkN L E), .bool (chkB L E)]) ∧ w1 = w') := scheckColumns_any v u L E _ ol.sl oe.sl
    have hnn : (chkN L E != chkN L E) = false := by simp
    cases hb : chkB L E
    · rw [hb] at HN HS
      go_wp2_with (first | (go_at_call 15; refine HN.out.mono ?_; rintro e w' ⟨rfl, rfl⟩) | (go_at_call 13; refine HS.out.mono ?_; rintro e w' ⟨rfl, rfl⟩))
      go_ret
      exact ⟨by simp, B1.out⟩
    · obtain ⟨n, f1, f2, f3, f4, f5, f6, f7⟩ := chk_facts hb
      have HSu := Lib.hid (sum_ok f3)
      have HLe := Lib.hid f4
      have HSl := Lib.hid ol.sl
      rw [hb, f1] at HN HS
      obtain ⟨av, cv, rfl⟩ := slice_len ol
      obtain ⟨au, cu, rfl⟩ := slice_len oe
      have hnn : ((n : Int) != n) = false := by simp
      have h00 : (n : Int) * (E.length : Int) ≤ 1600000 := by
        have : n * E.length ≤ 40000 * 40 := Nat.mul_le_mul f2 f7
        have e : ((n * E.length : Nat) : Int) = (n : Int) * E.length := Int.natCast_mul n _
        omega
      have h01 : 0 ≤ (n : Int) * (E.length : Int) := Int.mul_nonneg (by omega) (by omega)
      have hw : wrap64 ((n : Int) * (E.length : Int)) = (n : Int) * (E.length : Int) := IntWalk.wrap64_in _ (by omega)
      clear ol oe f1 f3 f4 hb
      go_wp2_with (first | (go_at_call 15; refine HN.out.mono ?_; rintro e w' ⟨rfl, rfl⟩) | (go_at_call 13; refine HS.out.mono ?_; rintro e w' ⟨rfl, rfl⟩))
      go_loop [9] (fun i => ∃ k : Nat, k ≤ L.length ∧ i = .int .i64 k) (fun i => L.length - (intOf i).toNat)
      case atStart => exact ⟨0, by omega, rfl⟩
      case round =>
        obtain ⟨k, hk, rfl⟩ := hrel
        by_cases hlt : k < L.length
        · obtain ⟨b, off, rfl, _, hc⟩ := HSl.out.cells (by omega)
          have c0 := hc k hlt
          have hx := HLe.out k hlt
          clear hc
          generalize L.getD k 0 = x at *
          have hd : decide ((n : Int) < x) = false := by simp; omega
          go_wp2_with fail
          go_round
          case rel => exact ⟨k + 1, by omega, by go_num⟩
          case measure => simp [intOf]; omega
        · have hkl : k = L.length := by omega
          have hd : decide ((k : Int) < (L.length : Int)) = false := by simp; omega
          clear hkl
          go_wp2_with (go_at_call 23; refine (sum_any _ L _ HSl.out HSu.out.1 HSu.out.2).mono ?_; rintro e w' ⟨rfl, rfl⟩)
          go_ret
          exact ⟨rfl, B1.out⟩

theorem balanced_walk (a : Option Addr) (len cap : Nat) (zs : List Int) (w : World) (h : RowIn .u8 w a len cap zs) :
    Calls Try.prog 11 #[.slice a len cap] w fun e w' => e = .returned (.bool true) ∧ Below w.heap.size w w' := by
  have hm := h.len_le.1
  unfold maxLen at hm
  have HR := Lib.hid h; clear h
  by_cases hl : 1048576 < len
  · go_enter Try.func11, Try.ntmps11
    go_wp2
    go_ret
    exact ⟨rfl, Below.refl _ _⟩
  · go_enter Try.func11, Try.ntmps11
    go_wp2_with fail
    refine (drawBalanced_any a len cap zs _ HR.out).mono ?_
    rintro e w1 ⟨v, u, L, E, c, hL, hE, hc1, hc5, rfl, ol, oe, b1⟩
    have B1 := b1
    go_wp2_with fail
    refine (balancedHeight_any v L c _ ol.sl).mono ?_
    rintro e w2 ⟨rfl, b2⟩
    have B2 := Lib.hid (B1.trans (b2.mono B1.size))
    have ol := ol.below b2
    have oe := oe.below b2
    clear b1 B1 b2
    have HN : Hid (Calls Try.prog 15 #[v, u] w2 fun e w' => e = .returned (.tuple #[.int .i64 (chkN L E), .bool (chkB L E)]) ∧ w2 = w') := checkColumns_any v u L E _ ol.sl oe.sl
    have HS : Hid (Calls Try.prog 13 #[v, u] w2 fun e w' => e = .returned (.tuple #[.int .i64 (chkN L E), .bool (chkB L E)]) ∧ w2 = w') := scheckColumns_any v u L E _ ol.sl oe.sl
    have HB : Hid (Calls Try.prog 20 #[v, .int .i64 c] w2 fun e w' => e = .returned (.int .i64 (balI L c)) ∧ w2 = w') := sbalancedHeight_any v L c _ ol.sl
    have HF : Hid (chkB L E = true → 0 ≤ balI L c → E.length ≤ c → balI L c ≤ chkN L E) := by
      intro hb h0 hle
      obtain ⟨h1, h2, h3⟩ := chk_some hb
      obtain ⟨_, _, _, h4⟩ := balI_some (L := L) (c := c) (by omega)
      rw [h3, h4, Int.toNat_natCast]
      exact parts_bal h1 h2 hle
    obtain ⟨au, cu, rfl⟩ := slice_len oe
    clear ol oe
    generalize chkN L E = n at *
    generalize chkB L E = b at *
    generalize balI L c = d at *
    have hnn : (n != n) = false := by simp
    have hnd : (d != d) = false := by simp
    cases b
    · by_cases hd : d < 0
      · go_wp2_with (first | (go_at_call 15; refine HN.out.mono ?_; rintro e w' ⟨rfl, rfl⟩) | (go_at_call 13; refine HS.out.mono ?_; rintro e w' ⟨rfl, rfl⟩) | (go_at_call 20; refine HB.out.mono ?_; rintro e w' ⟨rfl, rfl⟩))
        go_ret
        exact ⟨by simp, B2.out⟩
      · have hdd : decide (d < 0) = false := by simp; omega
        go_wp2_with (first | (go_at_call 15; refine HN.out.mono ?_; rintro e w' ⟨rfl, rfl⟩) | (go_at_call 13; refine HS.out.mono ?_; rintro e w' ⟨rfl, rfl⟩) | (go_at_call 20; refine HB.out.mono ?_; rintro e w' ⟨rfl, rfl⟩))
        go_ret
        exact ⟨by simp, B2.out⟩
    · by_cases hd : d < 0
      · go_wp2_with (first | (go_at_call 15; refine HN.out.mono ?_; rintro e w' ⟨rfl, rfl⟩) | (go_at_call 13; refine HS.out.mono ?_; rintro e w' ⟨rfl, rfl⟩) | (go_at_call 20; refine HB.out.mono ?_; rintro e w' ⟨rfl, rfl⟩))
        go_ret
        exact ⟨by simp, B2.out⟩
      · have hdd : decide (d < 0) = false := by simp; omega
        by_cases hcc : E.length ≤ c
        · have hle := HF.out rfl (by omega) hcc
          have hd2 : decide (c < E.length) = false := by simp; omega
          go_wp2_with (first | (go_at_call 15; refine HN.out.mono ?_; rintro e w' ⟨rfl, rfl⟩) | (go_at_call 13; refine HS.out.mono ?_; rintro e w' ⟨rfl, rfl⟩) | (go_at_call 20; refine HB.out.mono ?_; rintro e w' ⟨rfl, rfl⟩))
          go_ret
          exact ⟨rfl, B2.out⟩
        · have hd2 : decide (c < E.length) = true := by simp; omega
          go_wp2_with (first | (go_at_call 15; refine HN.out.mono ?_; rintro e w' ⟨rfl, rfl⟩) | (go_at_call 13; refine HS.out.mono ?_; rintro e w' ⟨rfl, rfl⟩) | (go_at_call 20; refine HB.out.mono ?_; rintro e w' ⟨rfl, rfl⟩))
          go_ret
          exact ⟨by simp, B2.out⟩

theorem balE_facts {L : List Int} {c : Int} (h : (balE L c).length ≠ 0) : ¬ balI L c < 0 ∧ chkB L (balE L c) = true ∧ chkN L (balE L c) = balI L c ∧ ((balE L c).length : Int) ≤ c := by
  by_cases hneg : balI L c < 0
  · unfold balE at h; rw [if_pos hneg] at h; simp at h
  · obtain ⟨h1, h2, h3, h4⟩ := balI_some hneg
    obtain ⟨g1, g2⟩ := balE_fit hneg
    have e : balE L c = endsF (balI L c) L := by unfold balE; rw [if_neg hneg]
    have hp := endsF_parts (h := balI L c) h1 (by omega) g1
    have hlen := endsF_len (balI L c) L (by omega) h1 g1
    rw [e]
    have hb : chkB L (endsF (balI L c) L) = true := by unfold chkB; rw [h1, hp.1]; rfl
    obtain ⟨_, _, k3⟩ := chk_some hb
    refine ⟨hneg, hb, ?_, by omega⟩
    rw [k3]
    have le1 := colMax_le (L := L) (E := endsF (balI L c) L) (M := balI L c) (by omega) _ hp.2
    have le2 := parts_bal (L := L) (E := endsF (balI L c) L) (c := c.toNat) h1 hp.1 (by omega)
    omega

theorem balanceColumns_walk (a : Option Addr) (len cap : Nat) (zs : List Int) (w : World) (h : RowIn .u8 w a len cap zs) :
    Calls Try.prog 12 #[.slice a len cap] w fun e w' => e = .returned (.bool true) ∧ Below w.heap.size w w' := by
  have hm := h.len_le.1
  unfold maxLen at hm
  have HR := Lib.hid h; clear h
  by_cases hl : 1048576 < len
  · go_enter Try.func12, Try.ntmps12
    go_wp2
    go_ret
    exact ⟨rfl, Below.refl _ _⟩
  · go_enter Try.func12, Try.ntmps12
    go_wp2_with fail
    refine (drawBalanceColumns_any a len cap zs _ HR.out).mono ?_
    rintro e w1 ⟨v, L, z, hL, hz, rfl, ol, b1⟩
    have hzb : 0 ≤ z ∧ z ≤ 9 := by simp only [List.mem_cons, List.not_mem_nil, or_false] at hz; omega
    have B1 := b1
    clear hz
    go_wp2_with fail
    refine (balanceColumns_any v L z _ ol.sl).mono ?_
    rintro e w2 ⟨ve, rfl, oe, b2⟩
    have B2 := B1.trans (b2.mono B1.size)
    have ol := ol.below b2
    clear b1 b2 B1
    go_wp2_with fail
    refine (sbalanceColumns_any v L z _ ol.sl).mono ?_
    rintro e w3 ⟨vs, rfl, os, b3⟩
    have B3 := B2.trans (b3.mono B2.size)
    have ol := ol.below b3
    have oe := oe.below b3
    clear b3 B2
    go_wp2_with fail
    refine (equalInts_any ve vs _ _ _ oe.sl os.sl).mono ?_
    rintro e w4 ⟨n4, rfl, rfl⟩
    have B4 := below_drewN B3 n4
    have ol := ol.drewN n4
    have oe := oe.drewN n4
    clear os B3
    obtain ⟨ae, ce, rfl⟩ := slice_len oe
    by_cases h0 : (balE L z).length = 0
    · rw [h0] at oe ⊢
      go_wp2_with fail
      refine (sbalanceColumns_any v L z _ ol.sl).mono ?_
      rintro e w5 ⟨vs2, rfl, os, b5⟩
      have B5 := B4.trans (b5.mono B4.size)
      have oe := oe.below b5
      go_wp2_with fail
      refine (equalInts_any _ vs2 _ _ _ oe.sl os.sl).mono ?_
      rintro e w6 ⟨n6, rfl, rfl⟩
      go_wp2_with fail
      go_ret
      exact ⟨rfl, below_drewN B5 n6⟩
    · obtain ⟨f1, f2, f3, f4⟩ := balE_facts h0
      have hne : (((balE L z).length : Int) == 0) = false := by rw [beq_eq_false_iff_ne]; omega
      have HN := Lib.hid (checkColumns_any v _ L (balE L z) _ ol.sl oe.sl)
      rw [f2, f3] at HN
      clear f1 f2 f3
      have hbb : (balI L z == balI L z) = true := by simp
      have HOl := Lib.hid ol
      clear ol oe h0
      generalize (balE L z).length = m at *
      go_wp2_with (first | (go_at_call 15; refine HN.out.mono ?_; rintro e w' ⟨rfl, rfl⟩))
      refine (balancedHeight_any v L z _ HOl.out.sl).mono ?_
      rintro e w5 ⟨rfl, b5⟩
      have B5 := B4.trans (b5.mono B4.size)
      clear B4 b5 HN
      go_wp2_with fail
      go_ret
      exact ⟨rfl, B5⟩
end Go.Proofs.Ytncbllhgkkkhoaa
