/- The laws over columns: each holds for every code. -/
import Derived.Test.YtncbllhgkkkhoaaDrawCols2
import Derived.Test.YtncbllhgkkkhoaaChk
namespace Go.Proofs.Ytncbllhgkkkhoaa
open Go.RowKit
set_option maxHeartbeats 1000000
set_option maxRecDepth 100000

theorem sum_any (v : Value) (L : List Int) (w : World) (hs : SlI w v L) (hl : L.length ≤ 1000000) (hb : ∀ k, k < L.length → 0 ≤ L.getD k 0 ∧ L.getD k 0 ≤ 1000000) :
    Calls Try.prog 23 #[v] w fun e w' => e = .returned (.int .i64 (sumL L)) ∧ w = w' := by
  have HW := Lib.hid hs
  obtain ⟨a, cap, rfl, h2, h3, _⟩ := hs
  unfold maxLen at h3
  have HC : Hid (∀ k, k < L.length → ∃ b off, a = some ⟨b, off, none⟩ ∧ b < w.heap.size ∧ ∀ j, j < L.length → w.cell? ⟨b, off + j, none⟩ = some (.int .i64 (L.getD j 0))) := fun k hk => HW.out.cells (by omega)
  have HK := Lib.hid hb
  have HE : Hid (sumL L = sumTo L L.length) := rfl
  have HSt : Hid (∀ k, sumTo L (k + 1) = sumTo L k + L.getD k 0) := fun k => rfl
  clear HW hb
  generalize hn : L.length = n at *
  clear hn
  go_enter Try.func23, Try.ntmps23
  go_wp2_with fail
  go_loop [3, 4] (fun s i => ∃ k : Nat, k ≤ n ∧ i = .int .i64 k ∧ s = .int .i64 (sumTo L k) ∧ 0 ≤ sumTo L k ∧ sumTo L k ≤ k * 1000000) (fun _ i => n - (intOf i).toNat)
  case atStart => exact ⟨0, by omega, rfl, rfl, by simp [sumTo], by simp [sumTo]⟩
  case round =>
    obtain ⟨k, hk, rfl, rfl, s0, s1⟩ := hrel
    by_cases hlt : k < n
    · obtain ⟨b, off, rfl, hb, hc⟩ := HC.out k hlt
      have c0 := hc k hlt
      have hx := HK.out k hlt
      have HT := Lib.hid (HSt.out k)
      clear hc
      generalize L.getD k 0 = x at *
      generalize hsm : sumTo L k = s at *
      have HSm := Lib.hid hsm
      clear hsm
      go_wp2_with fail
      go_round
      case rel => exact ⟨k + 1, by omega, by go_num, by rw [HT.out], by rw [HT.out]; omega, by rw [HT.out]; omega⟩
      case measure => simp [intOf]; omega
    · obtain rfl : k = n := by omega
      go_wp2_with fail
      go_ret
      rw [HE.out]
      exact ⟨rfl, rfl⟩

theorem needI_some {L : List Int} {h : Int} (hn : 0 ≤ needI L h) : okH L = true ∧ 0 ≤ h ∧ h ≤ 10000 ∧ fitB h L = true ∧ needI L h = cnt h L L.length := by
  unfold needI at hn ⊢
  by_cases h1 : okH L = true ∧ 0 ≤ h ∧ h ≤ 10000
  · rw [if_pos h1] at hn ⊢
    unfold need at hn ⊢
    cases hf : fitB h L
    · rw [hf] at hn; simp at hn
    · exact ⟨h1.1, h1.2.1, h1.2.2, rfl, rfl⟩
  · rw [if_neg h1] at hn; omega
theorem needI_mono {L : List Int} {h h' : Int} (hn : 0 ≤ needI L h) (hh : h ≤ h') (h1 : h' ≤ 10000) : 0 ≤ needI L h' ∧ needI L h' ≤ needI L h := by
  obtain ⟨a, b, c, d, e⟩ := needI_some hn
  have hf := fitB_at d
  have d' : fitB h' L = true := fitB_of (fun k hk => by have := hf k hk; omega)
  have m := cnt_mono h h' L L.length hh b (fun k hk => ⟨((okH_at a).2 k hk).1, hf k hk⟩) L.length (Nat.le_refl _)
  have e' : needI L h' = cnt h' L L.length := by
    unfold needI need
    rw [if_pos ⟨a, by omega, h1⟩, d']; rfl
  rw [e, e']
  omega
theorem needI_len {L : List Int} {h : Int} (hn : 0 ≤ needI L h) : needI L h ≤ L.length ∧ (L.length = 0 → needI L h = 0) ∧ (0 < L.length → 0 < needI L h) := by
  obtain ⟨a, b, c, d, e⟩ := needI_some hn
  have r := room_bd h L L.length b (fun k hk => ⟨((okH_at a).2 k hk).1, fitB_at d k hk⟩) L.length (Nat.le_refl _)
  rw [e]
  refine ⟨by omega, fun h0 => ?_, fun h0 => ?_⟩
  · rw [h0, cnt_zero]; rfl
  · have := r.2.2.2.1 h0; omega

theorem columnsNeeded_walk (a : Option Addr) (len cap : Nat) (zs : List Int) (a2 : Option Addr) (len2 cap2 : Nat) (zs2 : List Int) (w : World) (h : RowIn .u8 w a len cap zs) (h2 : RowIn .u8 w a2 len2 cap2 zs2) :
    Calls Try.prog 5 #[.slice a len cap, .slice a2 len2 cap2] w fun e w' => e = .returned (.bool true) ∧ Below w.heap.size w w' := by
  have hm := h.len_le.1
  have hm2 := h2.len_le.1
  unfold maxLen at hm hm2
  clear h2
  have HR := Lib.hid h; clear h
  by_cases hl : 1048576 < len
  · go_enter Try.func5, Try.ntmps5
    go_wp2
    go_ret
    exact ⟨rfl, Below.refl _ _⟩
  · by_cases hl2 : 1048576 < len2
    · go_enter Try.func5, Try.ntmps5
      go_wp2
      go_ret
      exact ⟨rfl, Below.refl _ _⟩
    · go_enter Try.func5, Try.ntmps5
      go_wp2_with fail
      refine (drawColumnsNeeded_any a len cap zs _ HR.out).mono ?_
      rintro e w1 ⟨v, L, z, hL, hz, rfl, ol, b1⟩
      have hzb : -1 ≤ z ∧ z ≤ 10001 := by simp only [List.mem_cons, List.not_mem_nil, or_false] at hz; omega
      have B1 := b1
      clear hz
      go_wp2_with fail
      refine (columnsNeeded_any v L z _ ol.sl).mono ?_
      rintro e w2 ⟨rfl, b2⟩
      have B2 := B1.trans (b2.mono B1.size)
      have ol := ol.below b2
      clear b1 b2 B1
      have HN : Hid (Calls Try.prog 17 #[v, .int .i64 z] w2 fun e w' => e = .returned (.int .i64 (needI L z)) ∧ w2 = w') := scolumnsNeeded_all v L z _ ol.sl
      have HMo : Hid (0 ≤ needI L z → ∀ h', z ≤ h' → h' ≤ 10000 → 0 ≤ needI L h' ∧ needI L h' ≤ needI L z) := fun hn h' hh h1 => needI_mono hn hh h1
      have HLe : Hid (0 ≤ needI L z → needI L z ≤ L.length ∧ (L.length = 0 → needI L z = 0) ∧ (0 < L.length → 0 < needI L z)) := needI_len
      have HSm : Hid (0 ≤ needI L z → 0 ≤ z ∧ z ≤ 10000) := fun hn => ⟨(needI_some hn).2.1, (needI_some hn).2.2.1⟩
      have HO := Lib.hid ol.sl
      obtain ⟨av, cv, rfl⟩ := slice_len ol
      clear ol
      generalize needI L z = n at *
      have hnn : (n != n) = false := by simp
      by_cases hneg : n < 0
      · go_wp2_with (go_at_call 17; refine HN.out.mono ?_; rintro e w' ⟨rfl, rfl⟩)
        go_ret
        exact ⟨by simp, B2⟩
      · have hnd : decide (n < 0) = false := by simp; omega
        obtain ⟨z0, z1⟩ := HSm.out (by omega)
        obtain ⟨l1, l2, l3⟩ := HLe.out (by omega)
        obtain ⟨r, hr, hr2⟩ : ∃ r : Nat, (len2 : Int) % 20 = r ∧ r < 20 := ⟨len2 % 20, by simp, Nat.mod_lt _ (by omega)⟩
        have HMo := Lib.hid (HMo.out (by omega))
        have hl3 : L.length = 0 ∧ n = 0 ∨ 0 < L.length ∧ 0 < n := by
          rcases Nat.eq_zero_or_pos L.length with h | h
          · exact .inl ⟨h, l2 h⟩
          · exact .inr ⟨h, l3 h⟩
        have HL3 := Lib.hid hl3
        clear l2 l3 hl3 HSm HLe
        by_cases hcap : z + 1 + (r : Int) ≤ 10000
        · have hd : decide ((10000 : Int) < z + 1 + (r : Int)) = false := by simp; omega
          have HM1 := Lib.hid (HMo.out (z + 1 + r) (by omega) hcap)
          clear HMo
          go_wp2_with (go_at_call 17; refine HN.out.mono ?_; rintro e w' ⟨rfl, rfl⟩)
          refine (columnsNeeded_any _ L (z + 1 + r) _ HO.out).mono ?_
          rintro e w3 ⟨rfl, b3⟩
          have B3 := B2.trans (b3.mono B2.size)
          obtain ⟨m1, m2⟩ := HM1.out
          clear HM1 HN b3 hr
          generalize needI L (z + 1 + r) = m at *
          rcases HL3.out with ⟨e1, e2⟩ | ⟨e1, e2⟩
          · clear HL3
            rw [e1]
            subst e2
            have hm0 : m = 0 := by omega
            subst hm0
            go_wp2_with fail
            go_ret
            exact ⟨rfl, B3⟩
          · clear HL3
            have g1 : (n == 0) = false := by rw [beq_eq_false_iff_ne]; omega
            have g2 : ((L.length : Int) == 0) = false := by rw [beq_eq_false_iff_ne]; omega
            go_wp2_with fail
            go_ret
            exact ⟨rfl, B3⟩
        · have hd : decide ((10000 : Int) < z + 1 + (r : Int)) = true := by simp; omega
          have HM1 := Lib.hid (HMo.out 10000 (by omega) (by omega))
          clear HMo
          go_wp2_with (go_at_call 17; refine HN.out.mono ?_; rintro e w' ⟨rfl, rfl⟩)
          refine (columnsNeeded_any _ L 10000 _ HO.out).mono ?_
          rintro e w3 ⟨rfl, b3⟩
          have B3 := B2.trans (b3.mono B2.size)
          obtain ⟨m1, m2⟩ := HM1.out
          clear HM1 HN b3 hr
          generalize needI L 10000 = m at *
          rcases HL3.out with ⟨e1, e2⟩ | ⟨e1, e2⟩
          · clear HL3
            rw [e1]
            subst e2
            have hm0 : m = 0 := by omega
            subst hm0
            go_wp2_with fail
            go_ret
            exact ⟨rfl, B3⟩
          · clear HL3
            have g1 : (n == 0) = false := by rw [beq_eq_false_iff_ne]; omega
            have g2 : ((L.length : Int) == 0) = false := by rw [beq_eq_false_iff_ne]; omega
            go_wp2_with fail
            go_ret
            exact ⟨rfl, B3⟩
end Go.Proofs.Ytncbllhgkkkhoaa
