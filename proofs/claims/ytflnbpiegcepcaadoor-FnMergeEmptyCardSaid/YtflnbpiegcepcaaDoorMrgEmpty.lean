/- Merging with nothing changes nothing. -/
import Derived.Test.YtflnbpiegcepcaaDoorMrgLaws
namespace Go.Proofs.YtflnbpiegcepcaaDoor
open Go.RowKit
set_option maxHeartbeats 4000000
set_option maxRecDepth 100000
set_option linter.unusedVariables false

theorem mergeEmpty_law (a : Option Addr) (len cap : Nat) (zs : List Int) (w : World) (h : RowIn .u8 w a len cap zs) (hT : Pow10 w) :
    Calls Tryd.prog 10 #[.slice a len cap] w fun e w' => e = .returned (.bool true) ∧ Below w.heap.size w w' := by
  have hlen := h.len_le.1
  unfold maxLen at hlen
  by_cases hl : 1048576 < len
  · clear hT
    go_enter Tryd.func10, Tryd.ntmps10
    go_wp2_with fail
    go_ret
    exact ⟨rfl, Below.refl _ _⟩
  have HT := Lib.hid (fun w' (b : Below w.heap.size w w') => hT.below b)
  clear hT
  go_enter Tryd.func10, Tryd.ntmps10
  go_wp2_with fail
  refine (drawMergeIndex_any a len cap zs w h).mono ?_
  rintro e w1 ⟨va, vb, A, B, hA, hB, hAw, hBw, rfl, sa, sb, b1⟩
  have HZa := Lib.hid (words_at hAw)
  have HZb := Lib.hid (words_at hBw)
  clear h hAw hBw hB
  obtain ⟨aa, ca, rfl, a1, a2⟩ := sa.shape
  obtain ⟨ab, cb, rfl, _, _⟩ := sb.shape
  have hb2 : Below w1.heap.size w1 (w1.alloc (.cells #[] 40)) := (Below.refl _ _).alloc (Nat.le_refl _) _
  have B1 := b1.trans (hb2.mono b1.size)
  have sa := sa.below hb2
  have sb := sb.below hb2
  have s0 : SlE (w1.alloc (.cells #[] 40)) (.slice (some ⟨w1.heap.size, 0, none⟩) 0 0) [] := ⟨[], rfl, ⟨_, 0, rfl, Nat.le_refl _, Nat.zero_le _, .inl rfl⟩, fun x hx => by simp at hx⟩
  have HM := Lib.hid (mergeIndex_any _ _ A [] _ sa s0 HZa.out (fun i hi => by simp at hi) (HT.out _ B1))
  clear hb2 b1 s0
  go_wp2_with fail
  generalize w1.alloc (.cells #[] 40) = W1 at *
  refine HM.out.mono ?_
  rintro e w2 ⟨vm, rfl, om, b2⟩
  have B2 := B1.trans (b2.mono B1.size)
  have sa := sa.below b2
  have sb := sb.below b2
  clear HM
  go_wp2_with fail
  refine (mergeIndex_any _ _ A B w2 sa sb HZa.out HZb.out (HT.out _ B2)).mono ?_
  rintro e w3 ⟨vn, rfl, on, b3⟩
  have B3 := B2.trans (b3.mono B2.size)
  have sa := sa.below b3
  have sb := sb.below b3
  have om := om.below b3
  go_wp2_with fail
  refine (smergeIndex_any _ _ A B w3 sa sb HZa.out HZb.out).mono ?_
  rintro e w4 ⟨vw, rfl, ow, b4⟩
  have HB := Lib.hid (B3.trans (b4.mono B3.size))
  have HA := Lib.hid (sa.below b4)
  have HG := Lib.hid (om.below b4).sl
  obtain ⟨na, nc, rfl, n1, n2⟩ := on.sl.shape
  obtain ⟨ua, uc, rfl, u1, u2⟩ := ow.sl.shape
  have hM40 := mrgS_len A B
  unfold maxLen at n2 u2 a2
  have HNo : Hid (okI A = false → mrgS A [] = []) := Lib.hid (fun h => mrgS_no1 h)
  have HYes : Hid (okI A = true → mrgS A [] = A) := Lib.hid (fun h => mrgS_nil_yes h)
  clear sa sb om on ow b2 b3 b4 B1 B2 B3 HZa HZb
  generalize (mrgS A B).length = z at *
  have hzz : ((z : Int) != (z : Int)) = false := by simp
  have hze : ((z : Int) == (z : Int)) = true := by simp
  have HEmp : Hid ((mrgS A []).length = 0 ∨ (mrgS A [] = A ∧ 0 < A.length)) := Lib.hid (by
    cases ho : okI A with
    | false => exact .inl (by rw [HNo.out ho]; rfl)
    | true =>
      rw [HYes.out ho]
      by_cases h0 : A.length = 0
      · exact .inl h0
      · exact .inr ⟨rfl, by omega⟩)
  clear HNo HYes
  generalize mrgS A [] = M at *
  obtain ⟨ga, gc, rfl, g1, g2⟩ := HG.out.shape
  unfold maxLen at g2
  rcases HEmp.out with h0 | ⟨rfl, h0⟩
  · have h00 : (((M.length : Nat) : Int) == 0) = true := by rw [h0]; rfl
    go_wp2_with fail
    go_ret
    exact ⟨rfl, HB.out⟩
  · clear HEmp
    obtain ⟨n, hn⟩ : ∃ n, M.length = n := ⟨_, rfl⟩
    rw [hn] at HG HA g1 a1 hA h0 ⊢
    clear hn
    have h00 : ((n : Int) == 0) = false := by rw [beq_eq_false_iff_ne]; omega
    have hne : ((n : Int) == (n : Int)) = true := by simp
    go_wp2_with fail
    go_loopw [8] (fun i wr => ∃ k : Nat, k ≤ n ∧ i = .int .i64 k ∧ ∃ q, Hid (wr = w4.drewN q)) (fun i _ => n - (intOf i).toNat)
    case atStart => exact ⟨0, by omega, rfl, 0, Lib.hid rfl⟩
    case round =>
      obtain ⟨k, hk, rfl, q, HQ⟩ := hrel
      by_cases hlt : k < n
      · have hG : SlE wr (.slice ga n gc) M := by rw [HQ.out]; exact HG.out.drewN q
        have hU : SlE wr (.slice aa n ca) M := by rw [HQ.out]; exact HA.out.drewN q
        obtain ⟨b, off, rfl, hbl, hat⟩ := hG.at (by omega)
        obtain ⟨b', off', rfl, hbl', hat'⟩ := hU.at (by omega)
        obtain ⟨vp, c0, c1, hsl⟩ := hat k hlt
        obtain ⟨vp', d0, d1, hsl'⟩ := hat' k hlt
        obtain ⟨Rd, hRd, rd1, rd2⟩ : ∃ Rd : Value → Prop, Hid (∀ u v m, Rd u → Rd v → Calls Tryd.prog 17 #[u, v] (wr.drewN m) fun e w'' => e = .returned (.bool true) ∧ ∃ j, w'' = (wr.drewN m).drewN j) ∧ Rd vp ∧ Rd vp' := ⟨fun u => SlI wr u (ep M k), Lib.hid (fun u v m hu hv => equalInts_q u v (ep M k) wr hu hv m), hsl, hsl'⟩
        obtain ⟨aa1, cc1, rfl⟩ := SlI.shape hsl
        obtain ⟨aa2, cc2, rfl⟩ := SlI.shape hsl'
        have hss : ((ew M k).toList != (ew M k).toList) = false := by simp
        clear hsl hsl' hat hat' hG hU
        generalize ew M k = s at *
        generalize (ep M k).length = l at *
        go_wp2_with fail
        go_quiet ((go_at_call 17; exact Calls.quiet_of (hRd.out _ _ _ (by assumption) (by assumption))))
        go_wp2_with fail
        go_roundw
        case rel => exact ⟨k + 1, by omega, by go_num, q + nq, Lib.hid (by rw [HQ.out, World.drewN_drewN])⟩
        case measure => simp [intOf]; omega
      · obtain rfl : k = n := by omega
        have HEnd : Hid (Below w.heap.size w wr) := Lib.hid (by rw [HQ.out]; exact bel_drewN' HB.out q)
        go_wp2_with fail
        go_ret
        exact ⟨rfl, HEnd.out⟩
end Go.Proofs.YtflnbpiegcepcaaDoor
