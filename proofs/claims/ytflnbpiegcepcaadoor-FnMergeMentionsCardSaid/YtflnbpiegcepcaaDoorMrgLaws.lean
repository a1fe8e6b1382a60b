/- Merging is commutative; merging with nothing changes nothing. -/
import Derived.Test.YtflnbpiegcepcaaDoorDrawIdx
import Derived.Test.YtflnbpiegcepcaaDoorMrg
import Derived.Test.YtflnbpiegcepcaaDoorMrgS
import Derived.Test.YtflnbpiegcepcaaDoorEqualInts
import Derived.BigQuiet
namespace Go.Proofs.YtflnbpiegcepcaaDoor
open Go.RowKit
set_option maxHeartbeats 4000000
set_option maxRecDepth 100000
set_option linter.unusedVariables false

theorem mrgS_words (a b : List Ent) : ∀ i, i < (mrgS a b).length → (ew (mrgS a b) i).size ≤ maxLen :=
  words_at (fun e he => okW_size ((okI_mem (mrgS_ok a b)).2 e he).1)
theorem equalInts_q (u v : Value) (L : List Int) (w : World) (hu : SlI w u L) (hv : SlI w v L) (m : Nat) :
    Calls Tryd.prog 17 #[u, v] (w.drewN m) fun e w'' => e = .returned (.bool true) ∧ ∃ j, w'' = (w.drewN m).drewN j := by
  have h := equalInts_any u v L L (w.drewN m) (hu.drewN m) (hv.drewN m)
  rw [decide_eq_true rfl] at h
  refine h.mono ?_
  rintro e w5 ⟨j, rfl, rfl⟩
  exact ⟨rfl, j, rfl⟩

theorem mergeIndex_law (a : Option Addr) (len cap : Nat) (zs : List Int) (w : World) (h : RowIn .u8 w a len cap zs) (hT : Pow10 w) :
    Calls Tryd.prog 7 #[.slice a len cap] w fun e w' => e = .returned (.bool true) ∧ Below w.heap.size w w' := by
  have hlen := h.len_le.1
  unfold maxLen at hlen
  by_cases hl : 1048576 < len
  · clear hT
    go_enter Tryd.func7, Tryd.ntmps7
    go_wp2_with fail
    go_ret
    exact ⟨rfl, Below.refl _ _⟩
  have HT := Lib.hid (fun w' (b : Below w.heap.size w w') => hT.below b)
  clear hT
  go_enter Tryd.func7, Tryd.ntmps7
  go_wp2_with fail
  refine (drawMergeIndex_any a len cap zs w h).mono ?_
  rintro e w1 ⟨va, vb, A, B, hA, hB, hAw, hBw, rfl, sa, sb, b1⟩
  have HZa := Lib.hid (words_at hAw)
  have HZb := Lib.hid (words_at hBw)
  clear h hAw hBw hA hB
  obtain ⟨aa, ca, rfl, _, _⟩ := sa.shape
  obtain ⟨ab, cb, rfl, _, _⟩ := sb.shape
  have B1 := b1
  go_wp2_with fail
  refine (mergeIndex_any _ _ A B w1 sa sb HZa.out HZb.out (HT.out _ B1)).mono ?_
  rintro e w2 ⟨vm, rfl, om, b2⟩
  have B2 := B1.trans (b2.mono B1.size)
  have sa := sa.below b2
  have sb := sb.below b2
  go_wp2_with fail
  refine (smergeIndex_any _ _ A B w2 sa sb HZa.out HZb.out).mono ?_
  rintro e w3 ⟨vw, rfl, ow, b3⟩
  have B3 := B2.trans (b3.mono B2.size)
  have sa := sa.below b3
  have sb := sb.below b3
  have om := om.below b3
  go_wp2_with fail
  refine (mergeIndex_any _ _ B A w3 sb sa HZb.out HZa.out (HT.out _ B3)).mono ?_
  rintro e w4 ⟨vk, rfl, oc, b4⟩
  rw [mrgS_comm B A] at oc
  have HB := Lib.hid (B3.trans (b4.mono B3.size))
  have HG := Lib.hid (om.below b4).sl
  have HU := Lib.hid (ow.below b4).sl
  have HK := Lib.hid oc.sl
  have hE40 := mrgS_len A B
  have HZ := Lib.hid (mrgS_words A B)
  have HSelf := Lib.hid (mrgS_self (mrgS_ok A B))
  clear sa sb om ow oc b1 b2 b3 b4 B1 B2 B3 HZa HZb
  generalize mrgS A B = E at *
  obtain ⟨ga, gc, rfl, g1, g2⟩ := HG.out.shape
  obtain ⟨ua, uc, rfl, u1, u2⟩ := HU.out.shape
  obtain ⟨ka, kc, rfl, k1, k2⟩ := HK.out.shape
  unfold maxLen at g2 u2 k2
  obtain ⟨n, hn⟩ : ∃ n, E.length = n := ⟨_, rfl⟩
  have HN := Lib.hid hn
  rw [hn] at HG HU HK g1 u1 k1 hE40 ⊢
  clear hn
  have hnn : ((n : Int) != (n : Int)) = false := by simp
  go_wp2_with fail
  go_loopw [8] (fun i wr => ∃ k : Nat, k ≤ n ∧ i = .int .i64 k ∧ ∃ q, Hid (wr = w4.drewN q)) (fun i _ => n - (intOf i).toNat)
  case atStart => exact ⟨0, by omega, rfl, 0, Lib.hid rfl⟩
  case round =>
    obtain ⟨k, hk, rfl, q, HQ⟩ := hrel
    by_cases hlt : k < n
    · have hG : SlE wr (.slice ga n gc) E := by rw [HQ.out]; exact HG.out.drewN q
      have hU : SlE wr (.slice ua n uc) E := by rw [HQ.out]; exact HU.out.drewN q
      have hK : SlE wr (.slice ka n kc) E := by rw [HQ.out]; exact HK.out.drewN q
      obtain ⟨b, off, rfl, hbl, hat⟩ := hG.at (by omega)
      obtain ⟨b', off', rfl, hbl', hat'⟩ := hU.at (by omega)
      obtain ⟨b2, off2, rfl, hbl2, hat2⟩ := hK.at (by omega)
      obtain ⟨vp, c0, c1, hsl⟩ := hat k hlt
      obtain ⟨vp', d0, d1, hsl'⟩ := hat' k hlt
      obtain ⟨vp2, x0, x1, hsl2⟩ := hat2 k hlt
      obtain ⟨Rd, hRd, rd1, rd2, rd3⟩ : ∃ Rd : Value → Prop, Hid (∀ u v m, Rd u → Rd v → Calls Tryd.prog 17 #[u, v] (wr.drewN m) fun e w'' => e = .returned (.bool true) ∧ ∃ j, w'' = (wr.drewN m).drewN j) ∧ Rd vp ∧ Rd vp' ∧ Rd vp2 := ⟨fun u => SlI wr u (ep E k), Lib.hid (fun u v m hu hv => equalInts_q u v (ep E k) wr hu hv m), hsl, hsl', hsl2⟩
      obtain ⟨aa1, cc1, rfl⟩ := SlI.shape hsl
      obtain ⟨aa2, cc2, rfl⟩ := SlI.shape hsl'
      obtain ⟨aa3, cc3, rfl⟩ := SlI.shape hsl2
      have hss : ((ew E k).toList != (ew E k).toList) = false := by simp
      clear hsl hsl' hsl2 hat hat' hat2 hG hU hK
      generalize ew E k = s at *
      generalize (ep E k).length = l at *
      go_wp2_with fail
      go_quiet ((go_at_call 17; exact Calls.quiet_of (hRd.out _ _ _ (by assumption) (by assumption))))
      go_wp2_with fail
      go_roundw
      case rel => exact ⟨k + 1, by omega, by go_num, q + nq, Lib.hid (by rw [HQ.out, World.drewN_drewN])⟩
      case measure => simp [intOf]; omega
    · obtain rfl : k = n := by omega
      have hW : Hid (Below w.heap.size w wr) := Lib.hid (by rw [HQ.out]; exact bel_drewN' HB.out q)
      have hG : SlE wr (.slice ga k gc) E := by rw [HQ.out]; exact HG.out.drewN q
      have HM := Lib.hid (mergeIndex_any (.slice ga k gc) (.slice ga k gc) E E wr hG hG HZ.out HZ.out (HT.out _ hW.out))
      have HG := Lib.hid hG
      clear hG HU HK HB HQ hk
      generalize wr = W1 at *
      rw [HSelf.out] at HM
      go_wp2_with fail
      refine HM.out.mono ?_
      rintro e w5 ⟨vr, rfl, orr, b5⟩
      have HB := Lib.hid (hW.out.trans (b5.mono hW.out.size))
      have HG := Lib.hid (HG.out.below b5)
      have HR := Lib.hid orr.sl
      obtain ⟨ra, rc, rfl, r1, r2⟩ := HR.out.shape
      unfold maxLen at r2
      rw [HN.out] at HR r1 ⊢
      clear HM orr b5 hW
      go_wp2_with fail
      go_loopw [10] (fun i wr => ∃ x : Nat, x ≤ k ∧ i = .int .i64 x ∧ ∃ q, Hid (wr = w5.drewN q)) (fun i _ => k - (intOf i).toNat)
      case atStart => exact ⟨0, by omega, rfl, 0, Lib.hid rfl⟩
      case round =>
        obtain ⟨x, hx, rfl, q, HQ⟩ := hrel
        by_cases hlt : x < k
        · have hG : SlE wr (.slice ga k gc) E := by rw [HQ.out]; exact HG.out.drewN q
          have hR : SlE wr (.slice ra k rc) E := by rw [HQ.out]; exact HR.out.drewN q
          obtain ⟨b, off, rfl, hbl, hat⟩ := hG.at (by omega)
          obtain ⟨b', off', rfl, hbl', hat'⟩ := hR.at (by omega)
          obtain ⟨vp, c0, c1, hsl⟩ := hat x hlt
          obtain ⟨vp', d0, d1, hsl'⟩ := hat' x hlt
          have HEq1 := Lib.hid (equalInts_q vp' vp (ep E x) wr hsl' hsl)
          obtain ⟨aa1, cc1, rfl⟩ := SlI.shape hsl
          obtain ⟨aa2, cc2, rfl⟩ := SlI.shape hsl'
          have hss : ((ew E x).toList != (ew E x).toList) = false := by simp
          clear hsl hsl' hat hat' hG hR
          generalize ew E x = s at *
          generalize (ep E x).length = l at *
          go_wp2_with fail
          go_quiet ((go_at_call 17; exact Calls.quiet_of (HEq1.out _)))
          go_wp2_with fail
          go_roundw
          case rel => exact ⟨x + 1, by omega, by go_num, q + nq, Lib.hid (by rw [HQ.out, World.drewN_drewN])⟩
          case measure => simp [intOf]; omega
        · obtain rfl : x = k := by omega
          have HEnd : Hid (Below w.heap.size w wr) := Lib.hid (by rw [HQ.out]; exact bel_drewN' HB.out q)
          go_wp2_with fail
          go_ret
          exact ⟨rfl, HEnd.out⟩
end Go.Proofs.YtflnbpiegcepcaaDoor
