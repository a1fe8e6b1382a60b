/- An index has all mentions. -/
import Derived.Test.YtflnbpiegcepcaaDrawMen
import Derived.Test.YtflnbpiegcepcaaIdxHas
import Derived.Test.YtflnbpiegcepcaaIdxCol
import Derived.Test.YtflnbpiegcepcaaIdxColS
import Derived.Test.YtflnbpiegcepcaaEqualInts
import Derived.Deep.RegionWith
namespace Go.Proofs.Ytflnbpiegcepcaa
open Go.RowKit
set_option maxHeartbeats 4000000
set_option maxRecDepth 100000
set_option linter.unusedVariables false

theorem isIn_any (v : Value) (L : List Int) (x : Int) (w : World) (h : SlI w v L) :
    Calls Try.prog 10 #[v, .int .i64 x] w (Same w (decide (x ∈ L))) := by
  have HU := Lib.hid h
  obtain ⟨a, cap, rfl, h1, h2, _⟩ := h
  unfold maxLen at h2
  have HIn : Hid (∀ j, j < L.length → L.getD j 0 = x → x ∈ L) := Lib.hid (fun j hj e => by
    rw [← e, List.getD_eq_getElem?_getD, List.getElem?_eq_getElem hj]; exact List.getElem_mem _)
  have HOut : Hid ((∀ j, j < L.length → L.getD j 0 ≠ x) → ¬ x ∈ L) := Lib.hid (fun h hm => by
    obtain ⟨j, hj, e⟩ := List.getElem_of_mem hm
    exact h j hj (by rw [List.getD_eq_getElem?_getD, List.getElem?_eq_getElem hj]; exact e))
  obtain ⟨n, hn⟩ : ∃ n, L.length = n := ⟨_, rfl⟩
  rw [hn] at HU HIn HOut h1 ⊢
  clear hn
  go_enter Try.func10, Try.ntmps10
  go_wp2_with fail
  go_loopw [5] (fun i wr => ∃ k : Nat, k ≤ n ∧ i = .int .i64 k ∧ Hid (∀ j, j < k → L.getD j 0 ≠ x) ∧ wr = w) (fun i _ => n - (intOf i).toNat)
  case atStart => exact ⟨0, by omega, rfl, Lib.hid (fun j hj => by omega), rfl⟩
  case round =>
    obtain ⟨k, hk, rfl, HP, rfl⟩ := hrel
    by_cases hlt : k < n
    · obtain ⟨b, off, rfl, _, h4⟩ := HU.out.cells (by omega)
      have c1 := h4 k hlt
      clear h4
      by_cases hz : L.getD k 0 = x
      · have HF : Hid (x ∈ L) := Lib.hid (HIn.out k hlt hz)
        have hzz : (L.getD k 0 == x) = true := by simpa using hz
        clear hz
        generalize L.getD k 0 = z at *
        go_wp2_with fail
        go_ret
        exact ⟨0, by rw [decide_eq_true HF.out]; rfl, rfl⟩
      · have HP' : Hid (∀ j, j < k + 1 → L.getD j 0 ≠ x) := Lib.hid (fun j hj => by
          by_cases hjk : j = k
          · subst hjk; exact hz
          · exact HP.out j (by omega))
        have hzz : (L.getD k 0 == x) = false := by simpa using hz
        clear hz HP
        generalize L.getD k 0 = z at *
        go_wp2_with fail
        go_roundw
        case rel => exact ⟨k + 1, by omega, by go_num, HP', trivial⟩
        case measure => simp [intOf]; omega
    · obtain rfl : k = n := by omega
      have HF : Hid (¬ x ∈ L) := Lib.hid (HOut.out HP.out)
      go_wp2_with fail
      go_ret
      exact ⟨0, by rw [decide_eq_false HF.out]; rfl, rfl⟩

theorem small_of {M : List Men} (h : ∀ x ∈ M, x.1.size ≤ 10) : ∀ i, i < M.length → (mw M i).size ≤ maxLen := by
  intro i hi
  have := h M[i] (List.getElem_mem _)
  rw [men_at M i hi] at this
  unfold maxLen
  simp only at this
  omega

theorem collectIndex_law (a : Option Addr) (len cap : Nat) (zs : List Int) (w : World) (h : RowIn .u8 w a len cap zs) :
    Calls Try.prog 4 #[.slice a len cap] w fun e w' => e = .returned (.bool true) ∧ Below w.heap.size w w' := by
  have hlen := h.len_le.1
  unfold maxLen at hlen
  by_cases hl : 1048576 < len
  · go_enter Try.func4, Try.ntmps4
    go_wp2_with fail
    go_ret
    exact ⟨rfl, Below.refl _ _⟩
  · go_enter Try.func4, Try.ntmps4
    go_wp2_with fail
    refine (drawCollectIndex_any a len cap zs w h).mono ?_
    rintro e w1 ⟨v, M, hM, hMs, rfl, o1, b1⟩
    have HZ := Lib.hid (small_of hMs)
    have B1 := b1
    clear h hMs
    go_wp2_with fail
    refine (collectIndex_any v M w1 o1.sl HZ.out).mono ?_
    rintro e w2 ⟨g0, rfl, og, b2⟩
    have B2 := B1.trans (b2.mono B1.size)
    have o2 := OwnC.below o1 b2
    clear o1
    go_wp2_with fail
    refine (scollectIndex_any v M w2 (OwnM.sl o2) HZ.out).mono ?_
    rintro e w3 ⟨u0, rfl, ou, b3⟩
    have HB := Lib.hid (B2.trans (b3.mono B2.size))
    have HG := Lib.hid (og.below b3).sl
    have HU := Lib.hid ou.sl
    have HM := Lib.hid (OwnM.sl (OwnC.below o2 b3))
    obtain ⟨ga, gc, rfl, g1, g2⟩ := HG.out.shape
    obtain ⟨ua, uc, rfl, u1, u2⟩ := HU.out.shape
    obtain ⟨ma, mc, rfl, m1, m2⟩ := HM.out.shape
    unfold maxLen at g2 u2 m2
    have HF : Hid (∀ k, k < M.length → 0 < (colS M).length → inE (colS M) (mw M k) (mp M k) (colS M).length = true) := Lib.hid (fun k hk h0 => inE_all h0 hk)
    have hE40 := (colS_facts M).2.1
    have HOk := Lib.hid (colS_facts M).1
    clear b1 b2 b3 B1 B2 og ou o2 HZ
    generalize colS M = E at *
    obtain ⟨n, hn⟩ : ∃ n, E.length = n := ⟨_, rfl⟩
    obtain ⟨N, hN⟩ : ∃ N, M.length = N := ⟨_, rfl⟩
    have HAt : Hid (∀ i, i < n → ep E i ≠ [] ∧ ∀ j, j < i → ltW (ew E j) (ew E i) = true) := Lib.hid (fun i hi => ⟨(okE_at HOk.out (by omega)).2, fun j hj => okE_lt HOk.out hj (by omega)⟩)
    rw [hn] at HG HU HF g1 u1 hE40 ⊢
    rw [hN] at HM HF m1 hM ⊢
    clear hn hN HOk
    have hnn : ((n : Int) != (n : Int)) = false := by simp
    go_wp2_with fail
    go_loopw [6] (fun i wr => ∃ k : Nat, k ≤ n ∧ i = .int .i64 k ∧ ∃ q, Hid (wr = w3.drewN q)) (fun i _ => n - (intOf i).toNat)
    case atStart => exact ⟨0, by omega, rfl, 0, Lib.hid rfl⟩
    case round =>
      obtain ⟨k, hk, rfl, q, HQ⟩ := hrel
      by_cases hlt : k < n
      · have hG : SlE wr (.slice ga n gc) E := by rw [HQ.out]; exact HG.out.drewN q
        have hU : SlE wr (.slice ua n uc) E := by rw [HQ.out]; exact HU.out.drewN q
        obtain ⟨b, off, rfl, hbl, hat⟩ := hG.at (by omega)
        obtain ⟨b', off', rfl, hbl', hat'⟩ := hU.at (by omega)
        obtain ⟨vp, c0, c1, hsl⟩ := hat k hlt
        obtain ⟨vp', d0, d1, hsl'⟩ := hat' k hlt
        have HEq : Hid (∀ m, Calls Try.prog 9 #[vp, vp'] (wr.drewN m) fun e w'' => e = .returned (.bool true) ∧ ∃ j, w'' = (wr.drewN m).drewN j) := Lib.hid (fun m => by
          have h := equalInts_any vp vp' (ep E k) (ep E k) (wr.drewN m) (hsl.drewN m) (hsl'.drewN m)
          rw [decide_eq_true rfl] at h
          refine h.mono ?_
          rintro e w5 ⟨j, rfl, rfl⟩
          exact ⟨rfl, j, rfl⟩)
        obtain ⟨hne, hlw⟩ := HAt.out k hlt
        obtain ⟨aa, cc, rfl⟩ := SlI.shape hsl
        obtain ⟨aa', cc', rfl⟩ := SlI.shape hsl'
        have hss : ((ew E k).toList != (ew E k).toList) = false := by simp
        have hl0 : (((ep E k).length : Int) == 0) = false := by
          have : (ep E k).length ≠ 0 := by simpa using hne
          rw [beq_eq_false_iff_ne]; omega
        clear hsl hsl' hne hat' hG hU
        by_cases hk0 : 0 < k
        · obtain ⟨j, rfl⟩ : ∃ j, k = j + 1 := ⟨k - 1, by omega⟩
          obtain ⟨vq, e0, e1, hslq⟩ := hat j (by omega)
          have hj1 : ((j + 1 : Nat) : Int) - 1 = (j : Int) := by omega
          have hj2 : IntKind.i64.wrap (((j + 1 : Nat) : Int) - 1) = (j : Int) := by rw [hj1]; exact IntWalk.i64_in _ (by omega)
          have hle : Op.bytesLess (ew E (j + 1)).toList (ew E j).toList = false := ltW_asymm (hlw j (by omega))
          have hle2 : ((ew E (j + 1)).toList == (ew E j).toList) = false := by
            rw [beq_eq_false_iff_ne]; exact fun e => ltW_ne (hlw j (by omega)) (toList_inj e).symm
          clear hlw hat e1 hslq
          generalize ew E (j + 1) = s at *
          generalize ew E j = t at *
          generalize (ep E (j + 1)).length = l at *
          go_wp2_with fail
          go_quiet ((go_at_call 9; exact Calls.quiet_of (HEq.out _)))
          go_wp2_with fail
          go_roundw
          case rel => exact ⟨j + 1 + 1, by omega, by go_num, q + nq, Lib.hid (by rw [HQ.out, World.drewN_drewN])⟩
          case measure => simp [intOf]; omega
        · obtain rfl : k = 0 := by omega
          rw [Nat.zero_mul, Nat.add_zero] at c0 d0
          rw [Nat.zero_mul, Nat.add_zero] at c1 d1
          clear hlw hat
          generalize ew E 0 = s at *
          generalize (ep E 0).length = l at *
          go_wp2_with fail
          go_quiet ((go_at_call 9; exact Calls.quiet_of (HEq.out _)))
          go_wp2_with fail
          go_roundw
          case rel => exact ⟨0 + 1, by omega, by go_num, q + nq, Lib.hid (by rw [HQ.out, World.drewN_drewN])⟩
          case measure => simp [intOf]; omega
      · obtain rfl : k = n := by omega
        have HQ0 := HQ
        clear hk HQ
        have hB : Hid (Below w.heap.size w wr) := Lib.hid (by rw [HQ0.out]; exact below_drewN HB.out q)
        clear HB
        generalize wr = W1 at *
        go_wp2_with fail
        by_cases hn0 : 0 < k
        · have hd : decide ((0 : Int) < (k : Int)) = true := decide_eq_true (by omega)
          have hd2 : decide (0 < k) = true := decide_eq_true hn0
          go_loopw [7] (fun i wr' => ∃ x : Nat, x ≤ N ∧ i = .int .i64 x ∧ ∃ q', Hid (wr' = W1.drewN q')) (fun i _ => N - (intOf i).toNat)
          case atStart => exact ⟨0, by omega, rfl, 0, Lib.hid rfl⟩
          case round =>
            obtain ⟨x, hx, rfl, q', HQ⟩ := hrel
            generalize wr = W2 at *
            by_cases hxl : x < N
            · have HFx := Lib.hid (HF.out x hxl hn0)
              go_wp2_with fail
              go_loopw [8, 9] (fun fv i wr2 => ∃ (j : Nat) (f : Bool), j ≤ k ∧ i = .int .i64 j ∧ fv = .bool f ∧ Hid (f = inE E (mw M x) (mp M x) j) ∧ ∃ q'', Hid (wr2 = W1.drewN q'')) (fun _ i _ => k - (intOf i).toNat)
              case atStart => exact ⟨0, false, by omega, rfl, rfl, Lib.hid rfl, q', HQ⟩
              case round =>
                obtain ⟨j, f, hj, rfl, rfl, HV, q2, HQ2⟩ := hrel
                have HSucc := Lib.hid (inE_succ E (mw M x) (mp M x) j)
                by_cases hjl : j < k
                · have hG : SlE wr (.slice ga k gc) E := by rw [HQ2.out, HQ0.out]; exact (HG.out.drewN q).drewN q2
                  have hM2 : SlM wr (.slice ma N mc) M := by rw [HQ2.out, HQ0.out]; exact HM.out
                  obtain ⟨b, off, rfl, hbl, hat⟩ := hG.at (by omega)
                  obtain ⟨b', off', rfl, hbl', hat'⟩ := hM2.at (by omega)
                  obtain ⟨vp, c0, c1, hsl⟩ := hat j hjl
                  obtain ⟨d0, d1⟩ := hat' x hxl
                  have HIn : Hid (∀ m, Calls Try.prog 10 #[vp, .int .i64 (mp M x)] (wr.drewN m) fun e w'' => e = .returned (.bool (decide (mp M x ∈ ep E j))) ∧ ∃ j, w'' = (wr.drewN m).drewN j) := Lib.hid (fun m => by
                    refine (isIn_any vp (ep E j) (mp M x) (wr.drewN m) (hsl.drewN m)).mono ?_
                    rintro e w5 ⟨j, rfl, rfl⟩
                    exact ⟨rfl, j, rfl⟩)
                  obtain ⟨aa, cc, rfl⟩ := SlI.shape hsl
                  clear hsl hat hat' hG hM2
                  cases f with
                  | true =>
                    have HV2 : Hid (true = inE E (mw M x) (mp M x) (j + 1)) := Lib.hid (by rw [HSucc.out, ← HV.out, Bool.true_or])
                    clear HSucc HV HIn
                    generalize ew E j = s at *
                    generalize (ep E j).length = l at *
                    go_wp2_with fail
                    go_quiet (fail)
                    go_wp2_with fail
                    go_roundw
                    case rel => exact ⟨j + 1, true, by omega, by go_num, rfl, HV2, q2 + nq, Lib.hid (by rw [HQ2.out, World.drewN_drewN])⟩
                    case measure => simp [intOf]; omega
                  | false =>
                    by_cases hw : ew E j = mw M x
                    · have HV2 : Hid (decide (mp M x ∈ ep E j) = inE E (mw M x) (mp M x) (j + 1)) := Lib.hid (by rw [HSucc.out, ← HV.out, Bool.false_or, decide_eq_true hw, Bool.true_and])
                      have hwe : ((mw M x).toList == (mw M x).toList) = true := by simp
                      rw [hw] at c0
                      clear HSucc HV hw
                      generalize decide (mp M x ∈ ep E j) = bb at *
                      generalize (ep E j).length = l at *
                      generalize hmw : mw M x = s at *
                      generalize hmp : mp M x = p at *
                      go_wp2_with fail
                      go_quiet ((go_at_call 10; exact Calls.quiet_of (HIn.out _)))
                      go_wp2_with fail
                      go_roundw
                      case rel => exact ⟨j + 1, bb, by omega, by go_num, rfl, HV2, q2 + nq, Lib.hid (by rw [HQ2.out, World.drewN_drewN])⟩
                      case measure => simp [intOf]; omega
                    · have HV2 : Hid (false = inE E (mw M x) (mp M x) (j + 1)) := Lib.hid (by rw [HSucc.out, ← HV.out, decide_eq_false hw, Bool.false_and, Bool.false_or])
                      have hwe : ((ew E j).toList == (mw M x).toList) = false := by
                        rw [beq_eq_false_iff_ne]; exact fun e => hw (toList_inj e)
                      clear HSucc HV HIn hw
                      generalize ew E j = s at *
                      generalize (ep E j).length = l at *
                      generalize hmw : mw M x = s' at *
                      generalize hmp : mp M x = p at *
                      go_wp2_with fail
                      go_quiet (fail)
                      go_wp2_with fail
                      go_roundw
                      case rel => exact ⟨j + 1, false, by omega, by go_num, rfl, HV2, q2 + nq, Lib.hid (by rw [HQ2.out, World.drewN_drewN])⟩
                      case measure => simp [intOf]; omega
                · obtain rfl : j = k := by omega
                  have hf : f = true := by rw [HV.out, HFx.out]
                  subst hf
                  clear HSucc HV HFx
                  go_wp2_with fail
                  go_roundw
                  case rel => exact ⟨x + 1, by omega, by go_num, q2, HQ2⟩
                  case measure => simp [intOf]; omega
            · obtain rfl : x = N := by omega
              have HEnd : Hid (Below w.heap.size w W2) := Lib.hid (by rw [HQ.out]; exact below_drewN hB.out q')
              go_wp2_with fail
              go_ret
              exact ⟨rfl, HEnd.out⟩
        · obtain rfl : k = 0 := by omega
          go_loopw [7] (fun i wr' => i = .int .i64 0 ∧ wr' = W1) (fun i _ => 0)
          case atStart => exact ⟨rfl, rfl⟩
          case round =>
            obtain ⟨rfl, rfl⟩ := hrel
            by_cases hN0 : 0 < N
            · go_wp2_with fail
              go_ret
              exact ⟨rfl, hB.out⟩
            · go_wp2_with fail
              go_ret
              exact ⟨rfl, hB.out⟩
end Go.Proofs.Ytflnbpiegcepcaa
