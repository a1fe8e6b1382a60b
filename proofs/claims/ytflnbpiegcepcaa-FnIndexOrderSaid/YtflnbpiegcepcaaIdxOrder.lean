/- The order of mentions does not matter. -/
import Derived.Test.YtflnbpiegcepcaaIdxLaws
namespace Go.Proofs.Ytflnbpiegcepcaa
open Go.RowKit
set_option maxHeartbeats 4000000
set_option maxRecDepth 100000
set_option linter.unusedVariables false

theorem drop_snoc (M : List Men) (j : Nat) (h : j < M.length) : (M.drop j).reverse = (M.drop (j + 1)).reverse ++ [(mw M j, mp M j)] := by
  rw [List.drop_eq_getElem_cons h, List.reverse_cons, men_at M j h]
theorem indexOrder_law (a : Option Addr) (len cap : Nat) (zs : List Int) (w : World) (h : RowIn .u8 w a len cap zs) :
    Calls Try.prog 3 #[.slice a len cap] w fun e w' => e = .returned (.bool true) ∧ Below w.heap.size w w' := by
  have hlen := h.len_le.1
  unfold maxLen at hlen
  by_cases hl : 1048576 < len
  · go_enter Try.func3, Try.ntmps3
    go_wp2_with fail
    go_ret
    exact ⟨rfl, Below.refl _ _⟩
  · go_enter Try.func3, Try.ntmps3
    go_wp2_with fail
    refine (drawCollectIndex_any a len cap zs w h).mono ?_
    rintro e w1 ⟨v, M, hM, hMs, rfl, o1, b1⟩
    have HZ := Lib.hid (small_of hMs)
    have HZr : Hid (∀ i, i < M.reverse.length → (mw M.reverse i).size ≤ maxLen) := Lib.hid (small_of (fun x hx => hMs x (List.mem_reverse.1 hx)))
    have B1 := b1
    clear h hMs
    go_wp2_with fail
    refine (collectIndex_any v M w1 o1.sl HZ.out).mono ?_
    rintro e w2 ⟨g0, rfl, og, b2⟩
    have B2 := B1.trans (b2.mono B1.size)
    have o2 := OwnC.below o1 b2
    clear o1
    go_wp2_with fail
    refine (scollectIndex_any v M w2 (OwnM.sl o2) HZ.out).mono ?_
    rintro e w3 ⟨u0, rfl, ou, b3⟩
    have HB := Lib.hid (B2.trans (b3.mono B2.size))
    have HG := Lib.hid (og.below b3).sl
    have HU := Lib.hid ou.sl
    have HM := Lib.hid (OwnM.sl (OwnC.below o2 b3))
    obtain ⟨ga, gc, rfl, g1, g2⟩ := HG.out.shape
    obtain ⟨ua, uc, rfl, u1, u2⟩ := HU.out.shape
    obtain ⟨ma, mc, rfl, m1, m2⟩ := HM.out.shape
    unfold maxLen at g2 u2 m2
    have hE40 := (colS_facts M).2.1
    have HC : Hid (∀ (v : Value) (w : World), SlM w v M.reverse → Calls Try.prog 7 #[v] w (GaveE (colS M) w)) := Lib.hid (fun v w h => by
      have := collectIndex_any v M.reverse w h HZr.out
      rwa [colS_rev] at this)
    have HSn := Lib.hid (drop_snoc M)
    have HD0 : Hid ((M.drop 0).reverse = M.reverse) := Lib.hid rfl
    have HDl : Hid (∀ m, m ≤ M.length → (M.drop m).reverse.length = M.length - m) := Lib.hid (fun m hm => by simp)
    have HDN : Hid ((M.drop M.length).reverse = []) := Lib.hid (by simp)
    clear b1 b2 b3 B1 B2 og ou o2 HZ HZr
    generalize colS M = E at *
    obtain ⟨n, hn⟩ : ∃ n, E.length = n := ⟨_, rfl⟩
    obtain ⟨N, hN⟩ : ∃ N, M.length = N := ⟨_, rfl⟩
    rw [hn] at HG HU g1 u1 hE40 ⊢
    rw [hN] at HM m1 hM HSn HDl HDN ⊢
    have HNn := Lib.hid hn
    have HMn := Lib.hid hN
    clear hn hN
    have HO : Hid ((w3.alloc (.cells #[] 28)).ownsRow w3.heap.size 28 2 (.slice (some ⟨w3.heap.size, 0, none⟩) 0 0) (N - N) (mC (M.drop N).reverse)) := by
      rw [HDN.out, Nat.sub_self]
      exact Lib.hid (World.ownsRow_lit w3 #[] 0 (Nat.le_refl _) (Nat.zero_le _) rfl)
    have hb4 : Below w3.heap.size w3 (w3.alloc (.cells #[] 28)) := (Below.refl _ _).alloc (Nat.le_refl _) _
    have HB4 := Lib.hid hb4
    clear hb4
    go_wp2_with fail
    go_loopw [6, 7] (fun v i wr => ∃ (m : Nat) (vv : Value), m ≤ N ∧ i = .int .i64 ((m : Int) - 1) ∧ vv = v ∧ Hid (Below w3.heap.size w3 wr) ∧ Hid (wr.ownsRow w3.heap.size 28 2 vv (N - m) (mC (M.drop m).reverse))) (fun _ i _ => (intOf i + 1).toNat)
    case atStart => exact ⟨N, _, Nat.le_refl _, rfl, rfl, HB4, HO⟩
    case round =>
      obtain ⟨m, vv, hm, rfl, rfl, HBr, HOr⟩ := hrel
      cases m with
      | succ j =>
        have hj1 : ((j + 1 : Nat) : Int) - 1 = (j : Int) := by omega
        rw [hj1]
        have HM2 := HM.out.below HBr.out
        obtain ⟨b', off', rfl, hbl', hat'⟩ := HM2.at (by omega)
        obtain ⟨d0, d1⟩ := hat' j (by omega)
        have HS1 := Lib.hid (HSn.out j (by omega))
        have HL1 : Hid ((M.drop (j + 1)).reverse.length = N - (j + 1)) := Lib.hid (HDl.out (j + 1) hm)
        have hlo : w3.heap.size ≤ wr.heap.size := HBr.out.size
        have HO2 : Hid (wr.ownsRow w3.heap.size 28 2 vv (M.drop (j + 1)).reverse.length (mC (M.drop (j + 1)).reverse)) := Lib.hid (by rw [HL1.out]; exact HOr.out)
        have h10 : (M.drop (j + 1)).reverse.length ≤ 1000000 := by rw [HL1.out]; omega
        have hjj : IntKind.i64.wrap ((j : Int) - 1) = (j : Int) - 1 := IntWalk.i64_in _ (by omega)
        clear hat' HM2 HOr
        go_wp2_with (at_builtin; go_must (refine wpList_append_men wr.heap.size rfl rfl _ _ rfl w3.heap.size _ (M.drop (j + 1)).reverse (mw M j) (mp M j) HO2.out rfl rfl h10 hlo ?_))
        intro v' w8 hown' hgrow
        have HB8 : Hid (Below w3.heap.size w3 w8) := Lib.hid (HBr.out.grown hgrow hlo (fun k hk => (HO2.out.lt k hk).1))
        have HO8 : Hid (w8.ownsRow w3.heap.size 28 2 v' (N - j) (mC (M.drop j).reverse)) := Lib.hid (by
          rw [HS1.out, show N - j = M.length - (j + 1) + 1 by rw [HMn.out]; omega]; exact hown')
        clear hown' hgrow HO2 HBr d0 d1 h10
        go_wp2_with fail
        go_roundw
        case rel => exact ⟨j, _, by omega, rfl, rfl, HB8, HO8⟩
        case measure => simp [intOf]
      | zero =>
        have HR : Hid (SlM wr vv M.reverse) := Lib.hid (by
          have h1 := HOr.out
          rw [HD0.out] at h1
          have h2 : (M.reverse).length = N - 0 := by have := HDl.out 0 (by omega); rwa [HD0.out] at this
          rw [← h2] at h1
          exact OwnM.sl (ownC_of h1))
        have HG4 := Lib.hid (HG.out.below HBr.out)
        have HU4 := Lib.hid (HU.out.below HBr.out)
        have HB5 := Lib.hid (HB.out.trans (HBr.out.mono HB.out.size))
        clear HOr HBr HO HB4 HG HU HM HB HSn HD0 HDl HDN
        generalize wr = W at *
        have hz : ((0 : Nat) : Int) - 1 = -1 := rfl
        rw [hz]
        go_wp2_with fail
        refine (HC.out vv W HR.out).mono ?_
        rintro e w5 ⟨r0, rfl, orr, b5⟩
        have HB := Lib.hid (HB5.out.trans (b5.mono HB5.out.size))
        have HR5 := Lib.hid orr.sl
        have HG := Lib.hid (HG4.out.below b5)
        have HU := Lib.hid (HU4.out.below b5)
        obtain ⟨ra, rc, rfl, r1, r2⟩ := HR5.out.shape
        unfold maxLen at r2
        rw [HNn.out] at HR5 r1 ⊢
        have hnn : ((n : Int) != (n : Int)) = false := by simp
        clear HG4 HU4 HB5 b5 orr HR HC
        go_wp2_with fail
        go_loopw [9] (fun i wr => ∃ k : Nat, k ≤ n ∧ i = .int .i64 k ∧ ∃ q, Hid (wr = w5.drewN q)) (fun i _ => n - (intOf i).toNat)
        case atStart => exact ⟨0, by omega, rfl, 0, Lib.hid rfl⟩
        case round =>
          obtain ⟨k, hk, rfl, q, HQ⟩ := hrel
          by_cases hlt : k < n
          · have hG : SlE wr (.slice ga n gc) E := by rw [HQ.out]; exact HG.out.drewN q
            have hU : SlE wr (.slice ua n uc) E := by rw [HQ.out]; exact HU.out.drewN q
            have hR : SlE wr (.slice ra n rc) E := by rw [HQ.out]; exact HR5.out.drewN q
            obtain ⟨b, off, rfl, hbl, hat⟩ := hG.at (by omega)
            obtain ⟨b', off', rfl, hbl', hat'⟩ := hU.at (by omega)
            obtain ⟨b2, off2, rfl, hbl2, hat2⟩ := hR.at (by omega)
            obtain ⟨vp, c0, c1, hsl⟩ := hat k hlt
            obtain ⟨vp', d0, d1, hsl'⟩ := hat' k hlt
            obtain ⟨vp2, x0, x1, hsl2⟩ := hat2 k hlt
            have HEq : Hid (∀ m, Calls Try.prog 9 #[vp2, vp] (wr.drewN m) fun e w'' => e = .returned (.bool true) ∧ ∃ j, w'' = (wr.drewN m).drewN j) := Lib.hid (fun m => by
              have h := equalInts_any vp2 vp (ep E k) (ep E k) (wr.drewN m) (hsl2.drewN m) (hsl.drewN m)
              rw [decide_eq_true rfl] at h
              refine h.mono ?_
              rintro e w5 ⟨j, rfl, rfl⟩
              exact ⟨rfl, j, rfl⟩)
            obtain ⟨aa, cc, rfl⟩ := SlI.shape hsl
            obtain ⟨aa2, cc2, rfl⟩ := SlI.shape hsl2
            have hss : ((ew E k).toList != (ew E k).toList) = false := by simp
            clear hsl hsl' hsl2 hat hat' hat2 hG hU hR d1
            generalize ew E k = s at *
            generalize (ep E k).length = l at *
            go_wp2_with fail
            go_quiet ((go_at_call 9; exact Calls.quiet_of (HEq.out _)))
            go_wp2_with fail
            go_roundw
            case rel => exact ⟨k + 1, by omega, by go_num, q + nq, Lib.hid (by rw [HQ.out, World.drewN_drewN])⟩
            case measure => simp [intOf]; omega
          · obtain rfl : k = n := by omega
            have HEnd : Hid (Below w.heap.size w wr) := Lib.hid (by rw [HQ.out]; exact below_drewN HB.out q)
            go_wp2_with fail
            go_ret
            exact ⟨rfl, HEnd.out⟩
end Go.Proofs.Ytflnbpiegcepcaa
