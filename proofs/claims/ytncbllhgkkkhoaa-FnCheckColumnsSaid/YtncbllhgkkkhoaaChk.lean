/- The largest height of given columns, by the program and by the reference. -/
import Derived.Test.YtncbllhgkkkhoaaChkPlain
namespace Go.Proofs.Ytncbllhgkkkhoaa
open Go.RowKit
set_option maxHeartbeats 1000000
set_option maxRecDepth 100000

theorem validEnds_any (v : Value) (E : List Int) (n : Nat) (w : World) (hs : SlI w v E) (hn : n ≤ 1000000) :
    Calls Try.prog 34 #[v, .int .i64 n] w fun e w' => e = .returned (.bool (vE E n)) ∧ w = w' := by
  have HW := Lib.hid hs
  obtain ⟨a, cap, rfl, h2, h3, _⟩ := hs
  unfold maxLen at h3
  have HC : Hid (∀ k, k < E.length → ∃ b off, a = some ⟨b, off, none⟩ ∧ b < w.heap.size ∧ ∀ j, j < E.length → w.cell? ⟨b, off + j, none⟩ = some (.int .i64 (E.getD j 0))) := fun k hk => HW.out.cells (by omega)
  have HBad : Hid (∀ k, k < E.length → ¬ (frm E k < E.getD k 0 ∧ E.getD k 0 ≤ n) → vE E n = false) := fun k hk hx => vE_bad k hk hx
  have HEnd : Hid (¬ frm E E.length = n → vE E n = false) := vE_end
  have HGood : Hid ((∀ j, j < E.length → frm E j < E.getD j 0 ∧ E.getD j 0 ≤ n) → frm E E.length = n → vE E n = true) := vE_of
  have HSt : Hid (∀ k, frm E (k + 1) = E.getD k 0) := frm_succ E
  have HBd : Hid (∀ k, k ≤ E.length → (∀ j, j < k → frm E j < E.getD j 0 ∧ E.getD j 0 ≤ n) → 0 ≤ frm E k ∧ frm E k ≤ n) := fun k hk h => by
    cases k with
    | zero => rw [frm_zero]; omega
    | succ k =>
      rw [frm_succ]
      have h1 := h k (by omega)
      have : ∀ j, j ≤ k → 0 ≤ frm E j := by
        intro j
        induction j with
        | zero => intro _; rw [frm_zero]; omega
        | succ j ih => intro hj; have := ih (by omega); have := h j (by omega); rw [frm_succ]; omega
      have := this k (Nat.le_refl _)
      omega
  clear HW
  generalize hm : E.length = m at *
  clear hm
  go_enter Try.func34, Try.ntmps34
  go_wp2_with fail
  go_loop [5, 10] (fun s i => ∃ k : Nat, k ≤ m ∧ i = .int .i64 k ∧ s = .int .i64 (frm E k) ∧ Hid (∀ j, j < k → frm E j < E.getD j 0 ∧ E.getD j 0 ≤ n)) (fun _ i => m - (intOf i).toNat)
  case atStart => exact ⟨0, by omega, rfl, rfl, fun j hj => by omega⟩
  case round =>
    obtain ⟨k, hk, rfl, rfl, HP⟩ := hrel
    obtain ⟨f0, f1⟩ := HBd.out k hk HP.out
    by_cases hlt : k < m
    · obtain ⟨b, off, rfl, hb, hc⟩ := HC.out k hlt
      have c0 := hc k hlt
      have HT := Lib.hid (HSt.out k)
      have HB1 := Lib.hid (HBad.out k hlt)
      have HP1 : Hid (frm E k < E.getD k 0 ∧ E.getD k 0 ≤ n → ∀ j, j < k + 1 → frm E j < E.getD j 0 ∧ E.getD j 0 ≤ n) := by
        intro hx j hj
        by_cases hjk : j = k
        · subst hjk; exact hx
        · exact HP.out j (by omega)
      clear hc HP
      generalize E.getD k 0 = x at *
      generalize frm E k = f at *
      by_cases h1 : f < x
      · by_cases h2 : x ≤ n
        · have HP2 := Lib.hid (HP1.out ⟨h1, h2⟩)
          clear HP1 HB1
          go_wp2_with fail
          go_round
          case rel => exact ⟨k + 1, by omega, by go_num, by rw [HT.out], HP2⟩
          case measure => simp [intOf]; omega
        · have HF := Lib.hid (HB1.out (fun h => h2 h.2))
          clear HP1 HB1 HT
          have hd1 : decide (x ≤ f) = false := by simp; omega
          have hd2 : decide ((n : Int) < x) = true := by simp; omega
          go_wp2_with fail
          go_ret
          rw [HF.out]
          exact ⟨rfl, rfl⟩
      · have HF := Lib.hid (HB1.out (fun h => h1 h.1))
        clear HP1 HB1 HT
        have hd1 : decide (x ≤ f) = true := by simp; omega
        go_wp2_with fail
        go_ret
        rw [HF.out]
        exact ⟨rfl, rfl⟩
    · obtain rfl : k = m := by omega
      have HG1 : Hid (frm E k = n → vE E n = true) := HGood.out HP.out
      have HG2 := Lib.hid HEnd.out
      generalize frm E k = f at *
      by_cases h1 : f = n
      · have HF := Lib.hid (HG1.out h1)
        clear HG1 HG2
        have hd : (f == (n : Int)) = true := by simpa using h1
        clear h1
        go_wp2_with fail
        go_ret
        rw [HF.out]
        exact ⟨rfl, rfl⟩
      · have HF := Lib.hid (HG2.out h1)
        clear HG1 HG2
        have hd : (f == (n : Int)) = false := by simpa using h1
        clear h1
        go_wp2_with fail
        go_ret
        rw [HF.out]
        exact ⟨rfl, rfl⟩

theorem SlI.sub {w : World} {b off n cap : Nat} {L : List Int} (h : SlI w (.slice (some ⟨b, off, none⟩) n cap) L) (f t : Nat) (hft : f < t) (ht : t ≤ n) (hb : b < w.heap.size) (hc : ∀ j, j < n → w.cell? ⟨b, off + j, none⟩ = some (.int .i64 (L.getD j 0))) :
    SlI w (.slice (some ⟨b, off + f, none⟩) (t - f) (cap - f)) ((L.drop f).take (t - f)) := by
  obtain ⟨a', cap', e, h1, h2, _⟩ := h
  injection e with e1 e2 e3
  subst e3
  have hl : ((L.drop f).take (t - f)).length = t - f := by simp; omega
  refine ⟨_, cap - f, by rw [hl], by omega, by omega, .inr ⟨b, off + f, rfl, hb, fun i hi => ?_⟩⟩
  rw [hl] at hi
  rw [show off + f + i = off + (f + i) by omega, hc (f + i) (by omega)]
  simp [List.getD_eq_getElem?_getD, hi]

theorem checkColumns_any (v u : Value) (L E : List Int) (w : World) (hs : SlI w v L) (hu : SlI w u E) :
    Calls Try.prog 15 #[v, u] w fun e w' => e = .returned (.tuple #[.int .i64 (chkN L E), .bool (chkB L E)]) ∧ w = w' := by
  have HS := Lib.hid hs
  have HU := Lib.hid hu
  obtain ⟨a, cap, rfl, h2, h3, _⟩ := hs
  obtain ⟨a', cap', rfl, h2', h3', _⟩ := hu
  unfold maxLen at h3 h3'
  cases hok : okH L
  · have HE : Hid (chkN L E = 0 ∧ chkB L E = false) := Lib.hid (by unfold chkN chkB; rw [hok]; exact ⟨rfl, rfl⟩)
    go_enter Try.func15, Try.ntmps15
    go_wp2_with (first | (go_at_call 33; refine (validHeights_any _ L _ HS.out).mono ?_; rintro e w' ⟨rfl, rfl⟩))
    go_ret2
    rw [HE.out.1, HE.out.2]
    exact ⟨rfl, rfl⟩
  · have hk := okH_at hok
    have hl := hk.1
    cases hv : vE E L.length
    · have HE : Hid (chkN L E = 0 ∧ chkB L E = false) := Lib.hid (by unfold chkN chkB; rw [hok, hv]; exact ⟨rfl, rfl⟩)
      clear hk
      go_enter Try.func15, Try.ntmps15
      go_wp2_with (first | (go_at_call 33; refine (validHeights_any _ L _ HS.out).mono ?_; rintro e w' ⟨rfl, rfl⟩) | (go_at_call 34; refine (validEnds_any _ E _ _ HU.out (by omega)).mono ?_; rintro e w' ⟨rfl, rfl⟩))
      go_ret2
      rw [HE.out.1, HE.out.2]
      exact ⟨rfl, rfl⟩
    · have HE : Hid (chkN L E = colMax L E E.length ∧ chkB L E = true) := Lib.hid (by unfold chkN chkB; rw [hok, hv]; exact ⟨rfl, rfl⟩)
      have hva := vE_at hv
      have HFb := Lib.hid (frm_bd hva.1)
      have HVa := Lib.hid hva.1
      have hEl : E.length ≤ 40 := by have := frm_bd hva.1 E.length (Nat.le_refl _); omega
      have HK := Lib.hid hk.2
      have HSb := Lib.hid (sumTo_okH hok)
      have HMx : Hid (∀ k, k ≤ E.length → 0 ≤ colMax L E k ∧ colMax L E k ≤ 40000) := fun k hk => ⟨(colMax_ge k).1, Int.le_trans (colMax_sum hok hva.1 k hk) (sumTo_okH hok L.length (Nat.le_refl _)).2⟩
      have HSt : Hid (∀ k, frm E (k + 1) = E.getD k 0) := frm_succ E
      have HCs : Hid (∀ k, colMax L E (k + 1) = max (colMax L E k) (seg L E k)) := fun k => rfl
      have HC : Hid (∀ k, k < E.length → ∃ b off, a' = some ⟨b, off, none⟩ ∧ b < w.heap.size ∧ ∀ j, j < E.length → w.cell? ⟨b, off + j, none⟩ = some (.int .i64 (E.getD j 0))) := fun k hk => HU.out.cells (by omega)
      have HSeg : Hid (∀ (k f t : Nat), frm E k = f → E.getD k 0 = t → f < t → t ≤ L.length → ∀ b off, a = some ⟨b, off, none⟩ → b < w.heap.size → (∀ j, j < L.length → w.cell? ⟨b, off + j, none⟩ = some (.int .i64 (L.getD j 0))) →
          Calls Try.prog 35 #[.slice (some ⟨b, off + f, none⟩) (t - f) (cap - f)] w fun e w' => e = .returned (.int .i64 (seg L E k)) ∧ w = w') := by
        intro k f t hf ht hft htl b off ha hb hc
        subst ha
        have hl2 : ((L.drop f).take (t - f)).length = t - f := by simp; omega
        have h := sumOf_any _ _ w (SlI.sub HS.out f t hft htl hb hc) (by rw [hl2]; omega) (fun i hi => by
          rw [hl2] at hi
          have e : ((L.drop f).take (t - f)).getD i 0 = L.getD (f + i) 0 := by simp [List.getD_eq_getElem?_getD, hi]
          rw [e]
          have := HK.out (f + i) (by omega)
          omega)
        have e : sumL ((L.drop f).take (t - f)) = seg L E k := by
          unfold sumL seg
          rw [hl2, sumTo_part L f (t - f) (t - f) (Nat.le_refl _) (by omega), hf, ht, Int.toNat_natCast, Int.toNat_natCast, show f + (t - f) = t by omega]
        rw [e] at h
        exact h
      clear hk hva
      generalize hm : E.length = m at *
      clear hm
      go_enter Try.func15, Try.ntmps15
      go_wp2_with (first | (go_at_call 33; refine (validHeights_any _ L _ HS.out).mono ?_; rintro e w' ⟨rfl, rfl⟩) | (go_at_call 34; refine (validEnds_any _ E _ _ HU.out (by omega)).mono ?_; rintro e w' ⟨rfl, rfl⟩))
      go_loop [6, 7, 22] (fun s t i => ∃ k : Nat, k ≤ m ∧ i = .int .i64 k ∧ s = .int .i64 (colMax L E k) ∧ t = .int .i64 (frm E k)) (fun _ _ i => m - (intOf i).toNat)
      case atStart => exact ⟨0, by omega, rfl, rfl, rfl⟩
      case round =>
        obtain ⟨k, hk, rfl, rfl, rfl⟩ := hrel
        obtain ⟨m0, m1⟩ := HMx.out k hk
        obtain ⟨f0, f1, _⟩ := HFb.out k hk
        by_cases hlt : k < m
        · have hva := HVa.out k hlt
          obtain ⟨b', off', rfl, _, hc'⟩ := HC.out k hlt
          have c0 := hc' k hlt
          obtain ⟨b, off, rfl, hb, hc⟩ := HS.out.cells (by omega)
          obtain ⟨f, hf⟩ := Int.eq_ofNat_of_zero_le f0
          obtain ⟨t, ht⟩ := Int.eq_ofNat_of_zero_le (show 0 ≤ E.getD k 0 by omega)
          have HN := Lib.hid (HSeg.out k f t hf ht (by omega) (by omega) b off rfl hb hc)
          have HT1 := Lib.hid (HCs.out k)
          have HT2 := Lib.hid ((HSt.out k).trans ht)
          rw [hf, ht] at hva
          rw [hf]
          rw [ht] at c0
          clear hc' hc HSeg HCs HSt HVa HMx HFb HSb HK HC
          generalize colMax L E k = s at *
          generalize seg L E k = d at *
          obtain ⟨hft, htn⟩ := hva
          have hft2 : f < t := by omega
          have htn2 : t ≤ L.length := by omega
          have htc : t ≤ cap := by omega
          clear hf ht f0 f1
          go_wp2_with (go_at_call 35; refine HN.out.mono ?_; rintro e w' ⟨rfl, rfl⟩)
          go_round
          case rel => exact ⟨k + 1, by omega, by go_num, by rw [HT1.out]; congr 1; rw [Int.max_def]; split <;> split <;> omega, by rw [HT2.out]⟩
          case measure => simp [intOf]; omega
        · obtain rfl : k = m := by omega
          go_wp2_with fail
          go_ret2
          rw [HE.out.1, HE.out.2]
          exact ⟨rfl, rfl⟩

theorem scheckColumns_any (v u : Value) (L E : List Int) (w : World) (hs : SlI w v L) (hu : SlI w u E) :
    Calls Try.prog 13 #[v, u] w fun e w' => e = .returned (.tuple #[.int .i64 (chkN L E), .bool (chkB L E)]) ∧ w = w' := by
  have HS := Lib.hid hs
  have HU := Lib.hid hu
  obtain ⟨a, cap, rfl, h2, h3, _⟩ := hs
  obtain ⟨a', cap', rfl, h2', h3', _⟩ := hu
  unfold maxLen at h3 h3'
  cases hok : okH L
  · have HE : Hid (chkN L E = 0 ∧ chkB L E = false) := Lib.hid (by unfold chkN chkB; rw [hok]; exact ⟨rfl, rfl⟩)
    go_enter Try.func13, Try.ntmps13
    go_wp2_with (first | (go_at_call 32; refine (svalidHeights_any _ L _ HS.out).mono ?_; rintro e w' ⟨rfl, rfl⟩))
    go_ret2
    rw [HE.out.1, HE.out.2]
    exact ⟨rfl, rfl⟩
  · have hk := okH_at hok
    have hl := hk.1
    have HNo : Hid (vE E L.length = false → chkN L E = 0 ∧ chkB L E = false) := Lib.hid (fun hv => by unfold chkN chkB; rw [hok, hv]; exact ⟨rfl, rfl⟩)
    have HYes : Hid (vE E L.length = true → chkN L E = colMax L E E.length ∧ chkB L E = true) := Lib.hid (fun hv => by unfold chkN chkB; rw [hok, hv]; exact ⟨rfl, rfl⟩)
    have HK := Lib.hid hk.2
    have HSb := Lib.hid (sumTo_okH hok)
    have HSg : Hid (∀ k f t : Nat, frm E k = f → E.getD k 0 = t → f < t → t ≤ L.length → seg L E k = sumTo L t - sumTo L f ∧ 0 ≤ seg L E k ∧ seg L E k ≤ 40000) := Lib.hid (fun k f t hf ht hft htl => by
      have e : seg L E k = sumTo L t - sumTo L f := by unfold seg; rw [hf, ht, Int.toNat_natCast, Int.toNat_natCast]
      have m := sumTo_mono (L := L) (n := L.length) (fun k hk2 => (hk.2 k hk2).1) f t (by omega) htl
      have b1 := sumTo_okH hok t htl
      have b2 := sumTo_okH hok f (by omega)
      rw [e]
      exact ⟨rfl, by omega, by omega⟩)
    have HSt : Hid (∀ k, frm E (k + 1) = E.getD k 0) := frm_succ E
    have HCs : Hid (∀ k, colMax L E (k + 1) = max (colMax L E k) (seg L E k)) := fun k => rfl
    have HC : Hid (∀ k, k < E.length → ∃ b off, a' = some ⟨b, off, none⟩ ∧ b < w.heap.size ∧ ∀ j, j < E.length → w.cell? ⟨b, off + j, none⟩ = some (.int .i64 (E.getD j 0))) := fun k hk => HU.out.cells (by omega)
    have HBad : Hid (∀ k, k < E.length → ¬ (frm E k < E.getD k 0 ∧ E.getD k 0 ≤ L.length) → vE E L.length = false) := fun k hk hx => vE_bad k hk hx
    have HEnd : Hid (¬ frm E E.length = L.length → vE E L.length = false) := vE_end
    have HGood : Hid ((∀ j, j < E.length → frm E j < E.getD j 0 ∧ E.getD j 0 ≤ L.length) → frm E E.length = L.length → vE E L.length = true) := vE_of
    have HSS : Hid (∀ k, sumTo L (k + 1) = sumTo L k + L.getD k 0) := fun k => rfl
    clear hk
    have HLn : Hid (L.length = L.length) := rfl
    generalize hm : E.length = m at *
    clear hm
    go_enter Try.func13, Try.ntmps13
    go_wp2_with (first | (go_at_call 32; refine (svalidHeights_any _ L _ HS.out).mono ?_; rintro e w' ⟨rfl, rfl⟩))
    clear hok
    go_loop [6, 7, 8] (fun s t i => ∃ k : Nat, ∃ s0 f0 : Int, k ≤ m ∧ i = .int .i64 k ∧ s = .int .i64 s0 ∧ t = .int .i64 f0 ∧ 0 ≤ s0 ∧ s0 ≤ 40000 ∧ 0 ≤ f0 ∧ f0 ≤ L.length ∧ Hid (colMax L E k = s0 ∧ frm E k = f0 ∧ ∀ j, j < k → frm E j < E.getD j 0 ∧ E.getD j 0 ≤ L.length)) (fun _ _ i => m - (intOf i).toNat)
    case atStart => exact ⟨0, 0, 0, by omega, rfl, rfl, rfl, by omega, by omega, by omega, by omega, rfl, rfl, fun j hj => by omega⟩
    case round =>
      obtain ⟨k, s, fi, hk, rfl, rfl, rfl, s0, s1, f0, f1, HI⟩ := hrel
      by_cases hlt : k < m
      · obtain ⟨b', off', rfl, _, hc'⟩ := HC.out k hlt
        have c0 := hc' k hlt
        have HT2 := Lib.hid (HSt.out k)
        have HB1 := Lib.hid (HBad.out k hlt)
        have HP1 : Hid (frm E k < E.getD k 0 ∧ E.getD k 0 ≤ L.length → ∀ j, j < k + 1 → frm E j < E.getD j 0 ∧ E.getD j 0 ≤ L.length) := by
          intro hx j hj
          by_cases hjk : j = k
          · subst hjk; exact hx
          · exact HI.out.2.2 j (by omega)
        have HSg1 := Lib.hid (HSg.out k)
        have HT1 := Lib.hid (HCs.out k)
        have HIm := Lib.hid HI.out.1
        have HIf := Lib.hid HI.out.2.1
        clear hc' HI HC HSg HCs HBad
        generalize E.getD k 0 = x at *
        by_cases h1 : fi < x
        · by_cases h2 : x ≤ L.length
          · obtain ⟨b, off, rfl, hb, hc⟩ := HS.out.cells (by omega)
            have HCL := Lib.hid hc
            obtain ⟨f, rfl⟩ := Int.eq_ofNat_of_zero_le f0
            obtain ⟨t, rfl⟩ := Int.eq_ofNat_of_zero_le (show 0 ≤ x by omega)
            have HP2 := Lib.hid (HP1.out ⟨by rw [HIf.out]; exact h1, h2⟩)
            have hft : f < t := by omega
            have htl : t ≤ L.length := by omega
            obtain ⟨g1, g2, g3⟩ := HSg1.out f t HIf.out rfl hft htl
            have HSeg := Lib.hid g1
            clear HSg1 HP1 HB1 hc g1
            generalize seg L E k = d at *
            have hd1 : decide ((t : Int) ≤ (f : Int)) = false := by simp; omega
            have hd2 : decide ((L.length : Int) < (t : Int)) = false := by simp; omega
            go_wp2_with fail
            go_loop [9, 10] (fun q i => ∃ j : Nat, f ≤ j ∧ j ≤ t ∧ i = .int .i64 j ∧ q = .int .i64 (sumTo L j - sumTo L f)) (fun _ i => t - (intOf i).toNat)
            case atStart => exact ⟨f, by omega, by omega, rfl, by simp⟩
            case round =>
              obtain ⟨j, hj1, hj2, rfl, rfl⟩ := hrel
              have q1 := HSb.out j (by omega)
              have q2 := HSb.out f (by omega)
              by_cases hjt : j < t
              · have c1 := HCL.out j (by omega)
                have hx := HK.out j (by omega)
                have HSj := Lib.hid (HSS.out j)
                generalize L.getD j 0 = y at *
                generalize sumTo L j = u1 at *
                generalize sumTo L f = u2 at *
                go_wp2_with fail
                go_round
                case rel => exact ⟨j + 1, by omega, by omega, by go_num, by rw [HSj.out]; congr 1; omega⟩
                case measure => simp [intOf]; omega
              · obtain rfl : j = t := by omega
                rw [← HSeg.out]
                clear q1 q2
                go_wp2_with fail
                go_round
                case rel => exact ⟨k + 1, max s d, j, by omega, by go_num, by congr 1; rw [Int.max_def]; split <;> split <;> omega, rfl, by omega, by omega, by omega, by omega, by rw [HT1.out, HIm.out], HT2.out, HP2.out⟩
                case measure => simp [intOf]; omega
          · have HF := Lib.hid (HNo.out (HB1.out (fun h => h2 h.2)))
            have hd1 : decide (x ≤ fi) = false := by simp; omega
            have hd2 : decide ((L.length : Int) < x) = true := by simp; omega
            clear HP1 HB1 HSg1 HT1 HT2
            go_wp2_with fail
            go_ret2
            rw [HF.out.1, HF.out.2]
            exact ⟨rfl, rfl⟩
        · have HF := Lib.hid (HNo.out (HB1.out (fun h => h1 (by rw [← HIf.out]; exact h.1))))
          have hd1 : decide (x ≤ fi) = true := by simp; omega
          clear HP1 HB1 HSg1 HT1 HT2
          go_wp2_with fail
          go_ret2
          rw [HF.out.1, HF.out.2]
          exact ⟨rfl, rfl⟩
      · obtain rfl : k = m := by omega
        by_cases h1 : fi = L.length
        · have HF := Lib.hid (HYes.out (HGood.out HI.out.2.2 (HI.out.2.1.trans h1)))
          have HM := Lib.hid HI.out.1
          have hd : (fi != (L.length : Int)) = false := by simpa using h1
          clear h1
          go_wp2_with fail
          go_ret2
          rw [HF.out.1, HF.out.2, HM.out]
          exact ⟨rfl, rfl⟩
        · have HF := Lib.hid (HNo.out (HEnd.out (fun h => h1 (HI.out.2.1.symm.trans h))))
          have hd : (fi != (L.length : Int)) = true := by simpa using h1
          clear h1
          go_wp2_with fail
          go_ret2
          rw [HF.out.1, HF.out.2]
          exact ⟨rfl, rfl⟩
end Go.Proofs.Ytncbllhgkkkhoaa
