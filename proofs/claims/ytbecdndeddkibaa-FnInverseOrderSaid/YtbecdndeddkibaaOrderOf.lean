/- The program's OrderOf gives ordS. -/
import Derived.Test.YtbecdndeddkibaaOrder
namespace Go.Proofs.Ytbecdndeddkibaa
open Go.RowKit
set_option maxHeartbeats 2000000
set_option maxRecDepth 100000

theorem topOf_snoc (L : List Int) (x : Int) : topOf (L ++ [x]) = max (topOf L) x.toNat := by simp [topOf]
theorem take_snocI (L : List Int) (k : Nat) (h : k < L.length) : L.take (k + 1) = L.take k ++ [L.getD k 0] := by
  rw [List.take_succ_eq_append_getElem h]
  simp [List.getD_eq_getElem?_getD, h]
theorem okL_bad (L : List Int) (k : Nat) (h : k < L.length) (hx : ¬ (0 ≤ L.getD k 0 ∧ L.getD k 0 ≤ 6)) : okL L = false := by
  unfold okL
  rw [Bool.and_eq_false_iff]
  right
  rw [List.all_eq_false]
  exact ⟨L.getD k 0, getD_mem L k h, by simpa using hx⟩
theorem okL_good (L : List Int) (h1 : L.length ≤ 60) (h : ∀ k, k < L.length → 0 ≤ L.getD k 0 ∧ L.getD k 0 ≤ 6) : okL L = true := by
  unfold okL
  rw [Bool.and_eq_true, decide_eq_true_eq, List.all_eq_true]
  refine ⟨h1, fun x hx => ?_⟩
  obtain ⟨i, hi, rfl⟩ := List.mem_iff_getElem.1 hx
  have := h i hi
  simpa [List.getD_eq_getElem?_getD, hi] using this
theorem ordS_no {L : List Int} (h : okL L = false) : ordS L = [] := by unfold ordS; rw [h]; rfl
theorem range_of {n : Nat} {O : List Nat} (hl : O.length = n) (h : ∀ j, j < n → O.getD j 0 = j) : O = List.range n := by
  apply List.ext_getElem
  · simp [hl]
  · intro i h1 h2
    have := h i (by omega)
    rw [List.getElem_range]
    simpa [List.getD_eq_getElem?_getD, h1] using this

theorem orderOf_any (v : Value) (L : List Int) (w : World) (h : SlI w v L) :
    Calls Try.prog 11 #[v] w (GaveI (natI (ordS L)) w) := by
  have HW := Lib.hid h
  obtain ⟨a, cap, rfl, h1, h2, _⟩ := h
  unfold maxLen at h2
  by_cases hn : 60 < L.length
  · have e : ordS L = [] := ordS_no (by unfold okL; simp; omega)
    rw [e]
    go_enter Try.func11, Try.ntmps11
    go_wp2_with fail
    go_ret
    exact ⟨_, rfl, own_nil _ _ _ (Nat.le_refl _), Below.refl _ _⟩
  · obtain ⟨i0, hi, hz0, hz1, hz2⟩ := info_parts intInfo
    obtain ⟨w1, hmk, hown, hgrow⟩ := run_make_full (P := Try.prog) w w.heap.size 22 3 i0 (.int .i64 0) 1 Try.underlying22 hi hz0 hz1 .i64 .i64 L.length (by rw [hz2]; omega) (by unfold maxLen; omega) (Nat.le_refl _)
    have hb1 : Below w.heap.size w w1 := (Below.refl _ _).grown hgrow (Nat.le_refl _) (fun k hk => by simp at hk)
    have e0 : (madeCells (Value.int .i64 0).cells (L.length * 1)).toList = (natI (List.replicate L.length 0)).map (Value.int .i64) := by
      show (madeCells #[Value.int .i64 0] _).toList = _
      rw [toList_madeCells_one]; simp [natI]
    rw [e0] at hown
    have HO : Hid (OrdRow w w1 w.heap.size L.length L.length (List.replicate L.length 0)) := ⟨by simp, hown, hb1⟩
    clear hi hz0 hz1 hz2 hgrow e0 hown hb1
    have HC : Hid (∀ k, k < L.length → ∃ b off, a = some ⟨b, off, none⟩ ∧ b < w.heap.size ∧ ∀ j, j < L.length → w.cell? ⟨b, off + j, none⟩ = some (.int .i64 (L.getD j 0))) := fun k hk => HW.out.cells (by omega)
    have HBad := Lib.hid (fun k hk hx => ordS_no (okL_bad L k hk hx))
    have HGood := Lib.hid (okL_good L (by omega))
    have HTake := Lib.hid (take_snocI L)
    have hn60 : L.length ≤ 60 := by omega
    generalize hnn : L.length = n at *
    have HN := Lib.hid hnn
    clear hnn HW
    go_enter Try.func11, Try.ntmps11
    go_wp2_with fail
    go_loopw [3, 18] (fun t i wr => ∃ (k : Nat) (O : List Nat), k ≤ n ∧ i = .int .i64 k ∧ t = .int .i64 (topOf (L.take k) : Int) ∧ topOf (L.take k) ≤ 6 ∧ Hid (OrdRow w wr w.heap.size n n O) ∧ Hid ((∀ j, j < k → O.getD j 0 = j) ∧ ∀ j, j < k → 0 ≤ L.getD j 0 ∧ L.getD j 0 ≤ 6)) (fun _ i _ => n - (intOf i).toNat)
    case atStart => exact ⟨0, _, by omega, rfl, rfl, by simp [topOf], HO, fun j hj => by omega, fun j hj => by omega⟩
    case round =>
      clear HO hmk
      obtain ⟨k, O, hk, rfl, rfl, htop, HR, HP⟩ := hrel
      by_cases hlt : k < n
      · obtain ⟨b, off, rfl, hb, hc⟩ := HC.out k hlt
        have c0 := (HR.out.below.cell (p := ⟨b, off + k, none⟩) hb).trans (hc k hlt)
        have c1 := HR.out.cell k hlt
        have f1 := HR.out.free k
        have HT1 : Hid (topOf (L.take (k + 1)) = max (topOf (L.take k)) (L.getD k 0).toNat) := Lib.hid (by rw [HTake.out k (by have := HN.out; omega), topOf_snoc])
        have HB1 := Lib.hid (HBad.out k hlt)
        have HR1 : Hid (OrdRow w (wr.setCell ⟨w.heap.size, k, none⟩ (.int .i64 (k : Int))) w.heap.size n n (O.set k k)) := by
          refine ⟨by simpa using HR.out.len, ?_, HR.out.below.setCell (Nat.le_refl _) _⟩
          have := (HR.out.row.stored k (.int .i64 (k : Int))).1
          simpa [natI, List.map_set] using this
        have HP1 : Hid (0 ≤ L.getD k 0 ∧ L.getD k 0 ≤ 6 → (∀ j, j < k + 1 → (O.set k k).getD j 0 = j) ∧ ∀ j, j < k + 1 → 0 ≤ L.getD j 0 ∧ L.getD j 0 ≤ 6) := by
          intro hx
          have hlen := HR.out.len
          refine ⟨fun j hj => ?_, fun j hj => ?_⟩
          · by_cases hjk : j = k
            · subst hjk; simp [List.getD_eq_getElem?_getD, hlen, hlt]
            · rw [List.getD_eq_getElem?_getD, List.getElem?_set_ne (by omega), ← List.getD_eq_getElem?_getD]; exact HP.out.1 j (by omega)
          · by_cases hjk : j = k
            · subst hjk; exact hx
            · exact HP.out.2 j (by omega)
        clear hc HP
        generalize L.getD k 0 = x at *
        generalize topOf (L.take k) = m at *
        generalize O.getD k 0 = y at *
        by_cases hx : 0 ≤ x ∧ x ≤ 6
        · have hd : decide (0 ≤ x ∧ x ≤ 6) = true := by simpa using hx
          obtain ⟨hx0, hx6⟩ := hx
          go_wp2_with (go_at_call 24; refine (within_any _ _ _ _).mono ?_; rintro e w' ⟨rfl, rfl⟩)
          go_roundw
          case rel => exact ⟨k + 1, _, by omega, by go_num, by rw [HT1.out]; congr 1; omega, by rw [HT1.out]; omega, HR1, HP1.out ⟨hx0, hx6⟩⟩
          case measure => simp [intOf]; omega
        · have hd : decide (0 ≤ x ∧ x ≤ 6) = false := by simpa using hx
          have HF := Lib.hid (HB1.out hx)
          clear hx HP1 HB1
          go_wp2_with (go_at_call 24; refine (within_any _ _ _ _).mono ?_; rintro e w' ⟨rfl, rfl⟩)
          go_ret
          rw [HF.out]
          exact ⟨_, rfl, own_nil _ _ _ (Nat.le_refl _) |>.mono HR.out.below.size (Nat.le_refl _) (Nat.le_refl _), HR.out.below⟩
      · obtain rfl : k = n := by omega
        have htk : L.take k = L := List.take_of_length_le (by have := HN.out; omega)
        rw [htk] at htop ⊢
        have hO := range_of HR.out.len HP.out.1
        have hok := HGood.out HP.out.2
        have HS : Hid (passes L (topOf L) O = ordS L) := by
          rw [hO]; unfold ordS; rw [if_pos hok, HN.out]; exact Lib.hid rfl
        have HLt : Hid (∀ x ∈ O, x < k) := by rw [hO]; exact Lib.hid (fun x hx => List.mem_range.1 hx)
        clear hO hok HP HBad HGood htk HTake hlt
        generalize topOf L = top at *
        go_wp2_with fail
        go_loopw [7] (fun t wr => ∃ (lv : Nat) (O : List Nat), t = .int .i64 lv ∧ lv ≤ 6 ∧ Hid (OrdRow w wr w.heap.size k k O) ∧ Hid (passes L lv O = ordS L) ∧ Hid (∀ x ∈ O, x < k)) (fun t _ => (intOf t).toNat)
        case atStart => exact ⟨top, O, rfl, htop, HR, HS, HLt⟩
        case round =>
          clear HR HS HLt htop
          obtain ⟨lv, O, rfl, hlv, HR, HS, HLt⟩ := hrel
          by_cases hl0 : 0 < lv
          · have HS1 : Hid (passes L (lv - 1) (pass L lv O) = ordS L) := by
              obtain ⟨l, rfl⟩ : ∃ l, lv = l + 1 := ⟨lv - 1, by omega⟩
              exact HS.out
            have HP0 : Hid (O.take 0 ++ passGo (atLeast L (lv : Int)) (O.drop 0) [] = pass L lv O) := Lib.hid rfl
            generalize pass L lv O = P0 at *
            clear HS
            go_wp2_with fail
            go_loopw [8] (fun t wr => ∃ (f : Nat) (O : List Nat), t = .int .i64 f ∧ f ≤ 100 ∧ Hid (OrdRow w wr w.heap.size k k O) ∧ Hid (O.take f ++ passGo (atLeast L (lv : Int)) (O.drop f) [] = P0) ∧ Hid (∀ x ∈ O, x < k)) (fun t _ => k + 1 - (intOf t).toNat)
            case atStart => exact ⟨0, O, rfl, by omega, HR, HP0, HLt⟩
            case round =>
              clear HR HP0 HLt
              obtain ⟨f, O, rfl, hf, HR, HP, HLt⟩ := hrel
              by_cases hfk : f < k
              · go_wp2_with fail
                go_loop [9] (fun t => ∃ t' : Nat, t = .int .i64 t' ∧ f ≤ t' ∧ t' ≤ k ∧ Hid (∀ j, f ≤ j → j < t' → atLeast L (lv : Int) (O.getD j 0) = true)) (fun t => k - (intOf t).toNat)
                case atStart => exact ⟨f, rfl, Nat.le_refl _, by omega, fun j h1 h2 => by omega⟩
                case round =>
                  obtain ⟨t, rfl, ht1, ht2, HRun⟩ := hrel
                  by_cases htk : t < k
                  · have hlenO := HR.out.len
                    have hx : O.getD t 0 < k := by
                      have hto : t < O.length := by omega
                      have := HLt.out (O[t]'hto) (List.getElem_mem hto)
                      simpa [List.getD_eq_getElem?_getD, hto] using this
                    obtain ⟨b, off, rfl, hb, hc⟩ := HC.out t htk
                    have c0 := HR.out.cell t htk
                    have c1 := (HR.out.below.cell (p := ⟨b, off + O.getD t 0, none⟩) hb).trans (hc _ hx)
                    have HA : Hid (atLeast L (lv : Int) (O.getD t 0) = decide ((lv : Int) ≤ L.getD (O.getD t 0) 0)) := rfl
                    clear hc hlenO
                    generalize hy : O.getD t 0 = y at *
                    have HY := Lib.hid hy
                    clear hy
                    generalize L.getD y 0 = z at *
                    by_cases hz : (lv : Int) ≤ z
                    · have hd : decide ((lv : Int) ≤ z) = true := by simp; omega
                      have HRun1 : Hid (∀ j, f ≤ j → j < t + 1 → atLeast L (lv : Int) (O.getD j 0) = true) := by
                        intro j h1 h2
                        by_cases hjt : j = t
                        · subst hjt; rw [HY.out, HA.out]; simpa using hz
                        · exact HRun.out j h1 (by omega)
                      clear HRun HA hz
                      go_wp2_with fail
                      go_round
                      case rel => exact ⟨t + 1, by go_num, by omega, by omega, HRun1⟩
                      case measure => simp [intOf]; omega
                    · have hd : decide ((lv : Int) ≤ z) = false := by simp; omega
                      have HStop : Hid (t < O.length → atLeast L (lv : Int) (O.getD t 0) = false) := by
                        intro _
                        rw [HY.out, HA.out]; simpa using hz
                      clear HA hz HY
                      go_wp2_with fail
                      have hln := HR.out.len
                      have hzl : (((natI O).drop f).take (t - f)).length = t - f := by simp [natI]; omega
                      refine (Try.slices_Reverse_int_cells w.heap.size f (t - f) _ (((natI O).drop f).take (t - f)) _ (by omega) (by omega) (fun j hj => ?_) (fun j hj => HR.out.free _)).mono ?_
                      · rw [hzl] at hj
                        rw [HR.out.cell (f + j) (by omega)]
                        simp [natI, List.getD_eq_getElem?_getD, hj, show f + j < O.length by omega]
                      rintro e w2 ⟨rfl, q, rfl⟩
                      have HR2 := HR.out.rev f t q ht1 ht2
                      rw [show (((natI O).drop f).take (t - f)).take (t - f) = ((natI O).drop f).take (t - f) from List.take_of_length_le (by omega)]
                      have HRR := Lib.hid HR2
                      have HP2 : Hid ((revRun O f t).take (t + 1) ++ passGo (atLeast L (lv : Int)) ((revRun O f t).drop (t + 1)) [] = P0) := Lib.hid (by
                        rw [pass_step _ O f t ht1 (by omega) HRun.out HStop.out]; exact HP.out)
                      have HL2 : Hid (∀ x ∈ revRun O f t, x < k) := by
                        intro x hx
                        refine HLt.out x ?_
                        unfold revRun at hx
                        rcases List.mem_append.1 hx with hx | hx
                        · rcases List.mem_append.1 hx with hx | hx
                          · exact List.mem_of_mem_take hx
                          · exact List.mem_of_mem_drop (List.mem_of_mem_take (List.mem_reverse.1 hx))
                        · exact List.mem_of_mem_drop hx
                      clear hln hzl HR2 HR HP HRun HStop HLt
                      generalize revRun O f t = O2 at *
                      generalize (World.setCells _ _ _ _) = w3 at *
                      have hmax : max (f : Int) (t : Int) = t := by omega
                      go_wp2_with fail
                      go_roundw
                      case rel => exact ⟨t + 1, O2, by go_num, by omega, HRR, HP2, HL2⟩
                      case measure => simp [intOf]; omega
                  · have hkt : k ≤ t := by omega
                    have HStop : Hid (t < O.length → atLeast L (lv : Int) (O.getD t 0) = false) := by
                      intro h
                      have := HR.out.len
                      omega
                    go_wp2_with fail
                    have hln := HR.out.len
                    have hzl : (((natI O).drop f).take (t - f)).length = t - f := by simp [natI]; omega
                    refine (Try.slices_Reverse_int_cells w.heap.size f (t - f) _ (((natI O).drop f).take (t - f)) _ (by omega) (by omega) (fun j hj => ?_) (fun j hj => HR.out.free _)).mono ?_
                    · rw [hzl] at hj
                      rw [HR.out.cell (f + j) (by omega)]
                      simp [natI, List.getD_eq_getElem?_getD, hj, show f + j < O.length by omega]
                    rintro e w2 ⟨rfl, q, rfl⟩
                    have HR2 := HR.out.rev f t q ht1 ht2
                    rw [show (((natI O).drop f).take (t - f)).take (t - f) = ((natI O).drop f).take (t - f) from List.take_of_length_le (by omega)]
                    have HRR := Lib.hid HR2
                    have HP2 : Hid ((revRun O f t).take (t + 1) ++ passGo (atLeast L (lv : Int)) ((revRun O f t).drop (t + 1)) [] = P0) := Lib.hid (by
                      rw [pass_step _ O f t ht1 (by omega) HRun.out HStop.out]; exact HP.out)
                    have HL2 : Hid (∀ x ∈ revRun O f t, x < k) := by
                      intro x hx
                      refine HLt.out x ?_
                      unfold revRun at hx
                      rcases List.mem_append.1 hx with hx | hx
                      · rcases List.mem_append.1 hx with hx | hx
                        · exact List.mem_of_mem_take hx
                        · exact List.mem_of_mem_drop (List.mem_of_mem_take (List.mem_reverse.1 hx))
                      · exact List.mem_of_mem_drop hx
                    clear hln hzl HR2 HR HP HRun HStop HLt
                    generalize revRun O f t = O2 at *
                    generalize (World.setCells _ _ _ _) = w3 at *
                    have hmax : max (f : Int) (t : Int) = t := by omega
                    go_wp2_with fail
                    go_roundw
                    case rel => exact ⟨t + 1, O2, by go_num, by omega, HRR, HP2, HL2⟩
                    case measure => simp [intOf]; omega
              · have hP : O = P0 := by
                  have h := HP.out
                  have hln := HR.out.len
                  rw [List.take_of_length_le (by omega), List.drop_of_length_le (by omega)] at h
                  simpa [passGo] using h
                have HSS : Hid (passes L (lv - 1) O = ordS L) := Lib.hid (by rw [hP]; exact HS1.out)
                have HSub : Hid ((lv : Int) - 1 = ((lv - 1 : Nat) : Int)) := Lib.hid (by omega)
                clear hP HP HS1
                go_wp2_with fail
                go_roundw
                case rel => exact ⟨lv - 1, O, by rw [HSub.out], by omega, HR, HSS, HLt⟩
                case measure => simp [intOf]; omega
          · obtain rfl : lv = 0 := by omega
            have HF : Hid (O = ordS L) := HS.out
            go_wp2_with fail
            go_ret
            rw [← HF.out]
            refine ⟨_, rfl, ⟨by rw [show (natI O).length = k by simp [natI, HR.out.len]]; exact HR.out.row, fun t ht => ?_, Nat.le_refl _⟩, HR.out.below⟩
            exact (HR.out.row.lt t ht).2
end Go.Proofs.Ytbecdndeddkibaa
