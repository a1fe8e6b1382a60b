/- The reference's OrderOf gives ordS. -/
import Derived.Test.YtbecdndeddkibaaOrderOf
import Derived.Test.YtbecdndeddkibaaAppend
namespace Go.Proofs.Ytbecdndeddkibaa
open Go.RowKit
set_option maxHeartbeats 2000000
set_option maxRecDepth 100000

theorem range_snoc (k : Nat) : natI (List.range (k + 1)) = natI (List.range k) ++ [(k : Int)] := by simp [natI, List.range_succ]
theorem OrdRow.swap {w wr : World} {g n cap : Nat} {O : List Nat} (h : OrdRow w wr g n cap O) (a b : Nat) :
    OrdRow w ((wr.setCell ⟨g, a, none⟩ (.int .i64 ((O.getD b 0 : Nat) : Int))).setCell ⟨g, b, none⟩ (.int .i64 ((O.getD a 0 : Nat) : Int))) g n cap (swp O a b) := by
  have h1 := (h.row.stored a (.int .i64 ((O.getD b 0 : Nat) : Int))).1
  have h2 := (h1.stored b (.int .i64 ((O.getD a 0 : Nat) : Int))).1
  have hg := (h.row.lt g rfl).1
  refine ⟨by rw [swp_len]; exact h.len, ?_, (h.below.setCell hg _).setCell hg _⟩
  have e : (((natI O).map (Value.int .i64)).set a (.int .i64 ((O.getD b 0 : Nat) : Int))).set b (.int .i64 ((O.getD a 0 : Nat) : Int)) = (natI (swp O a b)).map (Value.int .i64) := by
    simp [natI, swp, List.map_set]
  rw [← e]
  exact h2
theorem revRun_mem {O : List Nat} {f t x : Nat} (h : x ∈ revRun O f t) : x ∈ O := by
  unfold revRun at h
  rcases List.mem_append.1 h with h | h
  · rcases List.mem_append.1 h with h | h
    · exact List.mem_of_mem_take h
    · exact List.mem_of_mem_drop (List.mem_of_mem_take (List.mem_reverse.1 h))
  · exact List.mem_of_mem_drop h

theorem reorder_any (v : Value) (L : List Int) (w : World) (h : SlI w v L) (hok : okL L = true) :
    Calls Try.prog 23 #[v] w (GaveI (natI (ordS L)) w) := by
  have HW := Lib.hid h
  obtain ⟨a, cap, rfl, h1, h2, _⟩ := h
  unfold maxLen at h2
  have hn60 : L.length ≤ 60 := by unfold okL at hok; rw [Bool.and_eq_true, decide_eq_true_eq] at hok; exact hok.1
  have hLv : ∀ k, k < L.length → 0 ≤ L.getD k 0 ∧ L.getD k 0 ≤ 6 := by
    intro k hk
    unfold okL at hok
    rw [Bool.and_eq_true, List.all_eq_true] at hok
    simpa using hok.2 _ (getD_mem L k hk)
  have HC : Hid (∀ k, k < L.length → ∃ b off, a = some ⟨b, off, none⟩ ∧ b < w.heap.size ∧ ∀ j, j < L.length → w.cell? ⟨b, off + j, none⟩ = some (.int .i64 (L.getD j 0))) := fun k hk => HW.out.cells (by omega)
  have HTake := Lib.hid (take_snocI L)
  have HV := Lib.hid hLv
  have HS0 : Hid (ordS L = passes L (topOf L) (List.range L.length)) := Lib.hid (by unfold ordS; rw [if_pos hok])
  clear hLv hok
  generalize hnn : L.length = n at *
  have HN := Lib.hid hnn
  clear hnn HW
  have HO0 : Hid ((w.alloc (.cells #[] 3)).ownsRow w.heap.size 3 1 (.slice (some ⟨w.heap.size, 0, none⟩) 0 0) 0 ((natI (List.range 0)).map (Value.int .i64))) :=
    World.ownsRow_lit w #[] 0 (Nat.le_refl _) (Nat.zero_le _) rfl
  have HB0 : Hid (Below w.heap.size w (w.alloc (.cells #[] 3))) := (Below.refl _ _).alloc (Nat.le_refl _) _
  go_enter Try.func23, Try.ntmps23
  go_wp2_with fail
  go_loopw [3, 4, 5] (fun v t i wr => ∃ k : Nat, k ≤ n ∧ i = .int .i64 k ∧ t = .int .i64 (topOf (L.take k) : Int) ∧ topOf (L.take k) ≤ 6 ∧ Hid (wr.ownsRow w.heap.size 3 1 v k ((natI (List.range k)).map (Value.int .i64))) ∧ Hid (Below w.heap.size w wr)) (fun _ _ i _ => n - (intOf i).toNat)
  case atStart => exact ⟨0, by omega, rfl, rfl, by simp [topOf], HO0, HB0⟩
  case round =>
    clear HO0 HB0
    obtain ⟨k, hk, rfl, rfl, htop, HR, HB⟩ := hrel
    by_cases hlt : k < n
    · obtain ⟨b, off, rfl, hb, hc⟩ := HC.out k hlt
      have HT1 : Hid (topOf (L.take (k + 1)) = max (topOf (L.take k)) (L.getD k 0).toNat) := Lib.hid (by rw [HTake.out k (by have := HN.out; omega), topOf_snoc])
      obtain ⟨hx0, hx6⟩ := HV.out k hlt
      have hown := HR.out
      have hBs := HB.out.size
      go_wp2_with (at_builtin; go_must (refine wpList_append_int rfl _ _ rfl w.heap.size _ k (natI (List.range k)) (k : Int) hown rfl rfl (by omega) hBs ?_))
      intro v' w2 hown' hgrow
      rw [show (natI (List.range k)).map (Value.int .i64) ++ [Value.int .i64 (k : Int)] = (natI (List.range (k + 1))).map (Value.int .i64) by rw [range_snoc]; simp] at hown'
      have HO1 := Lib.hid hown'
      have HB1 : Hid (Below w.heap.size w w2) := HB.out.grown hgrow hBs (fun j hj => (hown.lt j hj).1)
      have c0 := (HB1.out.cell (p := ⟨b, off + k, none⟩) hb).trans (hc k hlt)
      clear hown hown' hgrow hc hBs
      generalize L.getD k 0 = x at *
      generalize topOf (L.take k) = m at *
      go_wp2_with fail
      go_roundw
      case rel => exact ⟨k + 1, by omega, by go_num, by rw [HT1.out]; congr 1; omega, by rw [HT1.out]; omega, HO1, HB1⟩
      case measure => simp [intOf]; omega
    · obtain rfl : k = n := by omega
      have htk : L.take k = L := List.take_of_length_le (by have := HN.out; omega)
      rw [htk] at htop ⊢
      clear htk HTake hlt
      rcases HR.out.2 with ⟨rfl, rfl⟩ | ⟨g, cp, cur, rfl, hg1, hg2, hg3, hg4, _⟩
      · have hL0 : L = [] := List.length_eq_zero_iff.1 HN.out
        have HF : Hid (ordS L = []) := Lib.hid (by rw [HS0.out, hL0]; rfl)
        have ht0 : topOf L = 0 := by rw [hL0]; rfl
        rw [ht0]
        clear hL0 ht0
        go_wp2_with fail
        go_loopw [6] (fun t wr' => t = .int .i64 0 ∧ wr' = wr) (fun _ _ => 0)
        case atStart => exact ⟨rfl, rfl⟩
        case round =>
          obtain ⟨rfl, rfl⟩ := hrel
          go_wp2_with fail
          go_ret
          rw [HF.out]
          exact ⟨_, rfl, own_nil _ _ _ (Nat.le_refl _) |>.mono HB.out.size (Nat.le_refl _) (Nat.le_refl _), HB.out⟩
      · have HO : Hid (OrdRow w wr g k cp (List.range k)) := ⟨by simp, HR.out, HB.out⟩
        have HLt : Hid (∀ x ∈ List.range k, x < k) := fun x hx => List.mem_range.1 hx
        have HS : Hid (passes L (topOf L) (List.range k) = ordS L) := HS0.out.symm
        clear HR HB hg2
        generalize List.range k = O at *
        generalize topOf L = top at *
        go_wp2_with fail
        go_loopw [6] (fun t wr => ∃ (lv : Nat) (O : List Nat), t = .int .i64 lv ∧ lv ≤ 6 ∧ Hid (OrdRow w wr g k cp O) ∧ Hid (passes L lv O = ordS L) ∧ Hid (∀ x ∈ O, x < k)) (fun t _ => (intOf t).toNat)
        case atStart => exact ⟨top, O, rfl, htop, HO, HS, HLt⟩
        case round =>
          clear HO HS HS0 HLt htop
          obtain ⟨lv, O, rfl, hlv, HR, HS, HLt⟩ := hrel
          by_cases hl0 : 0 < lv
          · have HS1 : Hid (passes L (lv - 1) (pass L lv O) = ordS L) := by
              obtain ⟨l, rfl⟩ : ∃ l, lv = l + 1 := ⟨lv - 1, by omega⟩
              exact HS.out
            have HP0 : Hid (O.take 0 ++ passGo (atLeast L (lv : Int)) (O.drop 0) [] = pass L lv O) := Lib.hid rfl
            generalize pass L lv O = P0 at *
            clear HS
            go_wp2_with fail
            go_loopw [7] (fun t wr => ∃ (f : Nat) (O : List Nat), t = .int .i64 f ∧ f ≤ 100 ∧ Hid (OrdRow w wr g k cp O) ∧ Hid (O.take f ++ passGo (atLeast L (lv : Int)) (O.drop f) [] = P0) ∧ Hid (∀ x ∈ O, x < k)) (fun t _ => k + 1 - (intOf t).toNat)
            case atStart => exact ⟨0, O, rfl, by omega, HR, HP0, HLt⟩
            case round =>
              clear HR HP0 HLt
              obtain ⟨f, O, rfl, hf, HR, HP, HLt⟩ := hrel
              by_cases hfk : f < k
              · go_wp2_with fail
                go_loop [8] (fun t => ∃ t' : Nat, t = .int .i64 t' ∧ f ≤ t' ∧ t' ≤ k ∧ Hid (∀ j, f ≤ j → j < t' → atLeast L (lv : Int) (O.getD j 0) = true)) (fun t => k - (intOf t).toNat)
                case atStart => exact ⟨f, rfl, Nat.le_refl _, by omega, fun j h1 h2 => by omega⟩
                case round =>
                  obtain ⟨t, rfl, ht1, ht2, HRun⟩ := hrel
                  by_cases htk : t < k
                  · have hlenO := HR.out.len
                    have hx : O.getD t 0 < k := by
                      have hto : t < O.length := by omega
                      have := HLt.out (O[t]'hto) (List.getElem_mem hto)
                      simpa [List.getD_eq_getElem?_getD, hto] using this
                    obtain ⟨b, off, rfl, hb, hc⟩ := HC.out t htk
                    have c0 := HR.out.cell t htk
                    have c1 := (HR.out.below.cell (p := ⟨b, off + O.getD t 0, none⟩) hb).trans (hc _ hx)
                    have HA : Hid (atLeast L (lv : Int) (O.getD t 0) = decide ((lv : Int) ≤ L.getD (O.getD t 0) 0)) := rfl
                    clear hc hlenO
                    generalize hy : O.getD t 0 = y at *
                    have HY := Lib.hid hy
                    clear hy
                    generalize L.getD y 0 = z at *
                    by_cases hz : (lv : Int) ≤ z
                    · have hd : decide ((lv : Int) ≤ z) = true := by simp; omega
                      have HRun1 : Hid (∀ j, f ≤ j → j < t + 1 → atLeast L (lv : Int) (O.getD j 0) = true) := by
                        intro j h1 h2
                        by_cases hjt : j = t
                        · subst hjt; rw [HY.out, HA.out]; simpa using hz
                        · exact HRun.out j h1 (by omega)
                      clear HRun HA hz
                      go_wp2_with fail
                      go_round
                      case rel => exact ⟨t + 1, by go_num, by omega, by omega, HRun1⟩
                      case measure => simp [intOf]; omega
                    · have hd : decide ((lv : Int) ≤ z) = false := by simp; omega
                      have HStop : Hid (t < O.length → atLeast L (lv : Int) (O.getD t 0) = false) := by
                        intro _
                        rw [HY.out, HA.out]; simpa using hz
                      have hlnO := HR.out.len
                      clear HA hz HY
                      go_wp2_with fail
                      go_loopw [9, 10] (fun va vb wr => ∃ (p e : Nat) (O' : List Nat), va = .int .i64 p ∧ vb = .int .i64 ((e : Int) - 1) ∧ p ≤ e ∧ e ≤ k ∧ Hid (OrdRow w wr g k cp O') ∧ Hid (revRun O' p e = revRun O f t)) (fun _ vb _ => (intOf vb + 1).toNat)
                      case atStart => exact ⟨f, t, O, rfl, rfl, ht1, ht2, HR, rfl⟩
                      case round =>
                        clear HR
                        obtain ⟨p, e, O', rfl, rfl, hpe, hek, HR, HRev⟩ := hrel
                        have hln := HR.out.len
                        by_cases hsw : p + 1 < e
                        · obtain ⟨b, hb⟩ : ∃ b, e - 1 = b := ⟨_, rfl⟩
                          have heb : (e : Int) - 1 = (b : Int) := by omega
                          have HR1 := Lib.hid (HR.out.swap p b)
                          have HRev1 : Hid (revRun (swp O' p b) (p + 1) b = revRun O f t) := Lib.hid (by rw [← hb, rev_step O' p e hsw (by omega)]; exact HRev.out)
                          have c1 := HR.out.cell p (by omega)
                          have c2 := HR.out.cell b (by omega)
                          have f1 := HR.out.free p
                          have f2 := HR.out.free b
                          have hpb : p < b := by omega
                          have hbk : b < k := by omega
                          have HEB : Hid (e = b + 1) := Lib.hid (by omega)
                          rw [heb]
                          clear hb heb hln HR HRev hsw
                          generalize O'.getD p 0 = y1 at *
                          generalize O'.getD b 0 = y2 at *
                          go_wp2_with fail
                          go_roundw
                          case rel => exact ⟨p + 1, b, _, by go_num, rfl, by omega, by omega, HR1, HRev1⟩
                          case measure => simp [intOf]
                        · have HO' : Hid (O' = revRun O f t) := Lib.hid (by rw [← HRev.out, rev_end O' p e hpe (by omega) (by omega)])
                          have hle : ¬ (p : Int) < (e : Int) - 1 := by omega
                          have HL2 : Hid (∀ x ∈ O', x < k) := by
                            intro x hx
                            rw [HO'.out] at hx
                            exact HLt.out x (revRun_mem hx)
                          by_cases htf : f < t
                          · have HP2 : Hid (O'.take t ++ passGo (atLeast L (lv : Int)) (O'.drop t) [] = P0) := Lib.hid (by
                              rw [HO'.out, pass_stay _ O f t ht1 (by omega) HRun.out HStop.out]; exact HP.out)
                            have hmax : max (t : Int) ((f : Int) + 1) = t := by omega
                            clear hln HRev HP HRun HStop HLt
                            go_wp2_with fail
                            go_roundw
                            case rel => exact ⟨t, O', rfl, by omega, HR, HP2, HL2⟩
                            case measure => simp [intOf]; omega
                          · have HP2 : Hid (O'.take (f + 1) ++ passGo (atLeast L (lv : Int)) (O'.drop (f + 1)) [] = P0) := Lib.hid (by
                              have htf' : t = f := by omega
                              have h := pass_step (atLeast L (lv : Int)) O f t ht1 (by omega) HRun.out HStop.out
                              rw [htf'] at h
                              rw [HO'.out, htf', h]; exact HP.out)
                            have hmax : max (t : Int) ((f : Int) + 1) = (f : Int) + 1 := by omega
                            clear hln HRev HP HRun HStop HLt
                            go_wp2_with fail
                            go_roundw
                            case rel => exact ⟨f + 1, O', by go_num, by omega, HR, HP2, HL2⟩
                            case measure => simp [intOf]; omega
                  · have hkt : k ≤ t := by omega
                    have HStop : Hid (t < O.length → atLeast L (lv : Int) (O.getD t 0) = false) := by
                      intro h
                      have := HR.out.len
                      omega
                    have hlnO := HR.out.len
                    go_wp2_with fail
                    go_loopw [9, 10] (fun va vb wr => ∃ (p e : Nat) (O' : List Nat), va = .int .i64 p ∧ vb = .int .i64 ((e : Int) - 1) ∧ p ≤ e ∧ e ≤ k ∧ Hid (OrdRow w wr g k cp O') ∧ Hid (revRun O' p e = revRun O f t)) (fun _ vb _ => (intOf vb + 1).toNat)
                    case atStart => exact ⟨f, t, O, rfl, rfl, ht1, ht2, HR, rfl⟩
                    case round =>
                      clear HR
                      obtain ⟨p, e, O', rfl, rfl, hpe, hek, HR, HRev⟩ := hrel
                      have hln := HR.out.len
                      by_cases hsw : p + 1 < e
                      · obtain ⟨b, hb⟩ : ∃ b, e - 1 = b := ⟨_, rfl⟩
                        have heb : (e : Int) - 1 = (b : Int) := by omega
                        have HR1 := Lib.hid (HR.out.swap p b)
                        have HRev1 : Hid (revRun (swp O' p b) (p + 1) b = revRun O f t) := Lib.hid (by rw [← hb, rev_step O' p e hsw (by omega)]; exact HRev.out)
                        have c1 := HR.out.cell p (by omega)
                        have c2 := HR.out.cell b (by omega)
                        have f1 := HR.out.free p
                        have f2 := HR.out.free b
                        have hpb : p < b := by omega
                        have hbk : b < k := by omega
                        have HEB : Hid (e = b + 1) := Lib.hid (by omega)
                        rw [heb]
                        clear hb heb hln HR HRev hsw
                        generalize O'.getD p 0 = y1 at *
                        generalize O'.getD b 0 = y2 at *
                        go_wp2_with fail
                        go_roundw
                        case rel => exact ⟨p + 1, b, _, by go_num, rfl, by omega, by omega, HR1, HRev1⟩
                        case measure => simp [intOf]
                      · have HO' : Hid (O' = revRun O f t) := Lib.hid (by rw [← HRev.out, rev_end O' p e hpe (by omega) (by omega)])
                        have hle : ¬ (p : Int) < (e : Int) - 1 := by omega
                        have HL2 : Hid (∀ x ∈ O', x < k) := by
                          intro x hx
                          rw [HO'.out] at hx
                          exact HLt.out x (revRun_mem hx)
                        by_cases htf : f < t
                        · have HP2 : Hid (O'.take t ++ passGo (atLeast L (lv : Int)) (O'.drop t) [] = P0) := Lib.hid (by
                            rw [HO'.out, pass_stay _ O f t ht1 (by omega) HRun.out HStop.out]; exact HP.out)
                          have hmax : max (t : Int) ((f : Int) + 1) = t := by omega
                          clear hln HRev HP HRun HStop HLt
                          go_wp2_with fail
                          go_roundw
                          case rel => exact ⟨t, O', rfl, by omega, HR, HP2, HL2⟩
                          case measure => simp [intOf]; omega
                        · have HP2 : Hid (O'.take (f + 1) ++ passGo (atLeast L (lv : Int)) (O'.drop (f + 1)) [] = P0) := Lib.hid (by
                            have htf' : t = f := by omega
                            have h := pass_step (atLeast L (lv : Int)) O f t ht1 (by omega) HRun.out HStop.out
                            rw [htf'] at h
                            rw [HO'.out, htf', h]; exact HP.out)
                          have hmax : max (t : Int) ((f : Int) + 1) = (f : Int) + 1 := by omega
                          clear hln HRev HP HRun HStop HLt
                          go_wp2_with fail
                          go_roundw
                          case rel => exact ⟨f + 1, O', by go_num, by omega, HR, HP2, HL2⟩
                          case measure => simp [intOf]; omega
              · have hP : O = P0 := by
                  have h := HP.out
                  have hln := HR.out.len
                  rw [List.take_of_length_le (by omega), List.drop_of_length_le (by omega)] at h
                  simpa [passGo] using h
                have HSS : Hid (passes L (lv - 1) O = ordS L) := Lib.hid (by rw [hP]; exact HS1.out)
                have HSub : Hid ((lv : Int) - 1 = ((lv - 1 : Nat) : Int)) := Lib.hid (by omega)
                clear hP HP HS1
                go_wp2_with fail
                go_roundw
                case rel => exact ⟨lv - 1, O, by rw [HSub.out], by omega, HR, HSS, HLt⟩
                case measure => simp [intOf]; omega
          · obtain rfl : lv = 0 := by omega
            have HF : Hid (O = ordS L) := HS.out
            go_wp2_with fail
            go_ret
            rw [← HF.out]
            refine ⟨_, rfl, ⟨by rw [show (natI O).length = k by simp [natI, HR.out.len]]; exact HR.out.row, fun t ht => ?_, Nat.le_refl _⟩, HR.out.below⟩
            exact (HR.out.row.lt t ht).2
end Go.Proofs.Ytbecdndeddkibaa
