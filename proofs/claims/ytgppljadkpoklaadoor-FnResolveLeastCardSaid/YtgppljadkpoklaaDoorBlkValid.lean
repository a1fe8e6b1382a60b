/- The tests of blocks, by the program and by the reference. -/
import Derived.Test.YtgppljadkpoklaaDoorBlkPlain
import Derived.Test.YtgppljadkpoklaaDoorRange
namespace Go.Proofs.YtgppljadkpoklaaDoor
open Go.RowKit
set_option maxHeartbeats 2000000
set_option maxRecDepth 100000

theorem validBlocks_any (v : Value) (B : List Blk) (w : World) (h : SlB w v B) :
    Calls Tryd.prog 33 #[v] w fun e w' => e = .returned (.bool (okB B)) ∧ Below w.heap.size w w' := by
  have HW := Lib.hid h
  obtain ⟨a, cap, rfl, h1, h2, _⟩ := h
  unfold maxLen at h2
  have HBad : Hid (∀ k, k < B.length → okB1 B k = false → okB B = false) := Lib.hid (fun k hk hx => okB_bad k hk hx)
  have HLong : Hid (20 < B.length → okB B = false) := okB_long
  have HGood : Hid (B.length ≤ 20 → (∀ k, k < B.length → okB1 B k = true) → okB B = true) := okB_of
  have HC : Hid (∀ k, k < B.length → ∃ b off, a = some ⟨b, off, none⟩ ∧ b < w.heap.size ∧ ∀ i, i < B.length → w.cell? ⟨b, off + i * 3, none⟩ = some (.int .i64 (bl B i)) ∧ w.cell? ⟨b, off + i * 3 + 1, none⟩ = some (.int .i64 (bb B i)) ∧ w.cell? ⟨b, off + i * 3 + 2, none⟩ = some (.int .i64 (br B i))) := fun k hk => (HW.out.cells (by omega)).2
  have HOne : Hid (∀ k, okB1 B k = (decide (1 ≤ bl B k ∧ bl B k ≤ 40) && decide (0 ≤ bb B k ∧ bb B k ≤ 9) && decide (0 ≤ br B k ∧ br B k ≤ 9) && !(seenF B k (bb B k).toNat))) := fun k => rfl
  have HSn := Lib.hid (seenF_succ B)
  have HSz := Lib.hid (seenF_zero B)
  clear HW
  generalize hn : B.length = n at *
  clear hn
  have HS0 : Hid (∀ l, l < 10 → (w.alloc (.cells #[.bool false, .bool false, .bool false, .bool false, .bool false, .bool false, .bool false, .bool false, .bool false, .bool false] 61)).cell? ⟨w.heap.size, l, none⟩ = some (.bool (seenF B 0 l)) ∧ (w.alloc (.cells #[.bool false, .bool false, .bool false, .bool false, .bool false, .bool false, .bool false, .bool false, .bool false, .bool false] 61)).frozen? ⟨w.heap.size, l, none⟩ = false) := Lib.hid (fun l hl => by
    rw [World.cell?_alloc_new, HSz.out l]
    refine ⟨?_, by simp [go_sem]⟩
    have : l = 0 ∨ l = 1 ∨ l = 2 ∨ l = 3 ∨ l = 4 ∨ l = 5 ∨ l = 6 ∨ l = 7 ∨ l = 8 ∨ l = 9 := by omega
    rcases this with rfl | rfl | rfl | rfl | rfl | rfl | rfl | rfl | rfl | rfl <;> rfl)
  have HB0 : Hid (Below w.heap.size w (w.alloc (.cells #[.bool false, .bool false, .bool false, .bool false, .bool false, .bool false, .bool false, .bool false, .bool false, .bool false] 61))) := Lib.hid ((Below.refl _ _).alloc (Nat.le_refl _) _)
  have hz0 : w.heap.size < (w.alloc (.cells #[.bool false, .bool false, .bool false, .bool false, .bool false, .bool false, .bool false, .bool false, .bool false, .bool false] 61)).heap.size := by simp
  go_enter Tryd.func33, Tryd.ntmps33
  go_wp2_with fail
  generalize w.alloc (.cells #[.bool false, .bool false, .bool false, .bool false, .bool false, .bool false, .bool false, .bool false, .bool false, .bool false] 61) = w0 at *
  go_loopw [8] (fun i wr => ∃ (k : Nat), k ≤ n ∧ i = .int .i64 k ∧ w.heap.size < wr.heap.size ∧ Hid (Below w.heap.size w wr) ∧ Hid (∀ j, j < k → okB1 B j = true) ∧ Hid (∀ l, l < 10 → wr.cell? ⟨w.heap.size, l, none⟩ = some (.bool (seenF B k l)) ∧ wr.frozen? ⟨w.heap.size, l, none⟩ = false)) (fun i _ => n - (intOf i).toNat)
  case atStart => exact ⟨0, by omega, rfl, hz0, HB0, fun j hj => by omega, HS0⟩
  case round =>
    clear HS0 HB0 hz0
    obtain ⟨k, hk, rfl, hsz, HB, HP, HSe⟩ := hrel
    by_cases hlt : k < n
    · obtain ⟨b, off, rfl, hb, hc⟩ := HC.out k hlt
      have c0 := (HB.out.cell (p := ⟨b, off + k * 3, none⟩) hb).trans (hc k hlt).1
      have c1 := (HB.out.cell (p := ⟨b, off + k * 3 + 1, none⟩) hb).trans (hc k hlt).2.1
      have c2 := (HB.out.cell (p := ⟨b, off + k * 3 + 2, none⟩) hb).trans (hc k hlt).2.2
      have hbw : b < wr.heap.size := Nat.lt_of_lt_of_le hb HB.out.size
      have HO := Lib.hid (HOne.out k)
      have HB1 := Lib.hid (HBad.out k hlt)
      have HSk := Lib.hid (HSn.out k)
      have HP1 : Hid (okB1 B k = true → ∀ j, j < k + 1 → okB1 B j = true) := by
        intro hx j hj
        by_cases hjk : j = k
        · subst hjk; exact hx
        · exact HP.out j (by omega)
      clear hc HP
      generalize okB1 B k = ok at *
      generalize bl B k = x at *
      generalize bb B k = y at *
      generalize br B k = z at *
      have hBa : Hid (Below w.heap.size w (wr.alloc (.cells #[.int .i64 x, .int .i64 y, .int .i64 z] 31))) := Lib.hid (HB.out.alloc HB.out.size _)
      have hsz' : w.heap.size ≤ wr.heap.size := by omega
      by_cases hx : 1 ≤ x ∧ x ≤ 40
      · have hd1 : decide (1 ≤ x ∧ x ≤ 40) = true := by simpa using hx
        by_cases hy : 0 ≤ y ∧ y ≤ 9
        · have hd2 : decide (0 ≤ y ∧ y ≤ 9) = true := by simpa using hy
          by_cases hz : 0 ≤ z ∧ z ≤ 9
          · have hd3 : decide (0 ≤ z ∧ z ≤ 9) = true := by simpa using hz
            obtain ⟨l, rfl⟩ := Int.eq_ofNat_of_zero_le hy.1
            rw [Int.toNat_natCast] at HO
            have hl10 : l < 10 := by omega
            have cs := (HSe.out l hl10).1
            have fs := (HSe.out l hl10).2
            cases hse : seenF B k l
            · rw [hse] at cs HO
              have HP2 := Lib.hid (HP1.out (by rw [HO.out, hd1, hd2, hd3]; rfl))
              have hszs : w.heap.size < (wr.setCell ⟨w.heap.size, l, none⟩ (.bool (decide (0 < l)))).heap.size := by simpa [World.setCell] using hsz
              have HBs : Hid (Below w.heap.size w ((wr.setCell ⟨w.heap.size, l, none⟩ (.bool (decide (0 < l)))).alloc (.cells #[.int .i64 x, .int .i64 (l : Int), .int .i64 z] 31))) := Lib.hid ((HB.out.setCell (Nat.le_refl _) _).alloc (Nat.le_of_lt hszs) _)
              have hszt : w.heap.size < ((wr.setCell ⟨w.heap.size, l, none⟩ (.bool (decide (0 < l)))).alloc (.cells #[.int .i64 x, .int .i64 (l : Int), .int .i64 z] 31)).heap.size := by simp; omega
              have HX : Hid (∀ l', l' < 10 → ((wr.setCell ⟨w.heap.size, l, none⟩ (.bool (decide (0 < l)))).alloc (.cells #[.int .i64 x, .int .i64 (l : Int), .int .i64 z] 31)).cell? ⟨w.heap.size, l', none⟩ = some (.bool (seenF B (k + 1) l')) ∧ ((wr.setCell ⟨w.heap.size, l, none⟩ (.bool (decide (0 < l)))).alloc (.cells #[.int .i64 x, .int .i64 (l : Int), .int .i64 z] 31)).frozen? ⟨w.heap.size, l', none⟩ = false) := Lib.hid (fun l' hl' => by
                have h0 := HSe.out l' hl'
                rw [World.cell?_alloc_lt _ _ _ hszs]
                refine ⟨?_, by simpa [go_sem, hszs, hsz] using h0.2⟩
                rw [HSk.out l']
                by_cases e : l' = l
                · subst e
                  rw [if_pos rfl]
                  simp [go_sem, h0.1]
                · rw [if_neg (by omega)]
                  have e2 : ¬ l = l' := fun h => e h.symm
                  simpa [go_sem, e, e2] using h0.1)
              clear HP1 HB1 HO hx hy hz HSk hse HSe
              go_wp2_with (go_at_call 34; refine (within_any _ _ _ _).mono ?_; rintro e w' ⟨rfl, rfl⟩)
              go_roundw
              case rel => exact ⟨k + 1, by omega, by go_num, hszt, HBs, HP2, HX⟩
              case measure => simp [intOf]; omega
            · rw [hse] at cs HO
              have HF := Lib.hid (HB1.out (by rw [HO.out, hd1, hd2, hd3]; rfl))
              clear HP1 HB1 HO hx hy hz HSk hse HSe fs
              go_wp2_with (go_at_call 34; refine (within_any _ _ _ _).mono ?_; rintro e w' ⟨rfl, rfl⟩)
              go_ret
              rw [HF.out]
              exact ⟨rfl, hBa.out⟩
          · have hd3 : decide (0 ≤ z ∧ z ≤ 9) = false := by simpa using hz
            have HF := Lib.hid (HB1.out (by rw [HO.out, hd1, hd2, hd3]; rfl))
            clear HP1 HB1 HO hx hy hz HSk HSe
            go_wp2_with (go_at_call 34; refine (within_any _ _ _ _).mono ?_; rintro e w' ⟨rfl, rfl⟩)
            go_ret
            rw [HF.out]
            exact ⟨rfl, hBa.out⟩
        · have hd2 : decide (0 ≤ y ∧ y ≤ 9) = false := by simpa using hy
          have HF := Lib.hid (HB1.out (by rw [HO.out, hd1, hd2]; rfl))
          clear HP1 HB1 HO hx hy HSk HSe
          go_wp2_with (go_at_call 34; refine (within_any _ _ _ _).mono ?_; rintro e w' ⟨rfl, rfl⟩)
          go_ret
          rw [HF.out]
          exact ⟨rfl, hBa.out⟩
      · have hd1 : decide (1 ≤ x ∧ x ≤ 40) = false := by simpa using hx
        have HF := Lib.hid (HB1.out (by rw [HO.out, hd1]; rfl))
        clear HP1 HB1 HO hx HSk HSe
        go_wp2_with (go_at_call 34; refine (within_any _ _ _ _).mono ?_; rintro e w' ⟨rfl, rfl⟩)
        go_ret
        rw [HF.out]
        exact ⟨rfl, hBa.out⟩
    · obtain rfl : k = n := by omega
      by_cases hl : 20 < k
      · have HF := Lib.hid (HLong.out hl)
        have hd : decide (k ≤ 20) = false := by simp; omega
        go_wp2_with fail
        go_ret
        rw [HF.out]
        exact ⟨by simp; omega, HB.out⟩
      · have HF := Lib.hid (HGood.out (by omega) HP.out)
        have hd : decide (k ≤ 20) = true := by simp; omega
        go_wp2_with fail
        go_ret
        rw [HF.out]
        exact ⟨by simp; omega, HB.out⟩

theorem drew_onB {w wr : World} (h : ∃ q, wr = w.drewN q) (n : Nat) : ∃ q, wr.drewN n = w.drewN q := by
  obtain ⟨q, rfl⟩ := h
  exact ⟨_, World.drewN_drewN ..⟩
theorem svalidBlocks_any (v : Value) (B : List Blk) (w : World) (h : SlB w v B) :
    Calls Tryd.prog 37 #[v] w (Same w (okB B)) := by
  have HW := Lib.hid h
  obtain ⟨a, cap, rfl, h1, h2, _⟩ := h
  unfold maxLen at h2
  have HBad : Hid (∀ k, k < B.length → okB1 B k = false → okB B = false) := Lib.hid (fun k hk hx => okB_bad k hk hx)
  have HLong : Hid (20 < B.length → okB B = false) := okB_long
  have HGood : Hid (B.length ≤ 20 → (∀ k, k < B.length → okB1 B k = true) → okB B = true) := okB_of
  have HC : Hid (∀ k, k < B.length → ∃ b off, a = some ⟨b, off, none⟩ ∧ b < w.heap.size ∧ ∀ i, i < B.length → w.cell? ⟨b, off + i * 3, none⟩ = some (.int .i64 (bl B i)) ∧ w.cell? ⟨b, off + i * 3 + 1, none⟩ = some (.int .i64 (bb B i)) ∧ w.cell? ⟨b, off + i * 3 + 2, none⟩ = some (.int .i64 (br B i))) := fun k hk => (HW.out.cells (by omega)).2
  have HOne : Hid (∀ k, okB1 B k = (decide (1 ≤ bl B k ∧ bl B k ≤ 40) && decide (0 ≤ bb B k ∧ bb B k ≤ 9) && decide (0 ≤ br B k ∧ br B k ≤ 9) && !(seenF B k (bb B k).toNat))) := fun k => rfl
  have HSn : Hid (∀ k l, seenF B k l = false ↔ ∀ j, j < k → ¬ (0 < l ∧ bb B j = (l : Int))) := fun k l => seenF_no
  clear HW
  generalize hn : B.length = n at *
  clear hn
  go_enter Tryd.func37, Tryd.ntmps37
  go_wp2_with fail
  go_loopw [3] (fun i wr => ∃ (k : Nat), k ≤ n ∧ i = .int .i64 k ∧ Hid (∃ q, wr = w.drewN q) ∧ Hid (∀ j, j < k → okB1 B j = true)) (fun i _ => n - (intOf i).toNat)
  case atStart => exact ⟨0, by omega, rfl, ⟨0, rfl⟩, fun j hj => by omega⟩
  case round =>
    obtain ⟨k, hk, rfl, HD, HP⟩ := hrel
    by_cases hlt : k < n
    · obtain ⟨b, off, rfl, hb, hc⟩ := HC.out k hlt
      have HCC : Hid (∀ wz, (∃ q, wz = w.drewN q) → ∀ i, i < n → wz.cell? ⟨b, off + i * 3, none⟩ = some (.int .i64 (bl B i)) ∧ wz.cell? ⟨b, off + i * 3 + 1, none⟩ = some (.int .i64 (bb B i)) ∧ wz.cell? ⟨b, off + i * 3 + 2, none⟩ = some (.int .i64 (br B i))) := Lib.hid (fun wz hq => by obtain ⟨q, rfl⟩ := hq; exact hc)
      have hc2 := HCC.out wr HD.out k hlt
      have c0 := hc2.1
      have c1 := hc2.2.1
      have c2 := hc2.2.2
      have HO := Lib.hid (HOne.out k)
      have HB1 := Lib.hid (HBad.out k hlt)
      have HP1 : Hid (okB1 B k = true → ∀ j, j < k + 1 → okB1 B j = true) := by
        intro hx j hj
        by_cases hjk : j = k
        · subst hjk; exact hx
        · exact HP.out j (by omega)
      clear hc hc2 HP
      generalize okB1 B k = ok at *
      generalize bl B k = x at *
      generalize hyy : bb B k = y at *
      have HY := Lib.hid hyy
      generalize br B k = z at *
      clear hyy
      by_cases hx : 1 ≤ x ∧ x ≤ 40
      · have hd1 : decide (1 ≤ x ∧ x ≤ 40) = true := by simpa using hx
        by_cases hy : 0 ≤ y ∧ y ≤ 9
        · have hd2 : decide (0 ≤ y ∧ y ≤ 9) = true := by simpa using hy
          by_cases hz : 0 ≤ z ∧ z ≤ 9
          · have hd3 : decide (0 ≤ z ∧ z ≤ 9) = true := by simpa using hz
            obtain ⟨l, rfl⟩ := Int.eq_ofNat_of_zero_le hy.1
            rw [Int.toNat_natCast] at HO
            have HNo := Lib.hid (HSn.out k l)
            have hl9 : (l : Int) ≤ 9 := hy.2
            clear hx hy hz HCC
            go_wp2_with (go_at_call 38; refine (inRange_any _ _ _ _).mono ?_; rintro e w' ⟨rfl, rfl⟩)
            have HCC : Hid (∀ wz, (∃ q, wz = w.drewN q) → ∀ i, i < n → wz.cell? ⟨b, off + i * 3 + 1, none⟩ = some (.int .i64 (bb B i))) := Lib.hid (fun wz hq => by
              obtain ⟨q, rfl⟩ := hq
              intro i hi
              obtain ⟨b', off', e, _, hc⟩ := HC.out k hlt
              injection e with e; injection e with e1 e2; subst e1 e2
              exact (hc i hi).2.1)
            clear c0 c2
            go_loopw [4] (fun i wx => ∃ (m : Nat), m ≤ k ∧ i = .int .i64 m ∧ Hid (∃ q, wx = w.drewN q) ∧ Hid (∀ j, j < m → ¬ (0 < l ∧ bb B j = (l : Int)))) (fun i _ => k - (intOf i).toNat)
            case atStart => exact ⟨0, by omega, rfl, HD, fun j hj => by omega⟩
            case round =>
              obtain ⟨m, hm, rfl, HDx, HPx⟩ := hrel
              by_cases hmk : m < k
              · have d0 := HCC.out wr HDx.out m (by omega)
                have d1 := HCC.out wr HDx.out k hlt
                rw [HY.out] at d1
                have HPm : Hid (¬ (0 < l ∧ bb B m = (l : Int)) → ∀ j, j < m + 1 → ¬ (0 < l ∧ bb B j = (l : Int))) := Lib.hid (fun hx j hj => by
                  by_cases hjm : j = m
                  · subst hjm; exact hx
                  · exact HPx.out j (by omega))
                have HBd : Hid (0 < l ∧ bb B m = (l : Int) → okB B = false) := Lib.hid (fun hx => HB1.out (by
                  have : seenF B k l = true := by
                    cases h : seenF B k l with
                    | true => rfl
                    | false => exact absurd hx (HNo.out.1 h m hmk)
                  rw [HO.out, this]; simp))
                generalize bb B m = p at *
                have hmn : m < n := by omega
                by_cases hl0 : 0 < l
                · have hdl : decide (0 < l) = true := by simpa using hl0
                  by_cases hpl : p = (l : Int)
                  · have HF := Lib.hid (HBd.out ⟨hl0, hpl⟩)
                    have hpe : (p == (l : Int)) = true := by simpa using hpl
                    clear HPm HBd hpl hl0 c1
                    go_wp2_with fail
                    go_quiet (fail)
                    go_wp2_with fail
                    go_ret
                    obtain ⟨q, hq⟩ := drew_onB HDx.out nq
                    exact ⟨q, by rw [HF.out]; rfl, hq⟩
                  · have HP2 := Lib.hid (HPm.out (fun h => hpl h.2))
                    have hpe : (p == (l : Int)) = false := by simpa using hpl
                    clear HPm HBd hpl hl0 c1
                    go_wp2_with fail
                    go_quiet (fail)
                    go_wp2_with fail
                    go_roundw
                    case rel => exact ⟨m + 1, by omega, by go_num, drew_onB HDx.out _, HP2⟩
                    case measure => simp [intOf]; omega
                · have hdl : decide (0 < l) = false := by simpa using hl0
                  have HP2 := Lib.hid (HPm.out (fun h => hl0 h.1))
                  clear HPm HBd hl0 c1
                  go_wp2_with fail
                  go_quiet (fail)
                  go_wp2_with fail
                  go_roundw
                  case rel => exact ⟨m + 1, by omega, by go_num, drew_onB HDx.out _, HP2⟩
                  case measure => simp [intOf]; omega
              · obtain rfl : m = k := by omega
                have HP2 := Lib.hid (HP1.out (by
                  have : seenF B m l = false := HNo.out.2 HPx.out
                  rw [HO.out, hd1, hd2, hd3, this]; rfl))
                go_wp2_with fail
                go_roundw
                case rel => exact ⟨m + 1, by omega, by go_num, HDx, HP2⟩
                case measure => simp [intOf]; omega
          · have hd3 : decide (0 ≤ z ∧ z ≤ 9) = false := by simpa using hz
            have HF := Lib.hid (HB1.out (by rw [HO.out, hd1, hd2, hd3]; rfl))
            clear HP1 HB1 HO hx hy hz
            go_wp2_with (go_at_call 38; refine (inRange_any _ _ _ _).mono ?_; rintro e w' ⟨rfl, rfl⟩)
            go_ret
            obtain ⟨q, hq⟩ := HD.out
            exact ⟨q, by rw [HF.out]; rfl, hq⟩
        · have hd2 : decide (0 ≤ y ∧ y ≤ 9) = false := by simpa using hy
          have HF := Lib.hid (HB1.out (by rw [HO.out, hd1, hd2]; rfl))
          clear HP1 HB1 HO hx hy
          go_wp2_with (go_at_call 38; refine (inRange_any _ _ _ _).mono ?_; rintro e w' ⟨rfl, rfl⟩)
          go_ret
          obtain ⟨q, hq⟩ := HD.out
          exact ⟨q, by rw [HF.out]; rfl, hq⟩
      · have hd1 : decide (1 ≤ x ∧ x ≤ 40) = false := by simpa using hx
        have HF := Lib.hid (HB1.out (by rw [HO.out, hd1]; rfl))
        clear HP1 HB1 HO hx
        go_wp2_with (go_at_call 38; refine (inRange_any _ _ _ _).mono ?_; rintro e w' ⟨rfl, rfl⟩)
        go_ret
        obtain ⟨q, hq⟩ := HD.out
        exact ⟨q, by rw [HF.out]; rfl, hq⟩
    · obtain rfl : k = n := by omega
      by_cases hl : 20 < k
      · have HF := Lib.hid (HLong.out hl)
        have hd : decide (k ≤ 20) = false := by simp; omega
        go_wp2_with fail
        go_ret
        obtain ⟨q, hq⟩ := HD.out
        exact ⟨q, by rw [HF.out]; simp; omega, hq⟩
      · have HF := Lib.hid (HGood.out (by omega) HP.out)
        have hd : decide (k ≤ 20) = true := by simp; omega
        go_wp2_with fail
        go_ret
        obtain ⟨q, hq⟩ := HD.out
        exact ⟨q, by rw [HF.out]; simp; omega, hq⟩

end Go.Proofs.YtgppljadkpoklaaDoor
