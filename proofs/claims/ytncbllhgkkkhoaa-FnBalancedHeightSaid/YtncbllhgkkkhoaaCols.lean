/- The functions that test heights and fill columns: what they return. -/
import Derived.Test.YtncbllhgkkkhoaaColsPlain
import Derived.Test.YtncbllhgkkkhoaaRange
import Derived.Test.YtncbllhgkkkhoaaAppend
namespace Go.Proofs.Ytncbllhgkkkhoaa
open Go.RowKit
set_option maxHeartbeats 1000000
set_option maxRecDepth 100000

theorem validHeights_any (v : Value) (L : List Int) (w : World) (h : SlI w v L) :
    Calls Try.prog 33 #[v] w fun e w' => e = .returned (.bool (okH L)) ∧ w = w' := by
  have HW := Lib.hid h
  obtain ⟨a, cap, rfl, h1, h2, _⟩ := h
  unfold maxLen at h2
  have HBad := Lib.hid (fun k hk hx => okH_bad (L := L) k hk hx)
  have HLong : Hid (40 < L.length → okH L = false) := okH_long
  have HGood : Hid (L.length ≤ 40 → (∀ k, k < L.length → 1 ≤ L.getD k 0 ∧ L.getD k 0 ≤ 1000) → okH L = true) := okH_of
  have HC : Hid (∀ k, k < L.length → ∃ b off, a = some ⟨b, off, none⟩ ∧ b < w.heap.size ∧ ∀ j, j < L.length → w.cell? ⟨b, off + j, none⟩ = some (.int .i64 (L.getD j 0))) := fun k hk => HW.out.cells (by omega)
  clear HW
  generalize hn : L.length = n at *
  clear hn
  go_enter Try.func33, Try.ntmps33
  go_wp2_with fail
  go_loop [7] (fun i => ∃ k : Nat, k ≤ n ∧ i = .int .i64 k ∧ Hid (∀ j, j < k → 1 ≤ L.getD j 0 ∧ L.getD j 0 ≤ 1000)) (fun i => n - (intOf i).toNat)
  case atStart => exact ⟨0, by omega, rfl, fun j hj => by omega⟩
  case round =>
    obtain ⟨k, hk, rfl, HP⟩ := hrel
    by_cases hlt : k < n
    · obtain ⟨b, off, rfl, hb, hc⟩ := HC.out k hlt
      have c0 := hc k hlt
      have HB1 := Lib.hid (HBad.out k hlt)
      have HP1 : Hid (1 ≤ L.getD k 0 ∧ L.getD k 0 ≤ 1000 → ∀ j, j < k + 1 → 1 ≤ L.getD j 0 ∧ L.getD j 0 ≤ 1000) := by
        intro hx j hj
        by_cases hjk : j = k
        · subst hjk; exact hx
        · exact HP.out j (by omega)
      clear hc HP
      generalize L.getD k 0 = x at *
      by_cases hx : 1 ≤ x ∧ x ≤ 1000
      · have hd : decide (1 ≤ x ∧ x ≤ 1000) = true := by simpa using hx
        have HP2 := Lib.hid (HP1.out hx)
        clear HP1 hx
        go_wp2_with (go_at_call 38; refine (within_any _ _ _ _).mono ?_; rintro e w' ⟨rfl, rfl⟩)
        go_round
        case rel => exact ⟨k + 1, by omega, by go_num, HP2⟩
        case measure => simp [intOf]; omega
      · have hd : decide (1 ≤ x ∧ x ≤ 1000) = false := by simpa using hx
        have HF := Lib.hid (HB1.out hx)
        clear hx HP1 HB1
        go_wp2_with (go_at_call 38; refine (within_any _ _ _ _).mono ?_; rintro e w' ⟨rfl, rfl⟩)
        go_ret
        rw [HF.out]
        exact ⟨rfl, rfl⟩
    · obtain rfl : k = n := by omega
      by_cases hl : 40 < k
      · have HF := Lib.hid (HLong.out hl)
        have hd : decide (k ≤ 40) = false := by simp; omega
        go_wp2_with fail
        go_ret
        rw [HF.out]
        exact ⟨by simp; omega, rfl⟩
      · have HF := Lib.hid (HGood.out (by omega) HP.out)
        have hd : decide (k ≤ 40) = true := by simp; omega
        go_wp2_with fail
        go_ret
        rw [HF.out]
        exact ⟨by simp; omega, rfl⟩

theorem svalidHeights_any (v : Value) (L : List Int) (w : World) (h : SlI w v L) :
    Calls Try.prog 32 #[v] w fun e w' => e = .returned (.bool (okH L)) ∧ w = w' := by
  have HW := Lib.hid h
  obtain ⟨a, cap, rfl, h1, h2, _⟩ := h
  unfold maxLen at h2
  have HBad := Lib.hid (fun k hk hx => okH_bad (L := L) k hk hx)
  have HLong : Hid (40 < L.length → okH L = false) := okH_long
  have HGood : Hid (L.length ≤ 40 → (∀ k, k < L.length → 1 ≤ L.getD k 0 ∧ L.getD k 0 ≤ 1000) → okH L = true) := okH_of
  have HC : Hid (∀ k, k < L.length → ∃ b off, a = some ⟨b, off, none⟩ ∧ b < w.heap.size ∧ ∀ j, j < L.length → w.cell? ⟨b, off + j, none⟩ = some (.int .i64 (L.getD j 0))) := fun k hk => HW.out.cells (by omega)
  clear HW
  generalize hn : L.length = n at *
  clear hn
  go_enter Try.func32, Try.ntmps32
  go_wp2_with fail
  go_loop [3] (fun i => ∃ k : Nat, k ≤ n ∧ i = .int .i64 k ∧ Hid (∀ j, j < k → 1 ≤ L.getD j 0 ∧ L.getD j 0 ≤ 1000)) (fun i => n - (intOf i).toNat)
  case atStart => exact ⟨0, by omega, rfl, fun j hj => by omega⟩
  case round =>
    obtain ⟨k, hk, rfl, HP⟩ := hrel
    by_cases hlt : k < n
    · obtain ⟨b, off, rfl, hb, hc⟩ := HC.out k hlt
      have c0 := hc k hlt
      have HB1 := Lib.hid (HBad.out k hlt)
      have HP1 : Hid (1 ≤ L.getD k 0 ∧ L.getD k 0 ≤ 1000 → ∀ j, j < k + 1 → 1 ≤ L.getD j 0 ∧ L.getD j 0 ≤ 1000) := by
        intro hx j hj
        by_cases hjk : j = k
        · subst hjk; exact hx
        · exact HP.out j (by omega)
      clear hc HP
      generalize L.getD k 0 = x at *
      by_cases hx : 1 ≤ x ∧ x ≤ 1000
      · have hd : decide (1 ≤ x ∧ x ≤ 1000) = true := by simpa using hx
        have HP2 := Lib.hid (HP1.out hx)
        clear HP1 hx
        go_wp2_with (go_at_call 36; refine (inRange_any _ _ _ _).mono ?_; rintro e w' ⟨rfl, rfl⟩)
        go_round
        case rel => exact ⟨k + 1, by omega, by go_num, HP2⟩
        case measure => simp [intOf]; omega
      · have hd : decide (1 ≤ x ∧ x ≤ 1000) = false := by simpa using hx
        have HF := Lib.hid (HB1.out hx)
        clear hx HP1 HB1
        go_wp2_with (go_at_call 36; refine (inRange_any _ _ _ _).mono ?_; rintro e w' ⟨rfl, rfl⟩)
        go_ret
        rw [HF.out]
        exact ⟨rfl, rfl⟩
    · obtain rfl : k = n := by omega
      by_cases hl : 40 < k
      · have HF := Lib.hid (HLong.out hl)
        go_wp2_with fail
        go_ret
        rw [HF.out]
        exact ⟨by simp; omega, rfl⟩
      · have HF := Lib.hid (HGood.out (by omega) HP.out)
        go_wp2_with fail
        go_ret
        rw [HF.out]
        exact ⟨by simp; omega, rfl⟩

/-- The reference's number of columns. -/
theorem scolumnsNeeded_any (v : Value) (L : List Int) (h : Int) (w : World) (hs : SlI w v L) (hok : okH L = true) (h0 : 0 ≤ h) (h1 : h ≤ 100000) :
    Calls Try.prog 37 #[v, .int .i64 h] w fun e w' => e = .returned (.int .i64 (need h L)) ∧ w = w' := by
  obtain ⟨hl, hk⟩ := okH_at hok
  have HW := Lib.hid hs
  obtain ⟨a, cap, rfl, h2, h3, _⟩ := hs
  unfold maxLen at h3
  have HC : Hid (∀ k, k < L.length → ∃ b off, a = some ⟨b, off, none⟩ ∧ b < w.heap.size ∧ ∀ j, j < L.length → w.cell? ⟨b, off + j, none⟩ = some (.int .i64 (L.getD j 0))) := fun k hk => HW.out.cells (by omega)
  have HK := Lib.hid hk
  have HBad : Hid (∀ k, k < L.length → h < L.getD k 0 → need h L = -1) := fun k hk hx => by unfold need; rw [fitB_bad k hk hx]; rfl
  have HGood : Hid ((∀ k, k < L.length → L.getD k 0 ≤ h) → need h L = cnt h L L.length) := fun hx => by unfold need; rw [fitB_of hx]; rfl
  have HBd : Hid (∀ k, k ≤ L.length → (∀ j, j < k → L.getD j 0 ≤ h) → 0 ≤ room h L k ∧ room h L k ≤ h ∧ cnt h L k ≤ k) := fun k hk2 hx => by
    have := room_bd h L k h0 (fun j hj => ⟨(hk j (by omega)).1, hx j hj⟩) k (Nat.le_refl _)
    exact ⟨this.1, this.2.1, this.2.2.1⟩
  have HS1 := Lib.hid (cnt_succ h L)
  have HS2 := Lib.hid (room_succ h L)
  have H0 : Hid (cnt h L 0 = 0 ∧ room h L 0 = 0) := ⟨rfl, rfl⟩
  clear hk HW hok
  generalize hn : L.length = n at *
  clear hn
  go_enter Try.func37, Try.ntmps37
  go_wp2_with fail
  go_loop [5, 6, 7] (fun c r i => ∃ k : Nat, k ≤ n ∧ i = .int .i64 k ∧ c = .int .i64 (cnt h L k) ∧ r = .int .i64 (room h L k) ∧ Hid (∀ j, j < k → L.getD j 0 ≤ h)) (fun _ _ i => n - (intOf i).toNat)
  case atStart => exact ⟨0, by omega, rfl, rfl, rfl, fun j hj => by omega⟩
  case round =>
    obtain ⟨k, hk, rfl, rfl, rfl, HP⟩ := hrel
    obtain ⟨b1, b2, b3⟩ := HBd.out k hk HP.out
    by_cases hlt : k < n
    · obtain ⟨b, off, rfl, hb, hc⟩ := HC.out k hlt
      have c0 := hc k hlt
      have hx := HK.out k hlt
      have HB1 := Lib.hid (HBad.out k hlt)
      have HP1 : Hid (L.getD k 0 ≤ h → ∀ j, j < k + 1 → L.getD j 0 ≤ h) := by
        intro hx j hj
        by_cases hjk : j = k
        · subst hjk; exact hx
        · exact HP.out j (by omega)
      have HT1 := Lib.hid (HS1.out k)
      have HT2 := Lib.hid (HS2.out k)
      clear hc HP
      generalize L.getD k 0 = x at *
      by_cases hxh : h < x
      · have HF := Lib.hid (HB1.out hxh)
        clear HP1 HB1 HT1 HT2
        go_wp2_with fail
        go_ret
        rw [HF.out]
        exact ⟨rfl, rfl⟩
      · have HP2 := Lib.hid (HP1.out (by omega))
        clear HP1 HB1
        generalize hrm : room h L k = r at *
        generalize hcn : cnt h L k = c at *
        have HRM := Lib.hid hrm
        have HCN := Lib.hid hcn
        clear hrm hcn
        by_cases hrx : r < x
        · have HU1 : Hid (cnt h L (k + 1) = c + 1) := Lib.hid (by rw [HT1.out, if_pos hrx])
          have HU2 : Hid (room h L (k + 1) = h - x) := Lib.hid (by rw [HT2.out, if_pos hrx])
          clear HT1 HT2
          go_wp2_with fail
          go_round
          case rel => exact ⟨k + 1, by omega, by go_num, by rw [HU1.out]; go_num, by rw [HU2.out], HP2⟩
          case measure => simp [intOf]; omega
        · have HU1 : Hid (cnt h L (k + 1) = c) := Lib.hid (by rw [HT1.out, if_neg hrx])
          have HU2 : Hid (room h L (k + 1) = r - x) := Lib.hid (by rw [HT2.out, if_neg hrx])
          clear HT1 HT2
          go_wp2_with fail
          go_round
          case rel => exact ⟨k + 1, by omega, by go_num, by rw [HU1.out], by rw [HU2.out], HP2⟩
          case measure => simp [intOf]; omega
    · obtain rfl : k = n := by omega
      have HF := Lib.hid (HGood.out HP.out)
      go_wp2_with fail
      go_ret
      rw [HF.out]
      exact ⟨rfl, rfl⟩
end Go.Proofs.Ytncbllhgkkkhoaa
