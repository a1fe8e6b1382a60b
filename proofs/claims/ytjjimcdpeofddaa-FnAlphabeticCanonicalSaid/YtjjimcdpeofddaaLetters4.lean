/- Both FromAlphabetic give the number and true where the text is letters of a number in range, else 0 and false. -/
import Derived.Test.YtjjimcdpeofddaaLetters2
namespace Go.Proofs.Ytjjimcdpeofddaa
open Go.RowKit
set_option maxHeartbeats 400000

theorem isLower_any (c : Int) (w : World) :
    Calls Try.prog 13 #[.int .u8 c] w fun e w' => e = .returned (.bool (decide (97 ≤ c ∧ c ≤ 122))) ∧ w = w' := by
  by_cases h : 97 ≤ c
  · go_enter Try.func13, Try.ntmps13
    go_wp2
    go_ret
    exact ⟨by simp [h], rfl⟩
  · go_enter Try.func13, Try.ntmps13
    go_wp2
    go_ret
    exact ⟨by simp; omega, rfl⟩

def numA (l : List UInt8) : Int := if okA l then valI l else 0

theorem okA_of (l : List UInt8) (h : l.all lowB = true) : okA l = decide (1 ≤ valI l ∧ valI l ≤ 3999) := by unfold okA; rw [h]; rfl

theorem okA_big (a b : List UInt8) (ha : 3999 < valI a) : okA (a ++ b) = false := by
  by_cases h : (a ++ b).all lowB = true
  · rw [okA_of _ h]
    have := valI_low_grow a b h
    simp; omega
  · unfold okA; simp only [Bool.not_eq_true] at h; rw [h]; rfl
theorem okA_bad (a b : List UInt8) (ha : a.all lowB = false) : okA (a ++ b) = false := by
  unfold okA; rw [List.all_append, ha]; rfl
theorem numA_no {l : List UInt8} (h : okA l = false) : numA l = 0 := by unfold numA; rw [h]; rfl
theorem numA_yes {l : List UInt8} (h : okA l = true) : numA l = valI l := by unfold numA; rw [h]; rfl

theorem fromA_any (s : ByteArray) (w : World) (hs : s.size ≤ maxLen) :
    Calls Try.prog 5 #[.string s] w fun e w' => e = .returned (.tuple #[.int .i64 (numA s.data.toList), .bool (okA s.data.toList)]) ∧ w = w' := by
  unfold maxLen at hs
  go_enter Try.func5, Try.ntmps5
  go_wp2
  go_loop [4, 5, 8] (fun t _ i => ∃ k : Nat, k ≤ s.size ∧ i = .int .i64 k ∧ t = .int .i64 (valI (s.data.toList.take k)) ∧ (s.data.toList.take k).all lowB = true ∧ valI (s.data.toList.take k) ≤ 200000) (fun _ _ i => s.size - (intOf i).toNat)
  case atStart => exact ⟨0, by omega, rfl, rfl, rfl, by simp [valI]⟩
  case round =>
    obtain ⟨k, hk, rfl, rfl, hlow, hv⟩ := hrel
    have hv0 := valI_low_nonneg _ hlow
    by_cases hlt : k < s.size
    · have hsn := take_snoc s k hlt
      have hdrop : s.data.toList = s.data.toList.take k ++ s.data.toList.drop k := (List.take_append_drop k _).symm
      have HV := valI_snoc (s.data.toList.take k) s[k]
      have HL := low_snoc (s.data.toList.take k) s[k]
      rw [← hsn] at HV HL
      have hdrop1 : s.data.toList = s.data.toList.take (k + 1) ++ s.data.toList.drop (k + 1) := (List.take_append_drop (k + 1) _).symm
      by_cases hc : 97 ≤ s[k].toNat ∧ s[k].toNat ≤ 122
      · have hd : decide ((97 : Int) ≤ (s[k].toNat : Int) ∧ (s[k].toNat : Int) ≤ 122) = true := by simp; omega
        obtain ⟨hc1, hc2⟩ := hc
        have hl1 : (s.data.toList.take (k + 1)).all lowB = true := by rw [HL, hlow]; simp [lowB, hc1, hc2]
        have H1 := Lib.hid HV
        have H2 := Lib.hid hl1
        have H3 := Lib.hid hlow
        have H5 : Hid (3999 < valI (s.data.toList.take k) → okA s.data.toList = false) := fun h => by rw [hdrop]; exact okA_big _ _ h
        generalize valI (s.data.toList.take k) = v at *
        clear HV HL hl1 hlow hdrop hdrop1 hsn
        by_cases hv4 : v ≤ 3999
        · go_wp2_with (go_at_call 13; refine (isLower_any _ _).mono ?_; rintro e w' ⟨rfl, rfl⟩)
          go_round
          case rel => exact ⟨k + 1, by omega, by go_num, by rw [H1.out]; go_num, H2.out, by rw [H1.out]; omega⟩
          case measure => simp [intOf]; omega
        · have HN : Hid (okA s.data.toList = false) := H5.out (by omega)
          go_wp2_with (go_at_call 13; refine (isLower_any _ _).mono ?_; rintro e w' ⟨rfl, rfl⟩)
          go_ret2
          exact ⟨by rw [HN.out, numA_no HN.out]; rfl, rfl⟩
      · have hd : decide ((97 : Int) ≤ (s[k].toNat : Int) ∧ (s[k].toNat : Int) ≤ 122) = false := by simp; omega
        have hb : (s.data.toList.take (k + 1)).all lowB = false := by rw [HL, hlow]; simp [lowB]; omega
        have HN : Hid (okA s.data.toList = false) := by rw [hdrop1]; exact okA_bad _ _ hb
        clear HV HL hb hlow hdrop hdrop1 hsn
        go_wp2_with (go_at_call 13; refine (isLower_any _ _).mono ?_; rintro e w' ⟨rfl, rfl⟩)
        go_ret2
        exact ⟨by rw [HN.out, numA_no HN.out]; rfl, rfl⟩
    · obtain rfl : k = s.size := by omega
      have ht : s.data.toList.take s.size = s.data.toList := List.take_of_length_le (by simp)
      rw [ht] at hlow hv hv0 ⊢
      have HO := Lib.hid (okA_of _ hlow)
      have HY := Lib.hid (numA_yes (l := s.data.toList))
      have HZ := Lib.hid (numA_no (l := s.data.toList))
      generalize valI s.data.toList = v at *
      clear ht hlow
      by_cases hr : 1 ≤ v ∧ v ≤ 3999
      · have hd : decide (1 ≤ v ∧ v ≤ 3999) = true := by simpa using hr
        have HT : Hid (okA s.data.toList = true) := by rw [HO.out]; exact hd
        go_wp2_with (go_at_call 14; refine (within_any _ _ _ _).mono ?_; rintro e w' ⟨rfl, rfl⟩)
        go_ret2
        exact ⟨by rw [HT.out, HY.out HT.out]; rfl, rfl⟩
      · have hd : decide (1 ≤ v ∧ v ≤ 3999) = false := by simpa using hr
        have HF : Hid (okA s.data.toList = false) := by rw [HO.out]; exact hd
        go_wp2_with (go_at_call 14; refine (within_any _ _ _ _).mono ?_; rintro e w' ⟨rfl, rfl⟩)
        go_ret2
        exact ⟨by rw [HF.out, HZ.out HF.out]; rfl, rfl⟩

theorem sfromA_any (s : ByteArray) (w : World) (hs : s.size ≤ maxLen) :
    Calls Try.prog 6 #[.string s] w fun e w' => e = .returned (.tuple #[.int .i64 (numA s.data.toList), .bool (okA s.data.toList)]) ∧ Below w.heap.size w w' := by
  unfold maxLen at hs
  by_cases h3 : s.size ≤ 3
  · have HI := Lib.hid (okA_iff s.data.toList)
    have HY := Lib.hid (numA_yes (l := s.data.toList))
    have HZ := Lib.hid (numA_no (l := s.data.toList))
    go_enter Try.func6, Try.ntmps6
    go_wp2
    go_loop [4, 5] (fun t i => ∃ k : Nat, k ≤ s.size ∧ i = .int .i64 k ∧ t = .int .i64 (valI (s.data.toList.take k)) ∧ Hid ((k = 0 → valI (s.data.toList.take k) = 0) ∧ (k ≤ 1 → -96 ≤ valI (s.data.toList.take k) ∧ valI (s.data.toList.take k) ≤ 159) ∧ (k ≤ 2 → -2592 ≤ valI (s.data.toList.take k) ∧ valI (s.data.toList.take k) ≤ 4293) ∧ -67488 ≤ valI (s.data.toList.take k) ∧ valI (s.data.toList.take k) ≤ 111777)) (fun _ i => s.size - (intOf i).toNat)
    case atStart => exact ⟨0, by omega, rfl, rfl, by simp [valI, Hid]⟩
    case round =>
      obtain ⟨k, hk, rfl, rfl, HB⟩ := hrel
      by_cases hlt : k < s.size
      · have hsn := take_snoc s k hlt
        have hc : (s[k].toNat : Int) ≤ 255 := by have := UInt8.toNat_lt s[k]; omega
        have HV := valI_snoc (s.data.toList.take k) s[k]
        rw [← hsn] at HV
        have H1 := Lib.hid HV
        clear HV hsn
        have hb0 := HB.out
        have hb : -67488 ≤ 26 * valI (s.data.toList.take k) + ((s[k].toNat : Int) - 96) ∧ 26 * valI (s.data.toList.take k) + ((s[k].toNat : Int) - 96) ≤ 111777 ∧ (k + 1 ≤ 1 → -96 ≤ 26 * valI (s.data.toList.take k) + ((s[k].toNat : Int) - 96) ∧ 26 * valI (s.data.toList.take k) + ((s[k].toNat : Int) - 96) ≤ 159) ∧ (k + 1 ≤ 2 → -2592 ≤ 26 * valI (s.data.toList.take k) + ((s[k].toNat : Int) - 96) ∧ 26 * valI (s.data.toList.take k) + ((s[k].toNat : Int) - 96) ≤ 4293) := by
          generalize valI (s.data.toList.take k) = v at *
          refine ⟨?_, ?_, ?_, ?_⟩
          · omega
          · omega
          · intro h
            have := hb0.1 (by omega)
            omega
          · intro h
            have := hb0.2.1 (by omega)
            omega
        have H2 := Lib.hid hb
        have hl := hb0.2.2.2.1
        have hr := hb0.2.2.2.2
        clear hb hb0
        generalize valI (s.data.toList.take k) = v at *
        go_wp2_with fail
        go_round
        case rel =>
          refine ⟨k + 1, by omega, by go_num, by rw [H1.out]; go_num, ?_⟩
          rw [H1.out]
          exact ⟨fun h => by omega, H2.out.2.2.1, H2.out.2.2.2, H2.out.1, H2.out.2.1⟩
        case measure => simp [intOf]; omega
      · obtain rfl : k = s.size := by omega
        have ht : s.data.toList.take s.size = s.data.toList := List.take_of_length_le (by simp)
        rw [ht] at HB ⊢
        have hl := HB.out.2.2.2.1
        have hr := HB.out.2.2.2.2
        have h3' : decide (s.data.toList.length ≤ 3) = true := by simpa using h3
        clear HB ht
        rw [h3', Bool.true_and] at HI
        clear h3'
        generalize hv : valI s.data.toList = v at *
        have HVV := Lib.hid hv
        clear hv
        by_cases hr1 : 1 ≤ v ∧ v ≤ 3999
        · have hd : decide (1 ≤ v ∧ v ≤ 3999) = true := by simpa using hr1
          obtain ⟨m, rfl⟩ := Int.eq_ofNat_of_zero_le (show 0 ≤ v by omega)
          rw [Int.toNat_natCast, hd, Bool.true_and] at HI
          by_cases he : alphaF m m [] = s.data.toList
          · have HT : Hid (okA s.data.toList = true) := HI.out.trans (by simpa using he)
            have hne : (alphaF m m [] == s.toList) = true := by rw [ByteArray.toList_eq]; simpa using he
            clear he
            go_wp2_with (first | (go_at_call 15; refine (inRange_any _ _ _ _).mono ?_; rintro e w' ⟨rfl, rfl⟩) | (go_at_call 16; refine (letters_any m (by omega) _).mono ?_; rintro e w1 ⟨rfl, hb⟩))
            go_ret2
            exact ⟨by rw [HT.out, HY.out HT.out]; rfl, by assumption⟩
          · have HT : Hid (okA s.data.toList = false) := HI.out.trans (by simpa using he)
            have hne : (alphaF m m [] == s.toList) = false := by rw [ByteArray.toList_eq]; simpa using he
            clear he
            go_wp2_with (first | (go_at_call 15; refine (inRange_any _ _ _ _).mono ?_; rintro e w' ⟨rfl, rfl⟩) | (go_at_call 16; refine (letters_any m (by omega) _).mono ?_; rintro e w1 ⟨rfl, hb⟩))
            go_ret2
            exact ⟨by rw [HT.out, HZ.out HT.out]; rfl, by assumption⟩
        · have hd : decide (1 ≤ v ∧ v ≤ 3999) = false := by simpa using hr1
          have HT : Hid (okA s.data.toList = false) := by rw [HI.out, hd]; rfl
          go_wp2_with (first | (go_at_call 15; refine (inRange_any _ _ _ _).mono ?_; rintro e w' ⟨rfl, rfl⟩))
          go_ret2
          exact ⟨by rw [HT.out, HZ.out HT.out]; rfl, Below.refl _ _⟩
  · have HT : Hid (okA s.data.toList = false) := by
      rw [okA_iff]
      have : decide (s.data.toList.length ≤ 3) = false := by simpa using h3
      rw [this]; rfl
    have HZ := Lib.hid (numA_no (l := s.data.toList))
    go_enter Try.func6, Try.ntmps6
    go_wp2
    go_ret2
    exact ⟨by rw [HT.out, HZ.out HT.out]; rfl, Below.refl _ _⟩

end Go.Proofs.Ytjjimcdpeofddaa
