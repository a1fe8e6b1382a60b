/- The reference's parseInt. -/
import Derived.Test.YtckmkjkckadfjaaDoorParPlainS
import Derived.Test.YtckmkjkckadfjaaDoorLevPlain
import Derived.Test.YtckmkjkckadfjaaDoorBase
namespace Go.Proofs.YtckmkjkckadfjaaDoor
open Go.RowKit
set_option maxHeartbeats 2000000
set_option maxRecDepth 100000
set_option linter.unusedVariables false

theorem fold_snoc (l : Bs) (k : Nat) (h : k < l.length) : (l.take (k + 1)).foldl addD 0 = 10 * (l.take k).foldl addD 0 + ((l.getD k 0).toNat : Int) - 48 := by
  rw [List.take_succ_eq_append_getElem h, List.foldl_append, List.getD_eq_getElem?_getD, List.getElem?_eq_getElem h]
  rfl
theorem fold_bd (l : Bs) : ∀ k, k ≤ l.length → -(40 * 10 ^ k - 40 : Int) ≤ (l.take k).foldl addD 0 ∧ (l.take k).foldl addD 0 ≤ 40 * 10 ^ k - 40
  | 0, _ => by simp
  | k + 1, h => by
    obtain ⟨h1, h2⟩ := fold_bd l k (by omega)
    have hc : (l.getD k 0).toNat < 256 := (l.getD k 0).toNat_lt
    rw [fold_snoc l k (by omega), Int.pow_succ]
    generalize (10 : Int) ^ k = p at *
    omega
theorem fold_bd9 (l : Bs) (k : Nat) (hk : k ≤ l.length) (h9 : k ≤ 9) : -40000000000 ≤ (l.take k).foldl addD 0 ∧ (l.take k).foldl addD 0 ≤ 40000000000 := by
  obtain ⟨h1, h2⟩ := fold_bd l k hk
  have hp : (10 : Nat) ^ k ≤ 10 ^ 9 := Nat.pow_le_pow_right (by decide) h9
  have hq : ((10 : Int) ^ k) ≤ 1000000000 := by
    have : ((10 ^ k : Nat) : Int) ≤ ((10 ^ 9 : Nat) : Int) := Int.ofNat_le.2 hp
    simpa using this
  generalize (10 : Int) ^ k = p at *
  constructor <;> omega
theorem parseInt_any (s : ByteArray) (w : World) (hs : s.size ≤ maxLen) :
    Calls Tryd.prog 42 #[.string s] w fun e w' => e = .returned (.int .i64 (pI s.data.toList)) ∧ w = w' := by
  unfold maxLen at hs
  have hsz : s.data.toList.length = s.size := by simp
  by_cases hh : s.data.toList.head? = some 45
  · have h0 : 0 < s.size := by
      rw [← hsz]
      cases e : s.data.toList with
      | nil => rw [e] at hh; cases hh
      | cons c r => simp
    have hc := chS_at s 0 h0
    have he : chS s 0 = 45 := by
      unfold chS
      rw [List.head?_eq_getElem?, List.getElem?_eq_getElem (by rw [hsz]; exact h0)] at hh
      rw [List.getD_eq_getElem?_getD, List.getElem?_eq_getElem (by rw [hsz]; exact h0)]
      injection hh with hh
      show (s.data.toList[0]).toNat = 45
      rw [hh]; rfl
    rw [he] at hc
    have htd : (s.extract 1 s.size).data.toList = s.data.toList.drop 1 := Lib.extract_to_end s 1
    have hts : (s.extract 1 s.size).size = s.size - 1 := by simp
    have HEnd0 : Hid (-1 * ((s.extract 1 s.size).data.toList.take 9).foldl addD 0 = pI s.data.toList) := Lib.hid (by unfold pI; rw [if_pos hh, htd])
    have HB0 := Lib.hid (fun k (h : k ≤ (s.extract 1 s.size).size) h9 => fold_bd9 (s.extract 1 s.size).data.toList k (by simpa using h) h9)
    have htm : (s.extract 1 s.size).size ≤ 9223372036854775807 := by rw [hts]; omega
    clear hh he hsz htd hts
    go_enter Tryd.func42, Tryd.ntmps42
    go_wp2_with fail
    obtain ⟨t, ht⟩ : ∃ t, s.extract 1 s.size = t := ⟨_, rfl⟩
    rw [ht] at HEnd0 HB0 htm ⊢
    clear ht
    have HEnd := HEnd0
    have HBd := HB0
    go_loop [4, 5] (fun n i => ∃ k : Nat, k ≤ t.size ∧ k ≤ 9 ∧ i = .int .i64 k ∧ ∃ m : Int, n = .int .i64 m ∧ Hid (m = (t.data.toList.take k).foldl addD 0)) (fun _ i => 9 - (intOf i).toNat)
    case atStart => exact ⟨0, by omega, by omega, rfl, 0, rfl, Lib.hid rfl⟩
    case round =>
      obtain ⟨k, hk, hk9, rfl, m, rfl, HM⟩ := hrel
      obtain ⟨m1, m2⟩ := HBd.out k hk hk9
      rw [← HM.out] at m1 m2
      by_cases hlt : k < t.size
      · by_cases h9 : k < 9
        · have hc := chS_at t k hlt
          have hcb := chS_byte t k
          have HS : Hid (10 * m + (chS t k : Int) - 48 = (t.data.toList.take (k + 1)).foldl addD 0) := Lib.hid (by rw [fold_snoc _ k (by simpa using hlt), ← HM.out]; rfl)
          clear HM
          obtain ⟨c, hcc⟩ : ∃ c, chS t k = c := ⟨_, rfl⟩
          rw [hcc] at hc hcb HS
          clear hcc
          go_wp2_with fail
          go_round
          case rel => exact ⟨k + 1, by omega, by omega, by go_num, _, rfl, HS⟩
          case measure => simp [intOf]; omega
        · have HE : Hid ((-1) * m = pI s.data.toList) := Lib.hid (by rw [HM.out, show k = 9 by omega]; exact HEnd.out)
          clear HM
          go_wp2_with fail
          go_ret
          exact ⟨by rw [← HE.out]; simp, rfl⟩
      · have HE : Hid ((-1) * m = pI s.data.toList) := Lib.hid (by
          rw [HM.out]
          have e : t.data.toList.take k = t.data.toList.take 9 := by
            rw [List.take_of_length_le (by simpa using (by omega : t.size ≤ k)), List.take_of_length_le (by simpa using (by omega : t.size ≤ 9))]
          rw [e]; exact HEnd.out)
        clear HM
        go_wp2_with fail
        go_ret
        exact ⟨by rw [← HE.out]; simp, rfl⟩
  · have HBd := Lib.hid (fun k (h : k ≤ s.size) h9 => fold_bd9 s.data.toList k (by rw [hsz]; exact h) h9)
    have HEnd : Hid (1 * (s.data.toList.take 9).foldl addD 0 = pI s.data.toList) := Lib.hid (by unfold pI; rw [if_neg hh])
    by_cases h0 : 0 < s.size
    · have hc := chS_at s 0 h0
      have hcb := chS_byte s 0
      have hne : ((chS s 0 : Int) == 45) = false := by
        rw [beq_eq_false_iff_ne]
        intro e
        apply hh
        unfold chS at e
        rw [List.head?_eq_getElem?, List.getElem?_eq_getElem (by rw [hsz]; exact h0)]
        congr 1
        apply UInt8.toNat_inj.1
        rw [List.getD_eq_getElem?_getD, List.getElem?_eq_getElem (by rw [hsz]; exact h0)] at e
        simpa using (by exact_mod_cast e : _)
      clear hh hsz
      obtain ⟨c, hcc⟩ : ∃ c, chS s 0 = c := ⟨_, rfl⟩
      rw [hcc] at hc hcb hne
      clear hcc
      go_enter Tryd.func42, Tryd.ntmps42
      go_wp2_with fail
      go_loop [4, 5] (fun n i => ∃ k : Nat, k ≤ s.size ∧ k ≤ 9 ∧ i = .int .i64 k ∧ ∃ m : Int, n = .int .i64 m ∧ Hid (m = (s.data.toList.take k).foldl addD 0)) (fun _ i => 9 - (intOf i).toNat)
      case atStart => exact ⟨0, by omega, by omega, rfl, 0, rfl, Lib.hid rfl⟩
      case round =>
        obtain ⟨k, hk, hk9, rfl, m, rfl, HM⟩ := hrel
        obtain ⟨m1, m2⟩ := HBd.out k hk hk9
        rw [← HM.out] at m1 m2
        by_cases hlt : k < s.size
        · by_cases h9 : k < 9
          · have hc := chS_at s k hlt
            have hcb := chS_byte s k
            have HS : Hid (10 * m + (chS s k : Int) - 48 = (s.data.toList.take (k + 1)).foldl addD 0) := Lib.hid (by rw [fold_snoc _ k (by simpa using hlt), ← HM.out]; rfl)
            clear HM
            obtain ⟨c, hcc⟩ : ∃ c, chS s k = c := ⟨_, rfl⟩
            rw [hcc] at hc hcb HS
            clear hcc
            go_wp2_with fail
            go_round
            case rel => exact ⟨k + 1, by omega, by omega, by go_num, _, rfl, HS⟩
            case measure => simp [intOf]; omega
          · have HE : Hid (1 * m = pI s.data.toList) := Lib.hid (by rw [HM.out, show k = 9 by omega]; exact HEnd.out)
            clear HM
            go_wp2_with fail
            go_ret
            exact ⟨by rw [← HE.out]; simp, rfl⟩
        · have HE : Hid (1 * m = pI s.data.toList) := Lib.hid (by
            rw [HM.out]
            have e : s.data.toList.take k = s.data.toList.take 9 := by
              rw [List.take_of_length_le (by simpa using (by omega : s.size ≤ k)), List.take_of_length_le (by simpa using (by omega : s.size ≤ 9))]
            rw [e]; exact HEnd.out)
          clear HM
          go_wp2_with fail
          go_ret
          exact ⟨by rw [← HE.out]; simp, rfl⟩
    · have h00 : s.size = 0 := by omega
      have HF : Hid (pI s.data.toList = 0) := Lib.hid (by
        have e : s.data.toList = [] := List.length_eq_zero_iff.1 (by rw [hsz]; exact h00)
        rw [e]; rfl)
      clear hh hsz HEnd HBd
      have hd : decide ((0 : Int) < (s.size : Int)) = false := decide_eq_false (by omega)
      go_enter Tryd.func42, Tryd.ntmps42
      go_wp2_with fail
      go_loop [4, 5] (fun n i => n = .int .i64 0 ∧ i = .int .i64 0) (fun _ _ => 0)
      case atStart => exact ⟨rfl, rfl⟩
      case round =>
        obtain ⟨rfl, rfl⟩ := hrel
        go_wp2_with fail
        go_ret
        exact ⟨by rw [HF.out]; rfl, rfl⟩
end Go.Proofs.YtckmkjkckadfjaaDoor
