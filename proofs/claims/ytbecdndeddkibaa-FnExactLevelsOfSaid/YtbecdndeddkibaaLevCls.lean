/- Classes of characters, the tests of a text, the level between two levels. -/
import Derived.Test.YtbecdndeddkibaaLevPlain
import Derived.Test.YtbecdndeddkibaaRange
namespace Go.Proofs.Ytbecdndeddkibaa
open Go.RowKit
set_option maxHeartbeats 1000000
set_option maxRecDepth 100000
set_option linter.unusedVariables false

theorem isLower_any (c : Nat) (w : World) :
    Calls Try.prog 32 #[.int .u8 (c : Int)] w fun e w' => e = .returned (.bool (lowC c)) ∧ w = w' := by
  have HE : Hid (lowC c = (decide (97 ≤ c) && decide (c ≤ 122))) := Lib.hid rfl
  by_cases h : 97 ≤ c <;> by_cases h2 : c ≤ 122
  all_goals
    have h3 : (97 : Int) ≤ c ↔ 97 ≤ c := by omega
    have h4 : (c : Int) ≤ 122 ↔ c ≤ 122 := by omega
    go_enter Try.func32, Try.ntmps32
    go_wp2
    go_ret
    exact ⟨by rw [HE.out]; simp [h, h2], rfl⟩
theorem isNeutral_any (c : Nat) (w : World) :
    Calls Try.prog 33 #[.int .u8 (c : Int)] w fun e w' => e = .returned (.bool (neuC c)) ∧ w = w' := by
  have HE : Hid (neuC c = (!lowC c && !(decide (65 ≤ c) && decide (c ≤ 90)) && !(decide (48 ≤ c) && decide (c ≤ 57)))) := Lib.hid rfl
  have HL := Lib.hid (isLower_any c w)
  cases hl : lowC c with
  | true =>
    rw [hl] at HL HE
    go_enter Try.func33, Try.ntmps33
    go_wp2_with fail
    refine HL.out.mono ?_
    rintro e w' ⟨rfl, rfl⟩
    go_wp2_with fail
    go_ret
    exact ⟨by rw [HE.out]; simp, rfl⟩
  | false =>
    rw [hl] at HL HE
    by_cases h1 : 65 ≤ c <;> by_cases h2 : c ≤ 90 <;> by_cases h3 : 48 ≤ c <;> by_cases h4 : c ≤ 57
    all_goals first
      | (exfalso; omega)
      | skip
    all_goals
      have g1 : (65 : Int) ≤ c ↔ 65 ≤ c := by omega
      have g2 : (c : Int) ≤ 90 ↔ c ≤ 90 := by omega
      have g3 : (48 : Int) ≤ c ↔ 48 ≤ c := by omega
      have g4 : (c : Int) ≤ 57 ↔ c ≤ 57 := by omega
      go_enter Try.func33, Try.ntmps33
      go_wp2_with fail
      refine HL.out.mono ?_
      rintro e w' ⟨rfl, rfl⟩
      go_wp2_with fail
      go_ret
      exact ⟨by rw [HE.out]; simp [h1, h2, h3, h4], rfl⟩
theorem neutralLevel_any (b a base : Nat) (w : World) (hb : b ≤ 2) (ha : a ≤ 2) (hba : base ≤ 1) :
    Calls Try.prog 34 #[.int .i64 (b : Int), .int .i64 (a : Int), .int .i64 (base : Int)] w fun e w' => e = .returned (.int .i64 ((neut b a base : Nat) : Int)) ∧ w = w' := by
  obtain rfl | rfl | rfl : b = 0 ∨ b = 1 ∨ b = 2 := by omega
  all_goals
    obtain rfl | rfl | rfl : a = 0 ∨ a = 1 ∨ a = 2 := by omega
    all_goals
      obtain rfl | rfl : base = 0 ∨ base = 1 := by omega
      all_goals
        go_enter Try.func34, Try.ntmps34
        go_wp2
        go_ret
        exact ⟨rfl, rfl⟩
def clsF (c : Nat) : Nat := if lowC c then 1 else if upC c then 2 else if digC c then 3 else 0
theorem classOf_any (c : Nat) (w : World) :
    Calls Try.prog 36 #[.int .u8 (c : Int)] w fun e w' => e = .returned (.int .i64 ((clsF c : Nat) : Int)) ∧ w = w' := by
  have HE : Hid (clsF c = if (decide (97 ≤ c) && decide (c ≤ 122)) then 1 else if (decide (65 ≤ c) && decide (c ≤ 90)) then 2 else if (decide (48 ≤ c) && decide (c ≤ 57)) then 3 else 0) := Lib.hid rfl
  by_cases h1 : 97 ≤ c <;> by_cases h2 : c ≤ 122 <;> by_cases h3 : 65 ≤ c <;> by_cases h4 : c ≤ 90 <;> by_cases h5 : 48 ≤ c <;> by_cases h6 : c ≤ 57
  all_goals first
    | (exfalso; omega)
    | skip
  all_goals
    have g1 : (97 : Int) ≤ c ↔ 97 ≤ c := by omega
    have g2 : (c : Int) ≤ 122 ↔ c ≤ 122 := by omega
    have g3 : (65 : Int) ≤ c ↔ 65 ≤ c := by omega
    have g4 : (c : Int) ≤ 90 ↔ c ≤ 90 := by omega
    have g5 : (48 : Int) ≤ c ↔ 48 ≤ c := by omega
    have g6 : (c : Int) ≤ 57 ↔ c ≤ 57 := by omega
    go_enter Try.func36, Try.ntmps36
    go_wp2
    go_ret
    exact ⟨by rw [HE.out]; simp [h1, h2, h3, h4, h5, h6], rfl⟩
theorem clsF_le (c : Nat) : clsF c ≤ 3 := by unfold clsF; split <;> (try split) <;> (try split) <;> omega
def lvlF (cls base : Nat) : Nat := if cls = 2 then 1 else if cls = 1 ∨ cls = 3 then 2 * base else base
theorem levelOf_any (cls base : Nat) (w : World) (hc : cls ≤ 3) (hb : base ≤ 1) :
    Calls Try.prog 35 #[.int .i64 (cls : Int), .int .i64 (base : Int)] w fun e w' => e = .returned (.int .i64 ((lvlF cls base : Nat) : Int)) ∧ w = w' := by
  obtain rfl | rfl | rfl | rfl : cls = 0 ∨ cls = 1 ∨ cls = 2 ∨ cls = 3 := by omega
  all_goals
    obtain rfl | rfl : base = 0 ∨ base = 1 := by omega
    all_goals
      go_enter Try.func35, Try.ntmps35
      go_wp2
      go_ret
      exact ⟨rfl, rfl⟩
theorem validText_any (s : ByteArray) (w : World) (hs : s.size ≤ maxLen) :
    Calls Try.prog 31 #[.string s] w fun e w' => e = .returned (.bool (okT s)) ∧ w = w' := by
  unfold maxLen at hs
  have HG := Lib.hid (fun h1 h2 => okT_of (s := s) h1 h2)
  have HB := Lib.hid (fun k h1 h2 => okT_bad (s := s) (k := k) h1 h2)
  have HL := Lib.hid (fun h => okT_long (s := s) h)
  go_enter Try.func31, Try.ntmps31
  go_wp2_with fail
  go_loop [6] (fun i => ∃ k : Nat, k ≤ s.size ∧ i = .int .i64 k ∧ Hid (∀ j, j < k → 32 ≤ chS s j ∧ chS s j ≤ 126)) (fun i => s.size - (intOf i).toNat)
  case atStart => exact ⟨0, by omega, rfl, Lib.hid (fun j hj => by omega)⟩
  case round =>
    obtain ⟨k, hk, rfl, HP⟩ := hrel
    by_cases hlt : k < s.size
    · have hc := chS_at s k hlt
      have HBk := Lib.hid (HB.out k hlt)
      have HPk : Hid (32 ≤ chS s k ∧ chS s k ≤ 126 → ∀ j, j < k + 1 → 32 ≤ chS s j ∧ chS s j ≤ 126) := Lib.hid (fun h j hj => by
        by_cases e : j = k
        · subst e; exact h
        · exact HP.out j (by omega))
      clear HB HP
      generalize chS s k = c at *
      by_cases h1 : c < 32
      · have hd : decide ((c : Int) < 32) = true := by simp; omega
        have HF := HBk.out (.inl h1)
        go_wp2_with fail
        go_ret
        exact ⟨rfl, rfl⟩
      · have hd : decide ((c : Int) < 32) = false := by simp; omega
        by_cases h2 : 126 < c
        · have hd2 : decide (126 < (c : Int)) = true := by simp; omega
          have HF := HBk.out (.inr h2)
          go_wp2_with fail
          go_ret
          exact ⟨rfl, rfl⟩
        · have hd2 : decide (126 < (c : Int)) = false := by simp; omega
          have HQ := Lib.hid (HPk.out ⟨by omega, by omega⟩)
          clear HPk HBk
          go_wp2_with fail
          go_round
          case rel => exact ⟨k + 1, by omega, by go_num, HQ⟩
          case measure => simp [intOf]; omega
    · obtain rfl : k = s.size := by omega
      by_cases h6 : s.size ≤ 60
      · have HF := HG.out h6 HP.out
        go_wp2_with fail
        go_ret
        exact ⟨by first | (simp; omega) | (simp [h6]) , rfl⟩
      · have HF := HL.out (by omega)
        go_wp2_with fail
        go_ret
        exact ⟨by first | (simp; omega) | (simp [h6]) , rfl⟩
theorem svalidText_any (s : ByteArray) (w : World) (hs : s.size ≤ maxLen) :
    Calls Try.prog 29 #[.string s] w fun e w' => e = .returned (.bool (okT s)) ∧ w = w' := by
  unfold maxLen at hs
  have HG := Lib.hid (fun h1 h2 => okT_of (s := s) h1 h2)
  have HB := Lib.hid (fun k h1 h2 => okT_bad (s := s) (k := k) h1 h2)
  have HL := Lib.hid (fun h => okT_long (s := s) h)
  go_enter Try.func29, Try.ntmps29
  go_wp2_with fail
  go_loop [3] (fun i => ∃ k : Nat, k ≤ s.size ∧ i = .int .i64 k ∧ Hid (∀ j, j < k → 32 ≤ chS s j ∧ chS s j ≤ 126)) (fun i => s.size - (intOf i).toNat)
  case atStart => exact ⟨0, by omega, rfl, Lib.hid (fun j hj => by omega)⟩
  case round =>
    obtain ⟨k, hk, rfl, HP⟩ := hrel
    by_cases hlt : k < s.size
    · have hc := chS_at s k hlt
      have HBk := Lib.hid (HB.out k hlt)
      have HPk : Hid (32 ≤ chS s k ∧ chS s k ≤ 126 → ∀ j, j < k + 1 → 32 ≤ chS s j ∧ chS s j ≤ 126) := Lib.hid (fun h j hj => by
        by_cases e : j = k
        · subst e; exact h
        · exact HP.out j (by omega))
      clear HB HP
      generalize chS s k = c at *
      by_cases h1 : c < 32
      · have hd : decide ((c : Int) < 32) = true := by simp; omega
        have HF := HBk.out (.inl h1)
        go_wp2_with fail
        go_ret
        exact ⟨rfl, rfl⟩
      · have hd : decide ((c : Int) < 32) = false := by simp; omega
        by_cases h2 : 126 < c
        · have hd2 : decide (126 < (c : Int)) = true := by simp; omega
          have HF := HBk.out (.inr h2)
          go_wp2_with fail
          go_ret
          exact ⟨rfl, rfl⟩
        · have hd2 : decide (126 < (c : Int)) = false := by simp; omega
          have HQ := Lib.hid (HPk.out ⟨by omega, by omega⟩)
          clear HPk HBk
          go_wp2_with fail
          go_round
          case rel => exact ⟨k + 1, by omega, by go_num, HQ⟩
          case measure => simp [intOf]; omega
    · obtain rfl : k = s.size := by omega
      by_cases h6 : s.size ≤ 60
      · have HF := HG.out h6 HP.out
        go_wp2_with fail
        go_ret
        exact ⟨by first | (simp; omega) | (simp [h6]) , rfl⟩
      · have HF := HL.out (by omega)
        go_wp2_with fail
        go_ret
        exact ⟨by first | (simp; omega) | (simp [h6]) , rfl⟩
end Go.Proofs.Ytbecdndeddkibaa
