/- Words of an index. -/
import Derived.Test.YtflnbpiegcepcaaDoorLevCls
import Derived.Test.YtflnbpiegcepcaaDoorIdxPlain
namespace Go.Proofs.YtflnbpiegcepcaaDoor
open Go.RowKit
set_option maxHeartbeats 2000000
set_option maxRecDepth 100000
set_option linter.unusedVariables false

def okW (s : ByteArray) : Bool := decide (1 ≤ s.size ∧ s.size ≤ 20) && (List.range s.size).all (fun k => lowC (chS s k))
theorem okW_bad {s : ByteArray} {k : Nat} (hk : k < s.size) (h : lowC (chS s k) = false) : okW s = false := by
  cases e : okW s with
  | false => rfl
  | true =>
    unfold okW at e
    rw [Bool.and_eq_true, List.all_eq_true] at e
    rw [e.2 k (by simpa using hk)] at h; cases h
theorem okW_of {s : ByteArray} (h : ∀ k, k < s.size → lowC (chS s k) = true) : okW s = decide (1 ≤ s.size ∧ s.size ≤ 20) := by
  unfold okW
  have : (List.range s.size).all (fun k => lowC (chS s k)) = true := by rw [List.all_eq_true]; intro k hk; exact h k (by simpa using hk)
  rw [this, Bool.and_true]
theorem dec20 (n : Nat) : (decide (1 ≤ (n : Int)) && decide ((n : Int) ≤ 20)) = decide (1 ≤ n ∧ n ≤ 20) := by
  rw [Bool.eq_iff_iff]; simp; omega
theorem validWord_any (s : ByteArray) (w : World) (hs : s.size ≤ maxLen) :
    Calls Tryd.prog 53 #[.string s] w fun e w' => e = .returned (.bool (okW s)) ∧ w = w' := by
  unfold maxLen at hs
  have HG := Lib.hid (fun h => okW_of (s := s) h)
  have HB := Lib.hid (fun k h1 h2 => okW_bad (s := s) (k := k) h1 h2)
  go_enter Tryd.func53, Tryd.ntmps53
  go_wp2_with fail
  go_loop [6] (fun i => ∃ k : Nat, k ≤ s.size ∧ i = .int .i64 k ∧ Hid (∀ j, j < k → lowC (chS s j) = true)) (fun i => s.size - (intOf i).toNat)
  case atStart => exact ⟨0, by omega, rfl, Lib.hid (fun j hj => by omega)⟩
  case round =>
    obtain ⟨k, hk, rfl, HP⟩ := hrel
    by_cases hlt : k < s.size
    · have hc := chS_at s k hlt
      have hcb := chS_byte s k
      have HL := Lib.hid (isLower_any (chS s k))
      cases hlow : lowC (chS s k) with
      | true =>
        have HP' : Hid (∀ j, j < k + 1 → lowC (chS s j) = true) := Lib.hid (fun j hj => by
          by_cases e : j = k
          · subst e; exact hlow
          · exact HP.out j (by omega))
        rw [hlow] at HL
        clear hlow HP
        generalize chS s k = c at *
        go_wp2_with fail
        refine (HL.out _).mono ?_
        rintro e w' ⟨rfl, rfl⟩
        go_wp2_with fail
        go_round
        case rel => exact ⟨k + 1, by omega, by go_num, HP'⟩
        case measure => simp [intOf]; omega
      | false =>
        have HF := Lib.hid (HB.out k hlt hlow)
        rw [hlow] at HL
        clear hlow HP
        generalize chS s k = c at *
        go_wp2_with fail
        refine (HL.out _).mono ?_
        rintro e w' ⟨rfl, rfl⟩
        go_wp2_with fail
        go_ret
        exact ⟨by rw [HF.out]; rfl, rfl⟩
    · obtain rfl : k = s.size := by omega
      have HE := Lib.hid (HG.out HP.out)
      clear HP
      go_wp2_with (go_at_call 54; refine (within_any _ _ _ _).mono ?_; rintro e w' ⟨rfl, rfl⟩)
      go_ret
      exact ⟨by rw [HE.out, ← dec20]; rfl, rfl⟩
theorem isWord_any (s : ByteArray) (w : World) (hs : s.size ≤ maxLen) :
    Calls Tryd.prog 79 #[.string s] w fun e w' => e = .returned (.bool (okW s)) ∧ w = w' := by
  unfold maxLen at hs
  have HG := Lib.hid (fun h => okW_of (s := s) h)
  have HB := Lib.hid (fun k h1 h2 => okW_bad (s := s) (k := k) h1 h2)
  go_enter Tryd.func79, Tryd.ntmps79
  go_wp2_with fail
  go_loop [3] (fun i => ∃ k : Nat, k ≤ s.size ∧ i = .int .i64 k ∧ Hid (∀ j, j < k → lowC (chS s j) = true)) (fun i => s.size - (intOf i).toNat)
  case atStart => exact ⟨0, by omega, rfl, Lib.hid (fun j hj => by omega)⟩
  case round =>
    obtain ⟨k, hk, rfl, HP⟩ := hrel
    by_cases hlt : k < s.size
    · have hc := chS_at s k hlt
      have hcb := chS_byte s k
      have HLo : Hid (lowC (chS s k) = (decide (97 ≤ chS s k) && decide (chS s k ≤ 122))) := Lib.hid rfl
      have HB := Lib.hid (HB.out k hlt)
      have HP' : Hid (lowC (chS s k) = true → ∀ j, j < k + 1 → lowC (chS s j) = true) := Lib.hid (fun hlow j hj => by
          by_cases e : j = k
          · subst e; exact hlow
          · exact HP.out j (by omega))
      clear HP
      obtain ⟨c, hcc⟩ : ∃ c, chS s k = c := ⟨_, rfl⟩
      rw [hcc] at hc hcb HLo HB
      have HC := Lib.hid hcc
      clear hcc
      by_cases h1 : 97 ≤ c
      · by_cases h2 : c ≤ 122
        · have HX := Lib.hid (HP'.out (by rw [HC.out, HLo.out, decide_eq_true h1, decide_eq_true h2]; rfl))
          have g1 : decide ((c : Int) < 97) = false := by simp; omega
          have g2 : decide ((122 : Int) < c) = false := by simp; omega
          have g3 : decide (c < 97) = false := by simp; omega
          have g4 : decide (122 < c) = false := by simp; omega
          go_wp2_with fail
          go_round
          case rel => exact ⟨k + 1, by omega, by go_num, HX⟩
          case measure => simp [intOf]; omega
        · have HF := Lib.hid (HB.out (by rw [HLo.out, decide_eq_false h2]; simp))
          have g1 : decide ((c : Int) < 97) = false := by simp; omega
          have g2 : decide ((122 : Int) < c) = true := by simp; omega
          have g3 : decide (c < 97) = false := by simp; omega
          have g4 : decide (122 < c) = true := by simp; omega
          go_wp2_with fail
          go_ret
          exact ⟨by rw [HF.out]; rfl, rfl⟩
      · have HF := Lib.hid (HB.out (by rw [HLo.out, decide_eq_false h1]; rfl))
        have g1 : decide ((c : Int) < 97) = true := by simp; omega
        have g3 : decide (c < 97) = true := by simp; omega
        go_wp2_with fail
        go_ret
        exact ⟨by rw [HF.out]; rfl, rfl⟩
    · obtain rfl : k = s.size := by omega
      have HE := Lib.hid (HG.out HP.out)
      clear HP
      go_wp2_with (go_at_call 60; refine (inRange_any _ _ _ _).mono ?_; rintro e w' ⟨rfl, rfl⟩)
      go_ret
      exact ⟨by rw [HE.out, ← dec20]; rfl, rfl⟩
end Go.Proofs.YtflnbpiegcepcaaDoor
