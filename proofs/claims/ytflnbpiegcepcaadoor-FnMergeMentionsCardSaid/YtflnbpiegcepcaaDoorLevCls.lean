/- Classes of characters, the tests of a text, the level between two levels. -/
import Derived.Test.YtflnbpiegcepcaaDoorLevPlain
import Derived.Test.YtflnbpiegcepcaaDoorRange
namespace Go.Proofs.YtflnbpiegcepcaaDoor
open Go.RowKit
set_option maxHeartbeats 1000000
set_option maxRecDepth 100000
set_option linter.unusedVariables false

theorem isLower_any (c : Nat) (w : World) :
    Calls Tryd.prog 80 #[.int .u8 (c : Int)] w fun e w' => e = .returned (.bool (lowC c)) ∧ w = w' := by
  have HE : Hid (lowC c = (decide (97 ≤ c) && decide (c ≤ 122))) := Lib.hid rfl
  by_cases h : 97 ≤ c <;> by_cases h2 : c ≤ 122
  all_goals
    have h3 : (97 : Int) ≤ c ↔ 97 ≤ c := by omega
    have h4 : (c : Int) ≤ 122 ↔ c ≤ 122 := by omega
    go_enter Tryd.func80, Tryd.ntmps80
    go_wp2
    go_ret
    exact ⟨by rw [HE.out]; simp [h, h2], rfl⟩
def clsF (c : Nat) : Nat := if lowC c then 1 else if upC c then 2 else if digC c then 3 else 0
theorem clsF_le (c : Nat) : clsF c ≤ 3 := by unfold clsF; split <;> (try split) <;> (try split) <;> omega
def lvlF (cls base : Nat) : Nat := if cls = 2 then 1 else if cls = 1 ∨ cls = 3 then 2 * base else base
end Go.Proofs.YtflnbpiegcepcaaDoor
