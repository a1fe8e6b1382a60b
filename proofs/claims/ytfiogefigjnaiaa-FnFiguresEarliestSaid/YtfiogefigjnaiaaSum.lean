/- The sum of a slice of ints, by the laws' helper. -/
import Derived.Test.YtfiogefigjnaiaaColsPlain
namespace Go.Proofs.Ytfiogefigjnaiaa
open Go.RowKit
set_option maxHeartbeats 1000000
set_option maxRecDepth 100000

theorem sum_any (v : Value) (L : List Int) (w : World) (hs : SlI w v L) (hl : L.length ≤ 1000000) (hb : ∀ k, k < L.length → 0 ≤ L.getD k 0 ∧ L.getD k 0 ≤ 1000000) :
    Calls Try.prog 26 #[v] w fun e w' => e = .returned (.int .i64 (sumL L)) ∧ w = w' := by
  have HW := Lib.hid hs
  obtain ⟨a, cap, rfl, h2, h3, _⟩ := hs
  unfold maxLen at h3
  have HC : Hid (∀ k, k < L.length → ∃ b off, a = some ⟨b, off, none⟩ ∧ b < w.heap.size ∧ ∀ j, j < L.length → w.cell? ⟨b, off + j, none⟩ = some (.int .i64 (L.getD j 0))) := fun k hk => HW.out.cells (by omega)
  have HK := Lib.hid hb
  have HE : Hid (sumL L = sumTo L L.length) := rfl
  have HSt : Hid (∀ k, sumTo L (k + 1) = sumTo L k + L.getD k 0) := fun k => rfl
  clear HW hb
  generalize hn : L.length = n at *
  clear hn
  go_enter Try.func26, Try.ntmps26
  go_wp2_with fail
  go_loop [3, 4] (fun s i => ∃ k : Nat, k ≤ n ∧ i = .int .i64 k ∧ s = .int .i64 (sumTo L k) ∧ 0 ≤ sumTo L k ∧ sumTo L k ≤ k * 1000000) (fun _ i => n - (intOf i).toNat)
  case atStart => exact ⟨0, by omega, rfl, rfl, by simp [sumTo], by simp [sumTo]⟩
  case round =>
    obtain ⟨k, hk, rfl, rfl, s0, s1⟩ := hrel
    by_cases hlt : k < n
    · obtain ⟨b, off, rfl, hb, hc⟩ := HC.out k hlt
      have c0 := hc k hlt
      have hx := HK.out k hlt
      have HT := Lib.hid (HSt.out k)
      clear hc
      generalize L.getD k 0 = x at *
      generalize hsm : sumTo L k = s at *
      have HSm := Lib.hid hsm
      clear hsm
      go_wp2_with fail
      go_round
      case rel => exact ⟨k + 1, by omega, by go_num, by rw [HT.out], by rw [HT.out]; omega, by rw [HT.out]; omega⟩
      case measure => simp [intOf]; omega
    · obtain rfl : k = n := by omega
      go_wp2_with fail
      go_ret
      rw [HE.out]
      exact ⟨rfl, rfl⟩

end Go.Proofs.Ytfiogefigjnaiaa
