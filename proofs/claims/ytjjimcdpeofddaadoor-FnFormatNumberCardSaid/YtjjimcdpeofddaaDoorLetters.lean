/- Numbers in letters: both implementations give alphaS; the letters are read back. -/
import Derived.Test.YtjjimcdpeofddaaDoorReader
import Derived.Test.YtjjimcdpeofddaaDoorRange
namespace Go.Proofs.YtjjimcdpeofddaaDoor
open Go.RowKit
set_option maxHeartbeats 400000

def alphaF : Nat → Nat → List UInt8 → List UInt8
  | 0, _, acc => acc
  | f + 1, m, acc => if m = 0 then acc else alphaF f ((m - 1) / 26) (UInt8.ofNat (97 + (m - 1) % 26) :: acc)
theorem alphaF_zero (f : Nat) (acc : List UInt8) : alphaF f 0 acc = acc := by cases f <;> simp [alphaF]
/-- The letters of a number; none outside 1 to 3999. -/
def alphaS (n : Int) : List UInt8 := if 1 ≤ n ∧ n ≤ 3999 then alphaF n.toNat n.toNat [] else []

theorem alpha_in (n : Nat) (h1 : 1 ≤ n) (h2 : n ≤ 3999) (w : World) :
    Calls Tryd.prog 19 #[.int .i64 n] w fun e w' => e = .returned (.string ⟨(alphaF n n []).toArray⟩) ∧ w = w' := by
  have hw : (decide ((1:Int) ≤ (n : Int) ∧ (n : Int) ≤ 3999)) = true := by simp; omega
  go_enter Tryd.func19, Tryd.ntmps19
  go_wp2_with (go_at_call 22; refine (within_any _ _ _ _).mono ?_; rintro e w' ⟨rfl, rfl⟩)
  go_loop [0, 3] (fun t o => ∃ (m f : Nat) (acc : List UInt8), t = .int .i64 m ∧ o = .string ⟨acc.toArray⟩ ∧ m ≤ f ∧ m ≤ 3999 ∧ acc.length + m ≤ 3999 ∧ alphaF f m acc = alphaF n n []) (fun t _ => (intOf t).toNat)
  case atStart => exact ⟨n, n, [], rfl, rfl, by omega, by omega, by simp; omega, rfl⟩
  case round =>
    obtain ⟨m, f, acc, rfl, rfl, hmf, hm, hl, heq⟩ := hrel
    by_cases hm0 : 0 < m
    · have hu := enc_ascii (97 + ((m : Int) - 1) % 26) (by omega) (by omega)
      have hs : ((97 + ((m : Int) - 1) % 26).toNat) = 97 + (m - 1) % 26 := by omega
      rw [hs] at hu
      obtain ⟨f, rfl⟩ : ∃ f', f = f' + 1 := ⟨f - 1, by omega⟩
      have H : Hid (alphaF f ((m - 1) / 26) (UInt8.ofNat (97 + (m - 1) % 26) :: acc) = alphaF n n []) := by
        rw [← heq]; exact (if_neg (by omega)).symm
      clear heq
      go_wp2_with fail
      go_round
      case rel => exact ⟨(m - 1) / 26, f, _ :: acc, by go_num, by simp; rfl, by omega, by omega, by simp; omega, H.out⟩
      case measure => simp [intOf]; omega
    · have H := Lib.hid heq; clear heq
      go_wp2_with fail
      go_ret
      obtain rfl : m = 0 := by omega
      exact ⟨by rw [← H.out, alphaF_zero]; rfl, rfl⟩

theorem alpha_any (n : Int) (w : World) :
    Calls Tryd.prog 19 #[.int .i64 n] w fun e w' => e = .returned (.string ⟨(alphaS n).toArray⟩) ∧ w = w' := by
  unfold alphaS
  by_cases h : 1 ≤ n ∧ n ≤ 3999
  · obtain ⟨m, rfl⟩ := Int.eq_ofNat_of_zero_le (show 0 ≤ n by omega)
    rw [if_pos h, Int.toNat_natCast]
    exact alpha_in m (by omega) (by omega) w
  · rw [if_neg h]
    have hw : (decide ((1:Int) ≤ n ∧ n ≤ 3999)) = false := by simpa using h
    go_enter Tryd.func19, Tryd.ntmps19
    go_wp2_with (go_at_call 22; refine (within_any _ _ _ _).mono ?_; rintro e w' ⟨rfl, rfl⟩)
    go_ret
    exact ⟨rfl, rfl⟩

theorem letters_any (n : Nat) (h2 : n ≤ 3999) (w : World) :
    Calls Tryd.prog 33 #[.int .i64 n] w fun e w' => e = .returned (.string ⟨(alphaF n n []).toArray⟩) ∧ Below w.heap.size w w' := by
  go_enter Tryd.func33, Tryd.ntmps33
  go_wp2
  go_loopw [0, 3] (fun t o wr => ∃ (m f : Nat) (acc : List UInt8), t = .int .i64 m ∧ o = .string ⟨acc.toArray⟩ ∧ m ≤ f ∧ m ≤ 3999 ∧ acc.length + m ≤ 3999 ∧ alphaF f m acc = alphaF n n [] ∧ Below w.heap.size w wr) (fun t _ _ => (intOf t).toNat)
  case atStart => exact ⟨n, n, [], rfl, rfl, by omega, by omega, by simp; omega, rfl, Below.refl _ _⟩
  case round =>
    obtain ⟨m, f, acc, rfl, rfl, hmf, hm, hl, heq, hb⟩ := hrel
    by_cases hm0 : 0 < m
    · have hs : (97 + ((m : Int) - 1) % 26) = ((UInt8.ofNat (97 + (m - 1) % 26)).toNat : Int) := by
        rw [UInt8.toNat_ofNat', Nat.mod_eq_of_lt (by omega)]; omega
      have hcv := run_convert_bytes_back (P := Tryd.prog) (wr.alloc (.cells #[.int .u8 (97 + ((m : Int) - 1) % 26)] 5)) 24 9 5 ⟨wr.heap.size, 0, none⟩ 1 [UInt8.ofNat (97 + (m - 1) % 26)] Tryd.underlying24 Tryd.underlying5 Tryd.underlying9 (by
        intro j hj
        obtain rfl : j = 0 := by simp at hj; omega
        rw [hs]
        simp [Addr.add, go_sem])
      simp only [List.length_cons, List.length_nil, Nat.zero_add] at hcv
      clear hs
      obtain ⟨f, rfl⟩ : ∃ f', f = f' + 1 := ⟨f - 1, by omega⟩
      have H : Hid (alphaF f ((m - 1) / 26) (UInt8.ofNat (97 + (m - 1) % 26) :: acc) = alphaF n n []) := by
        rw [← heq]; exact (if_neg (by omega)).symm
      clear heq
      go_wp2_with fail
      go_roundw
      case rel => exact ⟨(m - 1) / 26, f, _ :: acc, by go_num, by simp; rfl, by omega, by omega, by simp; omega, H.out, hb.alloc hb.size _⟩
      case measure => simp [intOf]; omega
    · have H := Lib.hid heq; clear heq
      go_wp2_with fail
      go_ret
      obtain rfl : m = 0 := by omega
      exact ⟨by rw [← H.out, alphaF_zero]; rfl, by assumption⟩

end Go.Proofs.YtjjimcdpeofddaaDoor
