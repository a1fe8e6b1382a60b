/- For every code: what FromAlphabetic reads is written back as the text. -/
import Derived.Test.YtjjimcdpeofddaaLetters4
import Derived.Test.YtjjimcdpeofddaaMutate
namespace Go.Proofs.Ytjjimcdpeofddaa
open Go.RowKit
set_option maxHeartbeats 400000

def DrawnStr (n : Nat) (w : World) (e : Ending) (w' : World) : Prop := ∃ s : ByteArray, s.size ≤ n ∧ e = .returned (.string s) ∧ Below w.heap.size w w'

theorem alphaS_len (n : Int) : (⟨(alphaS n).toArray⟩ : ByteArray).size ≤ 3 := by
  show (alphaS n).toArray.size ≤ 3
  rw [List.size_toArray]
  unfold alphaS
  split
  · next h =>
    have hv := valI_alphaF n.toNat
    have hl := alphaF_low n.toNat n.toNat [] rfl
    by_cases h3 : 3 < (alphaF n.toNat n.toNat []).length
    · have := val_long _ hl h3
      rw [hv] at this
      omega
    · omega
  · simp

theorem drawFromAlphabetic_any (a : Option Addr) (len cap : Nat) (zs : List Int) (w : World) (h : RowIn .u8 w a len cap zs) :
    Calls Try.prog 4 #[.slice a len cap] w (DrawnStr 20 w) := by
  have HR := Lib.hid h; clear h
  go_enter Try.func4, Try.ntmps4
  go_wp2_with fail
  refine (newReader_any a len cap zs _ HR.out).mono ?_
  rintro e w1 ⟨rfl, hR, hb⟩
  go_wp2_with fail
  refine (someNumber_any w.heap.size 0 _ (by omega) hR).mono ?_
  rintro e w2 ⟨v, h1, h2, rfl, hR2, hK⟩
  have B2 : Below w.heap.size w w2 := hb.trans hK.below
  clear hb hK hR
  go_wp2_with fail
  refine (salpha_any v _).mono ?_
  rintro e w3 ⟨rfl, hb3⟩
  have hR3 := hR2.below hb3
  have B3 : Below w.heap.size w w3 := B2.trans (hb3.mono B2.size)
  have hsz := alphaS_len v
  clear hR2 hb3 B2
  generalize (⟨(alphaS v).toArray⟩ : ByteArray) = s at *
  go_wp2_with fail
  refine (pick_pos w.heap.size (0 + 3) 5 _ (by omega) (by omega) hR3).mono ?_
  rintro e w4 ⟨c, hc, rfl, hR4, hK4⟩
  have B4 : Below w.heap.size w w4 := B3.trans hK4.below
  clear hK4 hR3 B3
  by_cases h0 : c = 0
  · subst h0
    go_wp2_with fail
    refine (mutate_any w.heap.size (0 + 3 + 1) s _ (by omega) hR4 (by omega)).mono ?_
    rintro e w5 ⟨t, ht, rfl, hR5, hK5⟩
    have B5 : Below w.heap.size w w5 := B4.trans hK5.below
    go_wp2_with fail
    go_ret
    exact ⟨t, by omega, rfl, B5⟩
  · by_cases h1 : c = 1
    · subst h1
      have HZ : Hid ((s ++ ⟨#[122]⟩).size ≤ 20) := by simp only [ByteArray.size_append]; exact Nat.le_trans (Nat.add_le_add_right hsz _) (by decide)
      go_wp2_with fail
      go_ret
      exact ⟨_, HZ.out, rfl, B4⟩
    · have e0 : ((c : Int) == 0) = false := by simp; omega
      have e1 : ((c : Int) == 1) = false := by simp; omega
      go_wp2_with fail
      go_ret
      exact ⟨s, by omega, rfl, B4⟩

theorem alphaS_num (l : List UInt8) (h : okA l = true) : alphaS (numA l) = l := by
  rw [numA_yes h]
  unfold okA at h
  rw [Bool.and_eq_true, decide_eq_true_eq] at h
  unfold alphaS
  rw [if_pos h.2, alphaF_val l _ [] h.1 (Nat.le_refl _), List.append_nil]

theorem alphabeticCanonical_walk (a : Option Addr) (len cap : Nat) (zs : List Int) (w : World) (h : RowIn .u8 w a len cap zs) :
    Calls Try.prog 3 #[.slice a len cap] w fun e w' => e = .returned (.bool true) ∧ Below w.heap.size w w' := by
  have hm := h.len_le.1
  unfold maxLen at hm
  have HR := Lib.hid h; clear h
  by_cases hl : 1048576 < len
  · go_enter Try.func3, Try.ntmps3
    go_wp2
    go_ret
    exact ⟨rfl, Below.refl _ _⟩
  · go_enter Try.func3, Try.ntmps3
    go_wp2_with fail
    refine (drawFromAlphabetic_any a len cap zs _ HR.out).mono ?_
    rintro e w1 ⟨s, hs, rfl, hb⟩
    have HS : Hid (s.size ≤ maxLen) := by unfold maxLen; exact Lib.hid (by omega)
    go_wp2_with fail
    refine (fromA_any s _ HS.out).mono ?_
    rintro e w' ⟨rfl, rfl⟩
    go_wp2_with fail
    refine (sfromA_any s _ HS.out).mono ?_
    rintro e w2 ⟨rfl, hb2⟩
    have B2 := hb.trans (hb2.mono hb.size)
    have HC := Lib.hid (alphaS_num s.data.toList)
    generalize numA s.data.toList = n at *
    cases ho : okA s.data.toList with
    | true =>
      have HE := Lib.hid (HC.out ho)
      clear HC
      go_wp2_with fail
      refine (alpha_any n _).mono ?_
      rintro e w' ⟨rfl, rfl⟩
      simp only [HE.out, Array.toArray_toList]
      go_wp2_with fail
      go_ret
      exact ⟨rfl, B2⟩
    | false =>
      go_wp2_with fail
      go_ret
      exact ⟨rfl, B2⟩
end Go.Proofs.Ytjjimcdpeofddaa
