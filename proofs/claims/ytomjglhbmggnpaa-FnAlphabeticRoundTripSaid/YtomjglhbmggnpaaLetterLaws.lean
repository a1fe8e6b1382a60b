/- The laws over numbers in letters: each holds for every code. -/
import Derived.Test.YtomjglhbmggnpaaLetters4
import Derived.Test.YtomjglhbmggnpaaDraws
namespace Go.Proofs.Ytomjglhbmggnpaa
open Go.RowKit
set_option maxHeartbeats 400000

theorem drawAlphabetic_any (a : Option Addr) (len cap : Nat) (zs : List Int) (w : World) (h : RowIn .u8 w a len cap zs) :
    Calls Try.prog 12 #[.slice a len cap] w (DrawnIn (-1) 4000 w) := by
  have HR := Lib.hid h; clear h
  go_enter Try.func12, Try.ntmps12
  go_wp2_with fail
  refine (newReader_any a len cap zs _ HR.out).mono ?_
  rintro e w1 ⟨rfl, hR, hb⟩
  go_wp2_with fail
  refine (someNumber_any w.heap.size 0 _ (by omega) hR).mono ?_
  rintro e w2 ⟨v, h1, h2, rfl, hR2, hK⟩
  have HB : Hid (Below w.heap.size w w2) := hb.trans hK.below
  clear hb hK hR hR2
  go_wp2_with fail
  go_ret
  exact ⟨v, h1, h2, rfl, HB.out⟩

/-- Longer, or equally long and later in the alphabet. -/
def later (s t : List UInt8) : Bool := decide (s.length < t.length) || (decide (s.length = t.length) && (!Op.bytesLess t s && !(t == s)))
theorem alphaS_later (n : Int) (h1 : 1 ≤ n) (h2 : n < 3999) : later (alphaS n) (alphaS (n + 1)) = true := by
  have h : ∀ k, k < 3999 → (k = 0 ∨ later (alphaF k k []) (alphaF (k + 1) (k + 1) []) = true) := by
    have : (List.range 3999).all (fun k => k == 0 || later (alphaF k k []) (alphaF (k + 1) (k + 1) [])) = true := by kernel_rfl
    intro k hk
    have := List.all_eq_true.1 this k (List.mem_range.2 hk)
    simpa using this
  obtain ⟨k, rfl⟩ := Int.eq_ofNat_of_zero_le (show 0 ≤ n by omega)
  have := (h k (by omega)).resolve_left (by omega)
  unfold alphaS
  rw [if_pos (by omega), if_pos (by omega)]
  have e : ((k : Int) + 1).toNat = k + 1 := by omega
  rw [e, Int.toNat_natCast]; exact this

theorem alphaS_no (n : Int) (h : ¬ (1 ≤ n ∧ n ≤ 3999)) : alphaS n = [] := if_neg h
theorem alphaS_ne (n : Int) (h : 1 ≤ n ∧ n ≤ 3999) : alphaS n ≠ [] := by
  intro he
  have h0 : alphaS n = alphaF n.toNat n.toNat [] := if_pos h
  have := valI_alphaF n.toNat
  rw [← h0, he] at this
  simp [valI] at this
  omega

theorem alphabeticOrder_walk (a : Option Addr) (len cap : Nat) (zs : List Int) (w : World) (h : RowIn .u8 w a len cap zs) :
    Calls Try.prog 5 #[.slice a len cap] w fun e w' => e = .returned (.bool true) ∧ Below w.heap.size w w' := by
  have hm := h.len_le.1
  unfold maxLen at hm
  have HR := Lib.hid h; clear h
  by_cases hl : 1048576 < len
  · go_enter Try.func5, Try.ntmps5
    go_wp2
    go_ret
    exact ⟨rfl, Below.refl _ _⟩
  · go_enter Try.func5, Try.ntmps5
    go_wp2_with fail
    refine (drawAlphabetic_any a len cap zs _ HR.out).mono ?_
    rintro e w1 ⟨v, h1, h2, rfl, hb⟩
    by_cases hin : 1 ≤ v ∧ v ≤ 3999
    · by_cases hv : v = 3999
      · subst hv
        have hE : (alphaS 3999).isEmpty = false := by simpa using alphaS_ne 3999 hin
        go_wp2_with fail
        refine (alpha_any _ _).mono ?_
        rintro e w' ⟨rfl, rfl⟩
        go_wp2_with fail
        refine (salpha_any _ _).mono ?_
        rintro e w2 ⟨rfl, hb2⟩
        go_wp2_with fail
        refine (salpha_any _ _).mono ?_
        rintro e w3 ⟨rfl, hb3⟩
        go_wp2_with fail
        go_ret
        have hb4 := hb.trans (hb2.mono hb.size)
        exact ⟨rfl, hb4.trans (hb3.mono hb4.size)⟩
      · have hE : (alphaS v).isEmpty = false := by simpa using alphaS_ne v hin
        have hL := alphaS_later v hin.1 (by omega)
        go_wp2_with (first | (go_at_call 8; refine (salpha_any _ _).mono ?_; rintro e w2 ⟨rfl, hb2⟩) | (go_at_call 9; refine (alpha_any _ _).mono ?_; rintro e w' ⟨rfl, rfl⟩))
        all_goals
          go_ret
          refine ⟨congrArg (fun b => Ending.returned (.bool b)) ?_, hb.trans (hb2.mono hb.size)⟩
          first
            | exact (rfl : true = true)
            | exact (decide_eq_true (by omega))
            | (have h := hL
               unfold later at h
               simp only [Bool.or_eq_true, Bool.and_eq_true, decide_eq_true_eq] at h
               rcases h with h | h
               · omega
               · first
                   | (exfalso; omega)
                   | (obtain ⟨_, h3, h4⟩ := h
                      show (decide _ || _) = true
                      rw [Bool.or_eq_true, Bool.and_eq_true]
                      exact .inr ⟨h3, h4⟩))
    · have hE : (alphaS v).isEmpty = true := by rw [alphaS_no v hin]; rfl
      go_wp2_with fail
      refine (alpha_any _ _).mono ?_
      rintro e w' ⟨rfl, rfl⟩
      go_wp2_with fail
      refine (salpha_any _ _).mono ?_
      rintro e w2 ⟨rfl, hb2⟩
      go_wp2_with fail
      refine (salpha_any _ _).mono ?_
      rintro e w3 ⟨rfl, hb3⟩
      go_wp2_with fail
      go_ret
      have hb4 := hb.trans (hb2.mono hb.size)
      exact ⟨rfl, hb4.trans (hb3.mono hb4.size)⟩

theorem okA_alphaS (n : Int) (h : 1 ≤ n ∧ n ≤ 3999) : okA (alphaS n) = true ∧ numA (alphaS n) = n := by
  obtain ⟨k, rfl⟩ := Int.eq_ofNat_of_zero_le (show 0 ≤ n by omega)
  have h0 : alphaS k = alphaF k k [] := if_pos h
  have hv := valI_alphaF k
  have hl := alphaF_low k k [] rfl
  have ho : okA (alphaF k k []) = true := by rw [okA_of _ hl, hv]; simpa using h
  rw [h0]
  exact ⟨ho, (numA_yes ho).trans hv⟩

theorem alphabeticRoundTrip_walk (a : Option Addr) (len cap : Nat) (zs : List Int) (w : World) (h : RowIn .u8 w a len cap zs) :
    Calls Try.prog 7 #[.slice a len cap] w fun e w' => e = .returned (.bool true) ∧ Below w.heap.size w w' := by
  have hm := h.len_le.1
  unfold maxLen at hm
  have HR := Lib.hid h; clear h
  by_cases hl : 1048576 < len
  · go_enter Try.func7, Try.ntmps7
    go_wp2
    go_ret
    exact ⟨rfl, Below.refl _ _⟩
  · go_enter Try.func7, Try.ntmps7
    go_wp2_with fail
    refine (drawAlphabetic_any a len cap zs _ HR.out).mono ?_
    rintro e w1 ⟨v, h1, h2, rfl, hb⟩
    by_cases hin : 1 ≤ v ∧ v ≤ 3999
    · have hE : (alphaS v).isEmpty = false := by simpa using alphaS_ne v hin
      have H := Lib.hid (okA_alphaS v hin)
      have hs : (⟨(alphaS v).toArray⟩ : ByteArray).size ≤ maxLen := by
        have : (alphaS v).length ≤ 3 := by
          by_cases h3 : 3 < (alphaS v).length
          · have ho := H.out.1
            have hn := H.out.2
            unfold okA at ho
            rw [Bool.and_eq_true] at ho
            have := val_long _ ho.1 h3
            rw [numA_yes H.out.1] at hn
            omega
          · omega
        show (alphaS v).toArray.size ≤ _
        unfold maxLen
        simp; omega
      have HS := Lib.hid hs; clear hs
      go_wp2_with fail
      refine (alpha_any _ _).mono ?_
      rintro e w' ⟨rfl, rfl⟩
      go_wp2_with fail
      refine (salpha_any _ _).mono ?_
      rintro e w2 ⟨rfl, hb2⟩
      go_wp2_with fail
      refine (fromA_any ⟨(alphaS v).toArray⟩ _ HS.out).mono ?_
      rintro e w' ⟨rfl, rfl⟩
      simp only [H.out.1, H.out.2]
      go_wp2_with fail
      go_ret
      exact ⟨rfl, hb.trans (hb2.mono hb.size)⟩
    · have hE : (alphaS v).isEmpty = true := by rw [alphaS_no v hin]; rfl
      go_wp2_with fail
      refine (alpha_any _ _).mono ?_
      rintro e w' ⟨rfl, rfl⟩
      go_wp2_with fail
      refine (salpha_any _ _).mono ?_
      rintro e w2 ⟨rfl, hb2⟩
      go_wp2_with fail
      refine (salpha_any _ _).mono ?_
      rintro e w3 ⟨rfl, hb3⟩
      go_wp2_with fail
      go_ret
      have hb4 := hb.trans (hb2.mono hb.size)
      exact ⟨rfl, hb4.trans (hb3.mono hb4.size)⟩
end Go.Proofs.Ytomjglhbmggnpaa
