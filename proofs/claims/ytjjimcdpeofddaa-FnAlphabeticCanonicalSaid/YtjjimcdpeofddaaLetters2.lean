/- Letters are read back: both FromAlphabetic give fromA. -/
import Derived.Test.YtjjimcdpeofddaaLetters
namespace Go.Proofs.Ytjjimcdpeofddaa
open Go.RowKit
set_option maxHeartbeats 400000

theorem take_snoc (s : ByteArray) (k : Nat) (h : k < s.size) : s.data.toList.take (k + 1) = s.data.toList.take k ++ [s[k]] := by
  rw [List.take_succ_eq_append_getElem (by simpa using h)]; rfl

def lowB (c : UInt8) : Bool := decide (97 ≤ c.toNat) && decide (c.toNat ≤ 122)
def valI (l : List UInt8) : Int := l.foldl (fun n c => 26 * n + ((c.toNat : Int) - 96)) 0
theorem valI_snoc (l : List UInt8) (c : UInt8) : valI (l ++ [c]) = 26 * valI l + ((c.toNat : Int) - 96) := by simp [valI]
theorem low_snoc (l : List UInt8) (c : UInt8) : (l ++ [c]).all lowB = (l.all lowB && lowB c) := by simp
/-- What both give: the number and true, or 0 and false. -/
def okA (l : List UInt8) : Bool := l.all lowB && decide (1 ≤ valI l ∧ valI l ≤ 3999)

theorem valI_low_nonneg (l : List UInt8) : l.all lowB = true → 0 ≤ valI l := by
  induction l using snocInd with
  | h0 => intro _; simp [valI]
  | hs l c ih =>
    intro h
    rw [low_snoc, Bool.and_eq_true] at h
    have := ih h.1
    have hc := h.2
    simp only [lowB, Bool.and_eq_true, decide_eq_true_eq] at hc
    rw [valI_snoc]; omega
theorem valI_low_grow (l r : List UInt8) (h : (l ++ r).all lowB = true) : valI l ≤ valI (l ++ r) := by
  induction r using snocInd with
  | h0 => simp
  | hs r c ih =>
    rw [← List.append_assoc, low_snoc, Bool.and_eq_true] at h
    have h1 := ih h.1
    have h2 := valI_low_nonneg _ h.1
    have hc := h.2
    simp only [lowB, Bool.and_eq_true, decide_eq_true_eq] at hc
    rw [← List.append_assoc, valI_snoc]; omega

/-- Letters of a value are the letters themselves. -/
theorem alphaF_val (l : List UInt8) : ∀ (f : Nat) (acc : List UInt8), l.all lowB = true → (valI l).toNat ≤ f → alphaF f (valI l).toNat acc = l ++ acc := by
  induction l using snocInd with
  | h0 => intro f acc _ _; simp [valI, alphaF_zero]
  | hs l c ih =>
    intro f acc h hf
    rw [low_snoc, Bool.and_eq_true] at h
    have hn := valI_low_nonneg l h.1
    have hc := h.2
    simp only [lowB, Bool.and_eq_true, decide_eq_true_eq] at hc
    rw [valI_snoc] at hf ⊢
    obtain ⟨v, hv⟩ := Int.eq_ofNat_of_zero_le hn
    obtain ⟨g, rfl⟩ : ∃ g, f = g + 1 := ⟨f - 1, by omega⟩
    have e1 : (26 * valI l + ((c.toNat : Int) - 96)).toNat = 26 * (valI l).toNat + (c.toNat - 96) := by omega
    rw [e1]
    have e2 : (26 * (valI l).toNat + (c.toNat - 96) - 1) / 26 = (valI l).toNat := by omega
    have e3 : 97 + (26 * (valI l).toNat + (c.toNat - 96) - 1) % 26 = c.toNat := by omega
    rw [alphaF, if_neg (by omega), e2, e3, UInt8.ofNat_toNat, ih g _ h.1 (by omega)]
    simp

theorem low_digit (m : Nat) : lowB (UInt8.ofNat (97 + m % 26)) = true := by
  simp only [lowB, UInt8.toNat_ofNat', Bool.and_eq_true, decide_eq_true_eq]; omega
/-- The letters of a number are letters, and their value is the number. -/
theorem alphaF_low : ∀ (f m : Nat) (acc : List UInt8), acc.all lowB = true → (alphaF f m acc).all lowB = true := by
  intro f
  induction f with
  | zero => intro m acc h; exact h
  | succ f ih =>
    intro m acc h
    unfold alphaF
    split
    · exact h
    · refine ih _ _ ?_
      rw [List.all_cons, low_digit, h]; rfl
def foldV (n : Int) (l : List UInt8) : Int := l.foldl (fun n c => 26 * n + ((c.toNat : Int) - 96)) n
theorem foldV_alphaF : ∀ (f m : Nat) (acc : List UInt8), m ≤ f → foldV 0 (alphaF f m acc) = foldV m acc := by
  intro f
  induction f with
  | zero => intro m acc h; obtain rfl : m = 0 := by omega
            rfl
  | succ f ih =>
    intro m acc h
    unfold alphaF
    split
    · next h0 => subst h0; rfl
    · next h0 =>
      rw [ih _ _ (by omega)]
      show foldV _ acc = foldV _ acc
      congr 1
      show 26 * (((m - 1) / 26 : Nat) : Int) + (((UInt8.ofNat (97 + (m - 1) % 26)).toNat : Int) - 96) = m
      rw [UInt8.toNat_ofNat']
      omega
theorem valI_alphaF (m : Nat) : valI (alphaF m m []) = m := foldV_alphaF m m [] (Nat.le_refl _)

theorem val_long (l : List UInt8) (h : l.all lowB = true) (hl : 3 < l.length) : 3999 < valI l := by
  match l, hl with
  | a :: b :: c :: d :: r, _ =>
    have hp := valI_low_grow [a, b, c, d] r h
    simp only [List.all_cons, Bool.and_eq_true, lowB, decide_eq_true_eq] at h
    have : valI [a, b, c, d] = 26 * (26 * (26 * ((a.toNat : Int) - 96) + (b.toNat - 96)) + (c.toNat - 96)) + (d.toNat - 96) := by simp [valI]
    simp only [List.cons_append, List.nil_append] at hp
    omega

/-- The reference's test comes to the program's. -/
theorem okA_iff (l : List UInt8) : okA l = (decide (l.length ≤ 3) && (decide (1 ≤ valI l ∧ valI l ≤ 3999) && decide (alphaF (valI l).toNat (valI l).toNat [] = l))) := by
  unfold okA
  by_cases hr : 1 ≤ valI l ∧ valI l ≤ 3999
  · by_cases hlow : l.all lowB = true
    · have h3 : l.length ≤ 3 := by
        by_cases h : 3 < l.length
        · have := val_long l hlow h; omega
        · omega
      have := alphaF_val l (valI l).toNat [] hlow (Nat.le_refl _)
      simp [hlow, hr, h3, this]
    · have : ¬ alphaF (valI l).toNat (valI l).toNat [] = l := by
        intro he
        have := alphaF_low (valI l).toNat (valI l).toNat [] rfl
        rw [he] at this; exact hlow this
      simp [hlow, this]
  · simp [hr]
end Go.Proofs.Ytjjimcdpeofddaa
