/- Levels of characters as plain functions. -/
import Derived.Test.YtckmkjkckadfjaaDoorBase
namespace Go.Proofs.YtckmkjkckadfjaaDoor

def chS (s : ByteArray) (k : Nat) : Nat := (s.data.toList.getD k 0).toNat
theorem chS_at (s : ByteArray) (k : Nat) (h : k < s.size) : s[k].toNat = chS s k := by
  unfold chS
  rw [List.getD_eq_getElem?_getD, List.getElem?_eq_getElem (by simpa using h)]; rfl
theorem chS_byte (s : ByteArray) (k : Nat) : chS s k ≤ 255 := by
  have := (s.data.toList.getD k 0).toNat_lt
  unfold chS; omega
def lowC (c : Nat) : Bool := decide (97 ≤ c) && decide (c ≤ 122)
def upC (c : Nat) : Bool := decide (65 ≤ c) && decide (c ≤ 90)
def digC (c : Nat) : Bool := decide (48 ≤ c) && decide (c ≤ 57)
def neuC (c : Nat) : Bool := !lowC c && !upC c && !digC c
theorem neu_parts {c : Nat} (h : neuC c = true) : lowC c = false ∧ upC c = false ∧ digC c = false := by
  unfold neuC at h
  rw [Bool.and_eq_true, Bool.and_eq_true] at h
  exact ⟨by simpa using h.1.1, by simpa using h.1.2, by simpa using h.2⟩

/-- The last letter before k is a capital. -/
def upF (s : ByteArray) : Nat → Bool
  | 0 => false
  | k + 1 => if lowC (chS s k) then false else if upC (chS s k) then true else upF s k
/-- The level of a letter or digit. -/
def strF (s : ByteArray) (base k : Nat) : Nat := if lowC (chS s k) then 2 * base else if upC (chS s k) then 1 else if base = 1 ∨ upF s k = true then 2 else 0
def pbF (s : ByteArray) (base : Nat) : Nat → Nat
  | 0 => base
  | k + 1 => if neuC (chS s k) then pbF s base k else strF s base k
def nbGo (s : ByteArray) (base : Nat) : Nat → Nat → Nat
  | 0, _ => base
  | d + 1, k => if neuC (chS s k) then nbGo s base d (k + 1) else strF s base k
def nbF (s : ByteArray) (base k : Nat) : Nat := nbGo s base (s.size - k) k
def neut (b a base : Nat) : Nat := if base = 0 ∧ b % 2 = 1 ∧ a % 2 = 1 then 1 else if base = 1 ∧ b % 2 = 0 ∧ a % 2 = 0 then 2 else base
def finF (s : ByteArray) (base k : Nat) : Nat := if neuC (chS s k) then neut (pbF s base k) (nbF s base k) base else strF s base k
theorem finF_str {s : ByteArray} {base k : Nat} (h : neuC (chS s k) = false) : finF s base k = strF s base k := by unfold finF; rw [h]; rfl
theorem strF_le (s : ByteArray) (base k : Nat) (hb : base ≤ 1) : strF s base k ≤ 2 := by
  unfold strF; split
  · omega
  · split
    · omega
    · split <;> omega
theorem strF_low {s : ByteArray} {base k : Nat} (h : lowC (chS s k) = true) : strF s base k = 2 * base := by unfold strF; rw [if_pos h]
theorem strF_up {s : ByteArray} {base k : Nat} (h0 : lowC (chS s k) = false) (h : upC (chS s k) = true) : strF s base k = 1 := by unfold strF; rw [if_neg (by rw [h0]; decide), if_pos h]
theorem strF_dig {s : ByteArray} {base k : Nat} (h0 : lowC (chS s k) = false) (h : upC (chS s k) = false) : strF s base k = if base = 1 ∨ upF s k = true then 2 else 0 := by unfold strF; rw [if_neg (by rw [h0]; decide), if_neg (by rw [h]; decide)]
theorem upF_low {s : ByteArray} {k : Nat} (h : lowC (chS s k) = true) : upF s (k + 1) = false := by rw [upF, if_pos h]
theorem upF_up {s : ByteArray} {k : Nat} (h0 : lowC (chS s k) = false) (h : upC (chS s k) = true) : upF s (k + 1) = true := by rw [upF, if_neg (by rw [h0]; decide), if_pos h]
theorem upF_else {s : ByteArray} {k : Nat} (h0 : lowC (chS s k) = false) (h : upC (chS s k) = false) : upF s (k + 1) = upF s k := by rw [upF, if_neg (by rw [h0]; decide), if_neg (by rw [h]; decide)]

theorem nbF_end (s : ByteArray) (base : Nat) : nbF s base s.size = base := by unfold nbF; rw [Nat.sub_self]; rfl
theorem nbF_str {s : ByteArray} {base k : Nat} (hk : k < s.size) (h : neuC (chS s k) = false) : nbF s base k = strF s base k := by
  unfold nbF
  obtain ⟨d, hd⟩ : ∃ d, s.size - k = d + 1 := ⟨s.size - k - 1, by omega⟩
  rw [hd, nbGo, h]; rfl
theorem nbF_neu {s : ByteArray} {base k : Nat} (hk : k < s.size) (h : neuC (chS s k) = true) : nbF s base k = nbF s base (k + 1) := by
  unfold nbF
  obtain ⟨d, hd⟩ : ∃ d, s.size - k = d + 1 := ⟨s.size - k - 1, by omega⟩
  rw [hd, nbGo, if_pos h, show s.size - (k + 1) = d by omega]
theorem pbF_str {s : ByteArray} {base k : Nat} (hk : 0 < k) (h : neuC (chS s (k - 1)) = false) : pbF s base k = strF s base (k - 1) := by
  obtain ⟨j, rfl⟩ : ∃ j, k = j + 1 := ⟨k - 1, by omega⟩
  rw [Nat.add_sub_cancel] at *
  rw [pbF, h]; rfl
/-- Levels in a run of others. -/
theorem run_fin {s : ByteArray} {base f t : Nat} (ht : t ≤ s.size) (hrun : ∀ j, f ≤ j → j < t → neuC (chS s j) = true) : ∀ j, f ≤ j → j < t → finF s base j = neut (pbF s base f) (nbF s base t) base := by
  have hp : ∀ d, f + d ≤ t → pbF s base (f + d) = pbF s base f := by
    intro d
    induction d with
    | zero => intro _; rfl
    | succ d ih => intro h; rw [← Nat.add_assoc, pbF, if_pos (hrun (f + d) (by omega) (by omega)), ih (by omega)]
  have hn : ∀ d, f + d ≤ t → nbF s base (t - d) = nbF s base t := by
    intro d
    induction d with
    | zero => intro _; rfl
    | succ d ih =>
      intro h
      rw [nbF_neu (by omega) (hrun (t - (d + 1)) (by omega) (by omega)), show t - (d + 1) + 1 = t - d by omega, ih (by omega)]
  intro j h1 h2
  unfold finF
  rw [if_pos (hrun j h1 h2)]
  have e1 := hp (j - f) (by omega)
  have e2 := hn (t - j) (by omega)
  rw [show f + (j - f) = j by omega] at e1
  rw [show t - (t - j) = j by omega] at e2
  rw [e1, e2]

/-- The reference's last level of a letter. -/
def lastF (s : ByteArray) (base : Nat) : Nat → Nat
  | 0 => base
  | k + 1 => if lowC (chS s k) then 2 * base else if upC (chS s k) then 1 else lastF s base k
theorem lastF_low {s : ByteArray} {base k : Nat} (h : lowC (chS s k) = true) : lastF s base (k + 1) = 2 * base := by rw [lastF, if_pos h]
theorem lastF_up {s : ByteArray} {base k : Nat} (h0 : lowC (chS s k) = false) (h : upC (chS s k) = true) : lastF s base (k + 1) = 1 := by rw [lastF, if_neg (by rw [h0]; decide), if_pos h]
theorem lastF_else {s : ByteArray} {base k : Nat} (h0 : lowC (chS s k) = false) (h : upC (chS s k) = false) : lastF s base (k + 1) = lastF s base k := by rw [lastF, if_neg (by rw [h0]; decide), if_neg (by rw [h]; decide)]
theorem lastF_zero (s : ByteArray) : ∀ k, lastF s 0 k = if upF s k = true then 1 else 0 := by
  intro k
  induction k with
  | zero => rfl
  | succ k ih =>
    rw [lastF, upF]
    split
    · rfl
    · split
      · rfl
      · exact ih
theorem lastF_le (s : ByteArray) (base : Nat) (hb : base ≤ 1) : ∀ k, lastF s base k ≤ 2 := by
  intro k
  induction k with
  | zero => show base ≤ 2; omega
  | succ k ih =>
    rw [lastF]
    split
    · omega
    · split
      · omega
      · exact ih
/-- A digit's level in the reference: 2 behind a capital, else twice the base. -/
theorem dig_spec {s : ByteArray} {base k : Nat} (hb : base ≤ 1) (h0 : lowC (chS s k) = false) (h : upC (chS s k) = false) : strF s base k = if lastF s base k = 1 then 2 else 2 * base := by
  rw [strF_dig h0 h]
  rcases (show base = 0 ∨ base = 1 by omega) with rfl | rfl
  · rw [lastF_zero]
    cases upF s k <;> simp
  · simp
def okT (s : ByteArray) : Bool := decide (s.size ≤ 60) && (List.range s.size).all (fun k => decide (32 ≤ chS s k) && decide (chS s k ≤ 126))
theorem okT_bad {s : ByteArray} {k : Nat} (hk : k < s.size) (h : chS s k < 32 ∨ 126 < chS s k) : okT s = false := by
  cases e : okT s with
  | false => rfl
  | true =>
    unfold okT at e
    rw [Bool.and_eq_true, List.all_eq_true] at e
    have := e.2 k (by simpa using hk)
    rw [Bool.and_eq_true, decide_eq_true_eq, decide_eq_true_eq] at this
    omega
theorem okT_long {s : ByteArray} (h : 60 < s.size) : okT s = false := by unfold okT; rw [decide_eq_false (by omega)]; rfl
theorem okT_of {s : ByteArray} (h1 : s.size ≤ 60) (h : ∀ k, k < s.size → 32 ≤ chS s k ∧ chS s k ≤ 126) : okT s = true := by
  unfold okT
  rw [Bool.and_eq_true, List.all_eq_true]
  refine ⟨decide_eq_true h1, fun k hk => ?_⟩
  have := h k (by simpa using hk)
  rw [Bool.and_eq_true, decide_eq_true_eq, decide_eq_true_eq]; exact this
theorem okT_le {s : ByteArray} (h : okT s = true) : s.size ≤ 60 := by unfold okT at h; rw [Bool.and_eq_true, decide_eq_true_eq] at h; exact h.1
def levS (s : ByteArray) (base : Int) : List Int := if okT s = true ∧ 0 ≤ base ∧ base ≤ 1 then (List.range s.size).map (fun k => (finF s base.toNat k : Int)) else []
theorem levS_len (s : ByteArray) (base : Int) : (levS s base).length ≤ 60 := by
  unfold levS; split
  · rename_i h; have := okT_le h.1; simpa using this
  · simp
theorem levS_is {s : ByteArray} {base : Nat} {M : List Int} (hok : okT s = true) (hb : base ≤ 1) (hl : M.length = s.size) (h : ∀ j, j < s.size → M.getD j 0 = (finF s base j : Int)) : M = levS s (base : Int) := by
  unfold levS
  rw [if_pos ⟨hok, by omega, by omega⟩, Int.toNat_natCast]
  apply List.ext_getElem?
  intro j
  by_cases hj : j < s.size
  · have h0 := h j hj
    rw [List.getD_eq_getElem?_getD, List.getElem?_eq_getElem (by omega)] at h0
    rw [List.getElem?_eq_getElem (by omega), List.getElem?_eq_getElem (by simpa using hj)]
    simpa using h0
  · rw [List.getElem?_eq_none (by omega), List.getElem?_eq_none (by simp; omega)]
end Go.Proofs.YtckmkjkckadfjaaDoor
