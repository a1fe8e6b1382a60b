/- Columns of lines as plain lists: filling one after the other, the smallest height, divided lists. -/
import Derived.Test.YtfiogefigjnaiaaInts
namespace Go.Proofs.Ytfiogefigjnaiaa

def okH (L : List Int) : Bool := decide (L.length ≤ 40) && L.all (fun x => decide (1 ≤ x ∧ x ≤ 1000))
theorem okH_at {L : List Int} (h : okH L = true) : L.length ≤ 40 ∧ ∀ k, k < L.length → 1 ≤ L.getD k 0 ∧ L.getD k 0 ≤ 1000 := by
  unfold okH at h
  rw [Bool.and_eq_true, decide_eq_true_eq, List.all_eq_true] at h
  refine ⟨h.1, fun k hk => ?_⟩
  have := h.2 (L.getD k 0) (getD_mem L k hk)
  simpa using this
theorem okH_of {L : List Int} (h1 : L.length ≤ 40) (h : ∀ k, k < L.length → 1 ≤ L.getD k 0 ∧ L.getD k 0 ≤ 1000) : okH L = true := by
  unfold okH
  rw [Bool.and_eq_true, decide_eq_true_eq, List.all_eq_true]
  refine ⟨h1, fun x hx => ?_⟩
  obtain ⟨i, hi, rfl⟩ := List.mem_iff_getElem.1 hx
  have := h i hi
  simpa [List.getD_eq_getElem?_getD, hi] using this
theorem okH_bad {L : List Int} (k : Nat) (hk : k < L.length) (h : ¬ (1 ≤ L.getD k 0 ∧ L.getD k 0 ≤ 1000)) : okH L = false := by
  cases h1 : okH L with
  | false => rfl
  | true => exact absurd ((okH_at h1).2 k hk) h
theorem okH_long {L : List Int} (h : 40 < L.length) : okH L = false := by
  cases h1 : okH L with
  | false => rfl
  | true => have := (okH_at h1).1; omega

def sumTo (L : List Int) : Nat → Int
  | 0 => 0
  | k + 1 => sumTo L k + L.getD k 0
def sumL (L : List Int) : Int := sumTo L L.length
theorem sumTo_mono {L : List Int} {n : Nat} (h : ∀ k, k < n → 1 ≤ L.getD k 0) : ∀ i j, i ≤ j → j ≤ n → sumTo L i + (j - i : Nat) ≤ sumTo L j := by
  intro i j hij hj
  induction j with
  | zero => obtain rfl : i = 0 := by omega
            simp
  | succ j ih =>
    by_cases e : i = j + 1
    · subst e; simp
    · have h1 := ih (by omega) (by omega)
      have h2 := h j (by omega)
      rw [sumTo]
      omega
theorem sumTo_le {L : List Int} (b : Int) (h : ∀ k, k < L.length → L.getD k 0 ≤ b) : ∀ j, j ≤ L.length → sumTo L j ≤ j * b := by
  intro j
  induction j with
  | zero => intro _; simp [sumTo]
  | succ j ih =>
    intro hj
    have h1 := ih (by omega)
    have h2 := h j (by omega)
    rw [sumTo, show ((j + 1 : Nat) : Int) * b = j * b + b by rw [Int.natCast_add, Int.add_mul]; simp]
    omega
theorem sumTo_part (L : List Int) (f m : Nat) : ∀ j, j ≤ m → f + m ≤ L.length → sumTo ((L.drop f).take m) j = sumTo L (f + j) - sumTo L f := by
  intro j
  induction j with
  | zero => intro _ _; simp [sumTo]
  | succ j ih =>
    intro hj hl
    rw [sumTo, ih (by omega) hl, show f + (j + 1) = f + j + 1 by omega, sumTo]
    have e : ((L.drop f).take m).getD j 0 = L.getD (f + j) 0 := by
      simp [List.getD_eq_getElem?_getD, show j < m by omega]
    rw [e]; omega
theorem sumTo_okH {L : List Int} (h : okH L = true) : ∀ j, j ≤ L.length → 0 ≤ sumTo L j ∧ sumTo L j ≤ 40000 := by
  obtain ⟨h1, h2⟩ := okH_at h
  intro j hj
  have a := sumTo_mono (L := L) (n := L.length) (fun k hk => (h2 k hk).1) 0 j (by omega) hj
  have b := sumTo_le (L := L) 1000 (fun k hk => (h2 k hk).2) j hj
  simp only [sumTo] at a
  omega

/-- The columns of height h behind k lines: where each begins, and the room that is left in the last one. -/
def cols (h : Int) (L : List Int) : Nat → List Int × Int
  | 0 => ([], 0)
  | k + 1 => if (cols h L k).2 < L.getD k 0 then ((cols h L k).1 ++ [(k : Int)], h - L.getD k 0) else ((cols h L k).1, (cols h L k).2 - L.getD k 0)
def cnt (h : Int) (L : List Int) (k : Nat) : Nat := (cols h L k).1.length
def room (h : Int) (L : List Int) (k : Nat) : Int := (cols h L k).2
theorem cnt_zero (h : Int) (L : List Int) : cnt h L 0 = 0 := rfl
theorem room_zero (h : Int) (L : List Int) : room h L 0 = 0 := rfl
theorem cnt_succ (h : Int) (L : List Int) (k : Nat) : cnt h L (k + 1) = if room h L k < L.getD k 0 then cnt h L k + 1 else cnt h L k := by
  unfold cnt room; rw [cols]; split <;> simp
theorem room_succ (h : Int) (L : List Int) (k : Nat) : room h L (k + 1) = if room h L k < L.getD k 0 then h - L.getD k 0 else room h L k - L.getD k 0 := by
  unfold room; rw [cols]; split <;> rfl
theorem room_bd (h : Int) (L : List Int) (n : Nat) (h0 : 0 ≤ h) (hL : ∀ k, k < n → 1 ≤ L.getD k 0 ∧ L.getD k 0 ≤ h) : ∀ k, k ≤ n → 0 ≤ room h L k ∧ room h L k ≤ h ∧ cnt h L k ≤ k ∧ (0 < k → 0 < cnt h L k) ∧ sumTo L k + room h L k ≤ cnt h L k * h := by
  intro k
  induction k with
  | zero => intro _; rw [room_zero, cnt_zero, sumTo]; refine ⟨by omega, by omega, by omega, by omega, by simp⟩
  | succ k ih =>
    intro hk
    obtain ⟨i1, i2, i3, i4, i5⟩ := ih (by omega)
    obtain ⟨x1, x2⟩ := hL k (by omega)
    rw [room_succ, cnt_succ, sumTo]
    split
    · refine ⟨by omega, by omega, by omega, fun _ => by omega, ?_⟩
      rw [show ((cnt h L k + 1 : Nat) : Int) * h = cnt h L k * h + h by rw [Int.natCast_add, Int.add_mul]; simp]
      omega
    · rename_i hn
      refine ⟨by omega, by omega, by omega, fun _ => ?_, by omega⟩
      rcases Nat.eq_zero_or_pos k with rfl | hp
      · rw [room_zero] at hn; omega
      · exact i4 hp
/-- Higher columns need not be more. -/
theorem cnt_mono (h h' : Int) (L : List Int) (n : Nat) (hh : h ≤ h') (h0 : 0 ≤ h) (hL : ∀ k, k < n → 1 ≤ L.getD k 0 ∧ L.getD k 0 ≤ h) : ∀ k, k ≤ n → cnt h' L k < cnt h L k ∨ (cnt h' L k = cnt h L k ∧ room h L k ≤ room h' L k) := by
  intro k
  induction k with
  | zero => intro _; exact .inr ⟨rfl, by rw [room_zero, room_zero]; omega⟩
  | succ k ih =>
    intro hk
    have i := ih (by omega)
    have b := (room_bd h L n h0 hL k (by omega)).2.1
    rw [cnt_succ, cnt_succ, room_succ, room_succ]
    split <;> split <;> omega

def fitB (h : Int) (L : List Int) : Bool := L.all (fun x => decide (x ≤ h))
theorem fitB_at {h : Int} {L : List Int} (hf : fitB h L = true) : ∀ k, k < L.length → L.getD k 0 ≤ h := by
  intro k hk
  unfold fitB at hf
  rw [List.all_eq_true] at hf
  simpa using hf _ (getD_mem L k hk)
theorem fitB_of {h : Int} {L : List Int} (hf : ∀ k, k < L.length → L.getD k 0 ≤ h) : fitB h L = true := by
  unfold fitB
  rw [List.all_eq_true]
  intro x hx
  obtain ⟨i, hi, rfl⟩ := List.mem_iff_getElem.1 hx
  have := hf i hi
  simpa [List.getD_eq_getElem?_getD, hi] using this
theorem fitB_bad {h : Int} {L : List Int} (k : Nat) (hk : k < L.length) (hx : h < L.getD k 0) : fitB h L = false := by
  cases h1 : fitB h L with
  | false => rfl
  | true => have := fitB_at h1 k hk; omega
def need (h : Int) (L : List Int) : Int := if fitB h L then (cnt h L L.length : Int) else -1
def endsF (h : Int) (L : List Int) : List Int := if L.length = 0 then [] else (cols h L L.length).1.tail ++ [(L.length : Int)]
def goodH (L : List Int) (c : Nat) (h : Nat) : Bool := fitB h L && decide (cnt h L L.length ≤ c)
theorem goodH_mono {L : List Int} (hL : okH L = true) {c h h' : Nat} (hh : h ≤ h') (hg : goodH L c h = true) : goodH L c h' = true := by
  unfold goodH at hg ⊢
  rw [Bool.and_eq_true, decide_eq_true_eq] at hg ⊢
  have hf := fitB_at hg.1
  refine ⟨fitB_of (fun k hk => by have := hf k hk; omega), ?_⟩
  have := cnt_mono h h' L L.length (by omega) (by omega) (fun k hk => ⟨((okH_at hL).2 k hk).1, hf k hk⟩) L.length (Nat.le_refl _)
  omega
theorem cnt_one {L : List Int} (hL : okH L = true) (h : Int) (hs : sumL L ≤ h) : cnt h L L.length ≤ 1 ∧ fitB h L = true := by
  obtain ⟨_, h2⟩ := okH_at hL
  have hm := sumTo_mono (L := L) (n := L.length) (fun k hk => (h2 k hk).1)
  unfold sumL at hs
  have key : ∀ k, k ≤ L.length → k = 0 ∨ (cnt h L k = 1 ∧ room h L k = h - sumTo L k) := by
    intro k
    induction k with
    | zero => intro _; exact .inl rfl
    | succ k ih =>
      intro hk
      have x := h2 k (by omega)
      have m1 := hm (k + 1) L.length (by omega) (Nat.le_refl _)
      have m2 : sumTo L (k + 1) = sumTo L k + L.getD k 0 := rfl
      right
      rw [cnt_succ, room_succ]
      rcases ih (by omega) with rfl | ⟨e1, e2⟩
      · rw [room_zero, cnt_zero, if_pos (by omega), if_pos (by omega), m2]
        refine ⟨rfl, ?_⟩
        show _ = h - (0 + _)
        omega
      · rw [e1, e2, if_neg (by omega), if_neg (by omega)]
        exact ⟨rfl, by omega⟩
  refine ⟨?_, fitB_of (fun k hk => ?_)⟩
  · rcases key L.length (Nat.le_refl _) with h | h
    · rw [h, cnt_zero]; omega
    · omega
  · have m1 := hm (k + 1) L.length (by omega) (Nat.le_refl _)
    have m2 : sumTo L (k + 1) = sumTo L k + L.getD k 0 := rfl
    have m3 := hm 0 k (by omega) (by omega)
    simp only [sumTo] at m3
    omega
theorem goodH_sum {L : List Int} (hL : okH L = true) {c h : Nat} (hc : 1 ≤ c) (hs : sumL L ≤ h) : goodH L c h = true := by
  unfold goodH
  obtain ⟨a, b⟩ := cnt_one hL h hs
  rw [b]
  simp; omega

/-- The first number below n at which p holds, n if there is none. -/
def least (p : Nat → Bool) : Nat → Nat
  | 0 => 0
  | n + 1 => if least p n < n then least p n else if p n then n else n + 1
theorem least_spec (p : Nat → Bool) : ∀ n, least p n ≤ n ∧ (∀ h, h < least p n → p h = false) ∧ (least p n < n → p (least p n) = true) := by
  intro n
  induction n with
  | zero => exact ⟨Nat.le_refl _, fun h hh => by simp [least] at hh, fun h => by simp [least] at h⟩
  | succ n ih =>
    obtain ⟨i1, i2, i3⟩ := ih
    rw [least]
    by_cases h1 : least p n < n
    · rw [if_pos h1]; exact ⟨by omega, i2, fun _ => i3 h1⟩
    · rw [if_neg h1]
      have e : least p n = n := by omega
      rw [e] at i2
      cases h2 : p n with
      | true => simp only [if_true]; exact ⟨by omega, i2, fun _ => h2⟩
      | false =>
        simp only [Bool.false_eq_true, if_false]
        refine ⟨by omega, fun h hh => ?_, fun h => by omega⟩
        by_cases e2 : h = n
        · subst e2; exact h2
        · exact i2 h (by omega)
theorem least_uniq (p : Nat → Bool) (n m : Nat) (h1 : m ≤ n) (h2 : ∀ h, h < m → p h = false) (h3 : m < n → p m = true) : least p n = m := by
  obtain ⟨i1, i2, i3⟩ := least_spec p n
  rcases Nat.lt_trichotomy (least p n) m with h | h | h
  · have a := h2 _ h
    have b := i3 (by omega)
    rw [a] at b; cases b
  · exact h
  · have a := i2 _ h
    have b := h3 (by omega)
    rw [a] at b; cases b
def balN (L : List Int) (c : Nat) : Nat := least (goodH L c) 10000
theorem balN_good {L : List Int} (hL : okH L = true) {c : Nat} (hc : 1 ≤ c) (hs : sumL L ≤ 10000) : goodH L c (balN L c) = true := by
  obtain ⟨i1, i2, i3⟩ := least_spec (goodH L c) 10000
  by_cases h : balN L c < 10000
  · exact i3 h
  · have e : balN L c = 10000 := Nat.le_antisymm i1 (by omega)
    rw [e]; exact goodH_sum hL hc (by omega)
theorem balN_low {L : List Int} {c h : Nat} (hh : h < balN L c) : goodH L c h = false := (least_spec (goodH L c) 10000).2.1 h hh
theorem balN_le {L : List Int} {c h : Nat} (hg : goodH L c h = true) : balN L c ≤ h := by
  rcases Nat.lt_or_ge h (balN L c) with h1 | h1
  · have := balN_low h1; rw [hg] at this; cases this
  · exact h1
theorem balN_top (L : List Int) (c : Nat) : balN L c ≤ 10000 := (least_spec (goodH L c) 10000).1
def balI (L : List Int) (c : Int) : Int := if okH L = true ∧ (1 ≤ c ∧ c ≤ 8) ∧ sumL L ≤ 10000 then (balN L c.toNat : Int) else -1
end Go.Proofs.Ytfiogefigjnaiaa
