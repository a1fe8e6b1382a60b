/- Orders of characters as plain lists: a pass reverses each longest run. -/
import Derived.Test.YtbecdndeddkibaaBase
namespace Go.Proofs.Ytbecdndeddkibaa

/-- Each longest run of members of p reversed; acc: the run so far, reversed. -/
def passGo (p : Nat → Bool) : List Nat → List Nat → List Nat
  | [], acc => acc
  | x :: r, acc => if p x then passGo p r (x :: acc) else acc ++ x :: passGo p r []
theorem passGo_run (p : Nat → Bool) (rest : List Nat) (hr : ∀ x r, rest = x :: r → p x = false) : ∀ (run acc : List Nat), (∀ x ∈ run, p x = true) → passGo p (run ++ rest) acc = run.reverse ++ acc ++ passGo p rest [] := by
  intro run
  induction run with
  | nil =>
    intro acc _
    cases rest with
    | nil => simp [passGo]
    | cons x r => simp [passGo, hr x r rfl]
  | cons x run ih =>
    intro acc h
    rw [List.cons_append, passGo, if_pos (h x (List.mem_cons_self ..)), ih _ (fun y hy => h y (List.mem_cons_of_mem _ hy))]
    simp
theorem passGo_stop (p : Nat → Bool) (x : Nat) (r : List Nat) (h : p x = false) : passGo p (x :: r) [] = x :: passGo p r [] := by
  simp [passGo, h]
theorem passGo_perm (p : Nat → Bool) : ∀ (o acc : List Nat), (passGo p o acc).Perm (acc ++ o) := by
  intro o
  induction o with
  | nil => intro acc; simp [passGo]
  | cons x o ih =>
    intro acc
    unfold passGo
    split
    · refine (ih (x :: acc)).trans ?_
      simp only [List.cons_append]
      exact (List.perm_middle).symm
    · have := ih []
      exact List.Perm.append_left acc (List.Perm.cons x (by simpa using this))

/-- One pass at a level over an order. -/
def atLeast (L : List Int) (lv : Int) (x : Nat) : Bool := decide (lv ≤ L.getD x 0)
def pass (L : List Int) (lv : Nat) (o : List Nat) : List Nat := passGo (atLeast L lv) o []
def passes (L : List Int) : Nat → List Nat → List Nat
  | 0, o => o
  | lv + 1, o => passes L lv (pass L (lv + 1) o)
theorem passes_perm (L : List Int) : ∀ (lv : Nat) (o : List Nat), (passes L lv o).Perm o := by
  intro lv
  induction lv with
  | zero => intro o; exact List.Perm.refl _
  | succ lv ih => intro o; exact (ih _).trans (passGo_perm (atLeast L ((lv + 1 : Nat) : Int)) o [])
def topOf (L : List Int) : Nat := L.foldl (fun m x => max m x.toNat) 0
def okL (L : List Int) : Bool := decide (L.length ≤ 60) && L.all (fun x => decide (0 ≤ x ∧ x ≤ 6))
/-- The order of valid levels; nothing for others. -/
def ordS (L : List Int) : List Nat := if okL L then passes L (topOf L) (List.range L.length) else []
theorem ordS_perm (L : List Int) (h : okL L = true) : (ordS L).Perm (List.range L.length) := by
  unfold ordS; rw [if_pos h]; exact passes_perm _ _ _
theorem ordS_len (L : List Int) : (ordS L).length ≤ 60 := by
  by_cases h : okL L = true
  · have := (ordS_perm L h).length_eq
    rw [List.length_range] at this
    unfold okL at h
    rw [Bool.and_eq_true, decide_eq_true_eq] at h
    omega
  · unfold ordS; rw [if_neg h]; simp

/-- What a pass does at a run that begins at f and ends before t. -/
theorem pass_at (p : Nat → Bool) (O : List Nat) (f t : Nat) (hft : f ≤ t) (ht : t ≤ O.length) (hrun : ∀ j, f ≤ j → j < t → p (O.getD j 0) = true) (hend : t < O.length → p (O.getD t 0) = false) :
    passGo p (O.drop f) [] = ((O.drop f).take (t - f)).reverse ++ passGo p (O.drop t) [] := by
  have e : O.drop f = (O.drop f).take (t - f) ++ O.drop t := by
    rw [show O.drop t = (O.drop f).drop (t - f) by rw [List.drop_drop]; congr 1; omega]
    exact (List.take_append_drop _ _).symm
  conv => lhs; rw [e]
  rw [passGo_run p (O.drop t) ?_ _ [] ?_, List.append_nil]
  · intro x r hx
    have hl : t < O.length := by
      rcases Nat.lt_or_ge t O.length with h | h
      · exact h
      · rw [List.drop_of_length_le h] at hx; cases hx
    have := hend hl
    rw [List.drop_eq_getElem_cons hl] at hx
    injection hx with hx _
    rw [← hx]
    simpa [List.getD_eq_getElem?_getD, hl] using this
  · intro x hx
    obtain ⟨i, hi, rfl⟩ := List.mem_iff_getElem.1 hx
    rw [List.length_take, List.length_drop] at hi
    have := hrun (f + i) (by omega) (by omega)
    rw [List.getElem_take, List.getElem_drop]
    simpa [List.getD_eq_getElem?_getD, show f + i < O.length by omega] using this
/-- The order behind the reversal of one run. -/
def revRun (O : List Nat) (f t : Nat) : List Nat := O.take f ++ ((O.drop f).take (t - f)).reverse ++ O.drop t
theorem revRun_len (O : List Nat) (f t : Nat) (hft : f ≤ t) (ht : t ≤ O.length) : (revRun O f t).length = O.length := by
  simp [revRun]; omega
theorem cut_at (A C : List Nat) (t k : Nat) (h : A.length = t) : (A ++ C).take (t + k) = A ++ C.take k ∧ (A ++ C).drop (t + k) = C.drop k := by
  subst h
  constructor
  · rw [List.take_length_add_append]
  · rw [List.drop_length_add_append]
theorem pass_step (p : Nat → Bool) (O : List Nat) (f t : Nat) (hft : f ≤ t) (ht : t ≤ O.length) (hrun : ∀ j, f ≤ j → j < t → p (O.getD j 0) = true) (hend : t < O.length → p (O.getD t 0) = false) :
    (revRun O f t).take (t + 1) ++ passGo p ((revRun O f t).drop (t + 1)) [] = O.take f ++ passGo p (O.drop f) [] := by
  rw [pass_at p O f t hft ht hrun hend]
  have hl : (O.take f ++ ((O.drop f).take (t - f)).reverse).length = t := by simp; omega
  unfold revRun
  rw [(cut_at _ (O.drop t) t 1 hl).1, (cut_at _ (O.drop t) t 1 hl).2, List.append_assoc, List.append_assoc]
  congr 2
  rcases Nat.lt_or_ge t O.length with h | h
  · rw [List.drop_eq_getElem_cons h]
    have := hend h
    rw [passGo_stop]
    · simp only [List.take_succ_cons, List.take_zero, List.drop_succ_cons, List.drop_zero, List.cons_append, List.nil_append]
    · simpa [List.getD_eq_getElem?_getD, h] using this
  · rw [List.drop_of_length_le h]; simp [passGo]
theorem pass_stay (p : Nat → Bool) (O : List Nat) (f t : Nat) (hft : f ≤ t) (ht : t ≤ O.length) (hrun : ∀ j, f ≤ j → j < t → p (O.getD j 0) = true) (hend : t < O.length → p (O.getD t 0) = false) :
    (revRun O f t).take t ++ passGo p ((revRun O f t).drop t) [] = O.take f ++ passGo p (O.drop f) [] := by
  rw [pass_at p O f t hft ht hrun hend]
  have hl : (O.take f ++ ((O.drop f).take (t - f)).reverse).length = t := by simp; omega
  unfold revRun
  have h1 := cut_at _ (O.drop t) t 0 hl
  rw [Nat.add_zero] at h1
  rw [h1.1, h1.2, List.append_assoc]
  simp

/-- Exchange of the elements a and b. -/
def swp (O : List Nat) (a b : Nat) : List Nat := (O.set a (O.getD b 0)).set b (O.getD a 0)
theorem swp_len (O : List Nat) (a b : Nat) : (swp O a b).length = O.length := by simp [swp]
theorem swp_get (O : List Nat) (a b j : Nat) (ha : a < O.length) (hb : b < O.length) : (swp O a b)[j]? = if j = b then O[a]? else if j = a then O[b]? else O[j]? := by
  unfold swp
  rw [List.getElem?_set, List.getElem?_set]
  by_cases h1 : b = j
  · subst h1
    simp [ha, hb, List.getD_eq_getElem?_getD]
  · rw [if_neg h1]
    by_cases h2 : a = j
    · subst h2
      have h3 : ¬ a = b := fun e => h1 e.symm
      simp [ha, hb, h3, List.getD_eq_getElem?_getD]
    · rw [if_neg h2, if_neg (fun e => h1 e.symm), if_neg (fun e => h2 e.symm)]
theorem revRun_get (O : List Nat) (f t j : Nat) (hft : f ≤ t) (ht : t ≤ O.length) : (revRun O f t)[j]? = if f ≤ j ∧ j < t then O[f + t - 1 - j]? else O[j]? := by
  unfold revRun
  have h1 : (O.take f).length = f := by rw [List.length_take]; omega
  have h2 : ((O.drop f).take (t - f)).reverse.length = t - f := by simp; omega
  have h12 : (O.take f ++ ((O.drop f).take (t - f)).reverse).length = t := by rw [List.length_append, h1, h2]; omega
  by_cases a1 : j < f
  · rw [if_neg (by omega), List.getElem?_append_left (by omega), List.getElem?_append_left (by omega), List.getElem?_take, if_pos a1]
  · by_cases a2 : j < t
    · rw [if_pos ⟨by omega, a2⟩, List.getElem?_append_left (by omega), List.getElem?_append_right (by omega), h1, List.getElem?_reverse (by simp; omega), List.getElem?_take, if_pos (by simp; omega), List.getElem?_drop]
      congr 1
      simp; omega
    · rw [if_neg (by omega), List.getElem?_append_right (by omega), h12, List.getElem?_drop]
      congr 1
      omega
theorem rev_step (O : List Nat) (a e : Nat) (h : a + 1 < e) (he : e ≤ O.length) : revRun (swp O a (e - 1)) (a + 1) (e - 1) = revRun O a e := by
  apply List.ext_getElem?
  intro j
  rw [revRun_get _ _ _ _ (by omega) (by rw [swp_len]; omega), revRun_get _ _ _ _ (by omega) he]
  by_cases h1 : a + 1 ≤ j ∧ j < e - 1
  · rw [if_pos h1, if_pos (by omega), swp_get _ _ _ _ (by omega) (by omega), if_neg (by omega), if_neg (by omega)]
    congr 1
    omega
  · rw [if_neg h1, swp_get _ _ _ _ (by omega) (by omega)]
    by_cases h2 : j = e - 1
    · rw [if_pos h2, if_pos (by omega)]
      congr 1
      omega
    · rw [if_neg h2]
      by_cases h3 : j = a
      · rw [if_pos h3, if_pos (by omega)]
        congr 1
        omega
      · rw [if_neg h3, if_neg (by omega)]
theorem rev_end (O : List Nat) (a e : Nat) (h1 : a ≤ e) (h2 : e ≤ a + 1) (he : e ≤ O.length) : revRun O a e = O := by
  apply List.ext_getElem?
  intro j
  rw [revRun_get _ _ _ _ h1 he]
  split
  · congr 1; omega
  · rfl
end Go.Proofs.Ytbecdndeddkibaa
