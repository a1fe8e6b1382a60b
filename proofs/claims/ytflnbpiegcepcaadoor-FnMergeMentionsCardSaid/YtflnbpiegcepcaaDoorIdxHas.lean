/- An index has all mentions, in whatever order they came. -/
import Derived.Test.YtflnbpiegcepcaaDoorIdxMen
namespace Go.Proofs.YtflnbpiegcepcaaDoor
set_option linter.unusedVariables false

theorem fold_has (u : ByteArray) (x : Int) : ∀ (M : List Men) (E : List Ent), OkE E → OkE (M.foldl stepE E) ∧ (Has (M.foldl stepE E) u x ↔ Has E u x ∨ (u, x) ∈ M)
  | [], E, h => ⟨h, by simp⟩
  | (s, p) :: M, E, h => by
    have h1 : OkE (stepE E (s, p)) := addP_ok h (by simp)
    obtain ⟨a, b⟩ := fold_has u x M _ h1
    refine ⟨a, ?_⟩
    rw [List.foldl_cons, b]
    have h2 : Has (stepE E (s, p)) u x ↔ Has E u x ∨ u = s ∧ x ∈ [p] := addP_has u x h
    rw [h2]
    simp only [List.mem_cons, List.not_mem_nil, or_false, Prod.mk.injEq, or_assoc]
theorem okE_nil : OkE [] := ⟨List.Pairwise.nil, fun e he => by simp at he⟩
theorem colS_has (M : List Men) (u : ByteArray) (x : Int) (h : okMs M = true) : Has (colS M) u x ↔ (u, x) ∈ M := by
  unfold colS
  rw [h, if_pos rfl, (fold_has u x M [] okE_nil).2]
  unfold Has; simp
theorem okMs_rev (M : List Men) : okMs M.reverse = okMs M := by unfold okMs; rw [List.length_reverse, List.all_reverse]
/-- The order of the mentions does not matter. -/
theorem colS_rev (M : List Men) : colS M.reverse = colS M := by
  cases h : okMs M with
  | false => rw [colS_no h, colS_no (by rw [okMs_rev]; exact h)]
  | true =>
    refine okE_ext (colS_facts _).1 (colS_facts _).1 fun u x => ?_
    rw [colS_has M u x h, colS_has _ u x (by rw [okMs_rev]; exact h), List.mem_reverse]
theorem ent_at (E : List Ent) (i : Nat) (h : i < E.length) : E[i] = (ew E i, ep E i) := by simp [ew, ep, List.getD_eq_getElem?_getD, h]
theorem has_at {E : List Ent} {u : ByteArray} {x : Int} (h : Has E u x) : ∃ i, i < E.length ∧ ew E i = u ∧ x ∈ ep E i := by
  obtain ⟨L, h1, h2⟩ := h
  obtain ⟨i, hi, e⟩ := List.getElem_of_mem h1
  rw [ent_at E i hi] at e
  injection e with e1 e2
  exact ⟨i, hi, e1, by rw [e2]; exact h2⟩
theorem okE_at {E : List Ent} (h : OkE E) {i : Nat} (hi : i < E.length) : Asc (ep E i) ∧ ep E i ≠ [] := by
  have := h.2 E[i] (List.getElem_mem _)
  rw [ent_at E i hi] at this
  exact this
theorem okE_lt {E : List Ent} (h : OkE E) {i j : Nat} (hi : i < j) (hj : j < E.length) : ltW (ew E i) (ew E j) = true := by
  have := List.pairwise_iff_getElem.1 h.1 i j (by omega) hj hi
  rw [ent_at E i (by omega), ent_at E j hj] at this
  exact this
/-- Every mention is found in an index that is not empty. -/
theorem colS_found {M : List Men} (h : 0 < (colS M).length) {k : Nat} (hk : k < M.length) : ∃ i, i < (colS M).length ∧ ew (colS M) i = mw M k ∧ mp M k ∈ ep (colS M) i := by
  cases ho : okMs M with
  | false => rw [colS_no ho] at h; simp at h
  | true =>
    refine has_at ((colS_has M _ _ ho).2 ?_)
    rw [← men_at M k hk]
    exact List.getElem_mem _
/-- Is a word with a page among the first entries? -/
def inE (E : List Ent) (s : ByteArray) (p : Int) (j : Nat) : Bool := (List.range j).any fun i => decide (ew E i = s) && decide (p ∈ ep E i)
theorem inE_zero (E : List Ent) (s : ByteArray) (p : Int) : inE E s p 0 = false := rfl
theorem inE_succ (E : List Ent) (s : ByteArray) (p : Int) (j : Nat) : inE E s p (j + 1) = (inE E s p j || (decide (ew E j = s) && decide (p ∈ ep E j))) := by
  unfold inE; rw [List.range_succ, List.any_append]; simp
theorem inE_all {M : List Men} (h : 0 < (colS M).length) {k : Nat} (hk : k < M.length) : inE (colS M) (mw M k) (mp M k) (colS M).length = true := by
  obtain ⟨i, h1, h2, h3⟩ := colS_found h hk
  unfold inE
  rw [List.any_eq_true]
  exact ⟨i, List.mem_range.2 h1, by rw [decide_eq_true h2, decide_eq_true h3]; rfl⟩
end Go.Proofs.YtflnbpiegcepcaaDoor
