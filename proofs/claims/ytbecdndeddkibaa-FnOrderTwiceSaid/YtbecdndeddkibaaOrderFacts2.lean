/- Levels one higher give the reversed order. -/
import Derived.Test.YtbecdndeddkibaaOrderFacts
namespace Go.Proofs.Ytbecdndeddkibaa

theorem topOf_up (L : List Int) : (∀ x ∈ L, 0 ≤ x) → 0 < L.length → topOf (upL L) = topOf L + 1 := by
  refine snocInd (P := fun L => (∀ x ∈ L, 0 ≤ x) → 0 < L.length → topOf (upL L) = topOf L + 1) ?_ ?_ L
  · intro _ h; simp at h
  · intro l a ih h _
    have ha : 0 ≤ a := h a (by simp)
    have e : upL (l ++ [a]) = upL l ++ [a + 1] := by simp [upL]
    rw [e, topOf_snoc, topOf_snoc]
    by_cases hl : l = []
    · subst hl
      simp [upL, topOf]
      omega
    · rw [ih (fun x hx => h x (List.mem_append_left _ hx)) (List.length_pos_iff.2 hl)]
      omega
theorem okL_at {L : List Int} (h : okL L = true) : L.length ≤ 60 ∧ ∀ k, k < L.length → 0 ≤ L.getD k 0 ∧ L.getD k 0 ≤ 6 := by
  unfold okL at h
  rw [Bool.and_eq_true, decide_eq_true_eq, List.all_eq_true] at h
  refine ⟨h.1, fun k hk => ?_⟩
  have := h.2 (L.getD k 0) (getD_mem L k hk)
  simpa using this
theorem ordS_up (L : List Int) (h : okL L = true) (h0 : 0 < L.length) (h6 : ∀ k, k < L.length → L.getD k 0 ≠ 6) : ordS (upL L) = (ordS L).reverse := by
  obtain ⟨h1, h2⟩ := okL_at h
  have hl : (upL L).length = L.length := by simp [upL]
  have hg : ∀ k, k < L.length → (upL L).getD k 0 = L.getD k 0 + 1 := by
    intro k hk
    simp [upL, List.getD_eq_getElem?_getD, hk]
  have hok : okL (upL L) = true := by
    refine okL_good _ (by omega) (fun k hk => ?_)
    have hk' : k < L.length := by omega
    have := h2 k hk'
    have := h6 k hk'
    rw [hg k hk']
    omega
  have hn : ∀ x ∈ L, 0 ≤ x := by
    intro x hx
    obtain ⟨i, hi, rfl⟩ := List.mem_iff_getElem.1 hx
    have := (h2 i hi).1
    simpa [List.getD_eq_getElem?_getD, hi] using this
  unfold ordS
  rw [if_pos hok, if_pos h, topOf_up L hn h0, hl]
  exact passes_up L (topOf L) (List.range L.length) (fun x hx => List.mem_range.1 hx) (fun x hx => (h2 x hx).1)
theorem upL_snoc (L : List Int) (k : Nat) (h : k < L.length) : upL (L.take (k + 1)) = upL (L.take k) ++ [L.getD k 0 + 1] := by
  rw [take_snocI L k h]; simp [upL]
end Go.Proofs.Ytbecdndeddkibaa
