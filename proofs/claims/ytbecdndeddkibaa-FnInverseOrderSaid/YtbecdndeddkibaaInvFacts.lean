/- What inverts is a permutation, and inverting twice gives it back. -/
import Derived.Test.YtbecdndeddkibaaOrderFacts
namespace Go.Proofs.Ytbecdndeddkibaa

/-- If the inverse is not empty, then what was inverted is a list of different indices. -/
theorem invGo_perm (n : Nat) : ∀ (L : List Int) (p : Nat) (M : List Int) (S : List Bool), S.length = n → invGo n L p M S ≠ [] →
    ∃ O : List Nat, L = natI O ∧ O.Nodup ∧ ∀ x ∈ O, x < n ∧ S.getD x false = false := by
  intro L
  induction L with
  | nil => intro p M S _ _; exact ⟨[], rfl, List.nodup_nil, fun x hx => by cases hx⟩
  | cons y r ih =>
    intro p M S hS h
    rw [invGo] at h
    by_cases hc : 0 ≤ y ∧ y ≤ (n : Int) - 1 ∧ S.getD y.toNat false = false
    · rw [if_pos hc] at h
      obtain ⟨O, e, hn, ho⟩ := ih _ _ _ (by simpa using hS) h
      obtain ⟨k, rfl⟩ := Int.eq_ofNat_of_zero_le hc.1
      have hk : ((k : Nat) : Int).toNat = k := by omega
      rw [hk] at ho hc
      refine ⟨k :: O, by simp [natI, e], ?_, ?_⟩
      · rw [List.nodup_cons]
        refine ⟨fun hk2 => ?_, hn⟩
        have := (ho k hk2).2
        rw [List.getD_eq_getElem?_getD] at this
        simp [show k < S.length by omega] at this
      · intro x hx
        rcases List.mem_cons.1 hx with rfl | hx
        · exact ⟨by omega, hc.2.2⟩
        · refine ⟨(ho x hx).1, ?_⟩
          have := (ho x hx).2
          by_cases hxk : k = x
          · subst hxk
            rw [List.getD_eq_getElem?_getD] at this
            simp [show k < S.length by omega] at this
          · rw [List.getD_eq_getElem?_getD, List.getElem?_set_ne hxk, ← List.getD_eq_getElem?_getD] at this
            exact this
    · rw [if_neg hc] at h; exact absurd rfl h
theorem perm_of_small (n : Nat) (O : List Nat) (hn : O.Nodup) (hl : O.length = n) (hb : ∀ x ∈ O, x < n) : O.Perm (List.range n) := by
  rw [List.perm_ext_iff_of_nodup hn List.nodup_range]
  intro a
  rw [List.mem_range]
  refine ⟨hb a, fun ha => ?_⟩
  by_cases h : a ∈ O
  · exact h
  · have h1 : (a :: O).Nodup := List.nodup_cons.2 ⟨h, hn⟩
    have h2 := h1.length_le_of_subset (l₂ := List.range n) (fun x hx => by
      rcases List.mem_cons.1 hx with rfl | hx
      · exact List.mem_range.2 ha
      · exact List.mem_range.2 (hb x hx))
    simp at h2
    omega
theorem invS_some {L : List Int} (h : invS L ≠ []) : L.length ≤ 60 ∧ ∃ O : List Nat, L = natI O ∧ O.Perm (List.range O.length) := by
  unfold invS at h
  by_cases hl : 60 < L.length
  · rw [if_pos hl] at h; exact absurd rfl h
  · rw [if_neg hl] at h
    obtain ⟨O, e, hn, ho⟩ := invGo_perm L.length L 0 _ _ (by simp) h
    have hlen : L.length = O.length := by rw [e]; simp [natI]
    exact ⟨by omega, O, e, perm_of_small _ O hn rfl (fun x hx => by have := (ho x hx).1; omega)⟩
theorem getD_memN (O : List Nat) (i : Nat) (hi : i < O.length) : O.getD i 0 ∈ O := by
  rw [List.getD_eq_getElem?_getD, List.getElem?_eq_getElem hi]; exact List.getElem_mem _
/-- The inverse of a permutation is one, and its inverse is the permutation. -/
theorem invS_twice (L : List Int) (h : invS L ≠ []) : invS (invS L) = L := by
  obtain ⟨h60, O, e, hp⟩ := invS_some h
  have hlen : L.length = O.length := by rw [e]; simp [natI]
  obtain ⟨hl, hi⟩ := invS_perm O hp (by omega)
  rw [← e] at hl hi
  have hr : ∀ x ∈ O, x < O.length := fun x hx => List.mem_range.1 (hp.mem_iff.1 hx)
  have hpl : ∀ j, j < O.length → ∃ i, i < O.length ∧ O.getD i 0 = j := by
    intro j hj
    have : j ∈ O := hp.mem_iff.2 (List.mem_range.2 hj)
    obtain ⟨i, hi, rfl⟩ := List.mem_iff_getElem.1 this
    exact ⟨i, hi, by simp [List.getD_eq_getElem?_getD, hi]⟩
  have hv : ∀ i, i < O.length → (invS L)[O.getD i 0]? = some (i : Int) := by
    intro i hi'
    have h1 := hi i hi'
    have hx := hr _ (getD_memN O i hi')
    rw [List.getD_eq_getElem?_getD, List.getElem?_eq_getElem (by omega)] at h1
    rw [List.getElem?_eq_getElem (by omega)]
    exact congrArg some h1
  obtain ⟨B, hB⟩ : ∃ B : List Nat, B = (invS L).map Int.toNat := ⟨_, rfl⟩
  have hBl : B.length = O.length := by rw [hB]; simpa using hl
  have hBi : ∀ i, i < O.length → B[O.getD i 0]? = some i := by
    intro i hi'
    rw [hB, List.getElem?_map, hv i hi']
    simp
  have eB : invS L = natI B := by
    apply List.ext_getElem?
    intro j
    by_cases hj : j < O.length
    · obtain ⟨i, hi1, rfl⟩ := hpl j hj
      rw [hv i hi1, natI, List.getElem?_map, hBi i hi1]
      rfl
    · rw [List.getElem?_eq_none (by omega), List.getElem?_eq_none (by simp [natI]; omega)]
  have hBn : B.Nodup := by
    rw [List.nodup_iff_pairwise_ne, List.pairwise_iff_getElem]
    intro i j hi1 hj1 hij he
    obtain ⟨a, ha, rfl⟩ := hpl i (by omega)
    obtain ⟨b, hb, rfl⟩ := hpl j (by omega)
    have h1 := hBi a ha
    have h2 := hBi b hb
    rw [List.getElem?_eq_getElem hi1] at h1
    rw [List.getElem?_eq_getElem hj1, ← he, h1] at h2
    injection h2 with h2
    subst h2
    omega
  have hBb : ∀ x ∈ B, x < B.length := by
    intro x hx
    obtain ⟨j, hj, rfl⟩ := List.mem_iff_getElem.1 hx
    obtain ⟨i, hi1, rfl⟩ := hpl j (by omega)
    have h1 := hBi i hi1
    rw [List.getElem?_eq_getElem hj] at h1
    injection h1 with h1
    omega
  obtain ⟨hl2, hi2⟩ := invS_perm B (perm_of_small _ B hBn rfl hBb) (by omega)
  rw [eB]
  refine getD_ext _ _ (by omega) (fun i hi' => ?_)
  have hii : i < O.length := by omega
  have hx := hr _ (getD_memN O i hii)
  have h1 := hi2 (O.getD i 0) (by omega)
  have h2 := hBi i hii
  rw [List.getD_eq_getElem?_getD (l := B), h2] at h1
  rw [show (some i).getD 0 = i from rfl] at h1
  rw [h1, e]
  simp [natI, List.getD_eq_getElem?_getD, hii]
end Go.Proofs.Ytbecdndeddkibaa
