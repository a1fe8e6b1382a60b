/- Inverse orders as plain lists. -/
import Derived.Test.YtbecdndeddkibaaSOrderOf
namespace Go.Proofs.Ytbecdndeddkibaa

def setAll : List Int → List Nat → Nat → List Int
  | M, [], _ => M
  | M, x :: r, p => setAll (M.set x (p : Int)) r (p + 1)
theorem setAll_len : ∀ (O : List Nat) (M : List Int) (p : Nat), (setAll M O p).length = M.length := by
  intro O
  induction O with
  | nil => intro M p; rfl
  | cons x r ih => intro M p; rw [setAll, ih]; simp
theorem setAll_other : ∀ (O : List Nat) (M : List Int) (p x : Nat), x ∉ O → (setAll M O p)[x]? = M[x]? := by
  intro O
  induction O with
  | nil => intro M p x _; rfl
  | cons y r ih =>
    intro M p x hx
    rw [setAll, ih _ _ _ (fun h => hx (List.mem_cons_of_mem _ h)), List.getElem?_set_ne (fun e => hx (by rw [← e]; exact List.mem_cons_self ..))]
theorem setAll_at : ∀ (O : List Nat) (M : List Int) (p i : Nat), O.Nodup → (∀ x ∈ O, x < M.length) → (hi : i < O.length) → (setAll M O p)[O[i]]? = some ((p + i : Nat) : Int) := by
  intro O
  induction O with
  | nil => intro M p i _ _ hi; simp at hi
  | cons y r ih =>
    intro M p i hn hr hi
    rw [List.nodup_cons] at hn
    cases i with
    | zero =>
      rw [List.getElem_cons_zero, setAll, setAll_other _ _ _ _ hn.1]
      simp [hr y (List.mem_cons_self ..)]
    | succ i =>
      rw [List.getElem_cons_succ, setAll]
      have := ih (M.set y (p : Int)) (p + 1) i hn.2 (fun x hx => by rw [List.length_set]; exact hr x (List.mem_cons_of_mem _ hx)) (by simpa using hi)
      rw [this]
      congr 2
      omega
theorem invGo_ok (n : Nat) : ∀ (O : List Nat) (p : Nat) (M : List Int) (S : List Bool), (∀ x ∈ O, x < n) → O.Nodup → (∀ x ∈ O, S.getD x false = false) → invGo n (natI O) p M S = setAll M O p := by
  intro O
  induction O with
  | nil => intro p M S _ _ _; rfl
  | cons y r ih =>
    intro p M S hr hn hs
    rw [List.nodup_cons] at hn
    have hy := hr y (List.mem_cons_self ..)
    show invGo n ((y : Int) :: natI r) p M S = _
    rw [invGo, if_pos ⟨by omega, by omega, by rw [Int.toNat_natCast]; exact hs y (List.mem_cons_self ..)⟩, Int.toNat_natCast, ih _ _ _ (fun x hx => hr x (List.mem_cons_of_mem _ hx)) hn.2, setAll]
    intro x hx
    have hxy : x ≠ y := fun e => hn.1 (by rw [← e]; exact hx)
    rw [List.getD_eq_getElem?_getD, List.getElem?_set_ne (fun e => hxy e.symm), ← List.getD_eq_getElem?_getD]
    exact hs x (List.mem_cons_of_mem _ hx)
/-- The inverse of a permutation. -/
theorem invS_perm (O : List Nat) (h : O.Perm (List.range O.length)) (h60 : O.length ≤ 60) : (invS (natI O)).length = O.length ∧ ∀ i, i < O.length → (invS (natI O)).getD (O.getD i 0) 0 = (i : Int) := by
  have hn : O.Nodup := h.symm.nodup List.nodup_range
  have hr : ∀ x ∈ O, x < O.length := fun x hx => List.mem_range.1 (h.mem_iff.1 hx)
  have hl : (natI O).length = O.length := by simp [natI]
  have e : invS (natI O) = setAll (List.replicate O.length 0) O 0 := by
    unfold invS
    rw [hl, if_neg (by omega), invGo_ok O.length O 0 _ _ hr hn]
    intro x hx
    simp [List.getD_eq_getElem?_getD, hr x hx]
  rw [e]
  refine ⟨by rw [setAll_len]; simp, fun i hi => ?_⟩
  have := setAll_at O (List.replicate O.length 0) 0 i hn (fun x hx => by simpa using hr x hx) hi
  rw [show O.getD i 0 = O[i] by simp [List.getD_eq_getElem?_getD, hi], List.getD_eq_getElem?_getD, this]
  simp
end Go.Proofs.Ytbecdndeddkibaa
