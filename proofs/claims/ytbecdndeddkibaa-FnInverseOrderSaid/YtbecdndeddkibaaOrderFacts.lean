/- Orders of levels that are all alike, and of levels one higher. -/
import Derived.Test.YtbecdndeddkibaaInvPlain
namespace Go.Proofs.Ytbecdndeddkibaa

theorem okL_rep (n : Nat) (c : Int) (hn : n ≤ 60) (h0 : 0 ≤ c) (h6 : c ≤ 6) : okL (List.replicate n c) = true := by
  refine okL_good _ (by simpa using hn) (fun k hk => ?_)
  rw [List.length_replicate] at hk
  simp [List.getD_eq_getElem?_getD, hk, h0, h6]
theorem topOf_rep (c : Int) : ∀ n, topOf (List.replicate (n + 1) c) = c.toNat := by
  intro n
  induction n with
  | zero => simp [topOf]
  | succ n ih =>
    rw [List.replicate_succ', topOf_snoc, ih]
    exact Nat.max_self _
theorem ordS_zeros (n : Nat) (hn : n ≤ 60) : ordS (List.replicate n 0) = List.range n := by
  have ht : topOf (List.replicate n (0 : Int)) = 0 := by
    cases n with
    | zero => rfl
    | succ n => rw [topOf_rep]; rfl
  unfold ordS
  rw [if_pos (okL_rep n 0 hn (by omega) (by omega)), ht, List.length_replicate]
  rfl
theorem pass_all (L : List Int) (lv : Nat) (O : List Nat) (h : ∀ x ∈ O, (lv : Int) ≤ L.getD x 0) : pass L lv O = O.reverse := by
  have := passGo_run (atLeast L (lv : Int)) [] (fun x r e => by cases e) O [] (fun x hx => by unfold atLeast; simpa using h x hx)
  rw [List.append_nil] at this
  unfold pass
  rw [this]
  simp [passGo]
theorem ordS_ones (n : Nat) (hn : n ≤ 60) : ordS (List.replicate n 1) = (List.range n).reverse := by
  cases n with
  | zero => rfl
  | succ n =>
    unfold ordS
    rw [if_pos (okL_rep (n + 1) 1 hn (by omega) (by omega)), topOf_rep, List.length_replicate]
    show passes _ 1 _ = _
    rw [passes, passes]
    refine pass_all _ _ _ (fun x hx => ?_)
    have := List.mem_range.1 hx
    simp [List.getD_eq_getElem?_getD, this]

/-- Levels one higher: the same passes, and one more over the whole. -/
def upL (L : List Int) : List Int := L.map (· + 1)
theorem atLeast_up (L : List Int) (lv : Int) (x : Nat) (h : x < L.length) : atLeast (upL L) (lv + 1) x = atLeast L lv x := by
  unfold atLeast upL
  simp only [List.getD_eq_getElem?_getD, List.getElem?_map]
  rw [List.getElem?_eq_getElem h]
  simp
theorem passGo_congr (p q : Nat → Bool) : ∀ (O acc : List Nat), (∀ x ∈ O, p x = q x) → passGo p O acc = passGo q O acc := by
  intro O
  induction O with
  | nil => intro acc _; rfl
  | cons x O ih =>
    intro acc h
    rw [passGo, passGo, h x (List.mem_cons_self ..), ih _ (fun y hy => h y (List.mem_cons_of_mem _ hy)), ih _ (fun y hy => h y (List.mem_cons_of_mem _ hy))]
theorem passes_up (L : List Int) : ∀ (lv : Nat) (O : List Nat), (∀ x ∈ O, x < L.length) → (∀ x, x < L.length → 0 ≤ L.getD x 0) → passes (upL L) (lv + 1) O = (passes L lv O).reverse := by
  intro lv
  induction lv with
  | zero =>
    intro O hO h0
    rw [passes, passes, passes]
    refine pass_all _ _ _ (fun x hx => ?_)
    have hx' := hO x hx
    have := h0 x hx'
    unfold upL
    rw [List.getD_eq_getElem?_getD, List.getElem?_map, List.getElem?_eq_getElem hx']
    rw [List.getD_eq_getElem?_getD, List.getElem?_eq_getElem hx'] at this
    simp at this ⊢
    omega
  | succ lv ih =>
    intro O hO h0
    have e : pass (upL L) (lv + 1 + 1) O = pass L (lv + 1) O := by
      unfold pass
      refine passGo_congr _ _ _ _ (fun x hx => ?_)
      have := atLeast_up L ((lv + 1 : Nat) : Int) x (hO x hx)
      rw [← this]
      congr 1
    rw [passes, e, ih]
    · rfl
    · intro x hx
      have hp := passGo_perm (atLeast L ((lv + 1 : Nat) : Int)) O []
      exact hO x (by simpa using hp.mem_iff.1 hx)
    · exact h0
end Go.Proofs.Ytbecdndeddkibaa
