/- Figures on pages as plain lists: placing, checking, delays. -/
import Derived.Test.YtfiogefigjnaiaaInts
namespace Go.Proofs.Ytfiogefigjnaiaa

def fh (F : List (Int × Int)) (k : Nat) : Int := (F.getD k (0, 0)).1
def fp (F : List (Int × Int)) (k : Nat) : Int := (F.getD k (0, 0)).2
/-- The k-th figure is as it must be. -/
def okF1 (F : List (Int × Int)) (k : Nat) : Bool := decide (1 ≤ fh F k ∧ fh F k ≤ 1000) && decide (0 ≤ fp F k ∧ fp F k ≤ 11) && (decide (k = 0) || decide (fp F (k - 1) ≤ fp F k))
def okF (F : List (Int × Int)) : Bool := decide (F.length ≤ 10) && (List.range F.length).all (okF1 F)
theorem okF1_iff {F : List (Int × Int)} {k : Nat} : okF1 F k = true ↔ (1 ≤ fh F k ∧ fh F k ≤ 1000) ∧ (0 ≤ fp F k ∧ fp F k ≤ 11) ∧ (0 < k → fp F (k - 1) ≤ fp F k) := by
  unfold okF1
  rw [Bool.and_eq_true, Bool.and_eq_true, Bool.or_eq_true, decide_eq_true_eq, decide_eq_true_eq, decide_eq_true_eq, decide_eq_true_eq]
  constructor
  · rintro ⟨⟨a, b⟩, c⟩
    exact ⟨a, b, fun h => c.resolve_left (by omega)⟩
  · rintro ⟨a, b, c⟩
    refine ⟨⟨a, b⟩, ?_⟩
    rcases Nat.eq_zero_or_pos k with h | h
    · exact .inl h
    · exact .inr (c h)
theorem okF_at {F : List (Int × Int)} (h : okF F = true) : F.length ≤ 10 ∧ ∀ k, k < F.length → okF1 F k = true := by
  unfold okF at h
  rw [Bool.and_eq_true, decide_eq_true_eq, List.all_eq_true] at h
  exact ⟨h.1, fun k hk => h.2 k (List.mem_range.2 hk)⟩
theorem okF_of {F : List (Int × Int)} (h1 : F.length ≤ 10) (h : ∀ k, k < F.length → okF1 F k = true) : okF F = true := by
  unfold okF
  rw [Bool.and_eq_true, decide_eq_true_eq, List.all_eq_true]
  exact ⟨h1, fun k hk => h k (List.mem_range.1 hk)⟩
theorem okF_bad {F : List (Int × Int)} (k : Nat) (hk : k < F.length) (h : okF1 F k = false) : okF F = false := by
  cases h1 : okF F with
  | false => rfl
  | true => have := (okF_at h1).2 k hk; rw [h] at this; cases this
theorem okF_long {F : List (Int × Int)} (h : 10 < F.length) : okF F = false := by
  cases h1 : okF F with
  | false => rfl
  | true => have := (okF_at h1).1; omega
def okS (S : List Int) : Bool := decide (S.length ≤ 12) && S.all (fun x => decide (0 ≤ x ∧ x ≤ 10000))
theorem okS_at {L : List Int} (h : okS L = true) : L.length ≤ 12 ∧ ∀ k, k < L.length → 0 ≤ L.getD k 0 ∧ L.getD k 0 ≤ 10000 := by
  unfold okS at h
  rw [Bool.and_eq_true, decide_eq_true_eq, List.all_eq_true] at h
  refine ⟨h.1, fun k hk => ?_⟩
  have := h.2 (L.getD k 0) (getD_mem L k hk)
  simpa using this
theorem okS_of {L : List Int} (h1 : L.length ≤ 12) (h : ∀ k, k < L.length → 0 ≤ L.getD k 0 ∧ L.getD k 0 ≤ 10000) : okS L = true := by
  unfold okS
  rw [Bool.and_eq_true, decide_eq_true_eq, List.all_eq_true]
  refine ⟨h1, fun x hx => ?_⟩
  obtain ⟨i, hi, rfl⟩ := List.mem_iff_getElem.1 hx
  have := h i hi
  simpa [List.getD_eq_getElem?_getD, hi] using this
theorem okS_bad {L : List Int} (k : Nat) (hk : k < L.length) (h : ¬ (0 ≤ L.getD k 0 ∧ L.getD k 0 ≤ 10000)) : okS L = false := by
  cases h1 : okS L with
  | false => rfl
  | true => exact absurd ((okS_at h1).2 k hk) h
theorem okS_long {L : List Int} (h : 12 < L.length) : okS L = false := by
  cases h1 : okS L with
  | false => rfl
  | true => have := (okS_at h1).1; omega

theorem getD_set_eq (l : List Int) (i : Nat) (v : Int) (h : i < l.length) : (l.set i v).getD i 0 = v := by
  rw [List.getD_eq_getElem?_getD, List.getElem?_set_self h]; rfl
theorem getD_set_ne (l : List Int) (i j : Nat) (v : Int) (h : i ≠ j) : (l.set i v).getD j 0 = l.getD j 0 := by
  rw [List.getD_eq_getElem?_getD, List.getElem?_set_ne h, ← List.getD_eq_getElem?_getD]
/-- The first page from pg on with room for h, or the number of pages. -/
def findP (l : List Int) (h : Int) : Nat → Nat → Nat
  | 0, pg => pg
  | f + 1, pg => if pg < l.length ∧ l.getD pg 0 < h then findP l h f (pg + 1) else pg
theorem findP_spec (l : List Int) (h : Int) : ∀ f pg, l.length ≤ pg + f → pg ≤ findP l h f pg ∧ (∀ j, pg ≤ j → j < findP l h f pg → j < l.length ∧ l.getD j 0 < h) ∧ ¬ (findP l h f pg < l.length ∧ l.getD (findP l h f pg) 0 < h) := by
  intro f
  induction f with
  | zero => intro pg hf; rw [findP]; exact ⟨Nat.le_refl _, fun j h1 h2 => by omega, fun h => by omega⟩
  | succ f ih =>
    intro pg hf
    rw [findP]
    split
    · rename_i hc
      obtain ⟨i1, i2, i3⟩ := ih (pg + 1) (by omega)
      refine ⟨by omega, fun j h1 h2 => ?_, i3⟩
      by_cases e : j = pg
      · subst e; exact hc
      · exact i2 j (by omega) h2
    · rename_i hc
      exact ⟨Nat.le_refl _, fun j h1 h2 => by omega, hc⟩
def nextP (l : List Int) (h : Int) (pg : Nat) : Nat := findP l h l.length pg
theorem nextP_uniq (l : List Int) (h : Int) (pg r : Nat) (h1 : pg ≤ r) (h2 : ∀ j, pg ≤ j → j < r → j < l.length ∧ l.getD j 0 < h) (h3 : ¬ (r < l.length ∧ l.getD r 0 < h)) : nextP l h pg = r := by
  obtain ⟨i1, i2, i3⟩ := findP_spec l h l.length pg (by omega)
  unfold nextP
  rcases Nat.lt_trichotomy (findP l h l.length pg) r with e | e | e
  · exact absurd (h2 _ i1 e) i3
  · exact e
  · exact absurd (i2 _ h1 e) h3
theorem nextP_le (l : List Int) (h : Int) (pg q : Nat) (h1 : pg ≤ q) (_h2 : q < l.length) (h3 : h ≤ l.getD q 0) : nextP l h pg ≤ q := by
  obtain ⟨i1, i2, i3⟩ := findP_spec l h l.length pg (by omega)
  unfold nextP
  rcases Nat.lt_or_ge q (findP l h l.length pg) with e | e
  · have := (i2 q h1 e).2; omega
  · exact e
theorem nextP_fit (l : List Int) (h : Int) (pg : Nat) (hr : nextP l h pg < l.length) : pg ≤ nextP l h pg ∧ h ≤ l.getD (nextP l h pg) 0 := by
  obtain ⟨i1, i2, i3⟩ := findP_spec l h l.length pg (by omega)
  unfold nextP at hr ⊢
  refine ⟨i1, ?_⟩
  by_cases h : l.getD (findP l h l.length pg) 0 < h
  · exact absurd ⟨hr, h⟩ i3
  · omega

/-- Placing the first k figures: the room that is left, the page of the last one, the pages. -/
def plS (F : List (Int × Int)) (S : List Int) : Nat → Option (List Int × Nat × List Int)
  | 0 => some (S, 0, [])
  | k + 1 => match plS F S k with
    | none => none
    | some (l, pg, out) =>
      if nextP l (fh F k) (max pg (fp F k).toNat) < l.length then
        some (l.set (nextP l (fh F k) (max pg (fp F k).toNat)) (l.getD (nextP l (fh F k) (max pg (fp F k).toNat)) 0 - fh F k), nextP l (fh F k) (max pg (fp F k).toNat), out ++ [((nextP l (fh F k) (max pg (fp F k).toNat) : Nat) : Int)])
      else none
def placeS (F : List (Int × Int)) (S : List Int) : Option (List Int) := if okF F && okS S then (plS F S F.length).map (fun t => t.2.2) else none
theorem plS_none (F : List (Int × Int)) (S : List Int) (k : Nat) (h : plS F S k = none) : ∀ m, k ≤ m → plS F S m = none := by
  intro m
  induction m with
  | zero => intro hk; obtain rfl : k = 0 := by omega
            exact h
  | succ m ih =>
    intro hk
    by_cases e : k = m + 1
    · subst e; exact h
    · rw [plS, ih (by omega)]
def prevP (P : List Int) (k : Nat) : Int := if k = 0 then 0 else P.getD (k - 1) 0
/-- Checking the first k pages: the room that is left. -/
def chS (F : List (Int × Int)) (S P : List Int) : Nat → Option (List Int)
  | 0 => some S
  | k + 1 => match chS F S P k with
    | none => none
    | some l => if fp F k ≤ P.getD k 0 ∧ prevP P k ≤ P.getD k 0 ∧ P.getD k 0 ≤ (S.length : Int) - 1 ∧ fh F k ≤ l.getD (P.getD k 0).toNat 0 then some (l.set (P.getD k 0).toNat (l.getD (P.getD k 0).toNat 0 - fh F k)) else none
theorem chS_none (F : List (Int × Int)) (S P : List Int) (k : Nat) (h : chS F S P k = none) : ∀ m, k ≤ m → chS F S P m = none := by
  intro m
  induction m with
  | zero => intro hk; obtain rfl : k = 0 := by omega
            exact h
  | succ m ih =>
    intro hk
    by_cases e : k = m + 1
    · subst e; exact h
    · rw [chS, ih (by omega)]
def checkS (F : List (Int × Int)) (S P : List Int) : Bool := okF F && okS S && decide (P.length = F.length) && (chS F S P F.length).isSome
def dl (F : List (Int × Int)) (P : List Int) : Nat → Int
  | 0 => 0
  | k + 1 => dl F P k + (P.getD k 0 - fp F k)
def delayS (F : List (Int × Int)) (S P : List Int) : Int := if checkS F S P then dl F P F.length else -1

/-- The room that is left stays between 0 and 10000, as many pages as there were. -/
theorem chS_room {F : List (Int × Int)} {S P : List Int} (hF : okF F = true) (hS : okS S = true) : ∀ k, k ≤ F.length → ∀ l, chS F S P k = some l → l.length = S.length ∧ ∀ j, j < l.length → 0 ≤ l.getD j 0 ∧ l.getD j 0 ≤ 10000 := by
  intro k
  induction k with
  | zero => intro _ l h; rw [chS] at h; injection h with h; subst h; exact ⟨rfl, (okS_at hS).2⟩
  | succ k ih =>
    intro hk l h
    rw [chS] at h
    cases hc : chS F S P k with
    | none => rw [hc] at h; cases h
    | some l0 =>
      rw [hc] at h
      obtain ⟨i1, i2⟩ := ih (by omega) l0 hc
      have f := okF1_iff.1 ((okF_at hF).2 k (by omega))
      simp only at h
      split at h
      · rename_i hcond
        injection h with h
        subst h
        refine ⟨by simpa using i1, fun j hj => ?_⟩
        rw [List.length_set] at hj
        by_cases e : (P.getD k 0).toNat = j
        · subst e
          rw [List.getD_eq_getElem?_getD, List.getElem?_set_self hj]
          have := i2 _ hj
          simp only [Option.getD_some]
          omega
        · rw [List.getD_eq_getElem?_getD, List.getElem?_set_ne e, ← List.getD_eq_getElem?_getD]
          exact i2 j hj
      · cases h
theorem plS_room {F : List (Int × Int)} {S : List Int} (hF : okF F = true) (hS : okS S = true) : ∀ k, k ≤ F.length → ∀ l pg out, plS F S k = some (l, pg, out) → l.length = S.length ∧ (∀ j, j < l.length → 0 ≤ l.getD j 0 ∧ l.getD j 0 ≤ 10000) ∧ out.length = k ∧ pg ≤ 12 ∧ prevP out k = pg := by
  intro k
  induction k with
  | zero => intro _ l pg out h; rw [plS] at h; injection h with h; injection h with h1 h2; injection h2 with h2 h3; subst h1 h2 h3; exact ⟨rfl, (okS_at hS).2, rfl, by omega, rfl⟩
  | succ k ih =>
    intro hk l pg out h
    rw [plS] at h
    cases hc : plS F S k with
    | none => rw [hc] at h; cases h
    | some t =>
      obtain ⟨l0, pg0, out0⟩ := t
      rw [hc] at h
      obtain ⟨i1, i2, i3, i4, _⟩ := ih (by omega) l0 pg0 out0 hc
      have f := okF1_iff.1 ((okF_at hF).2 k (by omega))
      have hl := (okS_at hS).1
      simp only at h
      split at h
      · rename_i hcond
        have hfit := (nextP_fit _ _ _ hcond).2
        generalize nextP l0 (fh F k) (max pg0 (fp F k).toNat) = r at *
        injection h with h; injection h with h1 h2; injection h2 with h2 h3
        subst h1 h2 h3
        refine ⟨by simpa using i1, fun j hj => ?_, by simp [i3], by omega, ?_⟩
        · rw [List.length_set] at hj
          by_cases e : r = j
          · subst e
            rw [List.getD_eq_getElem?_getD, List.getElem?_set_self hj]
            have := i2 _ hj
            simp only [Option.getD_some]
            omega
          · rw [List.getD_eq_getElem?_getD, List.getElem?_set_ne e, ← List.getD_eq_getElem?_getD]
            exact i2 j hj
        · unfold prevP
          rw [if_neg (by omega)]
          simp [List.getD_eq_getElem?_getD, ← i3]
      · cases h
theorem getD_pre (A B : List Int) (k : Nat) (h : k < A.length) : (A ++ B).getD k 0 = A.getD k 0 := by
  rw [List.getD_eq_getElem?_getD, List.getElem?_append_left h, List.getD_eq_getElem?_getD]
theorem prevP_pre (A B : List Int) (k : Nat) (h : k ≤ A.length) : prevP (A ++ B) k = prevP A k := by
  unfold prevP
  split
  · rfl
  · rw [getD_pre _ _ _ (by omega)]
theorem chS_pre (F : List (Int × Int)) (S A B : List Int) : ∀ k, k ≤ A.length → chS F S (A ++ B) k = chS F S A k := by
  intro k
  induction k with
  | zero => intro _; rfl
  | succ k ih =>
    intro hk
    rw [chS, chS, ih (by omega), getD_pre _ _ _ (by omega), prevP_pre _ _ _ (by omega)]
/-- Placed figures are accepted. -/
theorem place_ok {F : List (Int × Int)} {S : List Int} (hF : okF F = true) (hS : okS S = true) : ∀ k, k ≤ F.length → ∀ l pg out, plS F S k = some (l, pg, out) → chS F S out k = some l := by
  intro k
  induction k with
  | zero => intro _ l pg out h; rw [plS] at h; injection h with h; injection h with h1 h2; subst h1; rfl
  | succ k ih =>
    intro hk l pg out h
    rw [plS] at h
    cases hc : plS F S k with
    | none => rw [hc] at h; cases h
    | some t =>
      obtain ⟨l0, pg0, out0⟩ := t
      rw [hc] at h
      have hi := ih (by omega) l0 pg0 out0 hc
      obtain ⟨i1, i2, i3, i4, i5⟩ := plS_room hF hS k (by omega) l0 pg0 out0 hc
      have f := okF1_iff.1 ((okF_at hF).2 k (by omega))
      simp only at h
      split at h
      · rename_i hcond
        obtain ⟨hge, hfit⟩ := nextP_fit _ _ _ hcond
        generalize nextP l0 (fh F k) (max pg0 (fp F k).toNat) = r at *
        injection h with h; injection h with h1 h2; injection h2 with h2 h3
        subst h1 h2 h3
        have hg : (out0 ++ [(r : Int)]).getD k 0 = r := by simp [List.getD_eq_getElem?_getD, ← i3]
        rw [chS, chS_pre _ _ _ _ _ (by omega), hi, hg, prevP_pre _ _ _ (by omega), i5]
        simp only [Int.toNat_natCast]
        rw [if_pos ⟨by omega, by omega, by omega, hfit⟩]
      · cases h
/-- No accepted pages are earlier than the placed ones. -/
theorem place_first {F : List (Int × Int)} {S P : List Int} (hF : okF F = true) (hS : okS S = true) : ∀ k, k ≤ F.length → ∀ l, chS F S P k = some l →
    ∃ g pg out, plS F S k = some (g, pg, out) ∧ (pg : Int) ≤ prevP P k ∧ (∀ j : Nat, prevP P k ≤ j → j < S.length → l.getD j 0 ≤ g.getD j 0) ∧ ∀ j, j < k → out.getD j 0 ≤ P.getD j 0 := by
  intro k
  induction k with
  | zero => intro _ l h; rw [chS] at h; injection h with h; subst h; exact ⟨S, 0, [], rfl, by simp [prevP], fun j _ _ => Int.le_refl _, fun j hj => by omega⟩
  | succ k ih =>
    intro hk l h
    rw [chS] at h
    cases hc : chS F S P k with
    | none => rw [hc] at h; cases h
    | some l0 =>
      rw [hc] at h
      obtain ⟨g, pg, out, e, i1, i2, i3⟩ := ih (by omega) l0 hc
      obtain ⟨r1, r2, r3, r4, r5⟩ := plS_room hF hS k (by omega) g pg out e
      obtain ⟨q1, q2⟩ := chS_room hF hS k (by omega) l0 hc
      have f := okF1_iff.1 ((okF_at hF).2 k (by omega))
      simp only at h
      split at h
      · rename_i hcond
        obtain ⟨c1, c2, c3, c4⟩ := hcond
        injection h with h
        subst h
        obtain ⟨p, hp⟩ := Int.eq_ofNat_of_zero_le (show 0 ≤ P.getD k 0 by omega)
        rw [hp] at c1 c2 c3 c4 ⊢
        rw [Int.toNat_natCast] at c4 ⊢
        have hpl : p < S.length := by omega
        have hgp := i2 p c2 hpl
        have hle := nextP_le g (fh F k) (max pg (fp F k).toNat) p (by omega) (by omega) (by omega)
        have hlt : nextP g (fh F k) (max pg (fp F k).toNat) < g.length := by omega
        rw [plS, e]
        simp only
        rw [if_pos hlt]
        generalize nextP g (fh F k) (max pg (fp F k).toNat) = r at *
        refine ⟨_, _, _, rfl, by unfold prevP; rw [if_neg (by omega), Nat.add_sub_cancel, hp]; omega, fun j hj hjl => ?_, fun j hj => ?_⟩
        · unfold prevP at hj
          rw [if_neg (by omega), Nat.add_sub_cancel, hp] at hj
          have hjp : p ≤ j := by omega
          have hgl := i2 j (by omega) hjl
          by_cases e1 : p = j
          · subst e1
            rw [getD_set_eq _ _ _ (by omega)]
            by_cases e2 : r = p
            · subst e2
              rw [getD_set_eq _ _ _ (by omega)]
              omega
            · rw [getD_set_ne _ _ _ _ e2]
              omega
          · rw [getD_set_ne _ _ _ _ e1, getD_set_ne _ _ _ _ (by omega)]
            exact hgl
        · by_cases e1 : j = k
          · subst e1
            rw [show (out ++ [(r : Int)]).getD j 0 = r by simp [List.getD_eq_getElem?_getD, ← r3], hp]
            omega
          · rw [getD_pre _ _ _ (by omega)]
            exact i3 j (by omega)
      · cases h
theorem dl_le {F : List (Int × Int)} {A B : List Int} : ∀ k, (∀ j, j < k → A.getD j 0 ≤ B.getD j 0) → dl F A k ≤ dl F B k := by
  intro k
  induction k with
  | zero => intro _; exact Int.le_refl _
  | succ k ih => intro h; have := ih (fun j hj => h j (by omega)); have := h k (by omega); rw [dl, dl]; omega
theorem dl_bd {F : List (Int × Int)} {S P : List Int} (hF : okF F = true) (hS : okS S = true) : ∀ k, k ≤ F.length → ∀ l, chS F S P k = some l → (∀ j, j < k → 0 ≤ P.getD j 0 ∧ P.getD j 0 ≤ 11 ∧ fp F j ≤ P.getD j 0) ∧ 0 ≤ dl F P k ∧ dl F P k ≤ k * 11 := by
  intro k
  induction k with
  | zero => intro _ l _; exact ⟨fun j hj => by omega, by simp [dl], by simp [dl]⟩
  | succ k ih =>
    intro hk l h
    rw [chS] at h
    cases hc : chS F S P k with
    | none => rw [hc] at h; cases h
    | some l0 =>
      rw [hc] at h
      obtain ⟨i1, i2, i3⟩ := ih (by omega) l0 hc
      have f := okF1_iff.1 ((okF_at hF).2 k (by omega))
      have hl := (okS_at hS).1
      simp only at h
      split at h
      · rename_i hcond
        refine ⟨fun j hj => ?_, by rw [dl]; omega, by rw [dl]; omega⟩
        by_cases e : j = k
        · subst e; omega
        · exact i1 j (by omega)
      · cases h
end Go.Proofs.Ytfiogefigjnaiaa
