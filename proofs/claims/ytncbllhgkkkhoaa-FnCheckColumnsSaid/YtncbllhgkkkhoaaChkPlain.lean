/- Divided lists as plain lists: valid ends, the largest sum of a part, and what they say of filled columns. -/
import Derived.Test.YtncbllhgkkkhoaaBalS
namespace Go.Proofs.Ytncbllhgkkkhoaa

def frm (E : List Int) (k : Nat) : Int := if k = 0 then 0 else E.getD (k - 1) 0
theorem frm_zero (E : List Int) : frm E 0 = 0 := rfl
theorem frm_succ (E : List Int) (k : Nat) : frm E (k + 1) = E.getD k 0 := rfl
def vE (E : List Int) (n : Nat) : Bool := (List.range E.length).all (fun j => decide (frm E j < E.getD j 0 ∧ E.getD j 0 ≤ n)) && decide (frm E E.length = n)
theorem vE_at {E : List Int} {n : Nat} (h : vE E n = true) : (∀ j, j < E.length → frm E j < E.getD j 0 ∧ E.getD j 0 ≤ n) ∧ frm E E.length = n := by
  unfold vE at h
  rw [Bool.and_eq_true, decide_eq_true_eq, List.all_eq_true] at h
  exact ⟨fun j hj => by simpa using h.1 j (List.mem_range.2 hj), h.2⟩
theorem vE_of {E : List Int} {n : Nat} (h1 : ∀ j, j < E.length → frm E j < E.getD j 0 ∧ E.getD j 0 ≤ n) (h2 : frm E E.length = n) : vE E n = true := by
  unfold vE
  rw [Bool.and_eq_true, decide_eq_true_eq, List.all_eq_true]
  exact ⟨fun j hj => by simpa using h1 j (List.mem_range.1 hj), h2⟩
theorem vE_bad {E : List Int} {n : Nat} (j : Nat) (hj : j < E.length) (h : ¬ (frm E j < E.getD j 0 ∧ E.getD j 0 ≤ n)) : vE E n = false := by
  cases h1 : vE E n with
  | false => rfl
  | true => exact absurd ((vE_at h1).1 j hj) h
theorem vE_end {E : List Int} {n : Nat} (h : ¬ frm E E.length = n) : vE E n = false := by
  cases h1 : vE E n with
  | false => rfl
  | true => exact absurd (vE_at h1).2 h
def seg (L E : List Int) (k : Nat) : Int := sumTo L (E.getD k 0).toNat - sumTo L (frm E k).toNat
def colMax (L E : List Int) : Nat → Int
  | 0 => 0
  | k + 1 => max (colMax L E k) (seg L E k)
theorem colMax_le {L E : List Int} {M : Int} (h0 : 0 ≤ M) : ∀ k, (∀ j, j < k → seg L E j ≤ M) → colMax L E k ≤ M := by
  intro k
  induction k with
  | zero => intro _; exact h0
  | succ k ih =>
    intro h
    have h1 := ih (fun j hj => h j (by omega))
    have h2 := h k (by omega)
    rw [colMax]; omega
theorem colMax_ge {L E : List Int} : ∀ k, 0 ≤ colMax L E k ∧ ∀ j, j < k → seg L E j ≤ colMax L E k := by
  intro k
  induction k with
  | zero => exact ⟨Int.le_refl _, fun j hj => by omega⟩
  | succ k ih =>
    rw [colMax]
    refine ⟨by omega, fun j hj => ?_⟩
    by_cases e : j = k
    · subst e; omega
    · have := ih.2 j (by omega); omega
theorem frm_bd {E : List Int} {n : Nat} (h : ∀ j, j < E.length → frm E j < E.getD j 0 ∧ E.getD j 0 ≤ n) : ∀ k, k ≤ E.length → 0 ≤ frm E k ∧ frm E k ≤ n ∧ (k : Int) ≤ frm E k := by
  intro k
  induction k with
  | zero => intro _; rw [frm_zero]; omega
  | succ k ih =>
    intro hk
    have h1 := ih (by omega)
    have h2 := h k (by omega)
    rw [frm_succ]; omega
/-- What valid parts of at most M say. -/
theorem parts_say {L E : List Int} (hL : okH L = true) (hE : ∀ j, j < E.length → frm E j < E.getD j 0 ∧ E.getD j 0 ≤ L.length) (M : Int) (hM : ∀ j, j < E.length → seg L E j ≤ M) :
    ∀ k, k ≤ E.length → sumTo L (frm E k).toNat ≤ k * M ∧ (∀ j : Nat, (j : Int) < frm E k → L.getD j 0 ≤ M) ∧ cnt M L (frm E k).toNat ≤ k := by
  have hx := (okH_at hL).2
  have hmono := sumTo_mono (L := L) (n := L.length) (fun k hk => (hx k hk).1)
  intro k
  induction k with
  | zero => intro _; rw [frm_zero]; exact ⟨by simp [sumTo], fun j hj => by omega, Nat.le_refl _⟩
  | succ k ih =>
    intro hk
    obtain ⟨i1, i2, i3⟩ := ih (by omega)
    obtain ⟨b1, b2, _⟩ := frm_bd hE k (by omega)
    obtain ⟨e1, e2⟩ := hE k (by omega)
    have hs := hM k (by omega)
    unfold seg at hs
    rw [frm_succ]
    obtain ⟨f, hf⟩ := Int.eq_ofNat_of_zero_le b1
    obtain ⟨t, ht⟩ := Int.eq_ofNat_of_zero_le (show 0 ≤ E.getD k 0 by omega)
    rw [hf] at i1 i2 i3 hs e1
    rw [ht] at hs e1 e2 ⊢
    simp only [Int.toNat_natCast] at i1 i3 hs ⊢
    have hpart : ∀ j, f ≤ j → j < t → L.getD j 0 ≤ M := by
      intro j hj hjt
      have m1 := hmono (j + 1) t (by omega) (by omega)
      have m2 := hmono f j (by omega) (by omega)
      have m3 : sumTo L (j + 1) = sumTo L j + L.getD j 0 := rfl
      omega
    refine ⟨?_, fun j hj => ?_, ?_⟩
    · rw [show ((k + 1 : Nat) : Int) * M = k * M + M by rw [Int.natCast_add, Int.add_mul]; simp]
      omega
    · by_cases h : (j : Int) < f
      · exact i2 j h
      · exact hpart j (by omega) (by omega)
    · have key : ∀ j, f ≤ j → j ≤ t → cnt M L j ≤ k ∨ (cnt M L j = k + 1 ∧ M - (sumTo L j - sumTo L f) ≤ room M L j) := by
        intro j hj
        induction j with
        | zero =>
          intro _
          left
          rw [cnt_zero]; omega
        | succ j ihj =>
          intro hjt
          by_cases e : f = j + 1
          · left; rw [← e]; exact i3
          · have x1 := hpart j (by omega) (by omega)
            have m1 := hmono (j + 1) t (by omega) (by omega)
            have m2 := hmono f j (by omega) (by omega)
            have m3 : sumTo L (j + 1) = sumTo L j + L.getD j 0 := rfl
            rw [cnt_succ, room_succ]
            rcases ihj (by omega) (by omega) with h | ⟨h1, h2⟩
            · split <;> omega
            · rw [if_neg (by omega), if_neg (by omega)]
              right
              exact ⟨h1, by omega⟩
      rcases key t (by omega) (Nat.le_refl _) with h | h <;> omega
/-- No divided list with few parts is lower than the balanced height. -/
theorem parts_bal {L E : List Int} {c : Nat} (hL : okH L = true) (hE : vE E L.length = true) (hc : E.length ≤ c) : (balN L c : Int) ≤ colMax L E E.length := by
  obtain ⟨h1, h2⟩ := vE_at hE
  obtain ⟨g0, g1⟩ := colMax_ge (L := L) (E := E) E.length
  obtain ⟨_, p2, p3⟩ := parts_say hL h1 _ g1 E.length (Nat.le_refl _)
  rw [h2] at p2 p3
  obtain ⟨m, hm⟩ := Int.eq_ofNat_of_zero_le g0
  rw [hm] at p2 p3 ⊢
  have hg : goodH L c m = true := by
    unfold goodH
    rw [Bool.and_eq_true, decide_eq_true_eq]
    exact ⟨fitB_of (fun k hk => p2 k (by omega)), by rw [Int.toNat_natCast] at p3; omega⟩
  have := balN_le hg
  omega
theorem getD_snoc (E : List Int) (y : Int) (j : Nat) (hj : j < E.length) : (E ++ [y]).getD j 0 = E.getD j 0 := by
  rw [List.getD_eq_getElem?_getD, List.getElem?_append_left hj, List.getD_eq_getElem?_getD]
theorem getD_last (E : List Int) (y : Int) : (E ++ [y]).getD E.length 0 = y := by
  simp [List.getD_eq_getElem?_getD]
theorem frm_snoc (E : List Int) (y : Int) (j : Nat) (hj : j ≤ E.length) : frm (E ++ [y]) j = frm E j := by
  cases j with
  | zero => rfl
  | succ j => rw [frm_succ, frm_succ, getD_snoc _ _ _ (by omega)]
theorem seg_snoc (L E : List Int) (y : Int) (j : Nat) (hj : j < E.length) : seg L (E ++ [y]) j = seg L E j := by
  unfold seg; rw [getD_snoc _ _ _ hj, frm_snoc _ _ _ (by omega)]
theorem seg_last (L E : List Int) (y : Int) : seg L (E ++ [y]) E.length = sumTo L y.toNat - sumTo L (frm E E.length).toNat := by
  unfold seg; rw [getD_last, frm_snoc _ _ _ (Nat.le_refl _)]
/-- Filled columns are valid parts, none higher than h. -/
theorem fill_parts {L : List Int} {h : Int} (hx : ∀ k, k < L.length → 1 ≤ L.getD k 0 ∧ L.getD k 0 ≤ h) (h0 : 0 ≤ h) :
    ∀ k, 0 < k → k ≤ L.length → (∀ j, j < (tl h L k).length → frm (tl h L k) j < (tl h L k).getD j 0 ∧ (tl h L k).getD j 0 ≤ k ∧ seg L (tl h L k) j ≤ h) ∧
      frm (tl h L k) (tl h L k).length < k ∧ 0 ≤ frm (tl h L k) (tl h L k).length ∧ sumTo L k - sumTo L (frm (tl h L k) (tl h L k).length).toNat = h - room h L k := by
  intro k
  induction k with
  | zero => intro h; omega
  | succ k ih =>
    intro _ hk
    by_cases hk0 : k = 0
    · subst hk0
      have x := hx 0 (by omega)
      rw [tl_one]
      refine ⟨fun j hj => by simp at hj, by simp [frm], by simp [frm], ?_⟩
      rw [room_succ, room_zero, if_pos (by omega)]
      simp [frm, sumTo]
      omega
    · obtain ⟨i1, i2, i3, i4⟩ := ih (by omega) (by omega)
      have x := hx k (by omega)
      have b := room_bd h L L.length h0 hx k (by omega)
      have hs : sumTo L (k + 1) = sumTo L k + L.getD k 0 := rfl
      rw [tl_succ h L k (b.2.2.2.1 (by omega)), room_succ]
      by_cases hr : room h L k < L.getD k 0
      · rw [if_pos hr, if_pos hr]
        have hl : (tl h L k ++ [(k : Int)]).length = (tl h L k).length + 1 := by simp
        have hf : frm (tl h L k ++ [(k : Int)]) (tl h L k ++ [(k : Int)]).length = k := by rw [hl, frm_succ, getD_last]
        rw [hf]
        refine ⟨fun j hj => ?_, by omega, by omega, by rw [Int.toNat_natCast]; omega⟩
        by_cases hj2 : j < (tl h L k).length
        · have := i1 j hj2
          rw [getD_snoc _ _ _ hj2, frm_snoc _ _ _ (by omega), seg_snoc _ _ _ _ hj2]
          omega
        · obtain rfl : j = (tl h L k).length := by omega
          rw [getD_last, frm_snoc _ _ _ (Nat.le_refl _), seg_last, Int.toNat_natCast]
          omega
      · rw [if_neg hr, if_neg hr]
        refine ⟨fun j hj => ?_, by omega, i3, by omega⟩
        have := i1 j hj
        omega
theorem endsF_parts {L : List Int} {h : Int} (hL : okH L = true) (h0 : 0 ≤ h) (hf : fitB h L = true) : vE (endsF h L) L.length = true ∧ ∀ j, j < (endsF h L).length → seg L (endsF h L) j ≤ h := by
  have hx : ∀ k, k < L.length → 1 ≤ L.getD k 0 ∧ L.getD k 0 ≤ h := fun k hk => ⟨((okH_at hL).2 k hk).1, fitB_at hf k hk⟩
  by_cases hn : L.length = 0
  · unfold endsF
    rw [if_pos hn]
    exact ⟨vE_of (fun j hj => by simp at hj) (by rw [hn]; rfl), fun j hj => by simp at hj⟩
  · have e : endsF h L = tl h L L.length ++ [(L.length : Int)] := by unfold endsF; rw [if_neg hn]; rfl
    obtain ⟨i1, i2, i3, i4⟩ := fill_parts hx h0 L.length (by omega) (Nat.le_refl _)
    have b := room_bd h L L.length h0 hx L.length (Nat.le_refl _)
    rw [e]
    have hl : (tl h L L.length ++ [(L.length : Int)]).length = (tl h L L.length).length + 1 := by simp
    constructor
    · refine vE_of (fun j hj => ?_) (by rw [hl, frm_succ, getD_last])
      by_cases hj2 : j < (tl h L L.length).length
      · have := i1 j hj2
        rw [getD_snoc _ _ _ hj2, frm_snoc _ _ _ (by omega)]
        omega
      · obtain rfl : j = (tl h L L.length).length := by omega
        rw [getD_last, frm_snoc _ _ _ (Nat.le_refl _)]
        omega
    · intro j hj
      by_cases hj2 : j < (tl h L L.length).length
      · rw [seg_snoc _ _ _ _ hj2]; exact (i1 j hj2).2.2
      · obtain rfl : j = (tl h L L.length).length := by omega
        rw [seg_last, Int.toNat_natCast]
        omega
theorem colMax_sum {L E : List Int} (hL : okH L = true) (hE : ∀ j, j < E.length → frm E j < E.getD j 0 ∧ E.getD j 0 ≤ L.length) : ∀ k, k ≤ E.length → colMax L E k ≤ sumL L := by
  have hx := (okH_at hL).2
  have hmono := sumTo_mono (L := L) (n := L.length) (fun k hk => (hx k hk).1)
  intro k hk
  refine colMax_le ?_ k (fun j hj => ?_)
  · exact (sumTo_okH hL L.length (Nat.le_refl _)).1
  · have h1 := hE j (by omega)
    have b := frm_bd hE j (by omega)
    have m1 := hmono (E.getD j 0).toNat L.length (by omega) (Nat.le_refl _)
    have m2 := sumTo_okH hL (frm E j).toNat (by omega)
    unfold seg sumL
    omega
/-- What CheckColumns returns. -/
def chkN (L E : List Int) : Int := if okH L && vE E L.length then colMax L E E.length else 0
def chkB (L E : List Int) : Bool := okH L && vE E L.length
end Go.Proofs.Ytncbllhgkkkhoaa
