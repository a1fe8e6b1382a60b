/- Pages of blocks and of labels as plain lists: the equations, monotony, the least fixed point. -/
import Derived.Test.YtgppljadkpoklaaDoorBlkPlain
import Derived.Lib.ItoaNum
namespace Go.Proofs.YtgppljadkpoklaaDoor

/-- The number of decimal digits. -/
def ndg (n : Nat) : Nat := (Lib.decDigits n).length
theorem ndg_small {n : Nat} (h : n < 10) : ndg n = 1 := by unfold ndg; rw [Lib.decDigits, dif_pos h]; rfl
theorem ndg_big {n : Nat} (h : ¬ n < 10) : ndg n = ndg (n / 10) + 1 := by
  have e : Lib.decDigits n = Lib.decDigits (n / 10) ++ [UInt8.ofNat (48 + n % 10)] := by rw [Lib.decDigits, dif_neg h]
  unfold ndg; rw [e]; simp
theorem ndg_mono : ∀ m n : Nat, n ≤ m → ndg n ≤ ndg m := by
  intro m
  induction m using Nat.strongRecOn with
  | _ m ih =>
    intro n h
    by_cases hm : m < 10
    · rw [ndg_small hm, ndg_small (by omega)]; exact Nat.le_refl _
    · rw [ndg_big hm]
      by_cases hn : n < 10
      · rw [ndg_small hn]; omega
      · rw [ndg_big hn]
        have := ih (m / 10) (by omega) (n / 10) (by omega)
        omega
theorem ndg_pos (n : Nat) : 1 ≤ ndg n := by
  have := ndg_mono n 0 (by omega)
  rw [ndg_small (by omega : 0 < 10)] at this
  exact this
theorem ndg_top {n : Nat} (h : n ≤ 10000) : ndg n ≤ 5 := by
  have := ndg_mono 10000 n h
  have e : ndg 10000 = 5 := by
    rw [ndg_big (by omega), ndg_big (by omega), ndg_big (by omega), ndg_big (by omega), ndg_small (by omega)]
  omega

def okK (K : List Int) : Bool := decide (K.length = 10) && K.all (fun x => decide (0 ≤ x ∧ x ≤ 10000))
theorem okK_at {L : List Int} (h : okK L = true) : L.length = 10 ∧ ∀ k, k < L.length → 0 ≤ L.getD k 0 ∧ L.getD k 0 ≤ 10000 := by
  unfold okK at h
  rw [Bool.and_eq_true, decide_eq_true_eq, List.all_eq_true] at h
  refine ⟨h.1, fun k hk => ?_⟩
  have := h.2 (L.getD k 0) (getD_mem L k hk)
  simpa using this
theorem okK_of {L : List Int} (h1 : L.length = 10) (h : ∀ k, k < L.length → 0 ≤ L.getD k 0 ∧ L.getD k 0 ≤ 10000) : okK L = true := by
  unfold okK
  rw [Bool.and_eq_true, decide_eq_true_eq, List.all_eq_true]
  refine ⟨h1, fun x hx => ?_⟩
  obtain ⟨i, hi, rfl⟩ := List.mem_iff_getElem.1 hx
  have := h i hi
  simpa [List.getD_eq_getElem?_getD, hi] using this
theorem okK_bad {L : List Int} (k : Nat) (hk : k < L.length) (h : ¬ (0 ≤ L.getD k 0 ∧ L.getD k 0 ≤ 10000)) : okK L = false := by
  cases h1 : okK L with
  | false => rfl
  | true => exact absurd ((okK_at h1).2 k hk) h
theorem okK_len {L : List Int} (h : ¬ L.length = 10) : okK L = false := by
  cases h1 : okK L with
  | false => rfl
  | true => exact absurd (okK_at h1).1 h

/-- The lines ahead of block k. -/
def atF (B : List Blk) (K : List Int) : Nat → Nat
  | 0 => 0
  | k + 1 => atF B K k + (bl B k).toNat + (if 0 < br B k then ndg (K.getD (br B k).toNat 0).toNat - 1 else 0)
def pagesF (B : List Blk) (n : Nat) (K : List Int) (k : Nat) : List Int := (List.range k).map (fun i => ((atF B K i / n + 1 : Nat) : Int))
theorem pagesF_succ (B : List Blk) (n : Nat) (K : List Int) (k : Nat) : pagesF B n K (k + 1) = pagesF B n K k ++ [((atF B K k / n + 1 : Nat) : Int)] := by
  unfold pagesF; rw [List.range_succ, List.map_append]; rfl
theorem pagesF_len (B : List Blk) (n : Nat) (K : List Int) (k : Nat) : (pagesF B n K k).length = k := by simp [pagesF]
theorem pagesF_at (B : List Blk) (n : Nat) (K : List Int) (k i : Nat) (h : i < k) : (pagesF B n K k).getD i 0 = ((atF B K i / n + 1 : Nat) : Int) := by
  simp [pagesF, List.getD_eq_getElem?_getD, h]
theorem okK_getD {K : List Int} (h : okK K = true) (i : Nat) : 0 ≤ K.getD i 0 ∧ K.getD i 0 ≤ 10000 := by
  obtain ⟨h1, h2⟩ := okK_at h
  by_cases hi : i < K.length
  · exact h2 i hi
  · rw [List.getD_eq_getElem?_getD, List.getElem?_eq_none (by omega)]; simp
theorem atF_bd {B : List Blk} (hB : okB B = true) {K : List Int} (hK : okK K = true) : ∀ k, k ≤ B.length → atF B K k ≤ k * 44 := by
  intro k
  induction k with
  | zero => intro _; exact Nat.le_refl _
  | succ k ih =>
    intro hk
    have a := ih (by omega)
    have b := okB1_at ((okB_at hB).2 k (by omega))
    have c := okK_getD hK (br B k).toNat
    have d := ndg_top (n := (K.getD (br B k).toNat 0).toNat) (by omega)
    rw [atF]
    split <;> omega
theorem atF_mono {B : List Blk} {K K' : List Int} (h : ∀ i, K.getD i 0 ≤ K'.getD i 0) : ∀ k, atF B K k ≤ atF B K' k := by
  intro k
  induction k with
  | zero => exact Nat.le_refl _
  | succ k ih =>
    rw [atF, atF]
    have a := ndg_mono (K'.getD (br B k).toNat 0).toNat (K.getD (br B k).toNat 0).toNat (by have := h (br B k).toNat; omega)
    split <;> omega
theorem atF_step (B : List Blk) (K : List Int) (k : Nat) : atF B K k ≤ atF B K (k + 1) := by rw [atF]; omega

/-- The pages of labels behind the first k blocks. -/
def lpF (B : List Blk) (P : List Int) : Nat → List Int
  | 0 => List.replicate 10 0
  | k + 1 => if 0 < bb B k then (lpF B P k).set (bb B k).toNat (P.getD k 0) else lpF B P k
theorem lpF_len (B : List Blk) (P : List Int) : ∀ k, (lpF B P k).length = 10 := by
  intro k
  induction k with
  | zero => simp [lpF]
  | succ k ih => rw [lpF]; split <;> simp [ih]
theorem getD_setR (l : List Int) (i j : Nat) (v : Int) (hi : i < l.length) : (l.set i v).getD j 0 = if i = j then v else l.getD j 0 := by
  rw [List.getD_eq_getElem?_getD, List.getElem?_set]
  by_cases h : i = j
  · subst h; simp [hi]
  · rw [if_neg h, if_neg h, ← List.getD_eq_getElem?_getD]
theorem lpF_zero (B : List Blk) (P : List Int) (hl : ∀ k, k < B.length → 0 ≤ bb B k ∧ bb B k ≤ 9) : ∀ k, k ≤ B.length → (lpF B P k).getD 0 0 = 0 := by
  intro k
  induction k with
  | zero => intro _; simp [lpF]
  | succ k ih =>
    intro hk
    have := hl k (by omega)
    rw [lpF]
    split
    · rw [getD_setR _ _ _ _ (by rw [lpF_len]; omega), if_neg (by omega)]
      exact ih (by omega)
    · exact ih (by omega)
theorem lpF_bd {B : List Blk} {P : List Int} (hl : ∀ k, k < B.length → 0 ≤ bb B k ∧ bb B k ≤ 9) (b : Int) (h0 : 0 ≤ b) (hP : ∀ k, k < B.length → 0 ≤ P.getD k 0 ∧ P.getD k 0 ≤ b) : ∀ k, k ≤ B.length → ∀ i, 0 ≤ (lpF B P k).getD i 0 ∧ (lpF B P k).getD i 0 ≤ b := by
  intro k
  induction k with
  | zero =>
    intro _ i
    have : (lpF B P 0).getD i 0 = 0 := by
      simp only [lpF, List.getD_eq_getElem?_getD, List.getElem?_replicate]
      split <;> rfl
    omega
  | succ k ih =>
    intro hk i
    have := hl k (by omega)
    have hp := hP k (by omega)
    rw [lpF]
    split
    · rw [getD_setR _ _ _ _ (by rw [lpF_len]; omega)]
      split
      · exact hp
      · exact ih (by omega) i
    · exact ih (by omega) i
theorem lpF_mono {B : List Blk} {P Q : List Int} (hl : ∀ k, k < B.length → 0 ≤ bb B k ∧ bb B k ≤ 9) (hP : ∀ k, k < B.length → P.getD k 0 ≤ Q.getD k 0) : ∀ k, k ≤ B.length → ∀ i, (lpF B P k).getD i 0 ≤ (lpF B Q k).getD i 0 := by
  intro k
  induction k with
  | zero => intro _ i; exact Int.le_refl _
  | succ k ih =>
    intro hk i
    have := hl k (by omega)
    have hp := hP k (by omega)
    rw [lpF, lpF]
    split
    · rw [getD_setR _ _ _ _ (by rw [lpF_len]; omega), getD_setR _ _ _ _ (by rw [lpF_len]; omega)]
      split
      · exact hp
      · exact ih (by omega) i
    · exact ih (by omega) i
/-- Each label has the page of its block. -/
theorem lpF_at {B : List Blk} {P : List Int} (hB : okB B = true) : ∀ k, k ≤ B.length → ∀ j, j < k → 0 < bb B j → (lpF B P k).getD (bb B j).toNat 0 = P.getD j 0 := by
  intro k
  induction k with
  | zero => intro _ j hj; omega
  | succ k ih =>
    intro hk j hj h0
    have a := okB1_at ((okB_at hB).2 k (by omega))
    rw [lpF]
    by_cases e : j = k
    · subst e
      rw [if_pos h0, getD_setR _ _ _ _ (by rw [lpF_len]; omega), if_pos rfl]
    · have hi := ih (by omega) j (by omega) h0
      by_cases hk0 : 0 < bb B k
      · rw [if_pos hk0, getD_setR _ _ _ _ (by rw [lpF_len]; omega), if_neg ?_]
        · exact hi
        · intro h
          have hs := seenF_no.1 a.2.2.2 j (by omega)
          exact hs ⟨by omega, by omega⟩
      · rw [if_neg hk0]; exact hi
def nextF (B : List Blk) (n : Nat) (K : List Int) : List Int := lpF B (pagesF B n K B.length) B.length
theorem okB_labels {B : List Blk} (h : okB B = true) : ∀ k, k < B.length → 0 ≤ bb B k ∧ bb B k ≤ 9 := fun k hk => (okB1_at ((okB_at h).2 k hk)).2.1
theorem pagesF_bd {B : List Blk} (hB : okB B = true) {K : List Int} (hK : okK K = true) (n : Nat) : ∀ k, k < B.length → 0 ≤ (pagesF B n K B.length).getD k 0 ∧ (pagesF B n K B.length).getD k 0 ≤ 881 := by
  intro k hk
  rw [pagesF_at _ _ _ _ _ hk]
  have a := atF_bd hB hK k (by omega)
  have b := (okB_at hB).1
  have c : atF B K k / n ≤ atF B K k := Nat.div_le_self _ _
  generalize atF B K k / n = q at *
  omega
theorem nextF_ok {B : List Blk} (hB : okB B = true) {K : List Int} (hK : okK K = true) (n : Nat) : okK (nextF B n K) = true := by
  refine okK_of (lpF_len ..) (fun k hk => ?_)
  have := lpF_bd (okB_labels hB) 881 (by omega) (pagesF_bd hB hK n) B.length (Nat.le_refl _) k
  unfold nextF
  omega
theorem nextF_mono {B : List Blk} (hB : okB B = true) (n : Nat) {K K' : List Int} (h : ∀ i, K.getD i 0 ≤ K'.getD i 0) : ∀ i, (nextF B n K).getD i 0 ≤ (nextF B n K').getD i 0 := by
  refine lpF_mono (okB_labels hB) (fun k hk => ?_) B.length (Nat.le_refl _)
  rw [pagesF_at _ _ _ _ _ hk, pagesF_at _ _ _ _ _ hk]
  have a := atF_mono (B := B) h k
  have : atF B K k / n ≤ atF B K' k / n := Nat.div_le_div_right a
  generalize atF B K k / n = q1 at *
  generalize atF B K' k / n = q2 at *
  omega
/-- Rounds: r are left, the n-th is tried with K. -/
def resGo (f : List Int → List Int) : Nat → Nat → List Int → Option (List Int × Nat)
  | 0, _, _ => none
  | r + 1, n, K => if f K = K then some (K, n) else resGo f r (n + 1) (f K)
theorem resGo_fix (f : List Int → List Int) (Q : List Int → Prop) (hQ : ∀ K, Q K → Q (f K)) : ∀ r n K P m, Q K → resGo f r n K = some (P, m) → f P = P ∧ Q P ∧ n ≤ m ∧ m < n + r := by
  intro r
  induction r with
  | zero => intro n K P m _ h; cases h
  | succ r ih =>
    intro n K P m hK h
    rw [resGo] at h
    split at h
    · rename_i hf
      injection h with h; injection h with h1 h2; subst h1 h2
      exact ⟨hf, hK, Nat.le_refl _, by omega⟩
    · obtain ⟨a, b, c, d⟩ := ih (n + 1) (f K) P m (hQ K hK) h
      exact ⟨a, b, by omega, by omega⟩
def zeroK : List Int := List.replicate 10 0
theorem zeroK_ok : okK zeroK = true := by decide
theorem zeroK_at (i : Nat) : zeroK.getD i 0 = 0 := by
  simp only [zeroK, List.getD_eq_getElem?_getD, List.getElem?_replicate]
  split <;> rfl
def resS (B : List Blk) (lines : Int) : Option (List Int × Nat) := if okB B = true ∧ 1 ≤ lines ∧ lines ≤ 40 then resGo (nextF B lines.toNat) 20 1 zeroK else none
def chkR (B : List Blk) (lines : Int) (K : List Int) : Bool := okB B && decide (1 ≤ lines ∧ lines ≤ 40) && okK K && decide (nextF B lines.toNat K = K)
def pagesS (B : List Blk) (lines : Int) (K : List Int) : List Int := if okB B && decide (1 ≤ lines ∧ lines ≤ 40) && okK K then pagesF B lines.toNat K B.length else []
/-- What is resolved is consistent, and no consistent pages are smaller. -/
theorem resS_some {B : List Blk} {lines : Int} {P : List Int} {m : Nat} (h : resS B lines = some (P, m)) : chkR B lines P = true ∧ 1 ≤ m ∧ m ≤ 20 ∧ P.length = 10 ∧ P.getD 0 0 = 0 := by
  unfold resS at h
  by_cases hc : okB B = true ∧ 1 ≤ lines ∧ lines ≤ 40
  · rw [if_pos hc] at h
    obtain ⟨a, b, c, d⟩ := resGo_fix (nextF B lines.toNat) (fun K => okK K = true) (fun K hK => nextF_ok hc.1 hK _) 20 1 zeroK P m zeroK_ok h
    refine ⟨?_, c, by omega, (okK_at b).1, ?_⟩
    · unfold chkR; rw [hc.1, b, decide_eq_true hc.2, decide_eq_true a]; rfl
    · rw [← a]; exact lpF_zero B _ (okB_labels hc.1) B.length (Nat.le_refl _)
  · rw [if_neg hc] at h; cases h
theorem resS_least {B : List Blk} {lines : Int} {P K : List Int} {m : Nat} (h : resS B lines = some (P, m)) (hK : chkR B lines K = true) : ∀ i, P.getD i 0 ≤ K.getD i 0 := by
  unfold chkR at hK
  rw [Bool.and_eq_true, Bool.and_eq_true, Bool.and_eq_true, decide_eq_true_eq, decide_eq_true_eq] at hK
  obtain ⟨⟨⟨k1, k2⟩, k3⟩, k4⟩ := hK
  unfold resS at h
  rw [if_pos ⟨k1, k2⟩] at h
  refine (resGo_fix (nextF B lines.toNat) (fun Q => ∀ i, Q.getD i 0 ≤ K.getD i 0) (fun Q hQ => ?_) 20 1 zeroK P m (fun i => ?_) h).2.1
  · have := nextF_mono k1 lines.toNat hQ
    rw [k4] at this
    exact this
  · rw [zeroK_at]; exact (okK_getD k3 i).1
end Go.Proofs.YtgppljadkpoklaaDoor
