/- The reference's parsePages: plain lemmas for its walk. -/
import Derived.Test.YtckmkjkckadfjaaDoorParIntS
import Derived.Test.YtckmkjkckadfjaaDoorParSplit
namespace Go.Proofs.YtckmkjkckadfjaaDoor
open Go.RowKit
set_option maxHeartbeats 4000000
set_option maxRecDepth 100000
set_option linter.unusedVariables false

theorem refF_drop (P : List Bs) (i : Nat) (out : List Int) (h : i < P.length) : refF (P.drop i) i out = refF (P.drop (i + 1)) (i + 1) (refOne out (refS i (P.getD i []))) := by
  rw [List.drop_eq_getElem_cons h, refF, List.getD_eq_getElem?_getD, List.getElem?_eq_getElem h]
  rfl
theorem refF_end (P : List Bs) (i : Nat) (out : List Int) (h : P.length ≤ i) : refF (P.drop i) i out = out := by
  rw [List.drop_eq_nil_of_le h]; rfl
/-- The inner loop: the numbers from a on that have been appended. -/
theorem rng_take_succ (a b : Int) (d : Nat) (h : a + (d : Int) ≤ b) : (rng a b).take (d + 1) = (rng a b).take d ++ [a + (d : Int)] := by
  have hl : d < (rng a b).length := by rw [rng_len]; omega
  rw [List.take_succ_eq_append_getElem hl]
  congr 1
  simp [rng]
theorem refOne_len (out : List Int) (t : Bs) (h : out.length ≤ 41) : (refOne out t).length ≤ 41 := by
  unfold refOne
  simp only
  rw [List.length_append]
  split
  · rw [List.length_take]; omega
  · simp; omega
theorem splitK_le (sep : Bs) : ∀ (k : Nat) (l : Bs), ∀ y ∈ Lib.splitK sep 0 k l, y.length ≤ l.length
  | 0, l, y, hy => by
    rw [Lib.splitK, List.mem_singleton] at hy; subst hy; exact Nat.le_refl _
  | k + 1, l, y, hy => by
    rw [Lib.splitK] at hy
    split at hy
    · rw [List.mem_singleton] at hy; subst hy; exact Nat.le_refl _
    · rcases List.mem_cons.1 hy with rfl | hy
      · rw [List.length_take]; omega
      · have := splitK_le sep k _ y hy
        rw [List.length_drop] at this; omega
theorem splitK_count (sep : Bs) : ∀ (k : Nat) (l : Bs), (Lib.splitK sep 0 k l).length ≤ k + 1 ∧ 1 ≤ (Lib.splitK sep 0 k l).length
  | 0, l => by rw [Lib.splitK]; simp
  | k + 1, l => by
    rw [Lib.splitK]
    split
    · simp
    · have := splitK_count sep k (l.drop ((Lib.index l sep).toNat + sep.length))
      simp only [List.length_cons]; omega
theorem rows_ne {T T' : TypeId} {B B' m m' n n' : Nat} {w : World} {v u : Value} {xs ys : List Value} (h : w.ownsRow B T m v n xs) (k : w.ownsRow B' T' m' u n' ys) (ht : T ≠ T') : u.ownBlock = none ∨ u.ownBlock ≠ v.ownBlock := by
  rcases k.2 with ⟨rfl, _⟩ | ⟨g, cap, cur, rfl, _, hg, _⟩
  · exact .inl rfl
  · refine .inr ?_
    rcases h.2 with ⟨rfl, _⟩ | ⟨g2, cap2, cur2, rfl, _, hg2, _⟩
    · simp [Value.ownBlock]
    · intro e
      have e2 : g = g2 := by simpa [Value.ownBlock] using e
      subst e2
      rw [hg] at hg2
      simp at hg2
      exact ht hg2.2.symm
theorem pI_bd (s : Bs) : -40000000000 ≤ pI s ∧ pI s ≤ 40000000000 := by
  unfold pI
  split
  · obtain ⟨h1, h2⟩ := fold_bd9 ((s.drop 1).take 9) ((s.drop 1).take 9).length (Nat.le_refl _) (by rw [List.length_take]; omega)
    rw [List.take_length] at h1 h2
    omega
  · obtain ⟨h1, h2⟩ := fold_bd9 (s.take 9) (s.take 9).length (Nat.le_refl _) (by rw [List.length_take]; omega)
    rw [List.take_length] at h1 h2
    omega
theorem refOne_end (a b : Int) (d : Nat) (out : List Int) (h41 : out.length + d ≤ 41) (h0 : d = 0 ∨ 0 ≤ a) (hx : ¬ (a + (d : Int) ≤ b ∧ 0 ≤ a + (d : Int) ∧ out.length + d ≤ 40)) : out ++ (rng a b).take d = out ++ (if 0 ≤ a then (rng a b).take (41 - out.length) else []) := by
  congr 1
  by_cases ha : 0 ≤ a
  · rw [if_pos ha]
    by_cases h1 : a + (d : Int) ≤ b
    · rw [show d = 41 - out.length by omega]
    · rw [List.take_of_length_le (by rw [rng_len]; omega), List.take_of_length_le (by rw [rng_len]; omega)]
  · rw [if_neg ha, show d = 0 by omega, List.take_zero]
/-- A text cut at most once. -/
theorem split_two {t : ByteArray} {Y : List ByteArray} (h : Y.map (·.data.toList) = Lib.splitK [45] 0 1 t.data.toList) : ∃ y1 y2 : ByteArray,
    ((Y.map Value.string)[0]? = some (.string y1) ∧ 0 < Y.length ∧ y1.size ≤ t.size) ∧
    ((Y.length = 1 ∧ ∀ out, refOne out t.data.toList = out ++ (if 0 ≤ pI y1.data.toList then (rng (pI y1.data.toList) (pI y1.data.toList)).take (41 - out.length) else [])) ∨
     (Y.length = 2 ∧ (Y.map Value.string)[1]? = some (.string y2) ∧ y2.size ≤ t.size ∧ ∀ out, refOne out t.data.toList = out ++ (if 0 ≤ pI y1.data.toList then (rng (pI y1.data.toList) (pI y2.data.toList)).take (41 - out.length) else []))) := by
  have hc := splitK_count [45] 1 t.data.toList
  have hle := splitK_le [45] 1 t.data.toList
  have hr : ∀ out, refOne out t.data.toList = out ++ (if 0 ≤ pI ((Y.map (·.data.toList)).getD 0 []) then (rng (pI ((Y.map (·.data.toList)).getD 0 [])) (if (Y.map (·.data.toList)).length = 2 then pI ((Y.map (·.data.toList)).getD 1 []) else pI ((Y.map (·.data.toList)).getD 0 []))).take (41 - out.length) else []) := fun out => by
    rw [h]; rfl
  rw [← h] at hc hle
  have hsz : ∀ y ∈ Y, y.size ≤ t.size := fun y hy => by
    have := hle _ (List.mem_map.2 ⟨y, hy, rfl⟩)
    simpa using this
  match Y, hc, hr, hsz with
  | [], hc, _, _ => simp at hc
  | [y1], _, hr, hsz => exact ⟨y1, y1, ⟨rfl, by simp, hsz y1 (by simp)⟩, .inl ⟨rfl, fun out => by rw [hr out]; rfl⟩⟩
  | [y1, y2], _, hr, hsz => exact ⟨y1, y2, ⟨rfl, by simp, hsz y1 (by simp)⟩, .inr ⟨rfl, rfl, hsz y2 (by simp), fun out => by rw [hr out]; rfl⟩⟩
  | _ :: _ :: _ :: _, hc, _, _ => simp at hc
end Go.Proofs.YtckmkjkckadfjaaDoor
