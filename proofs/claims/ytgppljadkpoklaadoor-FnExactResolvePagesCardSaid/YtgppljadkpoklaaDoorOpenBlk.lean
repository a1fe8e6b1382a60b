/- A slice of blocks that came in. -/
import Derived.Test.YtgppljadkpoklaaDoorOpenFields
import Derived.Test.YtgppljadkpoklaaDoorBlkPlain
namespace Go.Proofs.YtgppljadkpoklaaDoor
open Go.ChangeShapes Go.WideShapes Go.Deep

theorem blkC_get (f g h : Nat → Int) (n j : Nat) (hj : j < n * 3) : (blkC ((List.range n).map (fun i => (f i, g i, h i))))[j]? = some (.int .i64 (if j % 3 = 0 then f (j / 3) else if j % 3 = 1 then g (j / 3) else h (j / 3))) := by
  have hl : ((List.range n).map (fun i => (f i, g i, h i))).length = n := by simp
  have hh := blkC_at ((List.range n).map (fun i => (f i, g i, h i))) (j / 3) (by rw [hl]; omega)
  have e : ((List.range n).map (fun i => (f i, g i, h i))).getD (j / 3) (0, 0, 0) = (f (j / 3), g (j / 3), h (j / 3)) := by
    simp [List.getD_eq_getElem?_getD, show j / 3 < n by omega]
  unfold bl bb br at hh
  rw [e] at hh
  by_cases h0 : j % 3 = 0
  · rw [if_pos h0]
    have := hh.1
    rwa [show j / 3 * 3 = j by omega] at this
  · rw [if_neg h0]
    by_cases h1 : j % 3 = 1
    · rw [if_pos h1]
      have := hh.2.1
      rwa [show j / 3 * 3 + 1 = j by omega] at this
    · rw [if_neg h1]
      have := hh.2.2
      rwa [show j / 3 * 3 + 2 = j by omega] at this
theorem slB_open {H : Type} {enc : TypeId × Value → H} {W : World} {base : Nat} {fuel : Nat} {a : Option Addr} {len cap : Nat} {x : DataW H × List MemPlace}
    (h : DataW.trod enc Tryd.prog W base (fun _ => true) true fuel 32 [.slice a len cap] = some x) : ∃ B, SlB W (.slice a len cap) B := by
  rcases open_slice_fields Tryd.underlying32 Tryd.underlying55 (by kernel_rfl) (by kernel_rfl) h with ⟨hcs, _⟩ | ⟨x, l, c, m, D, Pl, hcs, _, hl, hm, hmm, _, hf⟩
  · simp at hcs
    obtain ⟨rfl, rfl, rfl⟩ := hcs
    exact ⟨[], none, 0, rfl, Nat.le_refl _, Nat.zero_le _, .inl rfl⟩
  · simp at hcs
    obtain ⟨rfl, rfl, rfl⟩ := hcs
    have hcell : ∀ i, i < len → (∃ p : Int × Int × Int, W.cell? (x.add (i * 3)) = some (.int .i64 p.1) ∧ W.cell? (x.add (i * 3 + 1)) = some (.int .i64 p.2.1) ∧ W.cell? (x.add (i * 3 + 2)) = some (.int .i64 p.2.2)) := by
      intro i hi
      obtain ⟨ys, n, _, _, _, hj⟩ := hf i (by rw [hmm]; simp; omega)
      obtain ⟨v0, y0, c0, _, t0⟩ := hj 0 _ rfl
      obtain ⟨v1, y1, c1, _, t1⟩ := hj 1 _ rfl
      obtain ⟨v2, y2, c2, _, t2⟩ := hj 2 _ rfl
      obtain ⟨n0, e0, _, _⟩ := DataW.trod_int Tryd.underlying3 t0
      obtain ⟨n1, e1, _, _⟩ := DataW.trod_int Tryd.underlying3 t1
      obtain ⟨n2, e2, _, _⟩ := DataW.trod_int Tryd.underlying3 t2
      injection e0 with e0
      injection e1 with e1
      injection e2 with e2
      subst e0 e1 e2
      exact ⟨(n0, n1, n2), c0, c1, c2⟩
    by_cases h0 : len = 0
    · subst h0
      exact ⟨[], some x, cap, rfl, hl, hm, .inl rfl⟩
    · let p : Nat → Int × Int × Int := fun i => if hi : i < len then Classical.choose (hcell i hi) else (0, 0, 0)
      have hp : ∀ i, i < len → W.cell? (x.add (i * 3)) = some (.int .i64 (p i).1) ∧ W.cell? (x.add (i * 3 + 1)) = some (.int .i64 (p i).2.1) ∧ W.cell? (x.add (i * 3 + 2)) = some (.int .i64 (p i).2.2) := by
        intro i hi
        have := Classical.choose_spec (hcell i hi)
        simpa [p, hi] using this
      refine ⟨(List.range len).map (fun i => ((p i).1, (p i).2.1, (p i).2.2)), ?_⟩
      have hl2 : ((List.range len).map (fun i => ((p i).1, (p i).2.1, (p i).2.2))).length = len := by simp
      unfold SlB
      rw [hl2]
      obtain ⟨b, off, spot⟩ := x
      have hspot : spot = none := by simpa [Addr.add] using World.cell?_spot (hp 0 (by omega)).1
      subst hspot
      have hc : ∀ i, i < len → W.cell? ⟨b, off + i * 3, none⟩ = some (.int .i64 (p i).1) ∧ W.cell? ⟨b, off + (i * 3 + 1), none⟩ = some (.int .i64 (p i).2.1) ∧ W.cell? ⟨b, off + (i * 3 + 2), none⟩ = some (.int .i64 (p i).2.2) := by
        intro i hi
        rw [← Go.WideShapes.add_plain, ← Go.WideShapes.add_plain, ← Go.WideShapes.add_plain]
        exact hp i hi
      refine ⟨_, cap, rfl, hl, hm, .inr ⟨b, off, rfl, lt_of_cell (hc 0 (by omega)).1, fun j hj => ?_⟩⟩
      rw [blkC_get (fun i => (p i).1) (fun i => (p i).2.1) (fun i => (p i).2.2) len j hj]
      have h := hc (j / 3) (by omega)
      by_cases m0 : j % 3 = 0
      · rw [if_pos m0]
        have := h.1
        rwa [show j / 3 * 3 = j by omega] at this
      · rw [if_neg m0]
        by_cases m1 : j % 3 = 1
        · rw [if_pos m1]
          have := h.2.1
          rwa [show j / 3 * 3 + 1 = j by omega] at this
        · rw [if_neg m1]
          have := h.2.2
          rwa [show j / 3 * 3 + 2 = j by omega] at this
end Go.Proofs.YtgppljadkpoklaaDoor
