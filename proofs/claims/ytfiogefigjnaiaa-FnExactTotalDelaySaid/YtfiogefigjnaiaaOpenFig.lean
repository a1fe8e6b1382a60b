/- A slice of figures that came in. -/
import Derived.Test.YtfiogefigjnaiaaOpenFields
import Derived.Test.YtfiogefigjnaiaaFig
namespace Go.Proofs.Ytfiogefigjnaiaa
open Go.ChangeShapes Go.WideShapes Go.Deep

theorem figC_get : ∀ (f g : Nat → Int) (n j : Nat), j < n * 2 → (figC ((List.range n).map (fun i => (f i, g i))))[j]? = some (.int .i64 (if j % 2 = 0 then f (j / 2) else g (j / 2))) := by
  intro f g n j hj
  have hl : ((List.range n).map (fun i => (f i, g i))).length = n := by simp
  have h := figC_at ((List.range n).map (fun i => (f i, g i))) (j / 2) (by rw [hl]; omega)
  have e : ((List.range n).map (fun i => (f i, g i))).getD (j / 2) (0, 0) = (f (j / 2), g (j / 2)) := by
    simp [List.getD_eq_getElem?_getD, show j / 2 < n by omega]
  unfold fh fp at h
  rw [e] at h
  by_cases hm : j % 2 = 0
  · rw [if_pos hm]
    have := h.1
    rwa [show j / 2 * 2 = j by omega] at this
  · rw [if_neg hm]
    have := h.2
    rwa [show j / 2 * 2 + 1 = j by omega] at this
theorem slF_open {H : Type} {enc : TypeId × Value → H} {W : World} {base : Nat} {fuel : Nat} {a : Option Addr} {len cap : Nat} {x : DataW H × List MemPlace}
    (h : DataW.trod enc Try.prog W base (fun _ => true) true fuel 22 [.slice a len cap] = some x) : ∃ F, SlF W (.slice a len cap) F := by
  rcases open_slice_fields Try.underlying22 Try.underlying48 (by kernel_rfl) (by kernel_rfl) h with ⟨hcs, _⟩ | ⟨x, l, c, m, D, Pl, hcs, _, hl, hm, hmm, _, hf⟩
  · simp at hcs
    obtain ⟨rfl, rfl, rfl⟩ := hcs
    exact ⟨[], none, 0, rfl, Nat.le_refl _, Nat.zero_le _, .inl rfl⟩
  · simp at hcs
    obtain ⟨rfl, rfl, rfl⟩ := hcs
    have hcell : ∀ i, i < len → (∃ p : Int × Int, W.cell? (x.add (i * 2)) = some (.int .i64 p.1) ∧ W.cell? (x.add (i * 2 + 1)) = some (.int .i64 p.2)) := by
      intro i hi
      obtain ⟨ys, n, _, _, _, hj⟩ := hf i (by rw [hmm]; simp; omega)
      obtain ⟨v0, y0, c0, _, t0⟩ := hj 0 _ rfl
      obtain ⟨v1, y1, c1, _, t1⟩ := hj 1 _ rfl
      obtain ⟨n0, e0, _, _⟩ := DataW.trod_int Try.underlying3 t0
      obtain ⟨n1, e1, _, _⟩ := DataW.trod_int Try.underlying3 t1
      injection e0 with e0
      injection e1 with e1
      subst e0 e1
      exact ⟨(n0, n1), c0, c1⟩
    by_cases h0 : len = 0
    · subst h0
      exact ⟨[], some x, cap, rfl, hl, hm, .inl rfl⟩
    · let p : Nat → Int × Int := fun i => if hi : i < len then Classical.choose (hcell i hi) else (0, 0)
      have hp : ∀ i, i < len → W.cell? (x.add (i * 2)) = some (.int .i64 (p i).1) ∧ W.cell? (x.add (i * 2 + 1)) = some (.int .i64 (p i).2) := by
        intro i hi
        have := Classical.choose_spec (hcell i hi)
        simpa [p, hi] using this
      refine ⟨(List.range len).map (fun i => ((p i).1, (p i).2)), ?_⟩
      have hl2 : ((List.range len).map (fun i => ((p i).1, (p i).2))).length = len := by simp
      unfold SlF
      rw [hl2]
      obtain ⟨b, off, spot⟩ := x
      have hspot : spot = none := by simpa [Addr.add] using World.cell?_spot (hp 0 (by omega)).1
      subst hspot
      have hc : ∀ i, i < len → W.cell? ⟨b, off + i * 2, none⟩ = some (.int .i64 (p i).1) ∧ W.cell? ⟨b, off + (i * 2 + 1), none⟩ = some (.int .i64 (p i).2) := by
        intro i hi
        rw [← Go.WideShapes.add_plain, ← Go.WideShapes.add_plain]
        exact hp i hi
      refine ⟨_, cap, rfl, hl, hm, .inr ⟨b, off, rfl, lt_of_cell (hc 0 (by omega)).1, fun j hj => ?_⟩⟩
      rw [figC_get (fun i => (p i).1) (fun i => (p i).2) len j hj]
      have h := hc (j / 2) (by omega)
      by_cases hm2 : j % 2 = 0
      · rw [if_pos hm2]
        have := h.1
        rwa [show j / 2 * 2 = j by omega] at this
      · rw [if_neg hm2]
        have := h.2
        rwa [show j / 2 * 2 + 1 = j by omega] at this
end Go.Proofs.Ytfiogefigjnaiaa
