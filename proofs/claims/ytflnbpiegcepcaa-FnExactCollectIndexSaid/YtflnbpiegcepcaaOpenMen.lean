/- A slice of mentions that came in. -/
import Derived.Test.YtflnbpiegcepcaaOpenFields
import Derived.Test.YtflnbpiegcepcaaIdxMen
namespace Go.Proofs.Ytflnbpiegcepcaa
open Go.ChangeShapes Go.WideShapes Go.Deep
set_option linter.unusedVariables false

/-- Mentions that came in: they can be read, and their words are no longer than the model's bound. -/
def MenIn (W : World) (v : Value) (M : List Men) : Prop := SlM W v M ∧ ∀ i, i < M.length → (mw M i).size ≤ maxLen
theorem mw_map (f : Nat → Men) (n i : Nat) (h : i < n) : mw ((List.range n).map f) i = (f i).1 ∧ mp ((List.range n).map f) i = (f i).2 := by
  simp [mw, mp, List.getD_eq_getElem?_getD, h]
theorem men_open {H : Type} {enc : TypeId × Value → H} {W : World} {base : Nat} {fuel : Nat} {a : Option Addr} {len cap : Nat} {x : DataW H × List MemPlace}
    (h : DataW.trod enc Try.prog W base (fun _ => true) true fuel 35 [.slice a len cap] = some x) : ∃ M, MenIn W (.slice a len cap) M := by
  rcases open_slice_fields Try.underlying35 Try.underlying56 (by kernel_rfl) (by kernel_rfl) h with ⟨hcs, _⟩ | ⟨x, l, c, m, D, Pl, hcs, _, hl, hm, hmm, _, hf⟩
  · simp at hcs
    obtain ⟨rfl, rfl, rfl⟩ := hcs
    exact ⟨[], ⟨none, 0, rfl, Nat.le_refl _, Nat.zero_le _, .inl rfl⟩, fun i hi => by simp at hi⟩
  · simp at hcs
    obtain ⟨rfl, rfl, rfl⟩ := hcs
    have hcell : ∀ i, i < len → (∃ p : Men, (W.cell? (x.add (i * 2)) = some (.string p.1) ∧ W.cell? (x.add (i * 2 + 1)) = some (.int .i64 p.2)) ∧ p.1.size ≤ maxLen) := by
      intro i hi
      obtain ⟨ys, n, _, _, _, hj⟩ := hf i (by rw [hmm]; simp; omega)
      obtain ⟨v0, y0, c0, _, t0⟩ := hj 0 _ rfl
      obtain ⟨v1, y1, c1, _, t1⟩ := hj 1 _ rfl
      obtain ⟨s0, e0, _, hs⟩ := DataW.trod_string Try.underlying9 t0
      obtain ⟨n1, e1, _, _⟩ := DataW.trod_int Try.underlying3 t1
      injection e0 with e0
      injection e1 with e1
      subst e0 e1
      exact ⟨(s0, n1), ⟨c0, c1⟩, hs⟩
    by_cases h0 : len = 0
    · subst h0
      exact ⟨[], ⟨some x, cap, rfl, hl, hm, .inl rfl⟩, fun i hi => by simp at hi⟩
    · let p : Nat → Men := fun i => if hi : i < len then Classical.choose (hcell i hi) else (⟨#[]⟩, 0)
      have hp : ∀ i, i < len → (W.cell? (x.add (i * 2)) = some (.string (p i).1) ∧ W.cell? (x.add (i * 2 + 1)) = some (.int .i64 (p i).2)) ∧ (p i).1.size ≤ maxLen := by
        intro i hi
        have := Classical.choose_spec (hcell i hi)
        simpa [p, hi] using this
      have hl2 : ((List.range len).map p).length = len := by simp
      refine ⟨(List.range len).map p, ?_, fun i hi => by rw [(mw_map p len i (by omega)).1]; exact (hp i (by omega)).2⟩
      unfold SlM
      rw [hl2]
      obtain ⟨b, off, spot⟩ := x
      have hspot : spot = none := by simpa [Addr.add] using World.cell?_spot (hp 0 (by omega)).1.1
      subst hspot
      have hc : ∀ i, i < len → W.cell? ⟨b, off + i * 2, none⟩ = some (.string (p i).1) ∧ W.cell? ⟨b, off + (i * 2 + 1), none⟩ = some (.int .i64 (p i).2) := by
        intro i hi
        rw [← Go.WideShapes.add_plain, ← Go.WideShapes.add_plain]
        exact (hp i hi).1
      refine ⟨_, cap, rfl, hl, hm, .inr ⟨b, off, rfl, lt_of_cell (hc 0 (by omega)).1, fun j hj => ?_⟩⟩
      obtain ⟨a1, a2⟩ := mC_at ((List.range len).map p) (j / 2) (by rw [hl2]; omega)
      obtain ⟨e1, e2⟩ := mw_map p len (j / 2) (by omega)
      rw [e1] at a1
      rw [e2] at a2
      have h := hc (j / 2) (by omega)
      by_cases m0 : j % 2 = 0
      · rw [show j / 2 * 2 = j by omega] at a1 h
        rw [a1]; exact h.1
      · rw [show j / 2 * 2 + 1 = j by omega] at a2 h
        rw [a2]; exact h.2
end Go.Proofs.Ytflnbpiegcepcaa
