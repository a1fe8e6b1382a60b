/- A slice of entries that came in. -/
import Derived.Test.YtflnbpiegcepcaaDoorOpenFields
import Derived.Test.YtflnbpiegcepcaaDoorIdxOk
import Derived.Test.YtflnbpiegcepcaaDoorDraws
namespace Go.Proofs.YtflnbpiegcepcaaDoor
open Go.ChangeShapes Go.WideShapes Go.Deep Go.RowKit
set_option linter.unusedVariables false

/-- Entries that came in: they can be read, and their words are no longer than the model's bound. -/
def EntIn (W : World) (v : Value) (E : List Ent) : Prop := SlE W v E ∧ ∀ i, i < E.length → (ew E i).size ≤ maxLen
theorem ent_open {H : Type} {enc : TypeId × Value → H} {W : World} {base : Nat} {fuel : Nat} {a : Option Addr} {len cap : Nat} {x : DataW H × List MemPlace}
    (h : DataW.trod enc Tryd.prog W base (fun _ => true) true fuel 45 [.slice a len cap] = some x) : ∃ E, EntIn W (.slice a len cap) E := by
  rcases open_slice_fields Tryd.underlying45 Tryd.underlying78 (by kernel_rfl) (by kernel_rfl) h with ⟨hcs, _⟩ | ⟨x, l, c, m, D, Pl, hcs, _, hl, hm, hmm, _, hf⟩
  · simp at hcs
    obtain ⟨rfl, rfl, rfl⟩ := hcs
    exact ⟨[], ⟨[], rfl, ⟨none, 0, rfl, Nat.le_refl _, Nat.zero_le _, .inl rfl⟩, fun x hx => by simp at hx⟩, fun i hi => by simp at hi⟩
  · simp at hcs
    obtain ⟨rfl, rfl, rfl⟩ := hcs
    have hcell : ∀ i, i < len → (∃ p : XE, (W.cell? (x.add (i * 2)) = some (.string p.1.1) ∧ W.cell? (x.add (i * 2 + 1)) = some p.2) ∧ SlI W p.2 p.1.2 ∧ p.1.1.size ≤ maxLen) := by
      intro i hi
      obtain ⟨ys, n, _, _, _, hj⟩ := hf i (by rw [hmm]; simp; omega)
      obtain ⟨v0, y0, c0, _, t0⟩ := hj 0 _ rfl
      obtain ⟨v1, y1, c1, _, t1⟩ := hj 1 _ rfl
      obtain ⟨s0, e0, _, hs⟩ := DataW.trod_string Tryd.underlying9 t0
      injection e0 with e0
      subst e0
      rcases open_ints Tryd.underlying22 Tryd.underlying3 (by kernel_rfl) t1 with ⟨hcs, _⟩ | ⟨x2, l2, c2, zs, hcs, _, hl2, hm2, hz2, _, hcell2, hwz⟩
      · simp at hcs
        subst hcs
        exact ⟨((s0, []), .slice none 0 0), ⟨c0, c1⟩, ⟨none, 0, rfl, Nat.le_refl _, Nat.zero_le _, .inl rfl⟩, hs⟩
      · simp at hcs
        subst hcs
        have hr : RowIn .i64 W (some x2) l2 c2 zs := .inr ⟨_, rfl, hl2, hm2, by simpa using hz2, hcell2, hwz⟩
        exact ⟨((s0, zs.take l2), .slice (some x2) l2 c2), ⟨c0, c1⟩, hr.sl, hs⟩
    by_cases h0 : len = 0
    · subst h0
      exact ⟨[], ⟨[], rfl, ⟨some x, cap, rfl, hl, hm, .inl rfl⟩, fun x hx => by simp at hx⟩, fun i hi => by simp at hi⟩
    · let p : Nat → XE := fun i => if hi : i < len then Classical.choose (hcell i hi) else ((⟨#[]⟩, []), .slice none 0 0)
      have hp : ∀ i, i < len → (W.cell? (x.add (i * 2)) = some (.string (p i).1.1) ∧ W.cell? (x.add (i * 2 + 1)) = some (p i).2) ∧ SlI W (p i).2 (p i).1.2 ∧ (p i).1.1.size ≤ maxLen := by
        intro i hi
        have := Classical.choose_spec (hcell i hi)
        simpa [p, hi] using this
      obtain ⟨X, hX⟩ : ∃ X : List XE, X = (List.range len).map p := ⟨_, rfl⟩
      have hl2 : X.length = len := by rw [hX]; simp
      have hXi : ∀ i (h : i < X.length), X[i] = p i := fun i h => by subst hX; simp
      have hel : (xE X).length = len := by rw [xE_len, hl2]
      refine ⟨xE X, ⟨X, rfl, ?_, fun y hy => ?_⟩, fun i hi => ?_⟩
      · rw [hel]
        obtain ⟨b, off, spot⟩ := x
        have hspot : spot = none := by simpa [Addr.add] using World.cell?_spot (hp 0 (by omega)).1.1
        subst hspot
        have hc : ∀ i, i < len → W.cell? ⟨b, off + i * 2, none⟩ = some (.string (p i).1.1) ∧ W.cell? ⟨b, off + (i * 2 + 1), none⟩ = some (p i).2 := by
          intro i hi
          rw [← Go.WideShapes.add_plain, ← Go.WideShapes.add_plain]
          exact (hp i hi).1
        refine ⟨_, cap, rfl, hl, hm, .inr ⟨b, off, rfl, lt_of_cell (hc 0 (by omega)).1, fun j hj => ?_⟩⟩
        have hj2 : j / 2 < X.length := by omega
        obtain ⟨a1, a2⟩ := xC_at X (j / 2) hj2
        rw [hXi _ hj2] at a1 a2
        have h := hc (j / 2) (by omega)
        by_cases m0 : j % 2 = 0
        · rw [show j / 2 * 2 = j by omega] at a1 h
          rw [a1]; exact h.1
        · rw [show j / 2 * 2 + 1 = j by omega] at a2 h
          rw [a2]; exact h.2
      · obtain ⟨i, hi, rfl⟩ := List.getElem_of_mem hy
        rw [hXi i hi]; exact (hp i (by omega)).2.1
      · have hi2 : i < X.length := by rw [xE_len] at hi; exact hi
        rw [(xE_at X i hi2).1, hXi i hi2]
        exact (hp i (by omega)).2.2
end Go.Proofs.YtflnbpiegcepcaaDoor
