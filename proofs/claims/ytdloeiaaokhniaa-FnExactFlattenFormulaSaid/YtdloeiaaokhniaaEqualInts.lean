/- Comparing two slices of ints; what a reader's step and an append leave of each other. -/
import Derived.Test.YtdloeiaaokhniaaAppend
namespace Go.Proofs.Ytdloeiaaokhniaa
open Go.RowKit
set_option maxHeartbeats 400000

/-- A row of the call's own behind a step of the reader. -/
theorem owns_keeps {rb B e size n : Nat} {w w' : World} {v : Value} {xs : List Value} (h : w.ownsRow B e size v n xs) (hk : Keeps rb w w') (hB : rb < B) : w'.ownsRow B e size v n xs := by
  refine ⟨h.1, ?_⟩
  rcases h.2 with h0 | ⟨g, cap, cur, rfl, h1, h2, h3⟩
  · exact .inl h0
  · have hg := (h.lt g rfl).2
    exact .inr ⟨g, cap, cur, rfl, h1, by rw [hk.others g hg (by omega)]; exact h2, h3⟩
/-- The reader behind a change of a row that lies above it. -/
theorem Rdr.grown {w w' : World} {rb P : Nat} {row : Option Nat} (h : Rdr w rb P) (hg : w.grownBy w' row) (hr : ∀ k, row = some k → rb < k) : Rdr w' rb P ∧ Below rb w w' := by
  have hne : ∀ b, b ≤ rb → some b ≠ row := fun b hb e => by have := hr b e.symm; omega
  have hc : ∀ b o, b ≤ rb → w'.cell? ⟨b, o, none⟩ = w.cell? ⟨b, o, none⟩ := fun b o hb => World.cell?_of_block (w := w) (hg.block b (Nat.lt_of_le_of_lt hb h.lies) (hne b hb))
  have hf : w'.frozen? ⟨rb, 1, none⟩ = w.frozen? ⟨rb, 1, none⟩ := World.frozen?_of_block (w := w) (hg.block rb h.lies (hne rb (Nat.le_refl _)))
  refine ⟨⟨Nat.lt_of_lt_of_le h.lies hg.size, by rw [hf]; exact h.free, ?_⟩, ?_⟩
  · obtain ⟨sv, len, cap, k, hk, hl, c0, c1, r⟩ := h.held
    refine ⟨sv, len, cap, k, hk, hl, by rw [hc _ _ (Nat.le_refl _)]; exact c0, by rw [hc _ _ (Nat.le_refl _)]; exact c1, ?_⟩
    rcases r with r | ⟨b, off, z, e, hbr, hz⟩
    · exact .inl r
    · exact .inr ⟨b, off, z, e, hbr, fun i hi => by rw [hc _ _ (Nat.le_of_lt hbr)]; exact hz i hi⟩
  · exact (Below.refl _ _).grown hg (Nat.le_of_lt h.lies) (fun k hk => Nat.le_of_lt (hr k hk))
end Go.Proofs.Ytdloeiaaokhniaa
