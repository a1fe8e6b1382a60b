/- Slices of structs of one-cell fields: what lies in memory, cell by cell. -/
import Derived.Test.YtckmkjkckadfjaaDoorEqualInts
namespace Go.Proofs.YtckmkjkckadfjaaDoor
open Go.RowKit
set_option maxHeartbeats 400000

/-- A slice of n elements of m cells each that can be read: the cells C. -/
def SlC (m : Nat) (w : World) (v : Value) (n : Nat) (C : List Value) : Prop :=
  ∃ a cap, v = .slice a n cap ∧ n ≤ cap ∧ cap ≤ maxLen ∧ (n = 0 ∨ ∃ b off, a = some ⟨b, off, none⟩ ∧ b < w.heap.size ∧ ∀ j, j < n * m → w.cell? ⟨b, off + j, none⟩ = C[j]?)
/-- The same in a row of the call's own, in a block from lo on and below hi. -/
structure OwnC (T : TypeId) (m lo hi : Nat) (w : World) (v : Value) (n : Nat) (C : List Value) : Prop where
  row : w.ownsRow lo T m v n C
  top : ∀ k, v.ownBlock = some k → k < hi
  fits : hi ≤ w.heap.size
theorem SlC.below {m : Nat} {w w' : World} {v : Value} {n : Nat} {C : List Value} (h : SlC m w v n C) (hb : Below w.heap.size w w') : SlC m w' v n C := by
  obtain ⟨a, cap, rfl, h1, h2, h3⟩ := h
  refine ⟨a, cap, rfl, h1, h2, ?_⟩
  rcases h3 with h3 | ⟨b, off, e, hbl, hc⟩
  · exact .inl h3
  · exact .inr ⟨b, off, e, Nat.lt_of_lt_of_le hbl hb.size, fun i hi => by rw [(bcell hb).1 _ _ hbl]; exact hc i hi⟩
theorem SlC.drewN {m : Nat} {w : World} {v : Value} {n : Nat} {C : List Value} (h : SlC m w v n C) (q : Nat) : SlC m (w.drewN q) v n C := h
theorem SlC.cells {m : Nat} {w : World} {a : Option Addr} {n cap : Nat} {C : List Value} (h : SlC m w (.slice a n cap) n C) (hl : 0 < n) : ∃ b off, a = some ⟨b, off, none⟩ ∧ b < w.heap.size ∧ ∀ j, j < n * m → w.cell? ⟨b, off + j, none⟩ = C[j]? := by
  obtain ⟨a', cap', e, h1, h2, h3⟩ := h
  injection e with e1 e2 e3
  subst e1 e3
  rcases h3 with rfl | ⟨b, off, rfl, h4, h5⟩
  · omega
  · exact ⟨b, off, rfl, h4, h5⟩
theorem OwnC.sl {T : TypeId} {m lo hi : Nat} {w : World} {v : Value} {n : Nat} {C : List Value} (h : OwnC T m lo hi w v n C) : SlC m w v n C := by
  rcases h.row.2 with ⟨rfl, h0⟩ | ⟨g, cap, cur, rfl, h1, h2, h3, h4, h5, h6⟩
  · subst h0
    exact ⟨none, 0, rfl, Nat.le_refl _, Nat.zero_le _, .inl rfl⟩
  · refine ⟨_, cap, rfl, h3, h4, .inr ⟨g, 0, rfl, (h.row.lt g rfl).2, fun i hi => ?_⟩⟩
    rw [Nat.zero_add, h.row.cellAt i hi]
theorem OwnC.below {T : TypeId} {m lo hi : Nat} {w w' : World} {v : Value} {n : Nat} {C : List Value} (h : OwnC T m lo hi w v n C) (hb : Below w.heap.size w w') : OwnC T m lo hi w' v n C := by
  refine ⟨⟨h.row.1, ?_⟩, h.top, Nat.le_trans h.fits hb.size⟩
  rcases h.row.2 with h0 | ⟨g, cap, cur, rfl, h1, h2, h3⟩
  · exact .inl h0
  · have hg := (h.row.lt g rfl).2
    exact .inr ⟨g, cap, cur, rfl, h1, by rw [hb.block g hg]; exact h2, h3⟩
theorem OwnC.mono {T : TypeId} {m lo hi lo' hi' : Nat} {w : World} {v : Value} {n : Nat} {C : List Value} (h : OwnC T m lo hi w v n C) (h1 : lo' ≤ lo) (h2 : hi ≤ hi') (h3 : hi' ≤ w.heap.size) : OwnC T m lo' hi' w v n C := by
  refine ⟨⟨h.row.1, ?_⟩, fun k hk => Nat.lt_of_lt_of_le (h.top k hk) h2, h3⟩
  rcases h.row.2 with h0 | ⟨g, cap, cur, rfl, h4, h5⟩
  · exact .inl h0
  · exact .inr ⟨g, cap, cur, rfl, Nat.le_trans h1 h4, h5⟩
theorem OwnC.drewN {T : TypeId} {m lo hi : Nat} {w : World} {v : Value} {n : Nat} {C : List Value} (h : OwnC T m lo hi w v n C) (q : Nat) : OwnC T m lo hi (w.drewN q) v n C := ⟨h.row, h.top, h.fits⟩
theorem ownC_of {T : TypeId} {m B : Nat} {w : World} {v : Value} {n : Nat} {C : List Value} (h : w.ownsRow B T m v n C) : OwnC T m B w.heap.size w v n C := ⟨h, fun j hj => (h.lt j hj).2, Nat.le_refl _⟩
/-- Writing in another row of the call's own leaves this one. -/
theorem OwnC.beside {T : TypeId} {m lo hi lo2 hi2 : Nat} {w w' : World} {v v2 : Value} {n : Nat} {C : List Value} {L2 : List Int} (h : OwnC T m lo hi w v n C) (h2 : OwnI lo2 hi2 w v2 L2) (hg : w.grownBy w' v2.ownBlock) (hd : hi ≤ lo2 ∨ hi2 ≤ lo) : OwnC T m lo hi w' v n C := by
  refine ⟨h.row.kept hg ?_, h.top, Nat.le_trans h.fits hg.size⟩
  cases hv : v.ownBlock with
  | none => exact .inl rfl
  | some k =>
    refine .inr ?_
    rw [← hv]
    intro he
    have a1 := (h.row.lt k hv).1
    have a2 := h.top k hv
    rw [hv] at he
    have b1 := (h2.row.lt k he.symm).1
    have b2 := h2.top k he.symm
    omega
theorem OwnI.besideC {T : TypeId} {m lo hi lo2 hi2 : Nat} {w w' : World} {v v2 : Value} {n : Nat} {C : List Value} {L : List Int} (h : OwnI lo hi w v L) (h2 : OwnC T m lo2 hi2 w v2 n C) (hg : w.grownBy w' v2.ownBlock) (hd : hi ≤ lo2 ∨ hi2 ≤ lo) : OwnI lo hi w' v L := by
  refine ⟨h.row.kept hg ?_, h.top, Nat.le_trans h.fits hg.size⟩
  cases hv : v.ownBlock with
  | none => exact .inl rfl
  | some k =>
    refine .inr ?_
    rw [← hv]
    intro he
    have a1 := (h.row.lt k hv).1
    have a2 := h.top k hv
    rw [hv] at he
    have b1 := (h2.row.lt k he.symm).1
    have b2 := h2.top k he.symm
    omega
theorem OwnC.slice {T : TypeId} {m lo hi : Nat} {w : World} {v : Value} {n : Nat} {C : List Value} (h : OwnC T m lo hi w v n C) : ∃ a c, v = .slice a n c := by
  obtain ⟨a, c, e, _⟩ := h.sl; exact ⟨a, c, e⟩
end Go.Proofs.YtckmkjkckadfjaaDoor
