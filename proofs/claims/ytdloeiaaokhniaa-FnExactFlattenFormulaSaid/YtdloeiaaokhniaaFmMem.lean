/- Formulas in memory: five cells a kid, in blocks out of a set. -/
import Derived.Test.YtdloeiaaokhniaaFmPlain
import Derived.Test.YtdloeiaaokhniaaStructs
namespace Go.Proofs.Ytdloeiaaokhniaa
open Go.RowKit
open FL

/-- A slice of n formulas whose block lies in S. -/
def SlS (S : Nat → Prop) (w : World) (v : Value) (n : Nat) (C : List Value) : Prop :=
  ∃ a cap, v = .slice a n cap ∧ n ≤ cap ∧ cap ≤ maxLen ∧ (n = 0 ∨ ∃ b off, a = some ⟨b, off, none⟩ ∧ S b ∧ b < w.heap.size ∧ ∀ j, j < n * 5 → w.cell? ⟨b, off + j, none⟩ = C[j]?)
/-- The cells of kids. -/
def InL (S : Nat → Prop) (w : World) : FL → List Value → Prop
  | nil, C => C = []
  | cons k a b c g r, C => ∃ v D E, C = .int .i64 k :: .int .i64 a :: .int .i64 b :: .int .i64 c :: v :: E ∧ SlS S w v g.len D ∧ InL S w g D ∧ InL S w r E
/-- A slice of kids. -/
def Kids (S : Nat → Prop) (w : World) (v : Value) (g : FL) : Prop := ∃ C, SlS S w v g.len C ∧ InL S w g C
/-- The value of a formula. -/
def fmV (k a b c : Int) (v : Value) : Value := .agg #[.int .i64 k, .int .i64 a, .int .i64 b, .int .i64 c, v]

theorem InL.len {S : Nat → Prop} {w : World} : ∀ {g : FL} {C : List Value}, InL S w g C → C.length = g.len * 5
  | nil, C, h => by rw [InL] at h; subst h; simp [FL.len]
  | cons k a b c g r, C, h => by
    obtain ⟨v, D, E, rfl, _, _, h3⟩ := h
    have := InL.len h3
    simp only [List.length_cons, FL.len]; omega
theorem SlS.mono {S S' : Nat → Prop} {w w' : World} {v : Value} {n : Nat} {C : List Value} (h : SlS S w v n C) (hs : ∀ b, S b → b < w.heap.size → S' b ∧ b < w'.heap.size ∧ w'.heap[b]? = w.heap[b]?) : SlS S' w' v n C := by
  obtain ⟨a, cap, rfl, h1, h2, h3⟩ := h
  refine ⟨a, cap, rfl, h1, h2, ?_⟩
  rcases h3 with h3 | ⟨b, off, e, hS, hb, hc⟩
  · exact .inl h3
  · obtain ⟨k1, k2, k3⟩ := hs b hS hb
    exact .inr ⟨b, off, e, k1, k2, fun j hj => by rw [World.cell?_of_block (w := w) k3]; exact hc j hj⟩
theorem InL.mono {S S' : Nat → Prop} {w w' : World} (hs : ∀ b, S b → b < w.heap.size → S' b ∧ b < w'.heap.size ∧ w'.heap[b]? = w.heap[b]?) : ∀ {g : FL} {C : List Value}, InL S w g C → InL S' w' g C
  | nil, C, h => h
  | cons k a b c g r, C, h => by
    obtain ⟨v, D, E, e, h1, h2, h3⟩ := h
    exact ⟨v, D, E, e, h1.mono hs, InL.mono hs h2, InL.mono hs h3⟩
theorem Kids.mono {S S' : Nat → Prop} {w w' : World} {v : Value} {g : FL} (h : Kids S w v g) (hs : ∀ b, S b → b < w.heap.size → S' b ∧ b < w'.heap.size ∧ w'.heap[b]? = w.heap[b]?) : Kids S' w' v g := by
  obtain ⟨C, h1, h2⟩ := h
  exact ⟨C, h1.mono hs, h2.mono hs⟩
theorem Kids.wide {S S' : Nat → Prop} {w : World} {v : Value} {g : FL} (h : Kids S w v g) (hs : ∀ b, S b → b < w.heap.size → S' b) : Kids S' w v g := h.mono (fun b h1 h2 => ⟨hs b h1 h2, h2, rfl⟩)
theorem Kids.below {S : Nat → Prop} {w w' : World} {v : Value} {g : FL} (h : Kids S w v g) (hb : Below w.heap.size w w') : Kids S w' v g :=
  h.mono (fun b h1 h2 => ⟨h1, Nat.lt_of_lt_of_le h2 hb.size, hb.block b h2⟩)
theorem Kids.drewN {S : Nat → Prop} {w : World} {v : Value} {g : FL} (h : Kids S w v g) (n : Nat) : Kids S (w.drewN n) v g := h.mono (fun _ h1 h2 => ⟨h1, h2, rfl⟩)
theorem InL.drop {S : Nat → Prop} {w : World} : ∀ (n : Nat) {g : FL} {C : List Value}, InL S w g C → InL S w (FL.drop n g) (C.drop (n * 5))
  | 0, g, C, h => by simpa [FL.drop] using h
  | n + 1, nil, C, h => by rw [InL] at h; subst h; simp [FL.drop, InL]
  | n + 1, cons k a b c g r, C, h => by
    obtain ⟨v, D, E, rfl, _, _, h3⟩ := h
    have := InL.drop n h3
    rw [FL.drop, show (n + 1) * 5 = n * 5 + 1 + 1 + 1 + 1 + 1 by omega]
    simpa using this
theorem InL.app {S : Nat → Prop} {w : World} : ∀ {f g : FL} {C D : List Value}, InL S w f C → InL S w g D → InL S w (f.app g) (C ++ D)
  | nil, g, C, D, h, k => by rw [InL] at h; subst h; exact k
  | cons k a b c f r, g, C, D, h, hk => by
    obtain ⟨v, D', E, rfl, h1, h2, h3⟩ := h
    exact ⟨v, D', E ++ D, rfl, h1, h2, InL.app h3 hk⟩
theorem InL.one {S : Nat → Prop} {w : World} {k a b c : Int} {v : Value} {g : FL} (h : Kids S w v g) : InL S w (cons k a b c g nil) [.int .i64 k, .int .i64 a, .int .i64 b, .int .i64 c, v] := by
  obtain ⟨C, h1, h2⟩ := h
  exact ⟨v, C, [], rfl, h1, h2, rfl⟩
/-- The five cells of a kid. -/
theorem InL.at {S : Nat → Prop} {w : World} {i : Nat} {g : FL} {C : List Value} {k a b c : Int} {h r : FL} (hi : InL S w g C) (e : FL.drop i g = cons k a b c h r) :
    ∃ v, C[i * 5]? = some (.int .i64 k) ∧ C[i * 5 + 1]? = some (.int .i64 a) ∧ C[i * 5 + 2]? = some (.int .i64 b) ∧ C[i * 5 + 3]? = some (.int .i64 c) ∧ C[i * 5 + 4]? = some v ∧ Kids S w v h := by
  have h0 := InL.drop i hi
  rw [e] at h0
  obtain ⟨v, D, E, hC, h1, h2, _⟩ := h0
  have hg : ∀ j, C[i * 5 + j]? = (C.drop (i * 5))[j]? := fun j => by rw [List.getElem?_drop]
  refine ⟨v, ?_, ?_, ?_, ?_, ?_, D, h1, h2⟩
  · have := hg 0; rw [Nat.add_zero] at this; rw [this, hC]; rfl
  · rw [hg 1, hC]; rfl
  · rw [hg 2, hC]; rfl
  · rw [hg 3, hC]; rfl
  · rw [hg 4, hC]; rfl
/-- A slice of kids, its cells one by one. -/
theorem Kids.cells {S : Nat → Prop} {w : World} {v : Value} {g : FL} (h : Kids S w v g) :
    ∃ a cap, v = .slice a g.len cap ∧ g.len ≤ cap ∧ cap ≤ maxLen ∧ (0 < g.len → ∃ b off, a = some ⟨b, off, none⟩ ∧ S b ∧ b < w.heap.size ∧
      ∀ i k x y z f r, FL.drop i g = cons k x y z f r → ∃ u, w.cell? ⟨b, off + i * 5, none⟩ = some (.int .i64 k) ∧ w.cell? ⟨b, off + i * 5 + 1, none⟩ = some (.int .i64 x) ∧ w.cell? ⟨b, off + i * 5 + 2, none⟩ = some (.int .i64 y) ∧ w.cell? ⟨b, off + i * 5 + 3, none⟩ = some (.int .i64 z) ∧ w.cell? ⟨b, off + i * 5 + 4, none⟩ = some u ∧ Kids S w u f) := by
  obtain ⟨C, ⟨a, cap, rfl, h1, h2, h3⟩, hI⟩ := h
  refine ⟨a, cap, rfl, h1, h2, fun h0 => ?_⟩
  rcases h3 with h3 | ⟨b, off, e, hS, hb, hc⟩
  · omega
  · refine ⟨b, off, e, hS, hb, fun i k x y z f r hd => ?_⟩
    obtain ⟨u, c0, c1, c2, c3, c4, hk⟩ := hI.at hd
    have hlen : i < g.len := by
      have := len_drop i g
      rw [hd, FL.len] at this; omega
    refine ⟨u, ?_, ?_, ?_, ?_, ?_, hk⟩
    · rw [hc _ (by omega)]; exact c0
    · rw [Nat.add_assoc, hc _ (by omega)]; exact c1
    · rw [Nat.add_assoc, hc _ (by omega)]; exact c2
    · rw [Nat.add_assoc, hc _ (by omega)]; exact c3
    · rw [Nat.add_assoc, hc _ (by omega)]; exact c4
theorem Kids.nil {S : Nat → Prop} {w : World} : Kids S w (.slice none 0 0) nil := ⟨[], ⟨none, 0, rfl, Nat.le_refl _, Nat.zero_le _, .inl rfl⟩, rfl⟩
def AllS : Nat → Prop := fun _ => True
theorem Kids.all {S : Nat → Prop} {w : World} {v : Value} {g : FL} (h : Kids S w v g) : Kids AllS w v g := h.wide (fun _ _ _ => trivial)
end Go.Proofs.Ytdloeiaaokhniaa
