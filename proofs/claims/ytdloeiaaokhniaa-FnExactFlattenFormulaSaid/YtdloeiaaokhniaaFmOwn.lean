/- Formulas in memory of the call's own: which blocks hold them. -/
import Derived.Test.YtdloeiaaokhniaaFmMem
namespace Go.Proofs.Ytdloeiaaokhniaa
open Go.RowKit
open FL

/-- A slice of n formulas, its block in h. -/
def HdB (w : World) (v : Value) (n : Nat) (D : List Value) (h : List Nat) : Prop :=
  ∃ a cap, v = .slice a n cap ∧ n ≤ cap ∧ cap ≤ maxLen ∧ ((n = 0 ∧ h = []) ∨ ∃ b off, a = some ⟨b, off, none⟩ ∧ h = [b] ∧ b < w.heap.size ∧ (∀ j, w.frozen? ⟨b, off + j, none⟩ = false) ∧ ∀ j, j < n * 5 → w.cell? ⟨b, off + j, none⟩ = D[j]?)
def InB (w : World) : FL → List Value → List Nat → Prop
  | nil, C, bs => C = [] ∧ bs = []
  | cons k a b c g r, C, bs => ∃ v D E h p q, C = .int .i64 k :: .int .i64 a :: .int .i64 b :: .int .i64 c :: v :: E ∧ bs = (h ++ p) ++ q ∧ HdB w v g.len D h ∧ InB w g D p ∧ InB w r E q
def KidsB (w : World) (v : Value) (g : FL) (bs : List Nat) : Prop := ∃ C h p, bs = h ++ p ∧ HdB w v g.len C h ∧ InB w g C p

theorem HdB.mono {w w' : World} {v : Value} {n : Nat} {D : List Value} {h : List Nat} (k : HdB w v n D h) (hs : ∀ b ∈ h, b < w'.heap.size ∧ w'.heap[b]? = w.heap[b]?) : HdB w' v n D h := by
  obtain ⟨a, cap, rfl, h1, h2, h3⟩ := k
  refine ⟨a, cap, rfl, h1, h2, ?_⟩
  rcases h3 with h3 | ⟨b, off, e, rfl, hb, hf, hc⟩
  · exact .inl h3
  · obtain ⟨k2, k3⟩ := hs b (List.mem_singleton.2 rfl)
    exact .inr ⟨b, off, e, rfl, k2, fun j => by rw [World.frozen?_of_block (w := w) k3]; exact hf j, fun j hj => by rw [World.cell?_of_block (w := w) k3]; exact hc j hj⟩
theorem InB.mono {w w' : World} : ∀ {g : FL} {C : List Value} {bs : List Nat}, InB w g C bs → (∀ b ∈ bs, b < w'.heap.size ∧ w'.heap[b]? = w.heap[b]?) → InB w' g C bs
  | nil, C, bs, h, _ => h
  | cons k a b c g r, C, bs, h, hs => by
    obtain ⟨v, D, E, hh, p, q, e, rfl, h1, h2, h3⟩ := h
    exact ⟨v, D, E, hh, p, q, e, rfl, h1.mono (fun x hx => hs x (by simp [hx])), h2.mono (fun x hx => hs x (by simp [hx])), h3.mono (fun x hx => hs x (by simp [hx]))⟩
theorem KidsB.mono {w w' : World} {v : Value} {g : FL} {bs : List Nat} (k : KidsB w v g bs) (hs : ∀ b ∈ bs, b < w'.heap.size ∧ w'.heap[b]? = w.heap[b]?) : KidsB w' v g bs := by
  obtain ⟨C, h, p, rfl, h1, h2⟩ := k
  exact ⟨C, h, p, rfl, h1.mono (fun x hx => hs x (by simp [hx])), h2.mono (fun x hx => hs x (by simp [hx]))⟩
theorem HdB.sl {S : Nat → Prop} {w : World} {v : Value} {n : Nat} {D : List Value} {h : List Nat} (k : HdB w v n D h) (hs : ∀ b ∈ h, S b) : SlS S w v n D := by
  obtain ⟨a, cap, rfl, h1, h2, h3⟩ := k
  refine ⟨a, cap, rfl, h1, h2, ?_⟩
  rcases h3 with h3 | ⟨b, off, e, rfl, hb, hf, hc⟩
  · exact .inl h3.1
  · exact .inr ⟨b, off, e, hs b (List.mem_singleton.2 rfl), hb, hc⟩
theorem InB.inL {S : Nat → Prop} {w : World} : ∀ {g : FL} {C : List Value} {bs : List Nat}, InB w g C bs → (∀ b ∈ bs, S b) → InL S w g C
  | nil, C, bs, h, _ => h.1
  | cons k a b c g r, C, bs, h, hs => by
    obtain ⟨v, D, E, hh, p, q, e, rfl, h1, h2, h3⟩ := h
    exact ⟨v, D, E, e, h1.sl (fun x hx => hs x (by simp [hx])), h2.inL (fun x hx => hs x (by simp [hx])), h3.inL (fun x hx => hs x (by simp [hx]))⟩
theorem KidsB.kids {S : Nat → Prop} {w : World} {v : Value} {g : FL} {bs : List Nat} (k : KidsB w v g bs) (hs : ∀ b ∈ bs, S b) : Kids S w v g := by
  obtain ⟨C, h, p, rfl, h1, h2⟩ := k
  exact ⟨C, h1.sl (fun x hx => hs x (by simp [hx])), h2.inL (fun x hx => hs x (by simp [hx]))⟩
theorem InB.app {w : World} : ∀ {f g : FL} {C D : List Value} {p q : List Nat}, InB w f C p → InB w g D q → InB w (f.app g) (C ++ D) (p ++ q)
  | nil, g, C, D, p, q, h, k => by obtain ⟨rfl, rfl⟩ := h; exact k
  | cons k a b c f r, g, C, D, p, q, h, hk => by
    obtain ⟨v, D', E, hh, p', q', rfl, rfl, h1, h2, h3⟩ := h
    exact ⟨v, D', E ++ D, hh, p', q' ++ q, rfl, by simp, h1, h2, InB.app h3 hk⟩
theorem InB.one {w : World} {k a b c : Int} {v : Value} {g : FL} {bs : List Nat} (h : KidsB w v g bs) : InB w (cons k a b c g nil) [.int .i64 k, .int .i64 a, .int .i64 b, .int .i64 c, v] bs := by
  obtain ⟨C, hh, p, rfl, h1, h2⟩ := h
  exact ⟨v, C, [], hh, p, [], rfl, by simp, h1, h2, rfl, rfl⟩
theorem InB.len {w : World} {g : FL} {C : List Value} {bs : List Nat} (h : InB w g C bs) : C.length = g.len * 5 := (h.inL (S := AllS) (fun _ _ => trivial)).len

theorem InB.one_cell {w : World} : ∀ {g : FL} {C : List Value} {bs : List Nat}, InB w g C bs → ∀ u ∈ C, u.oneCell' = true
  | nil, C, bs, h => fun u hu => by obtain ⟨rfl, _⟩ := h; simp at hu
  | cons k a b c g r, C, bs, h => by
    obtain ⟨v, D, E, hh, p, q, rfl, rfl, ⟨a, cap, rfl, _⟩, h2, h3⟩ := h
    have := InB.one_cell h3
    intro u hu
    simp only [List.mem_cons] at hu
    rcases hu with rfl | rfl | rfl | rfl | rfl | hu
    · rfl
    · rfl
    · rfl
    · rfl
    · rfl
    · exact this u hu
/-- A slice of kids in memory of the call's own: its blocks lie in [lo, hi), each used once. -/
def OwnFm (lo hi : Nat) (w : World) (v : Value) (g : FL) : Prop := hi ≤ w.heap.size ∧ ∃ bs, KidsB w v g bs ∧ bs.Nodup ∧ ∀ b ∈ bs, lo ≤ b ∧ b < hi
/-- The cells of kids in memory of the call's own; the row's own block x is none of theirs. -/
def OwnL (lo hi : Nat) (w : World) (g : FL) (C : List Value) (x : Option Nat) : Prop := hi ≤ w.heap.size ∧ ∃ bs, InB w g C bs ∧ bs.Nodup ∧ ∀ b ∈ bs, lo ≤ b ∧ b < hi ∧ some b ≠ x
theorem OwnFm.kids {lo hi : Nat} {w : World} {v : Value} {g : FL} (h : OwnFm lo hi w v g) : Kids AllS w v g := by
  obtain ⟨_, bs, h1, _⟩ := h
  exact h1.kids (fun _ _ => trivial)
theorem OwnFm.kidsS {lo hi : Nat} {w : World} {v : Value} {g : FL} (h : OwnFm lo hi w v g) : Kids (fun b => lo ≤ b ∧ b < hi) w v g := by
  obtain ⟨_, bs, h1, _, h3⟩ := h
  exact h1.kids h3
theorem OwnFm.of_same {lo hi : Nat} {w w' : World} {v : Value} {g : FL} (h : OwnFm lo hi w v g) (hz : w.heap.size ≤ w'.heap.size) (hs : ∀ b, lo ≤ b → b < hi → w'.heap[b]? = w.heap[b]?) : OwnFm lo hi w' v g := by
  obtain ⟨h0, bs, h1, h2, h3⟩ := h
  exact ⟨Nat.le_trans h0 hz, bs, h1.mono (fun b hb => ⟨by have := h3 b hb; omega, hs b (h3 b hb).1 (h3 b hb).2⟩), h2, h3⟩
theorem OwnL.of_same {lo hi : Nat} {w w' : World} {g : FL} {C : List Value} {x : Option Nat} (h : OwnL lo hi w g C x) (hz : w.heap.size ≤ w'.heap.size) (hs : ∀ b, lo ≤ b → b < hi → some b ≠ x → w'.heap[b]? = w.heap[b]?) : OwnL lo hi w' g C x := by
  obtain ⟨h0, bs, h1, h2, h3⟩ := h
  exact ⟨Nat.le_trans h0 hz, bs, h1.mono (fun b hb => ⟨by have := h3 b hb; omega, hs b (h3 b hb).1 (h3 b hb).2.1 (h3 b hb).2.2⟩), h2, h3⟩
theorem OwnFm.below {lo hi : Nat} {w w' : World} {v : Value} {g : FL} (h : OwnFm lo hi w v g) (hb : Below w.heap.size w w') : OwnFm lo hi w' v g :=
  h.of_same hb.size (fun b _ h2 => hb.block b (Nat.lt_of_lt_of_le h2 h.1))
theorem OwnL.below {lo hi : Nat} {w w' : World} {g : FL} {C : List Value} {x : Option Nat} (h : OwnL lo hi w g C x) (hb : Below w.heap.size w w') : OwnL lo hi w' g C x :=
  h.of_same hb.size (fun b _ h2 _ => hb.block b (Nat.lt_of_lt_of_le h2 h.1))
/-- The row moved to a newer block, or stayed where it was. -/
theorem OwnL.grown {lo hi : Nat} {w w' : World} {g : FL} {C : List Value} {x x' : Option Nat} (h : OwnL lo hi w g C x) (hg : w.grownBy w' x) (hx : ∀ k, x' = some k → x = some k ∨ w.heap.size ≤ k) : OwnL lo hi w' g C x' := by
  have h' := h.of_same hg.size (fun b _ h2 h3 => hg.block b (Nat.lt_of_lt_of_le h2 h.1) h3)
  obtain ⟨h0, bs, h1, h2, h3⟩ := h'
  refine ⟨h0, bs, h1, h2, fun b hb => ⟨(h3 b hb).1, (h3 b hb).2.1, fun e => ?_⟩⟩
  rcases hx b e.symm with e2 | e2
  · exact (h3 b hb).2.2 e2.symm
  · have := (h3 b hb).2.1; have := h.1; omega
theorem OwnFm.drewN {lo hi : Nat} {w : World} {v : Value} {g : FL} (h : OwnFm lo hi w v g) (n : Nat) : OwnFm lo hi (w.drewN n) v g := h.of_same (Nat.le_refl _) (fun _ _ _ => rfl)
theorem OwnFm.mono {lo hi lo' hi' : Nat} {w : World} {v : Value} {g : FL} (h : OwnFm lo hi w v g) (h1 : lo' ≤ lo) (h2 : hi ≤ hi') (h3 : hi' ≤ w.heap.size) : OwnFm lo' hi' w v g := by
  obtain ⟨h0, bs, k1, k2, k3⟩ := h
  exact ⟨h3, bs, k1, k2, fun b hb => by have := k3 b hb; omega⟩
theorem OwnL.mono {lo hi lo' hi' : Nat} {w : World} {g : FL} {C : List Value} {x : Option Nat} (h : OwnL lo hi w g C x) (h1 : lo' ≤ lo) (h2 : hi ≤ hi') (h3 : hi' ≤ w.heap.size) : OwnL lo' hi' w g C x := by
  obtain ⟨h0, bs, k1, k2, k3⟩ := h
  exact ⟨h3, bs, k1, k2, fun b hb => by have := k3 b hb; exact ⟨by omega, by omega, this.2.2⟩⟩
theorem OwnL.empty (lo : Nat) (w : World) (x : Option Nat) : OwnL lo w.heap.size w nil [] x := ⟨Nat.le_refl _, [], ⟨rfl, rfl⟩, List.nodup_nil, fun b hb => by simp at hb⟩
/-- One kid more, made later. -/
theorem OwnL.snoc {lo m hi : Nat} {w : World} {f : FL} {C : List Value} {k a b c : Int} {v : Value} {g : FL} {x : Option Nat} (h : OwnL lo m w f C x) (h2 : OwnFm m hi w v g) (hm : lo ≤ m) (hmh : m ≤ hi) (hx : ∀ j, x = some j → j < m) : OwnL lo hi w (f.app (cons k a b c g nil)) (C ++ [.int .i64 k, .int .i64 a, .int .i64 b, .int .i64 c, v]) x := by
  obtain ⟨_, bs, k1, k2, k3⟩ := h
  obtain ⟨h0, cs, j1, j2, j3⟩ := h2
  refine ⟨h0, bs ++ cs, k1.app (InB.one j1), List.nodup_append.2 ⟨k2, j2, fun y hy z hz e => ?_⟩, fun y hy => ?_⟩
  · have := k3 y hy; have := j3 z hz; omega
  · rcases List.mem_append.1 hy with hy | hy
    · have := k3 y hy; exact ⟨by omega, by omega, this.2.2⟩
    · have := j3 y hy; exact ⟨by omega, by omega, fun e => by have := hx y e.symm; omega⟩
/-- Many kids more, made later; their cells were copied. -/
theorem OwnL.join {lo m hi : Nat} {w : World} {f : FL} {C : List Value} {v : Value} {g : FL} {x : Option Nat} (h : OwnL lo m w f C x) (h2 : OwnFm m hi w v g) (hm : lo ≤ m) (hmh : m ≤ hi) (hx : ∀ j, x = some j → j < m) :
    ∃ D, (∃ a cap, v = .slice a g.len cap ∧ (g.len = 0 ∨ ∃ b off, a = some ⟨b, off, none⟩ ∧ b < w.heap.size ∧ ∀ j, j < g.len * 5 → w.cell? ⟨b, off + j, none⟩ = D[j]?)) ∧ D.length = g.len * 5 ∧ (∀ u ∈ D, u.oneCell' = true) ∧ OwnL lo hi w (f.app g) (C ++ D) x := by
  obtain ⟨_, bs, k1, k2, k3⟩ := h
  obtain ⟨h0, cs, j1, j2, j3⟩ := h2
  obtain ⟨D, hh, p, rfl, ⟨a, cap, rfl, _, _, hd⟩, j5⟩ := j1
  refine ⟨D, ⟨a, cap, rfl, ?_⟩, j5.len, j5.one_cell, h0, bs ++ p, k1.app j5, List.nodup_append.2 ⟨k2, (List.nodup_append.1 j2).2.1, fun y hy z hz e => ?_⟩, fun y hy => ?_⟩
  · rcases hd with hd | ⟨b, off, e, _, hb, _, hc⟩
    · exact .inl hd.1
    · exact .inr ⟨b, off, e, hb, hc⟩
  · have := k3 y hy; have := j3 z (by simp [hz]); omega
  · rcases List.mem_append.1 hy with hy | hy
    · have := k3 y hy; exact ⟨by omega, by omega, this.2.2⟩
    · have := j3 y (by simp [hy]); exact ⟨by omega, by omega, fun e => by have := hx y e.symm; omega⟩
/-- A row of the call's own over kids of the call's own. -/
theorem OwnFm.of_row {T : TypeId} {B lo hi n : Nat} {w : World} {v : Value} {g : FL} {C : List Value} (h : w.ownsRow B T 5 v n C) (hn : n = g.len) (hL : OwnL lo hi w g C v.ownBlock) (hlo : lo ≤ B) : OwnFm lo w.heap.size w v g := by
  subst hn
  obtain ⟨h0, bs, k1, k2, k3⟩ := hL
  rcases h.2 with ⟨rfl, hz⟩ | ⟨k, cap, cur, rfl, h1, h2, h3, h4, h5, h6⟩
  · refine ⟨Nat.le_refl _, bs, ⟨C, [], bs, by simp, ⟨none, 0, by rw [hz], by omega, Nat.zero_le _, .inl ⟨hz, rfl⟩⟩, k1⟩, k2, fun b hb => by have := k3 b hb; omega⟩
  · have hk := (h.lt k rfl).2
    refine ⟨Nat.le_refl _, k :: bs, ⟨C, [k], bs, rfl, ⟨some ⟨k, 0, none⟩, cap, rfl, h3, h4, .inr ⟨k, 0, rfl, rfl, hk, fun j => ?_, fun j hj => ?_⟩⟩, k1⟩, List.nodup_cons.2 ⟨fun hx => ?_, k2⟩, fun b hb => ?_⟩
    · rw [Nat.zero_add]; exact h.frozenAt j
    · rw [Nat.zero_add]; exact h.cellAt j hj
    · exact (k3 k hx).2.2 rfl
    · rcases List.mem_cons.1 hb with rfl | hb
      · omega
      · have := k3 b hb; omega
end Go.Proofs.Ytdloeiaaokhniaa
