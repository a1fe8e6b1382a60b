/- The reader of codes: what (*reader).pick gives back and what it leaves of memory. -/
import Derived.Test.YtgppljadkpoklaaBase
namespace Go.Proofs.Ytgppljadkpoklaa
open Go.RowKit
set_option maxHeartbeats 400000

/-- All blocks of old but the reader's are as they were. -/
structure Keeps (rb : Nat) (w w' : World) : Prop where
  below : Below rb w w'
  others : ∀ k, k < w.heap.size → k ≠ rb → w'.heap[k]? = w.heap[k]?
theorem Keeps.refl (rb : Nat) (w : World) : Keeps rb w w := ⟨Below.refl _ _, fun _ _ _ => rfl⟩
theorem Keeps.trans {rb : Nat} {a b c : World} (h : Keeps rb a b) (k : Keeps rb b c) : Keeps rb a c :=
  ⟨h.below.trans k.below, fun i hi hn => (k.others i (Nat.lt_of_lt_of_le hi h.below.size) hn).trans (h.others i hi hn)⟩
theorem Keeps.of_below {rb : Nat} {w w' : World} (hr : rb < w.heap.size) (h : Below w.heap.size w w') : Keeps rb w w' :=
  ⟨h.mono (Nat.le_of_lt hr), fun k hk _ => h.block k hk⟩
theorem Keeps.cell {rb : Nat} {w w' : World} (h : Keeps rb w w') {b o : Nat} (hb : b < w.heap.size) (hn : b ≠ rb) : w'.cell? ⟨b, o, none⟩ = w.cell? ⟨b, o, none⟩ :=
  World.cell?_of_block (w := w) (h.others b hb hn)
theorem Keeps.frozen {rb : Nat} {w w' : World} (h : Keeps rb w w') {b o : Nat} (hb : b < w.heap.size) (hn : b ≠ rb) : w'.frozen? ⟨b, o, none⟩ = w.frozen? ⟨b, o, none⟩ :=
  World.frozen?_of_block (w := w) (h.others b hb hn)
theorem Keeps.below_of {rb B : Nat} {w w' : World} (h : Keeps rb w w') (hB : B ≤ rb) : Below B w w' := h.below.mono hB

/-- In world w a reader lies in block rb, over bytes that lie below it; at most P numbers have been picked. -/
structure Rdr (w : World) (rb : Nat) (P : Nat) : Prop where
  lies : rb < w.heap.size
  free : w.frozen? ⟨rb, 1, none⟩ = false
  held : ∃ (sv : Option Addr) (len cap k : Nat), k ≤ P ∧ len ≤ 2000 ∧ w.cell? ⟨rb, 0, none⟩ = some (.slice sv len cap) ∧ w.cell? ⟨rb, 1, none⟩ = some (.int .i64 k) ∧
    (len = 0 ∨ ∃ (b off : Nat) (z : Nat → Int), sv = some ⟨b, off, none⟩ ∧ b < rb ∧ ∀ i, i < len → w.cell? ⟨b, off + i, none⟩ = some (.int .u8 (z i)) ∧ 0 ≤ z i ∧ z i ≤ 255)

theorem Rdr.mono {w : World} {rb P Q : Nat} (h : Rdr w rb P) (hq : P ≤ Q) : Rdr w rb Q :=
  ⟨h.lies, h.free, let ⟨sv, len, cap, k, hk, r⟩ := h.held; ⟨sv, len, cap, k, Nat.le_trans hk hq, r⟩⟩
/-- A call that only makes memory leaves the reader as it was. -/
theorem Rdr.below {w w' : World} {rb P : Nat} (h : Rdr w rb P) (hb : Below w.heap.size w w') : Rdr w' rb P := by
  refine ⟨Nat.lt_of_lt_of_le h.lies hb.size, by rw [(bcell hb).2 _ _ h.lies]; exact h.free, ?_⟩
  obtain ⟨sv, len, cap, k, hk, hl, c0, c1, r⟩ := h.held
  refine ⟨sv, len, cap, k, hk, hl, by rw [(bcell hb).1 _ _ h.lies]; exact c0, by rw [(bcell hb).1 _ _ h.lies]; exact c1, ?_⟩
  rcases r with r | ⟨b, off, z, e, hbr, hz⟩
  · exact .inl r
  · exact .inr ⟨b, off, z, e, hbr, fun i hi => by rw [(bcell hb).1 _ _ (Nat.lt_trans hbr h.lies)]; exact hz i hi⟩
theorem Rdr.drewN {w : World} {rb P : Nat} (h : Rdr w rb P) (n : Nat) : Rdr (w.drewN n) rb P := ⟨h.lies, h.free, h.held⟩

/-- What pick leaves, its position one further. -/
theorem Rdr.step {w : World} {rb P k : Nat} {sv : Option Addr} {len cap : Nat} (h : Rdr w rb P) (hk : k ≤ P) (hl : len ≤ 2000) (c0 : w.cell? ⟨rb, 0, none⟩ = some (.slice sv len cap))
    (c1 : w.cell? ⟨rb, 1, none⟩ = some (.int .i64 k)) (r : len = 0 ∨ ∃ (b off : Nat) (z : Nat → Int), sv = some ⟨b, off, none⟩ ∧ b < rb ∧ ∀ i, i < len → w.cell? ⟨b, off + i, none⟩ = some (.int .u8 (z i)) ∧ 0 ≤ z i ∧ z i ≤ 255) :
    Rdr (w.setCell ⟨rb, 1, none⟩ (.int .i64 ((k : Int) + 1))) rb (P + 1) ∧ Keeps rb w (w.setCell ⟨rb, 1, none⟩ (.int .i64 ((k : Int) + 1))) := by
  have hbl : Below rb w (w.setCell ⟨rb, 1, none⟩ (.int .i64 ((k : Int) + 1))) := Below.setCell (p := ⟨rb, 1, none⟩) (Below.refl _ _) (Nat.le_refl rb) _
  refine ⟨⟨Nat.lt_of_lt_of_le h.lies hbl.size, ?_, sv, len, cap, k + 1, by omega, hl, ?_, ?_, ?_⟩, hbl, fun i _ hn => Below.heap_setCell _ _ _ _ hn⟩
  · simpa [go_sem] using h.free
  · simpa [go_sem] using c0
  · simp [go_sem, c1]
  · rcases r with r | ⟨b, off, z, e, hbr, hz⟩
    · exact .inl r
    · refine .inr ⟨b, off, z, e, hbr, fun i hi => ?_⟩
      have := hbl.cell (p := ⟨b, off + i, none⟩) hbr
      rw [this]; exact hz i hi

def Picked (n : Int) (rb P : Nat) (w : World) (e : Ending) (w' : World) : Prop :=
  ∃ v : Nat, (v : Int) < n ∧ e = .returned (.int .i64 (v : Int)) ∧ Rdr w' rb P ∧ Keeps rb w w'

end Go.Proofs.Ytgppljadkpoklaa
