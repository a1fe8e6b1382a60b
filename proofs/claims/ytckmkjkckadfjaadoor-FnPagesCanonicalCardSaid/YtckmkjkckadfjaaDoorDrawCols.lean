/- Drawn heights and ends: short lists of numbers. -/
import Derived.Test.YtckmkjkckadfjaaDoorEqualInts
namespace Go.Proofs.YtckmkjkckadfjaaDoor
open Go.RowKit
set_option maxHeartbeats 1000000
set_option maxRecDepth 100000

theorem own_rowD {B : Nat} {w : World} {v : Value} {n : Nat} {L : List Int} (h : w.ownsRow B 3 1 v n (L.map (Value.int .i64))) (hn : L.length = n) : OwnI B w.heap.size w v L :=
  ⟨by rw [hn]; exact h, fun j hj => (h.lt j hj).2, Nat.le_refl _⟩
theorem Keeps.grown {rb : Nat} {w wr w' : World} {row : Option Nat} (h : Keeps rb w wr) (hg : wr.grownBy w' row) (hr : rb < w.heap.size) (hk : ∀ k, row = some k → w.heap.size ≤ k) : Keeps rb w w' :=
  ⟨h.below.grown hg (Nat.le_trans (Nat.le_of_lt hr) h.below.size) (fun k e => Nat.le_trans (Nat.le_of_lt hr) (hk k e)), fun i hi hn => (hg.block i (Nat.lt_of_lt_of_le hi h.below.size) (fun e => by have := hk i e.symm; omega)).trans (h.others i hi hn)⟩
/-- A short list of numbers, drawn. -/
def DrewR (rb P m : Nat) (w : World) (e : Ending) (w' : World) : Prop := ∃ (v : Value) (L : List Int), L.length ≤ m ∧ e = .returned v ∧ OwnI w.heap.size w'.heap.size w' v L ∧ Rdr w' rb P ∧ Keeps rb w w'

end Go.Proofs.YtckmkjkckadfjaaDoor
