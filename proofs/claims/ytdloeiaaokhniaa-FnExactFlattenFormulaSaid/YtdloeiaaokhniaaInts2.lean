/- Slices of ints: marking every cell and holding the marks against the list. -/
import Derived.Test.YtdloeiaaokhniaaInts
namespace Go.Proofs.Ytdloeiaaokhniaa
open Go.RowKit
set_option maxHeartbeats 400000

theorem grownBy_trans {a b c : World} {row : Option Nat} (h : a.grownBy b row) (k : b.grownBy c row) : a.grownBy c row :=
  ⟨k.os.trans h.os, k.tape.trans h.tape, k.output.trans h.output, Nat.le_trans h.size k.size, fun i hi hn => (k.block i (Nat.lt_of_lt_of_le hi h.size) hn).trans (h.block i hi hn)⟩

def marks (k : Int) (n : Nat) : List Int := (List.range n).map (fun j : Nat => k + (j : Int))
theorem marks_length (k : Int) (n : Nat) : (marks k n).length = n := by simp [marks]
theorem marks_getD (k : Int) (n j : Nat) (h : j < n) : (marks k n).getD j 0 = k + j := by simp [marks, List.getD_eq_getElem?_getD, h]

def Marked (lo hi : Nat) (v : Value) (k : Int) (n : Nat) (w : World) (e : Ending) (w' : World) : Prop := e = .returned (.int .i64 (k + n)) ∧ OwnI lo hi w' v (marks k n) ∧ w.grownBy w' v.ownBlock

end Go.Proofs.Ytdloeiaaokhniaa
