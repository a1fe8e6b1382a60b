/- Mentions in the laws: sizes, copies, comparison, marks. -/
import Derived.Test.YtflnbpiegcepcaaDoorIdxMen
import Derived.Test.YtflnbpiegcepcaaDoorIdxMark
import Derived.StillTailTactics
namespace Go.Proofs.YtflnbpiegcepcaaDoor
open Go.RowKit
set_option maxHeartbeats 4000000
set_option maxRecDepth 100000
set_option linter.unusedVariables false

theorem menInfo : (Tryd.prog.info? 74).map (fun i => (i.zero, i.size, i.bytes)) = some (some (.agg #[.string ⟨#[]⟩, .int .i64 0]), 2, 24) := by kernel_rfl
def Sized (n : Nat) (left : Int) (w : World) (e : Ending) (w' : World) : Prop := ∃ r : Int, e = .returned (.int .i64 r) ∧ r ≤ left ∧ (0 ≤ r → (n : Int) ≤ left) ∧ Below w.heap.size w w'
/-- Mentions in a row of the call's own. -/
def OwnM (lo hi : Nat) (w : World) (v : Value) (M : List Men) : Prop := OwnC 74 2 lo hi w v M.length (mC M)
theorem OwnM.sl {lo hi : Nat} {w : World} {v : Value} {M : List Men} (h : OwnM lo hi w v M) : SlM w v M := OwnC.sl h
theorem mC_end (M : List Men) (C : List Value) (n : Nat) (hn : n = M.length) (h1 : C.length = n * 2) (h2 : ∀ j, j < n * 2 → C[j]? = (mC M)[j]?) : C = mC M := by
  subst hn
  apply List.ext_getElem?
  intro j
  by_cases hj : j < M.length * 2
  · exact h2 j hj
  · rw [List.getElem?_eq_none (by omega), List.getElem?_eq_none (by rw [mC_len]; omega)]
end Go.Proofs.YtflnbpiegcepcaaDoor
