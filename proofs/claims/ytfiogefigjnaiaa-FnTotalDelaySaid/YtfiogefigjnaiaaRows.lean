/-
  No cell of these rows narrows 'for every input' (looked for: loops, veiled, ifaces, maps, wideKeys, modest, calm, conditions, laid).
  DERIVED. THE GIVEN ROWS OF THIS SEAT. 5 by the template 'for every input the law returns true; each argument reads behind the call as it read before'; 0 by the template 'total and deterministic' (their statements: YtfiogefigjnaiaaTotals.lean).
  GIVEN WITH THE SEED: the statements are not yours to turn. If you find one false, say at which input.
  Laid BY PROGRAM, IN A SANDBOX (cutbox-rows.mjs): the forced cells as the released guide's own fill.sh prints them over the translation 01ee799bb73d511a… (all of the seat's roots in one cut). By AI agents, Wed Nov 11 2026. No macro, syntax, notation, axiom, sorry.
-/
import Derived.Test.YtfiogefigjnaiaaChecked
import GoSem.Claim
import GoSem.ClaimJoined
import GoSem.ClaimMapViews
import Derived.JoinedTies
import Derived.KernelRfl
namespace Go.Proofs.Ytfiogefigjnaiaa
/- THE CELL 'sum', in the pinned program and in every row, IS THE sha256 OF THE DUMP (.gsa) THAT YtfiogefigjnaiaaProg.lean LOADS. Nothing in Lean hashes anything: it is a label: what it is worth is what the hold of that sum in a sandbox is worth. -/
noncomputable def Try.pinned : Pinned := { name := "ytfiogefigjnaiaa", sum := "01ee799bb73d511a5d5040d57163ab70c3aff4bd29ca08dd35a187fcfe26072d", checked := Try.checked }
namespace Rows
def none {H : Type} : Left H := { results := [], args := [] }

/-- 'laws.FnExactTotalDelay': WHATEVER THE INPUT: true; the input reads as it did. -/
def fnExactTotalDelaySpec : ChangeSpec := { name := "fnExactTotalDelay", fn := fun _ => fun
  | [d1, d2, d3] => { results := [.lit (.bool true)], args := [d1, d2, d3] }
  | _ => none }
def fnExactTotalDelayRow : OpenClaim := { program := "ytfiogefigjnaiaa", sum := "01ee799bb73d511a5d5040d57163ab70c3aff4bd29ca08dd35a187fcfe26072d", func := "loop.example/typesetting/laws.FnExactTotalDelay", spec := "fnExactTotalDelay", apart := false }
def FnExactTotalDelaySaid : Prop := fnExactTotalDelayRow.holds Try.pinned (OpenSpec.ofChange fnExactTotalDelaySpec)

/-- ITS FALSE NEIGHBOUR: 'it returns false'. Refute it at one input. -/
def fnExactTotalDelayWrong : ChangeSpec := { name := "fnExactTotalDelay", fn := fun _ => fun
  | [d1, d2, d3] => { results := [.lit (.bool false)], args := [d1, d2, d3] }
  | _ => none }
def FnExactTotalDelayWrongFalsely : Prop := fnExactTotalDelayRow.holds Try.pinned (OpenSpec.ofChange fnExactTotalDelayWrong)

/-- 'laws.FnExactPlaceFigures': WHATEVER THE INPUT: true; the input reads as it did. -/
def fnExactPlaceFiguresSpec : ChangeSpec := { name := "fnExactPlaceFigures", fn := fun _ => fun
  | [d1, d2] => { results := [.lit (.bool true)], args := [d1, d2] }
  | _ => none }
def fnExactPlaceFiguresRow : OpenClaim := { program := "ytfiogefigjnaiaa", sum := "01ee799bb73d511a5d5040d57163ab70c3aff4bd29ca08dd35a187fcfe26072d", func := "loop.example/typesetting/laws.FnExactPlaceFigures", spec := "fnExactPlaceFigures", apart := false }
def FnExactPlaceFiguresSaid : Prop := fnExactPlaceFiguresRow.holds Try.pinned (OpenSpec.ofChange fnExactPlaceFiguresSpec)

/-- ITS FALSE NEIGHBOUR: 'it returns false'. Refute it at one input. -/
def fnExactPlaceFiguresWrong : ChangeSpec := { name := "fnExactPlaceFigures", fn := fun _ => fun
  | [d1, d2] => { results := [.lit (.bool false)], args := [d1, d2] }
  | _ => none }
def FnExactPlaceFiguresWrongFalsely : Prop := fnExactPlaceFiguresRow.holds Try.pinned (OpenSpec.ofChange fnExactPlaceFiguresWrong)

/-- 'laws.FnPlaceFigures': WHATEVER THE INPUT: true; the input reads as it did. -/
def fnPlaceFiguresSpec : ChangeSpec := { name := "fnPlaceFigures", fn := fun _ => fun
  | [d] => { results := [.lit (.bool true)], args := [d] }
  | _ => none }
def fnPlaceFiguresRow : OpenClaim := { program := "ytfiogefigjnaiaa", sum := "01ee799bb73d511a5d5040d57163ab70c3aff4bd29ca08dd35a187fcfe26072d", func := "loop.example/typesetting/laws.FnPlaceFigures", spec := "fnPlaceFigures", apart := false }
def FnPlaceFiguresSaid : Prop := fnPlaceFiguresRow.holds Try.pinned (OpenSpec.ofChange fnPlaceFiguresSpec)

/-- ITS FALSE NEIGHBOUR: 'it returns false'. Refute it at one input. -/
def fnPlaceFiguresWrong : ChangeSpec := { name := "fnPlaceFigures", fn := fun _ => fun
  | [d] => { results := [.lit (.bool false)], args := [d] }
  | _ => none }
def FnPlaceFiguresWrongFalsely : Prop := fnPlaceFiguresRow.holds Try.pinned (OpenSpec.ofChange fnPlaceFiguresWrong)

/-- 'laws.FnFiguresEarliest': WHATEVER THE INPUT: true; the input reads as it did. -/
def fnFiguresEarliestSpec : ChangeSpec := { name := "fnFiguresEarliest", fn := fun _ => fun
  | [d] => { results := [.lit (.bool true)], args := [d] }
  | _ => none }
def fnFiguresEarliestRow : OpenClaim := { program := "ytfiogefigjnaiaa", sum := "01ee799bb73d511a5d5040d57163ab70c3aff4bd29ca08dd35a187fcfe26072d", func := "loop.example/typesetting/laws.FnFiguresEarliest", spec := "fnFiguresEarliest", apart := false }
def FnFiguresEarliestSaid : Prop := fnFiguresEarliestRow.holds Try.pinned (OpenSpec.ofChange fnFiguresEarliestSpec)

/-- ITS FALSE NEIGHBOUR: 'it returns false'. Refute it at one input. -/
def fnFiguresEarliestWrong : ChangeSpec := { name := "fnFiguresEarliest", fn := fun _ => fun
  | [d] => { results := [.lit (.bool false)], args := [d] }
  | _ => none }
def FnFiguresEarliestWrongFalsely : Prop := fnFiguresEarliestRow.holds Try.pinned (OpenSpec.ofChange fnFiguresEarliestWrong)

/-- 'laws.FnTotalDelay': WHATEVER THE INPUT: true; the input reads as it did. -/
def fnTotalDelaySpec : ChangeSpec := { name := "fnTotalDelay", fn := fun _ => fun
  | [d] => { results := [.lit (.bool true)], args := [d] }
  | _ => none }
def fnTotalDelayRow : OpenClaim := { program := "ytfiogefigjnaiaa", sum := "01ee799bb73d511a5d5040d57163ab70c3aff4bd29ca08dd35a187fcfe26072d", func := "loop.example/typesetting/laws.FnTotalDelay", spec := "fnTotalDelay", apart := false }
def FnTotalDelaySaid : Prop := fnTotalDelayRow.holds Try.pinned (OpenSpec.ofChange fnTotalDelaySpec)

/-- ITS FALSE NEIGHBOUR: 'it returns false'. Refute it at one input. -/
def fnTotalDelayWrong : ChangeSpec := { name := "fnTotalDelay", fn := fun _ => fun
  | [d] => { results := [.lit (.bool false)], args := [d] }
  | _ => none }
def FnTotalDelayWrongFalsely : Prop := fnTotalDelayRow.holds Try.pinned (OpenSpec.ofChange fnTotalDelayWrong)

/- THE SECOND FORM. 'bulk': how many values and letters a reading holds, each counted each time it is reached (what is shared counts as often as it is met; a slice's spare places count too). A statement '..UptoSaid' is the law's where the arguments, and the package variables that the reading takes, are together of bulk at most 1048576: NARROWER than '..Said'. Prove '..Said' where nothing that the law and all that it calls make is longer than what came in: it says more and counts as full. Else prove '..UptoSaid'. A law counts once. -/
mutual
def uptoBulk {H : Type} : DataW H → Nat
  | .lit (.string bytes) => bytes.length + 1
  | .lit _ => 1
  | .nil => 1
  | .ptr d => uptoBulk d + 1
  | .slice elems spare => uptoBulkAll elems + uptoBulkAll spare + 1
  | .agg parts => uptoBulkAll parts + 1
  | .iface _ d => uptoBulk d + 1
  | .map entries => uptoBulkEntries entries + 1
  | .held _ => 1
def uptoBulkAll {H : Type} : List (DataW H) → Nat
  | [] => 0
  | d :: r => uptoBulk d + uptoBulkAll r
def uptoBulkEntries {H : Type} : List (Lit × DataW H) → Nat
  | [] => 0
  | x :: r => uptoBulkEntry x + uptoBulkEntries r
def uptoBulkEntry {H : Type} : Lit × DataW H → Nat
  | (.string bytes, d) => bytes.length + uptoBulk d + 1
  | (_, d) => uptoBulk d + 1
 end
def uptoSmall : (H : Type) → List (DataW H) → Bool := fun _ ds => decide (uptoBulkAll ds ≤ 1048576)
def OpenSpec.upto (s : _root_.Go.ChangeSpec) : _root_.Go.OpenSpec := { _root_.Go.OpenSpec.ofChange s with cond := some uptoSmall }

/-- 'laws.FnExactTotalDelay', WHERE WHAT IT READS IS OF BULK AT MOST 1048576: true; the input reads as it did. -/
def fnExactTotalDelayUptoRow : OpenClaim := { program := "ytfiogefigjnaiaa", sum := "01ee799bb73d511a5d5040d57163ab70c3aff4bd29ca08dd35a187fcfe26072d", func := "loop.example/typesetting/laws.FnExactTotalDelay", spec := "fnExactTotalDelay", apart := false, narrowed := true }
def FnExactTotalDelayUptoSaid : Prop := fnExactTotalDelayUptoRow.holds Try.pinned (OpenSpec.upto fnExactTotalDelaySpec)

/-- 'laws.FnExactPlaceFigures', WHERE WHAT IT READS IS OF BULK AT MOST 1048576: true; the input reads as it did. -/
def fnExactPlaceFiguresUptoRow : OpenClaim := { program := "ytfiogefigjnaiaa", sum := "01ee799bb73d511a5d5040d57163ab70c3aff4bd29ca08dd35a187fcfe26072d", func := "loop.example/typesetting/laws.FnExactPlaceFigures", spec := "fnExactPlaceFigures", apart := false, narrowed := true }
def FnExactPlaceFiguresUptoSaid : Prop := fnExactPlaceFiguresUptoRow.holds Try.pinned (OpenSpec.upto fnExactPlaceFiguresSpec)

/-- 'laws.FnPlaceFigures', WHERE WHAT IT READS IS OF BULK AT MOST 1048576: true; the input reads as it did. -/
def fnPlaceFiguresUptoRow : OpenClaim := { program := "ytfiogefigjnaiaa", sum := "01ee799bb73d511a5d5040d57163ab70c3aff4bd29ca08dd35a187fcfe26072d", func := "loop.example/typesetting/laws.FnPlaceFigures", spec := "fnPlaceFigures", apart := false, narrowed := true }
def FnPlaceFiguresUptoSaid : Prop := fnPlaceFiguresUptoRow.holds Try.pinned (OpenSpec.upto fnPlaceFiguresSpec)

/-- 'laws.FnFiguresEarliest', WHERE WHAT IT READS IS OF BULK AT MOST 1048576: true; the input reads as it did. -/
def fnFiguresEarliestUptoRow : OpenClaim := { program := "ytfiogefigjnaiaa", sum := "01ee799bb73d511a5d5040d57163ab70c3aff4bd29ca08dd35a187fcfe26072d", func := "loop.example/typesetting/laws.FnFiguresEarliest", spec := "fnFiguresEarliest", apart := false, narrowed := true }
def FnFiguresEarliestUptoSaid : Prop := fnFiguresEarliestUptoRow.holds Try.pinned (OpenSpec.upto fnFiguresEarliestSpec)

/-- 'laws.FnTotalDelay', WHERE WHAT IT READS IS OF BULK AT MOST 1048576: true; the input reads as it did. -/
def fnTotalDelayUptoRow : OpenClaim := { program := "ytfiogefigjnaiaa", sum := "01ee799bb73d511a5d5040d57163ab70c3aff4bd29ca08dd35a187fcfe26072d", func := "loop.example/typesetting/laws.FnTotalDelay", spec := "fnTotalDelay", apart := false, narrowed := true }
def FnTotalDelayUptoSaid : Prop := fnTotalDelayUptoRow.holds Try.pinned (OpenSpec.upto fnTotalDelaySpec)

end Rows
end Go.Proofs.Ytfiogefigjnaiaa
