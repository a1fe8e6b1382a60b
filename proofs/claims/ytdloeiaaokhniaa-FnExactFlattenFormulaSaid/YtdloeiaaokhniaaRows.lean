/-
  NARROWER THAN 'FOR EVERY INPUT', by the rows' own cells (each row's printed sentence says how): FnExactValidFormula: loops · FnExactFormulaSize: loops · FnExactLayoutFormula: loops · FnExactFlattenFormula: loops.
  DERIVED. THE GIVEN ROWS OF THIS SEAT. 8 by the template 'for every input the law returns true; each argument reads behind the call as it read before'; 0 by the template 'total and deterministic' (their statements: YtdloeiaaokhniaaTotals.lean).
  GIVEN WITH THE SEED: the statements are not yours to turn. If you find one false, say at which input.
  Laid BY PROGRAM, IN A SANDBOX (cutbox-rows.mjs): the forced cells as the released guide's own fill.sh prints them over the translation 772f618fa3337f4c… (all of the seat's roots in one cut). By AI agents, Wed Nov 11 2026. No macro, syntax, notation, axiom, sorry.
-/
import Derived.Test.YtdloeiaaokhniaaChecked
import GoSem.Claim
import GoSem.ClaimJoined
import GoSem.ClaimMapViews
import Derived.JoinedTies
import Derived.KernelRfl
namespace Go.Proofs.Ytdloeiaaokhniaa
/- THE CELL 'sum', in the pinned program and in every row, IS THE sha256 OF THE DUMP (.gsa) THAT YtdloeiaaokhniaaProg.lean LOADS. Nothing in Lean hashes anything: it is a label: what it is worth is what the hold of that sum in a sandbox is worth. -/
noncomputable def Try.pinned : Pinned := { name := "ytdloeiaaokhniaa", sum := "772f618fa3337f4ca68473a59885ba6629bd098d4dc9193dca5bf01a2b1c8276", checked := Try.checked }
namespace Rows
def none {H : Type} : Left H := { results := [], args := [] }

/-- 'laws.FnExactValidFormula': WHATEVER THE INPUT: true; the input reads as it did. -/
def fnExactValidFormulaSpec : ChangeSpec := { name := "fnExactValidFormula", fn := fun _ => fun
  | [d] => { results := [.lit (.bool true)], args := [d] }
  | _ => none }
def fnExactValidFormulaRow : OpenClaim := { program := "ytdloeiaaokhniaa", sum := "772f618fa3337f4ca68473a59885ba6629bd098d4dc9193dca5bf01a2b1c8276", func := "loop.example/typesetting/laws.FnExactValidFormula", spec := "fnExactValidFormula", recurses := true, loops := true, apart := false }
def FnExactValidFormulaSaid : Prop := fnExactValidFormulaRow.holds Try.pinned (OpenSpec.ofChange fnExactValidFormulaSpec)

/-- ITS FALSE NEIGHBOUR: 'it returns false'. Refute it at one input. -/
def fnExactValidFormulaWrong : ChangeSpec := { name := "fnExactValidFormula", fn := fun _ => fun
  | [d] => { results := [.lit (.bool false)], args := [d] }
  | _ => none }
def FnExactValidFormulaWrongFalsely : Prop := fnExactValidFormulaRow.holds Try.pinned (OpenSpec.ofChange fnExactValidFormulaWrong)

/-- 'laws.FnFormulaSize': WHATEVER THE INPUT: true; the input reads as it did. -/
def fnFormulaSizeSpec : ChangeSpec := { name := "fnFormulaSize", fn := fun _ => fun
  | [d] => { results := [.lit (.bool true)], args := [d] }
  | _ => none }
def fnFormulaSizeRow : OpenClaim := { program := "ytdloeiaaokhniaa", sum := "772f618fa3337f4ca68473a59885ba6629bd098d4dc9193dca5bf01a2b1c8276", func := "loop.example/typesetting/laws.FnFormulaSize", spec := "fnFormulaSize", recurses := true, apart := false }
def FnFormulaSizeSaid : Prop := fnFormulaSizeRow.holds Try.pinned (OpenSpec.ofChange fnFormulaSizeSpec)

/-- ITS FALSE NEIGHBOUR: 'it returns false'. Refute it at one input. -/
def fnFormulaSizeWrong : ChangeSpec := { name := "fnFormulaSize", fn := fun _ => fun
  | [d] => { results := [.lit (.bool false)], args := [d] }
  | _ => none }
def FnFormulaSizeWrongFalsely : Prop := fnFormulaSizeRow.holds Try.pinned (OpenSpec.ofChange fnFormulaSizeWrong)

/-- 'laws.FnExactFormulaSize': WHATEVER THE INPUT: true; the input reads as it did. -/
def fnExactFormulaSizeSpec : ChangeSpec := { name := "fnExactFormulaSize", fn := fun _ => fun
  | [d] => { results := [.lit (.bool true)], args := [d] }
  | _ => none }
def fnExactFormulaSizeRow : OpenClaim := { program := "ytdloeiaaokhniaa", sum := "772f618fa3337f4ca68473a59885ba6629bd098d4dc9193dca5bf01a2b1c8276", func := "loop.example/typesetting/laws.FnExactFormulaSize", spec := "fnExactFormulaSize", recurses := true, loops := true, apart := false }
def FnExactFormulaSizeSaid : Prop := fnExactFormulaSizeRow.holds Try.pinned (OpenSpec.ofChange fnExactFormulaSizeSpec)

/-- ITS FALSE NEIGHBOUR: 'it returns false'. Refute it at one input. -/
def fnExactFormulaSizeWrong : ChangeSpec := { name := "fnExactFormulaSize", fn := fun _ => fun
  | [d] => { results := [.lit (.bool false)], args := [d] }
  | _ => none }
def FnExactFormulaSizeWrongFalsely : Prop := fnExactFormulaSizeRow.holds Try.pinned (OpenSpec.ofChange fnExactFormulaSizeWrong)

/-- 'laws.FnLayoutWidth': WHATEVER THE INPUT: true; the input reads as it did. -/
def fnLayoutWidthSpec : ChangeSpec := { name := "fnLayoutWidth", fn := fun _ => fun
  | [d] => { results := [.lit (.bool true)], args := [d] }
  | _ => none }
def fnLayoutWidthRow : OpenClaim := { program := "ytdloeiaaokhniaa", sum := "772f618fa3337f4ca68473a59885ba6629bd098d4dc9193dca5bf01a2b1c8276", func := "loop.example/typesetting/laws.FnLayoutWidth", spec := "fnLayoutWidth", recurses := true, apart := false }
def FnLayoutWidthSaid : Prop := fnLayoutWidthRow.holds Try.pinned (OpenSpec.ofChange fnLayoutWidthSpec)

/-- ITS FALSE NEIGHBOUR: 'it returns false'. Refute it at one input. -/
def fnLayoutWidthWrong : ChangeSpec := { name := "fnLayoutWidth", fn := fun _ => fun
  | [d] => { results := [.lit (.bool false)], args := [d] }
  | _ => none }
def FnLayoutWidthWrongFalsely : Prop := fnLayoutWidthRow.holds Try.pinned (OpenSpec.ofChange fnLayoutWidthWrong)

/-- 'laws.FnLayoutRow': WHATEVER THE INPUT: true; the input reads as it did. -/
def fnLayoutRowSpec : ChangeSpec := { name := "fnLayoutRow", fn := fun _ => fun
  | [d] => { results := [.lit (.bool true)], args := [d] }
  | _ => none }
def fnLayoutRowRow : OpenClaim := { program := "ytdloeiaaokhniaa", sum := "772f618fa3337f4ca68473a59885ba6629bd098d4dc9193dca5bf01a2b1c8276", func := "loop.example/typesetting/laws.FnLayoutRow", spec := "fnLayoutRow", recurses := true, apart := false }
def FnLayoutRowSaid : Prop := fnLayoutRowRow.holds Try.pinned (OpenSpec.ofChange fnLayoutRowSpec)

/-- ITS FALSE NEIGHBOUR: 'it returns false'. Refute it at one input. -/
def fnLayoutRowWrong : ChangeSpec := { name := "fnLayoutRow", fn := fun _ => fun
  | [d] => { results := [.lit (.bool false)], args := [d] }
  | _ => none }
def FnLayoutRowWrongFalsely : Prop := fnLayoutRowRow.holds Try.pinned (OpenSpec.ofChange fnLayoutRowWrong)

/-- 'laws.FnFlattenFormula': WHATEVER THE INPUT: true; the input reads as it did. -/
def fnFlattenFormulaSpec : ChangeSpec := { name := "fnFlattenFormula", fn := fun _ => fun
  | [d] => { results := [.lit (.bool true)], args := [d] }
  | _ => none }
def fnFlattenFormulaRow : OpenClaim := { program := "ytdloeiaaokhniaa", sum := "772f618fa3337f4ca68473a59885ba6629bd098d4dc9193dca5bf01a2b1c8276", func := "loop.example/typesetting/laws.FnFlattenFormula", spec := "fnFlattenFormula", recurses := true, apart := false }
def FnFlattenFormulaSaid : Prop := fnFlattenFormulaRow.holds Try.pinned (OpenSpec.ofChange fnFlattenFormulaSpec)

/-- ITS FALSE NEIGHBOUR: 'it returns false'. Refute it at one input. -/
def fnFlattenFormulaWrong : ChangeSpec := { name := "fnFlattenFormula", fn := fun _ => fun
  | [d] => { results := [.lit (.bool false)], args := [d] }
  | _ => none }
def FnFlattenFormulaWrongFalsely : Prop := fnFlattenFormulaRow.holds Try.pinned (OpenSpec.ofChange fnFlattenFormulaWrong)

/-- 'laws.FnExactLayoutFormula': WHATEVER THE INPUT: true; the input reads as it did. -/
def fnExactLayoutFormulaSpec : ChangeSpec := { name := "fnExactLayoutFormula", fn := fun _ => fun
  | [d] => { results := [.lit (.bool true)], args := [d] }
  | _ => none }
def fnExactLayoutFormulaRow : OpenClaim := { program := "ytdloeiaaokhniaa", sum := "772f618fa3337f4ca68473a59885ba6629bd098d4dc9193dca5bf01a2b1c8276", func := "loop.example/typesetting/laws.FnExactLayoutFormula", spec := "fnExactLayoutFormula", recurses := true, loops := true, apart := false }
def FnExactLayoutFormulaSaid : Prop := fnExactLayoutFormulaRow.holds Try.pinned (OpenSpec.ofChange fnExactLayoutFormulaSpec)

/-- ITS FALSE NEIGHBOUR: 'it returns false'. Refute it at one input. -/
def fnExactLayoutFormulaWrong : ChangeSpec := { name := "fnExactLayoutFormula", fn := fun _ => fun
  | [d] => { results := [.lit (.bool false)], args := [d] }
  | _ => none }
def FnExactLayoutFormulaWrongFalsely : Prop := fnExactLayoutFormulaRow.holds Try.pinned (OpenSpec.ofChange fnExactLayoutFormulaWrong)

/-- 'laws.FnExactFlattenFormula': WHATEVER THE INPUT: true; the input reads as it did. -/
def fnExactFlattenFormulaSpec : ChangeSpec := { name := "fnExactFlattenFormula", fn := fun _ => fun
  | [d] => { results := [.lit (.bool true)], args := [d] }
  | _ => none }
def fnExactFlattenFormulaRow : OpenClaim := { program := "ytdloeiaaokhniaa", sum := "772f618fa3337f4ca68473a59885ba6629bd098d4dc9193dca5bf01a2b1c8276", func := "loop.example/typesetting/laws.FnExactFlattenFormula", spec := "fnExactFlattenFormula", recurses := true, loops := true, apart := false }
def FnExactFlattenFormulaSaid : Prop := fnExactFlattenFormulaRow.holds Try.pinned (OpenSpec.ofChange fnExactFlattenFormulaSpec)

/-- ITS FALSE NEIGHBOUR: 'it returns false'. Refute it at one input. -/
def fnExactFlattenFormulaWrong : ChangeSpec := { name := "fnExactFlattenFormula", fn := fun _ => fun
  | [d] => { results := [.lit (.bool false)], args := [d] }
  | _ => none }
def FnExactFlattenFormulaWrongFalsely : Prop := fnExactFlattenFormulaRow.holds Try.pinned (OpenSpec.ofChange fnExactFlattenFormulaWrong)

/- THE SECOND FORM. 'bulk': how many values and letters a reading holds, each counted each time it is reached (what is shared counts as often as it is met; a slice's spare places count too). A statement '..UptoSaid' is the law's where the arguments, and the package variables that the reading takes, are together of bulk at most 1048576: NARROWER than '..Said'. Prove '..Said' where nothing that the law and all that it calls make is longer than what came in: it says more and counts as full. Else prove '..UptoSaid'. A law counts once. -/
mutual
def uptoBulk {H : Type} : DataW H → Nat
  | .lit (.string bytes) => bytes.length + 1
  | .lit _ => 1
  | .nil => 1
  | .ptr d => uptoBulk d + 1
  | .slice elems spare => uptoBulkAll elems + uptoBulkAll spare + 1
  | .agg parts => uptoBulkAll parts + 1
  | .iface _ d => uptoBulk d + 1
  | .map entries => uptoBulkEntries entries + 1
  | .held _ => 1
def uptoBulkAll {H : Type} : List (DataW H) → Nat
  | [] => 0
  | d :: r => uptoBulk d + uptoBulkAll r
def uptoBulkEntries {H : Type} : List (Lit × DataW H) → Nat
  | [] => 0
  | x :: r => uptoBulkEntry x + uptoBulkEntries r
def uptoBulkEntry {H : Type} : Lit × DataW H → Nat
  | (.string bytes, d) => bytes.length + uptoBulk d + 1
  | (_, d) => uptoBulk d + 1
 end
def uptoSmall : (H : Type) → List (DataW H) → Bool := fun _ ds => decide (uptoBulkAll ds ≤ 1048576)
def OpenSpec.upto (s : _root_.Go.ChangeSpec) : _root_.Go.OpenSpec := { _root_.Go.OpenSpec.ofChange s with cond := some uptoSmall }

/-- 'laws.FnExactValidFormula', WHERE WHAT IT READS IS OF BULK AT MOST 1048576: true; the input reads as it did. -/
def fnExactValidFormulaUptoRow : OpenClaim := { program := "ytdloeiaaokhniaa", sum := "772f618fa3337f4ca68473a59885ba6629bd098d4dc9193dca5bf01a2b1c8276", func := "loop.example/typesetting/laws.FnExactValidFormula", spec := "fnExactValidFormula", recurses := true, loops := true, apart := false, narrowed := true }
def FnExactValidFormulaUptoSaid : Prop := fnExactValidFormulaUptoRow.holds Try.pinned (OpenSpec.upto fnExactValidFormulaSpec)

/-- 'laws.FnFormulaSize', WHERE WHAT IT READS IS OF BULK AT MOST 1048576: true; the input reads as it did. -/
def fnFormulaSizeUptoRow : OpenClaim := { program := "ytdloeiaaokhniaa", sum := "772f618fa3337f4ca68473a59885ba6629bd098d4dc9193dca5bf01a2b1c8276", func := "loop.example/typesetting/laws.FnFormulaSize", spec := "fnFormulaSize", recurses := true, apart := false, narrowed := true }
def FnFormulaSizeUptoSaid : Prop := fnFormulaSizeUptoRow.holds Try.pinned (OpenSpec.upto fnFormulaSizeSpec)

/-- 'laws.FnExactFormulaSize', WHERE WHAT IT READS IS OF BULK AT MOST 1048576: true; the input reads as it did. -/
def fnExactFormulaSizeUptoRow : OpenClaim := { program := "ytdloeiaaokhniaa", sum := "772f618fa3337f4ca68473a59885ba6629bd098d4dc9193dca5bf01a2b1c8276", func := "loop.example/typesetting/laws.FnExactFormulaSize", spec := "fnExactFormulaSize", recurses := true, loops := true, apart := false, narrowed := true }
def FnExactFormulaSizeUptoSaid : Prop := fnExactFormulaSizeUptoRow.holds Try.pinned (OpenSpec.upto fnExactFormulaSizeSpec)

/-- 'laws.FnLayoutWidth', WHERE WHAT IT READS IS OF BULK AT MOST 1048576: true; the input reads as it did. -/
def fnLayoutWidthUptoRow : OpenClaim := { program := "ytdloeiaaokhniaa", sum := "772f618fa3337f4ca68473a59885ba6629bd098d4dc9193dca5bf01a2b1c8276", func := "loop.example/typesetting/laws.FnLayoutWidth", spec := "fnLayoutWidth", recurses := true, apart := false, narrowed := true }
def FnLayoutWidthUptoSaid : Prop := fnLayoutWidthUptoRow.holds Try.pinned (OpenSpec.upto fnLayoutWidthSpec)

/-- 'laws.FnLayoutRow', WHERE WHAT IT READS IS OF BULK AT MOST 1048576: true; the input reads as it did. -/
def fnLayoutRowUptoRow : OpenClaim := { program := "ytdloeiaaokhniaa", sum := "772f618fa3337f4ca68473a59885ba6629bd098d4dc9193dca5bf01a2b1c8276", func := "loop.example/typesetting/laws.FnLayoutRow", spec := "fnLayoutRow", recurses := true, apart := false, narrowed := true }
def FnLayoutRowUptoSaid : Prop := fnLayoutRowUptoRow.holds Try.pinned (OpenSpec.upto fnLayoutRowSpec)

/-- 'laws.FnFlattenFormula', WHERE WHAT IT READS IS OF BULK AT MOST 1048576: true; the input reads as it did. -/
def fnFlattenFormulaUptoRow : OpenClaim := { program := "ytdloeiaaokhniaa", sum := "772f618fa3337f4ca68473a59885ba6629bd098d4dc9193dca5bf01a2b1c8276", func := "loop.example/typesetting/laws.FnFlattenFormula", spec := "fnFlattenFormula", recurses := true, apart := false, narrowed := true }
def FnFlattenFormulaUptoSaid : Prop := fnFlattenFormulaUptoRow.holds Try.pinned (OpenSpec.upto fnFlattenFormulaSpec)

/-- 'laws.FnExactLayoutFormula', WHERE WHAT IT READS IS OF BULK AT MOST 1048576: true; the input reads as it did. -/
def fnExactLayoutFormulaUptoRow : OpenClaim := { program := "ytdloeiaaokhniaa", sum := "772f618fa3337f4ca68473a59885ba6629bd098d4dc9193dca5bf01a2b1c8276", func := "loop.example/typesetting/laws.FnExactLayoutFormula", spec := "fnExactLayoutFormula", recurses := true, loops := true, apart := false, narrowed := true }
def FnExactLayoutFormulaUptoSaid : Prop := fnExactLayoutFormulaUptoRow.holds Try.pinned (OpenSpec.upto fnExactLayoutFormulaSpec)

/-- 'laws.FnExactFlattenFormula', WHERE WHAT IT READS IS OF BULK AT MOST 1048576: true; the input reads as it did. -/
def fnExactFlattenFormulaUptoRow : OpenClaim := { program := "ytdloeiaaokhniaa", sum := "772f618fa3337f4ca68473a59885ba6629bd098d4dc9193dca5bf01a2b1c8276", func := "loop.example/typesetting/laws.FnExactFlattenFormula", spec := "fnExactFlattenFormula", recurses := true, loops := true, apart := false, narrowed := true }
def FnExactFlattenFormulaUptoSaid : Prop := fnExactFlattenFormulaUptoRow.holds Try.pinned (OpenSpec.upto fnExactFlattenFormulaSpec)

end Rows
end Go.Proofs.Ytdloeiaaokhniaa
