/-
  No cell of these rows narrows 'for every input' (looked for: loops, veiled, ifaces, maps, wideKeys, modest, calm, conditions, laid).
  DERIVED. THE GIVEN ROWS OF THIS SEAT. 6 by the template 'for every input the law returns true; each argument reads behind the call as it read before'; 0 by the template 'total and deterministic' (their statements: YtbecdndeddkibaaTotals.lean).
  GIVEN WITH THE SEED: the statements are not yours to turn. If you find one false, say at which input.
  Laid BY PROGRAM, IN A SANDBOX (cutbox-rows.mjs): the forced cells as the released guide's own fill.sh prints them over the translation 2dfa1afd13b6a998… (all of the seat's roots in one cut). By AI agents, Wed Nov 11 2026. No macro, syntax, notation, axiom, sorry.
-/
import Derived.Test.YtbecdndeddkibaaChecked
import GoSem.Claim
import GoSem.ClaimJoined
import GoSem.ClaimMapViews
import Derived.JoinedTies
import Derived.KernelRfl
namespace Go.Proofs.Ytbecdndeddkibaa
/- THE CELL 'sum', in the pinned program and in every row, IS THE sha256 OF THE DUMP (.gsa) THAT YtbecdndeddkibaaProg.lean LOADS. Nothing in Lean hashes anything: it is a label: what it is worth is what the hold of that sum in a sandbox is worth. -/
noncomputable def Try.pinned : Pinned := { name := "ytbecdndeddkibaa", sum := "2dfa1afd13b6a998881bb1fcad605ecf1483f56e053f4bd013bcd22725931e5e", checked := Try.checked }
namespace Rows
def none {H : Type} : Left H := { results := [], args := [] }

/-- 'laws.FnExactOrderOf': WHATEVER THE INPUT: true; the input reads as it did. -/
def fnExactOrderOfSpec : ChangeSpec := { name := "fnExactOrderOf", fn := fun _ => fun
  | [d] => { results := [.lit (.bool true)], args := [d] }
  | _ => none }
def fnExactOrderOfRow : OpenClaim := { program := "ytbecdndeddkibaa", sum := "2dfa1afd13b6a998881bb1fcad605ecf1483f56e053f4bd013bcd22725931e5e", func := "loop.example/typesetting/laws.FnExactOrderOf", spec := "fnExactOrderOf", apart := false }
def FnExactOrderOfSaid : Prop := fnExactOrderOfRow.holds Try.pinned (OpenSpec.ofChange fnExactOrderOfSpec)

/-- ITS FALSE NEIGHBOUR: 'it returns false'. Refute it at one input. -/
def fnExactOrderOfWrong : ChangeSpec := { name := "fnExactOrderOf", fn := fun _ => fun
  | [d] => { results := [.lit (.bool false)], args := [d] }
  | _ => none }
def FnExactOrderOfWrongFalsely : Prop := fnExactOrderOfRow.holds Try.pinned (OpenSpec.ofChange fnExactOrderOfWrong)

/-- 'laws.FnOrderPlain': WHATEVER THE INPUT: true; the input reads as it did. -/
def fnOrderPlainSpec : ChangeSpec := { name := "fnOrderPlain", fn := fun _ => fun
  | [d] => { results := [.lit (.bool true)], args := [d] }
  | _ => none }
def fnOrderPlainRow : OpenClaim := { program := "ytbecdndeddkibaa", sum := "2dfa1afd13b6a998881bb1fcad605ecf1483f56e053f4bd013bcd22725931e5e", func := "loop.example/typesetting/laws.FnOrderPlain", spec := "fnOrderPlain", apart := false }
def FnOrderPlainSaid : Prop := fnOrderPlainRow.holds Try.pinned (OpenSpec.ofChange fnOrderPlainSpec)

/-- ITS FALSE NEIGHBOUR: 'it returns false'. Refute it at one input. -/
def fnOrderPlainWrong : ChangeSpec := { name := "fnOrderPlain", fn := fun _ => fun
  | [d] => { results := [.lit (.bool false)], args := [d] }
  | _ => none }
def FnOrderPlainWrongFalsely : Prop := fnOrderPlainRow.holds Try.pinned (OpenSpec.ofChange fnOrderPlainWrong)

/-- 'laws.FnOrderTwice': WHATEVER THE INPUT: true; the input reads as it did. -/
def fnOrderTwiceSpec : ChangeSpec := { name := "fnOrderTwice", fn := fun _ => fun
  | [d] => { results := [.lit (.bool true)], args := [d] }
  | _ => none }
def fnOrderTwiceRow : OpenClaim := { program := "ytbecdndeddkibaa", sum := "2dfa1afd13b6a998881bb1fcad605ecf1483f56e053f4bd013bcd22725931e5e", func := "loop.example/typesetting/laws.FnOrderTwice", spec := "fnOrderTwice", apart := false }
def FnOrderTwiceSaid : Prop := fnOrderTwiceRow.holds Try.pinned (OpenSpec.ofChange fnOrderTwiceSpec)

/-- ITS FALSE NEIGHBOUR: 'it returns false'. Refute it at one input. -/
def fnOrderTwiceWrong : ChangeSpec := { name := "fnOrderTwice", fn := fun _ => fun
  | [d] => { results := [.lit (.bool false)], args := [d] }
  | _ => none }
def FnOrderTwiceWrongFalsely : Prop := fnOrderTwiceRow.holds Try.pinned (OpenSpec.ofChange fnOrderTwiceWrong)

/-- 'laws.FnInverseOrder': WHATEVER THE INPUT: true; the input reads as it did. -/
def fnInverseOrderSpec : ChangeSpec := { name := "fnInverseOrder", fn := fun _ => fun
  | [d] => { results := [.lit (.bool true)], args := [d] }
  | _ => none }
def fnInverseOrderRow : OpenClaim := { program := "ytbecdndeddkibaa", sum := "2dfa1afd13b6a998881bb1fcad605ecf1483f56e053f4bd013bcd22725931e5e", func := "loop.example/typesetting/laws.FnInverseOrder", spec := "fnInverseOrder", apart := false }
def FnInverseOrderSaid : Prop := fnInverseOrderRow.holds Try.pinned (OpenSpec.ofChange fnInverseOrderSpec)

/-- ITS FALSE NEIGHBOUR: 'it returns false'. Refute it at one input. -/
def fnInverseOrderWrong : ChangeSpec := { name := "fnInverseOrder", fn := fun _ => fun
  | [d] => { results := [.lit (.bool false)], args := [d] }
  | _ => none }
def FnInverseOrderWrongFalsely : Prop := fnInverseOrderRow.holds Try.pinned (OpenSpec.ofChange fnInverseOrderWrong)

/-- 'laws.FnOrderOf': WHATEVER THE INPUT: true; the input reads as it did. -/
def fnOrderOfSpec : ChangeSpec := { name := "fnOrderOf", fn := fun _ => fun
  | [d] => { results := [.lit (.bool true)], args := [d] }
  | _ => none }
def fnOrderOfRow : OpenClaim := { program := "ytbecdndeddkibaa", sum := "2dfa1afd13b6a998881bb1fcad605ecf1483f56e053f4bd013bcd22725931e5e", func := "loop.example/typesetting/laws.FnOrderOf", spec := "fnOrderOf", apart := false }
def FnOrderOfSaid : Prop := fnOrderOfRow.holds Try.pinned (OpenSpec.ofChange fnOrderOfSpec)

/-- ITS FALSE NEIGHBOUR: 'it returns false'. Refute it at one input. -/
def fnOrderOfWrong : ChangeSpec := { name := "fnOrderOf", fn := fun _ => fun
  | [d] => { results := [.lit (.bool false)], args := [d] }
  | _ => none }
def FnOrderOfWrongFalsely : Prop := fnOrderOfRow.holds Try.pinned (OpenSpec.ofChange fnOrderOfWrong)

/-- 'laws.FnExactLevelsOf': WHATEVER THE INPUT: true; the input reads as it did. -/
def fnExactLevelsOfSpec : ChangeSpec := { name := "fnExactLevelsOf", fn := fun _ => fun
  | [d1, d2] => { results := [.lit (.bool true)], args := [d1, d2] }
  | _ => none }
def fnExactLevelsOfRow : OpenClaim := { program := "ytbecdndeddkibaa", sum := "2dfa1afd13b6a998881bb1fcad605ecf1483f56e053f4bd013bcd22725931e5e", func := "loop.example/typesetting/laws.FnExactLevelsOf", spec := "fnExactLevelsOf", apart := false }
def FnExactLevelsOfSaid : Prop := fnExactLevelsOfRow.holds Try.pinned (OpenSpec.ofChange fnExactLevelsOfSpec)

/-- ITS FALSE NEIGHBOUR: 'it returns false'. Refute it at one input. -/
def fnExactLevelsOfWrong : ChangeSpec := { name := "fnExactLevelsOf", fn := fun _ => fun
  | [d1, d2] => { results := [.lit (.bool false)], args := [d1, d2] }
  | _ => none }
def FnExactLevelsOfWrongFalsely : Prop := fnExactLevelsOfRow.holds Try.pinned (OpenSpec.ofChange fnExactLevelsOfWrong)

/- THE SECOND FORM. 'bulk': how many values and letters a reading holds, each counted each time it is reached (what is shared counts as often as it is met; a slice's spare places count too). A statement '..UptoSaid' is the law's where the arguments, and the package variables that the reading takes, are together of bulk at most 1048576: NARROWER than '..Said'. Prove '..Said' where nothing that the law and all that it calls make is longer than what came in: it says more and counts as full. Else prove '..UptoSaid'. A law counts once. -/
mutual
def uptoBulk {H : Type} : DataW H → Nat
  | .lit (.string bytes) => bytes.length + 1
  | .lit _ => 1
  | .nil => 1
  | .ptr d => uptoBulk d + 1
  | .slice elems spare => uptoBulkAll elems + uptoBulkAll spare + 1
  | .agg parts => uptoBulkAll parts + 1
  | .iface _ d => uptoBulk d + 1
  | .map entries => uptoBulkEntries entries + 1
  | .held _ => 1
def uptoBulkAll {H : Type} : List (DataW H) → Nat
  | [] => 0
  | d :: r => uptoBulk d + uptoBulkAll r
def uptoBulkEntries {H : Type} : List (Lit × DataW H) → Nat
  | [] => 0
  | x :: r => uptoBulkEntry x + uptoBulkEntries r
def uptoBulkEntry {H : Type} : Lit × DataW H → Nat
  | (.string bytes, d) => bytes.length + uptoBulk d + 1
  | (_, d) => uptoBulk d + 1
 end
def uptoSmall : (H : Type) → List (DataW H) → Bool := fun _ ds => decide (uptoBulkAll ds ≤ 1048576)
def OpenSpec.upto (s : _root_.Go.ChangeSpec) : _root_.Go.OpenSpec := { _root_.Go.OpenSpec.ofChange s with cond := some uptoSmall }

/-- 'laws.FnExactOrderOf', WHERE WHAT IT READS IS OF BULK AT MOST 1048576: true; the input reads as it did. -/
def fnExactOrderOfUptoRow : OpenClaim := { program := "ytbecdndeddkibaa", sum := "2dfa1afd13b6a998881bb1fcad605ecf1483f56e053f4bd013bcd22725931e5e", func := "loop.example/typesetting/laws.FnExactOrderOf", spec := "fnExactOrderOf", apart := false, narrowed := true }
def FnExactOrderOfUptoSaid : Prop := fnExactOrderOfUptoRow.holds Try.pinned (OpenSpec.upto fnExactOrderOfSpec)

/-- 'laws.FnOrderPlain', WHERE WHAT IT READS IS OF BULK AT MOST 1048576: true; the input reads as it did. -/
def fnOrderPlainUptoRow : OpenClaim := { program := "ytbecdndeddkibaa", sum := "2dfa1afd13b6a998881bb1fcad605ecf1483f56e053f4bd013bcd22725931e5e", func := "loop.example/typesetting/laws.FnOrderPlain", spec := "fnOrderPlain", apart := false, narrowed := true }
def FnOrderPlainUptoSaid : Prop := fnOrderPlainUptoRow.holds Try.pinned (OpenSpec.upto fnOrderPlainSpec)

/-- 'laws.FnOrderTwice', WHERE WHAT IT READS IS OF BULK AT MOST 1048576: true; the input reads as it did. -/
def fnOrderTwiceUptoRow : OpenClaim := { program := "ytbecdndeddkibaa", sum := "2dfa1afd13b6a998881bb1fcad605ecf1483f56e053f4bd013bcd22725931e5e", func := "loop.example/typesetting/laws.FnOrderTwice", spec := "fnOrderTwice", apart := false, narrowed := true }
def FnOrderTwiceUptoSaid : Prop := fnOrderTwiceUptoRow.holds Try.pinned (OpenSpec.upto fnOrderTwiceSpec)

/-- 'laws.FnInverseOrder', WHERE WHAT IT READS IS OF BULK AT MOST 1048576: true; the input reads as it did. -/
def fnInverseOrderUptoRow : OpenClaim := { program := "ytbecdndeddkibaa", sum := "2dfa1afd13b6a998881bb1fcad605ecf1483f56e053f4bd013bcd22725931e5e", func := "loop.example/typesetting/laws.FnInverseOrder", spec := "fnInverseOrder", apart := false, narrowed := true }
def FnInverseOrderUptoSaid : Prop := fnInverseOrderUptoRow.holds Try.pinned (OpenSpec.upto fnInverseOrderSpec)

/-- 'laws.FnOrderOf', WHERE WHAT IT READS IS OF BULK AT MOST 1048576: true; the input reads as it did. -/
def fnOrderOfUptoRow : OpenClaim := { program := "ytbecdndeddkibaa", sum := "2dfa1afd13b6a998881bb1fcad605ecf1483f56e053f4bd013bcd22725931e5e", func := "loop.example/typesetting/laws.FnOrderOf", spec := "fnOrderOf", apart := false, narrowed := true }
def FnOrderOfUptoSaid : Prop := fnOrderOfUptoRow.holds Try.pinned (OpenSpec.upto fnOrderOfSpec)

/-- 'laws.FnExactLevelsOf', WHERE WHAT IT READS IS OF BULK AT MOST 1048576: true; the input reads as it did. -/
def fnExactLevelsOfUptoRow : OpenClaim := { program := "ytbecdndeddkibaa", sum := "2dfa1afd13b6a998881bb1fcad605ecf1483f56e053f4bd013bcd22725931e5e", func := "loop.example/typesetting/laws.FnExactLevelsOf", spec := "fnExactLevelsOf", apart := false, narrowed := true }
def FnExactLevelsOfUptoSaid : Prop := fnExactLevelsOfUptoRow.holds Try.pinned (OpenSpec.upto fnExactLevelsOfSpec)

end Rows
end Go.Proofs.Ytbecdndeddkibaa
