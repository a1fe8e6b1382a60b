/-
  No cell of these rows narrows 'for every input' (looked for: loops, veiled, ifaces, maps, wideKeys, modest, calm, conditions, laid).
  DERIVED. THE GIVEN ROWS OF THIS SEAT. 10 by the template 'for every input the law returns true; each argument reads behind the call as it read before'; 0 by the template 'total and deterministic' (their statements: YtncbllhgkkkhoaaTotals.lean).
  GIVEN WITH THE SEED: the statements are not yours to turn. If you find one false, say at which input.
  Laid BY PROGRAM, IN A SANDBOX (cutbox-rows.mjs): the forced cells as the released guide's own fill.sh prints them over the translation e25d2ea6c96e8681… (all of the seat's roots in one cut). By AI agents, Wed Nov 11 2026. No macro, syntax, notation, axiom, sorry.
-/
import Derived.Test.YtncbllhgkkkhoaaChecked
import GoSem.Claim
import GoSem.ClaimJoined
import GoSem.ClaimMapViews
import Derived.JoinedTies
import Derived.KernelRfl
namespace Go.Proofs.Ytncbllhgkkkhoaa
/- THE CELL 'sum', in the pinned program and in every row, IS THE sha256 OF THE DUMP (.gsa) THAT YtncbllhgkkkhoaaProg.lean LOADS. Nothing in Lean hashes anything: it is a label: what it is worth is what the hold of that sum in a sandbox is worth. -/
noncomputable def Try.pinned : Pinned := { name := "ytncbllhgkkkhoaa", sum := "e25d2ea6c96e86819969cd699761ca254b5b1a45ed9cbac99eb56e811d60b1ea", checked := Try.checked }
namespace Rows
def none {H : Type} : Left H := { results := [], args := [] }

/-- 'laws.FnExactCheckColumns': WHATEVER THE INPUT: true; the input reads as it did. -/
def fnExactCheckColumnsSpec : ChangeSpec := { name := "fnExactCheckColumns", fn := fun _ => fun
  | [d1, d2] => { results := [.lit (.bool true)], args := [d1, d2] }
  | _ => none }
def fnExactCheckColumnsRow : OpenClaim := { program := "ytncbllhgkkkhoaa", sum := "e25d2ea6c96e86819969cd699761ca254b5b1a45ed9cbac99eb56e811d60b1ea", func := "loop.example/typesetting/laws.FnExactCheckColumns", spec := "fnExactCheckColumns", apart := false }
def FnExactCheckColumnsSaid : Prop := fnExactCheckColumnsRow.holds Try.pinned (OpenSpec.ofChange fnExactCheckColumnsSpec)

/-- ITS FALSE NEIGHBOUR: 'it returns false'. Refute it at one input. -/
def fnExactCheckColumnsWrong : ChangeSpec := { name := "fnExactCheckColumns", fn := fun _ => fun
  | [d1, d2] => { results := [.lit (.bool false)], args := [d1, d2] }
  | _ => none }
def FnExactCheckColumnsWrongFalsely : Prop := fnExactCheckColumnsRow.holds Try.pinned (OpenSpec.ofChange fnExactCheckColumnsWrong)

/-- 'laws.FnExactColumnsNeeded': WHATEVER THE INPUT: true; the input reads as it did. -/
def fnExactColumnsNeededSpec : ChangeSpec := { name := "fnExactColumnsNeeded", fn := fun _ => fun
  | [d1, d2] => { results := [.lit (.bool true)], args := [d1, d2] }
  | _ => none }
def fnExactColumnsNeededRow : OpenClaim := { program := "ytncbllhgkkkhoaa", sum := "e25d2ea6c96e86819969cd699761ca254b5b1a45ed9cbac99eb56e811d60b1ea", func := "loop.example/typesetting/laws.FnExactColumnsNeeded", spec := "fnExactColumnsNeeded", apart := false }
def FnExactColumnsNeededSaid : Prop := fnExactColumnsNeededRow.holds Try.pinned (OpenSpec.ofChange fnExactColumnsNeededSpec)

/-- ITS FALSE NEIGHBOUR: 'it returns false'. Refute it at one input. -/
def fnExactColumnsNeededWrong : ChangeSpec := { name := "fnExactColumnsNeeded", fn := fun _ => fun
  | [d1, d2] => { results := [.lit (.bool false)], args := [d1, d2] }
  | _ => none }
def FnExactColumnsNeededWrongFalsely : Prop := fnExactColumnsNeededRow.holds Try.pinned (OpenSpec.ofChange fnExactColumnsNeededWrong)

/-- 'laws.FnColumnsNeeded': WHATEVER THE INPUT: true; the input reads as it did. -/
def fnColumnsNeededSpec : ChangeSpec := { name := "fnColumnsNeeded", fn := fun _ => fun
  | [d1, d2] => { results := [.lit (.bool true)], args := [d1, d2] }
  | _ => none }
def fnColumnsNeededRow : OpenClaim := { program := "ytncbllhgkkkhoaa", sum := "e25d2ea6c96e86819969cd699761ca254b5b1a45ed9cbac99eb56e811d60b1ea", func := "loop.example/typesetting/laws.FnColumnsNeeded", spec := "fnColumnsNeeded", apart := false }
def FnColumnsNeededSaid : Prop := fnColumnsNeededRow.holds Try.pinned (OpenSpec.ofChange fnColumnsNeededSpec)

/-- ITS FALSE NEIGHBOUR: 'it returns false'. Refute it at one input. -/
def fnColumnsNeededWrong : ChangeSpec := { name := "fnColumnsNeeded", fn := fun _ => fun
  | [d1, d2] => { results := [.lit (.bool false)], args := [d1, d2] }
  | _ => none }
def FnColumnsNeededWrongFalsely : Prop := fnColumnsNeededRow.holds Try.pinned (OpenSpec.ofChange fnColumnsNeededWrong)

/-- 'laws.FnExactBalancedHeight': WHATEVER THE INPUT: true; the input reads as it did. -/
def fnExactBalancedHeightSpec : ChangeSpec := { name := "fnExactBalancedHeight", fn := fun _ => fun
  | [d1, d2] => { results := [.lit (.bool true)], args := [d1, d2] }
  | _ => none }
def fnExactBalancedHeightRow : OpenClaim := { program := "ytncbllhgkkkhoaa", sum := "e25d2ea6c96e86819969cd699761ca254b5b1a45ed9cbac99eb56e811d60b1ea", func := "loop.example/typesetting/laws.FnExactBalancedHeight", spec := "fnExactBalancedHeight", unfollowed := true, recurses := true, apart := false }
def FnExactBalancedHeightSaid : Prop := fnExactBalancedHeightRow.holds Try.pinned (OpenSpec.ofChange fnExactBalancedHeightSpec)

/-- ITS FALSE NEIGHBOUR: 'it returns false'. Refute it at one input. -/
def fnExactBalancedHeightWrong : ChangeSpec := { name := "fnExactBalancedHeight", fn := fun _ => fun
  | [d1, d2] => { results := [.lit (.bool false)], args := [d1, d2] }
  | _ => none }
def FnExactBalancedHeightWrongFalsely : Prop := fnExactBalancedHeightRow.holds Try.pinned (OpenSpec.ofChange fnExactBalancedHeightWrong)

/-- 'laws.FnCheckColumns': WHATEVER THE INPUT: true; the input reads as it did. -/
def fnCheckColumnsSpec : ChangeSpec := { name := "fnCheckColumns", fn := fun _ => fun
  | [d] => { results := [.lit (.bool true)], args := [d] }
  | _ => none }
def fnCheckColumnsRow : OpenClaim := { program := "ytncbllhgkkkhoaa", sum := "e25d2ea6c96e86819969cd699761ca254b5b1a45ed9cbac99eb56e811d60b1ea", func := "loop.example/typesetting/laws.FnCheckColumns", spec := "fnCheckColumns", apart := false }
def FnCheckColumnsSaid : Prop := fnCheckColumnsRow.holds Try.pinned (OpenSpec.ofChange fnCheckColumnsSpec)

/-- ITS FALSE NEIGHBOUR: 'it returns false'. Refute it at one input. -/
def fnCheckColumnsWrong : ChangeSpec := { name := "fnCheckColumns", fn := fun _ => fun
  | [d] => { results := [.lit (.bool false)], args := [d] }
  | _ => none }
def FnCheckColumnsWrongFalsely : Prop := fnCheckColumnsRow.holds Try.pinned (OpenSpec.ofChange fnCheckColumnsWrong)

/-- 'laws.FnBalanceOne': WHATEVER THE INPUT: true; the input reads as it did. -/
def fnBalanceOneSpec : ChangeSpec := { name := "fnBalanceOne", fn := fun _ => fun
  | [d] => { results := [.lit (.bool true)], args := [d] }
  | _ => none }
def fnBalanceOneRow : OpenClaim := { program := "ytncbllhgkkkhoaa", sum := "e25d2ea6c96e86819969cd699761ca254b5b1a45ed9cbac99eb56e811d60b1ea", func := "loop.example/typesetting/laws.FnBalanceOne", spec := "fnBalanceOne", unfollowed := true, recurses := true, apart := false }
def FnBalanceOneSaid : Prop := fnBalanceOneRow.holds Try.pinned (OpenSpec.ofChange fnBalanceOneSpec)

/-- ITS FALSE NEIGHBOUR: 'it returns false'. Refute it at one input. -/
def fnBalanceOneWrong : ChangeSpec := { name := "fnBalanceOne", fn := fun _ => fun
  | [d] => { results := [.lit (.bool false)], args := [d] }
  | _ => none }
def FnBalanceOneWrongFalsely : Prop := fnBalanceOneRow.holds Try.pinned (OpenSpec.ofChange fnBalanceOneWrong)

/-- 'laws.FnBalancedHeight': WHATEVER THE INPUT: true; the input reads as it did. -/
def fnBalancedHeightSpec : ChangeSpec := { name := "fnBalancedHeight", fn := fun _ => fun
  | [d] => { results := [.lit (.bool true)], args := [d] }
  | _ => none }
def fnBalancedHeightRow : OpenClaim := { program := "ytncbllhgkkkhoaa", sum := "e25d2ea6c96e86819969cd699761ca254b5b1a45ed9cbac99eb56e811d60b1ea", func := "loop.example/typesetting/laws.FnBalancedHeight", spec := "fnBalancedHeight", unfollowed := true, recurses := true, apart := false }
def FnBalancedHeightSaid : Prop := fnBalancedHeightRow.holds Try.pinned (OpenSpec.ofChange fnBalancedHeightSpec)

/-- ITS FALSE NEIGHBOUR: 'it returns false'. Refute it at one input. -/
def fnBalancedHeightWrong : ChangeSpec := { name := "fnBalancedHeight", fn := fun _ => fun
  | [d] => { results := [.lit (.bool false)], args := [d] }
  | _ => none }
def FnBalancedHeightWrongFalsely : Prop := fnBalancedHeightRow.holds Try.pinned (OpenSpec.ofChange fnBalancedHeightWrong)

/-- 'laws.FnExactBalanceColumns': WHATEVER THE INPUT: true; the input reads as it did. -/
def fnExactBalanceColumnsSpec : ChangeSpec := { name := "fnExactBalanceColumns", fn := fun _ => fun
  | [d1, d2] => { results := [.lit (.bool true)], args := [d1, d2] }
  | _ => none }
def fnExactBalanceColumnsRow : OpenClaim := { program := "ytncbllhgkkkhoaa", sum := "e25d2ea6c96e86819969cd699761ca254b5b1a45ed9cbac99eb56e811d60b1ea", func := "loop.example/typesetting/laws.FnExactBalanceColumns", spec := "fnExactBalanceColumns", unfollowed := true, recurses := true, apart := false }
def FnExactBalanceColumnsSaid : Prop := fnExactBalanceColumnsRow.holds Try.pinned (OpenSpec.ofChange fnExactBalanceColumnsSpec)

/-- ITS FALSE NEIGHBOUR: 'it returns false'. Refute it at one input. -/
def fnExactBalanceColumnsWrong : ChangeSpec := { name := "fnExactBalanceColumns", fn := fun _ => fun
  | [d1, d2] => { results := [.lit (.bool false)], args := [d1, d2] }
  | _ => none }
def FnExactBalanceColumnsWrongFalsely : Prop := fnExactBalanceColumnsRow.holds Try.pinned (OpenSpec.ofChange fnExactBalanceColumnsWrong)

/-- 'laws.FnBalanced': WHATEVER THE INPUT: true; the input reads as it did. -/
def fnBalancedSpec : ChangeSpec := { name := "fnBalanced", fn := fun _ => fun
  | [d] => { results := [.lit (.bool true)], args := [d] }
  | _ => none }
def fnBalancedRow : OpenClaim := { program := "ytncbllhgkkkhoaa", sum := "e25d2ea6c96e86819969cd699761ca254b5b1a45ed9cbac99eb56e811d60b1ea", func := "loop.example/typesetting/laws.FnBalanced", spec := "fnBalanced", unfollowed := true, recurses := true, apart := false }
def FnBalancedSaid : Prop := fnBalancedRow.holds Try.pinned (OpenSpec.ofChange fnBalancedSpec)

/-- ITS FALSE NEIGHBOUR: 'it returns false'. Refute it at one input. -/
def fnBalancedWrong : ChangeSpec := { name := "fnBalanced", fn := fun _ => fun
  | [d] => { results := [.lit (.bool false)], args := [d] }
  | _ => none }
def FnBalancedWrongFalsely : Prop := fnBalancedRow.holds Try.pinned (OpenSpec.ofChange fnBalancedWrong)

/-- 'laws.FnBalanceColumns': WHATEVER THE INPUT: true; the input reads as it did. -/
def fnBalanceColumnsSpec : ChangeSpec := { name := "fnBalanceColumns", fn := fun _ => fun
  | [d] => { results := [.lit (.bool true)], args := [d] }
  | _ => none }
def fnBalanceColumnsRow : OpenClaim := { program := "ytncbllhgkkkhoaa", sum := "e25d2ea6c96e86819969cd699761ca254b5b1a45ed9cbac99eb56e811d60b1ea", func := "loop.example/typesetting/laws.FnBalanceColumns", spec := "fnBalanceColumns", unfollowed := true, recurses := true, apart := false }
def FnBalanceColumnsSaid : Prop := fnBalanceColumnsRow.holds Try.pinned (OpenSpec.ofChange fnBalanceColumnsSpec)

/-- ITS FALSE NEIGHBOUR: 'it returns false'. Refute it at one input. -/
def fnBalanceColumnsWrong : ChangeSpec := { name := "fnBalanceColumns", fn := fun _ => fun
  | [d] => { results := [.lit (.bool false)], args := [d] }
  | _ => none }
def FnBalanceColumnsWrongFalsely : Prop := fnBalanceColumnsRow.holds Try.pinned (OpenSpec.ofChange fnBalanceColumnsWrong)

/- THE SECOND FORM. 'bulk': how many values and letters a reading holds, each counted each time it is reached (what is shared counts as often as it is met; a slice's spare places count too). A statement '..UptoSaid' is the law's where the arguments, and the package variables that the reading takes, are together of bulk at most 1048576: NARROWER than '..Said'. Prove '..Said' where nothing that the law and all that it calls make is longer than what came in: it says more and counts as full. Else prove '..UptoSaid'. A law counts once. -/
mutual
def uptoBulk {H : Type} : DataW H → Nat
  | .lit (.string bytes) => bytes.length + 1
  | .lit _ => 1
  | .nil => 1
  | .ptr d => uptoBulk d + 1
  | .slice elems spare => uptoBulkAll elems + uptoBulkAll spare + 1
  | .agg parts => uptoBulkAll parts + 1
  | .iface _ d => uptoBulk d + 1
  | .map entries => uptoBulkEntries entries + 1
  | .held _ => 1
def uptoBulkAll {H : Type} : List (DataW H) → Nat
  | [] => 0
  | d :: r => uptoBulk d + uptoBulkAll r
def uptoBulkEntries {H : Type} : List (Lit × DataW H) → Nat
  | [] => 0
  | x :: r => uptoBulkEntry x + uptoBulkEntries r
def uptoBulkEntry {H : Type} : Lit × DataW H → Nat
  | (.string bytes, d) => bytes.length + uptoBulk d + 1
  | (_, d) => uptoBulk d + 1
 end
def uptoSmall : (H : Type) → List (DataW H) → Bool := fun _ ds => decide (uptoBulkAll ds ≤ 1048576)
def OpenSpec.upto (s : _root_.Go.ChangeSpec) : _root_.Go.OpenSpec := { _root_.Go.OpenSpec.ofChange s with cond := some uptoSmall }

/-- 'laws.FnExactCheckColumns', WHERE WHAT IT READS IS OF BULK AT MOST 1048576: true; the input reads as it did. -/
def fnExactCheckColumnsUptoRow : OpenClaim := { program := "ytncbllhgkkkhoaa", sum := "e25d2ea6c96e86819969cd699761ca254b5b1a45ed9cbac99eb56e811d60b1ea", func := "loop.example/typesetting/laws.FnExactCheckColumns", spec := "fnExactCheckColumns", apart := false, narrowed := true }
def FnExactCheckColumnsUptoSaid : Prop := fnExactCheckColumnsUptoRow.holds Try.pinned (OpenSpec.upto fnExactCheckColumnsSpec)

/-- 'laws.FnExactColumnsNeeded', WHERE WHAT IT READS IS OF BULK AT MOST 1048576: true; the input reads as it did. -/
def fnExactColumnsNeededUptoRow : OpenClaim := { program := "ytncbllhgkkkhoaa", sum := "e25d2ea6c96e86819969cd699761ca254b5b1a45ed9cbac99eb56e811d60b1ea", func := "loop.example/typesetting/laws.FnExactColumnsNeeded", spec := "fnExactColumnsNeeded", apart := false, narrowed := true }
def FnExactColumnsNeededUptoSaid : Prop := fnExactColumnsNeededUptoRow.holds Try.pinned (OpenSpec.upto fnExactColumnsNeededSpec)

/-- 'laws.FnColumnsNeeded', WHERE WHAT IT READS IS OF BULK AT MOST 1048576: true; the input reads as it did. -/
def fnColumnsNeededUptoRow : OpenClaim := { program := "ytncbllhgkkkhoaa", sum := "e25d2ea6c96e86819969cd699761ca254b5b1a45ed9cbac99eb56e811d60b1ea", func := "loop.example/typesetting/laws.FnColumnsNeeded", spec := "fnColumnsNeeded", apart := false, narrowed := true }
def FnColumnsNeededUptoSaid : Prop := fnColumnsNeededUptoRow.holds Try.pinned (OpenSpec.upto fnColumnsNeededSpec)

/-- 'laws.FnExactBalancedHeight', WHERE WHAT IT READS IS OF BULK AT MOST 1048576: true; the input reads as it did. -/
def fnExactBalancedHeightUptoRow : OpenClaim := { program := "ytncbllhgkkkhoaa", sum := "e25d2ea6c96e86819969cd699761ca254b5b1a45ed9cbac99eb56e811d60b1ea", func := "loop.example/typesetting/laws.FnExactBalancedHeight", spec := "fnExactBalancedHeight", unfollowed := true, recurses := true, apart := false, narrowed := true }
def FnExactBalancedHeightUptoSaid : Prop := fnExactBalancedHeightUptoRow.holds Try.pinned (OpenSpec.upto fnExactBalancedHeightSpec)

/-- 'laws.FnCheckColumns', WHERE WHAT IT READS IS OF BULK AT MOST 1048576: true; the input reads as it did. -/
def fnCheckColumnsUptoRow : OpenClaim := { program := "ytncbllhgkkkhoaa", sum := "e25d2ea6c96e86819969cd699761ca254b5b1a45ed9cbac99eb56e811d60b1ea", func := "loop.example/typesetting/laws.FnCheckColumns", spec := "fnCheckColumns", apart := false, narrowed := true }
def FnCheckColumnsUptoSaid : Prop := fnCheckColumnsUptoRow.holds Try.pinned (OpenSpec.upto fnCheckColumnsSpec)

/-- 'laws.FnBalanceOne', WHERE WHAT IT READS IS OF BULK AT MOST 1048576: true; the input reads as it did. -/
def fnBalanceOneUptoRow : OpenClaim := { program := "ytncbllhgkkkhoaa", sum := "e25d2ea6c96e86819969cd699761ca254b5b1a45ed9cbac99eb56e811d60b1ea", func := "loop.example/typesetting/laws.FnBalanceOne", spec := "fnBalanceOne", unfollowed := true, recurses := true, apart := false, narrowed := true }
def FnBalanceOneUptoSaid : Prop := fnBalanceOneUptoRow.holds Try.pinned (OpenSpec.upto fnBalanceOneSpec)

/-- 'laws.FnBalancedHeight', WHERE WHAT IT READS IS OF BULK AT MOST 1048576: true; the input reads as it did. -/
def fnBalancedHeightUptoRow : OpenClaim := { program := "ytncbllhgkkkhoaa", sum := "e25d2ea6c96e86819969cd699761ca254b5b1a45ed9cbac99eb56e811d60b1ea", func := "loop.example/typesetting/laws.FnBalancedHeight", spec := "fnBalancedHeight", unfollowed := true, recurses := true, apart := false, narrowed := true }
def FnBalancedHeightUptoSaid : Prop := fnBalancedHeightUptoRow.holds Try.pinned (OpenSpec.upto fnBalancedHeightSpec)

/-- 'laws.FnExactBalanceColumns', WHERE WHAT IT READS IS OF BULK AT MOST 1048576: true; the input reads as it did. -/
def fnExactBalanceColumnsUptoRow : OpenClaim := { program := "ytncbllhgkkkhoaa", sum := "e25d2ea6c96e86819969cd699761ca254b5b1a45ed9cbac99eb56e811d60b1ea", func := "loop.example/typesetting/laws.FnExactBalanceColumns", spec := "fnExactBalanceColumns", unfollowed := true, recurses := true, apart := false, narrowed := true }
def FnExactBalanceColumnsUptoSaid : Prop := fnExactBalanceColumnsUptoRow.holds Try.pinned (OpenSpec.upto fnExactBalanceColumnsSpec)

/-- 'laws.FnBalanced', WHERE WHAT IT READS IS OF BULK AT MOST 1048576: true; the input reads as it did. -/
def fnBalancedUptoRow : OpenClaim := { program := "ytncbllhgkkkhoaa", sum := "e25d2ea6c96e86819969cd699761ca254b5b1a45ed9cbac99eb56e811d60b1ea", func := "loop.example/typesetting/laws.FnBalanced", spec := "fnBalanced", unfollowed := true, recurses := true, apart := false, narrowed := true }
def FnBalancedUptoSaid : Prop := fnBalancedUptoRow.holds Try.pinned (OpenSpec.upto fnBalancedSpec)

/-- 'laws.FnBalanceColumns', WHERE WHAT IT READS IS OF BULK AT MOST 1048576: true; the input reads as it did. -/
def fnBalanceColumnsUptoRow : OpenClaim := { program := "ytncbllhgkkkhoaa", sum := "e25d2ea6c96e86819969cd699761ca254b5b1a45ed9cbac99eb56e811d60b1ea", func := "loop.example/typesetting/laws.FnBalanceColumns", spec := "fnBalanceColumns", unfollowed := true, recurses := true, apart := false, narrowed := true }
def FnBalanceColumnsUptoSaid : Prop := fnBalanceColumnsUptoRow.holds Try.pinned (OpenSpec.upto fnBalanceColumnsSpec)

end Rows
end Go.Proofs.Ytncbllhgkkkhoaa
