/-
  No cell of these rows narrows 'for every input' (looked for: loops, veiled, ifaces, maps, wideKeys, modest, calm, conditions, laid).
  DERIVED. THE GIVEN ROWS OF THIS SEAT. 3 by the template 'for every input the law returns true; each argument reads behind the call as it read before'; 0 by the template 'total and deterministic' (their statements: YtflnbpiegcepcaaTotals.lean).
  GIVEN WITH THE SEED: the statements are not yours to turn. If you find one false, say at which input.
  Laid BY PROGRAM, IN A SANDBOX (cutbox-rows.mjs): the forced cells as the released guide's own fill.sh prints them over the translation b22b65623f33398e… (all of the seat's roots in one cut). By AI agents, Wed Nov 11 2026. No macro, syntax, notation, axiom, sorry.
-/
import Derived.Test.YtflnbpiegcepcaaChecked
import GoSem.Claim
import GoSem.ClaimJoined
import GoSem.ClaimMapViews
import Derived.JoinedTies
import Derived.KernelRfl
namespace Go.Proofs.Ytflnbpiegcepcaa
/- THE CELL 'sum', in the pinned program and in every row, IS THE sha256 OF THE DUMP (.gsa) THAT YtflnbpiegcepcaaProg.lean LOADS. Nothing in Lean hashes anything: it is a label: what it is worth is what the hold of that sum in a sandbox is worth. -/
noncomputable def Try.pinned : Pinned := { name := "ytflnbpiegcepcaa", sum := "b22b65623f33398e392ade87cc4e37c0505fe87f051e5138533e375a4219f8e4", checked := Try.checked }
namespace Rows
def none {H : Type} : Left H := { results := [], args := [] }

/-- 'laws.FnIndexOrder': WHATEVER THE INPUT: true; the input reads as it did. -/
def fnIndexOrderSpec : ChangeSpec := { name := "fnIndexOrder", fn := fun _ => fun
  | [d] => { results := [.lit (.bool true)], args := [d] }
  | _ => none }
def fnIndexOrderRow : OpenClaim := { program := "ytflnbpiegcepcaa", sum := "b22b65623f33398e392ade87cc4e37c0505fe87f051e5138533e375a4219f8e4", func := "loop.example/typesetting/laws.FnIndexOrder", spec := "fnIndexOrder", inPlace := ["slices.overlaps[loop.example/typesetting/impl.Entry]"], unfollowed := true, recurses := true, apart := false }
def FnIndexOrderSaid : Prop := fnIndexOrderRow.holds Try.pinned (OpenSpec.ofChange fnIndexOrderSpec)

/-- ITS FALSE NEIGHBOUR: 'it returns false'. Refute it at one input. -/
def fnIndexOrderWrong : ChangeSpec := { name := "fnIndexOrder", fn := fun _ => fun
  | [d] => { results := [.lit (.bool false)], args := [d] }
  | _ => none }
def FnIndexOrderWrongFalsely : Prop := fnIndexOrderRow.holds Try.pinned (OpenSpec.ofChange fnIndexOrderWrong)

/-- 'laws.FnCollectIndex': WHATEVER THE INPUT: true; the input reads as it did. -/
def fnCollectIndexSpec : ChangeSpec := { name := "fnCollectIndex", fn := fun _ => fun
  | [d] => { results := [.lit (.bool true)], args := [d] }
  | _ => none }
def fnCollectIndexRow : OpenClaim := { program := "ytflnbpiegcepcaa", sum := "b22b65623f33398e392ade87cc4e37c0505fe87f051e5138533e375a4219f8e4", func := "loop.example/typesetting/laws.FnCollectIndex", spec := "fnCollectIndex", inPlace := ["slices.overlaps[loop.example/typesetting/impl.Entry]"], unfollowed := true, recurses := true, apart := false }
def FnCollectIndexSaid : Prop := fnCollectIndexRow.holds Try.pinned (OpenSpec.ofChange fnCollectIndexSpec)

/-- ITS FALSE NEIGHBOUR: 'it returns false'. Refute it at one input. -/
def fnCollectIndexWrong : ChangeSpec := { name := "fnCollectIndex", fn := fun _ => fun
  | [d] => { results := [.lit (.bool false)], args := [d] }
  | _ => none }
def FnCollectIndexWrongFalsely : Prop := fnCollectIndexRow.holds Try.pinned (OpenSpec.ofChange fnCollectIndexWrong)

/-- 'laws.FnExactCollectIndex': WHATEVER THE INPUT: true; the input reads as it did. -/
def fnExactCollectIndexSpec : ChangeSpec := { name := "fnExactCollectIndex", fn := fun _ => fun
  | [d] => { results := [.lit (.bool true)], args := [d] }
  | _ => none }
def fnExactCollectIndexRow : OpenClaim := { program := "ytflnbpiegcepcaa", sum := "b22b65623f33398e392ade87cc4e37c0505fe87f051e5138533e375a4219f8e4", func := "loop.example/typesetting/laws.FnExactCollectIndex", spec := "fnExactCollectIndex", inPlace := ["slices.overlaps[loop.example/typesetting/impl.Entry]"], unfollowed := true, recurses := true, apart := false }
def FnExactCollectIndexSaid : Prop := fnExactCollectIndexRow.holds Try.pinned (OpenSpec.ofChange fnExactCollectIndexSpec)

/-- ITS FALSE NEIGHBOUR: 'it returns false'. Refute it at one input. -/
def fnExactCollectIndexWrong : ChangeSpec := { name := "fnExactCollectIndex", fn := fun _ => fun
  | [d] => { results := [.lit (.bool false)], args := [d] }
  | _ => none }
def FnExactCollectIndexWrongFalsely : Prop := fnExactCollectIndexRow.holds Try.pinned (OpenSpec.ofChange fnExactCollectIndexWrong)

/- THE SECOND FORM. 'bulk': how many values and letters a reading holds, each counted each time it is reached (what is shared counts as often as it is met; a slice's spare places count too). A statement '..UptoSaid' is the law's where the arguments, and the package variables that the reading takes, are together of bulk at most 1048576: NARROWER than '..Said'. Prove '..Said' where nothing that the law and all that it calls make is longer than what came in: it says more and counts as full. Else prove '..UptoSaid'. A law counts once. -/
mutual
def uptoBulk {H : Type} : DataW H → Nat
  | .lit (.string bytes) => bytes.length + 1
  | .lit _ => 1
  | .nil => 1
  | .ptr d => uptoBulk d + 1
  | .slice elems spare => uptoBulkAll elems + uptoBulkAll spare + 1
  | .agg parts => uptoBulkAll parts + 1
  | .iface _ d => uptoBulk d + 1
  | .map entries => uptoBulkEntries entries + 1
  | .held _ => 1
def uptoBulkAll {H : Type} : List (DataW H) → Nat
  | [] => 0
  | d :: r => uptoBulk d + uptoBulkAll r
def uptoBulkEntries {H : Type} : List (Lit × DataW H) → Nat
  | [] => 0
  | x :: r => uptoBulkEntry x + uptoBulkEntries r
def uptoBulkEntry {H : Type} : Lit × DataW H → Nat
  | (.string bytes, d) => bytes.length + uptoBulk d + 1
  | (_, d) => uptoBulk d + 1
 end
def uptoSmall : (H : Type) → List (DataW H) → Bool := fun _ ds => decide (uptoBulkAll ds ≤ 1048576)
def OpenSpec.upto (s : _root_.Go.ChangeSpec) : _root_.Go.OpenSpec := { _root_.Go.OpenSpec.ofChange s with cond := some uptoSmall }

/-- 'laws.FnIndexOrder', WHERE WHAT IT READS IS OF BULK AT MOST 1048576: true; the input reads as it did. -/
def fnIndexOrderUptoRow : OpenClaim := { program := "ytflnbpiegcepcaa", sum := "b22b65623f33398e392ade87cc4e37c0505fe87f051e5138533e375a4219f8e4", func := "loop.example/typesetting/laws.FnIndexOrder", spec := "fnIndexOrder", inPlace := ["slices.overlaps[loop.example/typesetting/impl.Entry]"], unfollowed := true, recurses := true, apart := false, narrowed := true }
def FnIndexOrderUptoSaid : Prop := fnIndexOrderUptoRow.holds Try.pinned (OpenSpec.upto fnIndexOrderSpec)

/-- 'laws.FnCollectIndex', WHERE WHAT IT READS IS OF BULK AT MOST 1048576: true; the input reads as it did. -/
def fnCollectIndexUptoRow : OpenClaim := { program := "ytflnbpiegcepcaa", sum := "b22b65623f33398e392ade87cc4e37c0505fe87f051e5138533e375a4219f8e4", func := "loop.example/typesetting/laws.FnCollectIndex", spec := "fnCollectIndex", inPlace := ["slices.overlaps[loop.example/typesetting/impl.Entry]"], unfollowed := true, recurses := true, apart := false, narrowed := true }
def FnCollectIndexUptoSaid : Prop := fnCollectIndexUptoRow.holds Try.pinned (OpenSpec.upto fnCollectIndexSpec)

/-- 'laws.FnExactCollectIndex', WHERE WHAT IT READS IS OF BULK AT MOST 1048576: true; the input reads as it did. -/
def fnExactCollectIndexUptoRow : OpenClaim := { program := "ytflnbpiegcepcaa", sum := "b22b65623f33398e392ade87cc4e37c0505fe87f051e5138533e375a4219f8e4", func := "loop.example/typesetting/laws.FnExactCollectIndex", spec := "fnExactCollectIndex", inPlace := ["slices.overlaps[loop.example/typesetting/impl.Entry]"], unfollowed := true, recurses := true, apart := false, narrowed := true }
def FnExactCollectIndexUptoSaid : Prop := fnExactCollectIndexUptoRow.holds Try.pinned (OpenSpec.upto fnExactCollectIndexSpec)

end Rows
end Go.Proofs.Ytflnbpiegcepcaa
