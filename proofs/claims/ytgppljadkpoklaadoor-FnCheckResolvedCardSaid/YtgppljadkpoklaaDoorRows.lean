/-
  NARROWER THAN 'FOR EVERY INPUT', by the rows' own cells (each row's printed sentence says how): FnPagesOf: laid · FnPagesSmall: laid · FnExactPagesOf: laid · FnExactCheckResolved: laid · FnExactResolvePages: laid · FnResolvePages: laid · FnCheckResolved: laid · FnResolveLeast: laid.
  DERIVED. THE GIVEN ROWS OF THIS SEAT. 8 by the template 'for every input the law returns true; each argument reads behind the call as it read before'; 0 by the template 'total and deterministic' (their statements: YtgppljadkpoklaaDoorTotals.lean).
  GIVEN WITH THE SEED: the statements are not yours to turn. If you find one false, say at which input.
  Laid BY PROGRAM, IN A SANDBOX (cutbox-rows.mjs): the forced cells as the released guide's own fill.sh prints them over the translation 3824f24b3c6b2041… (all of the seat's roots in one cut). By AI agents, Wed Nov 11 2026. No macro, syntax, notation, axiom, sorry.
-/
import Derived.Test.YtgppljadkpoklaaDoorChecked
import GoSem.Claim
import GoSem.ClaimJoined
import GoSem.ClaimMapViews
import Derived.JoinedTies
import Derived.KernelRfl
namespace Go.Proofs.YtgppljadkpoklaaDoor
/- THE CELL 'sum', in the pinned program and in every row, IS THE sha256 OF THE DUMP (.gsa) THAT YtgppljadkpoklaaDoorProg.lean LOADS. Nothing in Lean hashes anything: it is a label: what it is worth is what the hold of that sum in a sandbox is worth. -/
noncomputable def Tryd.pinned : Pinned := { name := "ytgppljadkpoklaadoor", sum := "3824f24b3c6b204107d533f7519e2820bf9eb32073b1c74e75207b31e5b954db", checked := Tryd.checked }
namespace Rows
def none {H : Type} : Left H := { results := [], args := [] }

/- WHAT THE LISTED PACKAGE-LEVEL VARIABLES READ AS WHEN THE CALL BEGINS. Each datum BY PROGRAM (the guide's laid-datum.mjs) off the statement by which the dump's own 'gosem.cut.vars' lays the variable. In a bare row this is a premise. The card (YtgppljadkpoklaaDoorCards.lean) ties it to the program's text. -/
def laid_math_bits_deBruijn32tab {H : Type} : DataW H := .agg [.lit (.int .u8 0), .lit (.int .u8 1), .lit (.int .u8 28), .lit (.int .u8 2), .lit (.int .u8 29), .lit (.int .u8 14), .lit (.int .u8 24), .lit (.int .u8 3), .lit (.int .u8 30), .lit (.int .u8 22), .lit (.int .u8 20), .lit (.int .u8 15), .lit (.int .u8 25), .lit (.int .u8 17), .lit (.int .u8 4), .lit (.int .u8 8), .lit (.int .u8 31), .lit (.int .u8 27), .lit (.int .u8 13), .lit (.int .u8 23), .lit (.int .u8 21), .lit (.int .u8 19), .lit (.int .u8 16), .lit (.int .u8 7), .lit (.int .u8 26), .lit (.int .u8 12), .lit (.int .u8 18), .lit (.int .u8 6), .lit (.int .u8 11), .lit (.int .u8 5), .lit (.int .u8 10), .lit (.int .u8 9)]
def laid_math_bits_deBruijn64tab {H : Type} : DataW H := .agg [.lit (.int .u8 0), .lit (.int .u8 1), .lit (.int .u8 56), .lit (.int .u8 2), .lit (.int .u8 57), .lit (.int .u8 49), .lit (.int .u8 28), .lit (.int .u8 3), .lit (.int .u8 61), .lit (.int .u8 58), .lit (.int .u8 42), .lit (.int .u8 50), .lit (.int .u8 38), .lit (.int .u8 29), .lit (.int .u8 17), .lit (.int .u8 4), .lit (.int .u8 62), .lit (.int .u8 47), .lit (.int .u8 59), .lit (.int .u8 36), .lit (.int .u8 45), .lit (.int .u8 43), .lit (.int .u8 51), .lit (.int .u8 22), .lit (.int .u8 53), .lit (.int .u8 39), .lit (.int .u8 33), .lit (.int .u8 30), .lit (.int .u8 24), .lit (.int .u8 18), .lit (.int .u8 12), .lit (.int .u8 5), .lit (.int .u8 63), .lit (.int .u8 55), .lit (.int .u8 48), .lit (.int .u8 27), .lit (.int .u8 60), .lit (.int .u8 41), .lit (.int .u8 37), .lit (.int .u8 16), .lit (.int .u8 46), .lit (.int .u8 35), .lit (.int .u8 44), .lit (.int .u8 21), .lit (.int .u8 52), .lit (.int .u8 32), .lit (.int .u8 23), .lit (.int .u8 11), .lit (.int .u8 54), .lit (.int .u8 26), .lit (.int .u8 40), .lit (.int .u8 15), .lit (.int .u8 34), .lit (.int .u8 20), .lit (.int .u8 31), .lit (.int .u8 10), .lit (.int .u8 25), .lit (.int .u8 14), .lit (.int .u8 19), .lit (.int .u8 9), .lit (.int .u8 13), .lit (.int .u8 8), .lit (.int .u8 7), .lit (.int .u8 6)]
def laid_internal_strconv_uint64pow10 {H : Type} : DataW H := .agg [.lit (.int .u64 1), .lit (.int .u64 10), .lit (.int .u64 100), .lit (.int .u64 1000), .lit (.int .u64 10000), .lit (.int .u64 100000), .lit (.int .u64 1000000), .lit (.int .u64 10000000), .lit (.int .u64 100000000), .lit (.int .u64 1000000000), .lit (.int .u64 10000000000), .lit (.int .u64 100000000000), .lit (.int .u64 1000000000000), .lit (.int .u64 10000000000000), .lit (.int .u64 100000000000000), .lit (.int .u64 1000000000000000), .lit (.int .u64 10000000000000000), .lit (.int .u64 100000000000000000), .lit (.int .u64 1000000000000000000), .lit (.int .u64 10000000000000000000)]

/-- 'laws.FnPagesOf': WHATEVER THE INPUT: true; the input reads as it did. -/
def fnPagesOfSpec : ChangeSpec := { name := "fnPagesOf", fn := fun _ => fun
  | [d] => { results := [.lit (.bool true)], args := [d] }
  | _ => none }
def fnPagesOfRow : OpenClaim := { program := "ytgppljadkpoklaadoor", sum := "3824f24b3c6b204107d533f7519e2820bf9eb32073b1c74e75207b31e5b954db", func := "loop.example/typesetting/laws.FnPagesOf", spec := "fnPagesOf", recurses := true, named := ["internal/strconv.uint64pow10", "math/bits.deBruijn32tab", "math/bits.deBruijn64tab"], apart := false, laid := [("math/bits.deBruijn32tab", laid_math_bits_deBruijn32tab), ("math/bits.deBruijn64tab", laid_math_bits_deBruijn64tab), ("internal/strconv.uint64pow10", laid_internal_strconv_uint64pow10)] }
def FnPagesOfSaid : Prop := fnPagesOfRow.holds Tryd.pinned (OpenSpec.ofChange fnPagesOfSpec)

/-- ITS FALSE NEIGHBOUR: 'it returns false'. Refute it at one input. -/
def fnPagesOfWrong : ChangeSpec := { name := "fnPagesOf", fn := fun _ => fun
  | [d] => { results := [.lit (.bool false)], args := [d] }
  | _ => none }
def FnPagesOfWrongFalsely : Prop := fnPagesOfRow.holds Tryd.pinned (OpenSpec.ofChange fnPagesOfWrong)

/-- 'laws.FnPagesSmall': WHATEVER THE INPUT: true; the input reads as it did. -/
def fnPagesSmallSpec : ChangeSpec := { name := "fnPagesSmall", fn := fun _ => fun
  | [d] => { results := [.lit (.bool true)], args := [d] }
  | _ => none }
def fnPagesSmallRow : OpenClaim := { program := "ytgppljadkpoklaadoor", sum := "3824f24b3c6b204107d533f7519e2820bf9eb32073b1c74e75207b31e5b954db", func := "loop.example/typesetting/laws.FnPagesSmall", spec := "fnPagesSmall", recurses := true, named := ["internal/strconv.uint64pow10", "math/bits.deBruijn32tab", "math/bits.deBruijn64tab"], apart := false, laid := [("math/bits.deBruijn32tab", laid_math_bits_deBruijn32tab), ("math/bits.deBruijn64tab", laid_math_bits_deBruijn64tab), ("internal/strconv.uint64pow10", laid_internal_strconv_uint64pow10)] }
def FnPagesSmallSaid : Prop := fnPagesSmallRow.holds Tryd.pinned (OpenSpec.ofChange fnPagesSmallSpec)

/-- ITS FALSE NEIGHBOUR: 'it returns false'. Refute it at one input. -/
def fnPagesSmallWrong : ChangeSpec := { name := "fnPagesSmall", fn := fun _ => fun
  | [d] => { results := [.lit (.bool false)], args := [d] }
  | _ => none }
def FnPagesSmallWrongFalsely : Prop := fnPagesSmallRow.holds Tryd.pinned (OpenSpec.ofChange fnPagesSmallWrong)

/-- 'laws.FnExactPagesOf': WHATEVER THE INPUT: true; the input reads as it did. -/
def fnExactPagesOfSpec : ChangeSpec := { name := "fnExactPagesOf", fn := fun _ => fun
  | [d1, d2, d3] => { results := [.lit (.bool true)], args := [d1, d2, d3] }
  | _ => none }
def fnExactPagesOfRow : OpenClaim := { program := "ytgppljadkpoklaadoor", sum := "3824f24b3c6b204107d533f7519e2820bf9eb32073b1c74e75207b31e5b954db", func := "loop.example/typesetting/laws.FnExactPagesOf", spec := "fnExactPagesOf", recurses := true, named := ["internal/strconv.uint64pow10", "math/bits.deBruijn32tab", "math/bits.deBruijn64tab"], apart := false, laid := [("math/bits.deBruijn32tab", laid_math_bits_deBruijn32tab), ("math/bits.deBruijn64tab", laid_math_bits_deBruijn64tab), ("internal/strconv.uint64pow10", laid_internal_strconv_uint64pow10)] }
def FnExactPagesOfSaid : Prop := fnExactPagesOfRow.holds Tryd.pinned (OpenSpec.ofChange fnExactPagesOfSpec)

/-- ITS FALSE NEIGHBOUR: 'it returns false'. Refute it at one input. -/
def fnExactPagesOfWrong : ChangeSpec := { name := "fnExactPagesOf", fn := fun _ => fun
  | [d1, d2, d3] => { results := [.lit (.bool false)], args := [d1, d2, d3] }
  | _ => none }
def FnExactPagesOfWrongFalsely : Prop := fnExactPagesOfRow.holds Tryd.pinned (OpenSpec.ofChange fnExactPagesOfWrong)

/-- 'laws.FnExactCheckResolved': WHATEVER THE INPUT: true; the input reads as it did. -/
def fnExactCheckResolvedSpec : ChangeSpec := { name := "fnExactCheckResolved", fn := fun _ => fun
  | [d1, d2, d3] => { results := [.lit (.bool true)], args := [d1, d2, d3] }
  | _ => none }
def fnExactCheckResolvedRow : OpenClaim := { program := "ytgppljadkpoklaadoor", sum := "3824f24b3c6b204107d533f7519e2820bf9eb32073b1c74e75207b31e5b954db", func := "loop.example/typesetting/laws.FnExactCheckResolved", spec := "fnExactCheckResolved", recurses := true, named := ["internal/strconv.uint64pow10", "math/bits.deBruijn32tab", "math/bits.deBruijn64tab"], apart := false, laid := [("math/bits.deBruijn32tab", laid_math_bits_deBruijn32tab), ("math/bits.deBruijn64tab", laid_math_bits_deBruijn64tab), ("internal/strconv.uint64pow10", laid_internal_strconv_uint64pow10)] }
def FnExactCheckResolvedSaid : Prop := fnExactCheckResolvedRow.holds Tryd.pinned (OpenSpec.ofChange fnExactCheckResolvedSpec)

/-- ITS FALSE NEIGHBOUR: 'it returns false'. Refute it at one input. -/
def fnExactCheckResolvedWrong : ChangeSpec := { name := "fnExactCheckResolved", fn := fun _ => fun
  | [d1, d2, d3] => { results := [.lit (.bool false)], args := [d1, d2, d3] }
  | _ => none }
def FnExactCheckResolvedWrongFalsely : Prop := fnExactCheckResolvedRow.holds Tryd.pinned (OpenSpec.ofChange fnExactCheckResolvedWrong)

/-- 'laws.FnExactResolvePages': WHATEVER THE INPUT: true; the input reads as it did. -/
def fnExactResolvePagesSpec : ChangeSpec := { name := "fnExactResolvePages", fn := fun _ => fun
  | [d1, d2] => { results := [.lit (.bool true)], args := [d1, d2] }
  | _ => none }
def fnExactResolvePagesRow : OpenClaim := { program := "ytgppljadkpoklaadoor", sum := "3824f24b3c6b204107d533f7519e2820bf9eb32073b1c74e75207b31e5b954db", func := "loop.example/typesetting/laws.FnExactResolvePages", spec := "fnExactResolvePages", recurses := true, named := ["internal/strconv.uint64pow10", "math/bits.deBruijn32tab", "math/bits.deBruijn64tab"], apart := false, laid := [("math/bits.deBruijn32tab", laid_math_bits_deBruijn32tab), ("math/bits.deBruijn64tab", laid_math_bits_deBruijn64tab), ("internal/strconv.uint64pow10", laid_internal_strconv_uint64pow10)] }
def FnExactResolvePagesSaid : Prop := fnExactResolvePagesRow.holds Tryd.pinned (OpenSpec.ofChange fnExactResolvePagesSpec)

/-- ITS FALSE NEIGHBOUR: 'it returns false'. Refute it at one input. -/
def fnExactResolvePagesWrong : ChangeSpec := { name := "fnExactResolvePages", fn := fun _ => fun
  | [d1, d2] => { results := [.lit (.bool false)], args := [d1, d2] }
  | _ => none }
def FnExactResolvePagesWrongFalsely : Prop := fnExactResolvePagesRow.holds Tryd.pinned (OpenSpec.ofChange fnExactResolvePagesWrong)

/-- 'laws.FnResolvePages': WHATEVER THE INPUT: true; the input reads as it did. -/
def fnResolvePagesSpec : ChangeSpec := { name := "fnResolvePages", fn := fun _ => fun
  | [d] => { results := [.lit (.bool true)], args := [d] }
  | _ => none }
def fnResolvePagesRow : OpenClaim := { program := "ytgppljadkpoklaadoor", sum := "3824f24b3c6b204107d533f7519e2820bf9eb32073b1c74e75207b31e5b954db", func := "loop.example/typesetting/laws.FnResolvePages", spec := "fnResolvePages", recurses := true, named := ["internal/strconv.uint64pow10", "math/bits.deBruijn32tab", "math/bits.deBruijn64tab"], apart := false, laid := [("math/bits.deBruijn32tab", laid_math_bits_deBruijn32tab), ("math/bits.deBruijn64tab", laid_math_bits_deBruijn64tab), ("internal/strconv.uint64pow10", laid_internal_strconv_uint64pow10)] }
def FnResolvePagesSaid : Prop := fnResolvePagesRow.holds Tryd.pinned (OpenSpec.ofChange fnResolvePagesSpec)

/-- ITS FALSE NEIGHBOUR: 'it returns false'. Refute it at one input. -/
def fnResolvePagesWrong : ChangeSpec := { name := "fnResolvePages", fn := fun _ => fun
  | [d] => { results := [.lit (.bool false)], args := [d] }
  | _ => none }
def FnResolvePagesWrongFalsely : Prop := fnResolvePagesRow.holds Tryd.pinned (OpenSpec.ofChange fnResolvePagesWrong)

/-- 'laws.FnCheckResolved': WHATEVER THE INPUT: true; the input reads as it did. -/
def fnCheckResolvedSpec : ChangeSpec := { name := "fnCheckResolved", fn := fun _ => fun
  | [d] => { results := [.lit (.bool true)], args := [d] }
  | _ => none }
def fnCheckResolvedRow : OpenClaim := { program := "ytgppljadkpoklaadoor", sum := "3824f24b3c6b204107d533f7519e2820bf9eb32073b1c74e75207b31e5b954db", func := "loop.example/typesetting/laws.FnCheckResolved", spec := "fnCheckResolved", recurses := true, named := ["internal/strconv.uint64pow10", "math/bits.deBruijn32tab", "math/bits.deBruijn64tab"], apart := false, laid := [("math/bits.deBruijn32tab", laid_math_bits_deBruijn32tab), ("math/bits.deBruijn64tab", laid_math_bits_deBruijn64tab), ("internal/strconv.uint64pow10", laid_internal_strconv_uint64pow10)] }
def FnCheckResolvedSaid : Prop := fnCheckResolvedRow.holds Tryd.pinned (OpenSpec.ofChange fnCheckResolvedSpec)

/-- ITS FALSE NEIGHBOUR: 'it returns false'. Refute it at one input. -/
def fnCheckResolvedWrong : ChangeSpec := { name := "fnCheckResolved", fn := fun _ => fun
  | [d] => { results := [.lit (.bool false)], args := [d] }
  | _ => none }
def FnCheckResolvedWrongFalsely : Prop := fnCheckResolvedRow.holds Tryd.pinned (OpenSpec.ofChange fnCheckResolvedWrong)

/-- 'laws.FnResolveLeast': WHATEVER THE INPUT: true; the input reads as it did. -/
def fnResolveLeastSpec : ChangeSpec := { name := "fnResolveLeast", fn := fun _ => fun
  | [d] => { results := [.lit (.bool true)], args := [d] }
  | _ => none }
def fnResolveLeastRow : OpenClaim := { program := "ytgppljadkpoklaadoor", sum := "3824f24b3c6b204107d533f7519e2820bf9eb32073b1c74e75207b31e5b954db", func := "loop.example/typesetting/laws.FnResolveLeast", spec := "fnResolveLeast", recurses := true, named := ["internal/strconv.uint64pow10", "math/bits.deBruijn32tab", "math/bits.deBruijn64tab"], apart := false, laid := [("math/bits.deBruijn32tab", laid_math_bits_deBruijn32tab), ("math/bits.deBruijn64tab", laid_math_bits_deBruijn64tab), ("internal/strconv.uint64pow10", laid_internal_strconv_uint64pow10)] }
def FnResolveLeastSaid : Prop := fnResolveLeastRow.holds Tryd.pinned (OpenSpec.ofChange fnResolveLeastSpec)

/-- ITS FALSE NEIGHBOUR: 'it returns false'. Refute it at one input. -/
def fnResolveLeastWrong : ChangeSpec := { name := "fnResolveLeast", fn := fun _ => fun
  | [d] => { results := [.lit (.bool false)], args := [d] }
  | _ => none }
def FnResolveLeastWrongFalsely : Prop := fnResolveLeastRow.holds Tryd.pinned (OpenSpec.ofChange fnResolveLeastWrong)

/- THE SECOND FORM. 'bulk': how many values and letters a reading holds, each counted each time it is reached (what is shared counts as often as it is met; a slice's spare places count too). A statement '..UptoSaid' is the law's where the arguments, and the package variables that the reading takes, are together of bulk at most 1048576: NARROWER than '..Said'. Prove '..Said' where nothing that the law and all that it calls make is longer than what came in: it says more and counts as full. Else prove '..UptoSaid'. A law counts once. -/
mutual
def uptoBulk {H : Type} : DataW H → Nat
  | .lit (.string bytes) => bytes.length + 1
  | .lit _ => 1
  | .nil => 1
  | .ptr d => uptoBulk d + 1
  | .slice elems spare => uptoBulkAll elems + uptoBulkAll spare + 1
  | .agg parts => uptoBulkAll parts + 1
  | .iface _ d => uptoBulk d + 1
  | .map entries => uptoBulkEntries entries + 1
  | .held _ => 1
def uptoBulkAll {H : Type} : List (DataW H) → Nat
  | [] => 0
  | d :: r => uptoBulk d + uptoBulkAll r
def uptoBulkEntries {H : Type} : List (Lit × DataW H) → Nat
  | [] => 0
  | x :: r => uptoBulkEntry x + uptoBulkEntries r
def uptoBulkEntry {H : Type} : Lit × DataW H → Nat
  | (.string bytes, d) => bytes.length + uptoBulk d + 1
  | (_, d) => uptoBulk d + 1
 end
def uptoSmall : (H : Type) → List (DataW H) → Bool := fun _ ds => decide (uptoBulkAll ds ≤ 1048576)
def OpenSpec.upto (s : _root_.Go.ChangeSpec) : _root_.Go.OpenSpec := { _root_.Go.OpenSpec.ofChange s with cond := some uptoSmall }

/-- 'laws.FnPagesOf', WHERE WHAT IT READS IS OF BULK AT MOST 1048576: true; the input reads as it did. -/
def fnPagesOfUptoRow : OpenClaim := { program := "ytgppljadkpoklaadoor", sum := "3824f24b3c6b204107d533f7519e2820bf9eb32073b1c74e75207b31e5b954db", func := "loop.example/typesetting/laws.FnPagesOf", spec := "fnPagesOf", recurses := true, named := ["internal/strconv.uint64pow10", "math/bits.deBruijn32tab", "math/bits.deBruijn64tab"], apart := false, laid := [("math/bits.deBruijn32tab", laid_math_bits_deBruijn32tab), ("math/bits.deBruijn64tab", laid_math_bits_deBruijn64tab), ("internal/strconv.uint64pow10", laid_internal_strconv_uint64pow10)], narrowed := true }
def FnPagesOfUptoSaid : Prop := fnPagesOfUptoRow.holds Tryd.pinned (OpenSpec.upto fnPagesOfSpec)

/-- 'laws.FnPagesSmall', WHERE WHAT IT READS IS OF BULK AT MOST 1048576: true; the input reads as it did. -/
def fnPagesSmallUptoRow : OpenClaim := { program := "ytgppljadkpoklaadoor", sum := "3824f24b3c6b204107d533f7519e2820bf9eb32073b1c74e75207b31e5b954db", func := "loop.example/typesetting/laws.FnPagesSmall", spec := "fnPagesSmall", recurses := true, named := ["internal/strconv.uint64pow10", "math/bits.deBruijn32tab", "math/bits.deBruijn64tab"], apart := false, laid := [("math/bits.deBruijn32tab", laid_math_bits_deBruijn32tab), ("math/bits.deBruijn64tab", laid_math_bits_deBruijn64tab), ("internal/strconv.uint64pow10", laid_internal_strconv_uint64pow10)], narrowed := true }
def FnPagesSmallUptoSaid : Prop := fnPagesSmallUptoRow.holds Tryd.pinned (OpenSpec.upto fnPagesSmallSpec)

/-- 'laws.FnExactPagesOf', WHERE WHAT IT READS IS OF BULK AT MOST 1048576: true; the input reads as it did. -/
def fnExactPagesOfUptoRow : OpenClaim := { program := "ytgppljadkpoklaadoor", sum := "3824f24b3c6b204107d533f7519e2820bf9eb32073b1c74e75207b31e5b954db", func := "loop.example/typesetting/laws.FnExactPagesOf", spec := "fnExactPagesOf", recurses := true, named := ["internal/strconv.uint64pow10", "math/bits.deBruijn32tab", "math/bits.deBruijn64tab"], apart := false, laid := [("math/bits.deBruijn32tab", laid_math_bits_deBruijn32tab), ("math/bits.deBruijn64tab", laid_math_bits_deBruijn64tab), ("internal/strconv.uint64pow10", laid_internal_strconv_uint64pow10)], narrowed := true }
def FnExactPagesOfUptoSaid : Prop := fnExactPagesOfUptoRow.holds Tryd.pinned (OpenSpec.upto fnExactPagesOfSpec)

/-- 'laws.FnExactCheckResolved', WHERE WHAT IT READS IS OF BULK AT MOST 1048576: true; the input reads as it did. -/
def fnExactCheckResolvedUptoRow : OpenClaim := { program := "ytgppljadkpoklaadoor", sum := "3824f24b3c6b204107d533f7519e2820bf9eb32073b1c74e75207b31e5b954db", func := "loop.example/typesetting/laws.FnExactCheckResolved", spec := "fnExactCheckResolved", recurses := true, named := ["internal/strconv.uint64pow10", "math/bits.deBruijn32tab", "math/bits.deBruijn64tab"], apart := false, laid := [("math/bits.deBruijn32tab", laid_math_bits_deBruijn32tab), ("math/bits.deBruijn64tab", laid_math_bits_deBruijn64tab), ("internal/strconv.uint64pow10", laid_internal_strconv_uint64pow10)], narrowed := true }
def FnExactCheckResolvedUptoSaid : Prop := fnExactCheckResolvedUptoRow.holds Tryd.pinned (OpenSpec.upto fnExactCheckResolvedSpec)

/-- 'laws.FnExactResolvePages', WHERE WHAT IT READS IS OF BULK AT MOST 1048576: true; the input reads as it did. -/
def fnExactResolvePagesUptoRow : OpenClaim := { program := "ytgppljadkpoklaadoor", sum := "3824f24b3c6b204107d533f7519e2820bf9eb32073b1c74e75207b31e5b954db", func := "loop.example/typesetting/laws.FnExactResolvePages", spec := "fnExactResolvePages", recurses := true, named := ["internal/strconv.uint64pow10", "math/bits.deBruijn32tab", "math/bits.deBruijn64tab"], apart := false, laid := [("math/bits.deBruijn32tab", laid_math_bits_deBruijn32tab), ("math/bits.deBruijn64tab", laid_math_bits_deBruijn64tab), ("internal/strconv.uint64pow10", laid_internal_strconv_uint64pow10)], narrowed := true }
def FnExactResolvePagesUptoSaid : Prop := fnExactResolvePagesUptoRow.holds Tryd.pinned (OpenSpec.upto fnExactResolvePagesSpec)

/-- 'laws.FnResolvePages', WHERE WHAT IT READS IS OF BULK AT MOST 1048576: true; the input reads as it did. -/
def fnResolvePagesUptoRow : OpenClaim := { program := "ytgppljadkpoklaadoor", sum := "3824f24b3c6b204107d533f7519e2820bf9eb32073b1c74e75207b31e5b954db", func := "loop.example/typesetting/laws.FnResolvePages", spec := "fnResolvePages", recurses := true, named := ["internal/strconv.uint64pow10", "math/bits.deBruijn32tab", "math/bits.deBruijn64tab"], apart := false, laid := [("math/bits.deBruijn32tab", laid_math_bits_deBruijn32tab), ("math/bits.deBruijn64tab", laid_math_bits_deBruijn64tab), ("internal/strconv.uint64pow10", laid_internal_strconv_uint64pow10)], narrowed := true }
def FnResolvePagesUptoSaid : Prop := fnResolvePagesUptoRow.holds Tryd.pinned (OpenSpec.upto fnResolvePagesSpec)

/-- 'laws.FnCheckResolved', WHERE WHAT IT READS IS OF BULK AT MOST 1048576: true; the input reads as it did. -/
def fnCheckResolvedUptoRow : OpenClaim := { program := "ytgppljadkpoklaadoor", sum := "3824f24b3c6b204107d533f7519e2820bf9eb32073b1c74e75207b31e5b954db", func := "loop.example/typesetting/laws.FnCheckResolved", spec := "fnCheckResolved", recurses := true, named := ["internal/strconv.uint64pow10", "math/bits.deBruijn32tab", "math/bits.deBruijn64tab"], apart := false, laid := [("math/bits.deBruijn32tab", laid_math_bits_deBruijn32tab), ("math/bits.deBruijn64tab", laid_math_bits_deBruijn64tab), ("internal/strconv.uint64pow10", laid_internal_strconv_uint64pow10)], narrowed := true }
def FnCheckResolvedUptoSaid : Prop := fnCheckResolvedUptoRow.holds Tryd.pinned (OpenSpec.upto fnCheckResolvedSpec)

/-- 'laws.FnResolveLeast', WHERE WHAT IT READS IS OF BULK AT MOST 1048576: true; the input reads as it did. -/
def fnResolveLeastUptoRow : OpenClaim := { program := "ytgppljadkpoklaadoor", sum := "3824f24b3c6b204107d533f7519e2820bf9eb32073b1c74e75207b31e5b954db", func := "loop.example/typesetting/laws.FnResolveLeast", spec := "fnResolveLeast", recurses := true, named := ["internal/strconv.uint64pow10", "math/bits.deBruijn32tab", "math/bits.deBruijn64tab"], apart := false, laid := [("math/bits.deBruijn32tab", laid_math_bits_deBruijn32tab), ("math/bits.deBruijn64tab", laid_math_bits_deBruijn64tab), ("internal/strconv.uint64pow10", laid_internal_strconv_uint64pow10)], narrowed := true }
def FnResolveLeastUptoSaid : Prop := fnResolveLeastUptoRow.holds Tryd.pinned (OpenSpec.upto fnResolveLeastSpec)

end Rows
end Go.Proofs.YtgppljadkpoklaaDoor
