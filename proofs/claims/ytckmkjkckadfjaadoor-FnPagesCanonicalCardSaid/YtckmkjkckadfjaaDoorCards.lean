/-
  DERIVED. GIVEN WITH THE SEED: THE CARDS: each row of YtckmkjkckadfjaaDoorRows.lean that lists a variable, with what it lists TIED to the program's text (the seventh form; the later family's looks); each row that meets fmt, with fmt's text TOLD by the authors' own Lean function (tested against real Go, not proved from fmt's source: count such statements apart). THE CARD IS WHAT COUNTS. Prove the row's statement (the work); the ties are given (YtckmkjkckadfjaaDoorTie.lean); close each card by the builder's one call (the guide's Derived/Test/ToyasCard.lean, 'card_holds'). Laid BY PROGRAM, IN A SANDBOX (cutbox-door.mjs). By AI agents, Wed Nov 11 2026. No macro, syntax, notation, axiom, sorry.
-/
import Derived.Test.YtckmkjkckadfjaaDoorRows
import GoSem.ClaimSeven
namespace Go.Proofs.YtckmkjkckadfjaaDoor
namespace Rows

/-- THE TIED CARD OF 'laws.FnPagesText'. -/
def fnPagesTextCard : Claim7 := { stood := { row := fnPagesTextRow, standIns := [], harness := (true, "b557980804f1c128a767109476bc7c5fda53f391001c0fcb0e0d10ab8c2b6a13"), looks := true }, kinds := [], alts := [], laidByText := true, laidKinds := [.data, .data, .data, .data, .sentinel, .sentinel, .pinned], laidTests := true, laidLooks := .later }
def FnPagesTextCardSaid : Prop := Claim7.holds Tryd.pinned (.plain (OpenSpec.ofChange fnPagesTextSpec)) fnPagesTextCard

/-- THE TIED CARD OF 'laws.FnExactParsePages'. -/
def fnExactParsePagesCard : Claim7 := { stood := { row := fnExactParsePagesRow, standIns := [], harness := (true, "b557980804f1c128a767109476bc7c5fda53f391001c0fcb0e0d10ab8c2b6a13"), looks := true }, kinds := [], alts := [], laidByText := true, laidKinds := [.data, .data, .data, .data, .sentinel, .sentinel, .pinned], laidTests := true, laidLooks := .later }
def FnExactParsePagesCardSaid : Prop := Claim7.holds Tryd.pinned (.plain (OpenSpec.ofChange fnExactParsePagesSpec)) fnExactParsePagesCard

/-- THE TIED CARD OF 'laws.FnPagesCanonical'. -/
def fnPagesCanonicalCard : Claim7 := { stood := { row := fnPagesCanonicalRow, standIns := [], harness := (true, "b557980804f1c128a767109476bc7c5fda53f391001c0fcb0e0d10ab8c2b6a13"), looks := true }, kinds := [], alts := [], laidByText := true, laidKinds := [.data, .data, .data, .data, .sentinel, .sentinel, .pinned], laidTests := true, laidLooks := .later }
def FnPagesCanonicalCardSaid : Prop := Claim7.holds Tryd.pinned (.plain (OpenSpec.ofChange fnPagesCanonicalSpec)) fnPagesCanonicalCard

/-- THE SECOND FORM's CARD OF 'laws.FnPagesText'. -/
def fnPagesTextUptoCard : Claim7 := { stood := { row := fnPagesTextUptoRow, standIns := [], harness := (true, "b557980804f1c128a767109476bc7c5fda53f391001c0fcb0e0d10ab8c2b6a13"), looks := true }, kinds := [], alts := [], laidByText := true, laidKinds := [.data, .data, .data, .data, .sentinel, .sentinel, .pinned], laidTests := true, laidLooks := .later }
def FnPagesTextUptoCardSaid : Prop := Claim7.holds Tryd.pinned (.plain (OpenSpec.upto fnPagesTextSpec)) fnPagesTextUptoCard

/-- THE SECOND FORM's CARD OF 'laws.FnExactParsePages'. -/
def fnExactParsePagesUptoCard : Claim7 := { stood := { row := fnExactParsePagesUptoRow, standIns := [], harness := (true, "b557980804f1c128a767109476bc7c5fda53f391001c0fcb0e0d10ab8c2b6a13"), looks := true }, kinds := [], alts := [], laidByText := true, laidKinds := [.data, .data, .data, .data, .sentinel, .sentinel, .pinned], laidTests := true, laidLooks := .later }
def FnExactParsePagesUptoCardSaid : Prop := Claim7.holds Tryd.pinned (.plain (OpenSpec.upto fnExactParsePagesSpec)) fnExactParsePagesUptoCard

/-- THE SECOND FORM's CARD OF 'laws.FnPagesCanonical'. -/
def fnPagesCanonicalUptoCard : Claim7 := { stood := { row := fnPagesCanonicalUptoRow, standIns := [], harness := (true, "b557980804f1c128a767109476bc7c5fda53f391001c0fcb0e0d10ab8c2b6a13"), looks := true }, kinds := [], alts := [], laidByText := true, laidKinds := [.data, .data, .data, .data, .sentinel, .sentinel, .pinned], laidTests := true, laidLooks := .later }
def FnPagesCanonicalUptoCardSaid : Prop := Claim7.holds Tryd.pinned (.plain (OpenSpec.upto fnPagesCanonicalSpec)) fnPagesCanonicalUptoCard
end Rows
end Go.Proofs.YtckmkjkckadfjaaDoor
