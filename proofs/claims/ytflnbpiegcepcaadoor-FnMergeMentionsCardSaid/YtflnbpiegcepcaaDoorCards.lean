/-
  DERIVED. GIVEN WITH THE SEED: THE CARDS: each row of YtflnbpiegcepcaaDoorRows.lean that lists a variable, with what it lists TIED to the program's text (the seventh form; the later family's looks); each row that meets fmt, with fmt's text TOLD by the authors' own Lean function (tested against real Go, not proved from fmt's source: count such statements apart). THE CARD IS WHAT COUNTS. Prove the row's statement (the work); the ties are given (YtflnbpiegcepcaaDoorTie.lean); close each card by the builder's one call (the guide's Derived/Test/ToyasCard.lean, 'card_holds'). Laid BY PROGRAM, IN A SANDBOX (cutbox-door.mjs). By AI agents, Wed Nov 11 2026. No macro, syntax, notation, axiom, sorry.
-/
import Derived.Test.YtflnbpiegcepcaaDoorRows
import GoSem.ClaimSeven
namespace Go.Proofs.YtflnbpiegcepcaaDoor
namespace Rows

/-- THE TIED CARD OF 'laws.FnExactFormatPages'. -/
def fnExactFormatPagesCard : Claim7 := { stood := { row := fnExactFormatPagesRow, standIns := [], harness := (true, "76d862c2b6c697fa0387891e6a4007daddf5984b102a10a70ffc66141157d9a0"), looks := true }, kinds := [], alts := [], laidByText := true, laidKinds := [.data, .data, .data], laidTests := true, laidLooks := .later }
def FnExactFormatPagesCardSaid : Prop := Claim7.holds Tryd.pinned (.plain (OpenSpec.ofChange fnExactFormatPagesSpec)) fnExactFormatPagesCard

/-- THE TIED CARD OF 'laws.FnPagesText'. -/
def fnPagesTextCard : Claim7 := { stood := { row := fnPagesTextRow, standIns := [], harness := (true, "76d862c2b6c697fa0387891e6a4007daddf5984b102a10a70ffc66141157d9a0"), looks := true }, kinds := [], alts := [], laidByText := true, laidKinds := [.data, .data, .data, .data, .sentinel, .sentinel, .pinned], laidTests := true, laidLooks := .later }
def FnPagesTextCardSaid : Prop := Claim7.holds Tryd.pinned (.plain (OpenSpec.ofChange fnPagesTextSpec)) fnPagesTextCard

/-- THE TIED CARD OF 'laws.FnExactParsePages'. -/
def fnExactParsePagesCard : Claim7 := { stood := { row := fnExactParsePagesRow, standIns := [], harness := (true, "76d862c2b6c697fa0387891e6a4007daddf5984b102a10a70ffc66141157d9a0"), looks := true }, kinds := [], alts := [], laidByText := true, laidKinds := [.data, .data, .data, .data, .sentinel, .sentinel, .pinned], laidTests := true, laidLooks := .later }
def FnExactParsePagesCardSaid : Prop := Claim7.holds Tryd.pinned (.plain (OpenSpec.ofChange fnExactParsePagesSpec)) fnExactParsePagesCard

/-- THE TIED CARD OF 'laws.FnPagesCanonical'. -/
def fnPagesCanonicalCard : Claim7 := { stood := { row := fnPagesCanonicalRow, standIns := [], harness := (true, "76d862c2b6c697fa0387891e6a4007daddf5984b102a10a70ffc66141157d9a0"), looks := true }, kinds := [], alts := [], laidByText := true, laidKinds := [.data, .data, .data, .data, .sentinel, .sentinel, .pinned], laidTests := true, laidLooks := .later }
def FnPagesCanonicalCardSaid : Prop := Claim7.holds Tryd.pinned (.plain (OpenSpec.ofChange fnPagesCanonicalSpec)) fnPagesCanonicalCard

/-- THE TIED CARD OF 'laws.FnMergeIndex'. -/
def fnMergeIndexCard : Claim7 := { stood := { row := fnMergeIndexRow, standIns := [], harness := (true, "76d862c2b6c697fa0387891e6a4007daddf5984b102a10a70ffc66141157d9a0"), looks := true }, kinds := [], alts := [], laidByText := true, laidKinds := [.data, .data, .data], laidTests := true, laidLooks := .later }
def FnMergeIndexCardSaid : Prop := Claim7.holds Tryd.pinned (.plain (OpenSpec.ofChange fnMergeIndexSpec)) fnMergeIndexCard

/-- THE TIED CARD OF 'laws.FnMergeMentions'. -/
def fnMergeMentionsCard : Claim7 := { stood := { row := fnMergeMentionsRow, standIns := [], harness := (true, "76d862c2b6c697fa0387891e6a4007daddf5984b102a10a70ffc66141157d9a0"), looks := true }, kinds := [], alts := [], laidByText := true, laidKinds := [.data, .data, .data], laidTests := true, laidLooks := .later }
def FnMergeMentionsCardSaid : Prop := Claim7.holds Tryd.pinned (.plain (OpenSpec.ofChange fnMergeMentionsSpec)) fnMergeMentionsCard

/-- THE TIED CARD OF 'laws.FnExactMergeIndex'. -/
def fnExactMergeIndexCard : Claim7 := { stood := { row := fnExactMergeIndexRow, standIns := [], harness := (true, "76d862c2b6c697fa0387891e6a4007daddf5984b102a10a70ffc66141157d9a0"), looks := true }, kinds := [], alts := [], laidByText := true, laidKinds := [.data, .data, .data], laidTests := true, laidLooks := .later }
def FnExactMergeIndexCardSaid : Prop := Claim7.holds Tryd.pinned (.plain (OpenSpec.ofChange fnExactMergeIndexSpec)) fnExactMergeIndexCard

/-- THE TIED CARD OF 'laws.FnMergeEmpty'. -/
def fnMergeEmptyCard : Claim7 := { stood := { row := fnMergeEmptyRow, standIns := [], harness := (true, "76d862c2b6c697fa0387891e6a4007daddf5984b102a10a70ffc66141157d9a0"), looks := true }, kinds := [], alts := [], laidByText := true, laidKinds := [.data, .data, .data], laidTests := true, laidLooks := .later }
def FnMergeEmptyCardSaid : Prop := Claim7.holds Tryd.pinned (.plain (OpenSpec.ofChange fnMergeEmptySpec)) fnMergeEmptyCard

/-- THE SECOND FORM's CARD OF 'laws.FnExactFormatPages'. -/
def fnExactFormatPagesUptoCard : Claim7 := { stood := { row := fnExactFormatPagesUptoRow, standIns := [], harness := (true, "76d862c2b6c697fa0387891e6a4007daddf5984b102a10a70ffc66141157d9a0"), looks := true }, kinds := [], alts := [], laidByText := true, laidKinds := [.data, .data, .data], laidTests := true, laidLooks := .later }
def FnExactFormatPagesUptoCardSaid : Prop := Claim7.holds Tryd.pinned (.plain (OpenSpec.upto fnExactFormatPagesSpec)) fnExactFormatPagesUptoCard

/-- THE SECOND FORM's CARD OF 'laws.FnPagesText'. -/
def fnPagesTextUptoCard : Claim7 := { stood := { row := fnPagesTextUptoRow, standIns := [], harness := (true, "76d862c2b6c697fa0387891e6a4007daddf5984b102a10a70ffc66141157d9a0"), looks := true }, kinds := [], alts := [], laidByText := true, laidKinds := [.data, .data, .data, .data, .sentinel, .sentinel, .pinned], laidTests := true, laidLooks := .later }
def FnPagesTextUptoCardSaid : Prop := Claim7.holds Tryd.pinned (.plain (OpenSpec.upto fnPagesTextSpec)) fnPagesTextUptoCard

/-- THE SECOND FORM's CARD OF 'laws.FnExactParsePages'. -/
def fnExactParsePagesUptoCard : Claim7 := { stood := { row := fnExactParsePagesUptoRow, standIns := [], harness := (true, "76d862c2b6c697fa0387891e6a4007daddf5984b102a10a70ffc66141157d9a0"), looks := true }, kinds := [], alts := [], laidByText := true, laidKinds := [.data, .data, .data, .data, .sentinel, .sentinel, .pinned], laidTests := true, laidLooks := .later }
def FnExactParsePagesUptoCardSaid : Prop := Claim7.holds Tryd.pinned (.plain (OpenSpec.upto fnExactParsePagesSpec)) fnExactParsePagesUptoCard

/-- THE SECOND FORM's CARD OF 'laws.FnPagesCanonical'. -/
def fnPagesCanonicalUptoCard : Claim7 := { stood := { row := fnPagesCanonicalUptoRow, standIns := [], harness := (true, "76d862c2b6c697fa0387891e6a4007daddf5984b102a10a70ffc66141157d9a0"), looks := true }, kinds := [], alts := [], laidByText := true, laidKinds := [.data, .data, .data, .data, .sentinel, .sentinel, .pinned], laidTests := true, laidLooks := .later }
def FnPagesCanonicalUptoCardSaid : Prop := Claim7.holds Tryd.pinned (.plain (OpenSpec.upto fnPagesCanonicalSpec)) fnPagesCanonicalUptoCard

/-- THE SECOND FORM's CARD OF 'laws.FnMergeIndex'. -/
def fnMergeIndexUptoCard : Claim7 := { stood := { row := fnMergeIndexUptoRow, standIns := [], harness := (true, "76d862c2b6c697fa0387891e6a4007daddf5984b102a10a70ffc66141157d9a0"), looks := true }, kinds := [], alts := [], laidByText := true, laidKinds := [.data, .data, .data], laidTests := true, laidLooks := .later }
def FnMergeIndexUptoCardSaid : Prop := Claim7.holds Tryd.pinned (.plain (OpenSpec.upto fnMergeIndexSpec)) fnMergeIndexUptoCard

/-- THE SECOND FORM's CARD OF 'laws.FnMergeMentions'. -/
def fnMergeMentionsUptoCard : Claim7 := { stood := { row := fnMergeMentionsUptoRow, standIns := [], harness := (true, "76d862c2b6c697fa0387891e6a4007daddf5984b102a10a70ffc66141157d9a0"), looks := true }, kinds := [], alts := [], laidByText := true, laidKinds := [.data, .data, .data], laidTests := true, laidLooks := .later }
def FnMergeMentionsUptoCardSaid : Prop := Claim7.holds Tryd.pinned (.plain (OpenSpec.upto fnMergeMentionsSpec)) fnMergeMentionsUptoCard

/-- THE SECOND FORM's CARD OF 'laws.FnExactMergeIndex'. -/
def fnExactMergeIndexUptoCard : Claim7 := { stood := { row := fnExactMergeIndexUptoRow, standIns := [], harness := (true, "76d862c2b6c697fa0387891e6a4007daddf5984b102a10a70ffc66141157d9a0"), looks := true }, kinds := [], alts := [], laidByText := true, laidKinds := [.data, .data, .data], laidTests := true, laidLooks := .later }
def FnExactMergeIndexUptoCardSaid : Prop := Claim7.holds Tryd.pinned (.plain (OpenSpec.upto fnExactMergeIndexSpec)) fnExactMergeIndexUptoCard

/-- THE SECOND FORM's CARD OF 'laws.FnMergeEmpty'. -/
def fnMergeEmptyUptoCard : Claim7 := { stood := { row := fnMergeEmptyUptoRow, standIns := [], harness := (true, "76d862c2b6c697fa0387891e6a4007daddf5984b102a10a70ffc66141157d9a0"), looks := true }, kinds := [], alts := [], laidByText := true, laidKinds := [.data, .data, .data], laidTests := true, laidLooks := .later }
def FnMergeEmptyUptoCardSaid : Prop := Claim7.holds Tryd.pinned (.plain (OpenSpec.upto fnMergeEmptySpec)) fnMergeEmptyUptoCard
end Rows
end Go.Proofs.YtflnbpiegcepcaaDoor
