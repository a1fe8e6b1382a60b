/-
  DERIVED. GIVEN WITH THE SEED: THE CARDS: each row of YtgppljadkpoklaaDoorRows.lean that lists a variable, with what it lists TIED to the program's text (the seventh form; the later family's looks); each row that meets fmt, with fmt's text TOLD by the authors' own Lean function (tested against real Go, not proved from fmt's source: count such statements apart). THE CARD IS WHAT COUNTS. Prove the row's statement (the work); the ties are given (YtgppljadkpoklaaDoorTie.lean); close each card by the builder's one call (the guide's Derived/Test/ToyasCard.lean, 'card_holds'). Laid BY PROGRAM, IN A SANDBOX (cutbox-door.mjs). By AI agents, Wed Nov 11 2026. No macro, syntax, notation, axiom, sorry.
-/
import Derived.Test.YtgppljadkpoklaaDoorRows
import GoSem.ClaimSeven
namespace Go.Proofs.YtgppljadkpoklaaDoor
namespace Rows

/-- THE TIED CARD OF 'laws.FnPagesOf'. -/
def fnPagesOfCard : Claim7 := { stood := { row := fnPagesOfRow, standIns := [], harness := (true, "e52a7ba42692882e1c062b67daea870a0de9db3f343be03407a645aa417260f9"), looks := false }, kinds := [], alts := [], laidByText := true, laidKinds := [.data, .data, .data], laidTests := true, laidLooks := .later }
def FnPagesOfCardSaid : Prop := Claim7.holds Tryd.pinned (.plain (OpenSpec.ofChange fnPagesOfSpec)) fnPagesOfCard

/-- THE TIED CARD OF 'laws.FnPagesSmall'. -/
def fnPagesSmallCard : Claim7 := { stood := { row := fnPagesSmallRow, standIns := [], harness := (true, "e52a7ba42692882e1c062b67daea870a0de9db3f343be03407a645aa417260f9"), looks := false }, kinds := [], alts := [], laidByText := true, laidKinds := [.data, .data, .data], laidTests := true, laidLooks := .later }
def FnPagesSmallCardSaid : Prop := Claim7.holds Tryd.pinned (.plain (OpenSpec.ofChange fnPagesSmallSpec)) fnPagesSmallCard

/-- THE TIED CARD OF 'laws.FnExactPagesOf'. -/
def fnExactPagesOfCard : Claim7 := { stood := { row := fnExactPagesOfRow, standIns := [], harness := (true, "e52a7ba42692882e1c062b67daea870a0de9db3f343be03407a645aa417260f9"), looks := false }, kinds := [], alts := [], laidByText := true, laidKinds := [.data, .data, .data], laidTests := true, laidLooks := .later }
def FnExactPagesOfCardSaid : Prop := Claim7.holds Tryd.pinned (.plain (OpenSpec.ofChange fnExactPagesOfSpec)) fnExactPagesOfCard

/-- THE TIED CARD OF 'laws.FnExactCheckResolved'. -/
def fnExactCheckResolvedCard : Claim7 := { stood := { row := fnExactCheckResolvedRow, standIns := [], harness := (true, "e52a7ba42692882e1c062b67daea870a0de9db3f343be03407a645aa417260f9"), looks := false }, kinds := [], alts := [], laidByText := true, laidKinds := [.data, .data, .data], laidTests := true, laidLooks := .later }
def FnExactCheckResolvedCardSaid : Prop := Claim7.holds Tryd.pinned (.plain (OpenSpec.ofChange fnExactCheckResolvedSpec)) fnExactCheckResolvedCard

/-- THE TIED CARD OF 'laws.FnExactResolvePages'. -/
def fnExactResolvePagesCard : Claim7 := { stood := { row := fnExactResolvePagesRow, standIns := [], harness := (true, "e52a7ba42692882e1c062b67daea870a0de9db3f343be03407a645aa417260f9"), looks := false }, kinds := [], alts := [], laidByText := true, laidKinds := [.data, .data, .data], laidTests := true, laidLooks := .later }
def FnExactResolvePagesCardSaid : Prop := Claim7.holds Tryd.pinned (.plain (OpenSpec.ofChange fnExactResolvePagesSpec)) fnExactResolvePagesCard

/-- THE TIED CARD OF 'laws.FnResolvePages'. -/
def fnResolvePagesCard : Claim7 := { stood := { row := fnResolvePagesRow, standIns := [], harness := (true, "e52a7ba42692882e1c062b67daea870a0de9db3f343be03407a645aa417260f9"), looks := false }, kinds := [], alts := [], laidByText := true, laidKinds := [.data, .data, .data], laidTests := true, laidLooks := .later }
def FnResolvePagesCardSaid : Prop := Claim7.holds Tryd.pinned (.plain (OpenSpec.ofChange fnResolvePagesSpec)) fnResolvePagesCard

/-- THE TIED CARD OF 'laws.FnCheckResolved'. -/
def fnCheckResolvedCard : Claim7 := { stood := { row := fnCheckResolvedRow, standIns := [], harness := (true, "e52a7ba42692882e1c062b67daea870a0de9db3f343be03407a645aa417260f9"), looks := false }, kinds := [], alts := [], laidByText := true, laidKinds := [.data, .data, .data], laidTests := true, laidLooks := .later }
def FnCheckResolvedCardSaid : Prop := Claim7.holds Tryd.pinned (.plain (OpenSpec.ofChange fnCheckResolvedSpec)) fnCheckResolvedCard

/-- THE TIED CARD OF 'laws.FnResolveLeast'. -/
def fnResolveLeastCard : Claim7 := { stood := { row := fnResolveLeastRow, standIns := [], harness := (true, "e52a7ba42692882e1c062b67daea870a0de9db3f343be03407a645aa417260f9"), looks := false }, kinds := [], alts := [], laidByText := true, laidKinds := [.data, .data, .data], laidTests := true, laidLooks := .later }
def FnResolveLeastCardSaid : Prop := Claim7.holds Tryd.pinned (.plain (OpenSpec.ofChange fnResolveLeastSpec)) fnResolveLeastCard

/-- THE SECOND FORM's CARD OF 'laws.FnPagesOf'. -/
def fnPagesOfUptoCard : Claim7 := { stood := { row := fnPagesOfUptoRow, standIns := [], harness := (true, "e52a7ba42692882e1c062b67daea870a0de9db3f343be03407a645aa417260f9"), looks := false }, kinds := [], alts := [], laidByText := true, laidKinds := [.data, .data, .data], laidTests := true, laidLooks := .later }
def FnPagesOfUptoCardSaid : Prop := Claim7.holds Tryd.pinned (.plain (OpenSpec.upto fnPagesOfSpec)) fnPagesOfUptoCard

/-- THE SECOND FORM's CARD OF 'laws.FnPagesSmall'. -/
def fnPagesSmallUptoCard : Claim7 := { stood := { row := fnPagesSmallUptoRow, standIns := [], harness := (true, "e52a7ba42692882e1c062b67daea870a0de9db3f343be03407a645aa417260f9"), looks := false }, kinds := [], alts := [], laidByText := true, laidKinds := [.data, .data, .data], laidTests := true, laidLooks := .later }
def FnPagesSmallUptoCardSaid : Prop := Claim7.holds Tryd.pinned (.plain (OpenSpec.upto fnPagesSmallSpec)) fnPagesSmallUptoCard

/-- THE SECOND FORM's CARD OF 'laws.FnExactPagesOf'. -/
def fnExactPagesOfUptoCard : Claim7 := { stood := { row := fnExactPagesOfUptoRow, standIns := [], harness := (true, "e52a7ba42692882e1c062b67daea870a0de9db3f343be03407a645aa417260f9"), looks := false }, kinds := [], alts := [], laidByText := true, laidKinds := [.data, .data, .data], laidTests := true, laidLooks := .later }
def FnExactPagesOfUptoCardSaid : Prop := Claim7.holds Tryd.pinned (.plain (OpenSpec.upto fnExactPagesOfSpec)) fnExactPagesOfUptoCard

/-- THE SECOND FORM's CARD OF 'laws.FnExactCheckResolved'. -/
def fnExactCheckResolvedUptoCard : Claim7 := { stood := { row := fnExactCheckResolvedUptoRow, standIns := [], harness := (true, "e52a7ba42692882e1c062b67daea870a0de9db3f343be03407a645aa417260f9"), looks := false }, kinds := [], alts := [], laidByText := true, laidKinds := [.data, .data, .data], laidTests := true, laidLooks := .later }
def FnExactCheckResolvedUptoCardSaid : Prop := Claim7.holds Tryd.pinned (.plain (OpenSpec.upto fnExactCheckResolvedSpec)) fnExactCheckResolvedUptoCard

/-- THE SECOND FORM's CARD OF 'laws.FnExactResolvePages'. -/
def fnExactResolvePagesUptoCard : Claim7 := { stood := { row := fnExactResolvePagesUptoRow, standIns := [], harness := (true, "e52a7ba42692882e1c062b67daea870a0de9db3f343be03407a645aa417260f9"), looks := false }, kinds := [], alts := [], laidByText := true, laidKinds := [.data, .data, .data], laidTests := true, laidLooks := .later }
def FnExactResolvePagesUptoCardSaid : Prop := Claim7.holds Tryd.pinned (.plain (OpenSpec.upto fnExactResolvePagesSpec)) fnExactResolvePagesUptoCard

/-- THE SECOND FORM's CARD OF 'laws.FnResolvePages'. -/
def fnResolvePagesUptoCard : Claim7 := { stood := { row := fnResolvePagesUptoRow, standIns := [], harness := (true, "e52a7ba42692882e1c062b67daea870a0de9db3f343be03407a645aa417260f9"), looks := false }, kinds := [], alts := [], laidByText := true, laidKinds := [.data, .data, .data], laidTests := true, laidLooks := .later }
def FnResolvePagesUptoCardSaid : Prop := Claim7.holds Tryd.pinned (.plain (OpenSpec.upto fnResolvePagesSpec)) fnResolvePagesUptoCard

/-- THE SECOND FORM's CARD OF 'laws.FnCheckResolved'. -/
def fnCheckResolvedUptoCard : Claim7 := { stood := { row := fnCheckResolvedUptoRow, standIns := [], harness := (true, "e52a7ba42692882e1c062b67daea870a0de9db3f343be03407a645aa417260f9"), looks := false }, kinds := [], alts := [], laidByText := true, laidKinds := [.data, .data, .data], laidTests := true, laidLooks := .later }
def FnCheckResolvedUptoCardSaid : Prop := Claim7.holds Tryd.pinned (.plain (OpenSpec.upto fnCheckResolvedSpec)) fnCheckResolvedUptoCard

/-- THE SECOND FORM's CARD OF 'laws.FnResolveLeast'. -/
def fnResolveLeastUptoCard : Claim7 := { stood := { row := fnResolveLeastUptoRow, standIns := [], harness := (true, "e52a7ba42692882e1c062b67daea870a0de9db3f343be03407a645aa417260f9"), looks := false }, kinds := [], alts := [], laidByText := true, laidKinds := [.data, .data, .data], laidTests := true, laidLooks := .later }
def FnResolveLeastUptoCardSaid : Prop := Claim7.holds Tryd.pinned (.plain (OpenSpec.upto fnResolveLeastSpec)) fnResolveLeastUptoCard
end Rows
end Go.Proofs.YtgppljadkpoklaaDoor
