/-
  DERIVED. GIVEN WITH THE SEED: THE CARDS: each row of YthpbejdigllmbaaDoorRows.lean that lists a variable, with what it lists TIED to the program's text (the seventh form; the later family's looks); each row that meets fmt, with fmt's text TOLD by the authors' own Lean function (tested against real Go, not proved from fmt's source: count such statements apart). THE CARD IS WHAT COUNTS. Prove the row's statement (the work); the ties are given (YthpbejdigllmbaaDoorTie.lean); close each card by the builder's one call (the guide's Derived/Test/ToyasCard.lean, 'card_holds'). Laid BY PROGRAM, IN A SANDBOX (cutbox-door.mjs). By AI agents, Wed Nov 11 2026. No macro, syntax, notation, axiom, sorry.
-/
import Derived.Test.YthpbejdigllmbaaDoorRows
import GoSem.ClaimSeven
namespace Go.Proofs.YthpbejdigllmbaaDoor
namespace Rows

/-- THE TIED CARD OF 'wakemanlaw33.OccWords'. -/
def occWordsCard : Claim7 := { stood := { row := occWordsRow, standIns := [], harness := (true, "cb466ead91bb943e68ff4008d019213efcad249d0db462ea0039777ebb7b0baa"), looks := false }, kinds := [], alts := [], laidByText := true, laidKinds := [.data, .data], laidTests := true, laidLooks := .later }
def OccWordsCardSaid : Prop := Claim7.holds Tryd.pinned (.plain (OpenSpec.ofChange occWordsSpec)) occWordsCard

/-- THE TIED CARD OF 'wakemanlaw33.OccCounts'. -/
def occCountsCard : Claim7 := { stood := { row := occCountsRow, standIns := [], harness := (true, "cb466ead91bb943e68ff4008d019213efcad249d0db462ea0039777ebb7b0baa"), looks := false }, kinds := [], alts := [], laidByText := true, laidKinds := [.data, .data], laidTests := true, laidLooks := .later }
def OccCountsCardSaid : Prop := Claim7.holds Tryd.pinned (.plain (OpenSpec.ofChange occCountsSpec)) occCountsCard

/-- THE TIED CARD OF 'wakemanlaw33.OccNames'. -/
def occNamesCard : Claim7 := { stood := { row := occNamesRow, standIns := [], harness := (true, "cb466ead91bb943e68ff4008d019213efcad249d0db462ea0039777ebb7b0baa"), looks := false }, kinds := [], alts := [], laidByText := true, laidKinds := [.data, .data], laidTests := true, laidLooks := .later }
def OccNamesCardSaid : Prop := Claim7.holds Tryd.pinned (.plain (OpenSpec.ofChange occNamesSpec)) occNamesCard

/-- THE TIED CARD OF 'wakemanlaw33.OccStates'. -/
def occStatesCard : Claim7 := { stood := { row := occStatesRow, standIns := [], harness := (true, "cb466ead91bb943e68ff4008d019213efcad249d0db462ea0039777ebb7b0baa"), looks := false }, kinds := [], alts := [], laidByText := true, laidKinds := [.data, .data], laidTests := true, laidLooks := .later }
def OccStatesCardSaid : Prop := Claim7.holds Tryd.pinned (.plain (OpenSpec.ofChange occStatesSpec)) occStatesCard

/-- THE TIED CARD OF 'wakemanlaw33.OccPaths'. -/
def occPathsCard : Claim7 := { stood := { row := occPathsRow, standIns := [], harness := (true, "cb466ead91bb943e68ff4008d019213efcad249d0db462ea0039777ebb7b0baa"), looks := false }, kinds := [], alts := [], laidByText := true, laidKinds := [.data, .data], laidTests := true, laidLooks := .later }
def OccPathsCardSaid : Prop := Claim7.holds Tryd.pinned (.plain (OpenSpec.ofChange occPathsSpec)) occPathsCard

/-- THE TIED CARD OF 'wakemanlaw33.OccLives'. -/
def occLivesCard : Claim7 := { stood := { row := occLivesRow, standIns := [], harness := (true, "cb466ead91bb943e68ff4008d019213efcad249d0db462ea0039777ebb7b0baa"), looks := false }, kinds := [], alts := [], laidByText := true, laidKinds := [.data, .data], laidTests := true, laidLooks := .later }
def OccLivesCardSaid : Prop := Claim7.holds Tryd.pinned (.plain (OpenSpec.ofChange occLivesSpec)) occLivesCard

/-- THE TIED CARD OF 'wakemanlaw33.OccStops'. -/
def occStopsCard : Claim7 := { stood := { row := occStopsRow, standIns := [], harness := (true, "cb466ead91bb943e68ff4008d019213efcad249d0db462ea0039777ebb7b0baa"), looks := false }, kinds := [], alts := [], laidByText := true, laidKinds := [.data, .data], laidTests := true, laidLooks := .later }
def OccStopsCardSaid : Prop := Claim7.holds Tryd.pinned (.plain (OpenSpec.ofChange occStopsSpec)) occStopsCard

/-- THE TIED CARD OF 'wakemanlaw33.OccReaches'. -/
def occReachesCard : Claim7 := { stood := { row := occReachesRow, standIns := [], harness := (true, "cb466ead91bb943e68ff4008d019213efcad249d0db462ea0039777ebb7b0baa"), looks := false }, kinds := [], alts := [], laidByText := true, laidKinds := [.data, .data], laidTests := true, laidLooks := .later }
def OccReachesCardSaid : Prop := Claim7.holds Tryd.pinned (.plain (OpenSpec.ofChange occReachesSpec)) occReachesCard

/-- THE TIED CARD OF 'wakemanlaw33.OccTable'. -/
def occTableCard : Claim7 := { stood := { row := occTableRow, standIns := [], harness := (true, "cb466ead91bb943e68ff4008d019213efcad249d0db462ea0039777ebb7b0baa"), looks := false }, kinds := [], alts := [], laidByText := true, laidKinds := [.data, .data], laidTests := true, laidLooks := .later }
def OccTableCardSaid : Prop := Claim7.holds Tryd.pinned (.plain (OpenSpec.ofChange occTableSpec)) occTableCard

/-- THE SECOND FORM's CARD OF 'wakemanlaw33.OccWords'. -/
def occWordsUptoCard : Claim7 := { stood := { row := occWordsUptoRow, standIns := [], harness := (true, "cb466ead91bb943e68ff4008d019213efcad249d0db462ea0039777ebb7b0baa"), looks := false }, kinds := [], alts := [], laidByText := true, laidKinds := [.data, .data], laidTests := true, laidLooks := .later }
def OccWordsUptoCardSaid : Prop := Claim7.holds Tryd.pinned (.plain (OpenSpec.upto occWordsSpec)) occWordsUptoCard

/-- THE SECOND FORM's CARD OF 'wakemanlaw33.OccCounts'. -/
def occCountsUptoCard : Claim7 := { stood := { row := occCountsUptoRow, standIns := [], harness := (true, "cb466ead91bb943e68ff4008d019213efcad249d0db462ea0039777ebb7b0baa"), looks := false }, kinds := [], alts := [], laidByText := true, laidKinds := [.data, .data], laidTests := true, laidLooks := .later }
def OccCountsUptoCardSaid : Prop := Claim7.holds Tryd.pinned (.plain (OpenSpec.upto occCountsSpec)) occCountsUptoCard

/-- THE SECOND FORM's CARD OF 'wakemanlaw33.OccNames'. -/
def occNamesUptoCard : Claim7 := { stood := { row := occNamesUptoRow, standIns := [], harness := (true, "cb466ead91bb943e68ff4008d019213efcad249d0db462ea0039777ebb7b0baa"), looks := false }, kinds := [], alts := [], laidByText := true, laidKinds := [.data, .data], laidTests := true, laidLooks := .later }
def OccNamesUptoCardSaid : Prop := Claim7.holds Tryd.pinned (.plain (OpenSpec.upto occNamesSpec)) occNamesUptoCard

/-- THE SECOND FORM's CARD OF 'wakemanlaw33.OccStates'. -/
def occStatesUptoCard : Claim7 := { stood := { row := occStatesUptoRow, standIns := [], harness := (true, "cb466ead91bb943e68ff4008d019213efcad249d0db462ea0039777ebb7b0baa"), looks := false }, kinds := [], alts := [], laidByText := true, laidKinds := [.data, .data], laidTests := true, laidLooks := .later }
def OccStatesUptoCardSaid : Prop := Claim7.holds Tryd.pinned (.plain (OpenSpec.upto occStatesSpec)) occStatesUptoCard

/-- THE SECOND FORM's CARD OF 'wakemanlaw33.OccPaths'. -/
def occPathsUptoCard : Claim7 := { stood := { row := occPathsUptoRow, standIns := [], harness := (true, "cb466ead91bb943e68ff4008d019213efcad249d0db462ea0039777ebb7b0baa"), looks := false }, kinds := [], alts := [], laidByText := true, laidKinds := [.data, .data], laidTests := true, laidLooks := .later }
def OccPathsUptoCardSaid : Prop := Claim7.holds Tryd.pinned (.plain (OpenSpec.upto occPathsSpec)) occPathsUptoCard

/-- THE SECOND FORM's CARD OF 'wakemanlaw33.OccLives'. -/
def occLivesUptoCard : Claim7 := { stood := { row := occLivesUptoRow, standIns := [], harness := (true, "cb466ead91bb943e68ff4008d019213efcad249d0db462ea0039777ebb7b0baa"), looks := false }, kinds := [], alts := [], laidByText := true, laidKinds := [.data, .data], laidTests := true, laidLooks := .later }
def OccLivesUptoCardSaid : Prop := Claim7.holds Tryd.pinned (.plain (OpenSpec.upto occLivesSpec)) occLivesUptoCard

/-- THE SECOND FORM's CARD OF 'wakemanlaw33.OccStops'. -/
def occStopsUptoCard : Claim7 := { stood := { row := occStopsUptoRow, standIns := [], harness := (true, "cb466ead91bb943e68ff4008d019213efcad249d0db462ea0039777ebb7b0baa"), looks := false }, kinds := [], alts := [], laidByText := true, laidKinds := [.data, .data], laidTests := true, laidLooks := .later }
def OccStopsUptoCardSaid : Prop := Claim7.holds Tryd.pinned (.plain (OpenSpec.upto occStopsSpec)) occStopsUptoCard

/-- THE SECOND FORM's CARD OF 'wakemanlaw33.OccReaches'. -/
def occReachesUptoCard : Claim7 := { stood := { row := occReachesUptoRow, standIns := [], harness := (true, "cb466ead91bb943e68ff4008d019213efcad249d0db462ea0039777ebb7b0baa"), looks := false }, kinds := [], alts := [], laidByText := true, laidKinds := [.data, .data], laidTests := true, laidLooks := .later }
def OccReachesUptoCardSaid : Prop := Claim7.holds Tryd.pinned (.plain (OpenSpec.upto occReachesSpec)) occReachesUptoCard

/-- THE SECOND FORM's CARD OF 'wakemanlaw33.OccTable'. -/
def occTableUptoCard : Claim7 := { stood := { row := occTableUptoRow, standIns := [], harness := (true, "cb466ead91bb943e68ff4008d019213efcad249d0db462ea0039777ebb7b0baa"), looks := false }, kinds := [], alts := [], laidByText := true, laidKinds := [.data, .data], laidTests := true, laidLooks := .later }
def OccTableUptoCardSaid : Prop := Claim7.holds Tryd.pinned (.plain (OpenSpec.upto occTableSpec)) occTableUptoCard
end Rows
end Go.Proofs.YthpbejdigllmbaaDoor
