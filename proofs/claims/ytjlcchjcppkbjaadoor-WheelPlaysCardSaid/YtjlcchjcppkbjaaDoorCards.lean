/-
  DERIVED. GIVEN WITH THE SEED: THE CARDS: each row of YtjlcchjcppkbjaaDoorRows.lean that lists a variable, with what it lists TIED to the program's text (the seventh form; the later family's looks); each row that meets fmt, with fmt's text TOLD by the authors' own Lean function (tested against real Go, not proved from fmt's source: count such statements apart). THE CARD IS WHAT COUNTS. Prove the row's statement (the work); the ties are given (YtjlcchjcppkbjaaDoorTie.lean); close each card by the builder's one call (the guide's Derived/Test/ToyasCard.lean, 'card_holds'). Laid BY PROGRAM, IN A SANDBOX (cutbox-door.mjs). By AI agents, Wed Nov 11 2026. No macro, syntax, notation, axiom, sorry.
-/
import Derived.Test.YtjlcchjcppkbjaaDoorRows
import GoSem.ClaimSeven
namespace Go.Proofs.YtjlcchjcppkbjaaDoor
namespace Rows

/-- THE TIED CARD OF 'wakemanlaw18.WheelFar'. -/
def wheelFarCard : Claim7 := { stood := { row := wheelFarRow, standIns := [], harness := (true, "f7f0831628251ed7204481b36983f980b605198bdaac00d671a51d1d860bc28c"), looks := false }, kinds := [], alts := [], laidByText := true, laidKinds := [.data], laidTests := true, laidLooks := .later }
def WheelFarCardSaid : Prop := Claim7.holds Tryd.pinned (.plain (OpenSpec.ofChange wheelFarSpec)) wheelFarCard

/-- THE TIED CARD OF 'wakemanlaw18.WheelFires'. -/
def wheelFiresCard : Claim7 := { stood := { row := wheelFiresRow, standIns := [], harness := (true, "f7f0831628251ed7204481b36983f980b605198bdaac00d671a51d1d860bc28c"), looks := false }, kinds := [], alts := [], laidByText := true, laidKinds := [.data], laidTests := true, laidLooks := .later }
def WheelFiresCardSaid : Prop := Claim7.holds Tryd.pinned (.plain (OpenSpec.ofChange wheelFiresSpec)) wheelFiresCard

/-- THE TIED CARD OF 'wakemanlaw18.WheelNext'. -/
def wheelNextCard : Claim7 := { stood := { row := wheelNextRow, standIns := [], harness := (true, "f7f0831628251ed7204481b36983f980b605198bdaac00d671a51d1d860bc28c"), looks := false }, kinds := [], alts := [], laidByText := true, laidKinds := [.data], laidTests := true, laidLooks := .later }
def WheelNextCardSaid : Prop := Claim7.holds Tryd.pinned (.plain (OpenSpec.ofChange wheelNextSpec)) wheelNextCard

/-- THE TIED CARD OF 'wakemanlaw18.WheelList'. -/
def wheelListCard : Claim7 := { stood := { row := wheelListRow, standIns := [], harness := (true, "f7f0831628251ed7204481b36983f980b605198bdaac00d671a51d1d860bc28c"), looks := false }, kinds := [], alts := [], laidByText := true, laidKinds := [.data], laidTests := true, laidLooks := .later }
def WheelListCardSaid : Prop := Claim7.holds Tryd.pinned (.plain (OpenSpec.ofChange wheelListSpec)) wheelListCard

/-- THE TIED CARD OF 'wakemanlaw18.WheelSteps'. -/
def wheelStepsCard : Claim7 := { stood := { row := wheelStepsRow, standIns := [], harness := (true, "f7f0831628251ed7204481b36983f980b605198bdaac00d671a51d1d860bc28c"), looks := false }, kinds := [], alts := [], laidByText := true, laidKinds := [.data], laidTests := true, laidLooks := .later }
def WheelStepsCardSaid : Prop := Claim7.holds Tryd.pinned (.plain (OpenSpec.ofChange wheelStepsSpec)) wheelStepsCard

/-- THE TIED CARD OF 'wakemanlaw18.WheelKeeps'. -/
def wheelKeepsCard : Claim7 := { stood := { row := wheelKeepsRow, standIns := [], harness := (true, "f7f0831628251ed7204481b36983f980b605198bdaac00d671a51d1d860bc28c"), looks := false }, kinds := [], alts := [], laidByText := true, laidKinds := [.data], laidTests := true, laidLooks := .later }
def WheelKeepsCardSaid : Prop := Claim7.holds Tryd.pinned (.plain (OpenSpec.ofChange wheelKeepsSpec)) wheelKeepsCard

/-- THE TIED CARD OF 'wakemanlaw18.WheelCopies'. -/
def wheelCopiesCard : Claim7 := { stood := { row := wheelCopiesRow, standIns := [], harness := (true, "f7f0831628251ed7204481b36983f980b605198bdaac00d671a51d1d860bc28c"), looks := false }, kinds := [], alts := [], laidByText := true, laidKinds := [.data], laidTests := true, laidLooks := .later }
def WheelCopiesCardSaid : Prop := Claim7.holds Tryd.pinned (.plain (OpenSpec.ofChange wheelCopiesSpec)) wheelCopiesCard

/-- THE TIED CARD OF 'wakemanlaw18.WheelPlays'. -/
def wheelPlaysCard : Claim7 := { stood := { row := wheelPlaysRow, standIns := [], harness := (true, "f7f0831628251ed7204481b36983f980b605198bdaac00d671a51d1d860bc28c"), looks := false }, kinds := [], alts := [], laidByText := true, laidKinds := [.data], laidTests := true, laidLooks := .later }
def WheelPlaysCardSaid : Prop := Claim7.holds Tryd.pinned (.plain (OpenSpec.ofChange wheelPlaysSpec)) wheelPlaysCard

/-- THE TIED CARD OF 'wakemanlaw18.WheelNil'. -/
def wheelNilCard : Claim7 := { stood := { row := wheelNilRow, standIns := [], harness := (true, "f7f0831628251ed7204481b36983f980b605198bdaac00d671a51d1d860bc28c"), looks := false }, kinds := [], alts := [], laidByText := true, laidKinds := [.data], laidTests := true, laidLooks := .later }
def WheelNilCardSaid : Prop := Claim7.holds Tryd.pinned (.plain (OpenSpec.ofChange wheelNilSpec)) wheelNilCard

/-- THE TIED CARD OF 'wakemanlaw18.WheelCancels'. -/
def wheelCancelsCard : Claim7 := { stood := { row := wheelCancelsRow, standIns := [], harness := (true, "f7f0831628251ed7204481b36983f980b605198bdaac00d671a51d1d860bc28c"), looks := false }, kinds := [], alts := [], laidByText := true, laidKinds := [.data], laidTests := true, laidLooks := .later }
def WheelCancelsCardSaid : Prop := Claim7.holds Tryd.pinned (.plain (OpenSpec.ofChange wheelCancelsSpec)) wheelCancelsCard

/-- THE SECOND FORM's CARD OF 'wakemanlaw18.WheelFar'. -/
def wheelFarUptoCard : Claim7 := { stood := { row := wheelFarUptoRow, standIns := [], harness := (true, "f7f0831628251ed7204481b36983f980b605198bdaac00d671a51d1d860bc28c"), looks := false }, kinds := [], alts := [], laidByText := true, laidKinds := [.data], laidTests := true, laidLooks := .later }
def WheelFarUptoCardSaid : Prop := Claim7.holds Tryd.pinned (.plain (OpenSpec.upto wheelFarSpec)) wheelFarUptoCard

/-- THE SECOND FORM's CARD OF 'wakemanlaw18.WheelFires'. -/
def wheelFiresUptoCard : Claim7 := { stood := { row := wheelFiresUptoRow, standIns := [], harness := (true, "f7f0831628251ed7204481b36983f980b605198bdaac00d671a51d1d860bc28c"), looks := false }, kinds := [], alts := [], laidByText := true, laidKinds := [.data], laidTests := true, laidLooks := .later }
def WheelFiresUptoCardSaid : Prop := Claim7.holds Tryd.pinned (.plain (OpenSpec.upto wheelFiresSpec)) wheelFiresUptoCard

/-- THE SECOND FORM's CARD OF 'wakemanlaw18.WheelNext'. -/
def wheelNextUptoCard : Claim7 := { stood := { row := wheelNextUptoRow, standIns := [], harness := (true, "f7f0831628251ed7204481b36983f980b605198bdaac00d671a51d1d860bc28c"), looks := false }, kinds := [], alts := [], laidByText := true, laidKinds := [.data], laidTests := true, laidLooks := .later }
def WheelNextUptoCardSaid : Prop := Claim7.holds Tryd.pinned (.plain (OpenSpec.upto wheelNextSpec)) wheelNextUptoCard

/-- THE SECOND FORM's CARD OF 'wakemanlaw18.WheelList'. -/
def wheelListUptoCard : Claim7 := { stood := { row := wheelListUptoRow, standIns := [], harness := (true, "f7f0831628251ed7204481b36983f980b605198bdaac00d671a51d1d860bc28c"), looks := false }, kinds := [], alts := [], laidByText := true, laidKinds := [.data], laidTests := true, laidLooks := .later }
def WheelListUptoCardSaid : Prop := Claim7.holds Tryd.pinned (.plain (OpenSpec.upto wheelListSpec)) wheelListUptoCard

/-- THE SECOND FORM's CARD OF 'wakemanlaw18.WheelSteps'. -/
def wheelStepsUptoCard : Claim7 := { stood := { row := wheelStepsUptoRow, standIns := [], harness := (true, "f7f0831628251ed7204481b36983f980b605198bdaac00d671a51d1d860bc28c"), looks := false }, kinds := [], alts := [], laidByText := true, laidKinds := [.data], laidTests := true, laidLooks := .later }
def WheelStepsUptoCardSaid : Prop := Claim7.holds Tryd.pinned (.plain (OpenSpec.upto wheelStepsSpec)) wheelStepsUptoCard

/-- THE SECOND FORM's CARD OF 'wakemanlaw18.WheelKeeps'. -/
def wheelKeepsUptoCard : Claim7 := { stood := { row := wheelKeepsUptoRow, standIns := [], harness := (true, "f7f0831628251ed7204481b36983f980b605198bdaac00d671a51d1d860bc28c"), looks := false }, kinds := [], alts := [], laidByText := true, laidKinds := [.data], laidTests := true, laidLooks := .later }
def WheelKeepsUptoCardSaid : Prop := Claim7.holds Tryd.pinned (.plain (OpenSpec.upto wheelKeepsSpec)) wheelKeepsUptoCard

/-- THE SECOND FORM's CARD OF 'wakemanlaw18.WheelCopies'. -/
def wheelCopiesUptoCard : Claim7 := { stood := { row := wheelCopiesUptoRow, standIns := [], harness := (true, "f7f0831628251ed7204481b36983f980b605198bdaac00d671a51d1d860bc28c"), looks := false }, kinds := [], alts := [], laidByText := true, laidKinds := [.data], laidTests := true, laidLooks := .later }
def WheelCopiesUptoCardSaid : Prop := Claim7.holds Tryd.pinned (.plain (OpenSpec.upto wheelCopiesSpec)) wheelCopiesUptoCard

/-- THE SECOND FORM's CARD OF 'wakemanlaw18.WheelPlays'. -/
def wheelPlaysUptoCard : Claim7 := { stood := { row := wheelPlaysUptoRow, standIns := [], harness := (true, "f7f0831628251ed7204481b36983f980b605198bdaac00d671a51d1d860bc28c"), looks := false }, kinds := [], alts := [], laidByText := true, laidKinds := [.data], laidTests := true, laidLooks := .later }
def WheelPlaysUptoCardSaid : Prop := Claim7.holds Tryd.pinned (.plain (OpenSpec.upto wheelPlaysSpec)) wheelPlaysUptoCard

/-- THE SECOND FORM's CARD OF 'wakemanlaw18.WheelNil'. -/
def wheelNilUptoCard : Claim7 := { stood := { row := wheelNilUptoRow, standIns := [], harness := (true, "f7f0831628251ed7204481b36983f980b605198bdaac00d671a51d1d860bc28c"), looks := false }, kinds := [], alts := [], laidByText := true, laidKinds := [.data], laidTests := true, laidLooks := .later }
def WheelNilUptoCardSaid : Prop := Claim7.holds Tryd.pinned (.plain (OpenSpec.upto wheelNilSpec)) wheelNilUptoCard

/-- THE SECOND FORM's CARD OF 'wakemanlaw18.WheelCancels'. -/
def wheelCancelsUptoCard : Claim7 := { stood := { row := wheelCancelsUptoRow, standIns := [], harness := (true, "f7f0831628251ed7204481b36983f980b605198bdaac00d671a51d1d860bc28c"), looks := false }, kinds := [], alts := [], laidByText := true, laidKinds := [.data], laidTests := true, laidLooks := .later }
def WheelCancelsUptoCardSaid : Prop := Claim7.holds Tryd.pinned (.plain (OpenSpec.upto wheelCancelsSpec)) wheelCancelsUptoCard
end Rows
end Go.Proofs.YtjlcchjcppkbjaaDoor
