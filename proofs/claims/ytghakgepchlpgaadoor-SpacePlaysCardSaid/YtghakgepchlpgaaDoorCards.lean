/-
  DERIVED. GIVEN WITH THE SEED: THE CARDS: each row of YtghakgepchlpgaaDoorRows.lean that lists a variable, with what it lists TIED to the program's text (the seventh form; the later family's looks); each row that meets fmt, with fmt's text TOLD by the authors' own Lean function (tested against real Go, not proved from fmt's source: count such statements apart). THE CARD IS WHAT COUNTS. Prove the row's statement (the work); the ties are given (YtghakgepchlpgaaDoorTie.lean); close each card by the builder's one call (the guide's Derived/Test/ToyasCard.lean, 'card_holds'). Laid BY PROGRAM, IN A SANDBOX (cutbox-door.mjs). By AI agents, Wed Nov 11 2026. No macro, syntax, notation, axiom, sorry.
-/
import Derived.Test.YtghakgepchlpgaaDoorRows
import GoSem.ClaimSeven
namespace Go.Proofs.YtghakgepchlpgaaDoor
namespace Rows

/-- THE TIED CARD OF 'banyanlaw09.SpaceNames'. -/
def spaceNamesCard : Claim7 := { stood := { row := spaceNamesRow, standIns := [], harness := (true, "11356ec7366c8ed175e4a8f7b4c6137cd0ac7c7d82b3fd4b9c0e37f211f7e68d"), looks := false }, kinds := [], alts := [], laidByText := true, laidKinds := [.data], laidTests := true, laidLooks := .later }
def SpaceNamesCardSaid : Prop := Claim7.holds Tryd.pinned (.plain (OpenSpec.ofChange spaceNamesSpec)) spaceNamesCard

/-- THE TIED CARD OF 'banyanlaw09.SpaceOnce'. -/
def spaceOnceCard : Claim7 := { stood := { row := spaceOnceRow, standIns := [], harness := (true, "11356ec7366c8ed175e4a8f7b4c6137cd0ac7c7d82b3fd4b9c0e37f211f7e68d"), looks := false }, kinds := [], alts := [], laidByText := true, laidKinds := [.data], laidTests := true, laidLooks := .later }
def SpaceOnceCardSaid : Prop := Claim7.holds Tryd.pinned (.plain (OpenSpec.ofChange spaceOnceSpec)) spaceOnceCard

/-- THE TIED CARD OF 'banyanlaw09.SpaceDecodes'. -/
def spaceDecodesCard : Claim7 := { stood := { row := spaceDecodesRow, standIns := [], harness := (true, "11356ec7366c8ed175e4a8f7b4c6137cd0ac7c7d82b3fd4b9c0e37f211f7e68d"), looks := false }, kinds := [], alts := [], laidByText := true, laidKinds := [.data], laidTests := true, laidLooks := .later }
def SpaceDecodesCardSaid : Prop := Claim7.holds Tryd.pinned (.plain (OpenSpec.ofChange spaceDecodesSpec)) spaceDecodesCard

/-- THE TIED CARD OF 'banyanlaw09.SpaceForm'. -/
def spaceFormCard : Claim7 := { stood := { row := spaceFormRow, standIns := [], harness := (true, "11356ec7366c8ed175e4a8f7b4c6137cd0ac7c7d82b3fd4b9c0e37f211f7e68d"), looks := false }, kinds := [], alts := [], laidByText := true, laidKinds := [.data], laidTests := true, laidLooks := .later }
def SpaceFormCardSaid : Prop := Claim7.holds Tryd.pinned (.plain (OpenSpec.ofChange spaceFormSpec)) spaceFormCard

/-- THE TIED CARD OF 'banyanlaw09.SpacePlays'. -/
def spacePlaysCard : Claim7 := { stood := { row := spacePlaysRow, standIns := [], harness := (true, "11356ec7366c8ed175e4a8f7b4c6137cd0ac7c7d82b3fd4b9c0e37f211f7e68d"), looks := false }, kinds := [], alts := [], laidByText := true, laidKinds := [.data], laidTests := true, laidLooks := .later }
def SpacePlaysCardSaid : Prop := Claim7.holds Tryd.pinned (.plain (OpenSpec.ofChange spacePlaysSpec)) spacePlaysCard

/-- THE SECOND FORM's CARD OF 'banyanlaw09.SpaceNames'. -/
def spaceNamesUptoCard : Claim7 := { stood := { row := spaceNamesUptoRow, standIns := [], harness := (true, "11356ec7366c8ed175e4a8f7b4c6137cd0ac7c7d82b3fd4b9c0e37f211f7e68d"), looks := false }, kinds := [], alts := [], laidByText := true, laidKinds := [.data], laidTests := true, laidLooks := .later }
def SpaceNamesUptoCardSaid : Prop := Claim7.holds Tryd.pinned (.plain (OpenSpec.upto spaceNamesSpec)) spaceNamesUptoCard

/-- THE SECOND FORM's CARD OF 'banyanlaw09.SpaceOnce'. -/
def spaceOnceUptoCard : Claim7 := { stood := { row := spaceOnceUptoRow, standIns := [], harness := (true, "11356ec7366c8ed175e4a8f7b4c6137cd0ac7c7d82b3fd4b9c0e37f211f7e68d"), looks := false }, kinds := [], alts := [], laidByText := true, laidKinds := [.data], laidTests := true, laidLooks := .later }
def SpaceOnceUptoCardSaid : Prop := Claim7.holds Tryd.pinned (.plain (OpenSpec.upto spaceOnceSpec)) spaceOnceUptoCard

/-- THE SECOND FORM's CARD OF 'banyanlaw09.SpaceDecodes'. -/
def spaceDecodesUptoCard : Claim7 := { stood := { row := spaceDecodesUptoRow, standIns := [], harness := (true, "11356ec7366c8ed175e4a8f7b4c6137cd0ac7c7d82b3fd4b9c0e37f211f7e68d"), looks := false }, kinds := [], alts := [], laidByText := true, laidKinds := [.data], laidTests := true, laidLooks := .later }
def SpaceDecodesUptoCardSaid : Prop := Claim7.holds Tryd.pinned (.plain (OpenSpec.upto spaceDecodesSpec)) spaceDecodesUptoCard

/-- THE SECOND FORM's CARD OF 'banyanlaw09.SpaceForm'. -/
def spaceFormUptoCard : Claim7 := { stood := { row := spaceFormUptoRow, standIns := [], harness := (true, "11356ec7366c8ed175e4a8f7b4c6137cd0ac7c7d82b3fd4b9c0e37f211f7e68d"), looks := false }, kinds := [], alts := [], laidByText := true, laidKinds := [.data], laidTests := true, laidLooks := .later }
def SpaceFormUptoCardSaid : Prop := Claim7.holds Tryd.pinned (.plain (OpenSpec.upto spaceFormSpec)) spaceFormUptoCard

/-- THE SECOND FORM's CARD OF 'banyanlaw09.SpacePlays'. -/
def spacePlaysUptoCard : Claim7 := { stood := { row := spacePlaysUptoRow, standIns := [], harness := (true, "11356ec7366c8ed175e4a8f7b4c6137cd0ac7c7d82b3fd4b9c0e37f211f7e68d"), looks := false }, kinds := [], alts := [], laidByText := true, laidKinds := [.data], laidTests := true, laidLooks := .later }
def SpacePlaysUptoCardSaid : Prop := Claim7.holds Tryd.pinned (.plain (OpenSpec.upto spacePlaysSpec)) spacePlaysUptoCard
end Rows
end Go.Proofs.YtghakgepchlpgaaDoor
