/-
  DERIVED. GIVEN WITH THE SEED: THE CARDS: each row of YtnpoikgkhhpdgaaDoorRows.lean that lists a variable, with what it lists TIED to the program's text (the seventh form; the later family's looks); each row that meets fmt, with fmt's text TOLD by the authors' own Lean function (tested against real Go, not proved from fmt's source: count such statements apart). THE CARD IS WHAT COUNTS. Prove the row's statement (the work); the ties are given (YtnpoikgkhhpdgaaDoorTie.lean); close each card by the builder's one call (the guide's Derived/Test/ToyasCard.lean, 'card_holds'). Laid BY PROGRAM, IN A SANDBOX (cutbox-door.mjs). By AI agents, Wed Nov 11 2026. No macro, syntax, notation, axiom, sorry.
-/
import Derived.Test.YtnpoikgkhhpdgaaDoorRows
import GoSem.ClaimSeven
namespace Go.Proofs.YtnpoikgkhhpdgaaDoor
namespace Rows

/-- THE TIED CARD OF 'headgatelaw11.ZonesAllocs'. -/
def zonesAllocsCard : Claim7 := { stood := { row := zonesAllocsRow, standIns := [], harness := (true, "d45f2420b8c4b25e5b9e438b946221844b8d4ceb59144b7c8e9af5257c35ea48"), looks := false }, kinds := [], alts := [], laidByText := true, laidKinds := [.data, .data], laidTests := true, laidLooks := .later }
def ZonesAllocsCardSaid : Prop := Claim7.holds Tryd.pinned (.plain (OpenSpec.ofChange zonesAllocsSpec)) zonesAllocsCard

/-- THE TIED CARD OF 'headgatelaw11.ZonesTakes'. -/
def zonesTakesCard : Claim7 := { stood := { row := zonesTakesRow, standIns := [], harness := (true, "d45f2420b8c4b25e5b9e438b946221844b8d4ceb59144b7c8e9af5257c35ea48"), looks := false }, kinds := [], alts := [], laidByText := true, laidKinds := [.data, .data], laidTests := true, laidLooks := .later }
def ZonesTakesCardSaid : Prop := Claim7.holds Tryd.pinned (.plain (OpenSpec.ofChange zonesTakesSpec)) zonesTakesCard

/-- THE TIED CARD OF 'headgatelaw11.ZonesLooks'. -/
def zonesLooksCard : Claim7 := { stood := { row := zonesLooksRow, standIns := [], harness := (true, "d45f2420b8c4b25e5b9e438b946221844b8d4ceb59144b7c8e9af5257c35ea48"), looks := false }, kinds := [], alts := [], laidByText := true, laidKinds := [.data, .data], laidTests := true, laidLooks := .later }
def ZonesLooksCardSaid : Prop := Claim7.holds Tryd.pinned (.plain (OpenSpec.ofChange zonesLooksSpec)) zonesLooksCard

/-- THE TIED CARD OF 'headgatelaw09.BuddyKnown'. -/
def buddyKnownCard : Claim7 := { stood := { row := buddyKnownRow, standIns := [], harness := (true, "d45f2420b8c4b25e5b9e438b946221844b8d4ceb59144b7c8e9af5257c35ea48"), looks := false }, kinds := [], alts := [], laidByText := true, laidKinds := [.data, .data], laidTests := true, laidLooks := .later }
def BuddyKnownCardSaid : Prop := Claim7.holds Tryd.pinned (.plain (OpenSpec.ofChange buddyKnownSpec)) buddyKnownCard

/-- THE TIED CARD OF 'headgatelaw09.BuddyBack'. -/
def buddyBackCard : Claim7 := { stood := { row := buddyBackRow, standIns := [], harness := (true, "d45f2420b8c4b25e5b9e438b946221844b8d4ceb59144b7c8e9af5257c35ea48"), looks := false }, kinds := [], alts := [], laidByText := true, laidKinds := [.data, .data], laidTests := true, laidLooks := .later }
def BuddyBackCardSaid : Prop := Claim7.holds Tryd.pinned (.plain (OpenSpec.ofChange buddyBackSpec)) buddyBackCard

/-- THE TIED CARD OF 'headgatelaw09.BuddySwaps'. -/
def buddySwapsCard : Claim7 := { stood := { row := buddySwapsRow, standIns := [], harness := (true, "d45f2420b8c4b25e5b9e438b946221844b8d4ceb59144b7c8e9af5257c35ea48"), looks := false }, kinds := [], alts := [], laidByText := true, laidKinds := [.data, .data], laidTests := true, laidLooks := .later }
def BuddySwapsCardSaid : Prop := Claim7.holds Tryd.pinned (.plain (OpenSpec.ofChange buddySwapsSpec)) buddySwapsCard

/-- THE TIED CARD OF 'headgatelaw09.BuddyGives'. -/
def buddyGivesCard : Claim7 := { stood := { row := buddyGivesRow, standIns := [], harness := (true, "d45f2420b8c4b25e5b9e438b946221844b8d4ceb59144b7c8e9af5257c35ea48"), looks := false }, kinds := [], alts := [], laidByText := true, laidKinds := [.data, .data], laidTests := true, laidLooks := .later }
def BuddyGivesCardSaid : Prop := Claim7.holds Tryd.pinned (.plain (OpenSpec.ofChange buddyGivesSpec)) buddyGivesCard

/-- THE TIED CARD OF 'headgatelaw11.ZonesFirst'. -/
def zonesFirstCard : Claim7 := { stood := { row := zonesFirstRow, standIns := [], harness := (true, "d45f2420b8c4b25e5b9e438b946221844b8d4ceb59144b7c8e9af5257c35ea48"), looks := false }, kinds := [], alts := [], laidByText := true, laidKinds := [.data, .data], laidTests := true, laidLooks := .later }
def ZonesFirstCardSaid : Prop := Claim7.holds Tryd.pinned (.plain (OpenSpec.ofChange zonesFirstSpec)) zonesFirstCard

/-- THE TIED CARD OF 'headgatelaw05.RowKnown'. -/
def rowKnownCard : Claim7 := { stood := { row := rowKnownRow, standIns := [], harness := (true, "d45f2420b8c4b25e5b9e438b946221844b8d4ceb59144b7c8e9af5257c35ea48"), looks := false }, kinds := [], alts := [], laidByText := true, laidKinds := [.data, .data, .data], laidTests := true, laidLooks := .later }
def RowKnownCardSaid : Prop := Claim7.holds Tryd.pinned (.plain (OpenSpec.ofChange rowKnownSpec)) rowKnownCard

/-- THE TIED CARD OF 'headgatelaw05.RowLoose'. -/
def rowLooseCard : Claim7 := { stood := { row := rowLooseRow, standIns := [], harness := (true, "d45f2420b8c4b25e5b9e438b946221844b8d4ceb59144b7c8e9af5257c35ea48"), looks := false }, kinds := [], alts := [], laidByText := true, laidKinds := [.data, .data, .data], laidTests := true, laidLooks := .later }
def RowLooseCardSaid : Prop := Claim7.holds Tryd.pinned (.plain (OpenSpec.ofChange rowLooseSpec)) rowLooseCard

/-- THE TIED CARD OF 'headgatelaw05.RowDigits'. -/
def rowDigitsCard : Claim7 := { stood := { row := rowDigitsRow, standIns := [], harness := (true, "d45f2420b8c4b25e5b9e438b946221844b8d4ceb59144b7c8e9af5257c35ea48"), looks := false }, kinds := [], alts := [], laidByText := true, laidKinds := [.data, .data, .data], laidTests := true, laidLooks := .later }
def RowDigitsCardSaid : Prop := Claim7.holds Tryd.pinned (.plain (OpenSpec.ofChange rowDigitsSpec)) rowDigitsCard

/-- THE TIED CARD OF 'headgatelaw11.ZonesSteps'. -/
def zonesStepsCard : Claim7 := { stood := { row := zonesStepsRow, standIns := [], harness := (true, "d45f2420b8c4b25e5b9e438b946221844b8d4ceb59144b7c8e9af5257c35ea48"), looks := false }, kinds := [], alts := [], laidByText := true, laidKinds := [.data, .data], laidTests := true, laidLooks := .later }
def ZonesStepsCardSaid : Prop := Claim7.holds Tryd.pinned (.plain (OpenSpec.ofChange zonesStepsSpec)) zonesStepsCard

/-- THE TIED CARD OF 'headgatelaw11.ZonesAll'. -/
def zonesAllCard : Claim7 := { stood := { row := zonesAllRow, standIns := [], harness := (true, "d45f2420b8c4b25e5b9e438b946221844b8d4ceb59144b7c8e9af5257c35ea48"), looks := false }, kinds := [], alts := [], laidByText := true, laidKinds := [.data, .data], laidTests := true, laidLooks := .later }
def ZonesAllCardSaid : Prop := Claim7.holds Tryd.pinned (.plain (OpenSpec.ofChange zonesAllSpec)) zonesAllCard

/-- THE TIED CARD OF 'headgatelaw11.ZonesKnown'. -/
def zonesKnownCard : Claim7 := { stood := { row := zonesKnownRow, standIns := [], harness := (true, "d45f2420b8c4b25e5b9e438b946221844b8d4ceb59144b7c8e9af5257c35ea48"), looks := false }, kinds := [], alts := [], laidByText := true, laidKinds := [.data, .data], laidTests := true, laidLooks := .later }
def ZonesKnownCardSaid : Prop := Claim7.holds Tryd.pinned (.plain (OpenSpec.ofChange zonesKnownSpec)) zonesKnownCard

/-- THE SECOND FORM's CARD OF 'headgatelaw11.ZonesAllocs'. -/
def zonesAllocsUptoCard : Claim7 := { stood := { row := zonesAllocsUptoRow, standIns := [], harness := (true, "d45f2420b8c4b25e5b9e438b946221844b8d4ceb59144b7c8e9af5257c35ea48"), looks := false }, kinds := [], alts := [], laidByText := true, laidKinds := [.data, .data], laidTests := true, laidLooks := .later }
def ZonesAllocsUptoCardSaid : Prop := Claim7.holds Tryd.pinned (.plain (OpenSpec.upto zonesAllocsSpec)) zonesAllocsUptoCard

/-- THE SECOND FORM's CARD OF 'headgatelaw11.ZonesTakes'. -/
def zonesTakesUptoCard : Claim7 := { stood := { row := zonesTakesUptoRow, standIns := [], harness := (true, "d45f2420b8c4b25e5b9e438b946221844b8d4ceb59144b7c8e9af5257c35ea48"), looks := false }, kinds := [], alts := [], laidByText := true, laidKinds := [.data, .data], laidTests := true, laidLooks := .later }
def ZonesTakesUptoCardSaid : Prop := Claim7.holds Tryd.pinned (.plain (OpenSpec.upto zonesTakesSpec)) zonesTakesUptoCard

/-- THE SECOND FORM's CARD OF 'headgatelaw11.ZonesLooks'. -/
def zonesLooksUptoCard : Claim7 := { stood := { row := zonesLooksUptoRow, standIns := [], harness := (true, "d45f2420b8c4b25e5b9e438b946221844b8d4ceb59144b7c8e9af5257c35ea48"), looks := false }, kinds := [], alts := [], laidByText := true, laidKinds := [.data, .data], laidTests := true, laidLooks := .later }
def ZonesLooksUptoCardSaid : Prop := Claim7.holds Tryd.pinned (.plain (OpenSpec.upto zonesLooksSpec)) zonesLooksUptoCard

/-- THE SECOND FORM's CARD OF 'headgatelaw09.BuddyKnown'. -/
def buddyKnownUptoCard : Claim7 := { stood := { row := buddyKnownUptoRow, standIns := [], harness := (true, "d45f2420b8c4b25e5b9e438b946221844b8d4ceb59144b7c8e9af5257c35ea48"), looks := false }, kinds := [], alts := [], laidByText := true, laidKinds := [.data, .data], laidTests := true, laidLooks := .later }
def BuddyKnownUptoCardSaid : Prop := Claim7.holds Tryd.pinned (.plain (OpenSpec.upto buddyKnownSpec)) buddyKnownUptoCard

/-- THE SECOND FORM's CARD OF 'headgatelaw09.BuddyBack'. -/
def buddyBackUptoCard : Claim7 := { stood := { row := buddyBackUptoRow, standIns := [], harness := (true, "d45f2420b8c4b25e5b9e438b946221844b8d4ceb59144b7c8e9af5257c35ea48"), looks := false }, kinds := [], alts := [], laidByText := true, laidKinds := [.data, .data], laidTests := true, laidLooks := .later }
def BuddyBackUptoCardSaid : Prop := Claim7.holds Tryd.pinned (.plain (OpenSpec.upto buddyBackSpec)) buddyBackUptoCard

/-- THE SECOND FORM's CARD OF 'headgatelaw09.BuddySwaps'. -/
def buddySwapsUptoCard : Claim7 := { stood := { row := buddySwapsUptoRow, standIns := [], harness := (true, "d45f2420b8c4b25e5b9e438b946221844b8d4ceb59144b7c8e9af5257c35ea48"), looks := false }, kinds := [], alts := [], laidByText := true, laidKinds := [.data, .data], laidTests := true, laidLooks := .later }
def BuddySwapsUptoCardSaid : Prop := Claim7.holds Tryd.pinned (.plain (OpenSpec.upto buddySwapsSpec)) buddySwapsUptoCard

/-- THE SECOND FORM's CARD OF 'headgatelaw09.BuddyGives'. -/
def buddyGivesUptoCard : Claim7 := { stood := { row := buddyGivesUptoRow, standIns := [], harness := (true, "d45f2420b8c4b25e5b9e438b946221844b8d4ceb59144b7c8e9af5257c35ea48"), looks := false }, kinds := [], alts := [], laidByText := true, laidKinds := [.data, .data], laidTests := true, laidLooks := .later }
def BuddyGivesUptoCardSaid : Prop := Claim7.holds Tryd.pinned (.plain (OpenSpec.upto buddyGivesSpec)) buddyGivesUptoCard

/-- THE SECOND FORM's CARD OF 'headgatelaw11.ZonesFirst'. -/
def zonesFirstUptoCard : Claim7 := { stood := { row := zonesFirstUptoRow, standIns := [], harness := (true, "d45f2420b8c4b25e5b9e438b946221844b8d4ceb59144b7c8e9af5257c35ea48"), looks := false }, kinds := [], alts := [], laidByText := true, laidKinds := [.data, .data], laidTests := true, laidLooks := .later }
def ZonesFirstUptoCardSaid : Prop := Claim7.holds Tryd.pinned (.plain (OpenSpec.upto zonesFirstSpec)) zonesFirstUptoCard

/-- THE SECOND FORM's CARD OF 'headgatelaw05.RowKnown'. -/
def rowKnownUptoCard : Claim7 := { stood := { row := rowKnownUptoRow, standIns := [], harness := (true, "d45f2420b8c4b25e5b9e438b946221844b8d4ceb59144b7c8e9af5257c35ea48"), looks := false }, kinds := [], alts := [], laidByText := true, laidKinds := [.data, .data, .data], laidTests := true, laidLooks := .later }
def RowKnownUptoCardSaid : Prop := Claim7.holds Tryd.pinned (.plain (OpenSpec.upto rowKnownSpec)) rowKnownUptoCard

/-- THE SECOND FORM's CARD OF 'headgatelaw05.RowLoose'. -/
def rowLooseUptoCard : Claim7 := { stood := { row := rowLooseUptoRow, standIns := [], harness := (true, "d45f2420b8c4b25e5b9e438b946221844b8d4ceb59144b7c8e9af5257c35ea48"), looks := false }, kinds := [], alts := [], laidByText := true, laidKinds := [.data, .data, .data], laidTests := true, laidLooks := .later }
def RowLooseUptoCardSaid : Prop := Claim7.holds Tryd.pinned (.plain (OpenSpec.upto rowLooseSpec)) rowLooseUptoCard

/-- THE SECOND FORM's CARD OF 'headgatelaw05.RowDigits'. -/
def rowDigitsUptoCard : Claim7 := { stood := { row := rowDigitsUptoRow, standIns := [], harness := (true, "d45f2420b8c4b25e5b9e438b946221844b8d4ceb59144b7c8e9af5257c35ea48"), looks := false }, kinds := [], alts := [], laidByText := true, laidKinds := [.data, .data, .data], laidTests := true, laidLooks := .later }
def RowDigitsUptoCardSaid : Prop := Claim7.holds Tryd.pinned (.plain (OpenSpec.upto rowDigitsSpec)) rowDigitsUptoCard

/-- THE SECOND FORM's CARD OF 'headgatelaw11.ZonesSteps'. -/
def zonesStepsUptoCard : Claim7 := { stood := { row := zonesStepsUptoRow, standIns := [], harness := (true, "d45f2420b8c4b25e5b9e438b946221844b8d4ceb59144b7c8e9af5257c35ea48"), looks := false }, kinds := [], alts := [], laidByText := true, laidKinds := [.data, .data], laidTests := true, laidLooks := .later }
def ZonesStepsUptoCardSaid : Prop := Claim7.holds Tryd.pinned (.plain (OpenSpec.upto zonesStepsSpec)) zonesStepsUptoCard

/-- THE SECOND FORM's CARD OF 'headgatelaw11.ZonesAll'. -/
def zonesAllUptoCard : Claim7 := { stood := { row := zonesAllUptoRow, standIns := [], harness := (true, "d45f2420b8c4b25e5b9e438b946221844b8d4ceb59144b7c8e9af5257c35ea48"), looks := false }, kinds := [], alts := [], laidByText := true, laidKinds := [.data, .data], laidTests := true, laidLooks := .later }
def ZonesAllUptoCardSaid : Prop := Claim7.holds Tryd.pinned (.plain (OpenSpec.upto zonesAllSpec)) zonesAllUptoCard

/-- THE SECOND FORM's CARD OF 'headgatelaw11.ZonesKnown'. -/
def zonesKnownUptoCard : Claim7 := { stood := { row := zonesKnownUptoRow, standIns := [], harness := (true, "d45f2420b8c4b25e5b9e438b946221844b8d4ceb59144b7c8e9af5257c35ea48"), looks := false }, kinds := [], alts := [], laidByText := true, laidKinds := [.data, .data], laidTests := true, laidLooks := .later }
def ZonesKnownUptoCardSaid : Prop := Claim7.holds Tryd.pinned (.plain (OpenSpec.upto zonesKnownSpec)) zonesKnownUptoCard
end Rows
end Go.Proofs.YtnpoikgkhhpdgaaDoor
