/-
  DERIVED. GIVEN WITH THE SEED: THE CARDS: each row of YtbjofbhhnmehgaaGreatDoorRows.lean that lists a variable, with what it lists TIED to the program's text (the seventh form; the later family's looks); each row that meets fmt, with fmt's text TOLD by the authors' own Lean function (tested against real Go, not proved from fmt's source: count such statements apart). THE CARD IS WHAT COUNTS. Prove the row's statement (the work); the ties are given (YtbjofbhhnmehgaaGreatDoorTie.lean); close each card by the builder's one call (the guide's Derived/Test/ToyasCard.lean, 'card_holds'). Laid BY PROGRAM, IN A SANDBOX (cutbox-door.mjs). By AI agents, Wed Nov 11 2026. No macro, syntax, notation, axiom, sorry.
-/
import Derived.Test.YtbjofbhhnmehgaaGreatDoorRows
import GoSem.ClaimSeven
namespace Go.Proofs.YtbjofbhhnmehgaaGreatDoor
namespace Rows

/-- THE TIED CARD OF 'halyardlaw06.TableNames'. -/
def tableNamesCard : Claim7 := { stood := { row := tableNamesRow, standIns := [], harness := (true, "90196011ec05a8aa3366c07aebba44806cf995de2dec383334e98060ad79e21e"), looks := true }, kinds := [], alts := [], laidByText := true, laidKinds := [.data, .wider, .wider, .wider, .wider, .wider, .wider, .wider, .wider, .wider], laidTests := true, laidLooks := .later }
def TableNamesCardSaid : Prop := Claim7.holds Tryz.pinned (.plain (OpenSpec.ofChange tableNamesSpec)) tableNamesCard

/-- THE TIED CARD OF 'halyardlaw06.TableApart'. -/
def tableApartCard : Claim7 := { stood := { row := tableApartRow, standIns := [], harness := (true, "90196011ec05a8aa3366c07aebba44806cf995de2dec383334e98060ad79e21e"), looks := true }, kinds := [], alts := [], laidByText := true, laidKinds := [.data, .wider, .wider, .wider, .wider, .wider, .wider, .wider, .wider, .wider], laidTests := true, laidLooks := .later }
def TableApartCardSaid : Prop := Claim7.holds Tryz.pinned (.plain (OpenSpec.ofChange tableApartSpec)) tableApartCard

/-- THE TIED CARD OF 'halyardlaw06.TableRoom'. -/
def tableRoomCard : Claim7 := { stood := { row := tableRoomRow, standIns := [], harness := (true, "90196011ec05a8aa3366c07aebba44806cf995de2dec383334e98060ad79e21e"), looks := true }, kinds := [], alts := [], laidByText := true, laidKinds := [.data, .wider, .wider, .wider, .wider, .wider, .wider, .wider, .wider, .wider], laidTests := true, laidLooks := .later }
def TableRoomCardSaid : Prop := Claim7.holds Tryz.pinned (.plain (OpenSpec.ofChange tableRoomSpec)) tableRoomCard

/-- THE TIED CARD OF 'halyardlaw06.TableWalks'. -/
def tableWalksCard : Claim7 := { stood := { row := tableWalksRow, standIns := [], harness := (true, "90196011ec05a8aa3366c07aebba44806cf995de2dec383334e98060ad79e21e"), looks := true }, kinds := [], alts := [], laidByText := true, laidKinds := [.data, .wider, .wider, .wider, .wider, .wider, .wider, .wider, .wider, .wider], laidTests := true, laidLooks := .later }
def TableWalksCardSaid : Prop := Claim7.holds Tryz.pinned (.plain (OpenSpec.ofChange tableWalksSpec)) tableWalksCard

/-- THE TIED CARD OF 'halyardlaw06.TableSame'. -/
def tableSameCard : Claim7 := { stood := { row := tableSameRow, standIns := [], harness := (true, "90196011ec05a8aa3366c07aebba44806cf995de2dec383334e98060ad79e21e"), looks := true }, kinds := [], alts := [], laidByText := true, laidKinds := [.data, .wider, .wider, .wider, .wider, .wider, .wider, .wider, .wider, .wider], laidTests := true, laidLooks := .later }
def TableSameCardSaid : Prop := Claim7.holds Tryz.pinned (.plain (OpenSpec.ofChange tableSameSpec)) tableSameCard

/-- THE TIED CARD OF 'halyardlaw06.TableOwn'. -/
def tableOwnCard : Claim7 := { stood := { row := tableOwnRow, standIns := [], harness := (true, "90196011ec05a8aa3366c07aebba44806cf995de2dec383334e98060ad79e21e"), looks := true }, kinds := [], alts := [], laidByText := true, laidKinds := [.data, .wider, .wider, .wider, .wider, .wider, .wider, .wider, .wider, .wider], laidTests := true, laidLooks := .later }
def TableOwnCardSaid : Prop := Claim7.holds Tryz.pinned (.plain (OpenSpec.ofChange tableOwnSpec)) tableOwnCard

/-- THE TIED CARD OF 'halyardlaw06.TableNil'. -/
def tableNilCard : Claim7 := { stood := { row := tableNilRow, standIns := [], harness := (true, "90196011ec05a8aa3366c07aebba44806cf995de2dec383334e98060ad79e21e"), looks := true }, kinds := [], alts := [], laidByText := true, laidKinds := [.data, .wider, .wider, .wider, .wider, .wider, .wider, .wider, .wider, .wider], laidTests := true, laidLooks := .later }
def TableNilCardSaid : Prop := Claim7.holds Tryz.pinned (.plain (OpenSpec.ofChange tableNilSpec)) tableNilCard

/-- THE TIED CARD OF 'halyardlaw06.TableWhole'. -/
def tableWholeCard : Claim7 := { stood := { row := tableWholeRow, standIns := [], harness := (true, "90196011ec05a8aa3366c07aebba44806cf995de2dec383334e98060ad79e21e"), looks := true }, kinds := [], alts := [], laidByText := true, laidKinds := [.data, .wider, .wider, .wider, .wider, .wider, .wider, .wider, .wider, .wider], laidTests := true, laidLooks := .later }
def TableWholeCardSaid : Prop := Claim7.holds Tryz.pinned (.plain (OpenSpec.ofChange tableWholeSpec)) tableWholeCard

/-- THE TIED CARD OF 'halyardlaw06.TableBroken'. -/
def tableBrokenCard : Claim7 := { stood := { row := tableBrokenRow, standIns := [], harness := (true, "90196011ec05a8aa3366c07aebba44806cf995de2dec383334e98060ad79e21e"), looks := true }, kinds := [], alts := [], laidByText := true, laidKinds := [.data, .wider, .wider, .wider, .wider, .wider, .wider, .wider, .wider, .wider], laidTests := true, laidLooks := .later }
def TableBrokenCardSaid : Prop := Claim7.holds Tryz.pinned (.plain (OpenSpec.ofChange tableBrokenSpec)) tableBrokenCard

/-- THE SECOND FORM's CARD OF 'halyardlaw06.TableNames'. -/
def tableNamesUptoCard : Claim7 := { stood := { row := tableNamesUptoRow, standIns := [], harness := (true, "90196011ec05a8aa3366c07aebba44806cf995de2dec383334e98060ad79e21e"), looks := true }, kinds := [], alts := [], laidByText := true, laidKinds := [.data, .wider, .wider, .wider, .wider, .wider, .wider, .wider, .wider, .wider], laidTests := true, laidLooks := .later }
def TableNamesUptoCardSaid : Prop := Claim7.holds Tryz.pinned (.plain (OpenSpec.upto tableNamesSpec)) tableNamesUptoCard

/-- THE SECOND FORM's CARD OF 'halyardlaw06.TableApart'. -/
def tableApartUptoCard : Claim7 := { stood := { row := tableApartUptoRow, standIns := [], harness := (true, "90196011ec05a8aa3366c07aebba44806cf995de2dec383334e98060ad79e21e"), looks := true }, kinds := [], alts := [], laidByText := true, laidKinds := [.data, .wider, .wider, .wider, .wider, .wider, .wider, .wider, .wider, .wider], laidTests := true, laidLooks := .later }
def TableApartUptoCardSaid : Prop := Claim7.holds Tryz.pinned (.plain (OpenSpec.upto tableApartSpec)) tableApartUptoCard

/-- THE SECOND FORM's CARD OF 'halyardlaw06.TableRoom'. -/
def tableRoomUptoCard : Claim7 := { stood := { row := tableRoomUptoRow, standIns := [], harness := (true, "90196011ec05a8aa3366c07aebba44806cf995de2dec383334e98060ad79e21e"), looks := true }, kinds := [], alts := [], laidByText := true, laidKinds := [.data, .wider, .wider, .wider, .wider, .wider, .wider, .wider, .wider, .wider], laidTests := true, laidLooks := .later }
def TableRoomUptoCardSaid : Prop := Claim7.holds Tryz.pinned (.plain (OpenSpec.upto tableRoomSpec)) tableRoomUptoCard

/-- THE SECOND FORM's CARD OF 'halyardlaw06.TableWalks'. -/
def tableWalksUptoCard : Claim7 := { stood := { row := tableWalksUptoRow, standIns := [], harness := (true, "90196011ec05a8aa3366c07aebba44806cf995de2dec383334e98060ad79e21e"), looks := true }, kinds := [], alts := [], laidByText := true, laidKinds := [.data, .wider, .wider, .wider, .wider, .wider, .wider, .wider, .wider, .wider], laidTests := true, laidLooks := .later }
def TableWalksUptoCardSaid : Prop := Claim7.holds Tryz.pinned (.plain (OpenSpec.upto tableWalksSpec)) tableWalksUptoCard

/-- THE SECOND FORM's CARD OF 'halyardlaw06.TableSame'. -/
def tableSameUptoCard : Claim7 := { stood := { row := tableSameUptoRow, standIns := [], harness := (true, "90196011ec05a8aa3366c07aebba44806cf995de2dec383334e98060ad79e21e"), looks := true }, kinds := [], alts := [], laidByText := true, laidKinds := [.data, .wider, .wider, .wider, .wider, .wider, .wider, .wider, .wider, .wider], laidTests := true, laidLooks := .later }
def TableSameUptoCardSaid : Prop := Claim7.holds Tryz.pinned (.plain (OpenSpec.upto tableSameSpec)) tableSameUptoCard

/-- THE SECOND FORM's CARD OF 'halyardlaw06.TableOwn'. -/
def tableOwnUptoCard : Claim7 := { stood := { row := tableOwnUptoRow, standIns := [], harness := (true, "90196011ec05a8aa3366c07aebba44806cf995de2dec383334e98060ad79e21e"), looks := true }, kinds := [], alts := [], laidByText := true, laidKinds := [.data, .wider, .wider, .wider, .wider, .wider, .wider, .wider, .wider, .wider], laidTests := true, laidLooks := .later }
def TableOwnUptoCardSaid : Prop := Claim7.holds Tryz.pinned (.plain (OpenSpec.upto tableOwnSpec)) tableOwnUptoCard

/-- THE SECOND FORM's CARD OF 'halyardlaw06.TableNil'. -/
def tableNilUptoCard : Claim7 := { stood := { row := tableNilUptoRow, standIns := [], harness := (true, "90196011ec05a8aa3366c07aebba44806cf995de2dec383334e98060ad79e21e"), looks := true }, kinds := [], alts := [], laidByText := true, laidKinds := [.data, .wider, .wider, .wider, .wider, .wider, .wider, .wider, .wider, .wider], laidTests := true, laidLooks := .later }
def TableNilUptoCardSaid : Prop := Claim7.holds Tryz.pinned (.plain (OpenSpec.upto tableNilSpec)) tableNilUptoCard

/-- THE SECOND FORM's CARD OF 'halyardlaw06.TableWhole'. -/
def tableWholeUptoCard : Claim7 := { stood := { row := tableWholeUptoRow, standIns := [], harness := (true, "90196011ec05a8aa3366c07aebba44806cf995de2dec383334e98060ad79e21e"), looks := true }, kinds := [], alts := [], laidByText := true, laidKinds := [.data, .wider, .wider, .wider, .wider, .wider, .wider, .wider, .wider, .wider], laidTests := true, laidLooks := .later }
def TableWholeUptoCardSaid : Prop := Claim7.holds Tryz.pinned (.plain (OpenSpec.upto tableWholeSpec)) tableWholeUptoCard

/-- THE SECOND FORM's CARD OF 'halyardlaw06.TableBroken'. -/
def tableBrokenUptoCard : Claim7 := { stood := { row := tableBrokenUptoRow, standIns := [], harness := (true, "90196011ec05a8aa3366c07aebba44806cf995de2dec383334e98060ad79e21e"), looks := true }, kinds := [], alts := [], laidByText := true, laidKinds := [.data, .wider, .wider, .wider, .wider, .wider, .wider, .wider, .wider, .wider], laidTests := true, laidLooks := .later }
def TableBrokenUptoCardSaid : Prop := Claim7.holds Tryz.pinned (.plain (OpenSpec.upto tableBrokenSpec)) tableBrokenUptoCard
end Rows
end Go.Proofs.YtbjofbhhnmehgaaGreatDoor
