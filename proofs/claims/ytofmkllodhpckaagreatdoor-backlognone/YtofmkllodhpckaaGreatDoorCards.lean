/-
  DERIVED. GIVEN WITH THE SEED: THE CARDS: each row of YtofmkllodhpckaaGreatDoorRows.lean that lists a variable, with what it lists TIED to the program's text (the seventh form; the later family's looks); each row that meets fmt, with fmt's text TOLD by the authors' own Lean function (tested against real Go, not proved from fmt's source: count such statements apart). THE CARD IS WHAT COUNTS. Prove the row's statement (the work); the ties are given (YtofmkllodhpckaaGreatDoorTie.lean); close each card by the builder's one call (the guide's Derived/Test/ToyasCard.lean, 'card_holds'). Laid BY PROGRAM, IN A SANDBOX (cutbox-door.mjs). By AI agents, Wed Nov 11 2026. No macro, syntax, notation, axiom, sorry.
-/
import Derived.Test.YtofmkllodhpckaaGreatDoorRows
import GoSem.ClaimSeven
namespace Go.Proofs.YtofmkllodhpckaaGreatDoor
namespace Rows

/-- THE TIED CARD OF 'halyardlaw09.BacklogNone'. -/
def backlogNoneCard : Claim7 := { stood := { row := backlogNoneRow, standIns := [], harness := (true, "c49324dc5e8204d11d36a022e3f5b17155945f592a838add3bb5c0b8d6dde9fc"), looks := false }, kinds := [], alts := [], laidByText := true, laidKinds := [.data, .wider, .wider, .wider, .wider, .wider, .wider, .wider, .wider, .wider], laidTests := true, laidLooks := .later }
def BacklogNoneCardSaid : Prop := Claim7.holds Tryz.pinned (.plain (OpenSpec.ofChange backlogNoneSpec)) backlogNoneCard

/-- THE SECOND FORM's CARD OF 'halyardlaw09.BacklogNone'. -/
def backlogNoneUptoCard : Claim7 := { stood := { row := backlogNoneUptoRow, standIns := [], harness := (true, "c49324dc5e8204d11d36a022e3f5b17155945f592a838add3bb5c0b8d6dde9fc"), looks := false }, kinds := [], alts := [], laidByText := true, laidKinds := [.data, .wider, .wider, .wider, .wider, .wider, .wider, .wider, .wider, .wider], laidTests := true, laidLooks := .later }
def BacklogNoneUptoCardSaid : Prop := Claim7.holds Tryz.pinned (.plain (OpenSpec.upto backlogNoneSpec)) backlogNoneUptoCard
end Rows
end Go.Proofs.YtofmkllodhpckaaGreatDoor
