/-
  DERIVED. GIVEN WITH THE SEED: THE CARDS: each row of YtodagfkndlpdpaaGreatDoorRows.lean that lists a variable, with what it lists TIED to the program's text (the seventh form; the later family's looks); each row that meets fmt, with fmt's text TOLD by the authors' own Lean function (tested against real Go, not proved from fmt's source: count such statements apart). THE CARD IS WHAT COUNTS. Prove the row's statement (the work); the ties are given (YtodagfkndlpdpaaGreatDoorTie.lean); close each card by the builder's one call (the guide's Derived/Test/ToyasCard.lean, 'card_holds'). Laid BY PROGRAM, IN A SANDBOX (cutbox-door.mjs). By AI agents, Wed Nov 11 2026. No macro, syntax, notation, axiom, sorry.
-/
import Derived.Test.YtodagfkndlpdpaaGreatDoorRows
import GoSem.ClaimSeven
namespace Go.Proofs.YtodagfkndlpdpaaGreatDoor
namespace Rows

/-- THE TIED CARD OF 'plexuslaw21.FinalNil'. -/
def finalNilCard : Claim7 := { stood := { row := finalNilRow, standIns := [], harness := (true, "3d88e17aa9f7a62cbde9e708558b33972ff2cbd748251d7de3fde41612952f14"), looks := true }, kinds := [], alts := [], laidByText := true, laidKinds := [.data], laidTests := true, laidLooks := .later }
def FinalNilCardSaid : Prop := Claim7.holds Tryz.pinned (.plain (OpenSpec.ofChange finalNilSpec)) finalNilCard

/-- THE SECOND FORM's CARD OF 'plexuslaw21.FinalNil'. -/
def finalNilUptoCard : Claim7 := { stood := { row := finalNilUptoRow, standIns := [], harness := (true, "3d88e17aa9f7a62cbde9e708558b33972ff2cbd748251d7de3fde41612952f14"), looks := true }, kinds := [], alts := [], laidByText := true, laidKinds := [.data], laidTests := true, laidLooks := .later }
def FinalNilUptoCardSaid : Prop := Claim7.holds Tryz.pinned (.plain (OpenSpec.upto finalNilSpec)) finalNilUptoCard
end Rows
end Go.Proofs.YtodagfkndlpdpaaGreatDoor
