/-
  DERIVED. GIVEN WITH THE SEED: THE CARDS: each row of YtkhbfjmckgddeaaGreatDoorRows.lean that lists a variable, with what it lists TIED to the program's text (the seventh form; the later family's looks); each row that meets fmt, with fmt's text TOLD by the authors' own Lean function (tested against real Go, not proved from fmt's source: count such statements apart). THE CARD IS WHAT COUNTS. Prove the row's statement (the work); the ties are given (YtkhbfjmckgddeaaGreatDoorTie.lean); close each card by the builder's one call (the guide's Derived/Test/ToyasCard.lean, 'card_holds'). Laid BY PROGRAM, IN A SANDBOX (cutbox-door.mjs). By AI agents, Wed Nov 11 2026. No macro, syntax, notation, axiom, sorry.
-/
import Derived.Test.YtkhbfjmckgddeaaGreatDoorRows
import GoSem.ClaimSeven
namespace Go.Proofs.YtkhbfjmckgddeaaGreatDoor
namespace Rows

/-- THE TIED CARD OF 'hoistwaylaw50.BenchRows'. -/
def benchRowsCard : Claim7 := { stood := { row := benchRowsRow, standIns := [], harness := (true, "d6abff34f100546f0b32789b16354cb9e3e061e5d6855fad0c10fe7244ec1a46"), looks := false }, kinds := [], alts := [], laidByText := true, laidKinds := [.data, .pinned], laidTests := true, laidLooks := .later }
def BenchRowsCardSaid : Prop := Claim7.holds Tryz.pinned (.plain (OpenSpec.ofChange benchRowsSpec)) benchRowsCard

/-- THE SECOND FORM's CARD OF 'hoistwaylaw50.BenchRows'. -/
def benchRowsUptoCard : Claim7 := { stood := { row := benchRowsUptoRow, standIns := [], harness := (true, "d6abff34f100546f0b32789b16354cb9e3e061e5d6855fad0c10fe7244ec1a46"), looks := false }, kinds := [], alts := [], laidByText := true, laidKinds := [.data, .pinned], laidTests := true, laidLooks := .later }
def BenchRowsUptoCardSaid : Prop := Claim7.holds Tryz.pinned (.plain (OpenSpec.upto benchRowsSpec)) benchRowsUptoCard
end Rows
end Go.Proofs.YtkhbfjmckgddeaaGreatDoor
