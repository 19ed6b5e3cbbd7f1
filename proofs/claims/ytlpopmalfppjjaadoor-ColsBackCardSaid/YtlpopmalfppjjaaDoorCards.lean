/-
  DERIVED. GIVEN WITH THE SEED: THE CARDS: each row of YtlpopmalfppjjaaDoorRows.lean that lists a variable, with what it lists TIED to the program's text (the seventh form; the later family's looks); each row that meets fmt, with fmt's text TOLD by the authors' own Lean function (tested against real Go, not proved from fmt's source: count such statements apart). THE CARD IS WHAT COUNTS. Prove the row's statement (the work); the ties are given (YtlpopmalfppjjaaDoorTie.lean); close each card by the builder's one call (the guide's Derived/Test/ToyasCard.lean, 'card_holds'). Laid BY PROGRAM, IN A SANDBOX (cutbox-door.mjs). By AI agents, Wed Nov 11 2026. No macro, syntax, notation, axiom, sorry.
-/
import Derived.Test.YtlpopmalfppjjaaDoorRows
import GoSem.ClaimSeven
namespace Go.Proofs.YtlpopmalfppjjaaDoor
namespace Rows

/-- THE TIED CARD OF 'hoistwaylaw16.ColsLay'. -/
def colsLayCard : Claim7 := { stood := { row := colsLayRow, standIns := [], harness := (true, "abfc6e0b0627d28a3572929fcebce9e29f889093e31db16b8cd8e6a2185ad95f"), looks := false }, kinds := [], alts := [], laidByText := true, laidKinds := [.data, .pinned], laidTests := true, laidLooks := .later }
def ColsLayCardSaid : Prop := Claim7.holds Tryd.pinned (.plain (OpenSpec.ofChange colsLaySpec)) colsLayCard

/-- THE TIED CARD OF 'hoistwaylaw16.ColsBack'. -/
def colsBackCard : Claim7 := { stood := { row := colsBackRow, standIns := [], harness := (true, "abfc6e0b0627d28a3572929fcebce9e29f889093e31db16b8cd8e6a2185ad95f"), looks := false }, kinds := [], alts := [], laidByText := true, laidKinds := [.data, .pinned], laidTests := true, laidLooks := .later }
def ColsBackCardSaid : Prop := Claim7.holds Tryd.pinned (.plain (OpenSpec.ofChange colsBackSpec)) colsBackCard

/-- THE SECOND FORM's CARD OF 'hoistwaylaw16.ColsLay'. -/
def colsLayUptoCard : Claim7 := { stood := { row := colsLayUptoRow, standIns := [], harness := (true, "abfc6e0b0627d28a3572929fcebce9e29f889093e31db16b8cd8e6a2185ad95f"), looks := false }, kinds := [], alts := [], laidByText := true, laidKinds := [.data, .pinned], laidTests := true, laidLooks := .later }
def ColsLayUptoCardSaid : Prop := Claim7.holds Tryd.pinned (.plain (OpenSpec.upto colsLaySpec)) colsLayUptoCard

/-- THE SECOND FORM's CARD OF 'hoistwaylaw16.ColsBack'. -/
def colsBackUptoCard : Claim7 := { stood := { row := colsBackUptoRow, standIns := [], harness := (true, "abfc6e0b0627d28a3572929fcebce9e29f889093e31db16b8cd8e6a2185ad95f"), looks := false }, kinds := [], alts := [], laidByText := true, laidKinds := [.data, .pinned], laidTests := true, laidLooks := .later }
def ColsBackUptoCardSaid : Prop := Claim7.holds Tryd.pinned (.plain (OpenSpec.upto colsBackSpec)) colsBackUptoCard
end Rows
end Go.Proofs.YtlpopmalfppjjaaDoor
