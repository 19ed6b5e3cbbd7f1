/-
  DERIVED. GIVEN WITH THE SEED: THE CARDS: each row of YtkjlejpaajcahaaDoorRows.lean that lists a variable, with what it lists TIED to the program's text (the seventh form; the later family's looks); each row that meets fmt, with fmt's text TOLD by the authors' own Lean function (tested against real Go, not proved from fmt's source: count such statements apart). THE CARD IS WHAT COUNTS. Prove the row's statement (the work); the ties are given (YtkjlejpaajcahaaDoorTie.lean); close each card by the builder's one call (the guide's Derived/Test/ToyasCard.lean, 'card_holds'). Laid BY PROGRAM, IN A SANDBOX (cutbox-door.mjs). By AI agents, Wed Nov 11 2026. No macro, syntax, notation, axiom, sorry.
-/
import Derived.Test.YtkjlejpaajcahaaDoorRows
import GoSem.ClaimSeven
namespace Go.Proofs.YtkjlejpaajcahaaDoor
namespace Rows

/-- THE TIED CARD OF 'hoistwaylaw72.WindowsTexts'. -/
def windowsTextsCard : Claim7 := { stood := { row := windowsTextsRow, standIns := [], harness := (true, "f6559a150b6cd1cc4efeb7bc48fb568e9679a70146b78ebe9b62d0ec60339234"), looks := false }, kinds := [], alts := [], laidByText := true, laidKinds := [.data, .pinned], laidTests := true, laidLooks := .later }
def WindowsTextsCardSaid : Prop := Claim7.holds Tryd.pinned (.plain (OpenSpec.ofChange windowsTextsSpec)) windowsTextsCard

/-- THE SECOND FORM's CARD OF 'hoistwaylaw72.WindowsTexts'. -/
def windowsTextsUptoCard : Claim7 := { stood := { row := windowsTextsUptoRow, standIns := [], harness := (true, "f6559a150b6cd1cc4efeb7bc48fb568e9679a70146b78ebe9b62d0ec60339234"), looks := false }, kinds := [], alts := [], laidByText := true, laidKinds := [.data, .pinned], laidTests := true, laidLooks := .later }
def WindowsTextsUptoCardSaid : Prop := Claim7.holds Tryd.pinned (.plain (OpenSpec.upto windowsTextsSpec)) windowsTextsUptoCard
end Rows
end Go.Proofs.YtkjlejpaajcahaaDoor
