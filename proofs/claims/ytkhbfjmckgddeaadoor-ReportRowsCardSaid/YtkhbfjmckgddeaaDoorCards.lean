/-
  DERIVED. GIVEN WITH THE SEED: THE CARDS: each row of YtkhbfjmckgddeaaDoorRows.lean that lists a variable, with what it lists TIED to the program's text (the seventh form; the later family's looks); each row that meets fmt, with fmt's text TOLD by the authors' own Lean function (tested against real Go, not proved from fmt's source: count such statements apart). THE CARD IS WHAT COUNTS. Prove the row's statement (the work); the ties are given (YtkhbfjmckgddeaaDoorTie.lean); close each card by the builder's one call (the guide's Derived/Test/ToyasCard.lean, 'card_holds'). Laid BY PROGRAM, IN A SANDBOX (cutbox-door.mjs). By AI agents, Wed Nov 11 2026. No macro, syntax, notation, axiom, sorry.
-/
import Derived.Test.YtkhbfjmckgddeaaDoorRows
import GoSem.ClaimSeven
namespace Go.Proofs.YtkhbfjmckgddeaaDoor
namespace Rows

/-- THE TIED CARD OF 'hoistwaylaw70.ByfloorRows'. -/
def byfloorRowsCard : Claim7 := { stood := { row := byfloorRowsRow, standIns := [], harness := (true, "2eea6d51aacd2c9ec424ea4b82cd9f7fec1df137a1dfd36dfa4b77f86d47e3f7"), looks := false }, kinds := [], alts := [], laidByText := true, laidKinds := [.data, .pinned], laidTests := true, laidLooks := .later }
def ByfloorRowsCardSaid : Prop := Claim7.holds Tryd.pinned (.plain (OpenSpec.ofChange byfloorRowsSpec)) byfloorRowsCard

/-- THE TIED CARD OF 'hoistwaylaw42.ReportRows'. -/
def reportRowsCard : Claim7 := { stood := { row := reportRowsRow, standIns := [], harness := (true, "2eea6d51aacd2c9ec424ea4b82cd9f7fec1df137a1dfd36dfa4b77f86d47e3f7"), looks := false }, kinds := [], alts := [], laidByText := true, laidKinds := [.data, .pinned], laidTests := true, laidLooks := .later }
def ReportRowsCardSaid : Prop := Claim7.holds Tryd.pinned (.plain (OpenSpec.ofChange reportRowsSpec)) reportRowsCard

/-- THE TIED CARD OF 'hoistwaylaw42.ReportBins'. -/
def reportBinsCard : Claim7 := { stood := { row := reportBinsRow, standIns := [], harness := (true, "2eea6d51aacd2c9ec424ea4b82cd9f7fec1df137a1dfd36dfa4b77f86d47e3f7"), looks := false }, kinds := [], alts := [], laidByText := true, laidKinds := [.data, .pinned], laidTests := true, laidLooks := .later }
def ReportBinsCardSaid : Prop := Claim7.holds Tryd.pinned (.plain (OpenSpec.ofChange reportBinsSpec)) reportBinsCard

/-- THE SECOND FORM's CARD OF 'hoistwaylaw70.ByfloorRows'. -/
def byfloorRowsUptoCard : Claim7 := { stood := { row := byfloorRowsUptoRow, standIns := [], harness := (true, "2eea6d51aacd2c9ec424ea4b82cd9f7fec1df137a1dfd36dfa4b77f86d47e3f7"), looks := false }, kinds := [], alts := [], laidByText := true, laidKinds := [.data, .pinned], laidTests := true, laidLooks := .later }
def ByfloorRowsUptoCardSaid : Prop := Claim7.holds Tryd.pinned (.plain (OpenSpec.upto byfloorRowsSpec)) byfloorRowsUptoCard

/-- THE SECOND FORM's CARD OF 'hoistwaylaw42.ReportRows'. -/
def reportRowsUptoCard : Claim7 := { stood := { row := reportRowsUptoRow, standIns := [], harness := (true, "2eea6d51aacd2c9ec424ea4b82cd9f7fec1df137a1dfd36dfa4b77f86d47e3f7"), looks := false }, kinds := [], alts := [], laidByText := true, laidKinds := [.data, .pinned], laidTests := true, laidLooks := .later }
def ReportRowsUptoCardSaid : Prop := Claim7.holds Tryd.pinned (.plain (OpenSpec.upto reportRowsSpec)) reportRowsUptoCard

/-- THE SECOND FORM's CARD OF 'hoistwaylaw42.ReportBins'. -/
def reportBinsUptoCard : Claim7 := { stood := { row := reportBinsUptoRow, standIns := [], harness := (true, "2eea6d51aacd2c9ec424ea4b82cd9f7fec1df137a1dfd36dfa4b77f86d47e3f7"), looks := false }, kinds := [], alts := [], laidByText := true, laidKinds := [.data, .pinned], laidTests := true, laidLooks := .later }
def ReportBinsUptoCardSaid : Prop := Claim7.holds Tryd.pinned (.plain (OpenSpec.upto reportBinsSpec)) reportBinsUptoCard
end Rows
end Go.Proofs.YtkhbfjmckgddeaaDoor
