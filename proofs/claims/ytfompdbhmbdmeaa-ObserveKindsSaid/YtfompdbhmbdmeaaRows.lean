/-
  No cell of these rows narrows 'for every input' (looked for: loops, veiled, ifaces, maps, wideKeys, modest, calm, conditions, laid).
  DERIVED. THE GIVEN ROWS OF THIS SEAT. 12 by the template 'for every input the law returns true; each argument reads behind the call as it read before'; 0 by the template 'total and deterministic' (their statements: YtfompdbhmbdmeaaTotals.lean).
  GIVEN WITH THE SEED: the statements are not yours to turn. If you find one false, say at which input.
  Laid BY PROGRAM, IN A SANDBOX (cutbox-rows.mjs): the forced cells as the released guide's own fill.sh prints them over the translation 6724aab6c8f6feca… (all of the seat's roots in one cut). By AI agents, Wed Nov 11 2026. No macro, syntax, notation, axiom, sorry.
-/
import Derived.Test.YtfompdbhmbdmeaaChecked
import GoSem.Claim
import GoSem.ClaimJoined
import GoSem.ClaimMapViews
import Derived.JoinedTies
import Derived.KernelRfl
namespace Go.Proofs.Ytfompdbhmbdmeaa
/- THE CELL 'sum', in the pinned program and in every row, IS THE sha256 OF THE DUMP (.gsa) THAT YtfompdbhmbdmeaaProg.lean LOADS. Nothing in Lean hashes anything: it is a label: what it is worth is what the hold of that sum in a sandbox is worth. -/
noncomputable def Try.pinned : Pinned := { name := "ytfompdbhmbdmeaa", sum := "6724aab6c8f6feca63618819a4038a919e7d0c02f2b4f63dcbf34c667826615a", checked := Try.checked }
namespace Rows
def none {H : Type} : Left H := { results := [], args := [] }

/-- 'hoistwaylaw33.SectorShares': WHATEVER THE INPUT: true; the input reads as it did. -/
def sectorSharesSpec : ChangeSpec := { name := "sectorShares", fn := fun _ => fun
  | [d1, d2] => { results := [.lit (.bool true)], args := [d1, d2] }
  | _ => none }
def sectorSharesRow : OpenClaim := { program := "ytfompdbhmbdmeaa", sum := "6724aab6c8f6feca63618819a4038a919e7d0c02f2b4f63dcbf34c667826615a", func := "hoistway/hoistwaylaw33.SectorShares", spec := "sectorShares", plainKeys := false, apart := false }
def SectorSharesSaid : Prop := sectorSharesRow.holds Try.pinned (OpenSpec.ofChange sectorSharesSpec)

/-- ITS FALSE NEIGHBOUR: 'it returns false'. Refute it at one input. -/
def sectorSharesWrong : ChangeSpec := { name := "sectorShares", fn := fun _ => fun
  | [d1, d2] => { results := [.lit (.bool false)], args := [d1, d2] }
  | _ => none }
def SectorSharesWrongFalsely : Prop := sectorSharesRow.holds Try.pinned (OpenSpec.ofChange sectorSharesWrong)

/-- 'hoistwaylaw51.ReplayStories': WHATEVER THE INPUT: true; the input reads as it did. -/
def replayStoriesSpec : ChangeSpec := { name := "replayStories", fn := fun _ => fun
  | [d1, d2] => { results := [.lit (.bool true)], args := [d1, d2] }
  | _ => none }
def replayStoriesRow : OpenClaim := { program := "ytfompdbhmbdmeaa", sum := "6724aab6c8f6feca63618819a4038a919e7d0c02f2b4f63dcbf34c667826615a", func := "hoistway/hoistwaylaw51.ReplayStories", spec := "replayStories", recurses := true, plainKeys := false, apart := false }
def ReplayStoriesSaid : Prop := replayStoriesRow.holds Try.pinned (OpenSpec.ofChange replayStoriesSpec)

/-- ITS FALSE NEIGHBOUR: 'it returns false'. Refute it at one input. -/
def replayStoriesWrong : ChangeSpec := { name := "replayStories", fn := fun _ => fun
  | [d1, d2] => { results := [.lit (.bool false)], args := [d1, d2] }
  | _ => none }
def ReplayStoriesWrongFalsely : Prop := replayStoriesRow.holds Try.pinned (OpenSpec.ofChange replayStoriesWrong)

/-- 'hoistwaylaw07.GridOrder': WHATEVER THE INPUT: true; the input reads as it did. -/
def gridOrderSpec : ChangeSpec := { name := "gridOrder", fn := fun _ => fun
  | [d1, d2] => { results := [.lit (.bool true)], args := [d1, d2] }
  | _ => none }
def gridOrderRow : OpenClaim := { program := "ytfompdbhmbdmeaa", sum := "6724aab6c8f6feca63618819a4038a919e7d0c02f2b4f63dcbf34c667826615a", func := "hoistway/hoistwaylaw07.GridOrder", spec := "gridOrder", plainKeys := false, apart := false }
def GridOrderSaid : Prop := gridOrderRow.holds Try.pinned (OpenSpec.ofChange gridOrderSpec)

/-- ITS FALSE NEIGHBOUR: 'it returns false'. Refute it at one input. -/
def gridOrderWrong : ChangeSpec := { name := "gridOrder", fn := fun _ => fun
  | [d1, d2] => { results := [.lit (.bool false)], args := [d1, d2] }
  | _ => none }
def GridOrderWrongFalsely : Prop := gridOrderRow.holds Try.pinned (OpenSpec.ofChange gridOrderWrong)

/-- 'hoistwaylaw58.ObserveKinds': WHATEVER THE INPUT: true; the input reads as it did. -/
def observeKindsSpec : ChangeSpec := { name := "observeKinds", fn := fun _ => fun
  | [d] => { results := [.lit (.bool true)], args := [d] }
  | _ => none }
def observeKindsRow : OpenClaim := { program := "ytfompdbhmbdmeaa", sum := "6724aab6c8f6feca63618819a4038a919e7d0c02f2b4f63dcbf34c667826615a", func := "hoistway/hoistwaylaw58.ObserveKinds", spec := "observeKinds", plainKeys := false, apart := false }
def ObserveKindsSaid : Prop := observeKindsRow.holds Try.pinned (OpenSpec.ofChange observeKindsSpec)

/-- ITS FALSE NEIGHBOUR: 'it returns false'. Refute it at one input. -/
def observeKindsWrong : ChangeSpec := { name := "observeKinds", fn := fun _ => fun
  | [d] => { results := [.lit (.bool false)], args := [d] }
  | _ => none }
def ObserveKindsWrongFalsely : Prop := observeKindsRow.holds Try.pinned (OpenSpec.ofChange observeKindsWrong)

/-- 'hoistwaylaw72.WindowsSums': WHATEVER THE INPUT: true; the input reads as it did. -/
def windowsSumsSpec : ChangeSpec := { name := "windowsSums", fn := fun _ => fun
  | [d1, d2, d3] => { results := [.lit (.bool true)], args := [d1, d2, d3] }
  | _ => none }
def windowsSumsRow : OpenClaim := { program := "ytfompdbhmbdmeaa", sum := "6724aab6c8f6feca63618819a4038a919e7d0c02f2b4f63dcbf34c667826615a", func := "hoistway/hoistwaylaw72.WindowsSums", spec := "windowsSums", plainKeys := false, apart := false }
def WindowsSumsSaid : Prop := windowsSumsRow.holds Try.pinned (OpenSpec.ofChange windowsSumsSpec)

/-- ITS FALSE NEIGHBOUR: 'it returns false'. Refute it at one input. -/
def windowsSumsWrong : ChangeSpec := { name := "windowsSums", fn := fun _ => fun
  | [d1, d2, d3] => { results := [.lit (.bool false)], args := [d1, d2, d3] }
  | _ => none }
def WindowsSumsWrongFalsely : Prop := windowsSumsRow.holds Try.pinned (OpenSpec.ofChange windowsSumsWrong)

/-- 'hoistwaylaw20.VetBounds': WHATEVER THE INPUT: true; the input reads as it did. -/
def vetBoundsSpec : ChangeSpec := { name := "vetBounds", fn := fun _ => fun
  | [d1, d2] => { results := [.lit (.bool true)], args := [d1, d2] }
  | _ => none }
def vetBoundsRow : OpenClaim := { program := "ytfompdbhmbdmeaa", sum := "6724aab6c8f6feca63618819a4038a919e7d0c02f2b4f63dcbf34c667826615a", func := "hoistway/hoistwaylaw20.VetBounds", spec := "vetBounds", plainKeys := false, apart := false }
def VetBoundsSaid : Prop := vetBoundsRow.holds Try.pinned (OpenSpec.ofChange vetBoundsSpec)

/-- ITS FALSE NEIGHBOUR: 'it returns false'. Refute it at one input. -/
def vetBoundsWrong : ChangeSpec := { name := "vetBounds", fn := fun _ => fun
  | [d1, d2] => { results := [.lit (.bool false)], args := [d1, d2] }
  | _ => none }
def VetBoundsWrongFalsely : Prop := vetBoundsRow.holds Try.pinned (OpenSpec.ofChange vetBoundsWrong)

/-- 'hoistwaylaw20.VetChecks': WHATEVER THE INPUT: true; the input reads as it did. -/
def vetChecksSpec : ChangeSpec := { name := "vetChecks", fn := fun _ => fun
  | [d1, d2] => { results := [.lit (.bool true)], args := [d1, d2] }
  | _ => none }
def vetChecksRow : OpenClaim := { program := "ytfompdbhmbdmeaa", sum := "6724aab6c8f6feca63618819a4038a919e7d0c02f2b4f63dcbf34c667826615a", func := "hoistway/hoistwaylaw20.VetChecks", spec := "vetChecks", plainKeys := false, apart := false }
def VetChecksSaid : Prop := vetChecksRow.holds Try.pinned (OpenSpec.ofChange vetChecksSpec)

/-- ITS FALSE NEIGHBOUR: 'it returns false'. Refute it at one input. -/
def vetChecksWrong : ChangeSpec := { name := "vetChecks", fn := fun _ => fun
  | [d1, d2] => { results := [.lit (.bool false)], args := [d1, d2] }
  | _ => none }
def VetChecksWrongFalsely : Prop := vetChecksRow.holds Try.pinned (OpenSpec.ofChange vetChecksWrong)

/-- 'hoistwaylaw72.WindowsRows': WHATEVER THE INPUT: true; the input reads as it did. -/
def windowsRowsSpec : ChangeSpec := { name := "windowsRows", fn := fun _ => fun
  | [d1, d2, d3] => { results := [.lit (.bool true)], args := [d1, d2, d3] }
  | _ => none }
def windowsRowsRow : OpenClaim := { program := "ytfompdbhmbdmeaa", sum := "6724aab6c8f6feca63618819a4038a919e7d0c02f2b4f63dcbf34c667826615a", func := "hoistway/hoistwaylaw72.WindowsRows", spec := "windowsRows", plainKeys := false, apart := false }
def WindowsRowsSaid : Prop := windowsRowsRow.holds Try.pinned (OpenSpec.ofChange windowsRowsSpec)

/-- ITS FALSE NEIGHBOUR: 'it returns false'. Refute it at one input. -/
def windowsRowsWrong : ChangeSpec := { name := "windowsRows", fn := fun _ => fun
  | [d1, d2, d3] => { results := [.lit (.bool false)], args := [d1, d2, d3] }
  | _ => none }
def WindowsRowsWrongFalsely : Prop := windowsRowsRow.holds Try.pinned (OpenSpec.ofChange windowsRowsWrong)

/-- 'hoistwaylaw19.LexerPlaces': WHATEVER THE INPUT: true; the input reads as it did. -/
def lexerPlacesSpec : ChangeSpec := { name := "lexerPlaces", fn := fun _ => fun
  | [d1, d2, d3] => { results := [.lit (.bool true)], args := [d1, d2, d3] }
  | _ => none }
def lexerPlacesRow : OpenClaim := { program := "ytfompdbhmbdmeaa", sum := "6724aab6c8f6feca63618819a4038a919e7d0c02f2b4f63dcbf34c667826615a", func := "hoistway/hoistwaylaw19.LexerPlaces", spec := "lexerPlaces", unfollowed := true, recurses := true, plainKeys := false, apart := false }
def LexerPlacesSaid : Prop := lexerPlacesRow.holds Try.pinned (OpenSpec.ofChange lexerPlacesSpec)

/-- ITS FALSE NEIGHBOUR: 'it returns false'. Refute it at one input. -/
def lexerPlacesWrong : ChangeSpec := { name := "lexerPlaces", fn := fun _ => fun
  | [d1, d2, d3] => { results := [.lit (.bool false)], args := [d1, d2, d3] }
  | _ => none }
def LexerPlacesWrongFalsely : Prop := lexerPlacesRow.holds Try.pinned (OpenSpec.ofChange lexerPlacesWrong)

/-- 'hoistwaylaw19.LexerWithin': WHATEVER THE INPUT: true; the input reads as it did. -/
def lexerWithinSpec : ChangeSpec := { name := "lexerWithin", fn := fun _ => fun
  | [d] => { results := [.lit (.bool true)], args := [d] }
  | _ => none }
def lexerWithinRow : OpenClaim := { program := "ytfompdbhmbdmeaa", sum := "6724aab6c8f6feca63618819a4038a919e7d0c02f2b4f63dcbf34c667826615a", func := "hoistway/hoistwaylaw19.LexerWithin", spec := "lexerWithin", unfollowed := true, recurses := true, plainKeys := false, apart := false }
def LexerWithinSaid : Prop := lexerWithinRow.holds Try.pinned (OpenSpec.ofChange lexerWithinSpec)

/-- ITS FALSE NEIGHBOUR: 'it returns false'. Refute it at one input. -/
def lexerWithinWrong : ChangeSpec := { name := "lexerWithin", fn := fun _ => fun
  | [d] => { results := [.lit (.bool false)], args := [d] }
  | _ => none }
def LexerWithinWrongFalsely : Prop := lexerWithinRow.holds Try.pinned (OpenSpec.ofChange lexerWithinWrong)

/-- 'hoistwaylaw19.LexerScans': WHATEVER THE INPUT: true; the input reads as it did. -/
def lexerScansSpec : ChangeSpec := { name := "lexerScans", fn := fun _ => fun
  | [d] => { results := [.lit (.bool true)], args := [d] }
  | _ => none }
def lexerScansRow : OpenClaim := { program := "ytfompdbhmbdmeaa", sum := "6724aab6c8f6feca63618819a4038a919e7d0c02f2b4f63dcbf34c667826615a", func := "hoistway/hoistwaylaw19.LexerScans", spec := "lexerScans", unfollowed := true, recurses := true, plainKeys := false, apart := false }
def LexerScansSaid : Prop := lexerScansRow.holds Try.pinned (OpenSpec.ofChange lexerScansSpec)

/-- ITS FALSE NEIGHBOUR: 'it returns false'. Refute it at one input. -/
def lexerScansWrong : ChangeSpec := { name := "lexerScans", fn := fun _ => fun
  | [d] => { results := [.lit (.bool false)], args := [d] }
  | _ => none }
def LexerScansWrongFalsely : Prop := lexerScansRow.holds Try.pinned (OpenSpec.ofChange lexerScansWrong)

/-- 'hoistwaylaw27.ShowTexts': WHATEVER THE INPUT: true; the input reads as it did. -/
def showTextsSpec : ChangeSpec := { name := "showTexts", fn := fun _ => fun
  | [d1, d2] => { results := [.lit (.bool true)], args := [d1, d2] }
  | _ => none }
def showTextsRow : OpenClaim := { program := "ytfompdbhmbdmeaa", sum := "6724aab6c8f6feca63618819a4038a919e7d0c02f2b4f63dcbf34c667826615a", func := "hoistway/hoistwaylaw27.ShowTexts", spec := "showTexts", inPlace := ["internal/abi.NoEscape"], recurses := true, plainKeys := false, apart := false }
def ShowTextsSaid : Prop := showTextsRow.holds Try.pinned (OpenSpec.ofChange showTextsSpec)

/-- ITS FALSE NEIGHBOUR: 'it returns false'. Refute it at one input. -/
def showTextsWrong : ChangeSpec := { name := "showTexts", fn := fun _ => fun
  | [d1, d2] => { results := [.lit (.bool false)], args := [d1, d2] }
  | _ => none }
def ShowTextsWrongFalsely : Prop := showTextsRow.holds Try.pinned (OpenSpec.ofChange showTextsWrong)

/- THE SECOND FORM. 'bulk': how many values and letters a reading holds, each counted each time it is reached (what is shared counts as often as it is met; a slice's spare places count too). A statement '..UptoSaid' is the law's where the arguments, and the package variables that the reading takes, are together of bulk at most 1048576: NARROWER than '..Said'. Prove '..Said' where nothing that the law and all that it calls make is longer than what came in: it says more and counts as full. Else prove '..UptoSaid'. A law counts once. -/
mutual
def uptoBulk {H : Type} : DataW H → Nat
  | .lit (.string bytes) => bytes.length + 1
  | .lit _ => 1
  | .nil => 1
  | .ptr d => uptoBulk d + 1
  | .slice elems spare => uptoBulkAll elems + uptoBulkAll spare + 1
  | .agg parts => uptoBulkAll parts + 1
  | .iface _ d => uptoBulk d + 1
  | .map entries => uptoBulkEntries entries + 1
  | .held _ => 1
def uptoBulkAll {H : Type} : List (DataW H) → Nat
  | [] => 0
  | d :: r => uptoBulk d + uptoBulkAll r
def uptoBulkEntries {H : Type} : List (Lit × DataW H) → Nat
  | [] => 0
  | x :: r => uptoBulkEntry x + uptoBulkEntries r
def uptoBulkEntry {H : Type} : Lit × DataW H → Nat
  | (.string bytes, d) => bytes.length + uptoBulk d + 1
  | (_, d) => uptoBulk d + 1
 end
def uptoSmall : (H : Type) → List (DataW H) → Bool := fun _ ds => decide (uptoBulkAll ds ≤ 1048576)
def OpenSpec.upto (s : _root_.Go.ChangeSpec) : _root_.Go.OpenSpec := { _root_.Go.OpenSpec.ofChange s with cond := some uptoSmall }

/-- 'hoistwaylaw33.SectorShares', WHERE WHAT IT READS IS OF BULK AT MOST 1048576: true; the input reads as it did. -/
def sectorSharesUptoRow : OpenClaim := { program := "ytfompdbhmbdmeaa", sum := "6724aab6c8f6feca63618819a4038a919e7d0c02f2b4f63dcbf34c667826615a", func := "hoistway/hoistwaylaw33.SectorShares", spec := "sectorShares", plainKeys := false, apart := false, narrowed := true }
def SectorSharesUptoSaid : Prop := sectorSharesUptoRow.holds Try.pinned (OpenSpec.upto sectorSharesSpec)

/-- 'hoistwaylaw51.ReplayStories', WHERE WHAT IT READS IS OF BULK AT MOST 1048576: true; the input reads as it did. -/
def replayStoriesUptoRow : OpenClaim := { program := "ytfompdbhmbdmeaa", sum := "6724aab6c8f6feca63618819a4038a919e7d0c02f2b4f63dcbf34c667826615a", func := "hoistway/hoistwaylaw51.ReplayStories", spec := "replayStories", recurses := true, plainKeys := false, apart := false, narrowed := true }
def ReplayStoriesUptoSaid : Prop := replayStoriesUptoRow.holds Try.pinned (OpenSpec.upto replayStoriesSpec)

/-- 'hoistwaylaw07.GridOrder', WHERE WHAT IT READS IS OF BULK AT MOST 1048576: true; the input reads as it did. -/
def gridOrderUptoRow : OpenClaim := { program := "ytfompdbhmbdmeaa", sum := "6724aab6c8f6feca63618819a4038a919e7d0c02f2b4f63dcbf34c667826615a", func := "hoistway/hoistwaylaw07.GridOrder", spec := "gridOrder", plainKeys := false, apart := false, narrowed := true }
def GridOrderUptoSaid : Prop := gridOrderUptoRow.holds Try.pinned (OpenSpec.upto gridOrderSpec)

/-- 'hoistwaylaw58.ObserveKinds', WHERE WHAT IT READS IS OF BULK AT MOST 1048576: true; the input reads as it did. -/
def observeKindsUptoRow : OpenClaim := { program := "ytfompdbhmbdmeaa", sum := "6724aab6c8f6feca63618819a4038a919e7d0c02f2b4f63dcbf34c667826615a", func := "hoistway/hoistwaylaw58.ObserveKinds", spec := "observeKinds", plainKeys := false, apart := false, narrowed := true }
def ObserveKindsUptoSaid : Prop := observeKindsUptoRow.holds Try.pinned (OpenSpec.upto observeKindsSpec)

/-- 'hoistwaylaw72.WindowsSums', WHERE WHAT IT READS IS OF BULK AT MOST 1048576: true; the input reads as it did. -/
def windowsSumsUptoRow : OpenClaim := { program := "ytfompdbhmbdmeaa", sum := "6724aab6c8f6feca63618819a4038a919e7d0c02f2b4f63dcbf34c667826615a", func := "hoistway/hoistwaylaw72.WindowsSums", spec := "windowsSums", plainKeys := false, apart := false, narrowed := true }
def WindowsSumsUptoSaid : Prop := windowsSumsUptoRow.holds Try.pinned (OpenSpec.upto windowsSumsSpec)

/-- 'hoistwaylaw20.VetBounds', WHERE WHAT IT READS IS OF BULK AT MOST 1048576: true; the input reads as it did. -/
def vetBoundsUptoRow : OpenClaim := { program := "ytfompdbhmbdmeaa", sum := "6724aab6c8f6feca63618819a4038a919e7d0c02f2b4f63dcbf34c667826615a", func := "hoistway/hoistwaylaw20.VetBounds", spec := "vetBounds", plainKeys := false, apart := false, narrowed := true }
def VetBoundsUptoSaid : Prop := vetBoundsUptoRow.holds Try.pinned (OpenSpec.upto vetBoundsSpec)

/-- 'hoistwaylaw20.VetChecks', WHERE WHAT IT READS IS OF BULK AT MOST 1048576: true; the input reads as it did. -/
def vetChecksUptoRow : OpenClaim := { program := "ytfompdbhmbdmeaa", sum := "6724aab6c8f6feca63618819a4038a919e7d0c02f2b4f63dcbf34c667826615a", func := "hoistway/hoistwaylaw20.VetChecks", spec := "vetChecks", plainKeys := false, apart := false, narrowed := true }
def VetChecksUptoSaid : Prop := vetChecksUptoRow.holds Try.pinned (OpenSpec.upto vetChecksSpec)

/-- 'hoistwaylaw72.WindowsRows', WHERE WHAT IT READS IS OF BULK AT MOST 1048576: true; the input reads as it did. -/
def windowsRowsUptoRow : OpenClaim := { program := "ytfompdbhmbdmeaa", sum := "6724aab6c8f6feca63618819a4038a919e7d0c02f2b4f63dcbf34c667826615a", func := "hoistway/hoistwaylaw72.WindowsRows", spec := "windowsRows", plainKeys := false, apart := false, narrowed := true }
def WindowsRowsUptoSaid : Prop := windowsRowsUptoRow.holds Try.pinned (OpenSpec.upto windowsRowsSpec)

/-- 'hoistwaylaw19.LexerPlaces', WHERE WHAT IT READS IS OF BULK AT MOST 1048576: true; the input reads as it did. -/
def lexerPlacesUptoRow : OpenClaim := { program := "ytfompdbhmbdmeaa", sum := "6724aab6c8f6feca63618819a4038a919e7d0c02f2b4f63dcbf34c667826615a", func := "hoistway/hoistwaylaw19.LexerPlaces", spec := "lexerPlaces", unfollowed := true, recurses := true, plainKeys := false, apart := false, narrowed := true }
def LexerPlacesUptoSaid : Prop := lexerPlacesUptoRow.holds Try.pinned (OpenSpec.upto lexerPlacesSpec)

/-- 'hoistwaylaw19.LexerWithin', WHERE WHAT IT READS IS OF BULK AT MOST 1048576: true; the input reads as it did. -/
def lexerWithinUptoRow : OpenClaim := { program := "ytfompdbhmbdmeaa", sum := "6724aab6c8f6feca63618819a4038a919e7d0c02f2b4f63dcbf34c667826615a", func := "hoistway/hoistwaylaw19.LexerWithin", spec := "lexerWithin", unfollowed := true, recurses := true, plainKeys := false, apart := false, narrowed := true }
def LexerWithinUptoSaid : Prop := lexerWithinUptoRow.holds Try.pinned (OpenSpec.upto lexerWithinSpec)

/-- 'hoistwaylaw19.LexerScans', WHERE WHAT IT READS IS OF BULK AT MOST 1048576: true; the input reads as it did. -/
def lexerScansUptoRow : OpenClaim := { program := "ytfompdbhmbdmeaa", sum := "6724aab6c8f6feca63618819a4038a919e7d0c02f2b4f63dcbf34c667826615a", func := "hoistway/hoistwaylaw19.LexerScans", spec := "lexerScans", unfollowed := true, recurses := true, plainKeys := false, apart := false, narrowed := true }
def LexerScansUptoSaid : Prop := lexerScansUptoRow.holds Try.pinned (OpenSpec.upto lexerScansSpec)

/-- 'hoistwaylaw27.ShowTexts', WHERE WHAT IT READS IS OF BULK AT MOST 1048576: true; the input reads as it did. -/
def showTextsUptoRow : OpenClaim := { program := "ytfompdbhmbdmeaa", sum := "6724aab6c8f6feca63618819a4038a919e7d0c02f2b4f63dcbf34c667826615a", func := "hoistway/hoistwaylaw27.ShowTexts", spec := "showTexts", inPlace := ["internal/abi.NoEscape"], recurses := true, plainKeys := false, apart := false, narrowed := true }
def ShowTextsUptoSaid : Prop := showTextsUptoRow.holds Try.pinned (OpenSpec.upto showTextsSpec)

end Rows
end Go.Proofs.Ytfompdbhmbdmeaa
