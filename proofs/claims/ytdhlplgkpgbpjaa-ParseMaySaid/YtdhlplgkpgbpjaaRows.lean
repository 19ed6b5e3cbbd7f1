/-
  No cell of these rows narrows 'for every input' (looked for: loops, veiled, ifaces, maps, wideKeys, modest, calm, conditions, laid).
  DERIVED. THE GIVEN ROWS OF THIS SEAT. 10 by the template 'for every input the law returns true; each argument reads behind the call as it read before'; 0 by the template 'total and deterministic' (their statements: YtdhlplgkpgbpjaaTotals.lean).
  GIVEN WITH THE SEED: the statements are not yours to turn. If you find one false, say at which input.
  Laid BY PROGRAM, IN A SANDBOX (cutbox-rows.mjs): the forced cells as the released guide's own fill.sh prints them over the translation 0268c30d4d5f82a5… (all of the seat's roots in one cut). By AI agents, Wed Nov 11 2026. No macro, syntax, notation, axiom, sorry.
-/
import Derived.Test.YtdhlplgkpgbpjaaChecked
import GoSem.Claim
import GoSem.ClaimJoined
import GoSem.ClaimMapViews
import Derived.JoinedTies
import Derived.KernelRfl
namespace Go.Proofs.Ytdhlplgkpgbpjaa
/- THE CELL 'sum', in the pinned program and in every row, IS THE sha256 OF THE DUMP (.gsa) THAT YtdhlplgkpgbpjaaProg.lean LOADS. Nothing in Lean hashes anything: it is a label: what it is worth is what the hold of that sum in a sandbox is worth. -/
noncomputable def Try.pinned : Pinned := { name := "ytdhlplgkpgbpjaa", sum := "0268c30d4d5f82a515b07f18be5e5464efa57c2e369564824896defc849c75a7", checked := Try.checked }
namespace Rows
def none {H : Type} : Left H := { results := [], args := [] }

/-- 'hoistwaylaw66.StoryReads': WHATEVER THE INPUT: true; the input reads as it did. -/
def storyReadsSpec : ChangeSpec := { name := "storyReads", fn := fun _ => fun
  | [d] => { results := [.lit (.bool true)], args := [d] }
  | _ => none }
def storyReadsRow : OpenClaim := { program := "ytdhlplgkpgbpjaa", sum := "0268c30d4d5f82a515b07f18be5e5464efa57c2e369564824896defc849c75a7", func := "hoistway/hoistwaylaw66.StoryReads", spec := "storyReads", inPlace := ["internal/abi.NoEscape"], unfollowed := true, recurses := true, apart := false }
def StoryReadsSaid : Prop := storyReadsRow.holds Try.pinned (OpenSpec.ofChange storyReadsSpec)

/-- ITS FALSE NEIGHBOUR: 'it returns false'. Refute it at one input. -/
def storyReadsWrong : ChangeSpec := { name := "storyReads", fn := fun _ => fun
  | [d] => { results := [.lit (.bool false)], args := [d] }
  | _ => none }
def StoryReadsWrongFalsely : Prop := storyReadsRow.holds Try.pinned (OpenSpec.ofChange storyReadsWrong)

/-- 'hoistwaylaw48.AxiomWays': WHATEVER THE INPUT: true; the input reads as it did. -/
def axiomWaysSpec : ChangeSpec := { name := "axiomWays", fn := fun _ => fun
  | [d1, d2] => { results := [.lit (.bool true)], args := [d1, d2] }
  | _ => none }
def axiomWaysRow : OpenClaim := { program := "ytdhlplgkpgbpjaa", sum := "0268c30d4d5f82a515b07f18be5e5464efa57c2e369564824896defc849c75a7", func := "hoistway/hoistwaylaw48.AxiomWays", spec := "axiomWays", apart := false }
def AxiomWaysSaid : Prop := axiomWaysRow.holds Try.pinned (OpenSpec.ofChange axiomWaysSpec)

/-- ITS FALSE NEIGHBOUR: 'it returns false'. Refute it at one input. -/
def axiomWaysWrong : ChangeSpec := { name := "axiomWays", fn := fun _ => fun
  | [d1, d2] => { results := [.lit (.bool false)], args := [d1, d2] }
  | _ => none }
def AxiomWaysWrongFalsely : Prop := axiomWaysRow.holds Try.pinned (OpenSpec.ofChange axiomWaysWrong)

/-- 'hoistwaylaw48.AxiomChecks': WHATEVER THE INPUT: true; the input reads as it did. -/
def axiomChecksSpec : ChangeSpec := { name := "axiomChecks", fn := fun _ => fun
  | [d1, d2, d3] => { results := [.lit (.bool true)], args := [d1, d2, d3] }
  | _ => none }
def axiomChecksRow : OpenClaim := { program := "ytdhlplgkpgbpjaa", sum := "0268c30d4d5f82a515b07f18be5e5464efa57c2e369564824896defc849c75a7", func := "hoistway/hoistwaylaw48.AxiomChecks", spec := "axiomChecks", apart := false }
def AxiomChecksSaid : Prop := axiomChecksRow.holds Try.pinned (OpenSpec.ofChange axiomChecksSpec)

/-- ITS FALSE NEIGHBOUR: 'it returns false'. Refute it at one input. -/
def axiomChecksWrong : ChangeSpec := { name := "axiomChecks", fn := fun _ => fun
  | [d1, d2, d3] => { results := [.lit (.bool false)], args := [d1, d2, d3] }
  | _ => none }
def AxiomChecksWrongFalsely : Prop := axiomChecksRow.holds Try.pinned (OpenSpec.ofChange axiomChecksWrong)

/-- 'hoistwaylaw59.GoalTexts': WHATEVER THE INPUT: true; the input reads as it did. -/
def goalTextsSpec : ChangeSpec := { name := "goalTexts", fn := fun _ => fun
  | [d] => { results := [.lit (.bool true)], args := [d] }
  | _ => none }
def goalTextsRow : OpenClaim := { program := "ytdhlplgkpgbpjaa", sum := "0268c30d4d5f82a515b07f18be5e5464efa57c2e369564824896defc849c75a7", func := "hoistway/hoistwaylaw59.GoalTexts", spec := "goalTexts", inPlace := ["internal/abi.NoEscape"], unfollowed := true, recurses := true, apart := false }
def GoalTextsSaid : Prop := goalTextsRow.holds Try.pinned (OpenSpec.ofChange goalTextsSpec)

/-- ITS FALSE NEIGHBOUR: 'it returns false'. Refute it at one input. -/
def goalTextsWrong : ChangeSpec := { name := "goalTexts", fn := fun _ => fun
  | [d] => { results := [.lit (.bool false)], args := [d] }
  | _ => none }
def GoalTextsWrongFalsely : Prop := goalTextsRow.holds Try.pinned (OpenSpec.ofChange goalTextsWrong)

/-- 'hoistwaylaw59.GoalReads': WHATEVER THE INPUT: true; the input reads as it did. -/
def goalReadsSpec : ChangeSpec := { name := "goalReads", fn := fun _ => fun
  | [d] => { results := [.lit (.bool true)], args := [d] }
  | _ => none }
def goalReadsRow : OpenClaim := { program := "ytdhlplgkpgbpjaa", sum := "0268c30d4d5f82a515b07f18be5e5464efa57c2e369564824896defc849c75a7", func := "hoistway/hoistwaylaw59.GoalReads", spec := "goalReads", inPlace := ["internal/abi.NoEscape"], unfollowed := true, recurses := true, apart := false }
def GoalReadsSaid : Prop := goalReadsRow.holds Try.pinned (OpenSpec.ofChange goalReadsSpec)

/-- ITS FALSE NEIGHBOUR: 'it returns false'. Refute it at one input. -/
def goalReadsWrong : ChangeSpec := { name := "goalReads", fn := fun _ => fun
  | [d] => { results := [.lit (.bool false)], args := [d] }
  | _ => none }
def GoalReadsWrongFalsely : Prop := goalReadsRow.holds Try.pinned (OpenSpec.ofChange goalReadsWrong)

/-- 'hoistwaylaw66.StoryTexts': WHATEVER THE INPUT: true; the input reads as it did. -/
def storyTextsSpec : ChangeSpec := { name := "storyTexts", fn := fun _ => fun
  | [d1, d2, d3] => { results := [.lit (.bool true)], args := [d1, d2, d3] }
  | _ => none }
def storyTextsRow : OpenClaim := { program := "ytdhlplgkpgbpjaa", sum := "0268c30d4d5f82a515b07f18be5e5464efa57c2e369564824896defc849c75a7", func := "hoistway/hoistwaylaw66.StoryTexts", spec := "storyTexts", inPlace := ["internal/abi.NoEscape"], unfollowed := true, recurses := true, apart := false }
def StoryTextsSaid : Prop := storyTextsRow.holds Try.pinned (OpenSpec.ofChange storyTextsSpec)

/-- ITS FALSE NEIGHBOUR: 'it returns false'. Refute it at one input. -/
def storyTextsWrong : ChangeSpec := { name := "storyTexts", fn := fun _ => fun
  | [d1, d2, d3] => { results := [.lit (.bool false)], args := [d1, d2, d3] }
  | _ => none }
def StoryTextsWrongFalsely : Prop := storyTextsRow.holds Try.pinned (OpenSpec.ofChange storyTextsWrong)

/-- 'hoistwaylaw51.ReplayTells': WHATEVER THE INPUT: true; the input reads as it did. -/
def replayTellsSpec : ChangeSpec := { name := "replayTells", fn := fun _ => fun
  | [d1, d2, d3] => { results := [.lit (.bool true)], args := [d1, d2, d3] }
  | _ => none }
def replayTellsRow : OpenClaim := { program := "ytdhlplgkpgbpjaa", sum := "0268c30d4d5f82a515b07f18be5e5464efa57c2e369564824896defc849c75a7", func := "hoistway/hoistwaylaw51.ReplayTells", spec := "replayTells", unfollowed := true, recurses := true, apart := false }
def ReplayTellsSaid : Prop := replayTellsRow.holds Try.pinned (OpenSpec.ofChange replayTellsSpec)

/-- ITS FALSE NEIGHBOUR: 'it returns false'. Refute it at one input. -/
def replayTellsWrong : ChangeSpec := { name := "replayTells", fn := fun _ => fun
  | [d1, d2, d3] => { results := [.lit (.bool false)], args := [d1, d2, d3] }
  | _ => none }
def ReplayTellsWrongFalsely : Prop := replayTellsRow.holds Try.pinned (OpenSpec.ofChange replayTellsWrong)

/-- 'hoistwaylaw26.ParseTexts': WHATEVER THE INPUT: true; the input reads as it did. -/
def parseTextsSpec : ChangeSpec := { name := "parseTexts", fn := fun _ => fun
  | [d] => { results := [.lit (.bool true)], args := [d] }
  | _ => none }
def parseTextsRow : OpenClaim := { program := "ytdhlplgkpgbpjaa", sum := "0268c30d4d5f82a515b07f18be5e5464efa57c2e369564824896defc849c75a7", func := "hoistway/hoistwaylaw26.ParseTexts", spec := "parseTexts", unfollowed := true, recurses := true, apart := false }
def ParseTextsSaid : Prop := parseTextsRow.holds Try.pinned (OpenSpec.ofChange parseTextsSpec)

/-- ITS FALSE NEIGHBOUR: 'it returns false'. Refute it at one input. -/
def parseTextsWrong : ChangeSpec := { name := "parseTexts", fn := fun _ => fun
  | [d] => { results := [.lit (.bool false)], args := [d] }
  | _ => none }
def ParseTextsWrongFalsely : Prop := parseTextsRow.holds Try.pinned (OpenSpec.ofChange parseTextsWrong)

/-- 'hoistwaylaw26.ParseMay': WHATEVER THE INPUT: true; the input reads as it did. -/
def parseMaySpec : ChangeSpec := { name := "parseMay", fn := fun _ => fun
  | [d] => { results := [.lit (.bool true)], args := [d] }
  | _ => none }
def parseMayRow : OpenClaim := { program := "ytdhlplgkpgbpjaa", sum := "0268c30d4d5f82a515b07f18be5e5464efa57c2e369564824896defc849c75a7", func := "hoistway/hoistwaylaw26.ParseMay", spec := "parseMay", unfollowed := true, recurses := true, apart := false }
def ParseMaySaid : Prop := parseMayRow.holds Try.pinned (OpenSpec.ofChange parseMaySpec)

/-- ITS FALSE NEIGHBOUR: 'it returns false'. Refute it at one input. -/
def parseMayWrong : ChangeSpec := { name := "parseMay", fn := fun _ => fun
  | [d] => { results := [.lit (.bool false)], args := [d] }
  | _ => none }
def ParseMayWrongFalsely : Prop := parseMayRow.holds Try.pinned (OpenSpec.ofChange parseMayWrong)

/-- 'hoistwaylaw26.ParseWords': WHATEVER THE INPUT: true; the input reads as it did. -/
def parseWordsSpec : ChangeSpec := { name := "parseWords", fn := fun _ => fun
  | [d] => { results := [.lit (.bool true)], args := [d] }
  | _ => none }
def parseWordsRow : OpenClaim := { program := "ytdhlplgkpgbpjaa", sum := "0268c30d4d5f82a515b07f18be5e5464efa57c2e369564824896defc849c75a7", func := "hoistway/hoistwaylaw26.ParseWords", spec := "parseWords", unfollowed := true, recurses := true, apart := false }
def ParseWordsSaid : Prop := parseWordsRow.holds Try.pinned (OpenSpec.ofChange parseWordsSpec)

/-- ITS FALSE NEIGHBOUR: 'it returns false'. Refute it at one input. -/
def parseWordsWrong : ChangeSpec := { name := "parseWords", fn := fun _ => fun
  | [d] => { results := [.lit (.bool false)], args := [d] }
  | _ => none }
def ParseWordsWrongFalsely : Prop := parseWordsRow.holds Try.pinned (OpenSpec.ofChange parseWordsWrong)

/- THE SECOND FORM. 'bulk': how many values and letters a reading holds, each counted each time it is reached (what is shared counts as often as it is met; a slice's spare places count too). A statement '..UptoSaid' is the law's where the arguments, and the package variables that the reading takes, are together of bulk at most 1048576: NARROWER than '..Said'. Prove '..Said' where nothing that the law and all that it calls make is longer than what came in: it says more and counts as full. Else prove '..UptoSaid'. A law counts once. -/
mutual
def uptoBulk {H : Type} : DataW H → Nat
  | .lit (.string bytes) => bytes.length + 1
  | .lit _ => 1
  | .nil => 1
  | .ptr d => uptoBulk d + 1
  | .slice elems spare => uptoBulkAll elems + uptoBulkAll spare + 1
  | .agg parts => uptoBulkAll parts + 1
  | .iface _ d => uptoBulk d + 1
  | .map entries => uptoBulkEntries entries + 1
  | .held _ => 1
def uptoBulkAll {H : Type} : List (DataW H) → Nat
  | [] => 0
  | d :: r => uptoBulk d + uptoBulkAll r
def uptoBulkEntries {H : Type} : List (Lit × DataW H) → Nat
  | [] => 0
  | x :: r => uptoBulkEntry x + uptoBulkEntries r
def uptoBulkEntry {H : Type} : Lit × DataW H → Nat
  | (.string bytes, d) => bytes.length + uptoBulk d + 1
  | (_, d) => uptoBulk d + 1
 end
def uptoSmall : (H : Type) → List (DataW H) → Bool := fun _ ds => decide (uptoBulkAll ds ≤ 1048576)
def OpenSpec.upto (s : _root_.Go.ChangeSpec) : _root_.Go.OpenSpec := { _root_.Go.OpenSpec.ofChange s with cond := some uptoSmall }

/-- 'hoistwaylaw66.StoryReads', WHERE WHAT IT READS IS OF BULK AT MOST 1048576: true; the input reads as it did. -/
def storyReadsUptoRow : OpenClaim := { program := "ytdhlplgkpgbpjaa", sum := "0268c30d4d5f82a515b07f18be5e5464efa57c2e369564824896defc849c75a7", func := "hoistway/hoistwaylaw66.StoryReads", spec := "storyReads", inPlace := ["internal/abi.NoEscape"], unfollowed := true, recurses := true, apart := false, narrowed := true }
def StoryReadsUptoSaid : Prop := storyReadsUptoRow.holds Try.pinned (OpenSpec.upto storyReadsSpec)

/-- 'hoistwaylaw48.AxiomWays', WHERE WHAT IT READS IS OF BULK AT MOST 1048576: true; the input reads as it did. -/
def axiomWaysUptoRow : OpenClaim := { program := "ytdhlplgkpgbpjaa", sum := "0268c30d4d5f82a515b07f18be5e5464efa57c2e369564824896defc849c75a7", func := "hoistway/hoistwaylaw48.AxiomWays", spec := "axiomWays", apart := false, narrowed := true }
def AxiomWaysUptoSaid : Prop := axiomWaysUptoRow.holds Try.pinned (OpenSpec.upto axiomWaysSpec)

/-- 'hoistwaylaw48.AxiomChecks', WHERE WHAT IT READS IS OF BULK AT MOST 1048576: true; the input reads as it did. -/
def axiomChecksUptoRow : OpenClaim := { program := "ytdhlplgkpgbpjaa", sum := "0268c30d4d5f82a515b07f18be5e5464efa57c2e369564824896defc849c75a7", func := "hoistway/hoistwaylaw48.AxiomChecks", spec := "axiomChecks", apart := false, narrowed := true }
def AxiomChecksUptoSaid : Prop := axiomChecksUptoRow.holds Try.pinned (OpenSpec.upto axiomChecksSpec)

/-- 'hoistwaylaw59.GoalTexts', WHERE WHAT IT READS IS OF BULK AT MOST 1048576: true; the input reads as it did. -/
def goalTextsUptoRow : OpenClaim := { program := "ytdhlplgkpgbpjaa", sum := "0268c30d4d5f82a515b07f18be5e5464efa57c2e369564824896defc849c75a7", func := "hoistway/hoistwaylaw59.GoalTexts", spec := "goalTexts", inPlace := ["internal/abi.NoEscape"], unfollowed := true, recurses := true, apart := false, narrowed := true }
def GoalTextsUptoSaid : Prop := goalTextsUptoRow.holds Try.pinned (OpenSpec.upto goalTextsSpec)

/-- 'hoistwaylaw59.GoalReads', WHERE WHAT IT READS IS OF BULK AT MOST 1048576: true; the input reads as it did. -/
def goalReadsUptoRow : OpenClaim := { program := "ytdhlplgkpgbpjaa", sum := "0268c30d4d5f82a515b07f18be5e5464efa57c2e369564824896defc849c75a7", func := "hoistway/hoistwaylaw59.GoalReads", spec := "goalReads", inPlace := ["internal/abi.NoEscape"], unfollowed := true, recurses := true, apart := false, narrowed := true }
def GoalReadsUptoSaid : Prop := goalReadsUptoRow.holds Try.pinned (OpenSpec.upto goalReadsSpec)

/-- 'hoistwaylaw66.StoryTexts', WHERE WHAT IT READS IS OF BULK AT MOST 1048576: true; the input reads as it did. -/
def storyTextsUptoRow : OpenClaim := { program := "ytdhlplgkpgbpjaa", sum := "0268c30d4d5f82a515b07f18be5e5464efa57c2e369564824896defc849c75a7", func := "hoistway/hoistwaylaw66.StoryTexts", spec := "storyTexts", inPlace := ["internal/abi.NoEscape"], unfollowed := true, recurses := true, apart := false, narrowed := true }
def StoryTextsUptoSaid : Prop := storyTextsUptoRow.holds Try.pinned (OpenSpec.upto storyTextsSpec)

/-- 'hoistwaylaw51.ReplayTells', WHERE WHAT IT READS IS OF BULK AT MOST 1048576: true; the input reads as it did. -/
def replayTellsUptoRow : OpenClaim := { program := "ytdhlplgkpgbpjaa", sum := "0268c30d4d5f82a515b07f18be5e5464efa57c2e369564824896defc849c75a7", func := "hoistway/hoistwaylaw51.ReplayTells", spec := "replayTells", unfollowed := true, recurses := true, apart := false, narrowed := true }
def ReplayTellsUptoSaid : Prop := replayTellsUptoRow.holds Try.pinned (OpenSpec.upto replayTellsSpec)

/-- 'hoistwaylaw26.ParseTexts', WHERE WHAT IT READS IS OF BULK AT MOST 1048576: true; the input reads as it did. -/
def parseTextsUptoRow : OpenClaim := { program := "ytdhlplgkpgbpjaa", sum := "0268c30d4d5f82a515b07f18be5e5464efa57c2e369564824896defc849c75a7", func := "hoistway/hoistwaylaw26.ParseTexts", spec := "parseTexts", unfollowed := true, recurses := true, apart := false, narrowed := true }
def ParseTextsUptoSaid : Prop := parseTextsUptoRow.holds Try.pinned (OpenSpec.upto parseTextsSpec)

/-- 'hoistwaylaw26.ParseMay', WHERE WHAT IT READS IS OF BULK AT MOST 1048576: true; the input reads as it did. -/
def parseMayUptoRow : OpenClaim := { program := "ytdhlplgkpgbpjaa", sum := "0268c30d4d5f82a515b07f18be5e5464efa57c2e369564824896defc849c75a7", func := "hoistway/hoistwaylaw26.ParseMay", spec := "parseMay", unfollowed := true, recurses := true, apart := false, narrowed := true }
def ParseMayUptoSaid : Prop := parseMayUptoRow.holds Try.pinned (OpenSpec.upto parseMaySpec)

/-- 'hoistwaylaw26.ParseWords', WHERE WHAT IT READS IS OF BULK AT MOST 1048576: true; the input reads as it did. -/
def parseWordsUptoRow : OpenClaim := { program := "ytdhlplgkpgbpjaa", sum := "0268c30d4d5f82a515b07f18be5e5464efa57c2e369564824896defc849c75a7", func := "hoistway/hoistwaylaw26.ParseWords", spec := "parseWords", unfollowed := true, recurses := true, apart := false, narrowed := true }
def ParseWordsUptoSaid : Prop := parseWordsUptoRow.holds Try.pinned (OpenSpec.upto parseWordsSpec)

end Rows
end Go.Proofs.Ytdhlplgkpgbpjaa
