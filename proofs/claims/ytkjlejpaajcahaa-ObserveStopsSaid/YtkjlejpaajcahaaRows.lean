/-
  No cell of these rows narrows 'for every input' (looked for: loops, veiled, ifaces, maps, wideKeys, modest, calm, conditions, laid).
  DERIVED. THE GIVEN ROWS OF THIS SEAT. 5 by the template 'for every input the law returns true; each argument reads behind the call as it read before'; 0 by the template 'total and deterministic' (their statements: YtkjlejpaajcahaaTotals.lean).
  GIVEN WITH THE SEED: the statements are not yours to turn. If you find one false, say at which input.
  Laid BY PROGRAM, IN A SANDBOX (cutbox-rows.mjs): the forced cells as the released guide's own fill.sh prints them over the translation 31fec22be0672a59… (all of the seat's roots in one cut). By AI agents, Wed Nov 11 2026. No macro, syntax, notation, axiom, sorry.
-/
import Derived.Test.YtkjlejpaajcahaaChecked
import GoSem.Claim
import GoSem.ClaimJoined
import GoSem.ClaimMapViews
import Derived.JoinedTies
import Derived.KernelRfl
namespace Go.Proofs.Ytkjlejpaajcahaa
/- THE CELL 'sum', in the pinned program and in every row, IS THE sha256 OF THE DUMP (.gsa) THAT YtkjlejpaajcahaaProg.lean LOADS. Nothing in Lean hashes anything: it is a label: what it is worth is what the hold of that sum in a sandbox is worth. -/
noncomputable def Try.pinned : Pinned := { name := "ytkjlejpaajcahaa", sum := "31fec22be0672a595659edfd4648ff148be08ca97e7bc3298b9fab492c8ce686", checked := Try.checked }
namespace Rows
def none {H : Type} : Left H := { results := [], args := [] }

/-- 'hoistwaylaw66.StoryTells': WHATEVER THE INPUT: true; the input reads as it did. -/
def storyTellsSpec : ChangeSpec := { name := "storyTells", fn := fun _ => fun
  | [d1, d2] => { results := [.lit (.bool true)], args := [d1, d2] }
  | _ => none }
def storyTellsRow : OpenClaim := { program := "ytkjlejpaajcahaa", sum := "31fec22be0672a595659edfd4648ff148be08ca97e7bc3298b9fab492c8ce686", func := "hoistway/hoistwaylaw66.StoryTells", spec := "storyTells", inPlace := ["internal/abi.NoEscape"], unfollowed := true, recurses := true, plainKeys := false, apart := false }
def StoryTellsSaid : Prop := storyTellsRow.holds Try.pinned (OpenSpec.ofChange storyTellsSpec)

/-- ITS FALSE NEIGHBOUR: 'it returns false'. Refute it at one input. -/
def storyTellsWrong : ChangeSpec := { name := "storyTells", fn := fun _ => fun
  | [d1, d2] => { results := [.lit (.bool false)], args := [d1, d2] }
  | _ => none }
def StoryTellsWrongFalsely : Prop := storyTellsRow.holds Try.pinned (OpenSpec.ofChange storyTellsWrong)

/-- 'hoistwaylaw58.ObserveStops': WHATEVER THE INPUT: true; the input reads as it did. -/
def observeStopsSpec : ChangeSpec := { name := "observeStops", fn := fun _ => fun
  | [d1, d2, d3] => { results := [.lit (.bool true)], args := [d1, d2, d3] }
  | _ => none }
def observeStopsRow : OpenClaim := { program := "ytkjlejpaajcahaa", sum := "31fec22be0672a595659edfd4648ff148be08ca97e7bc3298b9fab492c8ce686", func := "hoistway/hoistwaylaw58.ObserveStops", spec := "observeStops", unfollowed := true, recurses := true, plainKeys := false, apart := false }
def ObserveStopsSaid : Prop := observeStopsRow.holds Try.pinned (OpenSpec.ofChange observeStopsSpec)

/-- ITS FALSE NEIGHBOUR: 'it returns false'. Refute it at one input. -/
def observeStopsWrong : ChangeSpec := { name := "observeStops", fn := fun _ => fun
  | [d1, d2, d3] => { results := [.lit (.bool false)], args := [d1, d2, d3] }
  | _ => none }
def ObserveStopsWrongFalsely : Prop := observeStopsRow.holds Try.pinned (OpenSpec.ofChange observeStopsWrong)

/-- 'hoistwaylaw68.RotaPlays': WHATEVER THE INPUT: true; the input reads as it did. -/
def rotaPlaysSpec : ChangeSpec := { name := "rotaPlays", fn := fun _ => fun
  | [d1, d2] => { results := [.lit (.bool true)], args := [d1, d2] }
  | _ => none }
def rotaPlaysRow : OpenClaim := { program := "ytkjlejpaajcahaa", sum := "31fec22be0672a595659edfd4648ff148be08ca97e7bc3298b9fab492c8ce686", func := "hoistway/hoistwaylaw68.RotaPlays", spec := "rotaPlays", unfollowed := true, recurses := true, plainKeys := false, apart := false }
def RotaPlaysSaid : Prop := rotaPlaysRow.holds Try.pinned (OpenSpec.ofChange rotaPlaysSpec)

/-- ITS FALSE NEIGHBOUR: 'it returns false'. Refute it at one input. -/
def rotaPlaysWrong : ChangeSpec := { name := "rotaPlays", fn := fun _ => fun
  | [d1, d2] => { results := [.lit (.bool false)], args := [d1, d2] }
  | _ => none }
def RotaPlaysWrongFalsely : Prop := rotaPlaysRow.holds Try.pinned (OpenSpec.ofChange rotaPlaysWrong)

/-- 'hoistwaylaw29.QueuePlays': WHATEVER THE INPUT: true; the input reads as it did. -/
def queuePlaysSpec : ChangeSpec := { name := "queuePlays", fn := fun _ => fun
  | [d] => { results := [.lit (.bool true)], args := [d] }
  | _ => none }
def queuePlaysRow : OpenClaim := { program := "ytkjlejpaajcahaa", sum := "31fec22be0672a595659edfd4648ff148be08ca97e7bc3298b9fab492c8ce686", func := "hoistway/hoistwaylaw29.QueuePlays", spec := "queuePlays", unfollowed := true, recurses := true, plainKeys := false, apart := false }
def QueuePlaysSaid : Prop := queuePlaysRow.holds Try.pinned (OpenSpec.ofChange queuePlaysSpec)

/-- ITS FALSE NEIGHBOUR: 'it returns false'. Refute it at one input. -/
def queuePlaysWrong : ChangeSpec := { name := "queuePlays", fn := fun _ => fun
  | [d] => { results := [.lit (.bool false)], args := [d] }
  | _ => none }
def QueuePlaysWrongFalsely : Prop := queuePlaysRow.holds Try.pinned (OpenSpec.ofChange queuePlaysWrong)

/-- 'hoistwaylaw51.ReplayTells': WHATEVER THE INPUT: true; the input reads as it did. -/
def replayTellsSpec : ChangeSpec := { name := "replayTells", fn := fun _ => fun
  | [d1, d2, d3] => { results := [.lit (.bool true)], args := [d1, d2, d3] }
  | _ => none }
def replayTellsRow : OpenClaim := { program := "ytkjlejpaajcahaa", sum := "31fec22be0672a595659edfd4648ff148be08ca97e7bc3298b9fab492c8ce686", func := "hoistway/hoistwaylaw51.ReplayTells", spec := "replayTells", unfollowed := true, recurses := true, plainKeys := false, apart := false }
def ReplayTellsSaid : Prop := replayTellsRow.holds Try.pinned (OpenSpec.ofChange replayTellsSpec)

/-- ITS FALSE NEIGHBOUR: 'it returns false'. Refute it at one input. -/
def replayTellsWrong : ChangeSpec := { name := "replayTells", fn := fun _ => fun
  | [d1, d2, d3] => { results := [.lit (.bool false)], args := [d1, d2, d3] }
  | _ => none }
def ReplayTellsWrongFalsely : Prop := replayTellsRow.holds Try.pinned (OpenSpec.ofChange replayTellsWrong)

/- THE SECOND FORM. 'bulk': how many values and letters a reading holds, each counted each time it is reached (what is shared counts as often as it is met; a slice's spare places count too). A statement '..UptoSaid' is the law's where the arguments, and the package variables that the reading takes, are together of bulk at most 1048576: NARROWER than '..Said'. Prove '..Said' where nothing that the law and all that it calls make is longer than what came in: it says more and counts as full. Else prove '..UptoSaid'. A law counts once. -/
mutual
def uptoBulk {H : Type} : DataW H → Nat
  | .lit (.string bytes) => bytes.length + 1
  | .lit _ => 1
  | .nil => 1
  | .ptr d => uptoBulk d + 1
  | .slice elems spare => uptoBulkAll elems + uptoBulkAll spare + 1
  | .agg parts => uptoBulkAll parts + 1
  | .iface _ d => uptoBulk d + 1
  | .map entries => uptoBulkEntries entries + 1
  | .held _ => 1
def uptoBulkAll {H : Type} : List (DataW H) → Nat
  | [] => 0
  | d :: r => uptoBulk d + uptoBulkAll r
def uptoBulkEntries {H : Type} : List (Lit × DataW H) → Nat
  | [] => 0
  | x :: r => uptoBulkEntry x + uptoBulkEntries r
def uptoBulkEntry {H : Type} : Lit × DataW H → Nat
  | (.string bytes, d) => bytes.length + uptoBulk d + 1
  | (_, d) => uptoBulk d + 1
 end
def uptoSmall : (H : Type) → List (DataW H) → Bool := fun _ ds => decide (uptoBulkAll ds ≤ 1048576)
def OpenSpec.upto (s : _root_.Go.ChangeSpec) : _root_.Go.OpenSpec := { _root_.Go.OpenSpec.ofChange s with cond := some uptoSmall }

/-- 'hoistwaylaw66.StoryTells', WHERE WHAT IT READS IS OF BULK AT MOST 1048576: true; the input reads as it did. -/
def storyTellsUptoRow : OpenClaim := { program := "ytkjlejpaajcahaa", sum := "31fec22be0672a595659edfd4648ff148be08ca97e7bc3298b9fab492c8ce686", func := "hoistway/hoistwaylaw66.StoryTells", spec := "storyTells", inPlace := ["internal/abi.NoEscape"], unfollowed := true, recurses := true, plainKeys := false, apart := false, narrowed := true }
def StoryTellsUptoSaid : Prop := storyTellsUptoRow.holds Try.pinned (OpenSpec.upto storyTellsSpec)

/-- 'hoistwaylaw58.ObserveStops', WHERE WHAT IT READS IS OF BULK AT MOST 1048576: true; the input reads as it did. -/
def observeStopsUptoRow : OpenClaim := { program := "ytkjlejpaajcahaa", sum := "31fec22be0672a595659edfd4648ff148be08ca97e7bc3298b9fab492c8ce686", func := "hoistway/hoistwaylaw58.ObserveStops", spec := "observeStops", unfollowed := true, recurses := true, plainKeys := false, apart := false, narrowed := true }
def ObserveStopsUptoSaid : Prop := observeStopsUptoRow.holds Try.pinned (OpenSpec.upto observeStopsSpec)

/-- 'hoistwaylaw68.RotaPlays', WHERE WHAT IT READS IS OF BULK AT MOST 1048576: true; the input reads as it did. -/
def rotaPlaysUptoRow : OpenClaim := { program := "ytkjlejpaajcahaa", sum := "31fec22be0672a595659edfd4648ff148be08ca97e7bc3298b9fab492c8ce686", func := "hoistway/hoistwaylaw68.RotaPlays", spec := "rotaPlays", unfollowed := true, recurses := true, plainKeys := false, apart := false, narrowed := true }
def RotaPlaysUptoSaid : Prop := rotaPlaysUptoRow.holds Try.pinned (OpenSpec.upto rotaPlaysSpec)

/-- 'hoistwaylaw29.QueuePlays', WHERE WHAT IT READS IS OF BULK AT MOST 1048576: true; the input reads as it did. -/
def queuePlaysUptoRow : OpenClaim := { program := "ytkjlejpaajcahaa", sum := "31fec22be0672a595659edfd4648ff148be08ca97e7bc3298b9fab492c8ce686", func := "hoistway/hoistwaylaw29.QueuePlays", spec := "queuePlays", unfollowed := true, recurses := true, plainKeys := false, apart := false, narrowed := true }
def QueuePlaysUptoSaid : Prop := queuePlaysUptoRow.holds Try.pinned (OpenSpec.upto queuePlaysSpec)

/-- 'hoistwaylaw51.ReplayTells', WHERE WHAT IT READS IS OF BULK AT MOST 1048576: true; the input reads as it did. -/
def replayTellsUptoRow : OpenClaim := { program := "ytkjlejpaajcahaa", sum := "31fec22be0672a595659edfd4648ff148be08ca97e7bc3298b9fab492c8ce686", func := "hoistway/hoistwaylaw51.ReplayTells", spec := "replayTells", unfollowed := true, recurses := true, plainKeys := false, apart := false, narrowed := true }
def ReplayTellsUptoSaid : Prop := replayTellsUptoRow.holds Try.pinned (OpenSpec.upto replayTellsSpec)

end Rows
end Go.Proofs.Ytkjlejpaajcahaa
