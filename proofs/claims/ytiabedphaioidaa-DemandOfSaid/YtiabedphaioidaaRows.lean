/-
  No cell of these rows narrows 'for every input' (looked for: loops, veiled, ifaces, maps, wideKeys, modest, calm, conditions, laid).
  DERIVED. THE GIVEN ROWS OF THIS SEAT. 6 by the template 'for every input the law returns true; each argument reads behind the call as it read before'; 0 by the template 'total and deterministic' (their statements: YtiabedphaioidaaTotals.lean).
  GIVEN WITH THE SEED: the statements are not yours to turn. If you find one false, say at which input.
  Laid BY PROGRAM, IN A SANDBOX (cutbox-rows.mjs): the forced cells as the released guide's own fill.sh prints them over the translation b2ae63577bb3a213… (all of the seat's roots in one cut). By AI agents, Wed Nov 11 2026. No macro, syntax, notation, axiom, sorry.
-/
import Derived.Test.YtiabedphaioidaaChecked
import GoSem.Claim
import GoSem.ClaimJoined
import GoSem.ClaimMapViews
import Derived.JoinedTies
import Derived.KernelRfl
namespace Go.Proofs.Ytiabedphaioidaa
/- THE CELL 'sum', in the pinned program and in every row, IS THE sha256 OF THE DUMP (.gsa) THAT YtiabedphaioidaaProg.lean LOADS. Nothing in Lean hashes anything: it is a label: what it is worth is what the hold of that sum in a sandbox is worth. -/
noncomputable def Try.pinned : Pinned := { name := "ytiabedphaioidaa", sum := "b2ae63577bb3a213d3c2997f516cf7ed74f457e94e5484fc06c521602a299073", checked := Try.checked }
namespace Rows
def none {H : Type} : Left H := { results := [], args := [] }

/-- 'hoistwaylaw09.SpanMerges': WHATEVER THE INPUT: true; the input reads as it did. -/
def spanMergesSpec : ChangeSpec := { name := "spanMerges", fn := fun _ => fun
  | [d1, d2] => { results := [.lit (.bool true)], args := [d1, d2] }
  | _ => none }
def spanMergesRow : OpenClaim := { program := "ytiabedphaioidaa", sum := "b2ae63577bb3a213d3c2997f516cf7ed74f457e94e5484fc06c521602a299073", func := "hoistway/hoistwaylaw09.SpanMerges", spec := "spanMerges", unfollowed := true, recurses := true, plainKeys := false, apart := false }
def SpanMergesSaid : Prop := spanMergesRow.holds Try.pinned (OpenSpec.ofChange spanMergesSpec)

/-- ITS FALSE NEIGHBOUR: 'it returns false'. Refute it at one input. -/
def spanMergesWrong : ChangeSpec := { name := "spanMerges", fn := fun _ => fun
  | [d1, d2] => { results := [.lit (.bool false)], args := [d1, d2] }
  | _ => none }
def SpanMergesWrongFalsely : Prop := spanMergesRow.holds Try.pinned (OpenSpec.ofChange spanMergesWrong)

/-- 'hoistwaylaw09.SpanLens': WHATEVER THE INPUT: true; the input reads as it did. -/
def spanLensSpec : ChangeSpec := { name := "spanLens", fn := fun _ => fun
  | [d1, d2] => { results := [.lit (.bool true)], args := [d1, d2] }
  | _ => none }
def spanLensRow : OpenClaim := { program := "ytiabedphaioidaa", sum := "b2ae63577bb3a213d3c2997f516cf7ed74f457e94e5484fc06c521602a299073", func := "hoistway/hoistwaylaw09.SpanLens", spec := "spanLens", unfollowed := true, recurses := true, plainKeys := false, apart := false }
def SpanLensSaid : Prop := spanLensRow.holds Try.pinned (OpenSpec.ofChange spanLensSpec)

/-- ITS FALSE NEIGHBOUR: 'it returns false'. Refute it at one input. -/
def spanLensWrong : ChangeSpec := { name := "spanLens", fn := fun _ => fun
  | [d1, d2] => { results := [.lit (.bool false)], args := [d1, d2] }
  | _ => none }
def SpanLensWrongFalsely : Prop := spanLensRow.holds Try.pinned (OpenSpec.ofChange spanLensWrong)

/-- 'hoistwaylaw09.SpanSets': WHATEVER THE INPUT: true; the input reads as it did. -/
def spanSetsSpec : ChangeSpec := { name := "spanSets", fn := fun _ => fun
  | [d1, d2, d3] => { results := [.lit (.bool true)], args := [d1, d2, d3] }
  | _ => none }
def spanSetsRow : OpenClaim := { program := "ytiabedphaioidaa", sum := "b2ae63577bb3a213d3c2997f516cf7ed74f457e94e5484fc06c521602a299073", func := "hoistway/hoistwaylaw09.SpanSets", spec := "spanSets", unfollowed := true, recurses := true, plainKeys := false, apart := false }
def SpanSetsSaid : Prop := spanSetsRow.holds Try.pinned (OpenSpec.ofChange spanSetsSpec)

/-- ITS FALSE NEIGHBOUR: 'it returns false'. Refute it at one input. -/
def spanSetsWrong : ChangeSpec := { name := "spanSets", fn := fun _ => fun
  | [d1, d2, d3] => { results := [.lit (.bool false)], args := [d1, d2, d3] }
  | _ => none }
def SpanSetsWrongFalsely : Prop := spanSetsRow.holds Try.pinned (OpenSpec.ofChange spanSetsWrong)

/-- 'hoistwaylaw21.DemandWeighs': WHATEVER THE INPUT: true; the input reads as it did. -/
def demandWeighsSpec : ChangeSpec := { name := "demandWeighs", fn := fun _ => fun
  | [d1, d2] => { results := [.lit (.bool true)], args := [d1, d2] }
  | _ => none }
def demandWeighsRow : OpenClaim := { program := "ytiabedphaioidaa", sum := "b2ae63577bb3a213d3c2997f516cf7ed74f457e94e5484fc06c521602a299073", func := "hoistway/hoistwaylaw21.DemandWeighs", spec := "demandWeighs", unfollowed := true, recurses := true, plainKeys := false, apart := false }
def DemandWeighsSaid : Prop := demandWeighsRow.holds Try.pinned (OpenSpec.ofChange demandWeighsSpec)

/-- ITS FALSE NEIGHBOUR: 'it returns false'. Refute it at one input. -/
def demandWeighsWrong : ChangeSpec := { name := "demandWeighs", fn := fun _ => fun
  | [d1, d2] => { results := [.lit (.bool false)], args := [d1, d2] }
  | _ => none }
def DemandWeighsWrongFalsely : Prop := demandWeighsRow.holds Try.pinned (OpenSpec.ofChange demandWeighsWrong)

/-- 'hoistwaylaw21.DemandOf': WHATEVER THE INPUT: true; the input reads as it did. -/
def demandOfSpec : ChangeSpec := { name := "demandOf", fn := fun _ => fun
  | [d1, d2] => { results := [.lit (.bool true)], args := [d1, d2] }
  | _ => none }
def demandOfRow : OpenClaim := { program := "ytiabedphaioidaa", sum := "b2ae63577bb3a213d3c2997f516cf7ed74f457e94e5484fc06c521602a299073", func := "hoistway/hoistwaylaw21.DemandOf", spec := "demandOf", unfollowed := true, recurses := true, plainKeys := false, apart := false }
def DemandOfSaid : Prop := demandOfRow.holds Try.pinned (OpenSpec.ofChange demandOfSpec)

/-- ITS FALSE NEIGHBOUR: 'it returns false'. Refute it at one input. -/
def demandOfWrong : ChangeSpec := { name := "demandOf", fn := fun _ => fun
  | [d1, d2] => { results := [.lit (.bool false)], args := [d1, d2] }
  | _ => none }
def DemandOfWrongFalsely : Prop := demandOfRow.holds Try.pinned (OpenSpec.ofChange demandOfWrong)

/-- 'hoistwaylaw21.DemandPairs': WHATEVER THE INPUT: true; the input reads as it did. -/
def demandPairsSpec : ChangeSpec := { name := "demandPairs", fn := fun _ => fun
  | [d1, d2, d3] => { results := [.lit (.bool true)], args := [d1, d2, d3] }
  | _ => none }
def demandPairsRow : OpenClaim := { program := "ytiabedphaioidaa", sum := "b2ae63577bb3a213d3c2997f516cf7ed74f457e94e5484fc06c521602a299073", func := "hoistway/hoistwaylaw21.DemandPairs", spec := "demandPairs", unfollowed := true, recurses := true, plainKeys := false, apart := false }
def DemandPairsSaid : Prop := demandPairsRow.holds Try.pinned (OpenSpec.ofChange demandPairsSpec)

/-- ITS FALSE NEIGHBOUR: 'it returns false'. Refute it at one input. -/
def demandPairsWrong : ChangeSpec := { name := "demandPairs", fn := fun _ => fun
  | [d1, d2, d3] => { results := [.lit (.bool false)], args := [d1, d2, d3] }
  | _ => none }
def DemandPairsWrongFalsely : Prop := demandPairsRow.holds Try.pinned (OpenSpec.ofChange demandPairsWrong)

/- THE SECOND FORM. 'bulk': how many values and letters a reading holds, each counted each time it is reached (what is shared counts as often as it is met; a slice's spare places count too). A statement '..UptoSaid' is the law's where the arguments, and the package variables that the reading takes, are together of bulk at most 1048576: NARROWER than '..Said'. Prove '..Said' where nothing that the law and all that it calls make is longer than what came in: it says more and counts as full. Else prove '..UptoSaid'. A law counts once. -/
mutual
def uptoBulk {H : Type} : DataW H → Nat
  | .lit (.string bytes) => bytes.length + 1
  | .lit _ => 1
  | .nil => 1
  | .ptr d => uptoBulk d + 1
  | .slice elems spare => uptoBulkAll elems + uptoBulkAll spare + 1
  | .agg parts => uptoBulkAll parts + 1
  | .iface _ d => uptoBulk d + 1
  | .map entries => uptoBulkEntries entries + 1
  | .held _ => 1
def uptoBulkAll {H : Type} : List (DataW H) → Nat
  | [] => 0
  | d :: r => uptoBulk d + uptoBulkAll r
def uptoBulkEntries {H : Type} : List (Lit × DataW H) → Nat
  | [] => 0
  | x :: r => uptoBulkEntry x + uptoBulkEntries r
def uptoBulkEntry {H : Type} : Lit × DataW H → Nat
  | (.string bytes, d) => bytes.length + uptoBulk d + 1
  | (_, d) => uptoBulk d + 1
 end
def uptoSmall : (H : Type) → List (DataW H) → Bool := fun _ ds => decide (uptoBulkAll ds ≤ 1048576)
def OpenSpec.upto (s : _root_.Go.ChangeSpec) : _root_.Go.OpenSpec := { _root_.Go.OpenSpec.ofChange s with cond := some uptoSmall }

/-- 'hoistwaylaw09.SpanMerges', WHERE WHAT IT READS IS OF BULK AT MOST 1048576: true; the input reads as it did. -/
def spanMergesUptoRow : OpenClaim := { program := "ytiabedphaioidaa", sum := "b2ae63577bb3a213d3c2997f516cf7ed74f457e94e5484fc06c521602a299073", func := "hoistway/hoistwaylaw09.SpanMerges", spec := "spanMerges", unfollowed := true, recurses := true, plainKeys := false, apart := false, narrowed := true }
def SpanMergesUptoSaid : Prop := spanMergesUptoRow.holds Try.pinned (OpenSpec.upto spanMergesSpec)

/-- 'hoistwaylaw09.SpanLens', WHERE WHAT IT READS IS OF BULK AT MOST 1048576: true; the input reads as it did. -/
def spanLensUptoRow : OpenClaim := { program := "ytiabedphaioidaa", sum := "b2ae63577bb3a213d3c2997f516cf7ed74f457e94e5484fc06c521602a299073", func := "hoistway/hoistwaylaw09.SpanLens", spec := "spanLens", unfollowed := true, recurses := true, plainKeys := false, apart := false, narrowed := true }
def SpanLensUptoSaid : Prop := spanLensUptoRow.holds Try.pinned (OpenSpec.upto spanLensSpec)

/-- 'hoistwaylaw09.SpanSets', WHERE WHAT IT READS IS OF BULK AT MOST 1048576: true; the input reads as it did. -/
def spanSetsUptoRow : OpenClaim := { program := "ytiabedphaioidaa", sum := "b2ae63577bb3a213d3c2997f516cf7ed74f457e94e5484fc06c521602a299073", func := "hoistway/hoistwaylaw09.SpanSets", spec := "spanSets", unfollowed := true, recurses := true, plainKeys := false, apart := false, narrowed := true }
def SpanSetsUptoSaid : Prop := spanSetsUptoRow.holds Try.pinned (OpenSpec.upto spanSetsSpec)

/-- 'hoistwaylaw21.DemandWeighs', WHERE WHAT IT READS IS OF BULK AT MOST 1048576: true; the input reads as it did. -/
def demandWeighsUptoRow : OpenClaim := { program := "ytiabedphaioidaa", sum := "b2ae63577bb3a213d3c2997f516cf7ed74f457e94e5484fc06c521602a299073", func := "hoistway/hoistwaylaw21.DemandWeighs", spec := "demandWeighs", unfollowed := true, recurses := true, plainKeys := false, apart := false, narrowed := true }
def DemandWeighsUptoSaid : Prop := demandWeighsUptoRow.holds Try.pinned (OpenSpec.upto demandWeighsSpec)

/-- 'hoistwaylaw21.DemandOf', WHERE WHAT IT READS IS OF BULK AT MOST 1048576: true; the input reads as it did. -/
def demandOfUptoRow : OpenClaim := { program := "ytiabedphaioidaa", sum := "b2ae63577bb3a213d3c2997f516cf7ed74f457e94e5484fc06c521602a299073", func := "hoistway/hoistwaylaw21.DemandOf", spec := "demandOf", unfollowed := true, recurses := true, plainKeys := false, apart := false, narrowed := true }
def DemandOfUptoSaid : Prop := demandOfUptoRow.holds Try.pinned (OpenSpec.upto demandOfSpec)

/-- 'hoistwaylaw21.DemandPairs', WHERE WHAT IT READS IS OF BULK AT MOST 1048576: true; the input reads as it did. -/
def demandPairsUptoRow : OpenClaim := { program := "ytiabedphaioidaa", sum := "b2ae63577bb3a213d3c2997f516cf7ed74f457e94e5484fc06c521602a299073", func := "hoistway/hoistwaylaw21.DemandPairs", spec := "demandPairs", unfollowed := true, recurses := true, plainKeys := false, apart := false, narrowed := true }
def DemandPairsUptoSaid : Prop := demandPairsUptoRow.holds Try.pinned (OpenSpec.upto demandPairsSpec)

end Rows
end Go.Proofs.Ytiabedphaioidaa
