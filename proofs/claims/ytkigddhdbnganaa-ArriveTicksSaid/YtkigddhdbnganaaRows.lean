/-
  No cell of these rows narrows 'for every input' (looked for: loops, veiled, ifaces, maps, wideKeys, modest, calm, conditions, laid).
  DERIVED. THE GIVEN ROWS OF THIS SEAT. 4 by the template 'for every input the law returns true; each argument reads behind the call as it read before'; 0 by the template 'total and deterministic' (their statements: YtkigddhdbnganaaTotals.lean).
  GIVEN WITH THE SEED: the statements are not yours to turn. If you find one false, say at which input.
  Laid BY PROGRAM, IN A SANDBOX (cutbox-rows.mjs): the forced cells as the released guide's own fill.sh prints them over the translation 5b81f5954e8b2c65… (all of the seat's roots in one cut). By AI agents, Wed Nov 11 2026. No macro, syntax, notation, axiom, sorry.
-/
import Derived.Test.YtkigddhdbnganaaChecked
import GoSem.Claim
import GoSem.ClaimJoined
import GoSem.ClaimMapViews
import Derived.JoinedTies
import Derived.KernelRfl
namespace Go.Proofs.Ytkigddhdbnganaa
/- THE CELL 'sum', in the pinned program and in every row, IS THE sha256 OF THE DUMP (.gsa) THAT YtkigddhdbnganaaProg.lean LOADS. Nothing in Lean hashes anything: it is a label: what it is worth is what the hold of that sum in a sandbox is worth. -/
noncomputable def Try.pinned : Pinned := { name := "ytkigddhdbnganaa", sum := "5b81f5954e8b2c6505b3e1799d038aee26946ef84cba18fd3654ffa72a597e55", checked := Try.checked }
namespace Rows
def none {H : Type} : Left H := { results := [], args := [] }

/-- 'hoistwaylaw59.GoalMet': WHATEVER THE INPUT: true; the input reads as it did. -/
def goalMetSpec : ChangeSpec := { name := "goalMet", fn := fun _ => fun
  | [d1, d2] => { results := [.lit (.bool true)], args := [d1, d2] }
  | _ => none }
def goalMetRow : OpenClaim := { program := "ytkigddhdbnganaa", sum := "5b81f5954e8b2c6505b3e1799d038aee26946ef84cba18fd3654ffa72a597e55", func := "hoistway/hoistwaylaw59.GoalMet", spec := "goalMet", inPlace := ["internal/abi.NoEscape"], unfollowed := true, recurses := true, plainKeys := false, apart := false }
def GoalMetSaid : Prop := goalMetRow.holds Try.pinned (OpenSpec.ofChange goalMetSpec)

/-- ITS FALSE NEIGHBOUR: 'it returns false'. Refute it at one input. -/
def goalMetWrong : ChangeSpec := { name := "goalMet", fn := fun _ => fun
  | [d1, d2] => { results := [.lit (.bool false)], args := [d1, d2] }
  | _ => none }
def GoalMetWrongFalsely : Prop := goalMetRow.holds Try.pinned (OpenSpec.ofChange goalMetWrong)

/-- 'hoistwaylaw28.ArriveLists': WHATEVER THE INPUT: true; the input reads as it did. -/
def arriveListsSpec : ChangeSpec := { name := "arriveLists", fn := fun _ => fun
  | [d1, d2] => { results := [.lit (.bool true)], args := [d1, d2] }
  | _ => none }
def arriveListsRow : OpenClaim := { program := "ytkigddhdbnganaa", sum := "5b81f5954e8b2c6505b3e1799d038aee26946ef84cba18fd3654ffa72a597e55", func := "hoistway/hoistwaylaw28.ArriveLists", spec := "arriveLists", unfollowed := true, recurses := true, plainKeys := false, apart := false }
def ArriveListsSaid : Prop := arriveListsRow.holds Try.pinned (OpenSpec.ofChange arriveListsSpec)

/-- ITS FALSE NEIGHBOUR: 'it returns false'. Refute it at one input. -/
def arriveListsWrong : ChangeSpec := { name := "arriveLists", fn := fun _ => fun
  | [d1, d2] => { results := [.lit (.bool false)], args := [d1, d2] }
  | _ => none }
def ArriveListsWrongFalsely : Prop := arriveListsRow.holds Try.pinned (OpenSpec.ofChange arriveListsWrong)

/-- 'hoistwaylaw28.ArriveTicks': WHATEVER THE INPUT: true; the input reads as it did. -/
def arriveTicksSpec : ChangeSpec := { name := "arriveTicks", fn := fun _ => fun
  | [d1, d2] => { results := [.lit (.bool true)], args := [d1, d2] }
  | _ => none }
def arriveTicksRow : OpenClaim := { program := "ytkigddhdbnganaa", sum := "5b81f5954e8b2c6505b3e1799d038aee26946ef84cba18fd3654ffa72a597e55", func := "hoistway/hoistwaylaw28.ArriveTicks", spec := "arriveTicks", unfollowed := true, recurses := true, plainKeys := false, apart := false }
def ArriveTicksSaid : Prop := arriveTicksRow.holds Try.pinned (OpenSpec.ofChange arriveTicksSpec)

/-- ITS FALSE NEIGHBOUR: 'it returns false'. Refute it at one input. -/
def arriveTicksWrong : ChangeSpec := { name := "arriveTicks", fn := fun _ => fun
  | [d1, d2] => { results := [.lit (.bool false)], args := [d1, d2] }
  | _ => none }
def ArriveTicksWrongFalsely : Prop := arriveTicksRow.holds Try.pinned (OpenSpec.ofChange arriveTicksWrong)

/-- 'hoistwaylaw28.ArriveMore': WHATEVER THE INPUT: true; the input reads as it did. -/
def arriveMoreSpec : ChangeSpec := { name := "arriveMore", fn := fun _ => fun
  | [d1, d2, d3] => { results := [.lit (.bool true)], args := [d1, d2, d3] }
  | _ => none }
def arriveMoreRow : OpenClaim := { program := "ytkigddhdbnganaa", sum := "5b81f5954e8b2c6505b3e1799d038aee26946ef84cba18fd3654ffa72a597e55", func := "hoistway/hoistwaylaw28.ArriveMore", spec := "arriveMore", unfollowed := true, recurses := true, plainKeys := false, apart := false }
def ArriveMoreSaid : Prop := arriveMoreRow.holds Try.pinned (OpenSpec.ofChange arriveMoreSpec)

/-- ITS FALSE NEIGHBOUR: 'it returns false'. Refute it at one input. -/
def arriveMoreWrong : ChangeSpec := { name := "arriveMore", fn := fun _ => fun
  | [d1, d2, d3] => { results := [.lit (.bool false)], args := [d1, d2, d3] }
  | _ => none }
def ArriveMoreWrongFalsely : Prop := arriveMoreRow.holds Try.pinned (OpenSpec.ofChange arriveMoreWrong)

/- THE SECOND FORM. 'bulk': how many values and letters a reading holds, each counted each time it is reached (what is shared counts as often as it is met; a slice's spare places count too). A statement '..UptoSaid' is the law's where the arguments, and the package variables that the reading takes, are together of bulk at most 1048576: NARROWER than '..Said'. Prove '..Said' where nothing that the law and all that it calls make is longer than what came in: it says more and counts as full. Else prove '..UptoSaid'. A law counts once. -/
mutual
def uptoBulk {H : Type} : DataW H → Nat
  | .lit (.string bytes) => bytes.length + 1
  | .lit _ => 1
  | .nil => 1
  | .ptr d => uptoBulk d + 1
  | .slice elems spare => uptoBulkAll elems + uptoBulkAll spare + 1
  | .agg parts => uptoBulkAll parts + 1
  | .iface _ d => uptoBulk d + 1
  | .map entries => uptoBulkEntries entries + 1
  | .held _ => 1
def uptoBulkAll {H : Type} : List (DataW H) → Nat
  | [] => 0
  | d :: r => uptoBulk d + uptoBulkAll r
def uptoBulkEntries {H : Type} : List (Lit × DataW H) → Nat
  | [] => 0
  | x :: r => uptoBulkEntry x + uptoBulkEntries r
def uptoBulkEntry {H : Type} : Lit × DataW H → Nat
  | (.string bytes, d) => bytes.length + uptoBulk d + 1
  | (_, d) => uptoBulk d + 1
 end
def uptoSmall : (H : Type) → List (DataW H) → Bool := fun _ ds => decide (uptoBulkAll ds ≤ 1048576)
def OpenSpec.upto (s : _root_.Go.ChangeSpec) : _root_.Go.OpenSpec := { _root_.Go.OpenSpec.ofChange s with cond := some uptoSmall }

/-- 'hoistwaylaw59.GoalMet', WHERE WHAT IT READS IS OF BULK AT MOST 1048576: true; the input reads as it did. -/
def goalMetUptoRow : OpenClaim := { program := "ytkigddhdbnganaa", sum := "5b81f5954e8b2c6505b3e1799d038aee26946ef84cba18fd3654ffa72a597e55", func := "hoistway/hoistwaylaw59.GoalMet", spec := "goalMet", inPlace := ["internal/abi.NoEscape"], unfollowed := true, recurses := true, plainKeys := false, apart := false, narrowed := true }
def GoalMetUptoSaid : Prop := goalMetUptoRow.holds Try.pinned (OpenSpec.upto goalMetSpec)

/-- 'hoistwaylaw28.ArriveLists', WHERE WHAT IT READS IS OF BULK AT MOST 1048576: true; the input reads as it did. -/
def arriveListsUptoRow : OpenClaim := { program := "ytkigddhdbnganaa", sum := "5b81f5954e8b2c6505b3e1799d038aee26946ef84cba18fd3654ffa72a597e55", func := "hoistway/hoistwaylaw28.ArriveLists", spec := "arriveLists", unfollowed := true, recurses := true, plainKeys := false, apart := false, narrowed := true }
def ArriveListsUptoSaid : Prop := arriveListsUptoRow.holds Try.pinned (OpenSpec.upto arriveListsSpec)

/-- 'hoistwaylaw28.ArriveTicks', WHERE WHAT IT READS IS OF BULK AT MOST 1048576: true; the input reads as it did. -/
def arriveTicksUptoRow : OpenClaim := { program := "ytkigddhdbnganaa", sum := "5b81f5954e8b2c6505b3e1799d038aee26946ef84cba18fd3654ffa72a597e55", func := "hoistway/hoistwaylaw28.ArriveTicks", spec := "arriveTicks", unfollowed := true, recurses := true, plainKeys := false, apart := false, narrowed := true }
def ArriveTicksUptoSaid : Prop := arriveTicksUptoRow.holds Try.pinned (OpenSpec.upto arriveTicksSpec)

/-- 'hoistwaylaw28.ArriveMore', WHERE WHAT IT READS IS OF BULK AT MOST 1048576: true; the input reads as it did. -/
def arriveMoreUptoRow : OpenClaim := { program := "ytkigddhdbnganaa", sum := "5b81f5954e8b2c6505b3e1799d038aee26946ef84cba18fd3654ffa72a597e55", func := "hoistway/hoistwaylaw28.ArriveMore", spec := "arriveMore", unfollowed := true, recurses := true, plainKeys := false, apart := false, narrowed := true }
def ArriveMoreUptoSaid : Prop := arriveMoreUptoRow.holds Try.pinned (OpenSpec.upto arriveMoreSpec)

end Rows
end Go.Proofs.Ytkigddhdbnganaa
