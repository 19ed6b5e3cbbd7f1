/- Small things that many texts use. -/
import Derived.Test.YtdnmppikakpdiaaData
set_option linter.unusedVariables false
namespace Go.Am
/-- A closed answer: yes. -/
def yesU : Option (List AV) → Bool
  | some [.c (.bool b)] => b
  | _ => false
theorem yesU_eq {o : Option (List AV)} (h : yesU o = true) : o = some [bo true] := by
  unfold yesU at h
  split at h
  · subst h; rfl
  · simp at h
end Go.Am
