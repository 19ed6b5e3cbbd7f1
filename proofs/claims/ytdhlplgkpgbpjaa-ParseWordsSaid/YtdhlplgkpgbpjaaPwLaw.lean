/- Law 26: ParseWords, over the functions together. -/
import Derived.Test.YtdhlplgkpgbpjaaPwAl
set_option linter.unusedVariables false
set_option linter.unusedSimpArgs false
set_option maxRecDepth 10000
set_option maxHeartbeats 1000000
namespace Go.Am
theorem words_120 : WordC26 (env wordsTab lexVals noEnv 70000 19 120) := fun w => by
  have h := ref26_Word_run (env wordsTab lexVals noEnv 70000 18) 69980 w
  rw [show 69980 + 20 = 70000 from rfl] at h
  constructor
  · rw [env_run rfl rfl]; exact h.1
  · rw [env_run rfl rfl]; exact h.2
theorem parseWords_law (w : List UInt8) (hw : w.length ≤ maxLen) : env wordsTab lexVals noEnv 70000 20 0 [st w] = some [bo true] := by
  rw [env_run rfl rfl]
  refine law26_ParseWords_run _ words_alive ?_ ?_ ?_ ?_ ?_ ?_ w hw
  · intro w; rw [env_run rfl rfl]; exact parse_Names_run _ _ w
  · intro l h; rw [env_run rfl rfl]; exact slices_Equal_str_run _ _ (by omega) l h
  · intro w; rw [env_run rfl rfl]; exact parse_Template_run _ _ w
  · exact words_120
  · intro w; rw [env_run rfl rfl]; exact parse_Dispatcher_run _ _ w
  · unfold LinesC; rw [env_run rfl rfl]; exact parse_Lines_run _ _
end Go.Am
