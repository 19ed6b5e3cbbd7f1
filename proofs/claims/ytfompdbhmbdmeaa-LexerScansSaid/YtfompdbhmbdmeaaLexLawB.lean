/- Law 19: LexerScans, over the functions together. -/
import Derived.Test.YtfompdbhmbdmeaaLexEq
set_option linter.unusedVariables false
set_option linter.unusedSimpArgs false
set_option maxRecDepth 10000
set_option maxHeartbeats 1000000
namespace Go.Am
abbrev scansTab : Tab := (0, law19_LexerScans_f, 1) :: (38, slices_Equal_Sapi_Token_api_Token_f, 2) :: (39, ref19_Scan_f, 1) :: (67, ref19_number_f, 1) :: (68, ref19_kind_f, 1) :: lexTab
theorem scans_alive : AliveC (env scansTab lexVals noEnv 70000 9 34) := yes_eq (by decide +kernel)
theorem scans_law (s : List UInt8) (hs : s.length ≤ maxLen) : env scansTab lexVals noEnv 70000 10 0 [st s] = some [bo true] := by
  rw [env_run rfl rfl]
  refine law19_LexerScans_run _ ?_ ?_ ?_ scans_alive s hs
  · intro ts h1; rw [env_run rfl rfl]; exact slices_Equal_Tk_run _ _ (by omega) ts h1
  · intro s h1; rw [env_run rfl rfl]
    exact lexer_Scan_run _ _ (by omega) (lex_next 3 rfl rfl rfl rfl rfl rfl rfl rfl) s h1
  · intro s h1; rw [env_run rfl rfl]
    refine ref19_Scan_run _ _ (by omega) ?_ ?_ s h1
    · intro b; rw [env_run rfl rfl]; exact ref19_kind_run _ _ b
    · intro w h1 h2 h3; rw [env_run rfl rfl]; exact ref19_number_run _ _ (by omega) w h1 h2 h3
end Go.Am
