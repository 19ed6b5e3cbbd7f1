/- Law 19: the laws, over the functions together. -/
import Derived.Test.YtnjjnokckgjecaaLexWith
set_option linter.unusedVariables false
set_option linter.unusedSimpArgs false
set_option maxRecDepth 10000
set_option maxHeartbeats 1000000
namespace Go.Am
abbrev withinTab : Tab := (0, law19_LexerWithin_f, 1) :: lexTab
theorem within_alive : AliveC (env withinTab lexVals noEnv 70000 9 34) := yes_eq (by decide +kernel)
theorem lex_next {T : Tab} (n : Nat) (h31 : get T 31 = some (lexer_Letter_f, 1)) (h32 : get T 32 = some (lexer_Digit_f, 1)) (h33 : get T 33 = some (lexer_Blank_f, 1)) (h66 : get T 66 = some (lexer_scanner_next_f, 1)) (h77 : get T 77 = some (lexer_scanner_skip_f, 2)) (h78 : get T 78 = some (lexer_scanner_run_f, 2)) (h213 : get T 213 = some (lexer_scanner_number_f, 2)) (h218 : get T 218 = some (lexer_scanner_next_1_f, 1)) :
    NextC ((env T lexVals noEnv 70000 (n + 5)).pt 66) := by
  have e (f : Nat) (F : AFn) (k m : Nat) (h : get T f = some (F, k)) (hk : (ghOk F.body && ksFn F) = true) : (env T lexVals noEnv 70000 (m + 1)).pt f = runP (env T lexVals noEnv 70000 m) 70000 F := funext fun s => env_runP h hk
  rw [e 66 _ 1 (n + 4) h66 (by decide +kernel)]
  refine lexer_scanner_next_run _ (env T lexVals noEnv 70000 (n + 3)) 70000 ?_ ?_ ?_ ?_ ?_ ?_ ?_ ?_ ?_
  · intro c h1 h2; rw [env_run h33 rfl]; exact lexer_Blank_run _ _ c h1 h2
  · intro c h1 h2; rw [env_run h31 rfl]; exact lexer_Letter_run _ _ c h1 h2
  · intro c h1 h2; rw [env_run h32 rfl]; exact lexer_Digit_run _ _ c h1 h2
  · intro c h1 h2; exact (env_run h31 rfl).trans (lexer_Letter_run _ _ c h1 h2)
  · intro c h1 h2; exact (env_run h32 rfl).trans (lexer_Digit_run _ _ c h1 h2)
  · intro c h1 h2; exact (env_run h218 rfl).trans (lexer_scanner_next_1_run _ _ c h1 h2)
  · rw [e 78 _ 2 (n + 3) h78 (by decide +kernel)]; exact lexer_scanner_run_run _ _ (by omega)
  · rw [e 77 _ 2 (n + 3) h77 (by decide +kernel)]; exact lexer_scanner_skip_run _ _
  · rw [e 213 _ 2 (n + 3) h213 (by decide +kernel)]; exact lexer_scanner_number_run _ _ (by omega)
theorem within_law (s : List UInt8) (hs : s.length ≤ maxLen) : env withinTab lexVals noEnv 70000 10 0 [st s] = some [bo true] := by
  rw [env_run rfl rfl]
  refine law19_LexerWithin_run _ (by omega) ?_ ?_ within_alive s hs
  · intro s n h1 h2; rw [env_run rfl rfl]; exact lexer_Place_run _ _ (by omega) s n h1 h2
  · intro s h1; rw [env_run rfl rfl]
    exact lexer_Scan_run _ _ (by omega) (lex_next 3 rfl rfl rfl rfl rfl rfl rfl rfl) s h1
end Go.Am
