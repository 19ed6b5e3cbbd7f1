/- Law 26: ParseTexts and ParseMay, over the functions together. -/
import Derived.Test.YtdhlplgkpgbpjaaParU
import Derived.Test.YtdhlplgkpgbpjaaPwAl
set_option linter.unusedVariables false
set_option linter.unusedSimpArgs false
set_option maxRecDepth 10000
set_option maxHeartbeats 1000000
namespace Go.Am
abbrev psTab : Tab := (115, ref26_Text_f, 1) :: (151, ref26_problem_f, 2) :: (152, ref26_count_f, 2) :: (153, ref26_put_f, 3) :: (154, ref26_part_f, 2) :: (155, ref26_shape_f, 1) :: (28, ref20_Same_f, 2) :: (26, ref20_Check_f, 1) :: (21, ref20_In_f, 2) :: (23, ref20_Bounds_f, 1) :: (36, ref19_Place_f, 2) :: (39, ref19_Scan_f, 1) :: (67, ref19_number_f, 1) :: (68, ref19_kind_f, 1) :: parseTab
abbrev textsTab : Tab := (0, law26_ParseTexts_f, 1) :: psTab
abbrev mayTab : Tab := (0, law26_ParseMay_f, 1) :: psTab
theorem texts_alive : env textsTab lexVals noEnv 70000 19 114 [] = some [bo true] := yes_eq (by decide +kernel)
theorem may_alive : env mayTab lexVals noEnv 70000 19 114 [] = some [bo true] := yes_eq (by decide +kernel)
theorem pv_next {T : Tab} (n : Nat) (h31 : get T 31 = some (lexer_Letter_f, 1)) (h32 : get T 32 = some (lexer_Digit_f, 1)) (h33 : get T 33 = some (lexer_Blank_f, 1)) (h66 : get T 66 = some (lexer_scanner_next_f, 1)) (h77 : get T 77 = some (lexer_scanner_skip_f, 2)) (h78 : get T 78 = some (lexer_scanner_run_f, 2)) (h213 : get T 213 = some (lexer_scanner_number_f, 2)) (h218 : get T 218 = some (lexer_scanner_next_1_f, 1)) :
    Pv.NextC ((env T lexVals noEnv 70000 (n + 5)).pt 66) := by
  have e (f : Nat) (F : AFn) (k m : Nat) (h : get T f = some (F, k)) (hk : (ghOk F.body && ksFn F) = true) : (env T lexVals noEnv 70000 (m + 1)).pt f = runP (env T lexVals noEnv 70000 m) 70000 F := funext fun s => env_runP h hk
  rw [e 66 _ 1 (n + 4) h66 (by decide +kernel)]
  refine Pv.lexer_scanner_next_run _ (env T lexVals noEnv 70000 (n + 3)) 70000 ?_ ?_ ?_ ?_ ?_ ?_ ?_ ?_ ?_
  · intro c h1 h2; rw [env_run h33 rfl]; exact lexer_Blank_run _ _ c h1 h2
  · intro c h1 h2; rw [env_run h31 rfl]; exact lexer_Letter_run _ _ c h1 h2
  · intro c h1 h2; rw [env_run h32 rfl]; exact lexer_Digit_run _ _ c h1 h2
  · intro c h1 h2; exact (env_run h31 rfl).trans (lexer_Letter_run _ _ c h1 h2)
  · intro c h1 h2; exact (env_run h32 rfl).trans (lexer_Digit_run _ _ c h1 h2)
  · intro c h1 h2; exact (env_run h218 rfl).trans (lexer_scanner_next_1_run _ _ c h1 h2)
  · rw [e 78 _ 2 (n + 3) h78 (by decide +kernel)]; exact Pv.lexer_scanner_run_run _ _ (by omega)
  · rw [e 77 _ 2 (n + 3) h77 (by decide +kernel)]; exact Pv.lexer_scanner_skip_run _ _
  · rw [e 213 _ 2 (n + 3) h213 (by decide +kernel)]; exact Pv.lexer_scanner_number_run _ _ (by omega)
section
variable (F : AFn) (k : Nat)
theorem ps_run {f n m : Nat} {G : AFn} (h : get ((0, F, k) :: psTab) f = some (G, m)) (hk : (ghOk G.body && ksFn G) = true) : (env ((0, F, k) :: psTab) lexVals noEnv 70000 (n + 1)).pt f = runP (env ((0, F, k) :: psTab) lexVals noEnv 70000 n) 70000 G := funext fun s => env_runP h hk
theorem ps_In (n : Nat) : InC (env ((0, F, k) :: psTab) lexVals noEnv 70000 (n + 2) 20) := fun x m => by
  rw [env_run rfl rfl]; refine vet_In_run ?_ x m
  intro x; rw [env_run rfl rfl]; exact vet_Bounds_run _ _ x
theorem ps_In2 (n : Nat) : InC (env ((0, F, k) :: psTab) lexVals noEnv 70000 (n + 2) 21) := fun x m => by
  rw [env_run rfl rfl]; refine ref20_In_run ?_ x m
  intro x; rw [env_run rfl rfl]; exact ref20_Bounds_run _ 69980 x
theorem ps_next (n : Nat) : NextT ((env ((0, F, k) :: psTab) lexVals noEnv 70000 (n + 1)).pt 170) := by
  rw [ps_run F k (f := 170) rfl (by decide +kernel)]; exact parse_tokens_next_run _ _
theorem ps_fail (n : Nat) : FailT ((env ((0, F, k) :: psTab) lexVals noEnv 70000 (n + 1)).pt 169) := by
  rw [ps_run F k (f := 169) rfl (by decide +kernel)]; exact parse_reader_fail_run _ _
theorem ps_number (n : Nat) : NumT ((env ((0, F, k) :: psTab) lexVals noEnv 70000 (n + 3)).pt 177) := by
  rw [ps_run F k (f := 177) rfl (by decide +kernel)]; exact parse_reader_number_run _ _ (ps_next F k _) (ps_fail F k _) (ps_In F k _)
theorem ps_numbers (n : Nat) : NumsT ((env ((0, F, k) :: psTab) lexVals noEnv 70000 (n + 4)).pt 171) := by
  rw [ps_run F k (f := 171) rfl (by decide +kernel)]
  refine parse_reader_numbers_run _ _ (by omega) (ps_number F k n) ?_
  intro w; rw [env_run rfl rfl]; exact parse_Names_run _ _ w
theorem ps_word (n : Nat) : WordT ((env ((0, F, k) :: psTab) lexVals noEnv 70000 (n + 2)).pt 176) := by
  rw [ps_run F k (f := 176) rfl (by decide +kernel)]; exact parse_reader_word_run _ _ (ps_next F k _) (ps_fail F k _)
theorem ps_kind (n : Nat) : KindT ((env ((0, F, k) :: psTab) lexVals noEnv 70000 (n + 3)).pt 172) := by
  rw [ps_run F k (f := 172) rfl (by decide +kernel)]
  refine parse_reader_kind_run _ _ (ps_word F k n) (ps_fail F k _) ?_ ?_
  · intro w; rw [env_run rfl rfl]; exact parse_Template_run _ _ w
  · intro w; rw [env_run rfl rfl]; exact parse_Dispatcher_run _ _ w
theorem ps_line (n : Nat) : LineT ((env ((0, F, k) :: psTab) lexVals noEnv 70000 (n + 5)).pt 239) := by
  rw [ps_run F k (f := 239) rfl (by decide +kernel)]
  refine parse_reader_line_run _ _ (by omega) (ps_fail F k _) (ps_kind F k _) (ps_numbers F k _) (ps_next F k _) ?_ ?_ ?_
  · rw [ps_run F k (f := 168) rfl (by decide +kernel)]; exact parse_reader_set_run _ _
  · rw [ps_run F k (f := 168) rfl (by decide +kernel)]; exact parse_reader_set_traffic _ _
  · rw [ps_run F k (f := 366) rfl (by decide +kernel)]; exact parse_Names_P_run _ _
theorem ps_Text (n : Nat) : TextC26 (env ((0, F, k) :: psTab) lexVals noEnv 70000 (n + 7) 116) := fun x hx => by
  rw [env_run rfl rfl]
  refine parse_Text_run _ _ (by omega) ?_ (ps_next F k _) (ps_line F k _) ?_ x hx
  · rw [ps_run F k (f := 365) rfl (by decide +kernel)]
    exact Pv.lexer_Scan_P_run _ _ (by omega) (pv_next n rfl rfl rfl rfl rfl rfl rfl rfl)
  · unfold LinesC; rw [env_run rfl rfl]; exact parse_Lines_run _ _
theorem ps_Scan (n : Nat) : ScanC (env ((0, F, k) :: psTab) lexVals noEnv 70000 (n + 2) 39) := fun s h => by
  rw [env_run rfl rfl]
  refine ref19_Scan_run _ _ (by omega) ?_ ?_ s h
  · intro b; rw [env_run rfl rfl]; exact ref19_kind_run _ _ b
  · intro w h1 h2 h3; rw [env_run rfl rfl]; exact ref19_number_run _ _ (by omega) w h1 h2 h3
theorem ps_Ref (n : Nat) : TextC26 (env ((0, F, k) :: psTab) lexVals noEnv 70000 (n + 4) 115) := fun x hx => by
  rw [env_run rfl rfl]
  refine ref26_Text_run _ _ (by omega) (ps_Scan F k _) ?_ ?_ ?_ ?_ ?_ x hx
  · intro nm t; rw [env_run rfl rfl]
    refine ref26_part_run _ _ ?_ (ps_In2 F k _) nm t
    intro w
    have h := ref26_Word_run (env ((0, F, k) :: psTab) lexVals noEnv 70000 (n + 1)) 69980 w
    rw [show 69980 + 20 = 70000 from rfl] at h
    constructor
    · rw [env_run rfl rfl]; exact h.1
    · rw [env_run rfl rfl]; exact h.2
  · intro e t; rw [env_run rfl rfl]; exact ref26_problem_run _ _ e t
  · intro w; rw [env_run rfl rfl]; exact ref26_shape_run _ _ w
  · intro l w h; rw [env_run rfl rfl]; exact ref26_count_run _ _ (by omega) l w h
  · intro s w ns h1 h2 h3; rw [env_run rfl rfl]; exact ref26_put_run _ _ s w ns h1 h2 h3
end
theorem ref20_Same_runL {Γ : Env} {M : Nat} (hM : 10 < M) : SameL (run Γ M ref20_Same_f) := by
  intro a b ha hb
  have hmax := maxLen_eq
  unfold sameS
  by_cases c1 : a.segs.length = b.segs.length
  · obtain ⟨ax, s', (⟨rfl, rfl, h4⟩ | ⟨rfl, rfl, h4⟩), h3⟩ := ref20_Same_segs (Γ := Γ) (N := M) (M := M) (a := a) (b := b) c1 (by omega) (by omega)
    · have h5 : decide (a.segs = b.segs) = true := decide_eq_true h4
      simp -implicitDefEqProofs (disch := first | omega | (simp <;> fail) | assumption) [h3, h5]
    · simp -implicitDefEqProofs (disch := first | omega | (simp <;> fail) | assumption) [h3, h4]
  · have : a.segs ≠ b.segs := fun h => c1 (by rw [h])
    simp -implicitDefEqProofs (disch := omega) [c1, this]
theorem parseTexts_law (x : List UInt8) (hx : x.length ≤ maxLen) : env textsTab lexVals noEnv 70000 20 0 [st x] = some [bo true] := by
  rw [env_run rfl rfl]
  refine law26_ParseTexts_run _ texts_alive (ps_Text _ _ _) (ps_Ref _ _ _) ?_ x hx
  intro a b h1 h2; rw [env_run rfl rfl]; exact ref20_Same_runL (by omega) a b h1 h2
theorem parseMay_law (x : List UInt8) (hx : x.length ≤ maxLen) : env mayTab lexVals noEnv 70000 20 0 [st x] = some [bo true] := by
  rw [env_run rfl rfl]
  refine law26_ParseMay_run _ (by omega) may_alive (ps_Text _ _ _) ?_ ?_ ?_ x hx
  · intro s n h1 h2; rw [env_run rfl rfl]; exact ref19_Place_run _ _ (by omega) s n h1 h2
  · intro s h; rw [env_run rfl rfl]; exact ref20_Check_run (M := 69900) (ps_In2 _ _ _) s h
  · intro a b h1 h2; rw [env_run rfl rfl]; exact ref20_Same_runL (by omega) a b h1 h2
end Go.Am
