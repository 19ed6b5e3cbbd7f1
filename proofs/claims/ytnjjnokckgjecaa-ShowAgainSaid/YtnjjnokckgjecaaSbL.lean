/- Law 27: ShowBack and ShowAgain, over the functions together. -/
import Derived.Test.YtnjjnokckgjecaaSbT
import Derived.Test.YtnjjnokckgjecaaPwAl
set_option linter.unusedVariables false
set_option linter.unusedSimpArgs false
set_option maxRecDepth 10000
set_option maxHeartbeats 1000000
namespace Go.Am
abbrev sbTab : Tab := (46, law27_alive_f, 0) :: (28, ref20_Same_f, 2) :: (26, ref20_Check_f, 1) :: (21, ref20_In_f, 2) :: (23, ref20_Bounds_f, 1) :: (25, vet_Check_f, 1) :: (63, vet_segment_f, 1) :: (64, vet_numbers_f, 1) :: (48, show_Text_f, 1) :: (69, strings_Builder_String_f, 1) :: (70, show_line_f, 3) :: (79, strings_Builder_WriteString_f, 2) :: (228, strings_Builder_copyCheck_f, 1) :: (40, show_Where_f, 1) :: (42, show_Template_f, 1) :: (44, show_Dispatcher_f, 1) :: (50, digits_Of_f, 1) :: (72, digits_Text_f, 1) :: (80, digits_plain_f, 1) :: (81, nums_Size_f, 1) :: parseTab
abbrev backTab : Tab := (0, law27_ShowBack_f, 1) :: sbTab
abbrev againTab : Tab := (0, law27_ShowAgain_f, 1) :: sbTab
theorem back_alive : env backTab lexVals noEnv 70000 19 46 [] = some [bo true] := yes_eq (by decide +kernel)
theorem again_alive : env againTab lexVals noEnv 70000 19 46 [] = some [bo true] := yes_eq (by decide +kernel)
theorem sv_next {T : Tab} (n : Nat) (h31 : get T 31 = some (lexer_Letter_f, 1)) (h32 : get T 32 = some (lexer_Digit_f, 1)) (h33 : get T 33 = some (lexer_Blank_f, 1)) (h66 : get T 66 = some (lexer_scanner_next_f, 1)) (h77 : get T 77 = some (lexer_scanner_skip_f, 2)) (h78 : get T 78 = some (lexer_scanner_run_f, 2)) (h213 : get T 213 = some (lexer_scanner_number_f, 2)) (h218 : get T 218 = some (lexer_scanner_next_1_f, 1)) :
    Pv.NextC ((env T lexVals noEnv 70000 (n + 5)).pt 66) := by
  have e (f : Nat) (F : AFn) (k m : Nat) (h : get T f = some (F, k)) (hk : (ghOk F.body && ksFn F) = true) : (env T lexVals noEnv 70000 (m + 1)).pt f = runP (env T lexVals noEnv 70000 m) 70000 F := funext fun s => env_runP h hk
  rw [e 66 _ 1 (n + 4) h66 (by decide +kernel)]
  refine Pv.lexer_scanner_next_run _ (env T lexVals noEnv 70000 (n + 3)) 70000 ?_ ?_ ?_ ?_ ?_ ?_ ?_ ?_ ?_
  · intro c h1 h2; rw [env_run h33 rfl]; exact lexer_Blank_run _ _ c h1 h2
  · intro c h1 h2; rw [env_run h31 rfl]; exact lexer_Letter_run _ _ c h1 h2
  · intro c h1 h2; rw [env_run h32 rfl]; exact lexer_Digit_run _ _ c h1 h2
  · intro c h1 h2; exact (env_run h31 rfl).trans (lexer_Letter_run _ _ c h1 h2)
  · intro c h1 h2; exact (env_run h32 rfl).trans (lexer_Digit_run _ _ c h1 h2)
  · intro c h1 h2; exact (env_run h218 rfl).trans (lexer_scanner_next_1_run _ _ c h1 h2)
  · rw [e 78 _ 2 (n + 3) h78 (by decide +kernel)]; exact Pv.lexer_scanner_run_run _ _ (by omega)
  · rw [e 77 _ 2 (n + 3) h77 (by decide +kernel)]; exact Pv.lexer_scanner_skip_run _ _
  · rw [e 213 _ 2 (n + 3) h213 (by decide +kernel)]; exact Pv.lexer_scanner_number_run _ _ (by omega)
section
variable (F : AFn) (k : Nat)
theorem sb_run {f n m : Nat} {G : AFn} (h : get ((0, F, k) :: sbTab) f = some (G, m)) (hk : (ghOk G.body && ksFn G) = true) : (env ((0, F, k) :: sbTab) lexVals noEnv 70000 (n + 1)).pt f = runP (env ((0, F, k) :: sbTab) lexVals noEnv 70000 n) 70000 G := funext fun s => env_runP h hk
theorem sb_In (n : Nat) : InC (env ((0, F, k) :: sbTab) lexVals noEnv 70000 (n + 2) 20) := fun x m => by
  rw [env_run rfl rfl]; refine vet_In_run ?_ x m
  intro x; rw [env_run rfl rfl]; exact vet_Bounds_run _ _ x
theorem sb_In2 (n : Nat) : InC (env ((0, F, k) :: sbTab) lexVals noEnv 70000 (n + 2) 21) := fun x m => by
  rw [env_run rfl rfl]; refine ref20_In_run ?_ x m
  intro x; rw [env_run rfl rfl]; exact ref20_Bounds_run _ 69980 x
theorem sb_next (n : Nat) : NextT ((env ((0, F, k) :: sbTab) lexVals noEnv 70000 (n + 1)).pt 170) := by
  rw [sb_run F k (f := 170) rfl (by decide +kernel)]; exact parse_tokens_next_run _ _
theorem sb_fail (n : Nat) : FailT ((env ((0, F, k) :: sbTab) lexVals noEnv 70000 (n + 1)).pt 169) := by
  rw [sb_run F k (f := 169) rfl (by decide +kernel)]; exact parse_reader_fail_run _ _
theorem sb_number (n : Nat) : NumT ((env ((0, F, k) :: sbTab) lexVals noEnv 70000 (n + 3)).pt 177) := by
  rw [sb_run F k (f := 177) rfl (by decide +kernel)]; exact parse_reader_number_run _ _ (sb_next F k _) (sb_fail F k _) (sb_In F k _)
theorem sb_numbers (n : Nat) : NumsT ((env ((0, F, k) :: sbTab) lexVals noEnv 70000 (n + 4)).pt 171) := by
  rw [sb_run F k (f := 171) rfl (by decide +kernel)]
  refine parse_reader_numbers_run _ _ (by omega) (sb_number F k n) ?_
  intro w; rw [env_run rfl rfl]; exact parse_Names_run _ _ w
theorem sb_word (n : Nat) : WordT ((env ((0, F, k) :: sbTab) lexVals noEnv 70000 (n + 2)).pt 176) := by
  rw [sb_run F k (f := 176) rfl (by decide +kernel)]; exact parse_reader_word_run _ _ (sb_next F k _) (sb_fail F k _)
theorem sb_kind (n : Nat) : KindT ((env ((0, F, k) :: sbTab) lexVals noEnv 70000 (n + 3)).pt 172) := by
  rw [sb_run F k (f := 172) rfl (by decide +kernel)]
  refine parse_reader_kind_run _ _ (sb_word F k n) (sb_fail F k _) ?_ ?_
  · intro w; rw [env_run rfl rfl]; exact parse_Template_run _ _ w
  · intro w; rw [env_run rfl rfl]; exact parse_Dispatcher_run _ _ w
theorem sb_line (n : Nat) : LineT ((env ((0, F, k) :: sbTab) lexVals noEnv 70000 (n + 5)).pt 239) := by
  rw [sb_run F k (f := 239) rfl (by decide +kernel)]
  refine parse_reader_line_run _ _ (by omega) (sb_fail F k _) (sb_kind F k _) (sb_numbers F k _) (sb_next F k _) ?_ ?_ ?_
  · rw [sb_run F k (f := 168) rfl (by decide +kernel)]; exact parse_reader_set_run _ _
  · rw [sb_run F k (f := 168) rfl (by decide +kernel)]; exact parse_reader_set_traffic _ _
  · rw [sb_run F k (f := 366) rfl (by decide +kernel)]; exact parse_Names_P_run _ _
theorem sb_Text (n : Nat) : TextC26 (env ((0, F, k) :: sbTab) lexVals noEnv 70000 (n + 7) 116) := fun x hx => by
  rw [env_run rfl rfl]
  refine parse_Text_run _ _ (by omega) ?_ (sb_next F k _) (sb_line F k _) ?_ x hx
  · rw [sb_run F k (f := 365) rfl (by decide +kernel)]
    exact Pv.lexer_Scan_P_run _ _ (by omega) (sv_next n rfl rfl rfl rfl rfl rfl rfl rfl)
  · unfold LinesC; rw [env_run rfl rfl]; exact parse_Lines_run _ _
theorem sb_Of (n : Nat) : Of (env ((0, F, k) :: sbTab) lexVals noEnv 70000 (n + 3) 50) := fun m hm => by
  rw [env_run rfl rfl]
  refine digits_Of_run (fun m hm => ?_) m hm
  rw [env_run rfl rfl]
  refine digits_Text_run (fun m hm => ?_) (fun m hm => ?_) m hm
  · rw [env_run rfl rfl]; exact digits_plain_run _ (by omega) m hm
  · rw [env_run rfl rfl]; exact nums_Size_run _ m hm
theorem sb_Chk (n : Nat) : ChkC (env ((0, F, k) :: sbTab) lexVals noEnv 70000 (n + 4) 25) := fun x hx => by
  rw [env_run rfl rfl]
  refine vet_Check_run (by omega) (fun x => ?_) (fun x => ?_) x hx
  · rw [env_run rfl rfl]; exact vet_segment_run (sb_In F k n) x
  · rw [env_run rfl rfl]; exact vet_numbers_run (sb_In F k n) x
theorem sb_Wr (n : Nat) : WrC ((env ((0, F, k) :: sbTab) lexVals noEnv 70000 (n + 2)).pt 79) := by
  rw [sb_run F k (f := 79) rfl (by decide +kernel)]
  refine WriteString_run _ _ ?_
  rw [sb_run F k (f := 228) rfl (by decide +kernel)]; exact copyCheck_run _ _
theorem sb_Wr7 (n : Nat) : WrC7 ((env ((0, F, k) :: sbTab) lexVals noEnv 70000 (n + 2)).pt 79) := by
  rw [sb_run F k (f := 79) rfl (by decide +kernel)]
  refine WriteString_run7 _ _ ?_
  rw [sb_run F k (f := 228) rfl (by decide +kernel)]; exact copyCheck_run7 _ _
theorem sb_Show (n : Nat) : TextC (env ((0, F, k) :: sbTab) lexVals noEnv 70000 (n + 5) 48) := fun s hs hn => by
  rw [env_run rfl rfl]
  refine show_Text_run _ _ (by omega) (sb_Chk F k n) ?_ ?_ ?_ ?_ ?_ s hs hn
  · intro x; rw [env_run rfl rfl]; exact show_Template_run _ _ x
  · intro x; rw [env_run rfl rfl]; exact show_Dispatcher_run _ _ x
  · rw [sb_run F k (f := 70) rfl (by decide +kernel)]; exact show_line_run _ _ (by omega) (sb_Wr F k _) (sb_Of F k _)
  · rw [sb_run F k (f := 70) rfl (by decide +kernel)]; exact show_line_run7 _ _ (by omega) (sb_Wr F k _) (sb_Wr7 F k _) (sb_Of F k _)
  · rw [sb_run F k (f := 69) rfl (by decide +kernel)]; exact BString_run _ _
theorem sb_Ref (n : Nat) : ChkC (env ((0, F, k) :: sbTab) lexVals noEnv 70000 (n + 3) 26) := fun s h => by
  rw [env_run rfl rfl]; exact ref20_Check_run (M := 69900) (sb_In2 _ _ _) s h
end
theorem ref20_Same_runK {Γ : Env} {M : Nat} (hM : 10 < M) : SameK (run Γ M ref20_Same_f) := by
  intro a b ha hb
  have hmax := maxLen_eq
  unfold sameS
  by_cases c1 : a.segs.length = b.segs.length
  · obtain ⟨ax, s', (⟨rfl, rfl, h4⟩ | ⟨rfl, rfl, h4⟩), h3⟩ := ref20_Same_segs (Γ := Γ) (N := M) (M := M) (a := a) (b := b) c1 (by omega) (by omega)
    · have h5 : decide (a.segs = b.segs) = true := decide_eq_true h4
      simp -implicitDefEqProofs (disch := first | omega | (simp <;> fail) | assumption) [h3, h5]
    · simp -implicitDefEqProofs (disch := first | omega | (simp <;> fail) | assumption) [h3, h4]
  · have : a.segs ≠ b.segs := fun h => c1 (by rw [h])
    simp -implicitDefEqProofs (disch := omega) [c1, this]
theorem showBack_law (s : Scn) (hs : s.Ok) : env backTab lexVals noEnv 70000 20 0 [.agg s.cells] = some [bo true] := by
  rw [env_run rfl rfl]
  refine law27_ShowBack_run _ (sb_Ref _ _ _) (sb_Show _ _ _) (sb_Text _ _ _) ?_ back_alive s hs
  intro a b h1 h2; rw [env_run rfl rfl]; exact ref20_Same_runK (by omega) a b h1 h2
theorem showAgain_law (x : List UInt8) (hx : x.length ≤ maxLen) : env againTab lexVals noEnv 70000 20 0 [st x] = some [bo true] := by
  rw [env_run rfl rfl]
  refine law27_ShowAgain_run _ (sb_Show _ _ _) (sb_Text _ _ _) ?_ again_alive x hx
  intro a b h1 h2; rw [env_run rfl rfl]; exact ref20_Same_runK (by omega) a b h1 h2
end Go.Am
