/- Law 59: GoalMet, over the functions together. -/
import Derived.Test.YtkhbfjmckgddeaaGm
import Derived.Test.YtkhbfjmckgddeaaUt
set_option linter.unusedVariables false
set_option linter.unusedSimpArgs false
set_option maxRecDepth 10000
set_option maxHeartbeats 1000000
namespace Go.Am
abbrev metTab : Tab := [(0, law59_GoalMet_f, 2), (248, rank_Place_f, 2), (367, slices_Clone_Sint_int_P_f, 1), (252, rank_Of_f, 2), (60, law24_Great_f, 1), (51, trip_At_f, 1), (407, ref24_At_f, 1), (402, ref24_Many_f, 2), (403, trip_Counts_f, 1), (408, trip_done_f, 1), (405, trip_Waits_f, 1), (406, trip_Transits_f, 1), (401, ref24_Waits_f, 2), (404, goal_numbers_f, 2), (398, goal_Met_f, 2), (399, ref59_Met_f, 2), (397, goal_Failed_f, 2), (100, ref59_Right_f, 1), (99, law59_of_f, 1), (109, slices_Equal_Sint_int_f, 2), (96, law59_alive_f, 0), (97, goal_Read_f, 1), (103, goal_Text_f, 1), (145, goal_goal_f, 1), (98, goal_Right_f, 1), (143, goal_word_f, 1), (35, lexer_Scan_f, 1), (66, lexer_scanner_next_f, 1), (33, lexer_Blank_f, 1), (77, lexer_scanner_skip_f, 2), (78, lexer_scanner_run_f, 2), (218, lexer_scanner_next_1_f, 1), (31, lexer_Letter_f, 1), (32, lexer_Digit_f, 1), (213, lexer_scanner_number_f, 2), (228, strings_Builder_copyCheck_f, 1), (79, strings_Builder_WriteString_f, 2), (69, strings_Builder_String_f, 1), (50, digits_Of_f, 1), (72, digits_Text_f, 1), (80, digits_plain_f, 1), (81, nums_Size_f, 1)]
abbrev metTabV : List (Nat × Nat) := [(fv_lexer_Letter, 31), (fv_lexer_Digit, 32), (fv_lexer_scanner_next_1, 218)]
theorem metTab_alive : env metTab metTabV srtEnv 70000 (12) 96 [] = some [bo true] := yesU_eq (by decide +kernel)
theorem goalMet_law (gs : List Gl) (l : List Trip) : env metTab metTabV srtEnv 70000 (13) 0 [.c (.vs 3 (gs.map Gl.cells)), vT l] = some [bo true] := by
  have c248_PlaceC15 (n : Nat) : PlaceC15 (env metTab metTabV srtEnv 70000 (n + 1) 248) := by
    have h : PlaceC15 (run (env metTab metTabV srtEnv 70000 (n + 0)) 70000 rank_Place_f) := rank_Place_run _ _
    unfold PlaceC15 at h ⊢; intros; rw [env_run rfl rfl]; apply h <;> assumption
  have c367_CloneP (n : Nat) : CloneP ((env metTab metTabV srtEnv 70000 (n + 1)).pt 367) := by
    rw [show (env metTab metTabV srtEnv 70000 (n + 1)).pt 367 = runP (env metTab metTabV srtEnv 70000 (n + 0)) 70000 slices_Clone_Sint_int_P_f from funext fun s => env_runP (k := 1) rfl (by decide +kernel)]; exact clone_run _ _
  have c252_OfC15 (n : Nat) : OfC15 (env metTab metTabV srtEnv 70000 (n + 2) 252) := by
    have h : OfC15 (run (env metTab metTabV srtEnv 70000 (n + 1)) 70000 rank_Of_f) := rank_Of_run _ _ (c248_PlaceC15 (n + 0)) (c367_CloneP (n + 0)) (env_srt rfl)
    unfold OfC15 at h ⊢; intros; rw [env_run rfl rfl]; apply h <;> assumption
  have c60_Great24 (n : Nat) : Great24 (env metTab metTabV srtEnv 70000 (n + 1) 60) := by
    have h : Great24 (run (env metTab metTabV srtEnv 70000 (n + 0)) 70000 law24_Great_f) := law24_Great_run _ _ (by omega)
    unfold Great24 at h ⊢; intros; rw [env_run rfl rfl]; apply h <;> assumption
  have c51_TAtC (n : Nat) : TAtC (env metTab metTabV srtEnv 70000 (n + 1) 51) := by
    have h : TAtC (run (env metTab metTabV srtEnv 70000 (n + 0)) 70000 trip_At_f) := trip_At_run _ _
    unfold TAtC at h ⊢; intros; rw [env_run rfl rfl]; apply h <;> assumption
  have c407_TAtC (n : Nat) : TAtC (env metTab metTabV srtEnv 70000 (n + 1) 407) := by
    have h : TAtC (run (env metTab metTabV srtEnv 70000 (n + 0)) 70000 ref24_At_f) := ref24_At_run _ _
    unfold TAtC at h ⊢; intros; rw [env_run rfl rfl]; apply h <;> assumption
  have c402_ManyC24 (n : Nat) : ManyC24 (env metTab metTabV srtEnv 70000 (n + 2) 402) := by
    have h : ManyC24 (run (env metTab metTabV srtEnv 70000 (n + 1)) 70000 ref24_Many_f) := ref24_Many_run _ _ (by omega) (c407_TAtC (n + 0))
    unfold ManyC24 at h ⊢; intros; rw [env_run rfl rfl]; apply h <;> assumption
  have c403_CountsC (n : Nat) : CountsC (env metTab metTabV srtEnv 70000 (n + 2) 403) := by
    have h : CountsC (run (env metTab metTabV srtEnv 70000 (n + 1)) 70000 trip_Counts_f) := trip_Counts_run _ _ (by omega) (c51_TAtC (n + 0))
    unfold CountsC at h ⊢; intros; rw [env_run rfl rfl]; apply h <;> assumption
  have c408_DoneC (n : Nat) : DoneC (env metTab metTabV srtEnv 70000 (n + 2) 408) := by
    have h : DoneC (run (env metTab metTabV srtEnv 70000 (n + 1)) 70000 trip_done_f) := trip_done_run _ _ (by omega) (c51_TAtC (n + 0))
    unfold DoneC at h ⊢; intros; rw [env_run rfl rfl]; apply h <;> assumption
  have c405_WaitsT (n : Nat) : WaitsT (env metTab metTabV srtEnv 70000 (n + 3) 405) := by
    have h : WaitsT (run (env metTab metTabV srtEnv 70000 (n + 2)) 70000 trip_Waits_f) := trip_Waits_run _ _ (by omega) (c408_DoneC (n + 0))
    unfold WaitsT at h ⊢; intros; rw [env_run rfl rfl]; apply h <;> assumption
  have c406_WaitsF (n : Nat) : WaitsF (env metTab metTabV srtEnv 70000 (n + 3) 406) := by
    have h : WaitsF (run (env metTab metTabV srtEnv 70000 (n + 2)) 70000 trip_Transits_f) := trip_Transits_run _ _ (by omega) (c408_DoneC (n + 0))
    unfold WaitsF at h ⊢; intros; rw [env_run rfl rfl]; apply h <;> assumption
  have c401_RWaitsC (n : Nat) : RWaitsC (env metTab metTabV srtEnv 70000 (n + 2) 401) := by
    have h : RWaitsC (run (env metTab metTabV srtEnv 70000 (n + 1)) 70000 ref24_Waits_f) := ref24_Waits_run _ _ (by omega) (c407_TAtC (n + 0))
    unfold RWaitsC at h ⊢; intros; rw [env_run rfl rfl]; apply h <;> assumption
  have c404_NumC (n : Nat) : NumC (env metTab metTabV srtEnv 70000 (n + 3) 404) := by
    have h : NumC (run (env metTab metTabV srtEnv 70000 (n + 2)) 70000 goal_numbers_f) := goal_numbers_run _ _ (by omega) (c252_OfC15 (n + 0))
    unfold NumC at h ⊢; intros; rw [env_run rfl rfl]; apply h <;> assumption
  have c398_MetCG (n : Nat) : MetCG (env metTab metTabV srtEnv 70000 (n + 4) 398) := by
    have h : MetCG (run (env metTab metTabV srtEnv 70000 (n + 3)) 70000 goal_Met_f) := goal_Met_run (c404_NumC (n + 0)) (c405_WaitsT (n + 0)) (c406_WaitsF (n + 0)) (c403_CountsC (n + 1))
    unfold MetCG at h ⊢; intros; rw [env_run rfl rfl]; apply h <;> assumption
  have c399_MetCR (n : Nat) : MetCR (env metTab metTabV srtEnv 70000 (n + 3) 399) := by
    have h : MetCR (run (env metTab metTabV srtEnv 70000 (n + 2)) 70000 ref59_Met_f) := ref59_Met_run (by omega) (c402_ManyC24 (n + 0)) (c401_RWaitsC (n + 0))
    unfold MetCR at h ⊢; intros; rw [env_run rfl rfl]; apply h <;> assumption
  have c397_FailC (n : Nat) : FailC (env metTab metTabV srtEnv 70000 (n + 5) 397) := by
    have h : FailC (run (env metTab metTabV srtEnv 70000 (n + 4)) 70000 goal_Failed_f) := goal_Failed_run (by omega) (c398_MetCG (n + 0))
    unfold FailC at h ⊢; intros; rw [env_run rfl rfl]; apply h <;> assumption
  have c100_RRightC (n : Nat) : RRightC (env metTab metTabV srtEnv 70000 (n + 1) 100) := by
    have h : RRightC (run (env metTab metTabV srtEnv 70000 (n + 0)) 70000 ref59_Right_f) := ref59_Right_run _ _
    unfold RRightC at h ⊢; intros; rw [env_run rfl rfl]; apply h <;> assumption
  have c99_OfC59 (n : Nat) : OfC59 (env metTab metTabV srtEnv 70000 (n + 1) 99) := by
    have h : OfC59 (run (env metTab metTabV srtEnv 70000 (n + 0)) 70000 law59_of_f) := law59_of_run _ _
    unfold OfC59 at h ⊢; intros; rw [env_run rfl rfl]; apply h <;> assumption
  have c109_EqI (n : Nat) : EqI (env metTab metTabV srtEnv 70000 (n + 1) 109) := by
    have h : EqI (run (env metTab metTabV srtEnv 70000 (n + 0)) 70000 slices_Equal_Sint_int_f) := slices_Equal_I_run _ _ (by omega)
    unfold EqI at h ⊢; intros; rw [env_run rfl rfl]; apply h <;> assumption
  rw [env_run rfl rfl]
  exact GoalMet_run (by omega) metTab_alive (c60_Great24 11) (c100_RRightC 11) (c99_OfC59 11) (c399_MetCR 9) (c398_MetCG 8) (c397_FailC 7) (c109_EqI 11) gs l
end Go.Am
