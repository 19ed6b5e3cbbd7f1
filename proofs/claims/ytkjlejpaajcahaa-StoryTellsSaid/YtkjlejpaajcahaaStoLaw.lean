/- Law 66: StoryTells, over the functions together. -/
import Derived.Test.YtkjlejpaajcahaaStS
import Derived.Test.YtkjlejpaajcahaaUt
set_option linter.unusedVariables false
set_option linter.unusedSimpArgs false
set_option maxRecDepth 10000
set_option maxHeartbeats 1000000
namespace Go.Am
theorem symC_zero (fv : Nat) (g : St → Option (List AV × List (Nat × Obj))) : SymC fv 0 g := by
  intro K P A B S a m b n gs rest _ _ _ _ _ _ _ hA hB hl; exfalso; simp at hl; omega
abbrev stoTab : Tab := [(0, law66_StoryTells_f, 2), (60, law24_Great_f, 1), (292, law25_Great_f, 1), (256, law35_Great_f, 2), (75, cmp_isNaN_int_f, 1), (165, cmp_isNaN_story_Kind_f, 1), (53, cmp_Compare_int_f, 2), (149, cmp_Compare_story_Kind_f, 2), (54, cmp_Or_int_f, 1), (209, story_Compare_f, 2), (362, slices_swapRangeCmpFunc_story_Event_f, 5), (354, slices_rotateCmpFunc_story_Event_f, 5), (332, slices_insertionSortCmpFunc_story_Event_f, 4), (331, slices_symMergeCmpFunc_story_Event_f, 5), (311, slices_stableCmpFunc_story_Event_f, 3), (293, slices_SortStableFunc_Sstory_Event_story_Event_f, 2), (210, ref66_Less_f, 2), (295, ref66_put_f, 2), (82, law66_all_f, 1), (83, slices_Equal_Sref66_E_ref66_E_f, 2), (294, track_Doors_f, 2), (113, ref25_At_f, 2), (128, ref25_All_f, 2), (296, ref25_Doors_f, 2), (255, story_Of_f, 2), (254, ref66_Of_f, 2), (84, law66_alive_f, 0), (86, story_Read_f, 1), (125, story_Text_f, 1), (35, lexer_Scan_f, 1), (123, story_event_f, 1), (148, story_word_f, 1), (79, strings_Builder_WriteString_f, 2), (50, digits_Of_f, 1), (69, strings_Builder_String_f, 1), (33, lexer_Blank_f, 1), (66, lexer_scanner_next_f, 1), (77, lexer_scanner_skip_f, 2), (78, lexer_scanner_run_f, 2), (218, lexer_scanner_next_1_f, 1), (31, lexer_Letter_f, 1), (32, lexer_Digit_f, 1), (213, lexer_scanner_number_f, 2), (228, strings_Builder_copyCheck_f, 1), (72, digits_Text_f, 1), (80, digits_plain_f, 1), (81, nums_Size_f, 1)]
abbrev stoTabV : List (Nat × Nat) := [(fv_story_Compare, 209), (fv_lexer_Letter, 31), (fv_lexer_Digit, 32), (fv_lexer_scanner_next_1, 218)]
theorem stoTab_alive : env stoTab stoTabV noEnv 100100 (19) 84 [] = some [bo true] := yesU_eq (by decide +kernel)
theorem storyTells_law (ts : List Trip) (ls : List (List Leg)) (u H : Int) : env stoTab stoTabV noEnv 100100 (20) 0 [.agg (logD ts ls u), i64 H] = some [bo true] := by
  have c60_Great24 (n : Nat) : Great24 (env stoTab stoTabV noEnv 100100 (n + 1) 60) := by
    have h : Great24 (run (env stoTab stoTabV noEnv 100100 (n + 0)) 100100 law24_Great_f) := law24_Great_run _ _ (by omega)
    unfold Great24 at h ⊢; intros; rw [env_run rfl rfl]; apply h <;> assumption
  have c292_Great25 (n : Nat) : Great25 (env stoTab stoTabV noEnv 100100 (n + 1) 292) := by
    have h : Great25 (run (env stoTab stoTabV noEnv 100100 (n + 0)) 100100 law25_Great_f) := law25_Great_run _ _ (by omega)
    unfold Great25 at h ⊢; intros; rw [env_run rfl rfl]; apply h <;> assumption
  have c256_Great35 (n : Nat) : Great35 (env stoTab stoTabV noEnv 100100 (n + 2) 256) := by
    have h : Great35 (run (env stoTab stoTabV noEnv 100100 (n + 1)) 100100 law35_Great_f) := law35_Great_run _ _ (by omega) (c292_Great25 (n + 0))
    unfold Great35 at h ⊢; intros; rw [env_run rfl rfl]; apply h <;> assumption
  have c75_NanC66 (n : Nat) : NanC66 (env stoTab stoTabV noEnv 100100 (n + 1) 75) := by
    have h : NanC66 (run (env stoTab stoTabV noEnv 100100 (n + 0)) 100100 cmp_isNaN_int_f) := isNaN_int_run66 _ _
    unfold NanC66 at h ⊢; intros; rw [env_run rfl rfl]; apply h <;> assumption
  have c165_NanC66 (n : Nat) : NanC66 (env stoTab stoTabV noEnv 100100 (n + 1) 165) := by
    have h : NanC66 (run (env stoTab stoTabV noEnv 100100 (n + 0)) 100100 cmp_isNaN_story_Kind_f) := isNaN_kind_run66 _ _
    unfold NanC66 at h ⊢; intros; rw [env_run rfl rfl]; apply h <;> assumption
  have c53_CmpC66 (n : Nat) : CmpC66 (env stoTab stoTabV noEnv 100100 (n + 2) 53) := by
    have h : CmpC66 (run (env stoTab stoTabV noEnv 100100 (n + 1)) 100100 cmp_Compare_int_f) := Compare_int_run66 _ _ (c75_NanC66 (n + 0))
    unfold CmpC66 at h ⊢; intros; rw [env_run rfl rfl]; apply h <;> assumption
  have c149_CmpC66 (n : Nat) : CmpC66 (env stoTab stoTabV noEnv 100100 (n + 2) 149) := by
    have h : CmpC66 (run (env stoTab stoTabV noEnv 100100 (n + 1)) 100100 cmp_Compare_story_Kind_f) := Compare_kind_run66 _ _ (c165_NanC66 (n + 0))
    unfold CmpC66 at h ⊢; intros; rw [env_run rfl rfl]; apply h <;> assumption
  have c54_OrC66 (n : Nat) : OrC66 (env stoTab stoTabV noEnv 100100 (n + 1) 54) := by
    have h : OrC66 (run (env stoTab stoTabV noEnv 100100 (n + 0)) 100100 cmp_Or_int_f) := cmp_Or_run66 _ 100080
    unfold OrC66 at h ⊢; intros; rw [env_run rfl rfl]; apply h <;> assumption
  have c209_CmpC (n : Nat) : CmpC (env stoTab stoTabV noEnv 100100 (n + 3) 209) := by
    have h : CmpC (run (env stoTab stoTabV noEnv 100100 (n + 2)) 100100 story_Compare_f) := story_Compare_run _ _ (c53_CmpC66 (n + 0)) (c149_CmpC66 (n + 0)) (c54_OrC66 (n + 1))
    unfold CmpC at h ⊢; intros; rw [env_run rfl rfl]; apply h <;> assumption
  have c362_SwapC (n : Nat) : SwapC ((env stoTab stoTabV noEnv 100100 (n + 1)).pt 362) := by
    rw [show (env stoTab stoTabV noEnv 100100 (n + 1)).pt 362 = runP (env stoTab stoTabV noEnv 100100 (n + 0)) 100100 slices_swapRangeCmpFunc_story_Event_f from funext fun s => env_runP (k := 5) rfl (by decide +kernel)]; exact swapRange_run _ _ (by omega)
  have c354_RotC (n : Nat) : RotC ((env stoTab stoTabV noEnv 100100 (n + 2)).pt 354) := by
    rw [show (env stoTab stoTabV noEnv 100100 (n + 2)).pt 354 = runP (env stoTab stoTabV noEnv 100100 (n + 1)) 100100 slices_rotateCmpFunc_story_Event_f from funext fun s => env_runP (k := 5) rfl (by decide +kernel)]; exact rotate_run _ _ (by omega) (c362_SwapC (n + 0))
  have c332_InsCfvstoryCompare (n : Nat) : InsC fv_story_Compare ((env stoTab stoTabV noEnv 100100 (n + 5)).pt 332) := by
    rw [show (env stoTab stoTabV noEnv 100100 (n + 5)).pt 332 = runP (env stoTab stoTabV noEnv 100100 (n + 4)) 100100 slices_insertionSortCmpFunc_story_Event_f from funext fun s => env_runP (k := 4) rfl (by decide +kernel)]; exact insSort_run _ _ _ (by omega) (show CmpC ((env stoTab stoTabV noEnv 100100 (n + 4)).fv fv_story_Compare) from c209_CmpC (n + 0))
  have c331_SymCfvstoryCompare (n : Nat) : SymC fv_story_Compare 12 ((env stoTab stoTabV noEnv 100100 (n + 16)).pt 331) := by
    have p (k : Nat) : ∀ n : Nat, SymC fv_story_Compare k ((env stoTab stoTabV noEnv 100100 (n + k + 4)).pt 331) := by
      induction k with
      | zero => intro n; exact (symC_zero _ _)
      | succ k ih =>
        intro n
        have hh : SymC fv_story_Compare (k + 1) (runP (env stoTab stoTabV noEnv 100100 (n + k + 4)) 100100 slices_symMergeCmpFunc_story_Event_f) := symMerge_run _ _ _ _ (by omega) (show CmpC ((env stoTab stoTabV noEnv 100100 ((n + k) + 4)).fv fv_story_Compare) from c209_CmpC ((n + k) + 0)) (c354_RotC ((n + k) + 2)) (ih n)
        have ee : (env stoTab stoTabV noEnv 100100 (n + k + 4 + 1)).pt 331 = runP (env stoTab stoTabV noEnv 100100 (n + k + 4)) 100100 slices_symMergeCmpFunc_story_Event_f := funext fun s => env_runP (k := 5) rfl (by decide +kernel)
        rw [show n + (k + 1) + 4 = (n + k + 4) + 1 by omega, ee]; exact hh
    have := p 12 n; rwa [show n + 12 + 4 = n + 16 by omega] at this
  have c311_StbCfvstoryCompare (n : Nat) : StbC fv_story_Compare ((env stoTab stoTabV noEnv 100100 (n + 17)).pt 311) := by
    rw [show (env stoTab stoTabV noEnv 100100 (n + 17)).pt 311 = runP (env stoTab stoTabV noEnv 100100 (n + 16)) 100100 slices_stableCmpFunc_story_Event_f from funext fun s => env_runP (k := 3) rfl (by decide +kernel)]; exact stable_run _ _ _ (by omega) (c332_InsCfvstoryCompare (n + 11)) (c331_SymCfvstoryCompare (n + 0))
  have c293_SsfCfvstoryCompare (n : Nat) : SsfC fv_story_Compare ((env stoTab stoTabV noEnv 100100 (n + 18)).pt 293) := by
    rw [show (env stoTab stoTabV noEnv 100100 (n + 18)).pt 293 = runP (env stoTab stoTabV noEnv 100100 (n + 17)) 100100 slices_SortStableFunc_Sstory_Event_story_Event_f from funext fun s => env_runP (k := 2) rfl (by decide +kernel)]; exact sortStable_run _ _ _ (c311_StbCfvstoryCompare (n + 0))
  have c210_LessC (n : Nat) : LessC (env stoTab stoTabV noEnv 100100 (n + 1) 210) := by
    have h : LessC (run (env stoTab stoTabV noEnv 100100 (n + 0)) 100100 ref66_Less_f) := ref66_Less_run _ _
    unfold LessC at h ⊢; intros; rw [env_run rfl rfl]; apply h <;> assumption
  have c295_PutC (n : Nat) : PutC (env stoTab stoTabV noEnv 100100 (n + 2) 295) := by
    have h : PutC (run (env stoTab stoTabV noEnv 100100 (n + 1)) 100100 ref66_put_f) := ref66_put_run _ _ (by omega) (c210_LessC (n + 0))
    unfold PutC at h ⊢; intros; rw [env_run rfl rfl]; apply h <;> assumption
  have c82_AllC (n : Nat) : AllC (env stoTab stoTabV noEnv 100100 (n + 1) 82) := by
    have h : AllC (run (env stoTab stoTabV noEnv 100100 (n + 0)) 100100 law66_all_f) := law66_all_run _ _ (by omega)
    unfold AllC at h ⊢; intros; rw [env_run rfl rfl]; apply h <;> assumption
  have c83_ESameC (n : Nat) : ESameC (env stoTab stoTabV noEnv 100100 (n + 1) 83) := by
    have h : ESameC (run (env stoTab stoTabV noEnv 100100 (n + 0)) 100100 slices_Equal_Sref66_E_ref66_E_f) := slices_Equal_E_run _ _ (by omega)
    unfold ESameC at h ⊢; intros; rw [env_run rfl rfl]; apply h <;> assumption
  have c294_DrsC (n : Nat) : DrsC (env stoTab stoTabV noEnv 100100 (n + 1) 294) := by
    have h : DrsC (run (env stoTab stoTabV noEnv 100100 (n + 0)) 100100 track_Doors_f) := track_Doors_run _ _ (by omega)
    unfold DrsC at h ⊢; intros; rw [env_run rfl rfl]; apply h <;> assumption
  have c113_At25C (n : Nat) : At25C (env stoTab stoTabV noEnv 100100 (n + 1) 113) := by
    have h : At25C (run (env stoTab stoTabV noEnv 100100 (n + 0)) 100100 ref25_At_f) := ref25_At_run _ _ (by omega)
    unfold At25C at h ⊢; intros; rw [env_run rfl rfl]; apply h <;> assumption
  have c128_All25C (n : Nat) : All25C (env stoTab stoTabV noEnv 100100 (n + 2) 128) := by
    have h : All25C (run (env stoTab stoTabV noEnv 100100 (n + 1)) 100100 ref25_All_f) := ref25_All_run _ _ (by omega) (c113_At25C (n + 0))
    unfold All25C at h ⊢; intros; rw [env_run rfl rfl]; apply h <;> assumption
  have c128_All25N (n : Nat) : All25N (env stoTab stoTabV noEnv 100100 (n + 1) 128) := by
    have h : All25N (run (env stoTab stoTabV noEnv 100100 (n + 0)) 100100 ref25_All_f) := ref25_All_nil _ _
    unfold All25N at h ⊢; intros; rw [env_run rfl rfl]; apply h <;> assumption
  have c296_Drs25C (n : Nat) : Drs25C (env stoTab stoTabV noEnv 100100 (n + 3) 296) := by
    have h : Drs25C (run (env stoTab stoTabV noEnv 100100 (n + 2)) 100100 ref25_Doors_f) := ref25_Doors_run _ _ (by omega) (c128_All25C (n + 0)) (c128_All25N (n + 1))
    unfold Drs25C at h ⊢; intros; rw [env_run rfl rfl]; apply h <;> assumption
  have c255_OfC66true (n : Nat) : OfC66 true (env stoTab stoTabV noEnv 100100 (n + 19) 255) := by
    have h : OfC66 true (run (env stoTab stoTabV noEnv 100100 (n + 18)) 100100 story_Of_f) := story_Of_run _ _ (by omega) (c294_DrsC (n + 17)) (c293_SsfCfvstoryCompare (n + 0))
    unfold OfC66 at h ⊢; intros; rw [env_run rfl rfl]; apply h <;> assumption
  have c254_OfC66false (n : Nat) : OfC66 false (env stoTab stoTabV noEnv 100100 (n + 4) 254) := by
    have h : OfC66 false (run (env stoTab stoTabV noEnv 100100 (n + 3)) 100100 ref66_Of_f) := ref66_Of_run _ _ (by omega) (c296_Drs25C (n + 0)) (c295_PutC (n + 1))
    unfold OfC66 at h ⊢; intros; rw [env_run rfl rfl]; apply h <;> assumption
  rw [env_run rfl rfl]
  exact StoryTells_run (by omega) (c60_Great24 18) (c256_Great35 17) (c255_OfC66true 0) (c254_OfC66false 15) (c82_AllC 18) (c83_ESameC 18) stoTab_alive ts ls u H
end Go.Am
