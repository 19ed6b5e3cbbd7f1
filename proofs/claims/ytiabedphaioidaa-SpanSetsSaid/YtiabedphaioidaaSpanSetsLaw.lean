/- Law 9: SpanSets, over the functions together. -/
import Derived.Test.YtiabedphaioidaaSpanX
import Derived.Test.YtiabedphaioidaaUt
set_option linter.unusedVariables false
set_option linter.unusedSimpArgs false
set_option maxRecDepth 10000
set_option maxHeartbeats 1000000
namespace Go.Am
abbrev setsTab : Tab := [(0, law09_SpanSets_f, 3), (301, ref09_bounds_f, 2), (268, ref09_Has_f, 2), (263, ref09_Make_f, 3), (273, span_And_f, 2), (274, span_Sub_f, 2), (264, slices_Equal_Sapi_Span_api_Span_f, 2), (314, span_Has_1_f, 2), (302, slices_BinarySearchFunc_Sapi_Span_api_Span_int_f, 3), (267, span_Has_f, 2), (269, law09_alive_f, 0), (270, span_Merge_f, 1), (368, slices_Clone_Sapi_Span_api_Span_P_f, 1)]
abbrev setsTabV : List (Nat × Nat) := [(fv_span_Has_1, 314)]
theorem setsTab_alive : env setsTab setsTabV spEnv 30000 (9) 269 [] = some [bo true] := yesU_eq (by decide +kernel)
theorem sets_law (x y : List Sp) (ox : ∀ s ∈ x, s.Ok) (oy : ∀ s ∈ y, s.Ok) (n : Int) : env setsTab setsTabV spEnv 30000 (10) 0 [spL x, spL y, i64 n] = some [bo true] := by
  have c301_BndC (n : Nat) : BndC (env setsTab setsTabV spEnv 30000 (n + 1) 301) := by
    have h : BndC (run (env setsTab setsTabV spEnv 30000 (n + 0)) 30000 ref09_bounds_f) := ref09_bounds_run _ _ (by omega)
    unfold BndC at h ⊢; intros; rw [env_run rfl rfl]; apply h <;> assumption
  have c268_HasC (n : Nat) : HasC (env setsTab setsTabV spEnv 30000 (n + 1) 268) := by
    have h : HasC (run (env setsTab setsTabV spEnv 30000 (n + 0)) 30000 ref09_Has_f) := ref09_Has_run _ _ (by omega)
    unfold HasC at h ⊢; intros; rw [env_run rfl rfl]; apply h <;> assumption
  have c263_MakeC (n : Nat) : MakeC (env setsTab setsTabV spEnv 30000 (n + 2) 263) := by
    have h : MakeC (run (env setsTab setsTabV spEnv 30000 (n + 1)) 30000 ref09_Make_f) := ref09_Make_run _ _ (by omega) (c301_BndC (n + 0)) (c268_HasC (n + 0))
    unfold MakeC at h ⊢; intros; rw [env_run rfl rfl]; apply h <;> assumption
  have c273_AndC (n : Nat) : AndC (env setsTab setsTabV spEnv 30000 (n + 1) 273) := by
    have h : AndC (run (env setsTab setsTabV spEnv 30000 (n + 0)) 30000 span_And_f) := span_And_run _ _ (by omega)
    unfold AndC at h ⊢; intros; rw [env_run rfl rfl]; apply h <;> assumption
  have c274_SubC (n : Nat) : SubC (env setsTab setsTabV spEnv 30000 (n + 1) 274) := by
    have h : SubC (run (env setsTab setsTabV spEnv 30000 (n + 0)) 30000 span_Sub_f) := span_Sub_run _ _ (by omega)
    unfold SubC at h ⊢; intros; rw [env_run rfl rfl]; apply h <;> assumption
  have c264_EqSpC (n : Nat) : EqSpC (env setsTab setsTabV spEnv 30000 (n + 1) 264) := by
    have h : EqSpC (run (env setsTab setsTabV spEnv 30000 (n + 0)) 30000 slices_Equal_Sapi_Span_api_Span_f) := slices_Equal_Sp_run _ _ (by omega)
    unfold EqSpC at h ⊢; intros; rw [env_run rfl rfl]; apply h <;> assumption
  have c314_CmpH (n : Nat) : CmpH (env setsTab setsTabV spEnv 30000 (n + 1) 314) := by
    have h : CmpH (run (env setsTab setsTabV spEnv 30000 (n + 0)) 30000 span_Has_1_f) := span_Has_1_run _ _
    unfold CmpH at h ⊢; intros; rw [env_run rfl rfl]; apply h <;> assumption
  have c302_BinC (n : Nat) : BinC' ((env setsTab setsTabV spEnv 30000 (n + 3)).pt 302) := by
    rw [show (env setsTab setsTabV spEnv 30000 (n + 3)).pt 302 = runP (env setsTab setsTabV spEnv 30000 (n + 2)) 30000 slices_BinarySearchFunc_Sapi_Span_api_Span_int_f from funext fun s => env_runP (k := 3) rfl (by decide +kernel)]; exact bin_run _ _ (by omega) (show CmpH ((env setsTab setsTabV spEnv 30000 (n + 2)).fv fv_span_Has_1) from c314_CmpH (n + 0))
  have c267_HasPC (n : Nat) : HasPC (env setsTab setsTabV spEnv 30000 (n + 4) 267) := by
    have h : HasPC (run (env setsTab setsTabV spEnv 30000 (n + 3)) 30000 span_Has_f) := span_Has_run _ _ (c302_BinC (n + 0))
    unfold HasPC at h ⊢; intros; rw [env_run rfl rfl]; apply h <;> assumption
  rw [env_run rfl rfl]
  exact SpanSets_run _ _ (c263_MakeC 7) (c273_AndC 8) (c274_SubC 8) (c264_EqSpC 8) (c267_HasPC 5) setsTab_alive x y ox oy n
end Go.Am
