/- Law 9: SpanLens, over the functions together. -/
import Derived.Test.YtiabedphaioidaaSpanX
import Derived.Test.YtiabedphaioidaaUt
set_option linter.unusedVariables false
set_option linter.unusedSimpArgs false
set_option maxRecDepth 10000
set_option maxHeartbeats 1000000
namespace Go.Am
abbrev lensTab : Tab := [(0, law09_SpanLens_f, 2), (301, ref09_bounds_f, 2), (268, ref09_Has_f, 2), (263, ref09_Make_f, 3), (273, span_And_f, 2), (274, span_Sub_f, 2), (272, span_Len_f, 1), (269, law09_alive_f, 0), (270, span_Merge_f, 1), (368, slices_Clone_Sapi_Span_api_Span_P_f, 1), (264, slices_Equal_Sapi_Span_api_Span_f, 2)]
abbrev lensTabV : List (Nat × Nat) := []
theorem lensTab_alive : env lensTab lensTabV spEnv 30000 (9) 269 [] = some [bo true] := yesU_eq (by decide +kernel)
theorem lens_law (x y : List Sp) (ox : ∀ s ∈ x, s.Ok) (oy : ∀ s ∈ y, s.Ok) : env lensTab lensTabV spEnv 30000 (10) 0 [spL x, spL y] = some [bo true] := by
  have c301_BndC (n : Nat) : BndC (env lensTab lensTabV spEnv 30000 (n + 1) 301) := by
    have h : BndC (run (env lensTab lensTabV spEnv 30000 (n + 0)) 30000 ref09_bounds_f) := ref09_bounds_run _ _ (by omega)
    unfold BndC at h ⊢; intros; rw [env_run rfl rfl]; apply h <;> assumption
  have c268_HasC (n : Nat) : HasC (env lensTab lensTabV spEnv 30000 (n + 1) 268) := by
    have h : HasC (run (env lensTab lensTabV spEnv 30000 (n + 0)) 30000 ref09_Has_f) := ref09_Has_run _ _ (by omega)
    unfold HasC at h ⊢; intros; rw [env_run rfl rfl]; apply h <;> assumption
  have c263_MakeC (n : Nat) : MakeC (env lensTab lensTabV spEnv 30000 (n + 2) 263) := by
    have h : MakeC (run (env lensTab lensTabV spEnv 30000 (n + 1)) 30000 ref09_Make_f) := ref09_Make_run _ _ (by omega) (c301_BndC (n + 0)) (c268_HasC (n + 0))
    unfold MakeC at h ⊢; intros; rw [env_run rfl rfl]; apply h <;> assumption
  have c273_AndC (n : Nat) : AndC (env lensTab lensTabV spEnv 30000 (n + 1) 273) := by
    have h : AndC (run (env lensTab lensTabV spEnv 30000 (n + 0)) 30000 span_And_f) := span_And_run _ _ (by omega)
    unfold AndC at h ⊢; intros; rw [env_run rfl rfl]; apply h <;> assumption
  have c274_SubC (n : Nat) : SubC (env lensTab lensTabV spEnv 30000 (n + 1) 274) := by
    have h : SubC (run (env lensTab lensTabV spEnv 30000 (n + 0)) 30000 span_Sub_f) := span_Sub_run _ _ (by omega)
    unfold SubC at h ⊢; intros; rw [env_run rfl rfl]; apply h <;> assumption
  have c272_LenC9 (n : Nat) : LenC9 (env lensTab lensTabV spEnv 30000 (n + 1) 272) := by
    have h : LenC9 (run (env lensTab lensTabV spEnv 30000 (n + 0)) 30000 span_Len_f) := span_Len_run _ _ (by omega)
    unfold LenC9 at h ⊢; intros; rw [env_run rfl rfl]; apply h <;> assumption
  rw [env_run rfl rfl]
  exact SpanLens_run _ _ (by omega) (c263_MakeC 7) (c273_AndC 8) (c274_SubC 8) (c272_LenC9 8) lensTab_alive (fun _ _ => trivial) x y ox oy
end Go.Am
