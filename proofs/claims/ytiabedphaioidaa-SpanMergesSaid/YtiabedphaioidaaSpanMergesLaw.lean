/- Law 9: SpanMerges, over the functions together. -/
import Derived.Test.YtiabedphaioidaaSpanM
import Derived.Test.YtiabedphaioidaaUt
set_option linter.unusedVariables false
set_option linter.unusedSimpArgs false
set_option maxRecDepth 10000
set_option maxHeartbeats 1000000
namespace Go.Am
theorem mgX (T : Tab) (I : List (Nat × Nat)) (n : Nat) (h1 : get T 368 = none) (h2 : get T 299 = none) : MgX (env T I mgEnv 30000 n) := by
  constructor
  · funext s; cases n <;> simp [env, envPt, h1, mgEnv]
  · funext s; cases n <;> simp [env, envPt, h2, mgEnv]
abbrev mgTab : Tab := [(0, law09_SpanMerges_f, 2), (301, ref09_bounds_f, 2), (268, ref09_Has_f, 2), (263, ref09_Make_f, 3), (264, slices_Equal_Sapi_Span_api_Span_f, 2), (265, span_Right_f, 1), (266, ref09_Right_f, 1), (314, span_Has_1_f, 2), (302, slices_BinarySearchFunc_Sapi_Span_api_Span_int_f, 3), (267, span_Has_f, 2), (270, span_Merge_f, 1), (269, law09_alive_f, 0)]
abbrev mgTabV : List (Nat × Nat) := [(fv_span_Has_1, 314)]
theorem mgTab_alive : env mgTab mgTabV mgEnv 30000 (9) 269 [] = some [bo true] := yesU_eq (by decide +kernel)
theorem merges_law (l : List Sp) (hok : ∀ s ∈ l, s.Ok) (n : Int) : env mgTab mgTabV mgEnv 30000 (10) 0 [spL l, i64 n] = some [bo true] := by
  have c301_BndC (n : Nat) : BndC (env mgTab mgTabV mgEnv 30000 (n + 1) 301) := by
    have h : BndC (run (env mgTab mgTabV mgEnv 30000 (n + 0)) 30000 ref09_bounds_f) := ref09_bounds_run _ _ (by omega)
    unfold BndC at h ⊢; intros; rw [env_run rfl rfl]; apply h <;> assumption
  have c268_HasC (n : Nat) : HasC (env mgTab mgTabV mgEnv 30000 (n + 1) 268) := by
    have h : HasC (run (env mgTab mgTabV mgEnv 30000 (n + 0)) 30000 ref09_Has_f) := ref09_Has_run _ _ (by omega)
    unfold HasC at h ⊢; intros; rw [env_run rfl rfl]; apply h <;> assumption
  have c263_MakeC (n : Nat) : MakeC (env mgTab mgTabV mgEnv 30000 (n + 2) 263) := by
    have h : MakeC (run (env mgTab mgTabV mgEnv 30000 (n + 1)) 30000 ref09_Make_f) := ref09_Make_run _ _ (by omega) (c301_BndC (n + 0)) (c268_HasC (n + 0))
    unfold MakeC at h ⊢; intros; rw [env_run rfl rfl]; apply h <;> assumption
  have c264_EqSpC (n : Nat) : EqSpC (env mgTab mgTabV mgEnv 30000 (n + 1) 264) := by
    have h : EqSpC (run (env mgTab mgTabV mgEnv 30000 (n + 0)) 30000 slices_Equal_Sapi_Span_api_Span_f) := slices_Equal_Sp_run _ _ (by omega)
    unfold EqSpC at h ⊢; intros; rw [env_run rfl rfl]; apply h <;> assumption
  have c265_RightC (n : Nat) : RightC (env mgTab mgTabV mgEnv 30000 (n + 1) 265) := by
    have h : RightC (run (env mgTab mgTabV mgEnv 30000 (n + 0)) 30000 span_Right_f) := span_Right_run _ _ (by omega)
    unfold RightC at h ⊢; intros; rw [env_run rfl rfl]; apply h <;> assumption
  have c266_RightC (n : Nat) : RightC (env mgTab mgTabV mgEnv 30000 (n + 1) 266) := by
    have h : RightC (run (env mgTab mgTabV mgEnv 30000 (n + 0)) 30000 ref09_Right_f) := ref09_Right_run _ _ (by omega)
    unfold RightC at h ⊢; intros; rw [env_run rfl rfl]; apply h <;> assumption
  have c314_CmpH (n : Nat) : CmpH (env mgTab mgTabV mgEnv 30000 (n + 1) 314) := by
    have h : CmpH (run (env mgTab mgTabV mgEnv 30000 (n + 0)) 30000 span_Has_1_f) := span_Has_1_run _ _
    unfold CmpH at h ⊢; intros; rw [env_run rfl rfl]; apply h <;> assumption
  have c302_BinC (n : Nat) : BinC' ((env mgTab mgTabV mgEnv 30000 (n + 3)).pt 302) := by
    rw [show (env mgTab mgTabV mgEnv 30000 (n + 3)).pt 302 = runP (env mgTab mgTabV mgEnv 30000 (n + 2)) 30000 slices_BinarySearchFunc_Sapi_Span_api_Span_int_f from funext fun s => env_runP (k := 3) rfl (by decide +kernel)]; exact bin_run _ _ (by omega) (show CmpH ((env mgTab mgTabV mgEnv 30000 (n + 2)).fv fv_span_Has_1) from c314_CmpH (n + 0))
  have c267_HasPC (n : Nat) : HasPC (env mgTab mgTabV mgEnv 30000 (n + 4) 267) := by
    have h : HasPC (run (env mgTab mgTabV mgEnv 30000 (n + 3)) 30000 span_Has_f) := span_Has_run _ _ (c302_BinC (n + 0))
    unfold HasPC at h ⊢; intros; rw [env_run rfl rfl]; apply h <;> assumption
  have c270_MergeC (n : Nat) : MergeC (env mgTab mgTabV mgEnv 30000 (n + 1) 270) := by
    have h : MergeC (run (env mgTab mgTabV mgEnv 30000 (n + 0)) 30000 span_Merge_f) := span_Merge_run _ _ (by omega) (mgX _ _ _ rfl rfl)
    unfold MergeC at h ⊢; intros; rw [env_run rfl rfl]; apply h <;> assumption
  rw [env_run rfl rfl]
  exact SpanMerges_run _ _ (c270_MergeC 8) (c264_EqSpC 8) (c263_MakeC 7) (c265_RightC 8) (c266_RightC 8) (c267_HasPC 5) (c268_HasC 8) mgTab_alive l hok n
end Go.Am
