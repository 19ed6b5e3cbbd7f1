import Derived.Test.YtdnmppikakpdiaaRF
set_option maxHeartbeats 1000000
set_option maxRecDepth 10000
set_option linter.unusedVariables false
set_option linter.unusedSimpArgs false
set_option linter.unnecessarySimpa false
namespace Go.Am
abbrev rotT : Tab := [(0, law68_RotaPlays_f, 2), (301, ref09_bounds_f, 2), (268, ref09_Has_f, 2), (263, ref09_Make_f, 3), (264, slices_Equal_Sapi_Span_api_Span_f, 2), (314, span_Has_1_f, 2), (302, slices_BinarySearchFunc_Sapi_Span_api_Span_int_f, 3), (267, span_Has_f, 2), (270, span_Merge_f, 1), (462, rota_Rota_In_f, 3), (463, rota_Rota_Out_f, 3), (464, rota_Rota_Spans_f, 2), (466, rota_Rota_Serves_f, 3), (467, rota_Rota_Back_f, 3), (468, rota_Rota_Many_f, 3), (469, rota_Rota_None_f, 3), (465, law68_row_f, 2), (470, law68_alive_f, 0)]
abbrev rotTV : List (Nat × Nat) := [(fv_span_Has_1, 314)]
theorem rotT_alive : env rotT rotTV roX 30000 (30) 470 [] = some [bo true] := yesU_eq (by decide +kernel)
theorem rotaPlays_law (ops : List OpR) (a : AtR) (hok : ∀ o ∈ ops, o.s.Ok) (hof : a.of.Ok) : env rotT rotTV roX 30000 (31) 0 [.c (.vs 4 (ops.map opRD)), .agg (atD a)] = some [bo true] := by
 have c301_BndC (n : Nat) : BndC (env rotT rotTV roX 30000 (n + 1) 301) := by
  have h : BndC (run (env rotT rotTV roX 30000 (n + 0)) 30000 ref09_bounds_f) := ref09_bounds_run _ _ (by omega)
  unfold BndC at h ⊢; intros; rw [env_run rfl rfl]; apply h <;> assumption
 have c268_HasC (n : Nat) : HasC (env rotT rotTV roX 30000 (n + 1) 268) := by
  have h : HasC (run (env rotT rotTV roX 30000 (n + 0)) 30000 ref09_Has_f) := ref09_Has_run _ _ (by omega)
  unfold HasC at h ⊢; intros; rw [env_run rfl rfl]; apply h <;> assumption
 have c263_MakeC (n : Nat) : MakeC (env rotT rotTV roX 30000 (n + 2) 263) := by
  have h : MakeC (run (env rotT rotTV roX 30000 (n + 1)) 30000 ref09_Make_f) := ref09_Make_run _ _ (by omega) (c301_BndC (n + 0)) (c268_HasC (n + 0))
  unfold MakeC at h ⊢; intros; rw [env_run rfl rfl]; apply h <;> assumption
 have c264_EqSpC (n : Nat) : EqSpC (env rotT rotTV roX 30000 (n + 1) 264) := by
  have h : EqSpC (run (env rotT rotTV roX 30000 (n + 0)) 30000 slices_Equal_Sapi_Span_api_Span_f) := slices_Equal_Sp_run _ _ (by omega)
  unfold EqSpC at h ⊢; intros; rw [env_run rfl rfl]; apply h <;> assumption
 have c314_CmpH (n : Nat) : CmpH (env rotT rotTV roX 30000 (n + 1) 314) := by
  have h : CmpH (run (env rotT rotTV roX 30000 (n + 0)) 30000 span_Has_1_f) := span_Has_1_run _ _
  unfold CmpH at h ⊢; intros; rw [env_run rfl rfl]; apply h <;> assumption
 have c302_BinC (n : Nat) : BinC' ((env rotT rotTV roX 30000 (n + 3)).pt 302) := by
  rw [show (env rotT rotTV roX 30000 (n + 3)).pt 302 = runP (env rotT rotTV roX 30000 (n + 2)) 30000 slices_BinarySearchFunc_Sapi_Span_api_Span_int_f from funext fun s => env_runP (k := 3) rfl (by decide +kernel)]; exact bin_run _ _ (by omega) (show CmpH ((env rotT rotTV roX 30000 (n + 2)).fv fv_span_Has_1) from c314_CmpH (n + 0))
 have c267_HasPC (n : Nat) : HasPC (env rotT rotTV roX 30000 (n + 4) 267) := by
  have h : HasPC (run (env rotT rotTV roX 30000 (n + 3)) 30000 span_Has_f) := span_Has_run _ _ (c302_BinC (n + 0))
  unfold HasPC at h ⊢; intros; rw [env_run rfl rfl]; apply h <;> assumption
 have c270_MergeC (n : Nat) : MergeC (env rotT rotTV roX 30000 (n + 1) 270) := by
  have h : MergeC (run (env rotT rotTV roX 30000 (n + 0)) 30000 span_Merge_f) := span_Merge_run _ _ (by omega) (roMgX rfl rfl)
  unfold MergeC at h ⊢; intros; rw [env_run rfl rfl]; apply h <;> assumption
 have c462_InC (n : Nat) : InC ((env rotT rotTV roX 30000 (n + 1)).pt 462) := by
  rw [show (env rotT rotTV roX 30000 (n + 1)).pt 462 = runP (env rotT rotTV roX 30000 (n + 0)) 30000 rota_Rota_In_f from funext fun s => env_runP (k := 3) rfl (by decide +kernel)]; exact rota_Rota_In_run _ _ (sub_ro rfl)
 have c463_OutC (n : Nat) : OutC ((env rotT rotTV roX 30000 (n + 1)).pt 463) := by
  rw [show (env rotT rotTV roX 30000 (n + 1)).pt 463 = runP (env rotT rotTV roX 30000 (n + 0)) 30000 rota_Rota_Out_f from funext fun s => env_runP (k := 3) rfl (by decide +kernel)]; exact rota_Rota_Out_run _ _ (merge_ro rfl)
 have c464_SpansC (n : Nat) : SpansC ((env rotT rotTV roX 30000 (n + 1)).pt 464) := by
  rw [show (env rotT rotTV roX 30000 (n + 1)).pt 464 = runP (env rotT rotTV roX 30000 (n + 0)) 30000 rota_Rota_Spans_f from funext fun s => env_runP (k := 2) rfl (by decide +kernel)]; exact rota_Rota_Spans_run _ _
 have c466_ServesC (n : Nat) : ServesC ((env rotT rotTV roX 30000 (n + 5)).pt 466) := by
  rw [show (env rotT rotTV roX 30000 (n + 5)).pt 466 = runP (env rotT rotTV roX 30000 (n + 4)) 30000 rota_Rota_Serves_f from funext fun s => env_runP (k := 3) rfl (by decide +kernel)]; exact rota_Rota_Serves_run _ _ (c267_HasPC (n + 0))
 have c467_BackC (n : Nat) : BackC ((env rotT rotTV roX 30000 (n + 1)).pt 467) := by
  rw [show (env rotT rotTV roX 30000 (n + 1)).pt 467 = runP (env rotT rotTV roX 30000 (n + 0)) 30000 rota_Rota_Back_f from funext fun s => env_runP (k := 3) rfl (by decide +kernel)]; exact rota_Rota_Back_run _ _ (by omega)
 have c468_ManyC (n : Nat) : ManyC ((env rotT rotTV roX 30000 (n + 6)).pt 468) := by
  rw [show (env rotT rotTV roX 30000 (n + 6)).pt 468 = runP (env rotT rotTV roX 30000 (n + 5)) 30000 rota_Rota_Many_f from funext fun s => env_runP (k := 3) rfl (by decide +kernel)]; exact rota_Rota_Many_run _ _ (by omega) (c466_ServesC (n + 0))
 have c469_NoneC (n : Nat) : NoneC ((env rotT rotTV roX 30000 (n + 2)).pt 469) := by
  rw [show (env rotT rotTV roX 30000 (n + 2)).pt 469 = runP (env rotT rotTV roX 30000 (n + 1)) 30000 rota_Rota_None_f from funext fun s => env_runP (k := 3) rfl (by decide +kernel)]; exact rota_Rota_None_run _ _ (by omega) (c270_MergeC (n + 0)) (and_ro rfl)
 have c465_RowC (n : Nat) : RowC (env rotT rotTV roX 30000 (n + 3) 465) := by
  have h : RowC (run (env rotT rotTV roX 30000 (n + 2)) 30000 law68_row_f) := law68_row_run _ _ (by omega) (c263_MakeC (n + 0))
  unfold RowC at h ⊢; intros; rw [env_run rfl rfl]; apply h <;> assumption
 rw [env_run rfl rfl]
 exact law68_RotaPlays_run _ _ (by omega) ⟨(c462_InC 29), (c463_OutC 29), (c464_SpansC 29), (c465_RowC 27), (c466_ServesC 25), (c467_BackC 29), (c468_ManyC 24), (c469_NoneC 28), (c263_MakeC 28), (c264_EqSpC 29), (c268_HasC 29), rotT_alive⟩ ops a hok hof
end Go.Am
