/- Law 58: ObserveStops, over the functions together. -/
import Derived.Test.YtkjlejpaajcahaaObM
import Derived.Test.YtkjlejpaajcahaaUt
set_option linter.unusedVariables false
set_option linter.unusedSimpArgs false
set_option maxRecDepth 10000
set_option maxHeartbeats 1000000
namespace Go.Am
abbrev obTab : Tab := [(0, law58_ObserveStops_f, 3), (57, grid_Grid_Get_f, 2), (56, grid_Grid_Set_f, 3), (58, grid_Grid_Add_f, 3), (459, observe_Grid_f, 1), (304, grid_Grid_Sum_f, 1), (76, observe_Stops_f, 1), (59, observe_At_f, 3), (457, law58_count_f, 2), (455, law58_at_f, 2), (461, slices_Index_Sobserve_Stop_observe_Stop_f, 2), (456, slices_Contains_Sobserve_Stop_observe_Stop_f, 2), (13, law58_alive_f, 0), (14, observe_Kind_f, 1), (12, observe_Like_f, 1)]
abbrev obTabV : List (Nat × Nat) := []
theorem obTab_alive : env obTab obTabV obsX 110000 (30) 13 [] = some [bo true] := yesU_eq (by decide +kernel)
theorem observeStops_law (l : List Trip) (car fl : Int) : env obTab obTabV obsX 110000 (31) 0 [vT l, i64 car, i64 fl] = some [bo true] := by
  have c57_GetC58 (n : Nat) : GetC58 ((env obTab obTabV obsX 110000 (n + 1)).pt 57) := by
    rw [show (env obTab obTabV obsX 110000 (n + 1)).pt 57 = runP (env obTab obTabV obsX 110000 (n + 0)) 110000 grid_Grid_Get_f from funext fun s => env_runP (k := 2) rfl (by decide +kernel)]; exact grid_Get_run _ _
  have c56_SetC58 (n : Nat) : SetC58 ((env obTab obTabV obsX 110000 (n + 1)).pt 56) := by
    rw [show (env obTab obTabV obsX 110000 (n + 1)).pt 56 = runP (env obTab obTabV obsX 110000 (n + 0)) 110000 grid_Grid_Set_f from funext fun s => env_runP (k := 3) rfl (by decide +kernel)]; exact grid_Set58_run _ _
  have c58_AddC58 (n : Nat) : AddC58 ((env obTab obTabV obsX 110000 (n + 2)).pt 58) := by
    rw [show (env obTab obTabV obsX 110000 (n + 2)).pt 58 = runP (env obTab obTabV obsX 110000 (n + 1)) 110000 grid_Grid_Add_f from funext fun s => env_runP (k := 3) rfl (by decide +kernel)]; exact grid_Add58_run _ _ (c57_GetC58 (n + 0)) (c56_SetC58 (n + 0))
  have c459_GridC58 (n : Nat) : GridC58 ((env obTab obTabV obsX 110000 (n + 3)).pt 459) := by
    rw [show (env obTab obTabV obsX 110000 (n + 3)).pt 459 = runP (env obTab obTabV obsX 110000 (n + 2)) 110000 observe_Grid_f from funext fun s => env_runP (k := 1) rfl (by decide +kernel)]; exact observe_Grid_run _ _ (by omega) (c58_AddC58 (n + 0))
  have c304_SumC (n : Nat) : SumC ((env obTab obTabV obsX 110000 (n + 1)).pt 304) := by
    rw [show (env obTab obTabV obsX 110000 (n + 1)).pt 304 = runP (env obTab obTabV obsX 110000 (n + 0)) 110000 grid_Grid_Sum_f from funext fun s => env_runP (k := 1) rfl (by decide +kernel)]; exact grid_Sum_run _ _ (by omega) (env_obs276 _ _ _ _ rfl)
  have c76_StopsC (n : Nat) : StopsC ((env obTab obTabV obsX 110000 (n + 1)).pt 76) := by
    rw [show (env obTab obTabV obsX 110000 (n + 1)).pt 76 = runP (env obTab obTabV obsX 110000 (n + 0)) 110000 observe_Stops_f from funext fun s => env_runP (k := 1) rfl (by decide +kernel)]; exact observe_Stops_run _ _ (by omega)
  have c59_AtC58 (n : Nat) : AtC58 (env obTab obTabV obsX 110000 (n + 2) 59) := by
    have h : AtC58 (run (env obTab obTabV obsX 110000 (n + 1)) 110000 observe_At_f) := observe_At_run _ _ (c76_StopsC (n + 0))
    unfold AtC58 at h ⊢; intros; rw [env_run rfl rfl]; apply h <;> assumption
  have c457_CntC58 (n : Nat) : CntC58 (env obTab obTabV obsX 110000 (n + 1) 457) := by
    have h : CntC58 (run (env obTab obTabV obsX 110000 (n + 0)) 110000 law58_count_f) := law58_count_run _ _ (by omega)
    unfold CntC58 at h ⊢; intros; rw [env_run rfl rfl]; apply h <;> assumption
  have c455_AtF58 (n : Nat) : AtF58 (env obTab obTabV obsX 110000 (n + 1) 455) := by
    have h : AtF58 (run (env obTab obTabV obsX 110000 (n + 0)) 110000 law58_at_f) := law58_at_run _ _ (by omega)
    unfold AtF58 at h ⊢; intros; rw [env_run rfl rfl]; apply h <;> assumption
  have c461_IdxC58 (n : Nat) : IdxC58 (env obTab obTabV obsX 110000 (n + 1) 461) := by
    have h : IdxC58 (run (env obTab obTabV obsX 110000 (n + 0)) 110000 slices_Index_Sobserve_Stop_observe_Stop_f) := slices_Index58_run _ _ (by omega)
    unfold IdxC58 at h ⊢; intros; rw [env_run rfl rfl]; apply h <;> assumption
  have c456_ConC58 (n : Nat) : ConC58 (env obTab obTabV obsX 110000 (n + 2) 456) := by
    have h : ConC58 (run (env obTab obTabV obsX 110000 (n + 1)) 110000 slices_Contains_Sobserve_Stop_observe_Stop_f) := slices_Contains58_run _ _ (c461_IdxC58 (n + 0))
    unfold ConC58 at h ⊢; intros; rw [env_run rfl rfl]; apply h <;> assumption
  rw [env_run rfl rfl]
  exact ObserveStops_run (by omega) (c459_GridC58 27) (c304_SumC 29) (c59_AtC58 28) (c76_StopsC 29) (env_busy rfl) (c57_GetC58 29) (c457_CntC58 29) (c455_AtF58 29) (c456_ConC58 28) obTab_alive l car fl
end Go.Am
