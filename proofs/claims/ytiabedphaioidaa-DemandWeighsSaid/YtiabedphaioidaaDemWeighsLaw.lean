/- Law 21: DemandWeighs, over the functions together. -/
import Derived.Test.YtiabedphaioidaaDemL
import Derived.Test.YtiabedphaioidaaUt
set_option linter.unusedVariables false
set_option linter.unusedSimpArgs false
set_option maxRecDepth 10000
set_option maxHeartbeats 1000000
namespace Go.Am
abbrev weighsTab : Tab := [(0, law21_DemandWeighs_f, 2), (303, demand_weight_f, 2), (56, grid_Grid_Set_f, 3), (282, demand_Grid_f, 2), (304, grid_Grid_Sum_f, 1), (281, demand_Total_f, 2), (305, ref21_weight_f, 3), (279, ref21_All_f, 2), (280, law21_why_f, 2), (277, slices_Equal_Sapi_Weight_api_Weight_f, 2), (278, law21_alive_f, 0)]
abbrev weighsTabV : List (Nat × Nat) := []
theorem weighsTab_alive : env weighsTab weighsTabV demEnv 120000 (9) 278 [] = some [bo true] := yesU_eq (by decide +kernel)
theorem weighs_law (t f : Int) : env weighsTab weighsTabV demEnv 120000 (10) 0 [i64 t, i64 f] = some [bo true] := by
  have c303_WeightC (n : Nat) : WeightC (env weighsTab weighsTabV demEnv 120000 (n + 1) 303) := by
    have h : WeightC (run (env weighsTab weighsTabV demEnv 120000 (n + 0)) 120000 demand_weight_f) := demand_weight_run _ _
    unfold WeightC at h ⊢; intros; rw [env_run rfl rfl]; apply h <;> assumption
  have c56_SetC (n : Nat) : SetC ((env weighsTab weighsTabV demEnv 120000 (n + 1)).pt 56) := by
    rw [show (env weighsTab weighsTabV demEnv 120000 (n + 1)).pt 56 = runP (env weighsTab weighsTabV demEnv 120000 (n + 0)) 120000 grid_Grid_Set_f from funext fun s => env_runP (k := 3) rfl (by decide +kernel)]; exact grid_Set_run _ _
  have c282_GridC (n : Nat) : GridC ((env weighsTab weighsTabV demEnv 120000 (n + 2)).pt 282) := by
    rw [show (env weighsTab weighsTabV demEnv 120000 (n + 2)).pt 282 = runP (env weighsTab weighsTabV demEnv 120000 (n + 1)) 120000 demand_Grid_f from funext fun s => env_runP (k := 2) rfl (by decide +kernel)]; exact demand_Grid_run _ _ (by omega) (c56_SetC (n + 0)) (c303_WeightC (n + 0))
  have c304_SumC (n : Nat) : SumC ((env weighsTab weighsTabV demEnv 120000 (n + 1)).pt 304) := by
    rw [show (env weighsTab weighsTabV demEnv 120000 (n + 1)).pt 304 = runP (env weighsTab weighsTabV demEnv 120000 (n + 0)) 120000 grid_Grid_Sum_f from funext fun s => env_runP (k := 1) rfl (by decide +kernel)]; exact grid_Sum_run _ _ (by omega) (env_pt276 _ _ _ _ rfl)
  have c281_TotalC (n : Nat) : TotalC (env weighsTab weighsTabV demEnv 120000 (n + 3) 281) := by
    have h : TotalC (run (env weighsTab weighsTabV demEnv 120000 (n + 2)) 120000 demand_Total_f) := demand_Total_run _ _ (c282_GridC (n + 0)) (c304_SumC (n + 1))
    unfold TotalC at h ⊢
    constructor
    · intros; rw [env_run rfl rfl]; apply h.1 <;> assumption
    · intros; rw [env_run rfl rfl]; apply h.2 <;> assumption
  have c305_RWeightC (n : Nat) : RWeightC (env weighsTab weighsTabV demEnv 120000 (n + 1) 305) := by
    have h : RWeightC (run (env weighsTab weighsTabV demEnv 120000 (n + 0)) 120000 ref21_weight_f) := ref21_weight_run _ _
    unfold RWeightC at h ⊢; intros; rw [env_run rfl rfl]; apply h <;> assumption
  have c279_RAllC (n : Nat) : RAllC (env weighsTab weighsTabV demEnv 120000 (n + 2) 279) := by
    have h : RAllC (run (env weighsTab weighsTabV demEnv 120000 (n + 1)) 120000 ref21_All_f) := ref21_All_run _ _ (by omega) (c305_RWeightC (n + 0))
    unfold RAllC at h ⊢; intros; rw [env_run rfl rfl]; apply h <;> assumption
  have c280_WhyC (n : Nat) : WhyC (env weighsTab weighsTabV demEnv 120000 (n + 1) 280) := by
    have h : WhyC (run (env weighsTab weighsTabV demEnv 120000 (n + 0)) 120000 law21_why_f) := law21_why_run _ _
    unfold WhyC at h ⊢; intros; rw [env_run rfl rfl]; apply h <;> assumption
  have c277_EqWC (n : Nat) : EqWC (env weighsTab weighsTabV demEnv 120000 (n + 1) 277) := by
    have h : EqWC (run (env weighsTab weighsTabV demEnv 120000 (n + 0)) 120000 slices_Equal_Sapi_Weight_api_Weight_f) := slices_Equal_W_run _ _ (by omega)
    unfold EqWC at h ⊢; intros; rw [env_run rfl rfl]; apply h <;> assumption
  rw [env_run rfl rfl]
  exact DemandWeighs_run _ _ (by omega) (env_pt276 _ _ _ _ rfl) (c277_EqWC 8) weighsTab_alive (c279_RAllC 7) (c280_WhyC 8) (c281_TotalC 6) (c282_GridC 7) t f
end Go.Am
