/- Law 21: DemandPairs, over the functions together. -/
import Derived.Test.YtiabedphaioidaaDemN
import Derived.Test.YtiabedphaioidaaUt
set_option linter.unusedVariables false
set_option linter.unusedSimpArgs false
set_option maxRecDepth 10000
set_option maxHeartbeats 1000000
namespace Go.Am
abbrev pairsTab : Tab := [(0, law21_DemandPairs_f, 3), (303, demand_weight_f, 2), (56, grid_Grid_Set_f, 3), (282, demand_Grid_f, 2), (318, pick_Total_f, 1), (317, words_Scale_f, 2), (307, pick_Of_f, 2), (286, demand_Of_f, 2), (288, demand_Pair_f, 3), (305, ref21_weight_f, 3), (279, ref21_All_f, 2), (319, ref13_Total_f, 1), (308, ref13_Of_f, 2), (285, ref21_Of_f, 2), (280, law21_why_f, 2), (278, law21_alive_f, 0), (281, demand_Total_f, 2), (304, grid_Grid_Sum_f, 1)]
abbrev pairsTabV : List (Nat × Nat) := []
theorem pairsTab_alive : env pairsTab pairsTabV demEnv 120000 (9) 278 [] = some [bo true] := yesU_eq (by decide +kernel)
theorem pairs_law (t f w : Int) (hw1 : 0 ≤ w) (hw2 : w ≤ 4294967295) : env pairsTab pairsTabV demEnv 120000 (10) 0 [i64 t, i64 f, u32 w] = some [bo true] := by
  have c303_WeightC (n : Nat) : WeightC (env pairsTab pairsTabV demEnv 120000 (n + 1) 303) := by
    have h : WeightC (run (env pairsTab pairsTabV demEnv 120000 (n + 0)) 120000 demand_weight_f) := demand_weight_run _ _
    unfold WeightC at h ⊢; intros; rw [env_run rfl rfl]; apply h <;> assumption
  have c56_SetC (n : Nat) : SetC ((env pairsTab pairsTabV demEnv 120000 (n + 1)).pt 56) := by
    rw [show (env pairsTab pairsTabV demEnv 120000 (n + 1)).pt 56 = runP (env pairsTab pairsTabV demEnv 120000 (n + 0)) 120000 grid_Grid_Set_f from funext fun s => env_runP (k := 3) rfl (by decide +kernel)]; exact grid_Set_run _ _
  have c282_GridC (n : Nat) : GridC ((env pairsTab pairsTabV demEnv 120000 (n + 2)).pt 282) := by
    rw [show (env pairsTab pairsTabV demEnv 120000 (n + 2)).pt 282 = runP (env pairsTab pairsTabV demEnv 120000 (n + 1)) 120000 demand_Grid_f from funext fun s => env_runP (k := 2) rfl (by decide +kernel)]; exact demand_Grid_run _ _ (by omega) (c56_SetC (n + 0)) (c303_WeightC (n + 0))
  have c318_TotC (n : Nat) : TotC (env pairsTab pairsTabV demEnv 120000 (n + 1) 318) := by
    have h : TotC (run (env pairsTab pairsTabV demEnv 120000 (n + 0)) 120000 pick_Total_f) := pick_Total_run _ _ (by omega)
    unfold TotC at h ⊢; intros; rw [env_run rfl rfl]; apply h <;> assumption
  have c317_ScaleC (n : Nat) : ScaleC (env pairsTab pairsTabV demEnv 120000 (n + 1) 317) := by
    have h : ScaleC (run (env pairsTab pairsTabV demEnv 120000 (n + 0)) 120000 words_Scale_f) := words_Scale_run _ _
    unfold ScaleC at h ⊢; intros; rw [env_run rfl rfl]; apply h <;> assumption
  have c307_PickC (n : Nat) : PickC (env pairsTab pairsTabV demEnv 120000 (n + 2) 307) := by
    have h : PickC (run (env pairsTab pairsTabV demEnv 120000 (n + 1)) 120000 pick_Of_f) := pick_Of_run _ _ (by omega) (c318_TotC (n + 0)) (c317_ScaleC (n + 0))
    unfold PickC at h ⊢; intros; rw [env_run rfl rfl]; apply h <;> assumption
  have c286_OfC (n : Nat) : OfC ((env pairsTab pairsTabV demEnv 120000 (n + 3)).pt 286) := by
    rw [show (env pairsTab pairsTabV demEnv 120000 (n + 3)).pt 286 = runP (env pairsTab pairsTabV demEnv 120000 (n + 2)) 120000 demand_Of_f from funext fun s => env_runP (k := 2) rfl (by decide +kernel)]; exact demand_Of_run _ _ (by omega) (env_pt276 _ _ _ _ rfl) (c307_PickC (n + 0))
  have c288_PairC (n : Nat) : PairC (env pairsTab pairsTabV demEnv 120000 (n + 4) 288) := by
    have h : PairC (run (env pairsTab pairsTabV demEnv 120000 (n + 3)) 120000 demand_Pair_f) := demand_Pair_run _ _ (c282_GridC (n + 1)) (c286_OfC (n + 0))
    unfold PairC at h ⊢
    constructor
    · intros; rw [env_run rfl rfl]; apply h.1 <;> assumption
    · intros; rw [env_run rfl rfl]; apply h.2 <;> assumption
  have c305_RWeightC (n : Nat) : RWeightC (env pairsTab pairsTabV demEnv 120000 (n + 1) 305) := by
    have h : RWeightC (run (env pairsTab pairsTabV demEnv 120000 (n + 0)) 120000 ref21_weight_f) := ref21_weight_run _ _
    unfold RWeightC at h ⊢; intros; rw [env_run rfl rfl]; apply h <;> assumption
  have c279_RAllC (n : Nat) : RAllC (env pairsTab pairsTabV demEnv 120000 (n + 2) 279) := by
    have h : RAllC (run (env pairsTab pairsTabV demEnv 120000 (n + 1)) 120000 ref21_All_f) := ref21_All_run _ _ (by omega) (c305_RWeightC (n + 0))
    unfold RAllC at h ⊢; intros; rw [env_run rfl rfl]; apply h <;> assumption
  have c319_TotC (n : Nat) : TotC (env pairsTab pairsTabV demEnv 120000 (n + 1) 319) := by
    have h : TotC (run (env pairsTab pairsTabV demEnv 120000 (n + 0)) 120000 ref13_Total_f) := ref13_Total_run _ _ (by omega)
    unfold TotC at h ⊢; intros; rw [env_run rfl rfl]; apply h <;> assumption
  have c308_PickC (n : Nat) : PickC (env pairsTab pairsTabV demEnv 120000 (n + 2) 308) := by
    have h : PickC (run (env pairsTab pairsTabV demEnv 120000 (n + 1)) 120000 ref13_Of_f) := ref13_Of_run _ _ (by omega) (c319_TotC (n + 0))
    unfold PickC at h ⊢; intros; rw [env_run rfl rfl]; apply h <;> assumption
  have c285_ROfC (n : Nat) : ROfC (env pairsTab pairsTabV demEnv 120000 (n + 3) 285) := by
    have h : ROfC (run (env pairsTab pairsTabV demEnv 120000 (n + 2)) 120000 ref21_Of_f) := ref21_Of_run _ _ (by omega) (c308_PickC (n + 0))
    unfold ROfC at h ⊢; intros; rw [env_run rfl rfl]; apply h <;> assumption
  have c280_WhyC (n : Nat) : WhyC (env pairsTab pairsTabV demEnv 120000 (n + 1) 280) := by
    have h : WhyC (run (env pairsTab pairsTabV demEnv 120000 (n + 0)) 120000 law21_why_f) := law21_why_run _ _
    unfold WhyC at h ⊢; intros; rw [env_run rfl rfl]; apply h <;> assumption
  rw [env_run rfl rfl]
  exact DemandPairs_run _ _ pairsTab_alive (c279_RAllC 7) (c285_ROfC 6) (c280_WhyC 8) (c288_PairC 5) t f w hw1 hw2
end Go.Am
