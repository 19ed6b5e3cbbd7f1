/- Law 21: DemandOf, over the functions together. -/
import Derived.Test.YtiabedphaioidaaDemO
import Derived.Test.YtiabedphaioidaaUt
set_option linter.unusedVariables false
set_option linter.unusedSimpArgs false
set_option maxRecDepth 10000
set_option maxHeartbeats 1000000
namespace Go.Am
abbrev ofTab : Tab := [(0, law21_DemandOf_f, 2), (56, grid_Grid_Set_f, 3), (318, pick_Total_f, 1), (317, words_Scale_f, 2), (307, pick_Of_f, 2), (286, demand_Of_f, 2), (319, ref13_Total_f, 1), (308, ref13_Of_f, 2), (285, ref21_Of_f, 2), (278, law21_alive_f, 0), (281, demand_Total_f, 2), (304, grid_Grid_Sum_f, 1), (282, demand_Grid_f, 2), (303, demand_weight_f, 2)]
abbrev ofTabV : List (Nat × Nat) := []
theorem ofTab_alive : env ofTab ofTabV demEnv 120000 (9) 278 [] = some [bo true] := yesU_eq (by decide +kernel)
theorem of_law (l : List W3) (hv : ∀ m ∈ l, -9223372036854775808 ≤ m.2.2 ∧ m.2.2 ≤ 9223372036854775807) (w : Int) (hw1 : 0 ≤ w) (hw2 : w ≤ 4294967295) : env ofTab ofTabV demEnv 120000 (10) 0 [dW l, u32 w] = some [bo true] := by
  have c56_SetC (n : Nat) : SetC ((env ofTab ofTabV demEnv 120000 (n + 1)).pt 56) := by
    rw [show (env ofTab ofTabV demEnv 120000 (n + 1)).pt 56 = runP (env ofTab ofTabV demEnv 120000 (n + 0)) 120000 grid_Grid_Set_f from funext fun s => env_runP (k := 3) rfl (by decide +kernel)]; exact grid_Set_run _ _
  have c318_TotC (n : Nat) : TotC (env ofTab ofTabV demEnv 120000 (n + 1) 318) := by
    have h : TotC (run (env ofTab ofTabV demEnv 120000 (n + 0)) 120000 pick_Total_f) := pick_Total_run _ _ (by omega)
    unfold TotC at h ⊢; intros; rw [env_run rfl rfl]; apply h <;> assumption
  have c317_ScaleC (n : Nat) : ScaleC (env ofTab ofTabV demEnv 120000 (n + 1) 317) := by
    have h : ScaleC (run (env ofTab ofTabV demEnv 120000 (n + 0)) 120000 words_Scale_f) := words_Scale_run _ _
    unfold ScaleC at h ⊢; intros; rw [env_run rfl rfl]; apply h <;> assumption
  have c307_PickC (n : Nat) : PickC (env ofTab ofTabV demEnv 120000 (n + 2) 307) := by
    have h : PickC (run (env ofTab ofTabV demEnv 120000 (n + 1)) 120000 pick_Of_f) := pick_Of_run _ _ (by omega) (c318_TotC (n + 0)) (c317_ScaleC (n + 0))
    unfold PickC at h ⊢; intros; rw [env_run rfl rfl]; apply h <;> assumption
  have c286_OfC (n : Nat) : OfC ((env ofTab ofTabV demEnv 120000 (n + 3)).pt 286) := by
    rw [show (env ofTab ofTabV demEnv 120000 (n + 3)).pt 286 = runP (env ofTab ofTabV demEnv 120000 (n + 2)) 120000 demand_Of_f from funext fun s => env_runP (k := 2) rfl (by decide +kernel)]; exact demand_Of_run _ _ (by omega) (env_pt276 _ _ _ _ rfl) (c307_PickC (n + 0))
  have c319_TotC (n : Nat) : TotC (env ofTab ofTabV demEnv 120000 (n + 1) 319) := by
    have h : TotC (run (env ofTab ofTabV demEnv 120000 (n + 0)) 120000 ref13_Total_f) := ref13_Total_run _ _ (by omega)
    unfold TotC at h ⊢; intros; rw [env_run rfl rfl]; apply h <;> assumption
  have c308_PickC (n : Nat) : PickC (env ofTab ofTabV demEnv 120000 (n + 2) 308) := by
    have h : PickC (run (env ofTab ofTabV demEnv 120000 (n + 1)) 120000 ref13_Of_f) := ref13_Of_run _ _ (by omega) (c319_TotC (n + 0))
    unfold PickC at h ⊢; intros; rw [env_run rfl rfl]; apply h <;> assumption
  have c285_ROfC (n : Nat) : ROfC (env ofTab ofTabV demEnv 120000 (n + 3) 285) := by
    have h : ROfC (run (env ofTab ofTabV demEnv 120000 (n + 2)) 120000 ref21_Of_f) := ref21_Of_run _ _ (by omega) (c308_PickC (n + 0))
    unfold ROfC at h ⊢; intros; rw [env_run rfl rfl]; apply h <;> assumption
  rw [env_run rfl rfl]
  exact DemandOf_run _ _ (by omega) (env_pt276 _ _ _ _ rfl) ofTab_alive (c56_SetC 8) (c286_OfC 6) (c285_ROfC 6) l hv w hw1 hw2
end Go.Am
