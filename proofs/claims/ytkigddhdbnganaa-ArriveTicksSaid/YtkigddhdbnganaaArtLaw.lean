/- Law 28: ArriveTicks, over the functions together. -/
import Derived.Test.YtkigddhdbnganaaArJ
import Derived.Test.YtkigddhdbnganaaArK
import Derived.Test.YtkigddhdbnganaaUt
set_option linter.unusedVariables false
set_option linter.unusedSimpArgs false
set_option maxRecDepth 10000
set_option maxHeartbeats 1000000
namespace Go.Am
abbrev artTab : Tab := [(0, law28_ArriveTicks_f, 2), (24, vet_Bounds_f, 1), (20, vet_In_f, 2), (64, vet_numbers_f, 1), (63, vet_segment_f, 1), (25, vet_Check_f, 1), (23, ref20_Bounds_f, 1), (21, ref20_In_f, 2), (26, ref20_Check_f, 1), (482, when_ticks_f, 1), (480, when_At_f, 2), (477, when_Total_f, 1), (486, words_Left_f, 1), (484, words_Next_f, 1), (487, cumul_Weights_P_f, 1), (476, cumul_Table_f, 1), (485, cumul_Right_f, 1), (483, draw_Of_f, 2), (479, draw_Next_f, 2), (56, grid_Grid_Set_f, 3), (303, demand_weight_f, 2), (282, demand_Grid_f, 2), (318, pick_Total_f, 1), (317, words_Scale_f, 2), (307, pick_Of_f, 2), (286, demand_Of_f, 2), (319, ref13_Total_f, 1), (308, ref13_Of_f, 2), (305, ref21_weight_f, 3), (279, ref21_All_f, 2), (285, ref21_Of_f, 2), (378, ref01_Times_f, 2), (377, ref01_Over_f, 3), (501, ref11_Weights_f, 1), (499, ref11_Table_f, 1), (498, ref11_Means_f, 2), (500, ref28_Segment_f, 2), (491, ref28_List_f, 2), (473, arrive_Make_f, 2), (472, arrive_Gen_Over_f, 1), (478, arrive_Gen_one_f, 2), (471, arrive_Gen_Next_f, 1), (495, arrive_Gen_Tick_f, 1), (494, arrive_Gen_Stream_f, 1), (492, law28_Small_f, 1), (488, slices_Equal_Sapi_Passenger_api_Passenger_f, 2), (490, law28_alive_f, 0), (497, law28_Plain_f, 2), (474, arrive_List_f, 2)]
abbrev artTabV : List (Nat × Nat) := []
theorem artTab_alive : env artTab artTabV arvEnv 120000 (30) 490 [] = some [bo true] := yesU_eq (by decide +kernel)
theorem arriveTicks_law (s : Scn) (ws : List Nat) (hmax : s.segs.length ≤ maxLen) (hws : ∀ w ∈ ws, w < 4294967296) (hwm : ws.length ≤ maxLen) : env artTab artTabV arvEnv 120000 (31) 0 [.agg s.cells, wV ws] = some [bo true] := by
  have c24_Bounds (n : Nat) : Bounds (env artTab artTabV arvEnv 120000 (n + 1) 24) := by
    have h : Bounds (run (env artTab artTabV arvEnv 120000 (n + 0)) 120000 vet_Bounds_f) := vet_Bounds_run _ _
    unfold Bounds at h ⊢; intros; rw [env_run rfl rfl]; apply h <;> assumption
  have c20_InC (n : Nat) : InC (env artTab artTabV arvEnv 120000 (n + 2) 20) := by
    have h : InC (run (env artTab artTabV arvEnv 120000 (n + 1)) 120000 vet_In_f) := vet_In_run (c24_Bounds (n + 0))
    unfold InC at h ⊢; intros; rw [env_run rfl rfl]; apply h <;> assumption
  have c64_Numbers (n : Nat) : Numbers (env artTab artTabV arvEnv 120000 (n + 3) 64) := by
    have h : Numbers (run (env artTab artTabV arvEnv 120000 (n + 2)) 120000 vet_numbers_f) := vet_numbers_run (c20_InC (n + 0))
    unfold Numbers at h ⊢; intros; rw [env_run rfl rfl]; apply h <;> assumption
  have c63_SegC (n : Nat) : SegC (env artTab artTabV arvEnv 120000 (n + 3) 63) := by
    have h : SegC (run (env artTab artTabV arvEnv 120000 (n + 2)) 120000 vet_segment_f) := vet_segment_run (c20_InC (n + 0))
    unfold SegC at h ⊢; intros; rw [env_run rfl rfl]; apply h <;> assumption
  have c25_ChkC (n : Nat) : ChkC (env artTab artTabV arvEnv 120000 (n + 4) 25) := by
    have h : ChkC (run (env artTab artTabV arvEnv 120000 (n + 3)) 120000 vet_Check_f) := vet_Check_run (by omega) (c63_SegC (n + 0)) (c64_Numbers (n + 0))
    unfold ChkC at h ⊢; intros; rw [env_run rfl rfl]; apply h <;> assumption
  have c23_Bounds (n : Nat) : Bounds (env artTab artTabV arvEnv 120000 (n + 1) 23) := by
    have h : Bounds (run (env artTab artTabV arvEnv 120000 (n + 0)) 120000 ref20_Bounds_f) := ref20_Bounds_run _ 119980
    unfold Bounds at h ⊢; intros; rw [env_run rfl rfl]; apply h <;> assumption
  have c21_InC (n : Nat) : InC (env artTab artTabV arvEnv 120000 (n + 2) 21) := by
    have h : InC (run (env artTab artTabV arvEnv 120000 (n + 1)) 120000 ref20_In_f) := ref20_In_run (c23_Bounds (n + 0))
    unfold InC at h ⊢; intros; rw [env_run rfl rfl]; apply h <;> assumption
  have c26_ChkC (n : Nat) : ChkC (env artTab artTabV arvEnv 120000 (n + 3) 26) := by
    have h : ChkC (run (env artTab artTabV arvEnv 120000 (n + 2)) 120000 ref20_Check_f) := ref20_Check_run (M := 119900) (c21_InC (n + 0))
    unfold ChkC at h ⊢; intros; rw [env_run rfl rfl]; apply h <;> assumption
  have c482_TickC (n : Nat) : TickC (env artTab artTabV arvEnv 120000 (n + 1) 482) := by
    have h : TickC (run (env artTab artTabV arvEnv 120000 (n + 0)) 120000 when_ticks_f) := when_ticks_run _ _
    unfold TickC at h ⊢; intros; rw [env_run rfl rfl]; apply h <;> assumption
  have c480_WhenC (n : Nat) : WhenC (env artTab artTabV arvEnv 120000 (n + 2) 480) := by
    have h : WhenC (run (env artTab artTabV arvEnv 120000 (n + 1)) 120000 when_At_f) := when_At_run _ _ (by omega) (c482_TickC (n + 0))
    unfold WhenC at h ⊢; intros; rw [env_run rfl rfl]; apply h <;> assumption
  have c477_TotWC (n : Nat) : TotWC (env artTab artTabV arvEnv 120000 (n + 2) 477) := by
    have h : TotWC (run (env artTab artTabV arvEnv 120000 (n + 1)) 120000 when_Total_f) := when_Total_run _ _ (by omega) (c482_TickC (n + 0))
    unfold TotWC at h ⊢; intros; rw [env_run rfl rfl]; apply h <;> assumption
  have c486_LeftC (n : Nat) : LeftC (env artTab artTabV arvEnv 120000 (n + 1) 486) := by
    have h : LeftC (run (env artTab artTabV arvEnv 120000 (n + 0)) 120000 words_Left_f) := words_Left_run _ _
    unfold LeftC at h ⊢; intros; rw [env_run rfl rfl]; apply h <;> assumption
  have c484_NextWC (n : Nat) : NextWC (env artTab artTabV arvEnv 120000 (n + 2) 484) := by
    have h : NextWC (run (env artTab artTabV arvEnv 120000 (n + 1)) 120000 words_Next_f) := words_Next_run _ _ (c486_LeftC (n + 0))
    unfold NextWC at h ⊢
    constructor
    · intros; rw [env_run rfl rfl]; apply h.1 <;> assumption
    · intros; rw [env_run rfl rfl]; apply h.2 <;> assumption
  have c487_WtsC (n : Nat) : WtsC ((env artTab artTabV arvEnv 120000 (n + 1)).pt 487) := by
    rw [show (env artTab artTabV arvEnv 120000 (n + 1)).pt 487 = runP (env artTab artTabV arvEnv 120000 (n + 0)) 120000 cumul_Weights_P_f from funext fun s => env_runP (k := 1) rfl (by decide +kernel)]; exact cumul_Weights_run _ _ (by omega)
  have c476_TabC (n : Nat) : TabC (env artTab artTabV arvEnv 120000 (n + 2) 476) := by
    have h : TabC (run (env artTab artTabV arvEnv 120000 (n + 1)) 120000 cumul_Table_f) := cumul_Table_run _ _ (by omega) (c487_WtsC (n + 0))
    unfold TabC at h ⊢; intros; rw [env_run rfl rfl]; apply h <;> assumption
  have c485_RtbC (n : Nat) : RtbC (env artTab artTabV arvEnv 120000 (n + 1) 485) := by
    have h : RtbC (run (env artTab artTabV arvEnv 120000 (n + 0)) 120000 cumul_Right_f) := cumul_Right_run _ _ (by omega)
    unfold RtbC at h ⊢; intros; rw [env_run rfl rfl]; apply h <;> assumption
  have c483_DrawC (n : Nat) : DrawC (env artTab artTabV arvEnv 120000 (n + 1) 483) := by
    have h : DrawC (run (env artTab artTabV arvEnv 120000 (n + 0)) 120000 draw_Of_f) := draw_Of_run _ _ (by omega)
    unfold DrawC at h ⊢; intros; rw [env_run rfl rfl]; apply h <;> assumption
  have c479_DNextC (n : Nat) : DNextC (env artTab artTabV arvEnv 120000 (n + 3) 479) := by
    have h : DNextC (run (env artTab artTabV arvEnv 120000 (n + 2)) 120000 draw_Next_f) := draw_Next_run _ _ (c485_RtbC (n + 1)) (c484_NextWC (n + 0)) (c483_DrawC (n + 1))
    unfold DNextC at h ⊢
    constructor
    · intros; rw [env_run rfl rfl]; apply h.1 <;> assumption
    · intros; rw [env_run rfl rfl]; apply h.2 <;> assumption
  have c56_SetC (n : Nat) : SetC ((env artTab artTabV arvEnv 120000 (n + 1)).pt 56) := by
    rw [show (env artTab artTabV arvEnv 120000 (n + 1)).pt 56 = runP (env artTab artTabV arvEnv 120000 (n + 0)) 120000 grid_Grid_Set_f from funext fun s => env_runP (k := 3) rfl (by decide +kernel)]; exact grid_Set_run _ _
  have c303_WeightC (n : Nat) : WeightC (env artTab artTabV arvEnv 120000 (n + 1) 303) := by
    have h : WeightC (run (env artTab artTabV arvEnv 120000 (n + 0)) 120000 demand_weight_f) := demand_weight_run _ _
    unfold WeightC at h ⊢; intros; rw [env_run rfl rfl]; apply h <;> assumption
  have c282_GridC (n : Nat) : GridC ((env artTab artTabV arvEnv 120000 (n + 2)).pt 282) := by
    rw [show (env artTab artTabV arvEnv 120000 (n + 2)).pt 282 = runP (env artTab artTabV arvEnv 120000 (n + 1)) 120000 demand_Grid_f from funext fun s => env_runP (k := 2) rfl (by decide +kernel)]; exact demand_Grid_run _ _ (by omega) (c56_SetC (n + 0)) (c303_WeightC (n + 0))
  have c318_TotC (n : Nat) : TotC (env artTab artTabV arvEnv 120000 (n + 1) 318) := by
    have h : TotC (run (env artTab artTabV arvEnv 120000 (n + 0)) 120000 pick_Total_f) := pick_Total_run _ _ (by omega)
    unfold TotC at h ⊢; intros; rw [env_run rfl rfl]; apply h <;> assumption
  have c317_ScaleC (n : Nat) : ScaleC (env artTab artTabV arvEnv 120000 (n + 1) 317) := by
    have h : ScaleC (run (env artTab artTabV arvEnv 120000 (n + 0)) 120000 words_Scale_f) := words_Scale_run _ _
    unfold ScaleC at h ⊢; intros; rw [env_run rfl rfl]; apply h <;> assumption
  have c307_PickC (n : Nat) : PickC (env artTab artTabV arvEnv 120000 (n + 2) 307) := by
    have h : PickC (run (env artTab artTabV arvEnv 120000 (n + 1)) 120000 pick_Of_f) := pick_Of_run _ _ (by omega) (c318_TotC (n + 0)) (c317_ScaleC (n + 0))
    unfold PickC at h ⊢; intros; rw [env_run rfl rfl]; apply h <;> assumption
  have c286_OfG (n : Nat) : OfG ((env artTab artTabV arvEnv 120000 (n + 3)).pt 286) := by
    rw [show (env artTab artTabV arvEnv 120000 (n + 3)).pt 286 = runP (env artTab artTabV arvEnv 120000 (n + 2)) 120000 demand_Of_f from funext fun s => env_runP (k := 2) rfl (by decide +kernel)]; exact demand_OfG_run _ _ (by omega) (env_arv276 _ _ _ _ rfl) (c307_PickC (n + 0))
  have c319_TotC (n : Nat) : TotC (env artTab artTabV arvEnv 120000 (n + 1) 319) := by
    have h : TotC (run (env artTab artTabV arvEnv 120000 (n + 0)) 120000 ref13_Total_f) := ref13_Total_run _ _ (by omega)
    unfold TotC at h ⊢; intros; rw [env_run rfl rfl]; apply h <;> assumption
  have c308_PickC (n : Nat) : PickC (env artTab artTabV arvEnv 120000 (n + 2) 308) := by
    have h : PickC (run (env artTab artTabV arvEnv 120000 (n + 1)) 120000 ref13_Of_f) := ref13_Of_run _ _ (by omega) (c319_TotC (n + 0))
    unfold PickC at h ⊢; intros; rw [env_run rfl rfl]; apply h <;> assumption
  have c305_RWeightC (n : Nat) : RWeightC (env artTab artTabV arvEnv 120000 (n + 1) 305) := by
    have h : RWeightC (run (env artTab artTabV arvEnv 120000 (n + 0)) 120000 ref21_weight_f) := ref21_weight_run _ _
    unfold RWeightC at h ⊢; intros; rw [env_run rfl rfl]; apply h <;> assumption
  have c279_RAllC (n : Nat) : RAllC (env artTab artTabV arvEnv 120000 (n + 2) 279) := by
    have h : RAllC (run (env artTab artTabV arvEnv 120000 (n + 1)) 120000 ref21_All_f) := ref21_All_run _ _ (by omega) (c305_RWeightC (n + 0))
    unfold RAllC at h ⊢; intros; rw [env_run rfl rfl]; apply h <;> assumption
  have c285_ROfC (n : Nat) : ROfC (env artTab artTabV arvEnv 120000 (n + 3) 285) := by
    have h : ROfC (run (env artTab artTabV arvEnv 120000 (n + 2)) 120000 ref21_Of_f) := ref21_Of_run _ _ (by omega) (c308_PickC (n + 0))
    unfold ROfC at h ⊢; intros; rw [env_run rfl rfl]; apply h <;> assumption
  have c378_TimesH (n : Nat) : TimesH (env artTab artTabV arvEnv 120000 (n + 1) 378) := by
    have h : TimesH (run (env artTab artTabV arvEnv 120000 (n + 0)) 120000 ref01_Times_f) := ref01_TimesH_run _ _
    unfold TimesH at h ⊢; intros; rw [env_run rfl rfl]; apply h <;> assumption
  have c377_OverH (n : Nat) : OverH (env artTab artTabV arvEnv 120000 (n + 1) 377) := by
    have h : OverH (run (env artTab artTabV arvEnv 120000 (n + 0)) 120000 ref01_Over_f) := ref01_OverH_run _ _ (by omega)
    unfold OverH at h ⊢; intros; rw [env_run rfl rfl]; apply h <;> assumption
  have c501_RWtsC (n : Nat) : RWtsC (env artTab artTabV arvEnv 120000 (n + 1) 501) := by
    have h : RWtsC (run (env artTab artTabV arvEnv 120000 (n + 0)) 120000 ref11_Weights_f) := ref11_Weights_run _ _ (by omega)
    unfold RWtsC at h ⊢; intros; rw [env_run rfl rfl]; apply h <;> assumption
  have c499_RTabC (n : Nat) : RTabC (env artTab artTabV arvEnv 120000 (n + 2) 499) := by
    have h : RTabC (run (env artTab artTabV arvEnv 120000 (n + 1)) 120000 ref11_Table_f) := ref11_Table_run _ _ (by omega) (c501_RWtsC (n + 0)) (c378_TimesH (n + 0)) (c377_OverH (n + 0))
    unfold RTabC at h ⊢; intros; rw [env_run rfl rfl]; apply h <;> assumption
  have c498_MeansC (n : Nat) : MeansC (env artTab artTabV arvEnv 120000 (n + 1) 498) := by
    have h : MeansC (run (env artTab artTabV arvEnv 120000 (n + 0)) 120000 ref11_Means_f) := ref11_Means_run _ _ (by omega)
    unfold MeansC at h ⊢; intros; rw [env_run rfl rfl]; apply h <;> assumption
  have c500_RSegC (n : Nat) : RSegC (env artTab artTabV arvEnv 120000 (n + 1) 500) := by
    have h : RSegC (run (env artTab artTabV arvEnv 120000 (n + 0)) 120000 ref28_Segment_f) := ref28_Segment_run _ _ (by omega)
    unfold RSegC at h ⊢; intros; rw [env_run rfl rfl]; apply h <;> assumption
  have c491_RLstC (n : Nat) : RLstC (env artTab artTabV arvEnv 120000 (n + 4) 491) := by
    have h : RLstC (run (env artTab artTabV arvEnv 120000 (n + 3)) 120000 ref28_List_f) := ref28_List_run _ _ (by omega) (c500_RSegC (n + 2)) (c499_RTabC (n + 1)) (c498_MeansC (n + 2)) (c279_RAllC (n + 1)) (c285_ROfC (n + 0))
    unfold RLstC at h ⊢; intros; rw [env_run rfl rfl]; apply h <;> assumption
  have c473_MakeC (n : Nat) : MakeC ((env artTab artTabV arvEnv 120000 (n + 5)).pt 473) := by
    rw [show (env artTab artTabV arvEnv 120000 (n + 5)).pt 473 = runP (env artTab artTabV arvEnv 120000 (n + 4)) 120000 arrive_Make_f from funext fun s => env_runP (k := 2) rfl (by decide +kernel)]; exact arrive_Make_run _ _ (by omega) (c25_ChkC (n + 0)) (c476_TabC (n + 2)) (c282_GridC (n + 2))
  have c472_OverP (n : Nat) : OverP ((env artTab artTabV arvEnv 120000 (n + 3)).pt 472) := by
    rw [show (env artTab artTabV arvEnv 120000 (n + 3)).pt 472 = runP (env artTab artTabV arvEnv 120000 (n + 2)) 120000 arrive_Gen_Over_f from funext fun s => env_runP (k := 1) rfl (by decide +kernel)]; exact arrive_Over_run _ _ (c477_TotWC (n + 0))
  have c478_OneC (n : Nat) : OneC ((env artTab artTabV arvEnv 120000 (n + 4)).pt 478) := by
    rw [show (env artTab artTabV arvEnv 120000 (n + 4)).pt 478 = runP (env artTab artTabV arvEnv 120000 (n + 3)) 120000 arrive_Gen_one_f from funext fun s => env_runP (k := 2) rfl (by decide +kernel)]; exact arrive_one_run _ _ (c484_NextWC (n + 1)) (c286_OfG (n + 0))
  have c471_NxC (n : Nat) : NxC ((env artTab artTabV arvEnv 120000 (n + 5)).pt 471) := by
    rw [show (env artTab artTabV arvEnv 120000 (n + 5)).pt 471 = runP (env artTab artTabV arvEnv 120000 (n + 4)) 120000 arrive_Gen_Next_f from funext fun s => env_runP (k := 1) rfl (by decide +kernel)]; exact arrive_Next_C _ _ (by omega) (c480_WhenC (n + 2)) (c472_OverP (n + 1)) (c479_DNextC (n + 1)) (c478_OneC (n + 0))
  have c495_TickP (n : Nat) : TickP ((env artTab artTabV arvEnv 120000 (n + 1)).pt 495) := by
    rw [show (env artTab artTabV arvEnv 120000 (n + 1)).pt 495 = runP (env artTab artTabV arvEnv 120000 (n + 0)) 120000 arrive_Gen_Tick_f from funext fun s => env_runP (k := 1) rfl (by decide +kernel)]; exact arrive_Tick_run _ _
  have c494_StrP (n : Nat) : StrP ((env artTab artTabV arvEnv 120000 (n + 1)).pt 494) := by
    rw [show (env artTab artTabV arvEnv 120000 (n + 1)).pt 494 = runP (env artTab artTabV arvEnv 120000 (n + 0)) 120000 arrive_Gen_Stream_f from funext fun s => env_runP (k := 1) rfl (by decide +kernel)]; exact arrive_Stream_run _ _
  have c492_SmlC (n : Nat) : SmlC (env artTab artTabV arvEnv 120000 (n + 4) 492) := by
    have h : SmlC (run (env artTab artTabV arvEnv 120000 (n + 3)) 120000 law28_Small_f) := law28_Small_run _ _ (c26_ChkC (n + 0))
    unfold SmlC at h ⊢; intros; rw [env_run rfl rfl]; apply h <;> assumption
  have c488_EqPC (n : Nat) : EqPC (env artTab artTabV arvEnv 120000 (n + 1) 488) := by
    have h : EqPC (run (env artTab artTabV arvEnv 120000 (n + 0)) 120000 slices_Equal_Sapi_Passenger_api_Passenger_f) := slices_Equal_P_run _ _ (by omega)
    unfold EqPC at h ⊢; intros; rw [env_run rfl rfl]; apply h <;> assumption
  rw [env_run rfl rfl]
  exact ArriveTicks_run _ _ (by omega) (c473_MakeC 25) (c472_OverP 27) (c495_TickP 29) (c494_StrP 29) (c471_NxC 25) (c492_SmlC 26) (c491_RLstC 26) (c488_EqPC 29) artTab_alive s ws hmax hws hwm
end Go.Am
