import Derived.Test.YtdnmppikakpdiaaCD
import Derived.Test.YtdnmppikakpdiaaUt
set_option maxHeartbeats 1000000
set_option maxRecDepth 10000
set_option linter.unusedVariables false
set_option linter.unusedSimpArgs false
set_option linter.unnecessarySimpa false
namespace Go.Am
abbrev ctOp : List CT := [.int .i64, .int .i64, .int .i64, .int .i64, .int .i64, .bool]
theorem op_row (r : List D) (h : All2 WT ctOp r) : ∃ o : Op29, r = op29D o := by
 simp only [ctOp, all2_cons, all2_nil, wt_i64, wt_bool] at h
 obtain ⟨_, _, rfl, ⟨a, rfl, ha⟩, _, _, rfl, ⟨b, rfl, hb⟩, _, _, rfl, ⟨c, rfl, hc⟩, _, _, rfl, ⟨d, rfl, hd⟩, _, _, rfl, ⟨e, rfl, he⟩, _, _, rfl, ⟨f, rfl⟩, rfl⟩ := h
 exact ⟨⟨a, (b, c, d, e), f⟩, rfl⟩
theorem wt_ops {d : D} (h : WT (.sl ctOp) d) : ∃ l : List Op29, d = .vs 6 (l.map op29D) := by
 rw [wt_sl] at h
 obtain ⟨rows, rfl, hl, h⟩ := h
 have : ∃ l : List Op29, rows = l.map op29D := by
  clear hl
  induction rows with
  | nil => exact ⟨[], rfl⟩
  | cons r rs ih =>
   obtain ⟨l, rfl⟩ := ih fun r hr => h r (List.mem_cons_of_mem _ hr)
   obtain ⟨o, rfl⟩ := op_row r (h r (List.mem_cons_self ..))
   exact ⟨o :: l, rfl⟩
 obtain ⟨l, rfl⟩ := this
 exact ⟨l, rfl⟩
abbrev quT : Tab := [(0, law29_QueuePlays_f, 1), (178, place_Sign_f, 1), (173, place_Dir_f, 2), (507, queue_Of_f, 1), (523, queue_cell_f, 2), (508, queue_Hall_Come_f, 2), (525, queue_Hall_Len_f, 2), (524, queue_Hall_First_f, 2), (520, queue_Hall_Call_f, 3), (521, queue_Hall_Take_f, 2), (511, queue_Hall_Clear_f, 3), (510, queue_Hall_Send_f, 4), (519, law29_dir_f, 2), (504, law29_key_f, 1), (512, law29_m_find_f, 3), (533, ref03_Make_f, 1), (528, ref03_Of_f, 1), (515, slices_Equal_Sapi_Waiter_api_Waiter_f, 2), (517, slices_Equal_Sapi_Call_api_Call_f, 2), (513, law29_m_lands_f, 3), (505, law29_m_told_f, 3), (509, law29_m_take_f, 3), (503, law29_m_step_f, 3), (502, law29_alive_f, 0)]
abbrev quTV : List (Nat × Nat) := []
theorem quT_alive : env quT quTV qX 3000 (30) 502 [] = some [bo true] := yesU_eq (by decide +kernel)
theorem queuePlays_law (ops : List Op29) : env quT quTV qX 3000 (31) 0 [.c (.vs 6 (ops.map op29D))] = some [bo true] := by
 have c178_SgnC (n : Nat) : SgnC (env quT quTV qX 3000 (n + 1) 178) := by
  have h : SgnC (run (env quT quTV qX 3000 (n + 0)) 3000 place_Sign_f) := place_Sign_run _ _
  unfold SgnC at h ⊢; intros; rw [env_run rfl rfl]; apply h <;> assumption
 have c173_DirC (n : Nat) : DirC (env quT quTV qX 3000 (n + 2) 173) := by
  have h : DirC (run (env quT quTV qX 3000 (n + 1)) 3000 place_Dir_f) := place_Dir_run _ _ (c178_SgnC (n + 0))
  unfold DirC at h ⊢; intros; rw [env_run rfl rfl]; apply h <;> assumption
 have c507_OfWC (n : Nat) : OfWC (env quT quTV qX 3000 (n + 3) 507) := by
  have h : OfWC (run (env quT quTV qX 3000 (n + 2)) 3000 queue_Of_f) := queue_Of_run _ _ (c173_DirC (n + 0))
  unfold OfWC at h ⊢; intros; rw [env_run rfl rfl]; apply h <;> assumption
 have c523_CellC (n : Nat) : CellC (env quT quTV qX 3000 (n + 1) 523) := by
  have h : CellC (run (env quT quTV qX 3000 (n + 0)) 3000 queue_cell_f) := queue_cell_run _ _
  unfold CellC at h ⊢; intros; rw [env_run rfl rfl]; apply h <;> assumption
 have c508_ComeC (n : Nat) : ComeC ((env quT quTV qX 3000 (n + 4)).pt 508) := by
  rw [show (env quT quTV qX 3000 (n + 4)).pt 508 = runP (env quT quTV qX 3000 (n + 3)) 3000 queue_Hall_Come_f from funext fun s => env_runP (k := 2) rfl (by decide +kernel)]; exact queue_Hall_Come_run _ _ (c507_OfWC (n + 0))
 have c525_LenC (n : Nat) : LenC ((env quT quTV qX 3000 (n + 1)).pt 525) := by
  rw [show (env quT quTV qX 3000 (n + 1)).pt 525 = runP (env quT quTV qX 3000 (n + 0)) 3000 queue_Hall_Len_f from funext fun s => env_runP (k := 2) rfl (by decide +kernel)]; exact queue_Hall_Len_run _ _
 have c524_FirstC (n : Nat) : FirstC ((env quT quTV qX 3000 (n + 1)).pt 524) := by
  rw [show (env quT quTV qX 3000 (n + 1)).pt 524 = runP (env quT quTV qX 3000 (n + 0)) 3000 queue_Hall_First_f from funext fun s => env_runP (k := 2) rfl (by decide +kernel)]; exact queue_Hall_First_run _ _
 have c520_CallC (n : Nat) : CallC ((env quT quTV qX 3000 (n + 2)).pt 520) := by
  rw [show (env quT quTV qX 3000 (n + 2)).pt 520 = runP (env quT quTV qX 3000 (n + 1)) 3000 queue_Hall_Call_f from funext fun s => env_runP (k := 3) rfl (by decide +kernel)]; exact queue_Hall_Call_run _ _ (c523_CellC (n + 0))
 have c521_TakeC (n : Nat) : TakeC ((env quT quTV qX 3000 (n + 2)).pt 521) := by
  rw [show (env quT quTV qX 3000 (n + 2)).pt 521 = runP (env quT quTV qX 3000 (n + 1)) 3000 queue_Hall_Take_f from funext fun s => env_runP (k := 2) rfl (by decide +kernel)]; exact queue_Hall_Take_run _ _ (c524_FirstC (n + 0))
 have c511_ClearC (n : Nat) : ClearC ((env quT quTV qX 3000 (n + 2)).pt 511) := by
  rw [show (env quT quTV qX 3000 (n + 2)).pt 511 = runP (env quT quTV qX 3000 (n + 1)) 3000 queue_Hall_Clear_f from funext fun s => env_runP (k := 3) rfl (by decide +kernel)]; exact queue_Hall_Clear_run _ _ (c523_CellC (n + 0))
 have c510_SendC (n : Nat) : SendC ((env quT quTV qX 3000 (n + 2)).pt 510) := by
  rw [show (env quT quTV qX 3000 (n + 2)).pt 510 = runP (env quT quTV qX 3000 (n + 1)) 3000 queue_Hall_Send_f from funext fun s => env_runP (k := 4) rfl (by decide +kernel)]; exact queue_Hall_Send_run _ _ (c523_CellC (n + 0))
 have c519_Dir29C (n : Nat) : Dir29C (env quT quTV qX 3000 (n + 1) 519) := by
  have h : Dir29C (run (env quT quTV qX 3000 (n + 0)) 3000 law29_dir_f) := law29_dir_run _ _
  unfold Dir29C at h ⊢; intros; rw [env_run rfl rfl]; apply h <;> assumption
 have c504_Key29C (n : Nat) : Key29C (env quT quTV qX 3000 (n + 2) 504) := by
  have h : Key29C (run (env quT quTV qX 3000 (n + 1)) 3000 law29_key_f) := law29_key_run _ _ (c519_Dir29C (n + 0))
  unfold Key29C at h ⊢; intros; rw [env_run rfl rfl]; apply h <;> assumption
 have c512_Find29C (n : Nat) : Find29C ((env quT quTV qX 3000 (n + 1)).pt 512) := by
  rw [show (env quT quTV qX 3000 (n + 1)).pt 512 = runP (env quT quTV qX 3000 (n + 0)) 3000 law29_m_find_f from funext fun s => env_runP (k := 3) rfl (by decide +kernel)]; exact law29_m_find_run _ _ (by omega)
 have c533_MakeC (n : Nat) : MakeC (env quT quTV qX 3000 (n + 1) 533) := by
  have h : MakeC (run (env quT quTV qX 3000 (n + 0)) 3000 ref03_Make_f) := ref03_Make_run _ _ (by omega)
  unfold MakeC at h ⊢; intros; rw [env_run rfl rfl]; apply h <;> assumption
 have c528_OfC3 (n : Nat) : OfC3 (env quT quTV qX 3000 (n + 2) 528) := by
  have h : OfC3 (run (env quT quTV qX 3000 (n + 1)) 3000 ref03_Of_f) := ref03_Of_run _ _ (by omega) (c533_MakeC (n + 0))
  unfold OfC3 at h ⊢; intros; rw [env_run rfl rfl]; apply h <;> assumption
 have c515_EqWC (n : Nat) : EqWC (env quT quTV qX 3000 (n + 1) 515) := by
  have h : EqWC (run (env quT quTV qX 3000 (n + 0)) 3000 slices_Equal_Sapi_Waiter_api_Waiter_f) := slices_Equal_Sapi_Waiter_api_Waiter_run _ _ (by omega)
  unfold EqWC at h ⊢; intros; rw [env_run rfl rfl]; apply h <;> assumption
 have c517_EqKC (n : Nat) : EqKC (env quT quTV qX 3000 (n + 1) 517) := by
  have h : EqKC (run (env quT quTV qX 3000 (n + 0)) 3000 slices_Equal_Sapi_Call_api_Call_f) := slices_Equal_Sapi_Call_api_Call_run _ _ (by omega)
  unfold EqKC at h ⊢; intros; rw [env_run rfl rfl]; apply h <;> assumption
 have c513_Lands29C (n : Nat) : Lands29C ((env quT quTV qX 3000 (n + 3)).pt 513) := by
  rw [show (env quT quTV qX 3000 (n + 3)).pt 513 = runP (env quT quTV qX 3000 (n + 2)) 3000 law29_m_lands_f from funext fun s => env_runP (k := 3) rfl (by decide +kernel)]; exact law29_m_lands_run _ _ (by omega) (c519_Dir29C (n + 1)) (c528_OfC3 (n + 0))
 have c505_ToldC (n : Nat) : ToldC ((env quT quTV qX 3000 (n + 4)).pt 505) := by
  rw [show (env quT quTV qX 3000 (n + 4)).pt 505 = runP (env quT quTV qX 3000 (n + 3)) 3000 law29_m_told_f from funext fun s => env_runP (k := 3) rfl (by decide +kernel)]; exact law29_m_told_run _ _ ⟨(by rw [env_q rfl, qX_r]; exact rowE_row), (c524_FirstC (n + 2)), (c512_Find29C (n + 2)), (c520_CallC (n + 1)), (c525_LenC (n + 2)), (by rw [env_q rfl, qX_w]), (by rw [env_q rfl, qX_c]), (by rw [env_q rfl, qX_l]), (c513_Lands29C (n + 0)), (c515_EqWC (n + 2)), (c517_EqKC (n + 2))⟩
 have c509_TakeMC (n : Nat) : TakeMC ((env quT quTV qX 3000 (n + 3)).pt 509) := by
  rw [show (env quT quTV qX 3000 (n + 3)).pt 509 = runP (env quT quTV qX 3000 (n + 2)) 3000 law29_m_take_f from funext fun s => env_runP (k := 3) rfl (by decide +kernel)]; exact law29_m_take_run _ _ (by rw [env_q rfl, qX_r]; exact rowE_row) (c521_TakeC (n + 0))
 have c503_StepC (n : Nat) : StepC ((env quT quTV qX 3000 (n + 5)).pt 503) := by
  rw [show (env quT quTV qX 3000 (n + 5)).pt 503 = runP (env quT quTV qX 3000 (n + 4)) 3000 law29_m_step_f from funext fun s => env_runP (k := 3) rfl (by decide +kernel)]; exact law29_m_step_run _ _ ⟨(c504_Key29C (n + 2)), (c512_Find29C (n + 3)), (c509_TakeMC (n + 1)), (c510_SendC (n + 2)), (c511_ClearC (n + 2)), (c507_OfWC (n + 1)), (c508_ComeC (n + 0))⟩
 rw [env_run rfl rfl]
 exact law29_QueuePlays_run _ _ (by omega) (c503_StepC 25) (c505_ToldC 26) (c504_Key29C 28) quT_alive ops
end Go.Am
