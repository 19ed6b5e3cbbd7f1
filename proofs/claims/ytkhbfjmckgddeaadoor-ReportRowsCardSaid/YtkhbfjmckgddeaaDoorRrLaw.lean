/- Law 42: ReportRows, over the functions together. -/
import Derived.Test.YtkhbfjmckgddeaaDoorRrC
import Derived.Test.YtkhbfjmckgddeaaDoorUt
set_option linter.unusedVariables false
set_option linter.unusedSimpArgs false
set_option maxRecDepth 10000
set_option maxHeartbeats 1000000
namespace Go.Am
abbrev rrTab : Tab := [(0, law42_ReportRows_f, 3), (81, nums_Size_f, 1), (80, digits_plain_f, 1), (72, digits_Text_f, 1), (50, digits_Of_f, 1), (74, ref01_Size_f, 1), (73, ref02_plain_f, 1), (52, ref02_Text_f, 1), (6, ref02_Of_f, 1), (389, nums_Add_f, 2), (375, ref01_Add_f, 2), (387, frac_Of_f, 2), (420, frac_Mean_f, 1), (422, ref08_Mean_f, 1), (421, ref42_Percentile_f, 2), (248, rank_Place_f, 2), (367, slices_Clone_Sint_int_P_f, 1), (252, rank_Of_f, 2), (259, rank_Many_f, 2), (437, frac_Text_f, 1), (436, report_ranks_f, 0), (429, report_Stats_f, 2), (430, ref42_Stats_f, 2), (443, hist_Right_f, 2), (442, hist_Bin_f, 3), (444, hist_Edge_f, 3), (439, report_edge_f, 3), (440, hist_Of_f, 3), (431, report_Bins_f, 4), (441, ref42_within_f, 4), (428, ref42_Bins_f, 4), (432, law42_great_f, 1), (118, slices_Equal_Sstring_string_f, 2), (427, law42_same_f, 2), (426, law42_alive_f, 0)]
abbrev rrTabV : List (Nat × Nat) := []
theorem rrTab_alive : env rrTab rrTabV rpX 110000 (23) 426 [] = some [bo true] := yesU_eq (by decide +kernel)
theorem reportRows_law (l m : List Int) (b w : Int) (hb : InI64 b) (hw : InI64 w) : env rrTab rrTabV rpX 110000 (24) 0 [vZ l, vZ m, .agg [.int .i64 b, .int .i64 w]] = some [bo true] := by
  have c81_Size (n : Nat) : Size (env rrTab rrTabV rpX 110000 (n + 1) 81) := by
    have h : Size (run (env rrTab rrTabV rpX 110000 (n + 0)) 110000 nums_Size_f) := nums_Size_run _
    unfold Size at h ⊢; intros; rw [env_run rfl rfl]; apply h <;> assumption
  have c80_Digitsplain (n : Nat) : Digits_plain (env rrTab rrTabV rpX 110000 (n + 1) 80) := by
    have h : Digits_plain (run (env rrTab rrTabV rpX 110000 (n + 0)) 110000 digits_plain_f) := digits_plain_run _ (by omega)
    unfold Digits_plain at h ⊢; intros; rw [env_run rfl rfl]; apply h <;> assumption
  have c72_Of (n : Nat) : Of (env rrTab rrTabV rpX 110000 (n + 2) 72) := by
    have h : Of (run (env rrTab rrTabV rpX 110000 (n + 1)) 110000 digits_Text_f) := digits_Text_run (c80_Digitsplain (n + 0)) (c81_Size (n + 0))
    unfold Of at h ⊢; intros; rw [env_run rfl rfl]; apply h <;> assumption
  have c50_Of (n : Nat) : Of (env rrTab rrTabV rpX 110000 (n + 3) 50) := by
    have h : Of (run (env rrTab rrTabV rpX 110000 (n + 2)) 110000 digits_Of_f) := digits_Of_run (c72_Of (n + 0))
    unfold Of at h ⊢; intros; rw [env_run rfl rfl]; apply h <;> assumption
  have c74_Size (n : Nat) : Size (env rrTab rrTabV rpX 110000 (n + 1) 74) := by
    have h : Size (run (env rrTab rrTabV rpX 110000 (n + 0)) 110000 ref01_Size_f) := ref01_Size_run _
    unfold Size at h ⊢; intros; rw [env_run rfl rfl]; apply h <;> assumption
  have c73_Ref02plain (n : Nat) : Ref02_plain 20 (env rrTab rrTabV rpX 110000 (n + 20) 73) := by
    have p20 : ∀ (k n : Nat), k < 20 → Ref02_plain (k + 1) (env rrTab rrTabV rpX 110000 (n + (k + 1)) 73) := by
      intro k
      induction k with
      | zero => intro n hk m hm; rw [env_run rfl rfl]; exact ref02_plain_run hk (fun h => absurd h (by omega)) m hm
      | succ j ih => intro n hk m hm; rw [show n + (j + 1 + 1) = (n + (j + 1)) + 1 by omega, env_run rfl rfl]; exact ref02_plain_run hk (fun _ => ih n (by omega)) m hm
    exact p20 19 n (by omega)
  have c52_Of (n : Nat) : Of (env rrTab rrTabV rpX 110000 (n + 21) 52) := by
    have h : Of (run (env rrTab rrTabV rpX 110000 (n + 20)) 110000 ref02_Text_f) := ref02_Text_run (c73_Ref02plain (n + 0)) (c74_Size (n + 19))
    unfold Of at h ⊢; intros; rw [env_run rfl rfl]; apply h <;> assumption
  have c6_Of (n : Nat) : Of (env rrTab rrTabV rpX 110000 (n + 22) 6) := by
    have h : Of (run (env rrTab rrTabV rpX 110000 (n + 21)) 110000 ref02_Of_f) := ref02_Of_run (c52_Of (n + 0))
    unfold Of at h ⊢; intros; rw [env_run rfl rfl]; apply h <;> assumption
  have c389_NAddC (n : Nat) : NAddC (env rrTab rrTabV rpX 110000 (n + 1) 389) := by
    have h : NAddC (run (env rrTab rrTabV rpX 110000 (n + 0)) 110000 nums_Add_f) := nums_Add_run _ _
    unfold NAddC at h ⊢; intros; rw [env_run rfl rfl]; apply h <;> assumption
  have c375_RAddC (n : Nat) : RAddC (env rrTab rrTabV rpX 110000 (n + 1) 375) := by
    have h : RAddC (run (env rrTab rrTabV rpX 110000 (n + 0)) 110000 ref01_Add_f) := ref01_Add_run _ _
    unfold RAddC at h ⊢; intros; rw [env_run rfl rfl]; apply h <;> assumption
  have c387_FracOfC (n : Nat) : FracOfC (env rrTab rrTabV rpX 110000 (n + 1) 387) := by
    have h : FracOfC (run (env rrTab rrTabV rpX 110000 (n + 0)) 110000 frac_Of_f) := frac_Of_run _ _
    unfold FracOfC at h ⊢; intros; rw [env_run rfl rfl]; apply h <;> assumption
  have c420_MeanC8 (n : Nat) : MeanC8 (env rrTab rrTabV rpX 110000 (n + 2) 420) := by
    have h : MeanC8 (run (env rrTab rrTabV rpX 110000 (n + 1)) 110000 frac_Mean_f) := frac_Mean_run (by omega) (c389_NAddC (n + 0)) (c387_FracOfC (n + 0))
    unfold MeanC8 at h ⊢; intros; rw [env_run rfl rfl]; apply h <;> assumption
  have c422_MeanC8 (n : Nat) : MeanC8 (env rrTab rrTabV rpX 110000 (n + 2) 422) := by
    have h : MeanC8 (run (env rrTab rrTabV rpX 110000 (n + 1)) 110000 ref08_Mean_f) := ref08_Mean_run (by omega) (c375_RAddC (n + 0))
    unfold MeanC8 at h ⊢; intros; rw [env_run rfl rfl]; apply h <;> assumption
  have c421_PctC (n : Nat) : PctC (env rrTab rrTabV rpX 110000 (n + 1) 421) := by
    have h : PctC (run (env rrTab rrTabV rpX 110000 (n + 0)) 110000 ref42_Percentile_f) := ref42_Percentile_run _ _ (by omega)
    unfold PctC at h ⊢; intros; rw [env_run rfl rfl]; apply h <;> assumption
  have c248_PlaceC15 (n : Nat) : PlaceC15 (env rrTab rrTabV rpX 110000 (n + 1) 248) := by
    have h : PlaceC15 (run (env rrTab rrTabV rpX 110000 (n + 0)) 110000 rank_Place_f) := rank_Place_run _ _
    unfold PlaceC15 at h ⊢; intros; rw [env_run rfl rfl]; apply h <;> assumption
  have c367_CloneP (n : Nat) : CloneP ((env rrTab rrTabV rpX 110000 (n + 1)).pt 367) := by
    rw [show (env rrTab rrTabV rpX 110000 (n + 1)).pt 367 = runP (env rrTab rrTabV rpX 110000 (n + 0)) 110000 slices_Clone_Sint_int_P_f from funext fun s => env_runP (k := 1) rfl (by decide +kernel)]; exact clone_run _ _
  have c252_OfC15 (n : Nat) : OfC15 (env rrTab rrTabV rpX 110000 (n + 2) 252) := by
    have h : OfC15 (run (env rrTab rrTabV rpX 110000 (n + 1)) 110000 rank_Of_f) := rank_Of_run _ _ (c248_PlaceC15 (n + 0)) (c367_CloneP (n + 0)) (env_rs rfl)
    unfold OfC15 at h ⊢; intros; rw [env_run rfl rfl]; apply h <;> assumption
  have c259_ManyC (n : Nat) : ManyC (env rrTab rrTabV rpX 110000 (n + 3) 259) := by
    have h : ManyC (run (env rrTab rrTabV rpX 110000 (n + 2)) 110000 rank_Many_f) := rank_Many_run _ _ (by omega) (c252_OfC15 (n + 0))
    unfold ManyC at h ⊢; intros; rw [env_run rfl rfl]; apply h <;> assumption
  have c437_FTxtC (n : Nat) : FTxtC (env rrTab rrTabV rpX 110000 (n + 4) 437) := by
    have h : FTxtC (run (env rrTab rrTabV rpX 110000 (n + 3)) 110000 frac_Text_f) := frac_Text_run (c50_Of (n + 0))
    unfold FTxtC at h ⊢; intros; rw [env_run rfl rfl]; apply h <;> assumption
  have c436_RanksC (n : Nat) : RanksC (env rrTab rrTabV rpX 110000 (n + 1) 436) := by
    have h : RanksC (run (env rrTab rrTabV rpX 110000 (n + 0)) 110000 report_ranks_f) := report_ranks_run _ _
    unfold RanksC at h ⊢; intros; rw [env_run rfl rfl]; apply h <;> assumption
  have c429_StatsC (n : Nat) : StatsC (env rrTab rrTabV rpX 110000 (n + 5) 429) := by
    have h : StatsC (run (env rrTab rrTabV rpX 110000 (n + 4)) 110000 report_Stats_f) := report_Stats_run (by omega) (c436_RanksC (n + 3)) (c420_MeanC8 (n + 2)) (c437_FTxtC (n + 0)) (env_rp rfl) (c259_ManyC (n + 1)) (c50_Of (n + 1))
    unfold StatsC at h ⊢; intros; rw [env_run rfl rfl]; apply h <;> assumption
  have c430_StatsC (n : Nat) : StatsC (env rrTab rrTabV rpX 110000 (n + 23) 430) := by
    have h : StatsC (run (env rrTab rrTabV rpX 110000 (n + 22)) 110000 ref42_Stats_f) := ref42_Stats_run (by omega) (c422_MeanC8 (n + 20)) (c421_PctC (n + 21)) (c6_Of (n + 0))
    unfold StatsC at h ⊢; intros; rw [env_run rfl rfl]; apply h <;> assumption
  have c443_HRightC (n : Nat) : HRightC (env rrTab rrTabV rpX 110000 (n + 1) 443) := by
    have h : HRightC (run (env rrTab rrTabV rpX 110000 (n + 0)) 110000 hist_Right_f) := hist_Right_run _ _
    unfold HRightC at h ⊢; intros; rw [env_run rfl rfl]; apply h <;> assumption
  have c442_HBinC (n : Nat) : HBinC (env rrTab rrTabV rpX 110000 (n + 2) 442) := by
    have h : HBinC (run (env rrTab rrTabV rpX 110000 (n + 1)) 110000 hist_Bin_f) := hist_Bin_run (c443_HRightC (n + 0))
    unfold HBinC at h ⊢; intros; rw [env_run rfl rfl]; apply h <;> assumption
  have c444_HEdgeC (n : Nat) : HEdgeC (env rrTab rrTabV rpX 110000 (n + 2) 444) := by
    have h : HEdgeC (run (env rrTab rrTabV rpX 110000 (n + 1)) 110000 hist_Edge_f) := hist_Edge_run (c443_HRightC (n + 0))
    unfold HEdgeC at h ⊢; intros; rw [env_run rfl rfl]; apply h <;> assumption
  have c439_EdgeC (n : Nat) : EdgeC (env rrTab rrTabV rpX 110000 (n + 4) 439) := by
    have h : EdgeC (run (env rrTab rrTabV rpX 110000 (n + 3)) 110000 report_edge_f) := report_edge_run (c444_HEdgeC (n + 1)) (c50_Of (n + 0))
    unfold EdgeC at h ⊢; intros; rw [env_run rfl rfl]; apply h <;> assumption
  have c440_HOfC (n : Nat) : HOfC (env rrTab rrTabV rpX 110000 (n + 3) 440) := by
    have h : HOfC (run (env rrTab rrTabV rpX 110000 (n + 2)) 110000 hist_Of_f) := hist_Of_run (by omega) (c443_HRightC (n + 1)) (c442_HBinC (n + 0))
    unfold HOfC at h ⊢; intros; rw [env_run rfl rfl]; apply h <;> assumption
  have c431_BinsC (n : Nat) : BinsC (env rrTab rrTabV rpX 110000 (n + 5) 431) := by
    have h : BinsC (run (env rrTab rrTabV rpX 110000 (n + 4)) 110000 report_Bins_f) := report_Bins_run (by omega) (c440_HOfC (n + 1)) (c439_EdgeC (n + 0)) (c50_Of (n + 1))
    unfold BinsC at h ⊢; intros; rw [env_run rfl rfl]; apply h <;> assumption
  have c441_WithinC (n : Nat) : WithinC (env rrTab rrTabV rpX 110000 (n + 1) 441) := by
    have h : WithinC (run (env rrTab rrTabV rpX 110000 (n + 0)) 110000 ref42_within_f) := ref42_within_run _ _ (by omega)
    unfold WithinC at h ⊢; intros; rw [env_run rfl rfl]; apply h <;> assumption
  have c428_BinsC (n : Nat) : BinsC (env rrTab rrTabV rpX 110000 (n + 23) 428) := by
    have h : BinsC (run (env rrTab rrTabV rpX 110000 (n + 22)) 110000 ref42_Bins_f) := ref42_Bins_run (by omega) (c441_WithinC (n + 21)) (c6_Of (n + 0))
    unfold BinsC at h ⊢; intros; rw [env_run rfl rfl]; apply h <;> assumption
  have c432_GreatC42 (n : Nat) : GreatC42 (env rrTab rrTabV rpX 110000 (n + 1) 432) := by
    have h : GreatC42 (run (env rrTab rrTabV rpX 110000 (n + 0)) 110000 law42_great_f) := law42_great_run _ _ (by omega)
    unfold GreatC42 at h ⊢; intros; rw [env_run rfl rfl]; apply h <;> assumption
  have c118_EqR (n : Nat) : EqR (env rrTab rrTabV rpX 110000 (n + 1) 118) := by
    have h : EqR (run (env rrTab rrTabV rpX 110000 (n + 0)) 110000 slices_Equal_Sstring_string_f) := slices_Equal_R_run _ _ (by omega)
    unfold EqR at h ⊢; intros; rw [env_run rfl rfl]; apply h <;> assumption
  have c427_SameC42 (n : Nat) : SameC42 (env rrTab rrTabV rpX 110000 (n + 2) 427) := by
    have h : SameC42 (run (env rrTab rrTabV rpX 110000 (n + 1)) 110000 law42_same_f) := law42_same_run (by omega) (c118_EqR (n + 0))
    unfold SameC42 at h ⊢; intros; rw [env_run rfl rfl]; apply h <;> assumption
  rw [env_run rfl rfl]
  exact ReportRows_run rrTab_alive (c432_GreatC42 22) (c429_StatsC 18) (c430_StatsC 0) (c118_EqR 22) (c431_BinsC 18) (c428_BinsC 0) (c427_SameC42 21) l m b w hb hw
end Go.Am
