/- Law 42: ReportBins, over the functions together. -/
import Derived.Test.YtkhbfjmckgddeaaDoorRb
import Derived.Test.YtkhbfjmckgddeaaDoorUt
set_option linter.unusedVariables false
set_option linter.unusedSimpArgs false
set_option maxRecDepth 10000
set_option maxHeartbeats 1000000
namespace Go.Am
abbrev rbTab : Tab := [(0, law42_ReportBins_f, 3), (192, digits_Pad_f, 2), (197, strings_trimRightByte_f, 2), (191, strings_TrimRight_f, 2), (228, strings_Builder_copyCheck_f, 1), (79, strings_Builder_WriteString_f, 2), (69, strings_Builder_String_f, 1), (187, cols_Line_f, 2), (188, cols_Cells_f, 1), (81, nums_Size_f, 1), (80, digits_plain_f, 1), (72, digits_Text_f, 1), (50, digits_Of_f, 1), (394, math_bits_Mul64_f, 2), (393, nums_signed_f, 2), (391, nums_Mul_f, 2), (389, nums_Add_f, 2), (434, digits_Read_f, 1), (443, hist_Right_f, 2), (442, hist_Bin_f, 3), (444, hist_Edge_f, 3), (439, report_edge_f, 3), (440, hist_Of_f, 3), (431, report_Bins_f, 4), (432, law42_great_f, 1), (426, law42_alive_f, 0), (118, slices_Equal_Sstring_string_f, 2), (429, report_Stats_f, 2), (436, report_ranks_f, 0)]
abbrev rbTabV : List (Nat × Nat) := []
theorem rbTab_alive : env rbTab rbTabV noEnv 1100000 (9) 426 [] = some [bo true] := yesU_eq (by decide +kernel)
theorem reportBins_law (l m : List Int) (b w : Int) (hb : InI64 b) (hw : InI64 w) : env rbTab rbTabV noEnv 1100000 (10) 0 [vZ l, vZ m, .agg [.int .i64 b, .int .i64 w]] = some [bo true] := by
  have c192_PadC (n : Nat) : PadC (env rbTab rbTabV noEnv 1100000 (n + 1) 192) := by
    have h : PadC (run (env rbTab rbTabV noEnv 1100000 (n + 0)) 1100000 digits_Pad_f) := digits_Pad_run _ _ (by omega)
    unfold PadC at h ⊢; intros; rw [env_run rfl rfl]; apply h <;> assumption
  have c197_TrimC (n : Nat) : TrimC (env rbTab rbTabV noEnv 1100000 (n + 1) 197) := by
    have h : TrimC (run (env rbTab rbTabV noEnv 1100000 (n + 0)) 1100000 strings_trimRightByte_f) := trimRightByte_run _ _ (by omega)
    unfold TrimC at h ⊢; intros; rw [env_run rfl rfl]; apply h <;> assumption
  have c191_TrimC2 (n : Nat) : TrimC2 (env rbTab rbTabV noEnv 1100000 (n + 2) 191) := by
    have h : TrimC2 (run (env rbTab rbTabV noEnv 1100000 (n + 1)) 1100000 strings_TrimRight_f) := TrimRight_run _ _ (c197_TrimC (n + 0))
    unfold TrimC2 at h ⊢; intros; rw [env_run rfl rfl]; apply h <;> assumption
  have c228_ClCopyC (n : Nat) : Cl.CopyC ((env rbTab rbTabV noEnv 1100000 (n + 1)).pt 228) := by
    rw [show (env rbTab rbTabV noEnv 1100000 (n + 1)).pt 228 = runP (env rbTab rbTabV noEnv 1100000 (n + 0)) 1100000 strings_Builder_copyCheck_f from funext fun s => env_runP (k := 1) rfl (by decide +kernel)]; exact Cl.copyCheck_run _ _
  have c79_ClWrA (n : Nat) : Cl.WrA ((env rbTab rbTabV noEnv 1100000 (n + 2)).pt 79) := by
    rw [show (env rbTab rbTabV noEnv 1100000 (n + 2)).pt 79 = runP (env rbTab rbTabV noEnv 1100000 (n + 1)) 1100000 strings_Builder_WriteString_f from funext fun s => env_runP (k := 2) rfl (by decide +kernel)]; exact Cl.WriteString_runA _ _ (c228_ClCopyC (n + 0))
  have c79_ClWrN (n : Nat) : Cl.WrN ((env rbTab rbTabV noEnv 1100000 (n + 2)).pt 79) := by
    rw [show (env rbTab rbTabV noEnv 1100000 (n + 2)).pt 79 = runP (env rbTab rbTabV noEnv 1100000 (n + 1)) 1100000 strings_Builder_WriteString_f from funext fun s => env_runP (k := 2) rfl (by decide +kernel)]; exact Cl.WriteString_runN _ _ (c228_ClCopyC (n + 0))
  have c69_ClStrA (n : Nat) : Cl.StrA ((env rbTab rbTabV noEnv 1100000 (n + 1)).pt 69) := by
    rw [show (env rbTab rbTabV noEnv 1100000 (n + 1)).pt 69 = runP (env rbTab rbTabV noEnv 1100000 (n + 0)) 1100000 strings_Builder_String_f from funext fun s => env_runP (k := 1) rfl (by decide +kernel)]; exact Cl.BString_runA _ _
  have c69_ClStrC0 (n : Nat) : Cl.StrC0 ((env rbTab rbTabV noEnv 1100000 (n + 1)).pt 69) := by
    rw [show (env rbTab rbTabV noEnv 1100000 (n + 1)).pt 69 = runP (env rbTab rbTabV noEnv 1100000 (n + 0)) 1100000 strings_Builder_String_f from funext fun s => env_runP (k := 1) rfl (by decide +kernel)]; exact Cl.BString_run0 _ _
  have c187_LineC16 (n : Nat) : LineC16 (env rbTab rbTabV noEnv 1100000 (n + 3) 187) := by
    have h : LineC16 (run (env rbTab rbTabV noEnv 1100000 (n + 2)) 1100000 cols_Line_f) := cols_Line_run _ _ (by omega) (c79_ClWrA (n + 0)) (c79_ClWrN (n + 0)) (c69_ClStrA (n + 1)) (c69_ClStrC0 (n + 1)) (c192_PadC (n + 1)) (c191_TrimC2 (n + 0))
    unfold LineC16 at h ⊢; intros; rw [env_run rfl rfl]; apply h <;> assumption
  have c188_CellsC16 (n : Nat) : CellsC16 (env rbTab rbTabV noEnv 1100000 (n + 1) 188) := by
    have h : CellsC16 (run (env rbTab rbTabV noEnv 1100000 (n + 0)) 1100000 cols_Cells_f) := cols_Cells_run _ _ (by omega)
    unfold CellsC16 at h ⊢; intros; rw [env_run rfl rfl]; apply h <;> assumption
  have c81_Size (n : Nat) : Size (env rbTab rbTabV noEnv 1100000 (n + 1) 81) := by
    have h : Size (run (env rbTab rbTabV noEnv 1100000 (n + 0)) 1100000 nums_Size_f) := nums_Size_run _
    unfold Size at h ⊢; intros; rw [env_run rfl rfl]; apply h <;> assumption
  have c80_Digitsplain (n : Nat) : Digits_plain (env rbTab rbTabV noEnv 1100000 (n + 1) 80) := by
    have h : Digits_plain (run (env rbTab rbTabV noEnv 1100000 (n + 0)) 1100000 digits_plain_f) := digits_plain_run _ (by omega)
    unfold Digits_plain at h ⊢; intros; rw [env_run rfl rfl]; apply h <;> assumption
  have c72_Of (n : Nat) : Of (env rbTab rbTabV noEnv 1100000 (n + 2) 72) := by
    have h : Of (run (env rbTab rbTabV noEnv 1100000 (n + 1)) 1100000 digits_Text_f) := digits_Text_run (c80_Digitsplain (n + 0)) (c81_Size (n + 0))
    unfold Of at h ⊢; intros; rw [env_run rfl rfl]; apply h <;> assumption
  have c50_Of (n : Nat) : Of (env rbTab rbTabV noEnv 1100000 (n + 3) 50) := by
    have h : Of (run (env rbTab rbTabV noEnv 1100000 (n + 2)) 1100000 digits_Of_f) := digits_Of_run (c72_Of (n + 0))
    unfold Of at h ⊢; intros; rw [env_run rfl rfl]; apply h <;> assumption
  have c394_TimesS (n : Nat) : TimesS (env rbTab rbTabV noEnv 1100000 (n + 1) 394) := by
    have h : TimesS (run (env rbTab rbTabV noEnv 1100000 (n + 0)) 1100000 math_bits_Mul64_f) := math_bits_Mul64S_run _ _
    unfold TimesS at h ⊢; intros; rw [env_run rfl rfl]; apply h <;> assumption
  have c393_NSgC (n : Nat) : NSgC (env rbTab rbTabV noEnv 1100000 (n + 1) 393) := by
    have h : NSgC (run (env rbTab rbTabV noEnv 1100000 (n + 0)) 1100000 nums_signed_f) := nums_signed_run _ _
    unfold NSgC at h ⊢; intros; rw [env_run rfl rfl]; apply h <;> assumption
  have c391_NMulS (n : Nat) : NMulS (env rbTab rbTabV noEnv 1100000 (n + 2) 391) := by
    have h : NMulS (run (env rbTab rbTabV noEnv 1100000 (n + 1)) 1100000 nums_Mul_f) := nums_MulS_run (c394_TimesS (n + 0)) (c81_Size (n + 0)) (c393_NSgC (n + 0))
    unfold NMulS at h ⊢; intros; rw [env_run rfl rfl]; apply h <;> assumption
  have c389_NAddC (n : Nat) : NAddC (env rbTab rbTabV noEnv 1100000 (n + 1) 389) := by
    have h : NAddC (run (env rbTab rbTabV noEnv 1100000 (n + 0)) 1100000 nums_Add_f) := nums_Add_run _ _
    unfold NAddC at h ⊢; intros; rw [env_run rfl rfl]; apply h <;> assumption
  have c434_RdC (n : Nat) : RdC (env rbTab rbTabV noEnv 1100000 (n + 3) 434) := by
    have h : RdC (run (env rbTab rbTabV noEnv 1100000 (n + 2)) 1100000 digits_Read_f) := digits_Read_run (by omega) (c391_NMulS (n + 0)) (c389_NAddC (n + 1))
    unfold RdC at h ⊢; intros; rw [env_run rfl rfl]; apply h <;> assumption
  have c443_HRightC (n : Nat) : HRightC (env rbTab rbTabV noEnv 1100000 (n + 1) 443) := by
    have h : HRightC (run (env rbTab rbTabV noEnv 1100000 (n + 0)) 1100000 hist_Right_f) := hist_Right_run _ _
    unfold HRightC at h ⊢; intros; rw [env_run rfl rfl]; apply h <;> assumption
  have c442_HBinC (n : Nat) : HBinC (env rbTab rbTabV noEnv 1100000 (n + 2) 442) := by
    have h : HBinC (run (env rbTab rbTabV noEnv 1100000 (n + 1)) 1100000 hist_Bin_f) := hist_Bin_run (c443_HRightC (n + 0))
    unfold HBinC at h ⊢; intros; rw [env_run rfl rfl]; apply h <;> assumption
  have c444_HEdgeC (n : Nat) : HEdgeC (env rbTab rbTabV noEnv 1100000 (n + 2) 444) := by
    have h : HEdgeC (run (env rbTab rbTabV noEnv 1100000 (n + 1)) 1100000 hist_Edge_f) := hist_Edge_run (c443_HRightC (n + 0))
    unfold HEdgeC at h ⊢; intros; rw [env_run rfl rfl]; apply h <;> assumption
  have c439_EdgeC (n : Nat) : EdgeC (env rbTab rbTabV noEnv 1100000 (n + 4) 439) := by
    have h : EdgeC (run (env rbTab rbTabV noEnv 1100000 (n + 3)) 1100000 report_edge_f) := report_edge_run (c444_HEdgeC (n + 1)) (c50_Of (n + 0))
    unfold EdgeC at h ⊢; intros; rw [env_run rfl rfl]; apply h <;> assumption
  have c440_HOfC (n : Nat) : HOfC (env rbTab rbTabV noEnv 1100000 (n + 3) 440) := by
    have h : HOfC (run (env rbTab rbTabV noEnv 1100000 (n + 2)) 1100000 hist_Of_f) := hist_Of_run (by omega) (c443_HRightC (n + 1)) (c442_HBinC (n + 0))
    unfold HOfC at h ⊢; intros; rw [env_run rfl rfl]; apply h <;> assumption
  have c431_BinsC (n : Nat) : BinsC (env rbTab rbTabV noEnv 1100000 (n + 5) 431) := by
    have h : BinsC (run (env rbTab rbTabV noEnv 1100000 (n + 4)) 1100000 report_Bins_f) := report_Bins_run (by omega) (c440_HOfC (n + 1)) (c439_EdgeC (n + 0)) (c50_Of (n + 1))
    unfold BinsC at h ⊢; intros; rw [env_run rfl rfl]; apply h <;> assumption
  have c432_GreatC42 (n : Nat) : GreatC42 (env rbTab rbTabV noEnv 1100000 (n + 1) 432) := by
    have h : GreatC42 (run (env rbTab rbTabV noEnv 1100000 (n + 0)) 1100000 law42_great_f) := law42_great_run _ _ (by omega)
    unfold GreatC42 at h ⊢; intros; rw [env_run rfl rfl]; apply h <;> assumption
  rw [env_run rfl rfl]
  exact ReportBins_run (by omega) rbTab_alive (c432_GreatC42 8) (c431_BinsC 4) (c187_LineC16 6) (c188_CellsC16 8) (c434_RdC 6) l m b w hb hw
end Go.Am
