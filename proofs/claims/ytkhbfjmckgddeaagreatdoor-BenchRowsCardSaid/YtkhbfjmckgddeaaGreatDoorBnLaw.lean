/- Law 50: BenchRows, over the functions together. -/
import Derived.Test.YtkhbfjmckgddeaaGreatDoorBnD
import Derived.Test.YtkhbfjmckgddeaaGreatDoorUt
set_option linter.unusedVariables false
set_option linter.unusedSimpArgs false
set_option maxRecDepth 10000
set_option maxHeartbeats 1000000
namespace Go.Am
abbrev bnTab : Tab := [(0, law50_BenchRows_f, 1), (192, digits_Pad_f, 2), (197, strings_trimRightByte_f, 2), (191, strings_TrimRight_f, 2), (228, strings_Builder_copyCheck_f, 1), (79, strings_Builder_WriteString_f, 2), (69, strings_Builder_String_f, 1), (181, cols_Widths_f, 1), (182, ref16_Widths_f, 1), (187, cols_Line_f, 2), (183, cols_Text_f, 1), (193, ref16_blanks_f, 1), (189, ref16_Line_f, 2), (184, ref16_Text_f, 1), (81, nums_Size_f, 1), (80, digits_plain_f, 1), (72, digits_Text_f, 1), (50, digits_Of_f, 1), (74, ref01_Size_f, 1), (73, ref02_plain_f, 1), (52, ref02_Text_f, 1), (6, ref02_Of_f, 1), (378, ref01_Times_f, 2), (394, math_bits_Mul64_f, 2), (377, ref01_Over_f, 3), (395, math_bits_Div64_f, 3), (393, nums_signed_f, 2), (383, ref01_signed_f, 2), (391, nums_Mul_f, 2), (376, ref01_Mul_f, 2), (389, nums_Add_f, 2), (375, ref01_Add_f, 2), (390, nums_MulDiv_f, 3), (392, frac_Right_f, 1), (379, ref08_Right_f, 1), (386, frac_Hundredths_f, 1), (373, ref08_Hundredths_f, 1), (387, frac_Of_f, 2), (385, digits_Fixed_f, 2), (372, ref02_Fixed_f, 2), (248, rank_Place_f, 2), (367, slices_Clone_Sint_int_P_f, 1), (252, rank_Of_f, 2), (51, trip_At_f, 1), (407, ref24_At_f, 1), (408, trip_done_f, 1), (405, trip_Waits_f, 1), (401, ref24_Waits_f, 2), (420, frac_Mean_f, 1), (422, ref08_Mean_f, 1), (421, ref42_Percentile_f, 2), (423, frac_Compare_f, 2), (424, ref08_Compare_f, 2), (415, bench_Better_f, 2), (414, ref50_Better_f, 2), (418, bench_Of_f, 2), (417, ref50_Of_f, 2), (416, law50_is_f, 2), (409, bench_Best_f, 1), (410, ref50_Best_f, 1), (44, show_Dispatcher_f, 1), (45, ref27_Dispatcher_f, 1), (411, bench_Text_f, 1), (412, ref50_Text_f, 1), (413, law50_alive_f, 0), (396, math_bits_LeadingZeros64_f, 1), (425, bench_Dispatchers_f, 0)]
abbrev bnTabV : List (Nat × Nat) := []
theorem bnTab_alive : env bnTab bnTabV srtEnv 80000 (23) 413 [] = some [bo true] := yesU_eq (by decide +kernel)
theorem benchRows_law (ls : List (List Trip)) : env bnTab bnTabV srtEnv 80000 (24) 0 [vLs ls] = some [bo true] := by
  have c192_PadC (n : Nat) : PadC (env bnTab bnTabV srtEnv 80000 (n + 1) 192) := by
    have h : PadC (run (env bnTab bnTabV srtEnv 80000 (n + 0)) 80000 digits_Pad_f) := digits_Pad_run _ _ (by omega)
    unfold PadC at h ⊢; intros; rw [env_run rfl rfl]; apply h <;> assumption
  have c197_TrimC (n : Nat) : TrimC (env bnTab bnTabV srtEnv 80000 (n + 1) 197) := by
    have h : TrimC (run (env bnTab bnTabV srtEnv 80000 (n + 0)) 80000 strings_trimRightByte_f) := trimRightByte_run _ _ (by omega)
    unfold TrimC at h ⊢; intros; rw [env_run rfl rfl]; apply h <;> assumption
  have c191_TrimC2 (n : Nat) : TrimC2 (env bnTab bnTabV srtEnv 80000 (n + 2) 191) := by
    have h : TrimC2 (run (env bnTab bnTabV srtEnv 80000 (n + 1)) 80000 strings_TrimRight_f) := TrimRight_run _ _ (c197_TrimC (n + 0))
    unfold TrimC2 at h ⊢; intros; rw [env_run rfl rfl]; apply h <;> assumption
  have c228_ClCopyC (n : Nat) : Cl.CopyC ((env bnTab bnTabV srtEnv 80000 (n + 1)).pt 228) := by
    rw [show (env bnTab bnTabV srtEnv 80000 (n + 1)).pt 228 = runP (env bnTab bnTabV srtEnv 80000 (n + 0)) 80000 strings_Builder_copyCheck_f from funext fun s => env_runP (k := 1) rfl (by decide +kernel)]; exact Cl.copyCheck_run _ _
  have c228_CtCopyC (n : Nat) : Ct.CopyC ((env bnTab bnTabV srtEnv 80000 (n + 1)).pt 228) := by
    rw [show (env bnTab bnTabV srtEnv 80000 (n + 1)).pt 228 = runP (env bnTab bnTabV srtEnv 80000 (n + 0)) 80000 strings_Builder_copyCheck_f from funext fun s => env_runP (k := 1) rfl (by decide +kernel)]; exact Ct.copyCheck_run _ _
  have c79_ClWrA (n : Nat) : Cl.WrA ((env bnTab bnTabV srtEnv 80000 (n + 2)).pt 79) := by
    rw [show (env bnTab bnTabV srtEnv 80000 (n + 2)).pt 79 = runP (env bnTab bnTabV srtEnv 80000 (n + 1)) 80000 strings_Builder_WriteString_f from funext fun s => env_runP (k := 2) rfl (by decide +kernel)]; exact Cl.WriteString_runA _ _ (c228_ClCopyC (n + 0))
  have c79_ClWrN (n : Nat) : Cl.WrN ((env bnTab bnTabV srtEnv 80000 (n + 2)).pt 79) := by
    rw [show (env bnTab bnTabV srtEnv 80000 (n + 2)).pt 79 = runP (env bnTab bnTabV srtEnv 80000 (n + 1)) 80000 strings_Builder_WriteString_f from funext fun s => env_runP (k := 2) rfl (by decide +kernel)]; exact Cl.WriteString_runN _ _ (c228_ClCopyC (n + 0))
  have c79_CtWrA (n : Nat) : Ct.WrA ((env bnTab bnTabV srtEnv 80000 (n + 2)).pt 79) := by
    rw [show (env bnTab bnTabV srtEnv 80000 (n + 2)).pt 79 = runP (env bnTab bnTabV srtEnv 80000 (n + 1)) 80000 strings_Builder_WriteString_f from funext fun s => env_runP (k := 2) rfl (by decide +kernel)]; exact Ct.WriteString_runA _ _ (c228_CtCopyC (n + 0))
  have c79_CtWrN (n : Nat) : Ct.WrN ((env bnTab bnTabV srtEnv 80000 (n + 2)).pt 79) := by
    rw [show (env bnTab bnTabV srtEnv 80000 (n + 2)).pt 79 = runP (env bnTab bnTabV srtEnv 80000 (n + 1)) 80000 strings_Builder_WriteString_f from funext fun s => env_runP (k := 2) rfl (by decide +kernel)]; exact Ct.WriteString_runN _ _ (c228_CtCopyC (n + 0))
  have c69_ClStrA (n : Nat) : Cl.StrA ((env bnTab bnTabV srtEnv 80000 (n + 1)).pt 69) := by
    rw [show (env bnTab bnTabV srtEnv 80000 (n + 1)).pt 69 = runP (env bnTab bnTabV srtEnv 80000 (n + 0)) 80000 strings_Builder_String_f from funext fun s => env_runP (k := 1) rfl (by decide +kernel)]; exact Cl.BString_runA _ _
  have c69_ClStrC0 (n : Nat) : Cl.StrC0 ((env bnTab bnTabV srtEnv 80000 (n + 1)).pt 69) := by
    rw [show (env bnTab bnTabV srtEnv 80000 (n + 1)).pt 69 = runP (env bnTab bnTabV srtEnv 80000 (n + 0)) 80000 strings_Builder_String_f from funext fun s => env_runP (k := 1) rfl (by decide +kernel)]; exact Cl.BString_run0 _ _
  have c69_CtStrA (n : Nat) : Ct.StrA ((env bnTab bnTabV srtEnv 80000 (n + 1)).pt 69) := by
    rw [show (env bnTab bnTabV srtEnv 80000 (n + 1)).pt 69 = runP (env bnTab bnTabV srtEnv 80000 (n + 0)) 80000 strings_Builder_String_f from funext fun s => env_runP (k := 1) rfl (by decide +kernel)]; exact Ct.BString_runA _ _
  have c69_CtStrC0 (n : Nat) : Ct.StrC0 ((env bnTab bnTabV srtEnv 80000 (n + 1)).pt 69) := by
    rw [show (env bnTab bnTabV srtEnv 80000 (n + 1)).pt 69 = runP (env bnTab bnTabV srtEnv 80000 (n + 0)) 80000 strings_Builder_String_f from funext fun s => env_runP (k := 1) rfl (by decide +kernel)]; exact Ct.BString_run0 _ _
  have c181_WidthsC (n : Nat) : WidthsC (env bnTab bnTabV srtEnv 80000 (n + 1) 181) := by
    have h : WidthsC (run (env bnTab bnTabV srtEnv 80000 (n + 0)) 80000 cols_Widths_f) := cols_Widths_run _ _ (by omega)
    unfold WidthsC at h ⊢; intros; rw [env_run rfl rfl]; apply h <;> assumption
  have c182_WidthsC (n : Nat) : WidthsC (env bnTab bnTabV srtEnv 80000 (n + 1) 182) := by
    have h : WidthsC (run (env bnTab bnTabV srtEnv 80000 (n + 0)) 80000 ref16_Widths_f) := ref16_Widths_run _ _ (by omega)
    unfold WidthsC at h ⊢; intros; rw [env_run rfl rfl]; apply h <;> assumption
  have c187_LineC16 (n : Nat) : LineC16 (env bnTab bnTabV srtEnv 80000 (n + 3) 187) := by
    have h : LineC16 (run (env bnTab bnTabV srtEnv 80000 (n + 2)) 80000 cols_Line_f) := cols_Line_run _ _ (by omega) (c79_ClWrA (n + 0)) (c79_ClWrN (n + 0)) (c69_ClStrA (n + 1)) (c69_ClStrC0 (n + 1)) (c192_PadC (n + 1)) (c191_TrimC2 (n + 0))
    unfold LineC16 at h ⊢; intros; rw [env_run rfl rfl]; apply h <;> assumption
  have c183_TextC16 (n : Nat) : TextC16 (env bnTab bnTabV srtEnv 80000 (n + 4) 183) := by
    have h : TextC16 (run (env bnTab bnTabV srtEnv 80000 (n + 3)) 80000 cols_Text_f) := cols_Text_run _ _ (by omega) (c79_CtWrA (n + 1)) (c79_CtWrN (n + 1)) (c69_CtStrA (n + 2)) (c69_CtStrC0 (n + 2)) (c187_LineC16 (n + 0)) (c181_WidthsC (n + 2))
    unfold TextC16 at h ⊢; intros; rw [env_run rfl rfl]; apply h <;> assumption
  have c193_BlanksC (n : Nat) : BlanksC (env bnTab bnTabV srtEnv 80000 (n + 1) 193) := by
    have h : BlanksC (run (env bnTab bnTabV srtEnv 80000 (n + 0)) 80000 ref16_blanks_f) := ref16_blanks_run _ _ (by omega)
    unfold BlanksC at h ⊢; intros; rw [env_run rfl rfl]; apply h <;> assumption
  have c189_RLineC16 (n : Nat) : RLineC16 (env bnTab bnTabV srtEnv 80000 (n + 2) 189) := by
    have h : RLineC16 (run (env bnTab bnTabV srtEnv 80000 (n + 1)) 80000 ref16_Line_f) := ref16_Line_run _ _ (by omega) (c193_BlanksC (n + 0))
    unfold RLineC16 at h ⊢; intros; rw [env_run rfl rfl]; apply h <;> assumption
  have c184_TextC16 (n : Nat) : TextC16 (env bnTab bnTabV srtEnv 80000 (n + 3) 184) := by
    have h : TextC16 (run (env bnTab bnTabV srtEnv 80000 (n + 2)) 80000 ref16_Text_f) := ref16_Text_run _ _ (by omega) (c189_RLineC16 (n + 0)) (c182_WidthsC (n + 1))
    unfold TextC16 at h ⊢; intros; rw [env_run rfl rfl]; apply h <;> assumption
  have c81_Size (n : Nat) : Size (env bnTab bnTabV srtEnv 80000 (n + 1) 81) := by
    have h : Size (run (env bnTab bnTabV srtEnv 80000 (n + 0)) 80000 nums_Size_f) := nums_Size_run _
    unfold Size at h ⊢; intros; rw [env_run rfl rfl]; apply h <;> assumption
  have c80_Digitsplain (n : Nat) : Digits_plain (env bnTab bnTabV srtEnv 80000 (n + 1) 80) := by
    have h : Digits_plain (run (env bnTab bnTabV srtEnv 80000 (n + 0)) 80000 digits_plain_f) := digits_plain_run _ (by omega)
    unfold Digits_plain at h ⊢; intros; rw [env_run rfl rfl]; apply h <;> assumption
  have c72_Of (n : Nat) : Of (env bnTab bnTabV srtEnv 80000 (n + 2) 72) := by
    have h : Of (run (env bnTab bnTabV srtEnv 80000 (n + 1)) 80000 digits_Text_f) := digits_Text_run (c80_Digitsplain (n + 0)) (c81_Size (n + 0))
    unfold Of at h ⊢; intros; rw [env_run rfl rfl]; apply h <;> assumption
  have c50_Of (n : Nat) : Of (env bnTab bnTabV srtEnv 80000 (n + 3) 50) := by
    have h : Of (run (env bnTab bnTabV srtEnv 80000 (n + 2)) 80000 digits_Of_f) := digits_Of_run (c72_Of (n + 0))
    unfold Of at h ⊢; intros; rw [env_run rfl rfl]; apply h <;> assumption
  have c74_Size (n : Nat) : Size (env bnTab bnTabV srtEnv 80000 (n + 1) 74) := by
    have h : Size (run (env bnTab bnTabV srtEnv 80000 (n + 0)) 80000 ref01_Size_f) := ref01_Size_run _
    unfold Size at h ⊢; intros; rw [env_run rfl rfl]; apply h <;> assumption
  have c73_Ref02plain (n : Nat) : Ref02_plain 20 (env bnTab bnTabV srtEnv 80000 (n + 20) 73) := by
    have p20 : ∀ (k n : Nat), k < 20 → Ref02_plain (k + 1) (env bnTab bnTabV srtEnv 80000 (n + (k + 1)) 73) := by
      intro k
      induction k with
      | zero => intro n hk m hm; rw [env_run rfl rfl]; exact ref02_plain_run hk (fun h => absurd h (by omega)) m hm
      | succ j ih => intro n hk m hm; rw [show n + (j + 1 + 1) = (n + (j + 1)) + 1 by omega, env_run rfl rfl]; exact ref02_plain_run hk (fun _ => ih n (by omega)) m hm
    exact p20 19 n (by omega)
  have c52_Of (n : Nat) : Of (env bnTab bnTabV srtEnv 80000 (n + 21) 52) := by
    have h : Of (run (env bnTab bnTabV srtEnv 80000 (n + 20)) 80000 ref02_Text_f) := ref02_Text_run (c73_Ref02plain (n + 0)) (c74_Size (n + 19))
    unfold Of at h ⊢; intros; rw [env_run rfl rfl]; apply h <;> assumption
  have c6_Of (n : Nat) : Of (env bnTab bnTabV srtEnv 80000 (n + 22) 6) := by
    have h : Of (run (env bnTab bnTabV srtEnv 80000 (n + 21)) 80000 ref02_Of_f) := ref02_Of_run (c52_Of (n + 0))
    unfold Of at h ⊢; intros; rw [env_run rfl rfl]; apply h <;> assumption
  have c378_TimesC (n : Nat) : TimesC (env bnTab bnTabV srtEnv 80000 (n + 1) 378) := by
    have h : TimesC (run (env bnTab bnTabV srtEnv 80000 (n + 0)) 80000 ref01_Times_f) := ref01_Times_run _ _
    unfold TimesC at h ⊢; intros; rw [env_run rfl rfl]; apply h <;> assumption
  have c394_TimesC (n : Nat) : TimesC (env bnTab bnTabV srtEnv 80000 (n + 1) 394) := by
    have h : TimesC (run (env bnTab bnTabV srtEnv 80000 (n + 0)) 80000 math_bits_Mul64_f) := math_bits_Mul64_run _ _
    unfold TimesC at h ⊢; intros; rw [env_run rfl rfl]; apply h <;> assumption
  have c378_TimesS (n : Nat) : TimesS (env bnTab bnTabV srtEnv 80000 (n + 1) 378) := by
    have h : TimesS (run (env bnTab bnTabV srtEnv 80000 (n + 0)) 80000 ref01_Times_f) := ref01_TimesS_run _ _
    unfold TimesS at h ⊢; intros; rw [env_run rfl rfl]; apply h <;> assumption
  have c394_TimesS (n : Nat) : TimesS (env bnTab bnTabV srtEnv 80000 (n + 1) 394) := by
    have h : TimesS (run (env bnTab bnTabV srtEnv 80000 (n + 0)) 80000 math_bits_Mul64_f) := math_bits_Mul64S_run _ _
    unfold TimesS at h ⊢; intros; rw [env_run rfl rfl]; apply h <;> assumption
  have c377_OverC (n : Nat) : OverC (env bnTab bnTabV srtEnv 80000 (n + 1) 377) := by
    have h : OverC (run (env bnTab bnTabV srtEnv 80000 (n + 0)) 80000 ref01_Over_f) := ref01_Over_run _ _ (by omega)
    unfold OverC at h ⊢; intros; rw [env_run rfl rfl]; apply h <;> assumption
  have c395_DivC (n : Nat) : DivC (env bnTab bnTabV srtEnv 80000 (n + 1) 395) := by
    have h : DivC (run (env bnTab bnTabV srtEnv 80000 (n + 0)) 80000 math_bits_Div64_f) := math_bits_Div64_run _ _
    unfold DivC at h ⊢; intros; rw [env_run rfl rfl]; apply h <;> assumption
  have c393_NSgC (n : Nat) : NSgC (env bnTab bnTabV srtEnv 80000 (n + 1) 393) := by
    have h : NSgC (run (env bnTab bnTabV srtEnv 80000 (n + 0)) 80000 nums_signed_f) := nums_signed_run _ _
    unfold NSgC at h ⊢; intros; rw [env_run rfl rfl]; apply h <;> assumption
  have c383_RSgC (n : Nat) : RSgC (env bnTab bnTabV srtEnv 80000 (n + 1) 383) := by
    have h : RSgC (run (env bnTab bnTabV srtEnv 80000 (n + 0)) 80000 ref01_signed_f) := ref01_signed_run _ _
    unfold RSgC at h ⊢; intros; rw [env_run rfl rfl]; apply h <;> assumption
  have c391_NMulC (n : Nat) : NMulC (env bnTab bnTabV srtEnv 80000 (n + 2) 391) := by
    have h : NMulC (run (env bnTab bnTabV srtEnv 80000 (n + 1)) 80000 nums_Mul_f) := nums_Mul_run (c394_TimesC (n + 0)) (c81_Size (n + 0)) (c393_NSgC (n + 0))
    unfold NMulC at h ⊢; intros; rw [env_run rfl rfl]; apply h <;> assumption
  have c376_RMulC (n : Nat) : RMulC (env bnTab bnTabV srtEnv 80000 (n + 2) 376) := by
    have h : RMulC (run (env bnTab bnTabV srtEnv 80000 (n + 1)) 80000 ref01_Mul_f) := ref01_Mul_run (c378_TimesC (n + 0)) (c74_Size (n + 0)) (c383_RSgC (n + 0))
    unfold RMulC at h ⊢; intros; rw [env_run rfl rfl]; apply h <;> assumption
  have c389_NAddC (n : Nat) : NAddC (env bnTab bnTabV srtEnv 80000 (n + 1) 389) := by
    have h : NAddC (run (env bnTab bnTabV srtEnv 80000 (n + 0)) 80000 nums_Add_f) := nums_Add_run _ _
    unfold NAddC at h ⊢; intros; rw [env_run rfl rfl]; apply h <;> assumption
  have c375_RAddC (n : Nat) : RAddC (env bnTab bnTabV srtEnv 80000 (n + 1) 375) := by
    have h : RAddC (run (env bnTab bnTabV srtEnv 80000 (n + 0)) 80000 ref01_Add_f) := ref01_Add_run _ _
    unfold RAddC at h ⊢; intros; rw [env_run rfl rfl]; apply h <;> assumption
  have c390_MulDivC (n : Nat) : MulDivC (env bnTab bnTabV srtEnv 80000 (n + 2) 390) := by
    have h : MulDivC (run (env bnTab bnTabV srtEnv 80000 (n + 1)) 80000 nums_MulDiv_f) := nums_MulDiv_run (c394_TimesC (n + 0)) (c395_DivC (n + 0)) (c393_NSgC (n + 0))
    unfold MulDivC at h ⊢; intros; rw [env_run rfl rfl]; apply h <;> assumption
  have c392_RightC (n : Nat) : RightC (env bnTab bnTabV srtEnv 80000 (n + 1) 392) := by
    have h : RightC (run (env bnTab bnTabV srtEnv 80000 (n + 0)) 80000 frac_Right_f) := frac_Right_run _ _
    unfold RightC at h ⊢; intros; rw [env_run rfl rfl]; apply h <;> assumption
  have c379_RightC (n : Nat) : RightC (env bnTab bnTabV srtEnv 80000 (n + 1) 379) := by
    have h : RightC (run (env bnTab bnTabV srtEnv 80000 (n + 0)) 80000 ref08_Right_f) := ref08_Right_run _ _
    unfold RightC at h ⊢; intros; rw [env_run rfl rfl]; apply h <;> assumption
  have c386_HundC (n : Nat) : HundC (env bnTab bnTabV srtEnv 80000 (n + 3) 386) := by
    have h : HundC (run (env bnTab bnTabV srtEnv 80000 (n + 2)) 80000 frac_Hundredths_f) := frac_Hundredths_run (c392_RightC (n + 1)) (c391_NMulC (n + 0)) (c390_MulDivC (n + 0)) (c389_NAddC (n + 1))
    unfold HundC at h ⊢; intros; rw [env_run rfl rfl]; apply h <;> assumption
  have c373_HundC (n : Nat) : HundC (env bnTab bnTabV srtEnv 80000 (n + 3) 373) := by
    have h : HundC (run (env bnTab bnTabV srtEnv 80000 (n + 2)) 80000 ref08_Hundredths_f) := ref08_Hundredths_run (c379_RightC (n + 1)) (c378_TimesC (n + 1)) (c377_OverC (n + 1)) (c376_RMulC (n + 0)) (c375_RAddC (n + 1))
    unfold HundC at h ⊢; intros; rw [env_run rfl rfl]; apply h <;> assumption
  have c387_FracOfC (n : Nat) : FracOfC (env bnTab bnTabV srtEnv 80000 (n + 1) 387) := by
    have h : FracOfC (run (env bnTab bnTabV srtEnv 80000 (n + 0)) 80000 frac_Of_f) := frac_Of_run _ _
    unfold FracOfC at h ⊢; intros; rw [env_run rfl rfl]; apply h <;> assumption
  have c385_FixC (n : Nat) : FixC (env bnTab bnTabV srtEnv 80000 (n + 2) 385) := by
    have h : FixC (run (env bnTab bnTabV srtEnv 80000 (n + 1)) 80000 digits_Fixed_f) := digits_Fixed_run (by omega) (c80_Digitsplain (n + 0)) (c81_Size (n + 0))
    unfold FixC at h ⊢; intros; rw [env_run rfl rfl]; apply h <;> assumption
  have c372_FixC (n : Nat) : FixC (env bnTab bnTabV srtEnv 80000 (n + 21) 372) := by
    have h : FixC (run (env bnTab bnTabV srtEnv 80000 (n + 20)) 80000 ref02_Fixed_f) := ref02_Fixed_run (by omega) (c73_Ref02plain (n + 0)) (c74_Size (n + 19))
    unfold FixC at h ⊢; intros; rw [env_run rfl rfl]; apply h <;> assumption
  have c248_PlaceC15 (n : Nat) : PlaceC15 (env bnTab bnTabV srtEnv 80000 (n + 1) 248) := by
    have h : PlaceC15 (run (env bnTab bnTabV srtEnv 80000 (n + 0)) 80000 rank_Place_f) := rank_Place_run _ _
    unfold PlaceC15 at h ⊢; intros; rw [env_run rfl rfl]; apply h <;> assumption
  have c367_CloneP (n : Nat) : CloneP ((env bnTab bnTabV srtEnv 80000 (n + 1)).pt 367) := by
    rw [show (env bnTab bnTabV srtEnv 80000 (n + 1)).pt 367 = runP (env bnTab bnTabV srtEnv 80000 (n + 0)) 80000 slices_Clone_Sint_int_P_f from funext fun s => env_runP (k := 1) rfl (by decide +kernel)]; exact clone_run _ _
  have c252_OfC15 (n : Nat) : OfC15 (env bnTab bnTabV srtEnv 80000 (n + 2) 252) := by
    have h : OfC15 (run (env bnTab bnTabV srtEnv 80000 (n + 1)) 80000 rank_Of_f) := rank_Of_run _ _ (c248_PlaceC15 (n + 0)) (c367_CloneP (n + 0)) (env_srt rfl)
    unfold OfC15 at h ⊢; intros; rw [env_run rfl rfl]; apply h <;> assumption
  have c51_TAtC (n : Nat) : TAtC (env bnTab bnTabV srtEnv 80000 (n + 1) 51) := by
    have h : TAtC (run (env bnTab bnTabV srtEnv 80000 (n + 0)) 80000 trip_At_f) := trip_At_run _ _
    unfold TAtC at h ⊢; intros; rw [env_run rfl rfl]; apply h <;> assumption
  have c407_TAtC (n : Nat) : TAtC (env bnTab bnTabV srtEnv 80000 (n + 1) 407) := by
    have h : TAtC (run (env bnTab bnTabV srtEnv 80000 (n + 0)) 80000 ref24_At_f) := ref24_At_run _ _
    unfold TAtC at h ⊢; intros; rw [env_run rfl rfl]; apply h <;> assumption
  have c408_DoneC (n : Nat) : DoneC (env bnTab bnTabV srtEnv 80000 (n + 2) 408) := by
    have h : DoneC (run (env bnTab bnTabV srtEnv 80000 (n + 1)) 80000 trip_done_f) := trip_done_run _ _ (by omega) (c51_TAtC (n + 0))
    unfold DoneC at h ⊢; intros; rw [env_run rfl rfl]; apply h <;> assumption
  have c405_WaitsT (n : Nat) : WaitsT (env bnTab bnTabV srtEnv 80000 (n + 3) 405) := by
    have h : WaitsT (run (env bnTab bnTabV srtEnv 80000 (n + 2)) 80000 trip_Waits_f) := trip_Waits_run _ _ (by omega) (c408_DoneC (n + 0))
    unfold WaitsT at h ⊢; intros; rw [env_run rfl rfl]; apply h <;> assumption
  have c401_RWaitsC (n : Nat) : RWaitsC (env bnTab bnTabV srtEnv 80000 (n + 2) 401) := by
    have h : RWaitsC (run (env bnTab bnTabV srtEnv 80000 (n + 1)) 80000 ref24_Waits_f) := ref24_Waits_run _ _ (by omega) (c407_TAtC (n + 0))
    unfold RWaitsC at h ⊢; intros; rw [env_run rfl rfl]; apply h <;> assumption
  have c420_MeanC8 (n : Nat) : MeanC8 (env bnTab bnTabV srtEnv 80000 (n + 2) 420) := by
    have h : MeanC8 (run (env bnTab bnTabV srtEnv 80000 (n + 1)) 80000 frac_Mean_f) := frac_Mean_run (by omega) (c389_NAddC (n + 0)) (c387_FracOfC (n + 0))
    unfold MeanC8 at h ⊢; intros; rw [env_run rfl rfl]; apply h <;> assumption
  have c422_MeanC8 (n : Nat) : MeanC8 (env bnTab bnTabV srtEnv 80000 (n + 2) 422) := by
    have h : MeanC8 (run (env bnTab bnTabV srtEnv 80000 (n + 1)) 80000 ref08_Mean_f) := ref08_Mean_run (by omega) (c375_RAddC (n + 0))
    unfold MeanC8 at h ⊢; intros; rw [env_run rfl rfl]; apply h <;> assumption
  have c421_PctC (n : Nat) : PctC (env bnTab bnTabV srtEnv 80000 (n + 1) 421) := by
    have h : PctC (run (env bnTab bnTabV srtEnv 80000 (n + 0)) 80000 ref42_Percentile_f) := ref42_Percentile_run _ _ (by omega)
    unfold PctC at h ⊢; intros; rw [env_run rfl rfl]; apply h <;> assumption
  have c423_CmpC8 (n : Nat) : CmpC8 (env bnTab bnTabV srtEnv 80000 (n + 2) 423) := by
    have h : CmpC8 (run (env bnTab bnTabV srtEnv 80000 (n + 1)) 80000 frac_Compare_f) := frac_Compare_run (c394_TimesS (n + 0))
    unfold CmpC8 at h ⊢; intros; rw [env_run rfl rfl]; apply h <;> assumption
  have c424_CmpC8 (n : Nat) : CmpC8 (env bnTab bnTabV srtEnv 80000 (n + 2) 424) := by
    have h : CmpC8 (run (env bnTab bnTabV srtEnv 80000 (n + 1)) 80000 ref08_Compare_f) := ref08_Compare_run (c378_TimesS (n + 0))
    unfold CmpC8 at h ⊢; intros; rw [env_run rfl rfl]; apply h <;> assumption
  have c415_BetB (n : Nat) : BetB (env bnTab bnTabV srtEnv 80000 (n + 3) 415) := by
    have h : BetB (run (env bnTab bnTabV srtEnv 80000 (n + 2)) 80000 bench_Better_f) := bench_Better_run (c423_CmpC8 (n + 0))
    unfold BetB at h ⊢; intros; rw [env_run rfl rfl]; apply h <;> assumption
  have c414_BetR (n : Nat) : BetR (env bnTab bnTabV srtEnv 80000 (n + 3) 414) := by
    have h : BetR (run (env bnTab bnTabV srtEnv 80000 (n + 2)) 80000 ref50_Better_f) := ref50_Better_run (c424_CmpC8 (n + 0))
    unfold BetR at h ⊢; intros; rw [env_run rfl rfl]; apply h <;> assumption
  have c418_OfB (n : Nat) : OfB (env bnTab bnTabV srtEnv 80000 (n + 4) 418) := by
    have h : OfB (run (env bnTab bnTabV srtEnv 80000 (n + 3)) 80000 bench_Of_f) := bench_Of_run (c405_WaitsT (n + 0)) (c420_MeanC8 (n + 1)) (c252_OfC15 (n + 1))
    unfold OfB at h ⊢; intros; rw [env_run rfl rfl]; apply h <;> assumption
  have c417_OfR (n : Nat) : OfR (env bnTab bnTabV srtEnv 80000 (n + 3) 417) := by
    have h : OfR (run (env bnTab bnTabV srtEnv 80000 (n + 2)) 80000 ref50_Of_f) := ref50_Of_run (c401_RWaitsC (n + 0)) (c422_MeanC8 (n + 0)) (c421_PctC (n + 1))
    unfold OfR at h ⊢; intros; rw [env_run rfl rfl]; apply h <;> assumption
  have c416_IsC (n : Nat) : IsC (env bnTab bnTabV srtEnv 80000 (n + 1) 416) := by
    have h : IsC (run (env bnTab bnTabV srtEnv 80000 (n + 0)) 80000 law50_is_f) := law50_is_run _ _
    unfold IsC at h ⊢; intros; rw [env_run rfl rfl]; apply h <;> assumption
  have c409_BestB (n : Nat) : BestB (env bnTab bnTabV srtEnv 80000 (n + 4) 409) := by
    have h : BestB (run (env bnTab bnTabV srtEnv 80000 (n + 3)) 80000 bench_Best_f) := bench_Best_run (by omega) (c415_BetB (n + 0))
    unfold BestB at h ⊢; intros; rw [env_run rfl rfl]; apply h <;> assumption
  have c410_BestR (n : Nat) : BestR (env bnTab bnTabV srtEnv 80000 (n + 4) 410) := by
    have h : BestR (run (env bnTab bnTabV srtEnv 80000 (n + 3)) 80000 ref50_Best_f) := ref50_Best_run (by omega) (c414_BetR (n + 0))
    unfold BestR at h ⊢; intros; rw [env_run rfl rfl]; apply h <;> assumption
  have c44_DisC8 (n : Nat) : DisC8 (env bnTab bnTabV srtEnv 80000 (n + 1) 44) := by
    have h : DisC8 (run (env bnTab bnTabV srtEnv 80000 (n + 0)) 80000 show_Dispatcher_f) := show_Dispatcher_run _ _
    unfold DisC8 at h ⊢; intros; rw [env_run rfl rfl]; apply h <;> assumption
  have c45_DisC8 (n : Nat) : DisC8 (env bnTab bnTabV srtEnv 80000 (n + 1) 45) := by
    have h : DisC8 (run (env bnTab bnTabV srtEnv 80000 (n + 0)) 80000 ref27_Dispatcher_f) := ref27_Dispatcher_run _ _
    unfold DisC8 at h ⊢; intros; rw [env_run rfl rfl]; apply h <;> assumption
  have c411_BTextC (n : Nat) : BTextC (env bnTab bnTabV srtEnv 80000 (n + 5) 411) := by
    have h : BTextC (run (env bnTab bnTabV srtEnv 80000 (n + 4)) 80000 bench_Text_f) := bench_Text_run (by omega) (c409_BestB (n + 0)) (c386_HundC (n + 1)) (c385_FixC (n + 2)) (c50_Of (n + 1)) (c44_DisC8 (n + 3)) (c183_TextC16 (n + 0))
    unfold BTextC at h ⊢; intros; rw [env_run rfl rfl]; apply h <;> assumption
  have c412_RTextC8 (n : Nat) : RTextC8 (env bnTab bnTabV srtEnv 80000 (n + 23) 412) := by
    have h : RTextC8 (run (env bnTab bnTabV srtEnv 80000 (n + 22)) 80000 ref50_Text_f) := ref50_Text_run (by omega) (c410_BestR (n + 18)) (c373_HundC (n + 19)) (c372_FixC (n + 1)) (c6_Of (n + 0)) (c45_DisC8 (n + 21)) (c184_TextC16 (n + 19))
    unfold RTextC8 at h ⊢; intros; rw [env_run rfl rfl]; apply h <;> assumption
  rw [env_run rfl rfl]
  exact BenchRows_run (by omega) bnTab_alive (c418_OfB 19) (c417_OfR 20) (c416_IsC 22) (c415_BetB 20) (c414_BetR 20) (c409_BestB 19) (c410_BestR 19) (c411_BTextC 18) (c412_RTextC8 0) ls
end Go.Am
