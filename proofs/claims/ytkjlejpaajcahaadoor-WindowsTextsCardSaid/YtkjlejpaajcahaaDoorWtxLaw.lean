/- Law 72: WindowsTexts, over the functions together. -/
import Derived.Test.YtkjlejpaajcahaaDoorWtxC
import Derived.Test.YtkjlejpaajcahaaDoorUt
set_option linter.unusedVariables false
set_option linter.unusedSimpArgs false
set_option maxRecDepth 10000
set_option maxHeartbeats 1000000
namespace Go.Am
abbrev wtxTab : Tab := [(0, law72_WindowsTexts_f, 1), (192, digits_Pad_f, 2), (197, strings_trimRightByte_f, 2), (191, strings_TrimRight_f, 2), (228, strings_Builder_copyCheck_f, 1), (79, strings_Builder_WriteString_f, 2), (69, strings_Builder_String_f, 1), (181, cols_Widths_f, 1), (182, ref16_Widths_f, 1), (187, cols_Line_f, 2), (183, cols_Text_f, 1), (193, ref16_blanks_f, 1), (189, ref16_Line_f, 2), (184, ref16_Text_f, 1), (81, nums_Size_f, 1), (80, digits_plain_f, 1), (72, digits_Text_f, 1), (50, digits_Of_f, 1), (74, ref01_Size_f, 1), (73, ref02_plain_f, 1), (52, ref02_Text_f, 1), (6, ref02_Of_f, 1), (378, ref01_Times_f, 2), (394, math_bits_Mul64_f, 2), (377, ref01_Over_f, 3), (395, math_bits_Div64_f, 3), (393, nums_signed_f, 2), (383, ref01_signed_f, 2), (391, nums_Mul_f, 2), (376, ref01_Mul_f, 2), (389, nums_Add_f, 2), (375, ref01_Add_f, 2), (390, nums_MulDiv_f, 3), (392, frac_Right_f, 1), (379, ref08_Right_f, 1), (386, frac_Hundredths_f, 1), (373, ref08_Hundredths_f, 1), (387, frac_Of_f, 2), (385, digits_Fixed_f, 2), (372, ref02_Fixed_f, 2), (388, clock_two_f, 1), (380, ref52_two_f, 1), (384, clock_Text_f, 1), (371, ref52_Text_f, 1), (381, clock_Span_f, 1), (382, windows_mean_f, 1), (370, windows_Text_f, 1), (16, law72_alive_f, 0), (15, windows_Of_f, 2), (62, windows_in_f, 2), (17, windows_Sum_f, 1), (396, math_bits_LeadingZeros64_f, 1)]
abbrev wtxTabV : List (Nat × Nat) := []
theorem wtxTab_alive : env wtxTab wtxTabV noEnv 80000 (22) 16 [] = some [bo true] := yesU_eq (by decide +kernel)
theorem windowsTexts_law (l : List WRow) : env wtxTab wtxTabV noEnv 80000 (23) 0 [.c (.vs 7 (l.map WRow.cells))] = some [bo true] := by
  have c192_PadC (n : Nat) : PadC (env wtxTab wtxTabV noEnv 80000 (n + 1) 192) := by
    have h : PadC (run (env wtxTab wtxTabV noEnv 80000 (n + 0)) 80000 digits_Pad_f) := digits_Pad_run _ _ (by omega)
    unfold PadC at h ⊢; intros; rw [env_run rfl rfl]; apply h <;> assumption
  have c197_TrimC (n : Nat) : TrimC (env wtxTab wtxTabV noEnv 80000 (n + 1) 197) := by
    have h : TrimC (run (env wtxTab wtxTabV noEnv 80000 (n + 0)) 80000 strings_trimRightByte_f) := trimRightByte_run _ _ (by omega)
    unfold TrimC at h ⊢; intros; rw [env_run rfl rfl]; apply h <;> assumption
  have c191_TrimC2 (n : Nat) : TrimC2 (env wtxTab wtxTabV noEnv 80000 (n + 2) 191) := by
    have h : TrimC2 (run (env wtxTab wtxTabV noEnv 80000 (n + 1)) 80000 strings_TrimRight_f) := TrimRight_run _ _ (c197_TrimC (n + 0))
    unfold TrimC2 at h ⊢; intros; rw [env_run rfl rfl]; apply h <;> assumption
  have c228_ClCopyC (n : Nat) : Cl.CopyC ((env wtxTab wtxTabV noEnv 80000 (n + 1)).pt 228) := by
    rw [show (env wtxTab wtxTabV noEnv 80000 (n + 1)).pt 228 = runP (env wtxTab wtxTabV noEnv 80000 (n + 0)) 80000 strings_Builder_copyCheck_f from funext fun s => env_runP (k := 1) rfl (by decide +kernel)]; exact Cl.copyCheck_run _ _
  have c228_CtCopyC (n : Nat) : Ct.CopyC ((env wtxTab wtxTabV noEnv 80000 (n + 1)).pt 228) := by
    rw [show (env wtxTab wtxTabV noEnv 80000 (n + 1)).pt 228 = runP (env wtxTab wtxTabV noEnv 80000 (n + 0)) 80000 strings_Builder_copyCheck_f from funext fun s => env_runP (k := 1) rfl (by decide +kernel)]; exact Ct.copyCheck_run _ _
  have c79_ClWrA (n : Nat) : Cl.WrA ((env wtxTab wtxTabV noEnv 80000 (n + 2)).pt 79) := by
    rw [show (env wtxTab wtxTabV noEnv 80000 (n + 2)).pt 79 = runP (env wtxTab wtxTabV noEnv 80000 (n + 1)) 80000 strings_Builder_WriteString_f from funext fun s => env_runP (k := 2) rfl (by decide +kernel)]; exact Cl.WriteString_runA _ _ (c228_ClCopyC (n + 0))
  have c79_ClWrN (n : Nat) : Cl.WrN ((env wtxTab wtxTabV noEnv 80000 (n + 2)).pt 79) := by
    rw [show (env wtxTab wtxTabV noEnv 80000 (n + 2)).pt 79 = runP (env wtxTab wtxTabV noEnv 80000 (n + 1)) 80000 strings_Builder_WriteString_f from funext fun s => env_runP (k := 2) rfl (by decide +kernel)]; exact Cl.WriteString_runN _ _ (c228_ClCopyC (n + 0))
  have c79_CtWrA (n : Nat) : Ct.WrA ((env wtxTab wtxTabV noEnv 80000 (n + 2)).pt 79) := by
    rw [show (env wtxTab wtxTabV noEnv 80000 (n + 2)).pt 79 = runP (env wtxTab wtxTabV noEnv 80000 (n + 1)) 80000 strings_Builder_WriteString_f from funext fun s => env_runP (k := 2) rfl (by decide +kernel)]; exact Ct.WriteString_runA _ _ (c228_CtCopyC (n + 0))
  have c79_CtWrN (n : Nat) : Ct.WrN ((env wtxTab wtxTabV noEnv 80000 (n + 2)).pt 79) := by
    rw [show (env wtxTab wtxTabV noEnv 80000 (n + 2)).pt 79 = runP (env wtxTab wtxTabV noEnv 80000 (n + 1)) 80000 strings_Builder_WriteString_f from funext fun s => env_runP (k := 2) rfl (by decide +kernel)]; exact Ct.WriteString_runN _ _ (c228_CtCopyC (n + 0))
  have c69_ClStrA (n : Nat) : Cl.StrA ((env wtxTab wtxTabV noEnv 80000 (n + 1)).pt 69) := by
    rw [show (env wtxTab wtxTabV noEnv 80000 (n + 1)).pt 69 = runP (env wtxTab wtxTabV noEnv 80000 (n + 0)) 80000 strings_Builder_String_f from funext fun s => env_runP (k := 1) rfl (by decide +kernel)]; exact Cl.BString_runA _ _
  have c69_ClStrC0 (n : Nat) : Cl.StrC0 ((env wtxTab wtxTabV noEnv 80000 (n + 1)).pt 69) := by
    rw [show (env wtxTab wtxTabV noEnv 80000 (n + 1)).pt 69 = runP (env wtxTab wtxTabV noEnv 80000 (n + 0)) 80000 strings_Builder_String_f from funext fun s => env_runP (k := 1) rfl (by decide +kernel)]; exact Cl.BString_run0 _ _
  have c69_CtStrA (n : Nat) : Ct.StrA ((env wtxTab wtxTabV noEnv 80000 (n + 1)).pt 69) := by
    rw [show (env wtxTab wtxTabV noEnv 80000 (n + 1)).pt 69 = runP (env wtxTab wtxTabV noEnv 80000 (n + 0)) 80000 strings_Builder_String_f from funext fun s => env_runP (k := 1) rfl (by decide +kernel)]; exact Ct.BString_runA _ _
  have c69_CtStrC0 (n : Nat) : Ct.StrC0 ((env wtxTab wtxTabV noEnv 80000 (n + 1)).pt 69) := by
    rw [show (env wtxTab wtxTabV noEnv 80000 (n + 1)).pt 69 = runP (env wtxTab wtxTabV noEnv 80000 (n + 0)) 80000 strings_Builder_String_f from funext fun s => env_runP (k := 1) rfl (by decide +kernel)]; exact Ct.BString_run0 _ _
  have c181_WidthsC (n : Nat) : WidthsC (env wtxTab wtxTabV noEnv 80000 (n + 1) 181) := by
    have h : WidthsC (run (env wtxTab wtxTabV noEnv 80000 (n + 0)) 80000 cols_Widths_f) := cols_Widths_run _ _ (by omega)
    unfold WidthsC at h ⊢; intros; rw [env_run rfl rfl]; apply h <;> assumption
  have c182_WidthsC (n : Nat) : WidthsC (env wtxTab wtxTabV noEnv 80000 (n + 1) 182) := by
    have h : WidthsC (run (env wtxTab wtxTabV noEnv 80000 (n + 0)) 80000 ref16_Widths_f) := ref16_Widths_run _ _ (by omega)
    unfold WidthsC at h ⊢; intros; rw [env_run rfl rfl]; apply h <;> assumption
  have c187_LineC16 (n : Nat) : LineC16 (env wtxTab wtxTabV noEnv 80000 (n + 3) 187) := by
    have h : LineC16 (run (env wtxTab wtxTabV noEnv 80000 (n + 2)) 80000 cols_Line_f) := cols_Line_run _ _ (by omega) (c79_ClWrA (n + 0)) (c79_ClWrN (n + 0)) (c69_ClStrA (n + 1)) (c69_ClStrC0 (n + 1)) (c192_PadC (n + 1)) (c191_TrimC2 (n + 0))
    unfold LineC16 at h ⊢; intros; rw [env_run rfl rfl]; apply h <;> assumption
  have c183_TextC16 (n : Nat) : TextC16 (env wtxTab wtxTabV noEnv 80000 (n + 4) 183) := by
    have h : TextC16 (run (env wtxTab wtxTabV noEnv 80000 (n + 3)) 80000 cols_Text_f) := cols_Text_run _ _ (by omega) (c79_CtWrA (n + 1)) (c79_CtWrN (n + 1)) (c69_CtStrA (n + 2)) (c69_CtStrC0 (n + 2)) (c187_LineC16 (n + 0)) (c181_WidthsC (n + 2))
    unfold TextC16 at h ⊢; intros; rw [env_run rfl rfl]; apply h <;> assumption
  have c193_BlanksC (n : Nat) : BlanksC (env wtxTab wtxTabV noEnv 80000 (n + 1) 193) := by
    have h : BlanksC (run (env wtxTab wtxTabV noEnv 80000 (n + 0)) 80000 ref16_blanks_f) := ref16_blanks_run _ _ (by omega)
    unfold BlanksC at h ⊢; intros; rw [env_run rfl rfl]; apply h <;> assumption
  have c189_RLineC16 (n : Nat) : RLineC16 (env wtxTab wtxTabV noEnv 80000 (n + 2) 189) := by
    have h : RLineC16 (run (env wtxTab wtxTabV noEnv 80000 (n + 1)) 80000 ref16_Line_f) := ref16_Line_run _ _ (by omega) (c193_BlanksC (n + 0))
    unfold RLineC16 at h ⊢; intros; rw [env_run rfl rfl]; apply h <;> assumption
  have c184_TextC16 (n : Nat) : TextC16 (env wtxTab wtxTabV noEnv 80000 (n + 3) 184) := by
    have h : TextC16 (run (env wtxTab wtxTabV noEnv 80000 (n + 2)) 80000 ref16_Text_f) := ref16_Text_run _ _ (by omega) (c189_RLineC16 (n + 0)) (c182_WidthsC (n + 1))
    unfold TextC16 at h ⊢; intros; rw [env_run rfl rfl]; apply h <;> assumption
  have c81_Size (n : Nat) : Size (env wtxTab wtxTabV noEnv 80000 (n + 1) 81) := by
    have h : Size (run (env wtxTab wtxTabV noEnv 80000 (n + 0)) 80000 nums_Size_f) := nums_Size_run _
    unfold Size at h ⊢; intros; rw [env_run rfl rfl]; apply h <;> assumption
  have c80_Digitsplain (n : Nat) : Digits_plain (env wtxTab wtxTabV noEnv 80000 (n + 1) 80) := by
    have h : Digits_plain (run (env wtxTab wtxTabV noEnv 80000 (n + 0)) 80000 digits_plain_f) := digits_plain_run _ (by omega)
    unfold Digits_plain at h ⊢; intros; rw [env_run rfl rfl]; apply h <;> assumption
  have c72_Of (n : Nat) : Of (env wtxTab wtxTabV noEnv 80000 (n + 2) 72) := by
    have h : Of (run (env wtxTab wtxTabV noEnv 80000 (n + 1)) 80000 digits_Text_f) := digits_Text_run (c80_Digitsplain (n + 0)) (c81_Size (n + 0))
    unfold Of at h ⊢; intros; rw [env_run rfl rfl]; apply h <;> assumption
  have c50_Of (n : Nat) : Of (env wtxTab wtxTabV noEnv 80000 (n + 3) 50) := by
    have h : Of (run (env wtxTab wtxTabV noEnv 80000 (n + 2)) 80000 digits_Of_f) := digits_Of_run (c72_Of (n + 0))
    unfold Of at h ⊢; intros; rw [env_run rfl rfl]; apply h <;> assumption
  have c74_Size (n : Nat) : Size (env wtxTab wtxTabV noEnv 80000 (n + 1) 74) := by
    have h : Size (run (env wtxTab wtxTabV noEnv 80000 (n + 0)) 80000 ref01_Size_f) := ref01_Size_run _
    unfold Size at h ⊢; intros; rw [env_run rfl rfl]; apply h <;> assumption
  have c73_Ref02plain (n : Nat) : Ref02_plain 20 (env wtxTab wtxTabV noEnv 80000 (n + 20) 73) := by
    have p20 : ∀ (k n : Nat), k < 20 → Ref02_plain (k + 1) (env wtxTab wtxTabV noEnv 80000 (n + (k + 1)) 73) := by
      intro k
      induction k with
      | zero => intro n hk m hm; rw [env_run rfl rfl]; exact ref02_plain_run hk (fun h => absurd h (by omega)) m hm
      | succ j ih => intro n hk m hm; rw [show n + (j + 1 + 1) = (n + (j + 1)) + 1 by omega, env_run rfl rfl]; exact ref02_plain_run hk (fun _ => ih n (by omega)) m hm
    exact p20 19 n (by omega)
  have c52_Of (n : Nat) : Of (env wtxTab wtxTabV noEnv 80000 (n + 21) 52) := by
    have h : Of (run (env wtxTab wtxTabV noEnv 80000 (n + 20)) 80000 ref02_Text_f) := ref02_Text_run (c73_Ref02plain (n + 0)) (c74_Size (n + 19))
    unfold Of at h ⊢; intros; rw [env_run rfl rfl]; apply h <;> assumption
  have c6_Of (n : Nat) : Of (env wtxTab wtxTabV noEnv 80000 (n + 22) 6) := by
    have h : Of (run (env wtxTab wtxTabV noEnv 80000 (n + 21)) 80000 ref02_Of_f) := ref02_Of_run (c52_Of (n + 0))
    unfold Of at h ⊢; intros; rw [env_run rfl rfl]; apply h <;> assumption
  have c378_TimesC (n : Nat) : TimesC (env wtxTab wtxTabV noEnv 80000 (n + 1) 378) := by
    have h : TimesC (run (env wtxTab wtxTabV noEnv 80000 (n + 0)) 80000 ref01_Times_f) := ref01_Times_run _ _
    unfold TimesC at h ⊢; intros; rw [env_run rfl rfl]; apply h <;> assumption
  have c394_TimesC (n : Nat) : TimesC (env wtxTab wtxTabV noEnv 80000 (n + 1) 394) := by
    have h : TimesC (run (env wtxTab wtxTabV noEnv 80000 (n + 0)) 80000 math_bits_Mul64_f) := math_bits_Mul64_run _ _
    unfold TimesC at h ⊢; intros; rw [env_run rfl rfl]; apply h <;> assumption
  have c377_OverC (n : Nat) : OverC (env wtxTab wtxTabV noEnv 80000 (n + 1) 377) := by
    have h : OverC (run (env wtxTab wtxTabV noEnv 80000 (n + 0)) 80000 ref01_Over_f) := ref01_Over_run _ _ (by omega)
    unfold OverC at h ⊢; intros; rw [env_run rfl rfl]; apply h <;> assumption
  have c395_DivC (n : Nat) : DivC (env wtxTab wtxTabV noEnv 80000 (n + 1) 395) := by
    have h : DivC (run (env wtxTab wtxTabV noEnv 80000 (n + 0)) 80000 math_bits_Div64_f) := math_bits_Div64_run _ _
    unfold DivC at h ⊢; intros; rw [env_run rfl rfl]; apply h <;> assumption
  have c393_NSgC (n : Nat) : NSgC (env wtxTab wtxTabV noEnv 80000 (n + 1) 393) := by
    have h : NSgC (run (env wtxTab wtxTabV noEnv 80000 (n + 0)) 80000 nums_signed_f) := nums_signed_run _ _
    unfold NSgC at h ⊢; intros; rw [env_run rfl rfl]; apply h <;> assumption
  have c383_RSgC (n : Nat) : RSgC (env wtxTab wtxTabV noEnv 80000 (n + 1) 383) := by
    have h : RSgC (run (env wtxTab wtxTabV noEnv 80000 (n + 0)) 80000 ref01_signed_f) := ref01_signed_run _ _
    unfold RSgC at h ⊢; intros; rw [env_run rfl rfl]; apply h <;> assumption
  have c391_NMulC (n : Nat) : NMulC (env wtxTab wtxTabV noEnv 80000 (n + 2) 391) := by
    have h : NMulC (run (env wtxTab wtxTabV noEnv 80000 (n + 1)) 80000 nums_Mul_f) := nums_Mul_run (c394_TimesC (n + 0)) (c81_Size (n + 0)) (c393_NSgC (n + 0))
    unfold NMulC at h ⊢; intros; rw [env_run rfl rfl]; apply h <;> assumption
  have c376_RMulC (n : Nat) : RMulC (env wtxTab wtxTabV noEnv 80000 (n + 2) 376) := by
    have h : RMulC (run (env wtxTab wtxTabV noEnv 80000 (n + 1)) 80000 ref01_Mul_f) := ref01_Mul_run (c378_TimesC (n + 0)) (c74_Size (n + 0)) (c383_RSgC (n + 0))
    unfold RMulC at h ⊢; intros; rw [env_run rfl rfl]; apply h <;> assumption
  have c389_NAddC (n : Nat) : NAddC (env wtxTab wtxTabV noEnv 80000 (n + 1) 389) := by
    have h : NAddC (run (env wtxTab wtxTabV noEnv 80000 (n + 0)) 80000 nums_Add_f) := nums_Add_run _ _
    unfold NAddC at h ⊢; intros; rw [env_run rfl rfl]; apply h <;> assumption
  have c375_RAddC (n : Nat) : RAddC (env wtxTab wtxTabV noEnv 80000 (n + 1) 375) := by
    have h : RAddC (run (env wtxTab wtxTabV noEnv 80000 (n + 0)) 80000 ref01_Add_f) := ref01_Add_run _ _
    unfold RAddC at h ⊢; intros; rw [env_run rfl rfl]; apply h <;> assumption
  have c390_MulDivC (n : Nat) : MulDivC (env wtxTab wtxTabV noEnv 80000 (n + 2) 390) := by
    have h : MulDivC (run (env wtxTab wtxTabV noEnv 80000 (n + 1)) 80000 nums_MulDiv_f) := nums_MulDiv_run (c394_TimesC (n + 0)) (c395_DivC (n + 0)) (c393_NSgC (n + 0))
    unfold MulDivC at h ⊢; intros; rw [env_run rfl rfl]; apply h <;> assumption
  have c392_RightC (n : Nat) : RightC (env wtxTab wtxTabV noEnv 80000 (n + 1) 392) := by
    have h : RightC (run (env wtxTab wtxTabV noEnv 80000 (n + 0)) 80000 frac_Right_f) := frac_Right_run _ _
    unfold RightC at h ⊢; intros; rw [env_run rfl rfl]; apply h <;> assumption
  have c379_RightC (n : Nat) : RightC (env wtxTab wtxTabV noEnv 80000 (n + 1) 379) := by
    have h : RightC (run (env wtxTab wtxTabV noEnv 80000 (n + 0)) 80000 ref08_Right_f) := ref08_Right_run _ _
    unfold RightC at h ⊢; intros; rw [env_run rfl rfl]; apply h <;> assumption
  have c386_HundC (n : Nat) : HundC (env wtxTab wtxTabV noEnv 80000 (n + 3) 386) := by
    have h : HundC (run (env wtxTab wtxTabV noEnv 80000 (n + 2)) 80000 frac_Hundredths_f) := frac_Hundredths_run (c392_RightC (n + 1)) (c391_NMulC (n + 0)) (c390_MulDivC (n + 0)) (c389_NAddC (n + 1))
    unfold HundC at h ⊢; intros; rw [env_run rfl rfl]; apply h <;> assumption
  have c373_HundC (n : Nat) : HundC (env wtxTab wtxTabV noEnv 80000 (n + 3) 373) := by
    have h : HundC (run (env wtxTab wtxTabV noEnv 80000 (n + 2)) 80000 ref08_Hundredths_f) := ref08_Hundredths_run (c379_RightC (n + 1)) (c378_TimesC (n + 1)) (c377_OverC (n + 1)) (c376_RMulC (n + 0)) (c375_RAddC (n + 1))
    unfold HundC at h ⊢; intros; rw [env_run rfl rfl]; apply h <;> assumption
  have c387_FracOfC (n : Nat) : FracOfC (env wtxTab wtxTabV noEnv 80000 (n + 1) 387) := by
    have h : FracOfC (run (env wtxTab wtxTabV noEnv 80000 (n + 0)) 80000 frac_Of_f) := frac_Of_run _ _
    unfold FracOfC at h ⊢; intros; rw [env_run rfl rfl]; apply h <;> assumption
  have c385_FixC (n : Nat) : FixC (env wtxTab wtxTabV noEnv 80000 (n + 2) 385) := by
    have h : FixC (run (env wtxTab wtxTabV noEnv 80000 (n + 1)) 80000 digits_Fixed_f) := digits_Fixed_run (by omega) (c80_Digitsplain (n + 0)) (c81_Size (n + 0))
    unfold FixC at h ⊢; intros; rw [env_run rfl rfl]; apply h <;> assumption
  have c372_FixC (n : Nat) : FixC (env wtxTab wtxTabV noEnv 80000 (n + 21) 372) := by
    have h : FixC (run (env wtxTab wtxTabV noEnv 80000 (n + 20)) 80000 ref02_Fixed_f) := ref02_Fixed_run (by omega) (c73_Ref02plain (n + 0)) (c74_Size (n + 19))
    unfold FixC at h ⊢; intros; rw [env_run rfl rfl]; apply h <;> assumption
  have c388_TwoI (n : Nat) : TwoI (env wtxTab wtxTabV noEnv 80000 (n + 4) 388) := by
    have h : TwoI (run (env wtxTab wtxTabV noEnv 80000 (n + 3)) 80000 clock_two_f) := clock_two_run (c50_Of (n + 0))
    unfold TwoI at h ⊢; intros; rw [env_run rfl rfl]; apply h <;> assumption
  have c380_TwoU (n : Nat) : TwoU (env wtxTab wtxTabV noEnv 80000 (n + 1) 380) := by
    have h : TwoU (run (env wtxTab wtxTabV noEnv 80000 (n + 0)) 80000 ref52_two_f) := ref52_two_run
    unfold TwoU at h ⊢; intros; rw [env_run rfl rfl]; apply h <;> assumption
  have c384_ClkC (n : Nat) : ClkC (env wtxTab wtxTabV noEnv 80000 (n + 5) 384) := by
    have h : ClkC (run (env wtxTab wtxTabV noEnv 80000 (n + 4)) 80000 clock_Text_f) := clock_Text_run (c388_TwoI (n + 0)) (c72_Of (n + 2))
    unfold ClkC at h ⊢; intros; rw [env_run rfl rfl]; apply h <;> assumption
  have c371_ClkC (n : Nat) : ClkC (env wtxTab wtxTabV noEnv 80000 (n + 22) 371) := by
    have h : ClkC (run (env wtxTab wtxTabV noEnv 80000 (n + 21)) 80000 ref52_Text_f) := ref52_Text_run (c380_TwoU (n + 20)) (c52_Of (n + 0))
    unfold ClkC at h ⊢; intros; rw [env_run rfl rfl]; apply h <;> assumption
  have c381_SpanTC (n : Nat) : SpanTC (env wtxTab wtxTabV noEnv 80000 (n + 6) 381) := by
    have h : SpanTC (run (env wtxTab wtxTabV noEnv 80000 (n + 5)) 80000 clock_Span_f) := clock_Span_run (c384_ClkC (n + 0))
    unfold SpanTC at h ⊢; intros; rw [env_run rfl rfl]; apply h <;> assumption
  have c382_MeanC (n : Nat) : MeanC (env wtxTab wtxTabV noEnv 80000 (n + 4) 382) := by
    have h : MeanC (run (env wtxTab wtxTabV noEnv 80000 (n + 3)) 80000 windows_mean_f) := windows_mean_run (c387_FracOfC (n + 2)) (c386_HundC (n + 0)) (c385_FixC (n + 1))
    unfold MeanC at h ⊢; intros; rw [env_run rfl rfl]; apply h <;> assumption
  have c370_WTextC (n : Nat) : WTextC (env wtxTab wtxTabV noEnv 80000 (n + 7) 370) := by
    have h : WTextC (run (env wtxTab wtxTabV noEnv 80000 (n + 6)) 80000 windows_Text_f) := windows_Text_run (by omega) (c381_SpanTC (n + 0)) (c50_Of (n + 3)) (c382_MeanC (n + 2)) (c183_TextC16 (n + 2))
    unfold WTextC at h ⊢; intros; rw [env_run rfl rfl]; apply h <;> assumption
  rw [env_run rfl rfl]
  exact WindowsTexts_run (by omega) wtxTab_alive (c371_ClkC 0) (c6_Of 0) (c373_HundC 19) (c372_FixC 1) (c184_TextC16 19) (c370_WTextC 15) l
end Go.Am
