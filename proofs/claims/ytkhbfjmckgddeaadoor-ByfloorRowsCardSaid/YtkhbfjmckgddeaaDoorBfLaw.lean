/- Law 70: ByfloorRows, over the functions together. -/
import Derived.Test.YtkhbfjmckgddeaaDoorBfF
import Derived.Test.YtkhbfjmckgddeaaDoorUt
set_option linter.unusedVariables false
set_option linter.unusedSimpArgs false
set_option maxRecDepth 10000
set_option maxHeartbeats 1000000
namespace Go.Am
abbrev bfTab : Tab := [(0, law70_ByfloorRows_f, 2), (192, digits_Pad_f, 2), (197, strings_trimRightByte_f, 2), (191, strings_TrimRight_f, 2), (228, strings_Builder_copyCheck_f, 1), (79, strings_Builder_WriteString_f, 2), (69, strings_Builder_String_f, 1), (181, cols_Widths_f, 1), (182, ref16_Widths_f, 1), (187, cols_Line_f, 2), (183, cols_Text_f, 1), (193, ref16_blanks_f, 1), (189, ref16_Line_f, 2), (184, ref16_Text_f, 1), (81, nums_Size_f, 1), (80, digits_plain_f, 1), (72, digits_Text_f, 1), (50, digits_Of_f, 1), (74, ref01_Size_f, 1), (73, ref02_plain_f, 1), (52, ref02_Text_f, 1), (6, ref02_Of_f, 1), (60, law24_Great_f, 1), (453, law70_dir_f, 2), (449, law70_row_f, 2), (451, byfloor_Worst_f, 1), (450, byfloor_Of_f, 2), (446, slices_Equal_Sbyfloor_Row_byfloor_Row_f, 2), (447, byfloor_Text_f, 1), (448, law70_alive_f, 0)]
abbrev bfTabV : List (Nat × Nat) := []
theorem bfTab_alive : env bfTab bfTabV bfF 80000 (22) 448 [] = some [bo true] := yesU_eq (by decide +kernel)
theorem byfloorRows_law (l : List Trip) (kf kd : Int) : env bfTab bfTabV bfF 80000 (23) 0 [vTb l, .agg [.int .i64 kf, .int .i64 kd]] = some [bo true] := by
  have c192_PadC (n : Nat) : PadC (env bfTab bfTabV bfF 80000 (n + 1) 192) := by
    have h : PadC (run (env bfTab bfTabV bfF 80000 (n + 0)) 80000 digits_Pad_f) := digits_Pad_run _ _ (by omega)
    unfold PadC at h ⊢; intros; rw [env_run rfl rfl]; apply h <;> assumption
  have c197_TrimC (n : Nat) : TrimC (env bfTab bfTabV bfF 80000 (n + 1) 197) := by
    have h : TrimC (run (env bfTab bfTabV bfF 80000 (n + 0)) 80000 strings_trimRightByte_f) := trimRightByte_run _ _ (by omega)
    unfold TrimC at h ⊢; intros; rw [env_run rfl rfl]; apply h <;> assumption
  have c191_TrimC2 (n : Nat) : TrimC2 (env bfTab bfTabV bfF 80000 (n + 2) 191) := by
    have h : TrimC2 (run (env bfTab bfTabV bfF 80000 (n + 1)) 80000 strings_TrimRight_f) := TrimRight_run _ _ (c197_TrimC (n + 0))
    unfold TrimC2 at h ⊢; intros; rw [env_run rfl rfl]; apply h <;> assumption
  have c228_ClCopyC (n : Nat) : Cl.CopyC ((env bfTab bfTabV bfF 80000 (n + 1)).pt 228) := by
    rw [show (env bfTab bfTabV bfF 80000 (n + 1)).pt 228 = runP (env bfTab bfTabV bfF 80000 (n + 0)) 80000 strings_Builder_copyCheck_f from funext fun s => env_runP (k := 1) rfl (by decide +kernel)]; exact Cl.copyCheck_run _ _
  have c228_CtCopyC (n : Nat) : Ct.CopyC ((env bfTab bfTabV bfF 80000 (n + 1)).pt 228) := by
    rw [show (env bfTab bfTabV bfF 80000 (n + 1)).pt 228 = runP (env bfTab bfTabV bfF 80000 (n + 0)) 80000 strings_Builder_copyCheck_f from funext fun s => env_runP (k := 1) rfl (by decide +kernel)]; exact Ct.copyCheck_run _ _
  have c79_ClWrA (n : Nat) : Cl.WrA ((env bfTab bfTabV bfF 80000 (n + 2)).pt 79) := by
    rw [show (env bfTab bfTabV bfF 80000 (n + 2)).pt 79 = runP (env bfTab bfTabV bfF 80000 (n + 1)) 80000 strings_Builder_WriteString_f from funext fun s => env_runP (k := 2) rfl (by decide +kernel)]; exact Cl.WriteString_runA _ _ (c228_ClCopyC (n + 0))
  have c79_ClWrN (n : Nat) : Cl.WrN ((env bfTab bfTabV bfF 80000 (n + 2)).pt 79) := by
    rw [show (env bfTab bfTabV bfF 80000 (n + 2)).pt 79 = runP (env bfTab bfTabV bfF 80000 (n + 1)) 80000 strings_Builder_WriteString_f from funext fun s => env_runP (k := 2) rfl (by decide +kernel)]; exact Cl.WriteString_runN _ _ (c228_ClCopyC (n + 0))
  have c79_CtWrA (n : Nat) : Ct.WrA ((env bfTab bfTabV bfF 80000 (n + 2)).pt 79) := by
    rw [show (env bfTab bfTabV bfF 80000 (n + 2)).pt 79 = runP (env bfTab bfTabV bfF 80000 (n + 1)) 80000 strings_Builder_WriteString_f from funext fun s => env_runP (k := 2) rfl (by decide +kernel)]; exact Ct.WriteString_runA _ _ (c228_CtCopyC (n + 0))
  have c79_CtWrN (n : Nat) : Ct.WrN ((env bfTab bfTabV bfF 80000 (n + 2)).pt 79) := by
    rw [show (env bfTab bfTabV bfF 80000 (n + 2)).pt 79 = runP (env bfTab bfTabV bfF 80000 (n + 1)) 80000 strings_Builder_WriteString_f from funext fun s => env_runP (k := 2) rfl (by decide +kernel)]; exact Ct.WriteString_runN _ _ (c228_CtCopyC (n + 0))
  have c69_ClStrA (n : Nat) : Cl.StrA ((env bfTab bfTabV bfF 80000 (n + 1)).pt 69) := by
    rw [show (env bfTab bfTabV bfF 80000 (n + 1)).pt 69 = runP (env bfTab bfTabV bfF 80000 (n + 0)) 80000 strings_Builder_String_f from funext fun s => env_runP (k := 1) rfl (by decide +kernel)]; exact Cl.BString_runA _ _
  have c69_ClStrC0 (n : Nat) : Cl.StrC0 ((env bfTab bfTabV bfF 80000 (n + 1)).pt 69) := by
    rw [show (env bfTab bfTabV bfF 80000 (n + 1)).pt 69 = runP (env bfTab bfTabV bfF 80000 (n + 0)) 80000 strings_Builder_String_f from funext fun s => env_runP (k := 1) rfl (by decide +kernel)]; exact Cl.BString_run0 _ _
  have c69_CtStrA (n : Nat) : Ct.StrA ((env bfTab bfTabV bfF 80000 (n + 1)).pt 69) := by
    rw [show (env bfTab bfTabV bfF 80000 (n + 1)).pt 69 = runP (env bfTab bfTabV bfF 80000 (n + 0)) 80000 strings_Builder_String_f from funext fun s => env_runP (k := 1) rfl (by decide +kernel)]; exact Ct.BString_runA _ _
  have c69_CtStrC0 (n : Nat) : Ct.StrC0 ((env bfTab bfTabV bfF 80000 (n + 1)).pt 69) := by
    rw [show (env bfTab bfTabV bfF 80000 (n + 1)).pt 69 = runP (env bfTab bfTabV bfF 80000 (n + 0)) 80000 strings_Builder_String_f from funext fun s => env_runP (k := 1) rfl (by decide +kernel)]; exact Ct.BString_run0 _ _
  have c181_WidthsC (n : Nat) : WidthsC (env bfTab bfTabV bfF 80000 (n + 1) 181) := by
    have h : WidthsC (run (env bfTab bfTabV bfF 80000 (n + 0)) 80000 cols_Widths_f) := cols_Widths_run _ _ (by omega)
    unfold WidthsC at h ⊢; intros; rw [env_run rfl rfl]; apply h <;> assumption
  have c182_WidthsC (n : Nat) : WidthsC (env bfTab bfTabV bfF 80000 (n + 1) 182) := by
    have h : WidthsC (run (env bfTab bfTabV bfF 80000 (n + 0)) 80000 ref16_Widths_f) := ref16_Widths_run _ _ (by omega)
    unfold WidthsC at h ⊢; intros; rw [env_run rfl rfl]; apply h <;> assumption
  have c187_LineC16 (n : Nat) : LineC16 (env bfTab bfTabV bfF 80000 (n + 3) 187) := by
    have h : LineC16 (run (env bfTab bfTabV bfF 80000 (n + 2)) 80000 cols_Line_f) := cols_Line_run _ _ (by omega) (c79_ClWrA (n + 0)) (c79_ClWrN (n + 0)) (c69_ClStrA (n + 1)) (c69_ClStrC0 (n + 1)) (c192_PadC (n + 1)) (c191_TrimC2 (n + 0))
    unfold LineC16 at h ⊢; intros; rw [env_run rfl rfl]; apply h <;> assumption
  have c183_TextC16 (n : Nat) : TextC16 (env bfTab bfTabV bfF 80000 (n + 4) 183) := by
    have h : TextC16 (run (env bfTab bfTabV bfF 80000 (n + 3)) 80000 cols_Text_f) := cols_Text_run _ _ (by omega) (c79_CtWrA (n + 1)) (c79_CtWrN (n + 1)) (c69_CtStrA (n + 2)) (c69_CtStrC0 (n + 2)) (c187_LineC16 (n + 0)) (c181_WidthsC (n + 2))
    unfold TextC16 at h ⊢; intros; rw [env_run rfl rfl]; apply h <;> assumption
  have c193_BlanksC (n : Nat) : BlanksC (env bfTab bfTabV bfF 80000 (n + 1) 193) := by
    have h : BlanksC (run (env bfTab bfTabV bfF 80000 (n + 0)) 80000 ref16_blanks_f) := ref16_blanks_run _ _ (by omega)
    unfold BlanksC at h ⊢; intros; rw [env_run rfl rfl]; apply h <;> assumption
  have c189_RLineC16 (n : Nat) : RLineC16 (env bfTab bfTabV bfF 80000 (n + 2) 189) := by
    have h : RLineC16 (run (env bfTab bfTabV bfF 80000 (n + 1)) 80000 ref16_Line_f) := ref16_Line_run _ _ (by omega) (c193_BlanksC (n + 0))
    unfold RLineC16 at h ⊢; intros; rw [env_run rfl rfl]; apply h <;> assumption
  have c184_TextC16 (n : Nat) : TextC16 (env bfTab bfTabV bfF 80000 (n + 3) 184) := by
    have h : TextC16 (run (env bfTab bfTabV bfF 80000 (n + 2)) 80000 ref16_Text_f) := ref16_Text_run _ _ (by omega) (c189_RLineC16 (n + 0)) (c182_WidthsC (n + 1))
    unfold TextC16 at h ⊢; intros; rw [env_run rfl rfl]; apply h <;> assumption
  have c81_Size (n : Nat) : Size (env bfTab bfTabV bfF 80000 (n + 1) 81) := by
    have h : Size (run (env bfTab bfTabV bfF 80000 (n + 0)) 80000 nums_Size_f) := nums_Size_run _
    unfold Size at h ⊢; intros; rw [env_run rfl rfl]; apply h <;> assumption
  have c80_Digitsplain (n : Nat) : Digits_plain (env bfTab bfTabV bfF 80000 (n + 1) 80) := by
    have h : Digits_plain (run (env bfTab bfTabV bfF 80000 (n + 0)) 80000 digits_plain_f) := digits_plain_run _ (by omega)
    unfold Digits_plain at h ⊢; intros; rw [env_run rfl rfl]; apply h <;> assumption
  have c72_Of (n : Nat) : Of (env bfTab bfTabV bfF 80000 (n + 2) 72) := by
    have h : Of (run (env bfTab bfTabV bfF 80000 (n + 1)) 80000 digits_Text_f) := digits_Text_run (c80_Digitsplain (n + 0)) (c81_Size (n + 0))
    unfold Of at h ⊢; intros; rw [env_run rfl rfl]; apply h <;> assumption
  have c50_Of (n : Nat) : Of (env bfTab bfTabV bfF 80000 (n + 3) 50) := by
    have h : Of (run (env bfTab bfTabV bfF 80000 (n + 2)) 80000 digits_Of_f) := digits_Of_run (c72_Of (n + 0))
    unfold Of at h ⊢; intros; rw [env_run rfl rfl]; apply h <;> assumption
  have c74_Size (n : Nat) : Size (env bfTab bfTabV bfF 80000 (n + 1) 74) := by
    have h : Size (run (env bfTab bfTabV bfF 80000 (n + 0)) 80000 ref01_Size_f) := ref01_Size_run _
    unfold Size at h ⊢; intros; rw [env_run rfl rfl]; apply h <;> assumption
  have c73_Ref02plain (n : Nat) : Ref02_plain 20 (env bfTab bfTabV bfF 80000 (n + 20) 73) := by
    have p20 : ∀ (k n : Nat), k < 20 → Ref02_plain (k + 1) (env bfTab bfTabV bfF 80000 (n + (k + 1)) 73) := by
      intro k
      induction k with
      | zero => intro n hk m hm; rw [env_run rfl rfl]; exact ref02_plain_run hk (fun h => absurd h (by omega)) m hm
      | succ j ih => intro n hk m hm; rw [show n + (j + 1 + 1) = (n + (j + 1)) + 1 by omega, env_run rfl rfl]; exact ref02_plain_run hk (fun _ => ih n (by omega)) m hm
    exact p20 19 n (by omega)
  have c52_Of (n : Nat) : Of (env bfTab bfTabV bfF 80000 (n + 21) 52) := by
    have h : Of (run (env bfTab bfTabV bfF 80000 (n + 20)) 80000 ref02_Text_f) := ref02_Text_run (c73_Ref02plain (n + 0)) (c74_Size (n + 19))
    unfold Of at h ⊢; intros; rw [env_run rfl rfl]; apply h <;> assumption
  have c6_Of (n : Nat) : Of (env bfTab bfTabV bfF 80000 (n + 22) 6) := by
    have h : Of (run (env bfTab bfTabV bfF 80000 (n + 21)) 80000 ref02_Of_f) := ref02_Of_run (c52_Of (n + 0))
    unfold Of at h ⊢; intros; rw [env_run rfl rfl]; apply h <;> assumption
  have c60_Great24 (n : Nat) : Great24 (env bfTab bfTabV bfF 80000 (n + 1) 60) := by
    have h : Great24 (run (env bfTab bfTabV bfF 80000 (n + 0)) 80000 law24_Great_f) := law24_Great_run _ _ (by omega)
    unfold Great24 at h ⊢; intros; rw [env_run rfl rfl]; apply h <;> assumption
  have c453_LDirC (n : Nat) : LDirC (env bfTab bfTabV bfF 80000 (n + 1) 453) := by
    have h : LDirC (run (env bfTab bfTabV bfF 80000 (n + 0)) 80000 law70_dir_f) := law70_dir_run _ _
    unfold LDirC at h ⊢; intros; rw [env_run rfl rfl]; apply h <;> assumption
  have c449_RowC70 (n : Nat) : RowC70 (env bfTab bfTabV bfF 80000 (n + 2) 449) := by
    have h : RowC70 (run (env bfTab bfTabV bfF 80000 (n + 1)) 80000 law70_row_f) := law70_row_run (by omega) (c453_LDirC (n + 0))
    unfold RowC70 at h ⊢; intros; rw [env_run rfl rfl]; apply h <;> assumption
  have c451_WorstC (n : Nat) : WorstC (env bfTab bfTabV bfF 80000 (n + 1) 451) := by
    have h : WorstC (run (env bfTab bfTabV bfF 80000 (n + 0)) 80000 byfloor_Worst_f) := byfloor_Worst_run (by omega) (env_all rfl)
    unfold WorstC at h ⊢; intros; rw [env_run rfl rfl]; apply h <;> assumption
  have c450_OfCB (n : Nat) : OfCB (env bfTab bfTabV bfF 80000 (n + 1) 450) := by
    have h : OfCB (run (env bfTab bfTabV bfF 80000 (n + 0)) 80000 byfloor_Of_f) := byfloor_Of_run (by omega) (env_all rfl)
    unfold OfCB at h ⊢; intros; rw [env_run rfl rfl]; apply h <;> assumption
  have c446_EqE (n : Nat) : EqE (env bfTab bfTabV bfF 80000 (n + 1) 446) := by
    have h : EqE (run (env bfTab bfTabV bfF 80000 (n + 0)) 80000 slices_Equal_Sbyfloor_Row_byfloor_Row_f) := slices_Equal_E_run _ _ (by omega)
    unfold EqE at h ⊢; intros; rw [env_run rfl rfl]; apply h <;> assumption
  have c447_FTextC (n : Nat) : FTextC (env bfTab bfTabV bfF 80000 (n + 5) 447) := by
    have h : FTextC (run (env bfTab bfTabV bfF 80000 (n + 4)) 80000 byfloor_Text_f) := byfloor_Text_run (by omega) (env_all rfl) (c50_Of (n + 1)) (c183_TextC16 (n + 0))
    unfold FTextC at h ⊢; intros; rw [env_run rfl rfl]; apply h <;> assumption
  rw [env_run rfl rfl]
  exact ByfloorRows_run (by omega) bfTab_alive (c60_Great24 21) (c449_RowC70 20) (c6_Of 0) (c451_WorstC 21) (c450_OfCB 21) (env_all rfl) (c446_EqE 21) (c447_FTextC 17) (c184_TextC16 19) l kf kd
end Go.Am
