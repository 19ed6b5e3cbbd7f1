/- Law 16: ColsLay, over the functions together. -/
import Derived.Test.YtlpopmalfppjjaaDoorColsM
import Derived.Test.YtlpopmalfppjjaaDoorUt
set_option linter.unusedVariables false
set_option linter.unusedSimpArgs false
set_option maxRecDepth 10000
set_option maxHeartbeats 1000000
namespace Go.Am
abbrev layTab : Tab := [(0, law16_ColsLay_f, 1), (186, law16_great_f, 1), (181, cols_Widths_f, 1), (182, ref16_Widths_f, 1), (109, slices_Equal_Sint_int_f, 2), (192, digits_Pad_f, 2), (197, strings_trimRightByte_f, 2), (191, strings_TrimRight_f, 2), (228, strings_Builder_copyCheck_f, 1), (79, strings_Builder_WriteString_f, 2), (69, strings_Builder_String_f, 1), (187, cols_Line_f, 2), (183, cols_Text_f, 1), (193, ref16_blanks_f, 1), (189, ref16_Line_f, 2), (184, ref16_Text_f, 1), (185, law16_alive_f, 0)]
abbrev layTabV : List (Nat × Nat) := []
theorem layTab_alive : env layTab layTabV noEnv 80000 (12) 185 [] = some [bo true] := yesU_eq (by decide +kernel)
theorem lay_law (rs : List TRow) : env layTab layTabV noEnv 80000 (13) 0 [vRs rs] = some [bo true] := by
  have c186_GreatC (n : Nat) : GreatC (env layTab layTabV noEnv 80000 (n + 1) 186) := by
    have h : GreatC (run (env layTab layTabV noEnv 80000 (n + 0)) 80000 law16_great_f) := law16_great_run _ _ (by omega)
    unfold GreatC at h ⊢; intros; rw [env_run rfl rfl]; apply h <;> assumption
  have c181_WidthsC (n : Nat) : WidthsC (env layTab layTabV noEnv 80000 (n + 1) 181) := by
    have h : WidthsC (run (env layTab layTabV noEnv 80000 (n + 0)) 80000 cols_Widths_f) := cols_Widths_run _ _ (by omega)
    unfold WidthsC at h ⊢; intros; rw [env_run rfl rfl]; apply h <;> assumption
  have c182_WidthsC (n : Nat) : WidthsC (env layTab layTabV noEnv 80000 (n + 1) 182) := by
    have h : WidthsC (run (env layTab layTabV noEnv 80000 (n + 0)) 80000 ref16_Widths_f) := ref16_Widths_run _ _ (by omega)
    unfold WidthsC at h ⊢; intros; rw [env_run rfl rfl]; apply h <;> assumption
  have c109_EqN (n : Nat) : EqN (env layTab layTabV noEnv 80000 (n + 1) 109) := by
    have h : EqN (run (env layTab layTabV noEnv 80000 (n + 0)) 80000 slices_Equal_Sint_int_f) := slices_Equal_N_run _ _ (by omega)
    unfold EqN at h ⊢; intros; rw [env_run rfl rfl]; apply h <;> assumption
  have c192_PadC (n : Nat) : PadC (env layTab layTabV noEnv 80000 (n + 1) 192) := by
    have h : PadC (run (env layTab layTabV noEnv 80000 (n + 0)) 80000 digits_Pad_f) := digits_Pad_run _ _ (by omega)
    unfold PadC at h ⊢; intros; rw [env_run rfl rfl]; apply h <;> assumption
  have c197_TrimC (n : Nat) : TrimC (env layTab layTabV noEnv 80000 (n + 1) 197) := by
    have h : TrimC (run (env layTab layTabV noEnv 80000 (n + 0)) 80000 strings_trimRightByte_f) := trimRightByte_run _ _ (by omega)
    unfold TrimC at h ⊢; intros; rw [env_run rfl rfl]; apply h <;> assumption
  have c191_TrimC2 (n : Nat) : TrimC2 (env layTab layTabV noEnv 80000 (n + 2) 191) := by
    have h : TrimC2 (run (env layTab layTabV noEnv 80000 (n + 1)) 80000 strings_TrimRight_f) := TrimRight_run _ _ (c197_TrimC (n + 0))
    unfold TrimC2 at h ⊢; intros; rw [env_run rfl rfl]; apply h <;> assumption
  have c228_ClCopyC (n : Nat) : Cl.CopyC ((env layTab layTabV noEnv 80000 (n + 1)).pt 228) := by
    rw [show (env layTab layTabV noEnv 80000 (n + 1)).pt 228 = runP (env layTab layTabV noEnv 80000 (n + 0)) 80000 strings_Builder_copyCheck_f from funext fun s => env_runP (k := 1) rfl (by decide +kernel)]; exact Cl.copyCheck_run _ _
  have c228_CtCopyC (n : Nat) : Ct.CopyC ((env layTab layTabV noEnv 80000 (n + 1)).pt 228) := by
    rw [show (env layTab layTabV noEnv 80000 (n + 1)).pt 228 = runP (env layTab layTabV noEnv 80000 (n + 0)) 80000 strings_Builder_copyCheck_f from funext fun s => env_runP (k := 1) rfl (by decide +kernel)]; exact Ct.copyCheck_run _ _
  have c79_ClWrA (n : Nat) : Cl.WrA ((env layTab layTabV noEnv 80000 (n + 2)).pt 79) := by
    rw [show (env layTab layTabV noEnv 80000 (n + 2)).pt 79 = runP (env layTab layTabV noEnv 80000 (n + 1)) 80000 strings_Builder_WriteString_f from funext fun s => env_runP (k := 2) rfl (by decide +kernel)]; exact Cl.WriteString_runA _ _ (c228_ClCopyC (n + 0))
  have c79_ClWrN (n : Nat) : Cl.WrN ((env layTab layTabV noEnv 80000 (n + 2)).pt 79) := by
    rw [show (env layTab layTabV noEnv 80000 (n + 2)).pt 79 = runP (env layTab layTabV noEnv 80000 (n + 1)) 80000 strings_Builder_WriteString_f from funext fun s => env_runP (k := 2) rfl (by decide +kernel)]; exact Cl.WriteString_runN _ _ (c228_ClCopyC (n + 0))
  have c79_CtWrA (n : Nat) : Ct.WrA ((env layTab layTabV noEnv 80000 (n + 2)).pt 79) := by
    rw [show (env layTab layTabV noEnv 80000 (n + 2)).pt 79 = runP (env layTab layTabV noEnv 80000 (n + 1)) 80000 strings_Builder_WriteString_f from funext fun s => env_runP (k := 2) rfl (by decide +kernel)]; exact Ct.WriteString_runA _ _ (c228_CtCopyC (n + 0))
  have c79_CtWrN (n : Nat) : Ct.WrN ((env layTab layTabV noEnv 80000 (n + 2)).pt 79) := by
    rw [show (env layTab layTabV noEnv 80000 (n + 2)).pt 79 = runP (env layTab layTabV noEnv 80000 (n + 1)) 80000 strings_Builder_WriteString_f from funext fun s => env_runP (k := 2) rfl (by decide +kernel)]; exact Ct.WriteString_runN _ _ (c228_CtCopyC (n + 0))
  have c69_ClStrA (n : Nat) : Cl.StrA ((env layTab layTabV noEnv 80000 (n + 1)).pt 69) := by
    rw [show (env layTab layTabV noEnv 80000 (n + 1)).pt 69 = runP (env layTab layTabV noEnv 80000 (n + 0)) 80000 strings_Builder_String_f from funext fun s => env_runP (k := 1) rfl (by decide +kernel)]; exact Cl.BString_runA _ _
  have c69_ClStrC0 (n : Nat) : Cl.StrC0 ((env layTab layTabV noEnv 80000 (n + 1)).pt 69) := by
    rw [show (env layTab layTabV noEnv 80000 (n + 1)).pt 69 = runP (env layTab layTabV noEnv 80000 (n + 0)) 80000 strings_Builder_String_f from funext fun s => env_runP (k := 1) rfl (by decide +kernel)]; exact Cl.BString_run0 _ _
  have c69_CtStrA (n : Nat) : Ct.StrA ((env layTab layTabV noEnv 80000 (n + 1)).pt 69) := by
    rw [show (env layTab layTabV noEnv 80000 (n + 1)).pt 69 = runP (env layTab layTabV noEnv 80000 (n + 0)) 80000 strings_Builder_String_f from funext fun s => env_runP (k := 1) rfl (by decide +kernel)]; exact Ct.BString_runA _ _
  have c69_CtStrC0 (n : Nat) : Ct.StrC0 ((env layTab layTabV noEnv 80000 (n + 1)).pt 69) := by
    rw [show (env layTab layTabV noEnv 80000 (n + 1)).pt 69 = runP (env layTab layTabV noEnv 80000 (n + 0)) 80000 strings_Builder_String_f from funext fun s => env_runP (k := 1) rfl (by decide +kernel)]; exact Ct.BString_run0 _ _
  have c187_LineC16 (n : Nat) : LineC16 (env layTab layTabV noEnv 80000 (n + 3) 187) := by
    have h : LineC16 (run (env layTab layTabV noEnv 80000 (n + 2)) 80000 cols_Line_f) := cols_Line_run _ _ (by omega) (c79_ClWrA (n + 0)) (c79_ClWrN (n + 0)) (c69_ClStrA (n + 1)) (c69_ClStrC0 (n + 1)) (c192_PadC (n + 1)) (c191_TrimC2 (n + 0))
    unfold LineC16 at h ⊢; intros; rw [env_run rfl rfl]; apply h <;> assumption
  have c183_TextC16 (n : Nat) : TextC16 (env layTab layTabV noEnv 80000 (n + 4) 183) := by
    have h : TextC16 (run (env layTab layTabV noEnv 80000 (n + 3)) 80000 cols_Text_f) := cols_Text_run _ _ (by omega) (c79_CtWrA (n + 1)) (c79_CtWrN (n + 1)) (c69_CtStrA (n + 2)) (c69_CtStrC0 (n + 2)) (c187_LineC16 (n + 0)) (c181_WidthsC (n + 2))
    unfold TextC16 at h ⊢; intros; rw [env_run rfl rfl]; apply h <;> assumption
  have c193_BlanksC (n : Nat) : BlanksC (env layTab layTabV noEnv 80000 (n + 1) 193) := by
    have h : BlanksC (run (env layTab layTabV noEnv 80000 (n + 0)) 80000 ref16_blanks_f) := ref16_blanks_run _ _ (by omega)
    unfold BlanksC at h ⊢; intros; rw [env_run rfl rfl]; apply h <;> assumption
  have c189_RLineC16 (n : Nat) : RLineC16 (env layTab layTabV noEnv 80000 (n + 2) 189) := by
    have h : RLineC16 (run (env layTab layTabV noEnv 80000 (n + 1)) 80000 ref16_Line_f) := ref16_Line_run _ _ (by omega) (c193_BlanksC (n + 0))
    unfold RLineC16 at h ⊢; intros; rw [env_run rfl rfl]; apply h <;> assumption
  have c184_TextC16 (n : Nat) : TextC16 (env layTab layTabV noEnv 80000 (n + 3) 184) := by
    have h : TextC16 (run (env layTab layTabV noEnv 80000 (n + 2)) 80000 ref16_Text_f) := ref16_Text_run _ _ (by omega) (c189_RLineC16 (n + 0)) (c182_WidthsC (n + 1))
    unfold TextC16 at h ⊢; intros; rw [env_run rfl rfl]; apply h <;> assumption
  rw [env_run rfl rfl]
  exact ColsLay_run _ _ (c186_GreatC 11) (c181_WidthsC 11) (c182_WidthsC 11) (c109_EqN 11) (c183_TextC16 8) (c184_TextC16 9) layTab_alive rs
end Go.Am
