/- Law 16: ColsBack, over the functions together. -/
import Derived.Test.YtlpopmalfppjjaaDoorColsB
import Derived.Test.YtlpopmalfppjjaaDoorUt
set_option linter.unusedVariables false
set_option linter.unusedSimpArgs false
set_option maxRecDepth 10000
set_option maxHeartbeats 1000000
namespace Go.Am
abbrev backTab : Tab := [(0, law16_ColsBack_f, 2), (186, law16_great_f, 1), (192, digits_Pad_f, 2), (197, strings_trimRightByte_f, 2), (191, strings_TrimRight_f, 2), (228, strings_Builder_copyCheck_f, 1), (79, strings_Builder_WriteString_f, 2), (69, strings_Builder_String_f, 1), (187, cols_Line_f, 2), (188, cols_Cells_f, 1), (118, slices_Equal_Sstring_string_f, 2), (190, slices_Index_Sbyte_byte_f, 2), (244, slices_Contains_Sbyte_byte_f, 2), (185, law16_alive_f, 0), (183, cols_Text_f, 1), (181, cols_Widths_f, 1)]
abbrev backTabV : List (Nat × Nat) := []
theorem backTab_alive : env backTab backTabV noEnv 1100000 (9) 185 [] = some [bo true] := yesU_eq (by decide +kernel)
theorem back_law (ws : List Int) (hws : ∀ x ∈ ws, -9223372036854775808 ≤ x ∧ x ≤ 9223372036854775807) (r : TRow) : env backTab backTabV noEnv 1100000 (10) 0 [vN ws, vR r] = some [bo true] := by
  have c186_GreatC (n : Nat) : GreatC (env backTab backTabV noEnv 1100000 (n + 1) 186) := by
    have h : GreatC (run (env backTab backTabV noEnv 1100000 (n + 0)) 1100000 law16_great_f) := law16_great_run _ _ (by omega)
    unfold GreatC at h ⊢; intros; rw [env_run rfl rfl]; apply h <;> assumption
  have c192_PadC (n : Nat) : PadC (env backTab backTabV noEnv 1100000 (n + 1) 192) := by
    have h : PadC (run (env backTab backTabV noEnv 1100000 (n + 0)) 1100000 digits_Pad_f) := digits_Pad_run _ _ (by omega)
    unfold PadC at h ⊢; intros; rw [env_run rfl rfl]; apply h <;> assumption
  have c197_TrimC (n : Nat) : TrimC (env backTab backTabV noEnv 1100000 (n + 1) 197) := by
    have h : TrimC (run (env backTab backTabV noEnv 1100000 (n + 0)) 1100000 strings_trimRightByte_f) := trimRightByte_run _ _ (by omega)
    unfold TrimC at h ⊢; intros; rw [env_run rfl rfl]; apply h <;> assumption
  have c191_TrimC2 (n : Nat) : TrimC2 (env backTab backTabV noEnv 1100000 (n + 2) 191) := by
    have h : TrimC2 (run (env backTab backTabV noEnv 1100000 (n + 1)) 1100000 strings_TrimRight_f) := TrimRight_run _ _ (c197_TrimC (n + 0))
    unfold TrimC2 at h ⊢; intros; rw [env_run rfl rfl]; apply h <;> assumption
  have c228_ClCopyC (n : Nat) : Cl.CopyC ((env backTab backTabV noEnv 1100000 (n + 1)).pt 228) := by
    rw [show (env backTab backTabV noEnv 1100000 (n + 1)).pt 228 = runP (env backTab backTabV noEnv 1100000 (n + 0)) 1100000 strings_Builder_copyCheck_f from funext fun s => env_runP (k := 1) rfl (by decide +kernel)]; exact Cl.copyCheck_run _ _
  have c79_ClWrA (n : Nat) : Cl.WrA ((env backTab backTabV noEnv 1100000 (n + 2)).pt 79) := by
    rw [show (env backTab backTabV noEnv 1100000 (n + 2)).pt 79 = runP (env backTab backTabV noEnv 1100000 (n + 1)) 1100000 strings_Builder_WriteString_f from funext fun s => env_runP (k := 2) rfl (by decide +kernel)]; exact Cl.WriteString_runA _ _ (c228_ClCopyC (n + 0))
  have c79_ClWrN (n : Nat) : Cl.WrN ((env backTab backTabV noEnv 1100000 (n + 2)).pt 79) := by
    rw [show (env backTab backTabV noEnv 1100000 (n + 2)).pt 79 = runP (env backTab backTabV noEnv 1100000 (n + 1)) 1100000 strings_Builder_WriteString_f from funext fun s => env_runP (k := 2) rfl (by decide +kernel)]; exact Cl.WriteString_runN _ _ (c228_ClCopyC (n + 0))
  have c69_ClStrA (n : Nat) : Cl.StrA ((env backTab backTabV noEnv 1100000 (n + 1)).pt 69) := by
    rw [show (env backTab backTabV noEnv 1100000 (n + 1)).pt 69 = runP (env backTab backTabV noEnv 1100000 (n + 0)) 1100000 strings_Builder_String_f from funext fun s => env_runP (k := 1) rfl (by decide +kernel)]; exact Cl.BString_runA _ _
  have c69_ClStrC0 (n : Nat) : Cl.StrC0 ((env backTab backTabV noEnv 1100000 (n + 1)).pt 69) := by
    rw [show (env backTab backTabV noEnv 1100000 (n + 1)).pt 69 = runP (env backTab backTabV noEnv 1100000 (n + 0)) 1100000 strings_Builder_String_f from funext fun s => env_runP (k := 1) rfl (by decide +kernel)]; exact Cl.BString_run0 _ _
  have c187_LineC16 (n : Nat) : LineC16 (env backTab backTabV noEnv 1100000 (n + 3) 187) := by
    have h : LineC16 (run (env backTab backTabV noEnv 1100000 (n + 2)) 1100000 cols_Line_f) := cols_Line_run _ _ (by omega) (c79_ClWrA (n + 0)) (c79_ClWrN (n + 0)) (c69_ClStrA (n + 1)) (c69_ClStrC0 (n + 1)) (c192_PadC (n + 1)) (c191_TrimC2 (n + 0))
    unfold LineC16 at h ⊢; intros; rw [env_run rfl rfl]; apply h <;> assumption
  have c188_CellsC16 (n : Nat) : CellsC16 (env backTab backTabV noEnv 1100000 (n + 1) 188) := by
    have h : CellsC16 (run (env backTab backTabV noEnv 1100000 (n + 0)) 1100000 cols_Cells_f) := cols_Cells_run _ _ (by omega)
    unfold CellsC16 at h ⊢; intros; rw [env_run rfl rfl]; apply h <;> assumption
  have c118_EqR (n : Nat) : EqR (env backTab backTabV noEnv 1100000 (n + 1) 118) := by
    have h : EqR (run (env backTab backTabV noEnv 1100000 (n + 0)) 1100000 slices_Equal_Sstring_string_f) := slices_Equal_R_run _ _ (by omega)
    unfold EqR at h ⊢; intros; rw [env_run rfl rfl]; apply h <;> assumption
  have c190_IdxC (n : Nat) : IdxC (env backTab backTabV noEnv 1100000 (n + 1) 190) := by
    have h : IdxC (run (env backTab backTabV noEnv 1100000 (n + 0)) 1100000 slices_Index_Sbyte_byte_f) := slices_Index_run _ _ (by omega)
    unfold IdxC at h ⊢; intros; rw [env_run rfl rfl]; apply h <;> assumption
  have c244_ContC (n : Nat) : ContC (env backTab backTabV noEnv 1100000 (n + 2) 244) := by
    have h : ContC (run (env backTab backTabV noEnv 1100000 (n + 1)) 1100000 slices_Contains_Sbyte_byte_f) := slices_Contains_run _ _ (c190_IdxC (n + 0))
    unfold ContC at h ⊢; intros; rw [env_run rfl rfl]; apply h <;> assumption
  rw [env_run rfl rfl]
  exact ColsBack_run _ _ (by omega) backTab_alive (c186_GreatC 8) (c187_LineC16 6) (c188_CellsC16 8) (c118_EqR 8) (c244_ContC 7) ws hws r
end Go.Am
