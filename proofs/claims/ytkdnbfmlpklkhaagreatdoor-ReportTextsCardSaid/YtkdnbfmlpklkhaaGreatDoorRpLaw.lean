import Derived.Test.YtkdnbfmlpklkhaaGreatDoorCC
import Derived.Test.YtkdnbfmlpklkhaaGreatDoorK
import Derived.Test.YtkdnbfmlpklkhaaGreatDoorUt
set_option maxHeartbeats 1000000
set_option maxRecDepth 10000
set_option linter.unusedVariables false
set_option linter.unusedSimpArgs false
namespace Go.Am
abbrev rtTab : Tab := [(0, law42_ReportTexts_f, 2), (81, nums_Size_f, 1), (80, digits_plain_f, 1), (72, digits_Text_f, 1), (50, digits_Of_f, 1), (74, ref01_Size_f, 1), (73, ref02_plain_f, 1), (52, ref02_Text_f, 1), (6, ref02_Of_f, 1), (24, vet_Bounds_f, 1), (20, vet_In_f, 2), (64, vet_numbers_f, 1), (63, vet_segment_f, 1), (25, vet_Check_f, 1), (23, ref20_Bounds_f, 1), (21, ref20_In_f, 2), (26, ref20_Check_f, 1), (228, strings_Builder_copyCheck_f, 1), (79, strings_Builder_WriteString_f, 2), (69, strings_Builder_String_f, 1), (42, show_Template_f, 1), (44, show_Dispatcher_f, 1), (70, show_line_f, 3), (48, show_Text_f, 1), (43, ref27_Template_f, 1), (45, ref27_Dispatcher_f, 1), (71, ref27_line_f, 2), (47, ref27_Text_f, 1), (192, digits_Pad_f, 2), (197, strings_trimRightByte_f, 2), (191, strings_TrimRight_f, 2), (181, cols_Widths_f, 1), (182, ref16_Widths_f, 1), (187, cols_Line_f, 2), (183, cols_Text_f, 1), (193, ref16_blanks_f, 1), (189, ref16_Line_f, 2), (184, ref16_Text_f, 1), (378, ref01_Times_f, 2), (394, math_bits_Mul64_f, 2), (377, ref01_Over_f, 3), (395, math_bits_Div64_f, 3), (393, nums_signed_f, 2), (383, ref01_signed_f, 2), (391, nums_Mul_f, 2), (376, ref01_Mul_f, 2), (389, nums_Add_f, 2), (375, ref01_Add_f, 2), (390, nums_MulDiv_f, 3), (392, frac_Right_f, 1), (379, ref08_Right_f, 1), (386, frac_Hundredths_f, 1), (373, ref08_Hundredths_f, 1), (387, frac_Of_f, 2), (385, digits_Fixed_f, 2), (372, ref02_Fixed_f, 2), (420, frac_Mean_f, 1), (422, ref08_Mean_f, 1), (421, ref42_Percentile_f, 2), (248, rank_Place_f, 2), (367, slices_Clone_Sint_int_P_f, 1), (252, rank_Of_f, 2), (259, rank_Many_f, 2), (437, frac_Text_f, 1), (436, report_ranks_f, 0), (429, report_Stats_f, 2), (430, ref42_Stats_f, 2), (443, hist_Right_f, 2), (442, hist_Bin_f, 3), (444, hist_Edge_f, 3), (439, report_edge_f, 3), (440, hist_Of_f, 3), (431, report_Bins_f, 4), (441, ref42_within_f, 4), (428, ref42_Bins_f, 4), (51, trip_At_f, 1), (407, ref24_At_f, 1), (408, trip_done_f, 1), (405, trip_Waits_f, 1), (406, trip_Transits_f, 1), (403, trip_Counts_f, 1), (401, ref24_Waits_f, 2), (402, ref24_Many_f, 2), (60, law24_Great_f, 1), (292, law25_Great_f, 1), (256, law35_Great_f, 2), (294, track_Doors_f, 2), (113, ref25_At_f, 2), (128, ref25_All_f, 2), (296, ref25_Doors_f, 2), (167, track_find_f, 2), (150, track_At_f, 2), (735, track_Far_f, 2), (732, ref25_Far_f, 2), (734, trip_Aboard_f, 2), (730, ref24_Aboard_f, 2), (725, figure_Far_f, 2), (726, figure_Busy_f, 2), (733, figure_Openings_f, 3), (728, figure_Interval_f, 2), (727, figure_Load_f, 3), (723, figure_Handling_f, 2), (724, report_ratio_f, 2), (729, ref42_ratio_f, 2), (731, ref42_interval_f, 2), (721, report_counts_f, 2), (722, ref42_counts_f, 2), (717, report_Text_f, 2), (716, ref42_Text_f, 2), (718, law42_proper_f, 2), (426, law42_alive_f, 0), (118, slices_Equal_Sstring_string_f, 2), (396, math_bits_LeadingZeros64_f, 1)]
abbrev rtTabV : List (Nat × Nat) := []
abbrev rtE (n : Nat) : Env := env rtTab rtTabV rtX 120000 n
theorem rtTab_alive : rtE (30) 426 [] = some [bo true] := yesU_eq (by decide +kernel)
theorem reportTexts_law (s : Scn) (ts : List Trip) (ls : List (List Leg)) (u : Int) (hs : s.Ok) (hu : InI64 u) : rtE (31) 0 [.agg s.cells, .agg (logD ts ls u)] = some [bo true] := by
 have c81_Size (n : Nat) : Size (rtE (n + 1) 81) := by
  have h : Size (run (rtE (n + 0)) 120000 nums_Size_f) := nums_Size_run _
  unfold Size rtE at h ⊢; intros; rw [env_run rfl rfl]; apply h <;> assumption
 have c80_Digitsplain (n : Nat) : Digits_plain (rtE (n + 1) 80) := by
  have h : Digits_plain (run (rtE (n + 0)) 120000 digits_plain_f) := digits_plain_run _ (by omega)
  unfold Digits_plain rtE at h ⊢; intros; rw [env_run rfl rfl]; apply h <;> assumption
 have c72_Of (n : Nat) : Of (rtE (n + 2) 72) := by
  have h : Of (run (rtE (n + 1)) 120000 digits_Text_f) := digits_Text_run (c80_Digitsplain (n + 0)) (c81_Size (n + 0))
  unfold Of rtE at h ⊢; intros; rw [env_run rfl rfl]; apply h <;> assumption
 have c50_Of (n : Nat) : Of (rtE (n + 3) 50) := by
  have h : Of (run (rtE (n + 2)) 120000 digits_Of_f) := digits_Of_run (c72_Of (n + 0))
  unfold Of rtE at h ⊢; intros; rw [env_run rfl rfl]; apply h <;> assumption
 have c74_Size (n : Nat) : Size (rtE (n + 1) 74) := by
  have h : Size (run (rtE (n + 0)) 120000 ref01_Size_f) := ref01_Size_run _
  unfold Size rtE at h ⊢; intros; rw [env_run rfl rfl]; apply h <;> assumption
 have c73_Ref02plain (n : Nat) : Ref02_plain 20 (rtE (n + 20) 73) := by
  have p20 : ∀ (k n : Nat), k < 20 → Ref02_plain (k + 1) (rtE (n + (k + 1)) 73) := by
   intro k
   induction k with
   | zero => intro n hk m hm; rw [env_run rfl rfl]; exact ref02_plain_run hk (fun h => absurd h (by omega)) m hm
   | succ j ih => intro n hk m hm; rw [show n + (j + 1 + 1) = (n + (j + 1)) + 1 by omega, env_run rfl rfl]; exact ref02_plain_run hk (fun _ => ih n (by omega)) m hm
  exact p20 19 n (by omega)
 have c52_Of (n : Nat) : Of (rtE (n + 21) 52) := by
  have h : Of (run (rtE (n + 20)) 120000 ref02_Text_f) := ref02_Text_run (c73_Ref02plain (n + 0)) (c74_Size (n + 19))
  unfold Of rtE at h ⊢; intros; rw [env_run rfl rfl]; apply h <;> assumption
 have c6_Of (n : Nat) : Of (rtE (n + 22) 6) := by
  have h : Of (run (rtE (n + 21)) 120000 ref02_Of_f) := ref02_Of_run (c52_Of (n + 0))
  unfold Of rtE at h ⊢; intros; rw [env_run rfl rfl]; apply h <;> assumption
 have c24_Bounds (n : Nat) : Bounds (rtE (n + 1) 24) := by
  have h : Bounds (run (rtE (n + 0)) 120000 vet_Bounds_f) := vet_Bounds_run _ _
  unfold Bounds rtE at h ⊢; intros; rw [env_run rfl rfl]; apply h <;> assumption
 have c20_InC (n : Nat) : InC (rtE (n + 2) 20) := by
  have h : InC (run (rtE (n + 1)) 120000 vet_In_f) := vet_In_run (c24_Bounds (n + 0))
  unfold InC rtE at h ⊢; intros; rw [env_run rfl rfl]; apply h <;> assumption
 have c64_Numbers (n : Nat) : Numbers (rtE (n + 3) 64) := by
  have h : Numbers (run (rtE (n + 2)) 120000 vet_numbers_f) := vet_numbers_run (c20_InC (n + 0))
  unfold Numbers rtE at h ⊢; intros; rw [env_run rfl rfl]; apply h <;> assumption
 have c63_SegC (n : Nat) : SegC (rtE (n + 3) 63) := by
  have h : SegC (run (rtE (n + 2)) 120000 vet_segment_f) := vet_segment_run (c20_InC (n + 0))
  unfold SegC rtE at h ⊢; intros; rw [env_run rfl rfl]; apply h <;> assumption
 have c25_ChkC (n : Nat) : ChkC (rtE (n + 4) 25) := by
  have h : ChkC (run (rtE (n + 3)) 120000 vet_Check_f) := vet_Check_run (by omega) (c63_SegC (n + 0)) (c64_Numbers (n + 0))
  unfold ChkC rtE at h ⊢; intros; rw [env_run rfl rfl]; apply h <;> assumption
 have c23_Bounds (n : Nat) : Bounds (rtE (n + 1) 23) := by
  have h : Bounds (run (rtE (n + 0)) 120000 ref20_Bounds_f) := ref20_Bounds_run _ 119980
  unfold Bounds rtE at h ⊢; intros; rw [env_run rfl rfl]; apply h <;> assumption
 have c21_InC (n : Nat) : InC (rtE (n + 2) 21) := by
  have h : InC (run (rtE (n + 1)) 120000 ref20_In_f) := ref20_In_run (c23_Bounds (n + 0))
  unfold InC rtE at h ⊢; intros; rw [env_run rfl rfl]; apply h <;> assumption
 have c26_ChkC (n : Nat) : ChkC (rtE (n + 3) 26) := by
  have h : ChkC (run (rtE (n + 2)) 120000 ref20_Check_f) := ref20_Check_run (M := 119900) (c21_InC (n + 0))
  unfold ChkC rtE at h ⊢; intros; rw [env_run rfl rfl]; apply h <;> assumption
 have c228_ShCopyC (n : Nat) : Sh.CopyC ((rtE (n + 1)).pt 228) := by
  rw [show (rtE (n + 1)).pt 228 = runP (rtE (n + 0)) 120000 strings_Builder_copyCheck_f from funext fun s => env_runP (k := 1) rfl (by decide +kernel)]; exact Sh.copyCheck_run _ _
 have c228_ShCopyC7 (n : Nat) : Sh.CopyC7 ((rtE (n + 1)).pt 228) := by
  rw [show (rtE (n + 1)).pt 228 = runP (rtE (n + 0)) 120000 strings_Builder_copyCheck_f from funext fun s => env_runP (k := 1) rfl (by decide +kernel)]; exact Sh.copyCheck_run7 _ _
 have c79_ShWrC (n : Nat) : Sh.WrC ((rtE (n + 2)).pt 79) := by
  rw [show (rtE (n + 2)).pt 79 = runP (rtE (n + 1)) 120000 strings_Builder_WriteString_f from funext fun s => env_runP (k := 2) rfl (by decide +kernel)]; exact Sh.WriteString_run _ _ (c228_ShCopyC (n + 0))
 have c79_ShWrC7 (n : Nat) : Sh.WrC7 ((rtE (n + 2)).pt 79) := by
  rw [show (rtE (n + 2)).pt 79 = runP (rtE (n + 1)) 120000 strings_Builder_WriteString_f from funext fun s => env_runP (k := 2) rfl (by decide +kernel)]; exact Sh.WriteString_run7 _ _ (c228_ShCopyC7 (n + 0))
 have c69_ShStrC (n : Nat) : Sh.StrC ((rtE (n + 1)).pt 69) := by
  rw [show (rtE (n + 1)).pt 69 = runP (rtE (n + 0)) 120000 strings_Builder_String_f from funext fun s => env_runP (k := 1) rfl (by decide +kernel)]; exact Sh.BString_run _ _
 have c42_ShTplC (n : Nat) : Sh.TplC (rtE (n + 1) 42) := by
  have h : Sh.TplC (run (rtE (n + 0)) 120000 show_Template_f) := Sh.show_Template_run _ _
  unfold Sh.TplC rtE at h ⊢; intros; rw [env_run rfl rfl]; apply h <;> assumption
 have c44_ShDisC (n : Nat) : Sh.DisC (rtE (n + 1) 44) := by
  have h : Sh.DisC (run (rtE (n + 0)) 120000 show_Dispatcher_f) := Sh.show_Dispatcher_run _ _
  unfold Sh.DisC rtE at h ⊢; intros; rw [env_run rfl rfl]; apply h <;> assumption
 have c70_ShLineC (n : Nat) : Sh.LineC ((rtE (n + 4)).pt 70) := by
  rw [show (rtE (n + 4)).pt 70 = runP (rtE (n + 3)) 120000 show_line_f from funext fun s => env_runP (k := 3) rfl (by decide +kernel)]; exact Sh.show_line_run _ _ (by omega) (c79_ShWrC (n + 1)) (c50_Of (n + 0))
 have c70_ShLineC7 (n : Nat) : Sh.LineC7 ((rtE (n + 4)).pt 70) := by
  rw [show (rtE (n + 4)).pt 70 = runP (rtE (n + 3)) 120000 show_line_f from funext fun s => env_runP (k := 3) rfl (by decide +kernel)]; exact Sh.show_line_run7 _ _ (by omega) (c79_ShWrC (n + 1)) (c79_ShWrC7 (n + 1)) (c50_Of (n + 0))
 have c48_ShTextC (n : Nat) : Sh.TextC (rtE (n + 5) 48) := by
  have h : Sh.TextC (run (rtE (n + 4)) 120000 show_Text_f) := Sh.show_Text_run _ _ (by omega) (c25_ChkC (n + 0)) (c42_ShTplC (n + 3)) (c44_ShDisC (n + 3)) (c70_ShLineC (n + 0)) (c70_ShLineC7 (n + 0)) (c69_ShStrC (n + 3))
  unfold Sh.TextC rtE at h ⊢; intros; rw [env_run rfl rfl]; apply h <;> assumption
 have c43_ShTplC (n : Nat) : Sh.TplC (rtE (n + 1) 43) := by
  have h : Sh.TplC (run (rtE (n + 0)) 120000 ref27_Template_f) := Sh.ref27_Template_run _ _
  unfold Sh.TplC rtE at h ⊢; intros; rw [env_run rfl rfl]; apply h <;> assumption
 have c45_ShDisC (n : Nat) : Sh.DisC (rtE (n + 1) 45) := by
  have h : Sh.DisC (run (rtE (n + 0)) 120000 ref27_Dispatcher_f) := Sh.ref27_Dispatcher_run _ _
  unfold Sh.DisC rtE at h ⊢; intros; rw [env_run rfl rfl]; apply h <;> assumption
 have c71_ShRLineC (n : Nat) : Sh.RLineC (rtE (n + 23) 71) := by
  have h : Sh.RLineC (run (rtE (n + 22)) 120000 ref27_line_f) := Sh.ref27_line_run _ _ (by omega) (c6_Of (n + 0))
  unfold Sh.RLineC rtE at h ⊢; intros; rw [env_run rfl rfl]; apply h <;> assumption
 have c47_ShTextC (n : Nat) : Sh.TextC (rtE (n + 24) 47) := by
  have h : Sh.TextC (run (rtE (n + 23)) 120000 ref27_Text_f) := Sh.ref27_Text_run _ _ (by omega) (c26_ChkC (n + 20)) (c43_ShTplC (n + 22)) (c45_ShDisC (n + 22)) (c71_ShRLineC (n + 0))
  unfold Sh.TextC rtE at h ⊢; intros; rw [env_run rfl rfl]; apply h <;> assumption
 have c192_PadC (n : Nat) : PadC (rtE (n + 1) 192) := by
  have h : PadC (run (rtE (n + 0)) 120000 digits_Pad_f) := digits_Pad_run _ _ (by omega)
  unfold PadC rtE at h ⊢; intros; rw [env_run rfl rfl]; apply h <;> assumption
 have c197_TrimC (n : Nat) : TrimC (rtE (n + 1) 197) := by
  have h : TrimC (run (rtE (n + 0)) 120000 strings_trimRightByte_f) := trimRightByte_run _ _ (by omega)
  unfold TrimC rtE at h ⊢; intros; rw [env_run rfl rfl]; apply h <;> assumption
 have c191_TrimC2 (n : Nat) : TrimC2 (rtE (n + 2) 191) := by
  have h : TrimC2 (run (rtE (n + 1)) 120000 strings_TrimRight_f) := TrimRight_run _ _ (c197_TrimC (n + 0))
  unfold TrimC2 rtE at h ⊢; intros; rw [env_run rfl rfl]; apply h <;> assumption
 have c228_ClCopyC (n : Nat) : Cl.CopyC ((rtE (n + 1)).pt 228) := by
  rw [show (rtE (n + 1)).pt 228 = runP (rtE (n + 0)) 120000 strings_Builder_copyCheck_f from funext fun s => env_runP (k := 1) rfl (by decide +kernel)]; exact Cl.copyCheck_run _ _
 have c228_CtCopyC (n : Nat) : Ct.CopyC ((rtE (n + 1)).pt 228) := by
  rw [show (rtE (n + 1)).pt 228 = runP (rtE (n + 0)) 120000 strings_Builder_copyCheck_f from funext fun s => env_runP (k := 1) rfl (by decide +kernel)]; exact Ct.copyCheck_run _ _
 have c79_ClWrA (n : Nat) : Cl.WrA ((rtE (n + 2)).pt 79) := by
  rw [show (rtE (n + 2)).pt 79 = runP (rtE (n + 1)) 120000 strings_Builder_WriteString_f from funext fun s => env_runP (k := 2) rfl (by decide +kernel)]; exact Cl.WriteString_runA _ _ (c228_ClCopyC (n + 0))
 have c79_ClWrN (n : Nat) : Cl.WrN ((rtE (n + 2)).pt 79) := by
  rw [show (rtE (n + 2)).pt 79 = runP (rtE (n + 1)) 120000 strings_Builder_WriteString_f from funext fun s => env_runP (k := 2) rfl (by decide +kernel)]; exact Cl.WriteString_runN _ _ (c228_ClCopyC (n + 0))
 have c79_CtWrA (n : Nat) : Ct.WrA ((rtE (n + 2)).pt 79) := by
  rw [show (rtE (n + 2)).pt 79 = runP (rtE (n + 1)) 120000 strings_Builder_WriteString_f from funext fun s => env_runP (k := 2) rfl (by decide +kernel)]; exact Ct.WriteString_runA _ _ (c228_CtCopyC (n + 0))
 have c79_CtWrN (n : Nat) : Ct.WrN ((rtE (n + 2)).pt 79) := by
  rw [show (rtE (n + 2)).pt 79 = runP (rtE (n + 1)) 120000 strings_Builder_WriteString_f from funext fun s => env_runP (k := 2) rfl (by decide +kernel)]; exact Ct.WriteString_runN _ _ (c228_CtCopyC (n + 0))
 have c69_ClStrA (n : Nat) : Cl.StrA ((rtE (n + 1)).pt 69) := by
  rw [show (rtE (n + 1)).pt 69 = runP (rtE (n + 0)) 120000 strings_Builder_String_f from funext fun s => env_runP (k := 1) rfl (by decide +kernel)]; exact Cl.BString_runA _ _
 have c69_ClStrC0 (n : Nat) : Cl.StrC0 ((rtE (n + 1)).pt 69) := by
  rw [show (rtE (n + 1)).pt 69 = runP (rtE (n + 0)) 120000 strings_Builder_String_f from funext fun s => env_runP (k := 1) rfl (by decide +kernel)]; exact Cl.BString_run0 _ _
 have c69_CtStrA (n : Nat) : Ct.StrA ((rtE (n + 1)).pt 69) := by
  rw [show (rtE (n + 1)).pt 69 = runP (rtE (n + 0)) 120000 strings_Builder_String_f from funext fun s => env_runP (k := 1) rfl (by decide +kernel)]; exact Ct.BString_runA _ _
 have c69_CtStrC0 (n : Nat) : Ct.StrC0 ((rtE (n + 1)).pt 69) := by
  rw [show (rtE (n + 1)).pt 69 = runP (rtE (n + 0)) 120000 strings_Builder_String_f from funext fun s => env_runP (k := 1) rfl (by decide +kernel)]; exact Ct.BString_run0 _ _
 have c181_WidthsC (n : Nat) : WidthsC (rtE (n + 1) 181) := by
  have h : WidthsC (run (rtE (n + 0)) 120000 cols_Widths_f) := cols_Widths_run _ _ (by omega)
  unfold WidthsC rtE at h ⊢; intros; rw [env_run rfl rfl]; apply h <;> assumption
 have c182_WidthsC (n : Nat) : WidthsC (rtE (n + 1) 182) := by
  have h : WidthsC (run (rtE (n + 0)) 120000 ref16_Widths_f) := ref16_Widths_run _ _ (by omega)
  unfold WidthsC rtE at h ⊢; intros; rw [env_run rfl rfl]; apply h <;> assumption
 have c187_LineC16 (n : Nat) : LineC16 (rtE (n + 3) 187) := by
  have h : LineC16 (run (rtE (n + 2)) 120000 cols_Line_f) := cols_Line_run _ _ (by omega) (c79_ClWrA (n + 0)) (c79_ClWrN (n + 0)) (c69_ClStrA (n + 1)) (c69_ClStrC0 (n + 1)) (c192_PadC (n + 1)) (c191_TrimC2 (n + 0))
  unfold LineC16 rtE at h ⊢; intros; rw [env_run rfl rfl]; apply h <;> assumption
 have c183_TextC16 (n : Nat) : TextC16 (rtE (n + 4) 183) := by
  have h : TextC16 (run (rtE (n + 3)) 120000 cols_Text_f) := cols_Text_run _ _ (by omega) (c79_CtWrA (n + 1)) (c79_CtWrN (n + 1)) (c69_CtStrA (n + 2)) (c69_CtStrC0 (n + 2)) (c187_LineC16 (n + 0)) (c181_WidthsC (n + 2))
  unfold TextC16 rtE at h ⊢; intros; rw [env_run rfl rfl]; apply h <;> assumption
 have c193_BlanksC (n : Nat) : BlanksC (rtE (n + 1) 193) := by
  have h : BlanksC (run (rtE (n + 0)) 120000 ref16_blanks_f) := ref16_blanks_run _ _ (by omega)
  unfold BlanksC rtE at h ⊢; intros; rw [env_run rfl rfl]; apply h <;> assumption
 have c189_RLineC16 (n : Nat) : RLineC16 (rtE (n + 2) 189) := by
  have h : RLineC16 (run (rtE (n + 1)) 120000 ref16_Line_f) := ref16_Line_run _ _ (by omega) (c193_BlanksC (n + 0))
  unfold RLineC16 rtE at h ⊢; intros; rw [env_run rfl rfl]; apply h <;> assumption
 have c184_TextC16 (n : Nat) : TextC16 (rtE (n + 3) 184) := by
  have h : TextC16 (run (rtE (n + 2)) 120000 ref16_Text_f) := ref16_Text_run _ _ (by omega) (c189_RLineC16 (n + 0)) (c182_WidthsC (n + 1))
  unfold TextC16 rtE at h ⊢; intros; rw [env_run rfl rfl]; apply h <;> assumption
 have c378_TimesC (n : Nat) : TimesC (rtE (n + 1) 378) := by
  have h : TimesC (run (rtE (n + 0)) 120000 ref01_Times_f) := ref01_Times_run _ _
  unfold TimesC rtE at h ⊢; intros; rw [env_run rfl rfl]; apply h <;> assumption
 have c394_TimesC (n : Nat) : TimesC (rtE (n + 1) 394) := by
  have h : TimesC (run (rtE (n + 0)) 120000 math_bits_Mul64_f) := math_bits_Mul64_run _ _
  unfold TimesC rtE at h ⊢; intros; rw [env_run rfl rfl]; apply h <;> assumption
 have c377_OverC (n : Nat) : OverC (rtE (n + 1) 377) := by
  have h : OverC (run (rtE (n + 0)) 120000 ref01_Over_f) := ref01_Over_run _ _ (by omega)
  unfold OverC rtE at h ⊢; intros; rw [env_run rfl rfl]; apply h <;> assumption
 have c395_DivC (n : Nat) : DivC (rtE (n + 1) 395) := by
  have h : DivC (run (rtE (n + 0)) 120000 math_bits_Div64_f) := math_bits_Div64_run _ _
  unfold DivC rtE at h ⊢; intros; rw [env_run rfl rfl]; apply h <;> assumption
 have c393_NSgC (n : Nat) : NSgC (rtE (n + 1) 393) := by
  have h : NSgC (run (rtE (n + 0)) 120000 nums_signed_f) := nums_signed_run _ _
  unfold NSgC rtE at h ⊢; intros; rw [env_run rfl rfl]; apply h <;> assumption
 have c383_RSgC (n : Nat) : RSgC (rtE (n + 1) 383) := by
  have h : RSgC (run (rtE (n + 0)) 120000 ref01_signed_f) := ref01_signed_run _ _
  unfold RSgC rtE at h ⊢; intros; rw [env_run rfl rfl]; apply h <;> assumption
 have c391_NMulC (n : Nat) : NMulC (rtE (n + 2) 391) := by
  have h : NMulC (run (rtE (n + 1)) 120000 nums_Mul_f) := nums_Mul_run (c394_TimesC (n + 0)) (c81_Size (n + 0)) (c393_NSgC (n + 0))
  unfold NMulC rtE at h ⊢; intros; rw [env_run rfl rfl]; apply h <;> assumption
 have c376_RMulC (n : Nat) : RMulC (rtE (n + 2) 376) := by
  have h : RMulC (run (rtE (n + 1)) 120000 ref01_Mul_f) := ref01_Mul_run (c378_TimesC (n + 0)) (c74_Size (n + 0)) (c383_RSgC (n + 0))
  unfold RMulC rtE at h ⊢; intros; rw [env_run rfl rfl]; apply h <;> assumption
 have c389_NAddC (n : Nat) : NAddC (rtE (n + 1) 389) := by
  have h : NAddC (run (rtE (n + 0)) 120000 nums_Add_f) := nums_Add_run _ _
  unfold NAddC rtE at h ⊢; intros; rw [env_run rfl rfl]; apply h <;> assumption
 have c375_RAddC (n : Nat) : RAddC (rtE (n + 1) 375) := by
  have h : RAddC (run (rtE (n + 0)) 120000 ref01_Add_f) := ref01_Add_run _ _
  unfold RAddC rtE at h ⊢; intros; rw [env_run rfl rfl]; apply h <;> assumption
 have c390_MulDivC (n : Nat) : MulDivC (rtE (n + 2) 390) := by
  have h : MulDivC (run (rtE (n + 1)) 120000 nums_MulDiv_f) := nums_MulDiv_run (c394_TimesC (n + 0)) (c395_DivC (n + 0)) (c393_NSgC (n + 0))
  unfold MulDivC rtE at h ⊢; intros; rw [env_run rfl rfl]; apply h <;> assumption
 have c392_RightC (n : Nat) : RightC (rtE (n + 1) 392) := by
  have h : RightC (run (rtE (n + 0)) 120000 frac_Right_f) := frac_Right_run _ _
  unfold RightC rtE at h ⊢; intros; rw [env_run rfl rfl]; apply h <;> assumption
 have c379_RightC (n : Nat) : RightC (rtE (n + 1) 379) := by
  have h : RightC (run (rtE (n + 0)) 120000 ref08_Right_f) := ref08_Right_run _ _
  unfold RightC rtE at h ⊢; intros; rw [env_run rfl rfl]; apply h <;> assumption
 have c386_HundC (n : Nat) : HundC (rtE (n + 3) 386) := by
  have h : HundC (run (rtE (n + 2)) 120000 frac_Hundredths_f) := frac_Hundredths_run (c392_RightC (n + 1)) (c391_NMulC (n + 0)) (c390_MulDivC (n + 0)) (c389_NAddC (n + 1))
  unfold HundC rtE at h ⊢; intros; rw [env_run rfl rfl]; apply h <;> assumption
 have c373_HundC (n : Nat) : HundC (rtE (n + 3) 373) := by
  have h : HundC (run (rtE (n + 2)) 120000 ref08_Hundredths_f) := ref08_Hundredths_run (c379_RightC (n + 1)) (c378_TimesC (n + 1)) (c377_OverC (n + 1)) (c376_RMulC (n + 0)) (c375_RAddC (n + 1))
  unfold HundC rtE at h ⊢; intros; rw [env_run rfl rfl]; apply h <;> assumption
 have c387_FracOfC (n : Nat) : FracOfC (rtE (n + 1) 387) := by
  have h : FracOfC (run (rtE (n + 0)) 120000 frac_Of_f) := frac_Of_run _ _
  unfold FracOfC rtE at h ⊢; intros; rw [env_run rfl rfl]; apply h <;> assumption
 have c385_FixC (n : Nat) : FixC (rtE (n + 2) 385) := by
  have h : FixC (run (rtE (n + 1)) 120000 digits_Fixed_f) := digits_Fixed_run (by omega) (c80_Digitsplain (n + 0)) (c81_Size (n + 0))
  unfold FixC rtE at h ⊢; intros; rw [env_run rfl rfl]; apply h <;> assumption
 have c372_FixC (n : Nat) : FixC (rtE (n + 21) 372) := by
  have h : FixC (run (rtE (n + 20)) 120000 ref02_Fixed_f) := ref02_Fixed_run (by omega) (c73_Ref02plain (n + 0)) (c74_Size (n + 19))
  unfold FixC rtE at h ⊢; intros; rw [env_run rfl rfl]; apply h <;> assumption
 have c420_MeanC8 (n : Nat) : MeanC8 (rtE (n + 2) 420) := by
  have h : MeanC8 (run (rtE (n + 1)) 120000 frac_Mean_f) := frac_Mean_run (by omega) (c389_NAddC (n + 0)) (c387_FracOfC (n + 0))
  unfold MeanC8 rtE at h ⊢; intros; rw [env_run rfl rfl]; apply h <;> assumption
 have c422_MeanC8 (n : Nat) : MeanC8 (rtE (n + 2) 422) := by
  have h : MeanC8 (run (rtE (n + 1)) 120000 ref08_Mean_f) := ref08_Mean_run (by omega) (c375_RAddC (n + 0))
  unfold MeanC8 rtE at h ⊢; intros; rw [env_run rfl rfl]; apply h <;> assumption
 have c421_PctC (n : Nat) : PctC (rtE (n + 1) 421) := by
  have h : PctC (run (rtE (n + 0)) 120000 ref42_Percentile_f) := ref42_Percentile_run _ _ (by omega)
  unfold PctC rtE at h ⊢; intros; rw [env_run rfl rfl]; apply h <;> assumption
 have c248_PlaceC15 (n : Nat) : PlaceC15 (rtE (n + 1) 248) := by
  have h : PlaceC15 (run (rtE (n + 0)) 120000 rank_Place_f) := rank_Place_run _ _
  unfold PlaceC15 rtE at h ⊢; intros; rw [env_run rfl rfl]; apply h <;> assumption
 have c367_CloneP (n : Nat) : CloneP ((rtE (n + 1)).pt 367) := by
  rw [show (rtE (n + 1)).pt 367 = runP (rtE (n + 0)) 120000 slices_Clone_Sint_int_P_f from funext fun s => env_runP (k := 1) rfl (by decide +kernel)]; exact clone_run _ _
 have c252_OfC15 (n : Nat) : OfC15 (rtE (n + 2) 252) := by
  have h : OfC15 (run (rtE (n + 1)) 120000 rank_Of_f) := rank_Of_run _ _ (c248_PlaceC15 (n + 0)) (c367_CloneP (n + 0)) (env_rts rfl)
  unfold OfC15 rtE at h ⊢; intros; rw [env_run rfl rfl]; apply h <;> assumption
 have c259_ManyC (n : Nat) : ManyC (rtE (n + 3) 259) := by
  have h : ManyC (run (rtE (n + 2)) 120000 rank_Many_f) := rank_Many_run _ _ (by omega) (c252_OfC15 (n + 0))
  unfold ManyC rtE at h ⊢; intros; rw [env_run rfl rfl]; apply h <;> assumption
 have c437_FTxtC (n : Nat) : FTxtC (rtE (n + 4) 437) := by
  have h : FTxtC (run (rtE (n + 3)) 120000 frac_Text_f) := frac_Text_run (c50_Of (n + 0))
  unfold FTxtC rtE at h ⊢; intros; rw [env_run rfl rfl]; apply h <;> assumption
 have c436_RanksC (n : Nat) : RanksC (rtE (n + 1) 436) := by
  have h : RanksC (run (rtE (n + 0)) 120000 report_ranks_f) := report_ranks_run _ _
  unfold RanksC rtE at h ⊢; intros; rw [env_run rfl rfl]; apply h <;> assumption
 have c429_StatsC (n : Nat) : StatsC (rtE (n + 5) 429) := by
  have h : StatsC (run (rtE (n + 4)) 120000 report_Stats_f) := report_Stats_run (by omega) (c436_RanksC (n + 3)) (c420_MeanC8 (n + 2)) (c437_FTxtC (n + 0)) (env_rtp rfl) (c259_ManyC (n + 1)) (c50_Of (n + 1))
  unfold StatsC rtE at h ⊢; intros; rw [env_run rfl rfl]; apply h <;> assumption
 have c430_StatsC (n : Nat) : StatsC (rtE (n + 23) 430) := by
  have h : StatsC (run (rtE (n + 22)) 120000 ref42_Stats_f) := ref42_Stats_run (by omega) (c422_MeanC8 (n + 20)) (c421_PctC (n + 21)) (c6_Of (n + 0))
  unfold StatsC rtE at h ⊢; intros; rw [env_run rfl rfl]; apply h <;> assumption
 have c443_HRightC (n : Nat) : HRightC (rtE (n + 1) 443) := by
  have h : HRightC (run (rtE (n + 0)) 120000 hist_Right_f) := hist_Right_run _ _
  unfold HRightC rtE at h ⊢; intros; rw [env_run rfl rfl]; apply h <;> assumption
 have c442_HBinC (n : Nat) : HBinC (rtE (n + 2) 442) := by
  have h : HBinC (run (rtE (n + 1)) 120000 hist_Bin_f) := hist_Bin_run (c443_HRightC (n + 0))
  unfold HBinC rtE at h ⊢; intros; rw [env_run rfl rfl]; apply h <;> assumption
 have c444_HEdgeC (n : Nat) : HEdgeC (rtE (n + 2) 444) := by
  have h : HEdgeC (run (rtE (n + 1)) 120000 hist_Edge_f) := hist_Edge_run (c443_HRightC (n + 0))
  unfold HEdgeC rtE at h ⊢; intros; rw [env_run rfl rfl]; apply h <;> assumption
 have c439_EdgeC (n : Nat) : EdgeC (rtE (n + 4) 439) := by
  have h : EdgeC (run (rtE (n + 3)) 120000 report_edge_f) := report_edge_run (c444_HEdgeC (n + 1)) (c50_Of (n + 0))
  unfold EdgeC rtE at h ⊢; intros; rw [env_run rfl rfl]; apply h <;> assumption
 have c440_HOfC (n : Nat) : HOfC (rtE (n + 3) 440) := by
  have h : HOfC (run (rtE (n + 2)) 120000 hist_Of_f) := hist_Of_run (by omega) (c443_HRightC (n + 1)) (c442_HBinC (n + 0))
  unfold HOfC rtE at h ⊢; intros; rw [env_run rfl rfl]; apply h <;> assumption
 have c431_BinsC (n : Nat) : BinsC (rtE (n + 5) 431) := by
  have h : BinsC (run (rtE (n + 4)) 120000 report_Bins_f) := report_Bins_run (by omega) (c440_HOfC (n + 1)) (c439_EdgeC (n + 0)) (c50_Of (n + 1))
  unfold BinsC rtE at h ⊢; intros; rw [env_run rfl rfl]; apply h <;> assumption
 have c441_WithinC (n : Nat) : WithinC (rtE (n + 1) 441) := by
  have h : WithinC (run (rtE (n + 0)) 120000 ref42_within_f) := ref42_within_run _ _ (by omega)
  unfold WithinC rtE at h ⊢; intros; rw [env_run rfl rfl]; apply h <;> assumption
 have c428_BinsC (n : Nat) : BinsC (rtE (n + 23) 428) := by
  have h : BinsC (run (rtE (n + 22)) 120000 ref42_Bins_f) := ref42_Bins_run (by omega) (c441_WithinC (n + 21)) (c6_Of (n + 0))
  unfold BinsC rtE at h ⊢; intros; rw [env_run rfl rfl]; apply h <;> assumption
 have c51_TAtC (n : Nat) : TAtC (rtE (n + 1) 51) := by
  have h : TAtC (run (rtE (n + 0)) 120000 trip_At_f) := trip_At_run _ _
  unfold TAtC rtE at h ⊢; intros; rw [env_run rfl rfl]; apply h <;> assumption
 have c407_TAtC (n : Nat) : TAtC (rtE (n + 1) 407) := by
  have h : TAtC (run (rtE (n + 0)) 120000 ref24_At_f) := ref24_At_run _ _
  unfold TAtC rtE at h ⊢; intros; rw [env_run rfl rfl]; apply h <;> assumption
 have c408_DoneC (n : Nat) : DoneC (rtE (n + 2) 408) := by
  have h : DoneC (run (rtE (n + 1)) 120000 trip_done_f) := trip_done_run _ _ (by omega) (c51_TAtC (n + 0))
  unfold DoneC rtE at h ⊢; intros; rw [env_run rfl rfl]; apply h <;> assumption
 have c405_WaitsT (n : Nat) : WaitsT (rtE (n + 3) 405) := by
  have h : WaitsT (run (rtE (n + 2)) 120000 trip_Waits_f) := trip_Waits_run _ _ (by omega) (c408_DoneC (n + 0))
  unfold WaitsT rtE at h ⊢; intros; rw [env_run rfl rfl]; apply h <;> assumption
 have c406_WaitsF (n : Nat) : WaitsF (rtE (n + 3) 406) := by
  have h : WaitsF (run (rtE (n + 2)) 120000 trip_Transits_f) := trip_Transits_run _ _ (by omega) (c408_DoneC (n + 0))
  unfold WaitsF rtE at h ⊢; intros; rw [env_run rfl rfl]; apply h <;> assumption
 have c403_CountsC (n : Nat) : CountsC (rtE (n + 2) 403) := by
  have h : CountsC (run (rtE (n + 1)) 120000 trip_Counts_f) := trip_Counts_run _ _ (by omega) (c51_TAtC (n + 0))
  unfold CountsC rtE at h ⊢; intros; rw [env_run rfl rfl]; apply h <;> assumption
 have c401_RWaitsC (n : Nat) : RWaitsC (rtE (n + 2) 401) := by
  have h : RWaitsC (run (rtE (n + 1)) 120000 ref24_Waits_f) := ref24_Waits_run _ _ (by omega) (c407_TAtC (n + 0))
  unfold RWaitsC rtE at h ⊢; intros; rw [env_run rfl rfl]; apply h <;> assumption
 have c402_ManyC24 (n : Nat) : ManyC24 (rtE (n + 2) 402) := by
  have h : ManyC24 (run (rtE (n + 1)) 120000 ref24_Many_f) := ref24_Many_run _ _ (by omega) (c407_TAtC (n + 0))
  unfold ManyC24 rtE at h ⊢; intros; rw [env_run rfl rfl]; apply h <;> assumption
 have c60_Great24 (n : Nat) : Great24 (rtE (n + 1) 60) := by
  have h : Great24 (run (rtE (n + 0)) 120000 law24_Great_f) := law24_Great_run _ _ (by omega)
  unfold Great24 rtE at h ⊢; intros; rw [env_run rfl rfl]; apply h <;> assumption
 have c292_Great25 (n : Nat) : Great25 (rtE (n + 1) 292) := by
  have h : Great25 (run (rtE (n + 0)) 120000 law25_Great_f) := law25_Great_run _ _ (by omega)
  unfold Great25 rtE at h ⊢; intros; rw [env_run rfl rfl]; apply h <;> assumption
 have c256_Great35 (n : Nat) : Great35 (rtE (n + 2) 256) := by
  have h : Great35 (run (rtE (n + 1)) 120000 law35_Great_f) := law35_Great_run _ _ (by omega) (c292_Great25 (n + 0))
  unfold Great35 rtE at h ⊢; intros; rw [env_run rfl rfl]; apply h <;> assumption
 have c294_DrsC (n : Nat) : DrsC (rtE (n + 1) 294) := by
  have h : DrsC (run (rtE (n + 0)) 120000 track_Doors_f) := track_Doors_run _ _ (by omega)
  unfold DrsC rtE at h ⊢; intros; rw [env_run rfl rfl]; apply h <;> assumption
 have c113_At25C (n : Nat) : At25C (rtE (n + 1) 113) := by
  have h : At25C (run (rtE (n + 0)) 120000 ref25_At_f) := ref25_At_run _ _ (by omega)
  unfold At25C rtE at h ⊢; intros; rw [env_run rfl rfl]; apply h <;> assumption
 have c128_All25C (n : Nat) : All25C (rtE (n + 2) 128) := by
  have h : All25C (run (rtE (n + 1)) 120000 ref25_All_f) := ref25_All_run _ _ (by omega) (c113_At25C (n + 0))
  unfold All25C rtE at h ⊢; intros; rw [env_run rfl rfl]; apply h <;> assumption
 have c128_All25N (n : Nat) : All25N (rtE (n + 1) 128) := by
  have h : All25N (run (rtE (n + 0)) 120000 ref25_All_f) := ref25_All_nil _ _
  unfold All25N rtE at h ⊢; intros; rw [env_run rfl rfl]; apply h <;> assumption
 have c296_Drs25C (n : Nat) : Drs25C (rtE (n + 3) 296) := by
  have h : Drs25C (run (rtE (n + 2)) 120000 ref25_Doors_f) := ref25_Doors_run _ _ (by omega) (c128_All25C (n + 0)) (c128_All25N (n + 1))
  unfold Drs25C rtE at h ⊢; intros; rw [env_run rfl rfl]; apply h <;> assumption
 have c167_FindC (n : Nat) : FindC (rtE (n + 1) 167) := by
  have h : FindC (run (rtE (n + 0)) 120000 track_find_f) := track_find_run _ _ (by omega)
  unfold FindC rtE at h ⊢; intros; rw [env_run rfl rfl]; apply h <;> assumption
 have c150_TkC (n : Nat) : TkC (rtE (n + 2) 150) := by
  have h : TkC (run (rtE (n + 1)) 120000 track_At_f) := track_At_run _ _ (c167_FindC (n + 0))
  unfold TkC rtE at h ⊢; intros; rw [env_run rfl rfl]; apply h <;> assumption
 have c735_FarC (n : Nat) : FarC (rtE (n + 1) 735) := by
  have h : FarC (run (rtE (n + 0)) 120000 track_Far_f) := track_Far_run _ _ (by omega)
  unfold FarC rtE at h ⊢; intros; rw [env_run rfl rfl]; apply h <;> assumption
 have c732_FarC (n : Nat) : FarC (rtE (n + 3) 732) := by
  have h : FarC (run (rtE (n + 2)) 120000 ref25_Far_f) := ref25_Far_run _ _ (by omega) (c128_All25C (n + 0)) (c128_All25N (n + 1))
  unfold FarC rtE at h ⊢; intros; rw [env_run rfl rfl]; apply h <;> assumption
 have c734_AbdC (n : Nat) : AbdC (rtE (n + 1) 734) := by
  have h : AbdC (run (rtE (n + 0)) 120000 trip_Aboard_f) := trip_Aboard_run _ _ (by omega)
  unfold AbdC rtE at h ⊢; intros; rw [env_run rfl rfl]; apply h <;> assumption
 have c730_AbdC (n : Nat) : AbdC (rtE (n + 1) 730) := by
  have h : AbdC (run (rtE (n + 0)) 120000 ref24_Aboard_f) := ref24_Aboard_run _ _ (by omega)
  unfold AbdC rtE at h ⊢; intros; rw [env_run rfl rfl]; apply h <;> assumption
 have c725_FarsC (n : Nat) : FarsC (rtE (n + 2) 725) := by
  have h : FarsC (run (rtE (n + 1)) 120000 figure_Far_f) := figure_Far_run _ _ (by omega) (c735_FarC (n + 0))
  unfold FarsC rtE at h ⊢; intros; rw [env_run rfl rfl]; apply h <;> assumption
 have c726_BusysC (n : Nat) : BusysC (rtE (n + 2) 726) := by
  have h : BusysC (run (rtE (n + 1)) 120000 figure_Busy_f) := figure_Busy_run _ _ (by omega) (c294_DrsC (n + 0))
  unfold BusysC rtE at h ⊢; intros; rw [env_run rfl rfl]; apply h <;> assumption
 have c733_OpnC (n : Nat) : OpnC (rtE (n + 3) 733) := by
  have h : OpnC (run (rtE (n + 2)) 120000 figure_Openings_f) := figure_Openings_run _ _ (by omega) (c294_DrsC (n + 1)) (c150_TkC (n + 0))
  unfold OpnC rtE at h ⊢; intros; rw [env_run rfl rfl]; apply h <;> assumption
 have c728_IntvC (n : Nat) : IntvC (rtE (n + 4) 728) := by
  have h : IntvC (run (rtE (n + 3)) 120000 figure_Interval_f) := figure_Interval_run _ _ (by omega) (c733_OpnC (n + 0)) (c387_FracOfC (n + 2))
  unfold IntvC rtE at h ⊢; intros; rw [env_run rfl rfl]; apply h <;> assumption
 have c727_LoadC (n : Nat) : LoadC (rtE (n + 2) 727) := by
  have h : LoadC (run (rtE (n + 1)) 120000 figure_Load_f) := figure_Load_run _ _ (c734_AbdC (n + 0)) (c387_FracOfC (n + 0))
  unfold LoadC rtE at h ⊢; intros; rw [env_run rfl rfl]; apply h <;> assumption
 have c723_HandC (n : Nat) : HandC (rtE (n + 3) 723) := by
  have h : HandC (run (rtE (n + 2)) 120000 figure_Handling_f) := figure_Handling_run _ _ (c403_CountsC (n + 0))
  unfold HandC rtE at h ⊢; intros; rw [env_run rfl rfl]; apply h <;> assumption
 have c724_RatC (n : Nat) : RatC (rtE (n + 4) 724) := by
  have h : RatC (run (rtE (n + 3)) 120000 report_ratio_f) := report_ratio_run _ _ (c386_HundC (n + 0)) (c385_FixC (n + 1))
  unfold RatC rtE at h ⊢
  constructor
  ·intros; rw [env_run rfl rfl]; apply h.1 <;> assumption
  ·intros; rw [env_run rfl rfl]; apply h.2 <;> assumption
 have c729_RRatC (n : Nat) : RRatC (rtE (n + 22) 729) := by
  have h : RRatC (run (rtE (n + 21)) 120000 ref42_ratio_f) := ref42_ratio_run _ _ (c373_HundC (n + 18)) (c372_FixC (n + 0))
  unfold RRatC rtE at h ⊢; intros; rw [env_run rfl rfl]; apply h <;> assumption
 have c731_RIntC (n : Nat) : RIntC (rtE (n + 23) 731) := by
  have h : RIntC (run (rtE (n + 22)) 120000 ref42_interval_f) := ref42_interval_run _ _ (by omega) (c296_Drs25C (n + 19)) (c113_At25C (n + 21)) (c729_RRatC (n + 0))
  unfold RIntC rtE at h ⊢; intros; rw [env_run rfl rfl]; apply h <;> assumption
 have c721_CntC (n : Nat) : CntC (rtE (n + 5) 721) := by
  have h : CntC (run (rtE (n + 4)) 120000 report_counts_f) := report_counts_run _ _ (by omega) (c403_CountsC (n + 2)) (c728_IntvC (n + 0)) (c727_LoadC (n + 2)) (c724_RatC (n + 0)) (c723_HandC (n + 1)) (c725_FarsC (n + 2)) (c726_BusysC (n + 2)) (c50_Of (n + 1))
  unfold CntC rtE at h ⊢; intros; rw [env_run rfl rfl]; apply h <;> assumption
 have c722_CntC (n : Nat) : CntC (rtE (n + 24) 722) := by
  have h : CntC (run (rtE (n + 23)) 120000 ref42_counts_f) := ref42_counts_run _ _ (by omega) (c732_FarC (n + 20)) (c296_Drs25C (n + 20)) (c402_ManyC24 (n + 21)) (c731_RIntC (n + 0)) (c730_AbdC (n + 22)) (c729_RRatC (n + 1)) (c6_Of (n + 1))
  unfold CntC rtE at h ⊢; intros; rw [env_run rfl rfl]; apply h <;> assumption
 have c717_RTxtC (n : Nat) : RTxtC (rtE (n + 6) 717) := by
  have h : RTxtC (run (rtE (n + 5)) 120000 report_Text_f) := report_Text_run _ _ (c48_ShTextC (n + 0)) (c405_WaitsT (n + 2)) (c406_WaitsF (n + 2)) (c429_StatsC (n + 0)) (c721_CntC (n + 0)) (c431_BinsC (n + 0)) (c183_TextC16 (n + 1)) (env_rtj rfl)
  unfold RTxtC rtE at h ⊢
  constructor
  ·intros; rw [env_run rfl rfl]; apply h.1 <;> assumption
  ·intros; rw [env_run rfl rfl]; apply h.2 <;> assumption
 have c716_RTxtC (n : Nat) : RTxtC (rtE (n + 25) 716) := by
  have h : RTxtC (run (rtE (n + 24)) 120000 ref42_Text_f) := ref42_Text_run _ _ (c47_ShTextC (n + 0)) (c401_RWaitsC (n + 22)) (c430_StatsC (n + 1)) (c722_CntC (n + 0)) (c428_BinsC (n + 1)) (c184_TextC16 (n + 21))
  unfold RTxtC rtE at h ⊢
  constructor
  ·intros; rw [env_run rfl rfl]; apply h.1 <;> assumption
  ·intros; rw [env_run rfl rfl]; apply h.2 <;> assumption
 have c718_ProperC (n : Nat) : ProperC (rtE (n + 3) 718) := by
  have h : ProperC (run (rtE (n + 2)) 120000 law42_proper_f) := law42_proper_run _ _ (by omega) (c60_Great24 (n + 1)) (c256_Great35 (n + 0))
  unfold ProperC rtE at h ⊢; intros; rw [env_run rfl rfl]; apply h <;> assumption
 rw [env_run rfl rfl]
 exact ReportTexts_run rtTab_alive (c26_ChkC 27) (c718_ProperC 27) (c717_RTxtC 24) (c716_RTxtC 5) s ts ls u hs hu
end Go.Am
