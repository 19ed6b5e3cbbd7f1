/- Law 27: ShowTexts, over the functions together. -/
import Derived.Test.YtfompdbhmbdmeaaShowRef
set_option linter.unusedVariables false
set_option linter.unusedSimpArgs false
set_option maxRecDepth 10000
set_option maxHeartbeats 1000000
namespace Go.Am
theorem law27_ShowTexts_run {Γ : Env} (M : Nat) (h48 : TextC (Γ 48)) (h47 : TextC (Γ 47)) (h40 : WhrC (Γ 40)) (h41 : WhrC (Γ 41)) (h42 : TplC (Γ 42)) (h43 : TplC (Γ 43)) (h44 : DisC (Γ 44)) (h45 : DisC (Γ 45)) (h46 : Γ 46 [] = some [bo true]) (s : Scn) (hs : s.Ok) (c l k : Int) (hc : InI64 c) (hl : InI64 l) (hk : InI64 k) :
    run Γ M law27_ShowTexts_f [.agg s.cells, .agg [.int .i64 c, .int .i64 l, .int .i64 k]] = some [bo true] := by
  by_cases hn : 30 < s.segs.length
  · have hn' : (30 : Int) < s.segs.length := by omega
    simp -implicitDefEqProofs (disch := first | omega | assumption) [hn, hn']
  have e1 := h48 s hs (by omega)
  have e2 := h47 s hs (by omega)
  have e3 := h40 c l k hc hl hk
  have e4 := h41 c l k hc hl hk
  have e5 := h42 l
  have e6 := h43 l
  have e7 := h44 l
  have e8 := h45 l
  have hn' : ¬ (30 : Int) < s.segs.length := by omega
  by_cases h0 : chkS s = 0
  · rw [if_pos h0] at e1 e2
    generalize txtS s = T at *
    generalize whr c l k = W at *
    generalize tplW l = X at *
    generalize disW l = Y at *
    simp only [Scn.cells] at e1 e2
    simp -implicitDefEqProofs (disch := first | omega | assumption) [hn, hn', e1, e2, e3, e4, e5, e6, e7, e8, h46]
  · rw [if_neg h0] at e1 e2
    generalize chkS s = E at *
    generalize whr c l k = W at *
    generalize tplW l = X at *
    generalize disW l = Y at *
    simp only [Scn.cells] at e1 e2
    simp -implicitDefEqProofs (disch := first | omega | assumption) [hn, hn', e1, e2, e3, e4, e5, e6, e7, e8, h46]
def yes3 : Option (List AV) → Bool
  | some [.c (.bool b)] => b
  | _ => false
theorem yes3_eq {o : Option (List AV)} (h : yes3 o = true) : o = some [bo true] := by
  unfold yes3 at h
  split at h
  · subst h; rfl
  · simp at h
abbrev showTab : Tab := [(0, law27_ShowTexts_f, 2), (6, ref02_Of_f, 1), (52, ref02_Text_f, 1), (73, ref02_plain_f, 1), (74, ref01_Size_f, 1), (50, digits_Of_f, 1), (72, digits_Text_f, 1), (80, digits_plain_f, 1), (81, nums_Size_f, 1), (20, vet_In_f, 2), (21, ref20_In_f, 2), (23, ref20_Bounds_f, 1), (24, vet_Bounds_f, 1), (25, vet_Check_f, 1), (26, ref20_Check_f, 1), (63, vet_segment_f, 1), (64, vet_numbers_f, 1), (40, show_Where_f, 1), (41, ref27_Where_f, 1), (42, show_Template_f, 1), (43, ref27_Template_f, 1), (44, show_Dispatcher_f, 1), (45, ref27_Dispatcher_f, 1), (46, law27_alive_f, 0), (47, ref27_Text_f, 1), (48, show_Text_f, 1), (69, strings_Builder_String_f, 1), (70, show_line_f, 3), (71, ref27_line_f, 2), (79, strings_Builder_WriteString_f, 2), (228, strings_Builder_copyCheck_f, 1)]
abbrev showVals : List (Nat × Nat) := []
theorem show_alive : env showTab showVals noEnv 1000 39 46 [] = some [bo true] := yes3_eq (by decide +kernel)
theorem show_law (s : Scn) (hs : s.Ok) (c l k : Int) (hc : InI64 c) (hl : InI64 l) (hk : InI64 k) : env showTab showVals noEnv 1000 40 0 [.agg s.cells, .agg [.int .i64 c, .int .i64 l, .int .i64 k]] = some [bo true] := by
  have e (f : Nat) (F : AFn) (k m : Nat) (h : get showTab f = some (F, k)) (hk : (ghOk F.body && ksOk F.body) = true) : (env showTab showVals noEnv 1000 (m + 1)).pt f = runP (env showTab showVals noEnv 1000 m) 1000 F := funext fun s => env_runP h hk
  have p20 : ∀ (k n : Nat), k < 20 → Ref02_plain (k + 1) (env showTab showVals noEnv 1000 (n + (k + 1)) 73) := by
    intro k
    induction k with
    | zero => intro n hk m hm; rw [env_run rfl rfl]; exact ref02_plain_run hk (fun h => absurd h (by omega)) m hm
    | succ j ih => intro n hk m hm; rw [show n + (j + 1 + 1) = (n + (j + 1)) + 1 by omega, env_run rfl rfl]; exact ref02_plain_run hk (fun _ => ih n (by omega)) m hm
  have z1 (n : Nat) : Size (env showTab showVals noEnv 1000 (n + 1) 74) := fun m hm => by rw [env_run rfl rfl]; exact ref01_Size_run _ m hm
  have z2 (n : Nat) : Size (env showTab showVals noEnv 1000 (n + 1) 81) := fun m hm => by rw [env_run rfl rfl]; exact nums_Size_run _ m hm
  have d1 (n : Nat) : Digits_plain (env showTab showVals noEnv 1000 (n + 1) 80) := fun m hm => by rw [env_run rfl rfl]; exact digits_plain_run _ (by omega) m hm
  have t1 (n : Nat) : Of (env showTab showVals noEnv 1000 (n + 2) 72) := fun m hm => by rw [env_run rfl rfl]; exact digits_Text_run (d1 _) (z2 _) m hm
  have t2 (n : Nat) : Of (env showTab showVals noEnv 1000 (n + 21) 52) := fun m hm => by rw [env_run rfl rfl]; exact ref02_Text_run (p20 19 n (by omega)) (z1 _) m hm
  have o1 (n : Nat) : Of (env showTab showVals noEnv 1000 (n + 3) 50) := fun m hm => by rw [env_run rfl rfl]; exact digits_Of_run (t1 _) m hm
  have o2 (n : Nat) : Of (env showTab showVals noEnv 1000 (n + 22) 6) := fun m hm => by rw [env_run rfl rfl]; exact ref02_Of_run (t2 _) m hm
  have b1 (n : Nat) : Bounds (env showTab showVals noEnv 1000 (n + 1) 23) := fun x => by rw [env_run rfl rfl]; exact ref20_Bounds_run _ 980 x
  have b2 (n : Nat) : Bounds (env showTab showVals noEnv 1000 (n + 1) 24) := fun x => by rw [env_run rfl rfl]; exact vet_Bounds_run _ _ x
  have i1 (n : Nat) : InC (env showTab showVals noEnv 1000 (n + 2) 20) := fun x m => by rw [env_run rfl rfl]; exact vet_In_run (b2 _) x m
  have i2 (n : Nat) : InC (env showTab showVals noEnv 1000 (n + 2) 21) := fun x m => by rw [env_run rfl rfl]; exact ref20_In_run (b1 _) x m
  have s1 (n : Nat) : SegC (env showTab showVals noEnv 1000 (n + 3) 63) := fun x => by rw [env_run rfl rfl]; exact vet_segment_run (i1 _) x
  have n1 (n : Nat) : Numbers (env showTab showVals noEnv 1000 (n + 3) 64) := fun x => by rw [env_run rfl rfl]; exact vet_numbers_run (i1 _) x
  have c1 (n : Nat) : ChkC (env showTab showVals noEnv 1000 (n + 4) 25) := fun x hx => by rw [env_run rfl rfl]; exact vet_Check_run (by omega) (s1 _) (n1 _) x hx
  have c2 (n : Nat) : ChkC (env showTab showVals noEnv 1000 (n + 3) 26) := fun x hx => by rw [env_run rfl rfl]; exact ref20_Check_run (M := 900) (i2 _) x hx
  have a1 (n : Nat) : TplC (env showTab showVals noEnv 1000 (n + 1) 42) := fun x => by rw [env_run rfl rfl]; exact show_Template_run _ _ x
  have a2 (n : Nat) : TplC (env showTab showVals noEnv 1000 (n + 1) 43) := fun x => by rw [env_run rfl rfl]; exact ref27_Template_run _ _ x
  have a3 (n : Nat) : DisC (env showTab showVals noEnv 1000 (n + 1) 44) := fun x => by rw [env_run rfl rfl]; exact show_Dispatcher_run _ _ x
  have a4 (n : Nat) : DisC (env showTab showVals noEnv 1000 (n + 1) 45) := fun x => by rw [env_run rfl rfl]; exact ref27_Dispatcher_run _ _ x
  have w1 (n : Nat) : WhrC (env showTab showVals noEnv 1000 (n + 4) 40) := fun x y z h1 h2 h3 => by rw [env_run rfl rfl]; exact show_Where_run _ _ (o1 _) x y z h1 h2 h3
  have w2 (n : Nat) : WhrC (env showTab showVals noEnv 1000 (n + 23) 41) := fun x y z h1 h2 h3 => by rw [env_run rfl rfl]; exact ref27_Where_run _ _ (o2 _) x y z h1 h2 h3
  have r1 (n : Nat) : RLineC (env showTab showVals noEnv 1000 (n + 23) 71) := fun w l L h1 h2 h3 h4 => by rw [env_run rfl rfl]; exact ref27_line_run _ _ (by omega) (o2 _) w l L h1 h2 h3 h4
  have cc (n : Nat) : CopyC ((env showTab showVals noEnv 1000 (n + 1)).pt 228) := by rw [e 228 _ 1 n rfl (by decide +kernel)]; exact copyCheck_run _ _
  have cc7 (n : Nat) : CopyC7 ((env showTab showVals noEnv 1000 (n + 1)).pt 228) := by rw [e 228 _ 1 n rfl (by decide +kernel)]; exact copyCheck_run7 _ _
  have wr (n : Nat) : WrC ((env showTab showVals noEnv 1000 (n + 2)).pt 79) := by rw [e 79 _ 2 (n + 1) rfl (by decide +kernel)]; exact WriteString_run _ _ (cc _)
  have wr7 (n : Nat) : WrC7 ((env showTab showVals noEnv 1000 (n + 2)).pt 79) := by rw [e 79 _ 2 (n + 1) rfl (by decide +kernel)]; exact WriteString_run7 _ _ (cc7 _)
  have ss (n : Nat) : StrC ((env showTab showVals noEnv 1000 (n + 1)).pt 69) := by rw [e 69 _ 1 n rfl (by decide +kernel)]; exact BString_run _ _
  have ln (n : Nat) : LineC ((env showTab showVals noEnv 1000 (n + 4)).pt 70) := by rw [e 70 _ 3 (n + 3) rfl (by decide +kernel)]; exact show_line_run _ _ (by omega) (wr _) (o1 _)
  have ln7 (n : Nat) : LineC7 ((env showTab showVals noEnv 1000 (n + 4)).pt 70) := by rw [e 70 _ 3 (n + 3) rfl (by decide +kernel)]; exact show_line_run7 _ _ (by omega) (wr _) (wr7 _) (o1 _)
  rw [env_run rfl rfl]
  refine law27_ShowTexts_run _ ?_ ?_ (w1 35) (w2 16) (a1 38) (a2 38) (a3 38) (a4 38) show_alive s hs c l k hc hl hk
  · intro s hs hn; rw [env_run rfl rfl]; exact show_Text_run _ _ (by omega) (c1 34) (a1 37) (a3 37) (ln 34) (ln7 34) (ss 37) s hs hn
  · intro s hs hn; rw [env_run rfl rfl]; exact ref27_Text_run _ _ (by omega) (c2 35) (a2 37) (a4 37) (r1 15) s hs hn
end Go.Am
