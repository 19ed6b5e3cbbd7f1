/- Law 59: GoalTexts. -/
import Derived.Test.YtdhlplgkpgbpjaaGtxB
import Derived.Test.YtdhlplgkpgbpjaaGoalLaw
set_option linter.unusedVariables false
set_option linter.unusedSimpArgs false
set_option maxRecDepth 10000
set_option maxHeartbeats 2000000
namespace Go.Am
def GSame2 (g : List AV → Option (List AV)) : Prop := ∀ l : List Gl, l.length ≤ 60000 → g [gL l, gL l] = some [bo true]
theorem slices_Equal_GG_run (Γ : Env) (M : Nat) (hM : 60010 < M) : GSame2 (run Γ M slices_Equal_Sgoal_Goal_goal_Goal_f) := by
  intro ts hts
  obtain ⟨ax, s', ⟨rfl, rfl⟩, hin⟩ : ∃ ax s', (ax = .ex 0 ∧ s' = ⟨[], []⟩) ∧ ∀ s0, nrm [0, 1, 12, 13] [] s0 = ⟨[(0, .c (.vs 3 (ts.map Gl.cells))), (1, .c (.vs 3 (ts.map Gl.cells))), (12, i64 ts.length), (13, i64 (0 : Nat))], []⟩ → lp (exec Γ M slices_Equal_Sgoal_Goal_goal_Goal_l1) M s0 = some (ax, s') := by
    refine lp_all (fun k : Nat => ⟨[(0, .c (.vs 3 (ts.map Gl.cells))), (1, .c (.vs 3 (ts.map Gl.cells))), (12, i64 ts.length), (13, i64 k)], []⟩) (fun k => k ≤ ts.length) (fun k => ts.length - k) _ 0 M (by simp) (by omega) (by omega) ?_
    intro k hk
    by_cases hlt : k < ts.length
    · simp -implicitDefEqProofs (disch := first | omega | assumption) [hlt]
      exact ⟨k + 1, by simp, by omega, by omega⟩
    · obtain rfl : k = ts.length := by omega
      simp -implicitDefEqProofs (disch := first | omega | assumption)
  have hlp : lp (exec Γ M slices_Equal_Sgoal_Goal_goal_Goal_l1) M ⟨[(0, .c (.vs 3 (ts.map Gl.cells))), (1, .c (.vs 3 (ts.map Gl.cells))), (12, .c (.int .i64 ts.length)), (13, .c (.int .i64 0))], []⟩ = some (.ex 0, ⟨[], []⟩) := hin _ (by simp)
  simp -implicitDefEqProofs (disch := first | omega | assumption) [hlp]
theorem gtx_loop (Γ : Env) (M : Nat) (hM : 200 < M) (h98 : RightC (Γ 98)) (h99 : OfC59 (Γ 99)) (h100 : RightC (Γ 100)) (l : List Gl) (hl : l.length ≤ 60) (T : List UInt8) :
    ∀ t, nrm [0, 3, 4, 5] [4, 47] t = ⟨[(0, gL l), (3, st T), (4, .sl 4 0 0 0), (5, i64 (0 : Nat))], [(4, ⟨3, ((l.take 0).filter rgt).map (toAV ∘ Gl.cells)⟩)]⟩ →
      lp (exec Γ M law59_GoalTexts_l1) M t = some (.ex 0, ⟨[(3, st T), (4, .sl 4 (l.filter rgt).length 0 (l.filter rgt).length)], [(4, ⟨3, (l.filter rgt).map (toAV ∘ Gl.cells)⟩)]⟩) := by
  obtain ⟨ax, s', ⟨rfl, rfl⟩, hin⟩ : ∃ ax s', (ax = .ex 0 ∧ s' = ⟨[(3, st T), (4, .sl 4 (l.filter rgt).length 0 (l.filter rgt).length)], [(4, ⟨3, (l.filter rgt).map (toAV ∘ Gl.cells)⟩)]⟩) ∧ ∀ t, nrm [0, 3, 4, 5] [4, 47] t = ⟨[(0, gL l), (3, st T), (4, .sl 4 ((l.take 0).filter rgt).length 0 ((l.take 0).filter rgt).length), (5, i64 (0 : Nat))], [(4, ⟨3, ((l.take 0).filter rgt).map (toAV ∘ Gl.cells)⟩)]⟩ →
      lp (exec Γ M law59_GoalTexts_l1) M t = some (ax, s') := by
    refine lp_all (fun k : Nat => ⟨[(0, gL l), (3, st T), (4, .sl 4 ((l.take k).filter rgt).length 0 ((l.take k).filter rgt).length), (5, i64 k)], [(4, ⟨3, ((l.take k).filter rgt).map (toAV ∘ Gl.cells)⟩)]⟩) (fun k => k ≤ l.length) (fun k => l.length - k) _ 0 M (by simp) (by omega) (by omega) ?_
    intro k hk
    by_cases hlt : k < l.length
    · obtain ⟨⟨o, p, m⟩, he⟩ : ∃ t, l[k]'hlt = t := ⟨_, rfl⟩
      have hlen : ((l.take k).filter rgt).length ≤ 60 := by
        have := List.length_filter_le rgt (l.take k)
        simp at this; omega
      have e1 := h98 o p m
      have e2 := h99 ⟨o, p, m⟩
      have e3 := h100 o p m
      cases hb : rightB o p m with
      | false =>
        have htk : (l.take (k + 1)).filter rgt = (l.take k).filter rgt := by
          rw [List.take_succ_eq_append_getElem hlt, he, List.filter_append]
          simp [rgt, hb]
        rw [hb] at e1 e3
        obtain ⟨F, hF⟩ : ∃ F, (l.take k).filter rgt = F := ⟨_, rfl⟩
        rw [hF] at htk hlen ⊢
        simp -implicitDefEqProofs (disch := first | omega | assumption) [hlt, he, e1, e2, e3]
        exact ⟨k + 1, by rw [htk]; simp, by omega, by omega⟩
      | true =>
        have htk : (l.take (k + 1)).filter rgt = (l.take k).filter rgt ++ [⟨o, p, m⟩] := by
          rw [List.take_succ_eq_append_getElem hlt, he, List.filter_append]
          simp [rgt, hb]
        rw [hb] at e1 e3
        obtain ⟨F, hF⟩ : ∃ F, (l.take k).filter rgt = F := ⟨_, rfl⟩
        rw [hF] at htk hlen ⊢
        simp -implicitDefEqProofs (disch := first | omega | assumption) [hlt, he, e1, e2, e3]
        exact ⟨k + 1, by rw [htk]; simp, by omega, by omega⟩
    · obtain rfl : k = l.length := by omega
      have hlen : (l.filter rgt).length ≤ 60 := by
        have := List.length_filter_le rgt l
        omega
      simp only [List.take_length]
      simp -implicitDefEqProofs (disch := first | omega | assumption)
  exact hin
theorem law59_GoalTexts_run {Γ : Env} (M : Nat) (hM : 200 < M) (h95 : GSame2 (Γ 95)) (h96 : Γ 96 [] = some [bo true]) (h97 : GReadC gp (Γ 97)) (h98 : RightC (Γ 98)) (h99 : OfC59 (Γ 99)) (h100 : RightC (Γ 100)) (h101 : GAllC (Γ 101)) (h102 : GTextC (Γ 102)) (h103 : GTextC (Γ 103)) (l : List Gl) (hok : ∀ e ∈ l, e.Ok) :
    run Γ M law59_GoalTexts_f [gL l] = some [bo true] := by
  by_cases hl : 60 < l.length
  · have hl' : (60 : Int) < l.length := by omega
    simp -implicitDefEqProofs (disch := omega) [hl, hl']
  have hl' : ¬ (60 : Int) < l.length := by omega
  have e101 := h101 l (by omega)
  have g1 := h103 l (by omega) hok
  have g2 := h102 l (by omega) hok
  have hle := txtG_le l
  have hlen : (l.filter rgt).length ≤ 60 := by
    have := List.length_filter_le rgt l
    omega
  have r1 := h97 (txtG l) (by omega)
  rw [read_txtG l] at r1
  dsimp only at r1
  have r2 := h95 (l.filter rgt) (by omega)
  have hlp := gtx_loop Γ M hM h98 h99 h100 l (by omega) (txtG l) ⟨[(0, gL l), (3, st (txtG l)), (4, .sl 4 0 0 0), (5, i64 (0 : Nat))], [(4, ⟨3, ((l.take 0).filter rgt).map (toAV ∘ Gl.cells)⟩)]⟩ (by simp)
  simp only [List.take_zero, List.filter_nil, List.map_nil] at hlp
  simp at hlp
  obtain ⟨T, hT⟩ : ∃ T, txtG l = T := ⟨_, rfl⟩
  obtain ⟨F, hF⟩ : ∃ F, l.filter rgt = F := ⟨_, rfl⟩
  rw [hT] at hlp r1 g1 g2
  rw [hF] at hlp r1 r2 hlen
  have htk : List.take F.length (List.map Gl.cells F) = List.map Gl.cells F := List.take_of_length_le (by simp)
  simp -implicitDefEqProofs (disch := first | omega | assumption) [hl, hl', e101, g1, g2, hlp, r1, r2, h96, htk]
def ctGl : List CT := [ctI, ctI, ctI]
theorem gl_row (r : List D) (h : All2 WT ctGl r) : ∃ e : Gl, r = e.cells ∧ e.Ok := by
  simp only [ctGl, all2_cons, all2_nil, wt_i64] at h
  obtain ⟨_, _, rfl, ⟨a, rfl, ha⟩, _, _, rfl, ⟨b, rfl, hb⟩, _, _, rfl, ⟨c, rfl, hc⟩, rfl⟩ := h
  exact ⟨⟨a, b, c⟩, rfl, ⟨ha, hb, hc⟩⟩
abbrev gtxTab : Tab := (0, law59_GoalTexts_f, 1) :: (95, slices_Equal_Sgoal_Goal_goal_Goal_f, 2) :: (102, ref59_Text_f, 1) :: (101, law59_all_f, 1) :: (99, law59_of_f, 1) :: (96, law59_alive_f, 0) :: (97, goal_Read_f, 1) :: (145, goal_goal_f, 1) :: (143, goal_word_f, 1) :: (98, goal_Right_f, 1) :: (103, goal_Text_f, 1) :: (144, ref59_Line_f, 1) :: (100, ref59_Right_f, 1) ::
  (6, ref02_Of_f, 1) :: (52, ref02_Text_f, 1) :: (73, ref02_plain_f, 1) :: (74, ref01_Size_f, 1) :: (50, digits_Of_f, 1) :: (72, digits_Text_f, 1) :: (80, digits_plain_f, 1) :: (81, nums_Size_f, 1) :: (69, strings_Builder_String_f, 1) :: (79, strings_Builder_WriteString_f, 2) :: (228, strings_Builder_copyCheck_f, 1) :: lexTab
theorem gtx_alive : env gtxTab lexVals noEnv 70000 39 96 [] = some [bo true] := yes_eq (by decide +kernel)
theorem goalTexts_law (l : List Gl) (hok : ∀ e ∈ l, e.Ok) : env gtxTab lexVals noEnv 70000 40 0 [gL l] = some [bo true] := by
  have e (f : Nat) (F : AFn) (k m : Nat) (h : get gtxTab f = some (F, k)) (hk : (ghOk F.body && ksFn F) = true) : (env gtxTab lexVals noEnv 70000 (m + 1)).pt f = runP (env gtxTab lexVals noEnv 70000 m) 70000 F := funext fun s => env_runP h hk
  have p20 : ∀ (k n : Nat), k < 20 → Ref02_plain (k + 1) (env gtxTab lexVals noEnv 70000 (n + (k + 1)) 73) := by
    intro k
    induction k with
    | zero => intro n hk m hm; rw [env_run rfl rfl]; exact ref02_plain_run hk (fun h => absurd h (by omega)) m hm
    | succ j ih => intro n hk m hm; rw [show n + (j + 1 + 1) = (n + (j + 1)) + 1 by omega, env_run rfl rfl]; exact ref02_plain_run hk (fun _ => ih n (by omega)) m hm
  have z1 (n : Nat) : Size (env gtxTab lexVals noEnv 70000 (n + 1) 74) := fun m hm => by rw [env_run rfl rfl]; exact ref01_Size_run _ m hm
  have z2 (n : Nat) : Size (env gtxTab lexVals noEnv 70000 (n + 1) 81) := fun m hm => by rw [env_run rfl rfl]; exact nums_Size_run _ m hm
  have d1 (n : Nat) : Digits_plain (env gtxTab lexVals noEnv 70000 (n + 1) 80) := fun m hm => by rw [env_run rfl rfl]; exact digits_plain_run _ (by omega) m hm
  have t1 (n : Nat) : Of (env gtxTab lexVals noEnv 70000 (n + 2) 72) := fun m hm => by rw [env_run rfl rfl]; exact digits_Text_run (d1 _) (z2 _) m hm
  have t2 (n : Nat) : Of (env gtxTab lexVals noEnv 70000 (n + 21) 52) := fun m hm => by rw [env_run rfl rfl]; exact ref02_Text_run (p20 19 n (by omega)) (z1 _) m hm
  have o1 (n : Nat) : Of (env gtxTab lexVals noEnv 70000 (n + 3) 50) := fun m hm => by rw [env_run rfl rfl]; exact digits_Of_run (t1 _) m hm
  have o2 (n : Nat) : Of (env gtxTab lexVals noEnv 70000 (n + 22) 6) := fun m hm => by rw [env_run rfl rfl]; exact ref02_Of_run (t2 _) m hm
  have r1 (n : Nat) : RightC (env gtxTab lexVals noEnv 70000 (n + 1) 98) := fun o p m => by rw [env_run rfl rfl]; exact goal_Right_run _ _ o p m
  have r2 (n : Nat) : RightC (env gtxTab lexVals noEnv 70000 (n + 1) 100) := fun o p m => by rw [env_run rfl rfl]; exact ref59_Right_run _ _ o p m
  have w1 (n : Nat) : GWordC (env gtxTab lexVals noEnv 70000 (n + 1) 143) := fun o => by rw [env_run rfl rfl]; exact goal_word_run _ _ o
  have g1 (n : Nat) : GoalC (env gtxTab lexVals noEnv 70000 (n + 2) 145) := fun ts h => by rw [env_run rfl rfl]; exact goal_goal_run _ 69980 (w1 _) (r1 _) ts h
  have l1 (n : Nat) : LineC59 (env gtxTab lexVals noEnv 70000 (n + 23) 144) := fun e h1 h2 h3 => by rw [env_run rfl rfl]; exact ref59_Line_run _ _ (r2 _) (o2 _) e h1 h2 h3
  have s1 : ScanC (env gtxTab lexVals noEnv 70000 38 35) := fun s h => by rw [env_run rfl rfl]; exact lexer_Scan_run _ _ (by omega) (lex_next 32 rfl rfl rfl rfl rfl rfl rfl rfl) s h
  have cc (n : Nat) : G.CopyC ((env gtxTab lexVals noEnv 70000 (n + 1)).pt 228) := by rw [e 228 _ 1 n rfl (by decide +kernel)]; exact G.copyCheck_run _ _
  have cc7 (n : Nat) : G.CopyC7 ((env gtxTab lexVals noEnv 70000 (n + 1)).pt 228) := by rw [e 228 _ 1 n rfl (by decide +kernel)]; exact G.copyCheck_run7 _ _
  have ck (n : Nat) : G.CopyK ((env gtxTab lexVals noEnv 70000 (n + 1)).pt 228) := by rw [e 228 _ 1 n rfl (by decide +kernel)]; exact G.copyCheck_runK _ _
  have wk (n : Nat) : G.WrK ((env gtxTab lexVals noEnv 70000 (n + 2)).pt 79) := by rw [e 79 _ 2 (n + 1) rfl (by decide +kernel)]; exact G.WriteString_runK _ _ (cc7 _) (ck _)
  have wc (n : Nat) : G.WrC ((env gtxTab lexVals noEnv 70000 (n + 2)).pt 79) := by rw [e 79 _ 2 (n + 1) rfl (by decide +kernel)]; exact G.WriteString_run _ _ (cc _)
  have ss (n : Nat) : G.StrC ((env gtxTab lexVals noEnv 70000 (n + 1)).pt 69) := by rw [e 69 _ 1 n rfl (by decide +kernel)]; exact G.BString_run _ _
  have s0 (n : Nat) : G.StrC0 ((env gtxTab lexVals noEnv 70000 (n + 1)).pt 69) := by rw [e 69 _ 1 n rfl (by decide +kernel)]; exact G.BString_run0 _ _
  rw [env_run rfl rfl]
  refine law59_GoalTexts_run _ (by omega) ?_ gtx_alive ?_ (r1 38) ?_ (r2 38) ?_ ?_ ?_ l hok
  · intro l h; rw [env_run rfl rfl]; exact slices_Equal_GG_run _ _ (by omega) l h
  · intro s h; rw [env_run rfl rfl]; exact goal_Read_run _ _ (by omega) s1 (g1 36) s h
  · intro e; rw [env_run rfl rfl]; exact law59_of_run _ _ e
  · intro l h; rw [env_run rfl rfl]; exact law59_all_run _ _ (by omega) (fun e => by rw [env_run rfl rfl]; exact law59_of_run _ _ e) l h
  · intro l h h2; rw [env_run rfl rfl]; exact ref59_Text_run _ 69980 (by omega) (l1 15) l h h2
  · intro l h h2; rw [env_run rfl rfl]; exact goal_Text_run _ _ (by omega) (wk 36) (wc 36) (ss 37) (s0 37) (o1 35) (r1 37) (w1 37) l h h2
end Go.Am
