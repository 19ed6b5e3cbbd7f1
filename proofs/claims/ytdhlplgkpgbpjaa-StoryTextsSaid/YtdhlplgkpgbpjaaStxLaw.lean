/- Law 66: StoryTexts. -/
import Derived.Test.YtdhlplgkpgbpjaaStxB
import Derived.Test.YtdhlplgkpgbpjaaStoryLaw
set_option linter.unusedVariables false
set_option linter.unusedSimpArgs false
set_option maxRecDepth 10000
set_option maxHeartbeats 2000000
namespace Go.Am
/-- Events that can be read as they were written. -/
def evGood (e : Ev) : Prop := 1 ≤ e.kd ∧ e.kd ≤ 5 ∧ (0 ≤ e.tk ∧ e.tk ≤ 1073741824) ∧ (0 ≤ e.car ∧ e.car ≤ 1073741824) ∧ (0 ≤ e.id ∧ e.id ≤ 1073741824)
def evIt (e : Ev) : List It := [.n e.tk, .w (wd e.kd), .n e.car, .n e.id]
theorem txt_nn {n : Int} (h : 0 ≤ n) : txt n = dig n := by
  unfold txt; rw [if_neg (by omega)]
theorem wd_good {k : Int} (h1 : 1 ≤ k) (h5 : k ≤ 5) : wd k ≠ [] ∧ (∀ b ∈ wd k, isLt b = true) ∧ kOf (wd k) = k := by
  have : k = 1 ∨ k = 2 ∨ k = 3 ∨ k = 4 ∨ k = 5 := by omega
  rcases this with rfl | rfl | rfl | rfl | rfl <;> refine ⟨by decide, by decide, by decide⟩
theorem lines_txtE : ∀ l : List Ev, (∀ e ∈ l, evGood e) → linesT (l.map evIt) = txtE l
  | [], _ => rfl
  | e :: r, h => by
    obtain ⟨h1, h2, ⟨h3, _⟩, ⟨h4, _⟩, ⟨h5, _⟩⟩ := h e (by simp)
    have ih := lines_txtE r fun x hx => h x (by simp [hx])
    simp only [List.map_cons, linesT, txtE, ih]
    unfold evT
    rw [if_neg (wd_good h1 h2).1, txt_nn h3, txt_nn h4, txt_nn h5]
    simp [evIt, lineT, It.tx]
theorem read_txtE (l : List Ev) (h : ∀ e ∈ l, evGood e) : readR ev1 (txtE l) = ⟨l, 0, 0, 0⟩ := by
  rw [← lines_txtE l h]
  refine readR_lines l fun e he => ?_
  obtain ⟨h1, h2, h3, h4, h5⟩ := h e he
  obtain ⟨w1, w2, w3⟩ := wd_good h1 h2
  refine ⟨fun x hx => ?_, by simp [evIt], fun ln => ?_⟩
  · simp only [evIt, List.mem_cons, List.not_mem_nil, or_false] at hx
    rcases hx with rfl | rfl | rfl | rfl
    · exact h3
    · exact ⟨w1, w2⟩
    · exact h4
    · exact h5
  · have hne : ¬ e.kd = 0 := by omega
    simp [evIt, lineW, It.tk, ev1, w3, hne]
def ESame2 (g : List AV → Option (List AV)) : Prop := ∀ l : List Ev, l.length ≤ 60000 → g [eL l, eL l] = some [bo true]
theorem slices_Equal_SE_run (Γ : Env) (M : Nat) (hM : 60010 < M) : ESame2 (run Γ M slices_Equal_Sstory_Event_story_Event_f) := by
  intro ts hts
  obtain ⟨ax, s', ⟨rfl, rfl⟩, hin⟩ : ∃ ax s', (ax = .ex 0 ∧ s' = ⟨[], []⟩) ∧ ∀ s0, nrm [0, 1, 12, 13] [] s0 = ⟨[(0, .c (.vs 4 (ts.map Ev.cells))), (1, .c (.vs 4 (ts.map Ev.cells))), (12, i64 ts.length), (13, i64 (0 : Nat))], []⟩ → lp (exec Γ M slices_Equal_Sstory_Event_story_Event_l1) M s0 = some (ax, s') := by
    refine lp_all (fun k : Nat => ⟨[(0, .c (.vs 4 (ts.map Ev.cells))), (1, .c (.vs 4 (ts.map Ev.cells))), (12, i64 ts.length), (13, i64 k)], []⟩) (fun k => k ≤ ts.length) (fun k => ts.length - k) _ 0 M (by simp) (by omega) (by omega) ?_
    intro k hk
    by_cases hlt : k < ts.length
    · simp -implicitDefEqProofs (disch := first | omega | assumption) [hlt]
      exact ⟨k + 1, by simp, by omega, by omega⟩
    · obtain rfl : k = ts.length := by omega
      simp -implicitDefEqProofs (disch := first | omega | assumption)
  have hlp : lp (exec Γ M slices_Equal_Sstory_Event_story_Event_l1) M ⟨[(0, .c (.vs 4 (ts.map Ev.cells))), (1, .c (.vs 4 (ts.map Ev.cells))), (12, .c (.int .i64 ts.length)), (13, .c (.int .i64 0))], []⟩ = some (.ex 0, ⟨[], []⟩) := hin _ (by simp)
  simp -implicitDefEqProofs (disch := first | omega | assumption) [hlp]
theorem ite_mn (a b : Int) : (if b < a then b else a) = min a b := by omega
theorem ite_mx (a b : Int) : (if a < b then b else a) = max a b := by omega
theorem stx_loop (Γ : Env) (M : Nat) (hM : 200 < M) (h84 : Γ 84 [] = some [bo true]) (l : List Ev) (hl : l.length ≤ 100) (T : List UInt8) :
    ∃ ax s', (((∀ e ∈ l, evGood e) ∧ ax = .ex 0 ∧ s' = ⟨[(0, eL l), (10, st T)], []⟩) ∨ (ax = .ret ∧ s' = ⟨[(6, bo true)], []⟩)) ∧ ∀ t, nrm [0, 10, 11] [] t = ⟨[(0, eL l), (10, st T), (11, i64 (0 : Nat))], []⟩ → lp (exec Γ M law66_StoryTexts_l1) M t = some (ax, s') := by
  refine lp_all (fun k : Nat => ⟨[(0, eL l), (10, st T), (11, i64 k)], []⟩) (fun k => k ≤ l.length ∧ ∀ e ∈ l.take k, evGood e) (fun k => l.length - k) _ 0 M (by simp) ⟨by omega, by simp⟩ (by omega) ?_
  rintro k ⟨hk, hg⟩
  by_cases hlt : k < l.length
  · obtain ⟨e, he⟩ : ∃ t, l[k]'hlt = t := ⟨_, rfl⟩
    have htk : l.take (k + 1) = l.take k ++ [e] := by rw [List.take_succ_eq_append_getElem hlt, he]
    by_cases h1 : e.kd < 1
    · simp -implicitDefEqProofs (disch := first | omega | assumption) [hlt, he, h1, h84]
    by_cases h2 : 5 < e.kd
    · simp -implicitDefEqProofs (disch := first | omega | assumption) [hlt, he, h1, h2, h84]
    by_cases h3 : min (min e.tk e.car) e.id < 0
    · have d3 := decide_eq_true h3
      simp -implicitDefEqProofs (disch := first | omega | assumption) [hlt, he, h1, h2, d3, ite_mn, ite_mx, h84]
    by_cases h4 : 1073741824 < max (max e.tk e.car) e.id
    · have d3 := decide_eq_false h3
      have d4 := decide_eq_true h4
      simp -implicitDefEqProofs (disch := first | omega | assumption) [hlt, he, h1, h2, d3, d4, ite_mn, ite_mx, h84]
    have d3 := decide_eq_false h3
    have d4 := decide_eq_false h4
    simp -implicitDefEqProofs (disch := first | omega | assumption) [hlt, he, h1, h2, d3, d4, ite_mn, ite_mx]
    refine ⟨k + 1, by simp, ⟨by omega, fun x hx => ?_⟩, by omega⟩
    rw [htk] at hx
    simp only [List.mem_append, List.mem_singleton] at hx
    rcases hx with hx | rfl
    · exact hg x hx
    · exact ⟨by omega, by omega, ⟨by omega, by omega⟩, ⟨by omega, by omega⟩, ⟨by omega, by omega⟩⟩
  · obtain rfl : k = l.length := by omega
    rw [List.take_length] at hg
    simp -implicitDefEqProofs (disch := first | omega | assumption)
    exact hg
theorem law66_StoryTexts_run {Γ : Env} (M : Nat) (hM : 200 < M) (h82 : AllC (Γ 82)) (h84 : Γ 84 [] = some [bo true]) (h86 : ReadC (Γ 86)) (h106 : ESame2 (Γ 106)) (h125 : STextC (Γ 125)) (h208 : STextC (Γ 208)) (h209 : ECmpC (Γ 209)) (h210 : LessC (Γ 210)) (l : List Ev) (hok : ∀ e ∈ l, e.Ok) (a b : Ev) :
    run Γ M law66_StoryTexts_f [eL l, .agg a.cells, .agg b.cells] = some [bo true] := by
  by_cases hl : 100 < l.length
  · have hl' : (100 : Int) < l.length := by omega
    simp -implicitDefEqProofs (disch := omega) [hl, hl']
  have hl' : ¬ (100 : Int) < l.length := by omega
  have e82 := h82 [a, b] (by simp)
  have e82l := h82 l (by omega)
  have c1 := h210 a b
  have c2 := h210 b a
  have c3 := h209 a b
  have g1 := h125 l (by omega) hok
  have g2 := h208 l (by omega) hok
  obtain ⟨ax, s', hR, hin⟩ := stx_loop Γ M hM h84 l (by omega) (txtE l)
  have hlp := hin ⟨[(0, eL l), (10, st (txtE l)), (11, i64 (0 : Nat))], []⟩ (by simp)
  simp at hlp
  have hle := txtE_le l
  have r1 := h86 (txtE l) (by omega)
  have r2 := h106 l (by omega)
  have hrd := read_txtE l
  obtain ⟨T, hT⟩ : ∃ T, txtE l = T := ⟨_, rfl⟩
  rw [hT] at hlp r1 g1 g2 hrd hR
  simp only [List.map_cons, List.map_nil] at e82
  obtain ⟨a1, a2, a3, a4⟩ := a
  obtain ⟨b1, b2, b3, b4⟩ := b
  rcases hR with ⟨hg, rfl, rfl⟩ | ⟨rfl, rfl⟩
  · rw [hrd hg] at r1
    dsimp only at r1
    rcases ev_order ⟨a1, a2, a3, a4⟩ ⟨b1, b2, b3, b4⟩ with ⟨o1, o2, o3⟩ | ⟨o1, o2, o3⟩ | ⟨o1, o2, o3⟩
    · rw [o2] at c1; rw [o3] at c2; rw [o1] at c3
      simp -implicitDefEqProofs (disch := first | omega | assumption) [hl, hl', e82, e82l, c1, c2, c3, g1, g2, hlp, r1, r2, h84]
    · rw [o2] at c1; rw [o3] at c2; rw [o1] at c3
      simp -implicitDefEqProofs (disch := first | omega | assumption) [hl, hl', e82, e82l, c1, c2, c3, g1, g2, hlp, r1, r2, h84]
    · rw [o2] at c1; rw [o3] at c2; rw [o1] at c3
      simp -implicitDefEqProofs (disch := first | omega | assumption) [hl, hl', e82, e82l, c1, c2, c3, g1, g2, hlp, r1, r2, h84]
  · rcases ev_order ⟨a1, a2, a3, a4⟩ ⟨b1, b2, b3, b4⟩ with ⟨o1, o2, o3⟩ | ⟨o1, o2, o3⟩ | ⟨o1, o2, o3⟩
    · rw [o2] at c1; rw [o3] at c2; rw [o1] at c3
      simp -implicitDefEqProofs (disch := first | omega | assumption) [hl, hl', e82, e82l, c1, c2, c3, g1, g2, hlp, h84]
    · rw [o2] at c1; rw [o3] at c2; rw [o1] at c3
      simp -implicitDefEqProofs (disch := first | omega | assumption) [hl, hl', e82, e82l, c1, c2, c3, g1, g2, hlp, h84]
    · rw [o2] at c1; rw [o3] at c2; rw [o1] at c3
      simp -implicitDefEqProofs (disch := first | omega | assumption) [hl, hl', e82, e82l, c1, c2, c3, g1, g2, hlp, h84]
def ctEv : List CT := [ctI, ctI, ctI, ctI]
theorem ev_row (r : List D) (h : All2 WT ctEv r) : ∃ e : Ev, r = e.cells ∧ e.Ok := by
  simp only [ctEv, all2_cons, all2_nil, wt_i64] at h
  obtain ⟨_, _, rfl, ⟨a, rfl, ha⟩, _, _, rfl, ⟨b, rfl, hb⟩, _, _, rfl, ⟨c, rfl, hc⟩, _, _, rfl, ⟨d, rfl, hd⟩, rfl⟩ := h
  exact ⟨⟨a, b, c, d⟩, rfl, ⟨ha, hb, hc, hd⟩⟩
abbrev stxTab : Tab := (0, law66_StoryTexts_f, 3) :: (106, slices_Equal_Sstory_Event_story_Event_f, 2) :: (208, ref66_Text_f, 1) :: (209, story_Compare_f, 2) :: (210, ref66_Less_f, 2) :: (53, cmp_Compare_int_f, 2) :: (149, cmp_Compare_story_Kind_f, 2) :: (54, cmp_Or_int_f, 1) :: (75, cmp_isNaN_int_f, 1) :: (165, cmp_isNaN_story_Kind_f, 1) ::
  (82, law66_all_f, 1) :: (84, law66_alive_f, 0) :: (86, story_Read_f, 1) :: (123, story_event_f, 1) :: (124, ref66_word_f, 1) :: (148, story_word_f, 1) :: (125, story_Text_f, 1) :: (50, digits_Of_f, 1) :: (72, digits_Text_f, 1) :: (80, digits_plain_f, 1) :: (81, nums_Size_f, 1) :: (6, ref02_Of_f, 1) :: (52, ref02_Text_f, 1) :: (73, ref02_plain_f, 1) :: (74, ref01_Size_f, 1) :: (69, strings_Builder_String_f, 1) :: (79, strings_Builder_WriteString_f, 2) :: (228, strings_Builder_copyCheck_f, 1) :: lexTab
theorem stx_alive : env stxTab lexVals noEnv 70000 39 84 [] = some [bo true] := yes_eq (by decide +kernel)
theorem storyTexts_law (l : List Ev) (hok : ∀ e ∈ l, e.Ok) (a b : Ev) : env stxTab lexVals noEnv 70000 40 0 [eL l, .agg a.cells, .agg b.cells] = some [bo true] := by
  have e (f : Nat) (F : AFn) (k m : Nat) (h : get stxTab f = some (F, k)) (hk : (ghOk F.body && ksFn F) = true) : (env stxTab lexVals noEnv 70000 (m + 1)).pt f = runP (env stxTab lexVals noEnv 70000 m) 70000 F := funext fun s => env_runP h hk
  have p20 : ∀ (k n : Nat), k < 20 → Ref02_plain (k + 1) (env stxTab lexVals noEnv 70000 (n + (k + 1)) 73) := by
    intro k
    induction k with
    | zero => intro n hk m hm; rw [env_run rfl rfl]; exact ref02_plain_run hk (fun h => absurd h (by omega)) m hm
    | succ j ih => intro n hk m hm; rw [show n + (j + 1 + 1) = (n + (j + 1)) + 1 by omega, env_run rfl rfl]; exact ref02_plain_run hk (fun _ => ih n (by omega)) m hm
  have z1 (n : Nat) : Size (env stxTab lexVals noEnv 70000 (n + 1) 74) := fun m hm => by rw [env_run rfl rfl]; exact ref01_Size_run _ m hm
  have z2 (n : Nat) : Size (env stxTab lexVals noEnv 70000 (n + 1) 81) := fun m hm => by rw [env_run rfl rfl]; exact nums_Size_run _ m hm
  have d1 (n : Nat) : Digits_plain (env stxTab lexVals noEnv 70000 (n + 1) 80) := fun m hm => by rw [env_run rfl rfl]; exact digits_plain_run _ (by omega) m hm
  have t1 (n : Nat) : Of (env stxTab lexVals noEnv 70000 (n + 2) 72) := fun m hm => by rw [env_run rfl rfl]; exact digits_Text_run (d1 _) (z2 _) m hm
  have t2 (n : Nat) : Of (env stxTab lexVals noEnv 70000 (n + 21) 52) := fun m hm => by rw [env_run rfl rfl]; exact ref02_Text_run (p20 19 n (by omega)) (z1 _) m hm
  have o1 (n : Nat) : Of (env stxTab lexVals noEnv 70000 (n + 3) 50) := fun m hm => by rw [env_run rfl rfl]; exact digits_Of_run (t1 _) m hm
  have o2 (n : Nat) : Of (env stxTab lexVals noEnv 70000 (n + 22) 6) := fun m hm => by rw [env_run rfl rfl]; exact ref02_Of_run (t2 _) m hm
  have wp (n : Nat) : WordC (env stxTab lexVals noEnv 70000 (n + 1) 148) := fun k => by rw [env_run rfl rfl]; exact story_word_run _ _ k
  have wr (n : Nat) : WordC (env stxTab lexVals noEnv 70000 (n + 1) 124) := fun k => by rw [env_run rfl rfl]; exact ref66_word_run _ _ k
  have ev (n : Nat) : EventC (env stxTab lexVals noEnv 70000 (n + 2) 123) := fun ts h => by rw [env_run rfl rfl]; exact story_event_run _ 69980 (wp n) ts h
  have s1 : ScanC (env stxTab lexVals noEnv 70000 38 35) := fun s h => by rw [env_run rfl rfl]; exact lexer_Scan_run _ _ (by omega) (lex_next 32 rfl rfl rfl rfl rfl rfl rfl rfl) s h
  have cc7 (n : Nat) : S.CopyC7 ((env stxTab lexVals noEnv 70000 (n + 1)).pt 228) := by rw [e 228 _ 1 n rfl (by decide +kernel)]; exact S.copyCheck_run7 _ _
  have ck (n : Nat) : S.CopyK ((env stxTab lexVals noEnv 70000 (n + 1)).pt 228) := by rw [e 228 _ 1 n rfl (by decide +kernel)]; exact S.copyCheck_runK _ _
  have wk (n : Nat) : S.WrK ((env stxTab lexVals noEnv 70000 (n + 2)).pt 79) := by rw [e 79 _ 2 (n + 1) rfl (by decide +kernel)]; exact S.WriteString_runK _ _ (cc7 _) (ck _)
  have ss (n : Nat) : S.StrC ((env stxTab lexVals noEnv 70000 (n + 1)).pt 69) := by rw [e 69 _ 1 n rfl (by decide +kernel)]; exact S.BString_run _ _
  have s0 (n : Nat) : S.StrC0 ((env stxTab lexVals noEnv 70000 (n + 1)).pt 69) := by rw [e 69 _ 1 n rfl (by decide +kernel)]; exact S.BString_run0 _ _
  have n1 (n : Nat) : NanC66 (env stxTab lexVals noEnv 70000 (n + 1) 75) := fun a => by rw [env_run rfl rfl]; exact isNaN_int_run66 _ _ a
  have n2 (n : Nat) : NanC66 (env stxTab lexVals noEnv 70000 (n + 1) 165) := fun a => by rw [env_run rfl rfl]; exact isNaN_kind_run66 _ _ a
  have m1 (n : Nat) : CmpC66 (env stxTab lexVals noEnv 70000 (n + 2) 53) := fun a b => by rw [env_run rfl rfl]; exact Compare_int_run66 _ _ (n1 _) a b
  have m2 (n : Nat) : CmpC66 (env stxTab lexVals noEnv 70000 (n + 2) 149) := fun a b => by rw [env_run rfl rfl]; exact Compare_kind_run66 _ _ (n2 _) a b
  have m3 (n : Nat) : OrC66 (env stxTab lexVals noEnv 70000 (n + 1) 54) := fun a b c d => by rw [env_run rfl rfl]; exact cmp_Or_run66 _ 69980 a b c d
  rw [env_run rfl rfl]
  refine law66_StoryTexts_run _ (by omega) ?_ stx_alive ?_ ?_ ?_ ?_ ?_ ?_ l hok a b
  · intro l h; rw [env_run rfl rfl]; exact law66_all_run _ _ (by omega) l h
  · intro s h; rw [env_run rfl rfl]; exact story_Read_run _ _ (by omega) s1 (ev 36) s h
  · intro l h; rw [env_run rfl rfl]; exact slices_Equal_SE_run _ _ (by omega) l h
  · intro l h h2; rw [env_run rfl rfl]; exact story_Text_run _ _ (by omega) (wk 36) (ss 37) (s0 37) (o1 35) (wp 37) l h h2
  · intro l h h2; rw [env_run rfl rfl]; exact ref66_Text_run _ _ (by omega) (o2 16) (wr 37) l h h2
  · intro a b; rw [env_run rfl rfl]; exact story_Compare_run _ _ (m1 36) (m2 36) (m3 37) a b
  · intro a b; rw [env_run rfl rfl]; exact ref66_Less_run _ _ a b
end Go.Am
