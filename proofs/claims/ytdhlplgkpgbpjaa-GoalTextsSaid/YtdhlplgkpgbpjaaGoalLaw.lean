/- Law 59: GoalReads. -/
import Derived.Test.YtdhlplgkpgbpjaaGoalRdR
import Derived.Test.YtdhlplgkpgbpjaaLexLaw
import Derived.Test.YtdhlplgkpgbpjaaLexRefD
set_option linter.unusedVariables false
set_option linter.unusedSimpArgs false
set_option maxRecDepth 10000
set_option maxHeartbeats 2000000
namespace Go.Am
def OfC59 (g : List AV → Option (List AV)) : Prop := ∀ e : Gl, g [.agg e.cells] = some [.agg e.cells]
theorem law59_of_run (Γ : Env) (M : Nat) : OfC59 (run Γ M law59_of_f) := by
  intro e
  simp -implicitDefEqProofs (disch := first | omega | assumption)
def GAllC (g : List AV → Option (List AV)) : Prop := ∀ l : List Gl, l.length ≤ 60000 → g [.c (.vs 3 (l.map Gl.cells))] = some [.c (.vs 3 (l.map Gl.cells))]
theorem law59_all_run (Γ : Env) (M : Nat) (hM : 60010 < M) (hO : OfC59 (Γ 99)) : GAllC (run Γ M law59_all_f) := by
  intro l hl
  obtain ⟨ax, s', ⟨rfl, rfl⟩, hin⟩ : ∃ ax s', (ax = .ex 0 ∧ s' = ⟨[(3, .sl 3 l.length 0 l.length)], [(3, ⟨3, l.map (toAV ∘ Gl.cells)⟩)]⟩) ∧ ∀ t, nrm [0, 3, 4] [3, 18] t = ⟨[(0, .c (.vs 3 (l.map Gl.cells))), (3, .sl 3 0 0 0), (4, i64 (0 : Nat))], [(3, ⟨3, (l.take 0).map (toAV ∘ Gl.cells)⟩)]⟩ → lp (exec Γ M law59_all_l1) M t = some (ax, s') := by
    refine lp_all (fun k : Nat => ⟨[(0, .c (.vs 3 (l.map Gl.cells))), (3, .sl 3 k 0 k), (4, i64 k)], [(3, ⟨3, (l.take k).map (toAV ∘ Gl.cells)⟩)]⟩) (fun k => k ≤ l.length) (fun k => l.length - k) _ 0 M (by simp) (by omega) (by omega) ?_
    intro k hk
    by_cases hlt : k < l.length
    · obtain ⟨e, he⟩ : ∃ t, l[k]'hlt = t := ⟨_, rfl⟩
      have htk : l.take (k + 1) = l.take k ++ [e] := by rw [List.take_succ_eq_append_getElem hlt, he]
      have hlk : min k l.length = k := by omega
      have e99 := hO e
      simp -implicitDefEqProofs (disch := first | omega | assumption) [hlt, he, hlk, e99]
      exact ⟨k + 1, ⟨by simp, by rw [← List.map_take, ← List.map_take, htk]; simp⟩, by omega, by omega⟩
    · obtain rfl : k = l.length := by omega
      simp -implicitDefEqProofs (disch := first | omega | assumption)
  have hlp := hin ⟨[(0, .c (.vs 3 (l.map Gl.cells))), (3, .sl 3 0 0 0), (4, i64 (0 : Nat))], [(3, ⟨3, (l.take 0).map (toAV ∘ Gl.cells)⟩)]⟩ (by simp)
  simp at hlp
  simp -implicitDefEqProofs (disch := first | omega | assumption) [hlp]
  exact List.take_of_length_le (by simp)
def GSameC (g : List AV → Option (List AV)) : Prop := ∀ l : List Gl, l.length ≤ 60000 → g [.c (.vs 3 (l.map Gl.cells)), .c (.vs 3 (l.map Gl.cells))] = some [bo true]
theorem slices_Equal_G_run (Γ : Env) (M : Nat) (hM : 60010 < M) : GSameC (run Γ M slices_Equal_Sref59_G_ref59_G_f) := by
  intro ts hts
  obtain ⟨ax, s', ⟨rfl, rfl⟩, hin⟩ : ∃ ax s', (ax = .ex 0 ∧ s' = ⟨[], []⟩) ∧ ∀ s0, nrm [0, 1, 12, 13] [] s0 = ⟨[(0, .c (.vs 3 (ts.map Gl.cells))), (1, .c (.vs 3 (ts.map Gl.cells))), (12, i64 ts.length), (13, i64 (0 : Nat))], []⟩ → lp (exec Γ M slices_Equal_Sref59_G_ref59_G_l1) M s0 = some (ax, s') := by
    refine lp_all (fun k : Nat => ⟨[(0, .c (.vs 3 (ts.map Gl.cells))), (1, .c (.vs 3 (ts.map Gl.cells))), (12, i64 ts.length), (13, i64 k)], []⟩) (fun k => k ≤ ts.length) (fun k => ts.length - k) _ 0 M (by simp) (by omega) (by omega) ?_
    intro k hk
    by_cases hlt : k < ts.length
    · simp -implicitDefEqProofs (disch := first | omega | assumption) [hlt]
      exact ⟨k + 1, by simp, by omega, by omega⟩
    · obtain rfl : k = ts.length := by omega
      simp -implicitDefEqProofs (disch := first | omega | assumption)
  have hlp : lp (exec Γ M slices_Equal_Sref59_G_ref59_G_l1) M ⟨[(0, .c (.vs 3 (ts.map Gl.cells))), (1, .c (.vs 3 (ts.map Gl.cells))), (12, .c (.int .i64 ts.length)), (13, .c (.int .i64 0))], []⟩ = some (.ex 0, ⟨[], []⟩) := hin _ (by simp)
  simp -implicitDefEqProofs (disch := first | omega | assumption) [hlp]
theorem readG_len (ev : List Tk → Option Gl) (s : List UInt8) : (readR ev s).l.length ≤ s.length + 1 := by
  have hl := scanR_len s
  unfold readR
  split
  · simp
  · split
    · rename_i l h
      have := (rdL_len (P := fun _ => True) (fun _ _ _ => trivial) _ _ _ _ (by simp) h).1
      simp only [List.length_nil] at this
      simp only; omega
    · simp
theorem law59_GoalReads_run {Γ : Env} (M : Nat) (h101 : GAllC (Γ 101)) (h104 : GSameC (Γ 104)) (h96 : Γ 96 [] = some [bo true]) (h97 : GReadC gp (Γ 97)) (h105 : GReadC gl (Γ 105)) (s : List UInt8) (hs : s.length ≤ maxLen) :
    run Γ M law59_GoalReads_f [st s] = some [bo true] := by
  by_cases hl : 2000 < (s.length : Int)
  · simp -implicitDefEqProofs (disch := omega) [hl]
  have e97 := h97 s (by omega)
  have e105 := h105 s (by omega)
  rw [← readR_gp_gl s (by omega)] at e105
  have hlen := readG_len gp s
  have e101 := h101 (readR gp s).l (by omega)
  have e104 := h104 (readR gp s).l (by omega)
  obtain ⟨R, hR⟩ : ∃ R, readR gp s = R := ⟨_, rfl⟩
  rw [hR] at e97 e105 e101 e104
  simp -implicitDefEqProofs (disch := first | omega | assumption) [hl, e97, e105, e101, e104, h96]
abbrev goalTab : Tab := (0, law59_GoalReads_f, 1) :: (101, law59_all_f, 1) :: (99, law59_of_f, 1) :: (104, slices_Equal_Sref59_G_ref59_G_f, 2) :: (96, law59_alive_f, 0) :: (97, goal_Read_f, 1) :: (105, ref59_Read_f, 1) :: (145, goal_goal_f, 1) :: (143, goal_word_f, 1) :: (98, goal_Right_f, 1) :: (103, goal_Text_f, 1) :: (144, ref59_Line_f, 1) :: (146, ref59_is_f, 2) :: (147, ref59_guess_f, 1) :: (100, ref59_Right_f, 1) ::
  (6, ref02_Of_f, 1) :: (52, ref02_Text_f, 1) :: (73, ref02_plain_f, 1) :: (74, ref01_Size_f, 1) :: (50, digits_Of_f, 1) :: (72, digits_Text_f, 1) :: (80, digits_plain_f, 1) :: (81, nums_Size_f, 1) :: (69, strings_Builder_String_f, 1) :: (79, strings_Builder_WriteString_f, 2) :: (228, strings_Builder_copyCheck_f, 1) :: (39, ref19_Scan_f, 1) :: (67, ref19_number_f, 1) :: (68, ref19_kind_f, 1) :: lexTab
theorem goal_alive : env goalTab lexVals noEnv 70000 39 96 [] = some [bo true] := yes_eq (by decide +kernel)
theorem goalReads_law (s : List UInt8) (hs : s.length ≤ maxLen) : env goalTab lexVals noEnv 70000 40 0 [st s] = some [bo true] := by
  have p20 : ∀ (k n : Nat), k < 20 → Ref02_plain (k + 1) (env goalTab lexVals noEnv 70000 (n + (k + 1)) 73) := by
    intro k
    induction k with
    | zero => intro n hk m hm; rw [env_run rfl rfl]; exact ref02_plain_run hk (fun h => absurd h (by omega)) m hm
    | succ j ih => intro n hk m hm; rw [show n + (j + 1 + 1) = (n + (j + 1)) + 1 by omega, env_run rfl rfl]; exact ref02_plain_run hk (fun _ => ih n (by omega)) m hm
  have z1 (n : Nat) : Size (env goalTab lexVals noEnv 70000 (n + 1) 74) := fun m hm => by rw [env_run rfl rfl]; exact ref01_Size_run _ m hm
  have t2 (n : Nat) : Of (env goalTab lexVals noEnv 70000 (n + 21) 52) := fun m hm => by rw [env_run rfl rfl]; exact ref02_Text_run (p20 19 n (by omega)) (z1 _) m hm
  have o2 (n : Nat) : Of (env goalTab lexVals noEnv 70000 (n + 22) 6) := fun m hm => by rw [env_run rfl rfl]; exact ref02_Of_run (t2 _) m hm
  have r1 (n : Nat) : RightC (env goalTab lexVals noEnv 70000 (n + 1) 98) := fun o p m => by rw [env_run rfl rfl]; exact goal_Right_run _ _ o p m
  have r2 (n : Nat) : RightC (env goalTab lexVals noEnv 70000 (n + 1) 100) := fun o p m => by rw [env_run rfl rfl]; exact ref59_Right_run _ _ o p m
  have w1 (n : Nat) : GWordC (env goalTab lexVals noEnv 70000 (n + 1) 143) := fun o => by rw [env_run rfl rfl]; exact goal_word_run _ _ o
  have g1 (n : Nat) : GoalC (env goalTab lexVals noEnv 70000 (n + 2) 145) := fun ts h => by rw [env_run rfl rfl]; exact goal_goal_run _ 69980 (w1 _) (r1 _) ts h
  have l1 (n : Nat) : LineC59 (env goalTab lexVals noEnv 70000 (n + 23) 144) := fun e h1 h2 h3 => by rw [env_run rfl rfl]; exact ref59_Line_run _ _ (r2 _) (o2 _) e h1 h2 h3
  have i1 (n : Nat) : IsC (env goalTab lexVals noEnv 70000 (n + 24) 146) := fun ts e h1 h2 h3 h4 h5 => by rw [env_run rfl rfl]; exact ref59_is_run _ 69980 (l1 _) ts e h1 h2 h3 h4 h5
  have u1 (n : Nat) : GuessC (env goalTab lexVals noEnv 70000 (n + 1) 147) := fun ts h1 h2 => by rw [env_run rfl rfl]; exact ref59_guess_run _ _ ts h1 h2
  have s1 : ScanC (env goalTab lexVals noEnv 70000 38 35) := fun s h => by rw [env_run rfl rfl]; exact lexer_Scan_run _ _ (by omega) (lex_next 32 rfl rfl rfl rfl rfl rfl rfl rfl) s h
  have s2 : ScanC (env goalTab lexVals noEnv 70000 38 39) := fun s h => by
    rw [env_run rfl rfl]
    refine ref19_Scan_run _ _ (by omega) ?_ ?_ s h
    · intro b; rw [env_run rfl rfl]; exact ref19_kind_run _ _ b
    · intro w h1 h2 h3; rw [env_run rfl rfl]; exact ref19_number_run _ _ (by omega) w h1 h2 h3
  rw [env_run rfl rfl]
  refine law59_GoalReads_run _ ?_ ?_ goal_alive ?_ ?_ s hs
  · intro l h; rw [env_run rfl rfl]; exact law59_all_run _ _ (by omega) (fun e => by rw [env_run rfl rfl]; exact law59_of_run _ _ e) l h
  · intro l h; rw [env_run rfl rfl]; exact slices_Equal_G_run _ _ (by omega) l h
  · intro s h; rw [env_run rfl rfl]; exact goal_Read_run _ _ (by omega) s1 (g1 36) s h
  · intro s h; rw [env_run rfl rfl]; exact ref59_Read_run _ _ (by omega) s2 (u1 37) (i1 14) s h
end Go.Am
