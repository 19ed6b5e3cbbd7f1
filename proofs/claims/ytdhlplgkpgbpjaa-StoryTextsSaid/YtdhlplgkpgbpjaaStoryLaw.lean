/- Law 66: StoryReads. -/
import Derived.Test.YtdhlplgkpgbpjaaStoryRef
import Derived.Test.YtdhlplgkpgbpjaaLexLaw
import Derived.Test.YtdhlplgkpgbpjaaLexRefD
set_option linter.unusedVariables false
set_option linter.unusedSimpArgs false
set_option maxRecDepth 10000
set_option maxHeartbeats 2000000
namespace Go.Am
/-- The same events. -/
def AllC (g : List AV → Option (List AV)) : Prop := ∀ l : List Ev, l.length ≤ 60000 → g [.c (.vs 4 (l.map Ev.cells))] = some [.c (.vs 4 (l.map Ev.cells))]
theorem law66_all_run (Γ : Env) (M : Nat) (hM : 60010 < M) : AllC (run Γ M law66_all_f) := by
  intro l hl
  obtain ⟨ax, s', ⟨rfl, rfl⟩, hin⟩ : ∃ ax s', (ax = .ex 0 ∧ s' = ⟨[(3, .sl 3 l.length 0 l.length)], [(3, ⟨4, l.map (toAV ∘ Ev.cells)⟩)]⟩) ∧ ∀ t, nrm [0, 3, 4] [3, 34] t = ⟨[(0, .c (.vs 4 (l.map Ev.cells))), (3, .sl 3 0 0 0), (4, i64 (0 : Nat))], [(3, ⟨4, (l.take 0).map (toAV ∘ Ev.cells)⟩)]⟩ → lp (exec Γ M law66_all_l1) M t = some (ax, s') := by
    refine lp_all (fun k : Nat => ⟨[(0, .c (.vs 4 (l.map Ev.cells))), (3, .sl 3 k 0 k), (4, i64 k)], [(3, ⟨4, (l.take k).map (toAV ∘ Ev.cells)⟩)]⟩) (fun k => k ≤ l.length) (fun k => l.length - k) _ 0 M (by simp) (by omega) (by omega) ?_
    intro k hk
    by_cases hlt : k < l.length
    · obtain ⟨e, he⟩ : ∃ t, l[k]'hlt = t := ⟨_, rfl⟩
      have htk : l.take (k + 1) = l.take k ++ [e] := by rw [List.take_succ_eq_append_getElem hlt, he]
      have hlk : min k l.length = k := by omega
      simp -implicitDefEqProofs (disch := first | omega | assumption) [hlt, he, hlk]
      exact ⟨k + 1, ⟨by simp, by rw [← List.map_take, ← List.map_take, htk]; simp⟩, by omega, by omega⟩
    · obtain rfl : k = l.length := by omega
      simp -implicitDefEqProofs (disch := first | omega | assumption)
  have hlp := hin ⟨[(0, .c (.vs 4 (l.map Ev.cells))), (3, .sl 3 0 0 0), (4, i64 (0 : Nat))], [(3, ⟨4, (l.take 0).map (toAV ∘ Ev.cells)⟩)]⟩ (by simp)
  simp at hlp
  simp -implicitDefEqProofs (disch := first | omega | assumption) [hlp]
  exact List.take_of_length_le (by simp)
def ESameC (g : List AV → Option (List AV)) : Prop := ∀ l : List Ev, l.length ≤ 60000 → g [.c (.vs 4 (l.map Ev.cells)), .c (.vs 4 (l.map Ev.cells))] = some [bo true]
theorem slices_Equal_E_run (Γ : Env) (M : Nat) (hM : 60010 < M) : ESameC (run Γ M slices_Equal_Sref66_E_ref66_E_f) := by
  intro ts hts
  obtain ⟨ax, s', ⟨rfl, rfl⟩, hin⟩ : ∃ ax s', (ax = .ex 0 ∧ s' = ⟨[], []⟩) ∧ ∀ s0, nrm [0, 1, 12, 13] [] s0 = ⟨[(0, .c (.vs 4 (ts.map Ev.cells))), (1, .c (.vs 4 (ts.map Ev.cells))), (12, i64 ts.length), (13, i64 (0 : Nat))], []⟩ → lp (exec Γ M slices_Equal_Sref66_E_ref66_E_l1) M s0 = some (ax, s') := by
    refine lp_all (fun k : Nat => ⟨[(0, .c (.vs 4 (ts.map Ev.cells))), (1, .c (.vs 4 (ts.map Ev.cells))), (12, i64 ts.length), (13, i64 k)], []⟩) (fun k => k ≤ ts.length) (fun k => ts.length - k) _ 0 M (by simp) (by omega) (by omega) ?_
    intro k hk
    by_cases hlt : k < ts.length
    · simp -implicitDefEqProofs (disch := first | omega | assumption) [hlt]
      exact ⟨k + 1, by simp, by omega, by omega⟩
    · obtain rfl : k = ts.length := by omega
      simp -implicitDefEqProofs (disch := first | omega | assumption)
  have hlp : lp (exec Γ M slices_Equal_Sref66_E_ref66_E_l1) M ⟨[(0, .c (.vs 4 (ts.map Ev.cells))), (1, .c (.vs 4 (ts.map Ev.cells))), (12, .c (.int .i64 ts.length)), (13, .c (.int .i64 0))], []⟩ = some (.ex 0, ⟨[], []⟩) := hin _ (by simp)
  simp -implicitDefEqProofs (disch := first | omega | assumption) [hlp]
theorem readR_len (s : List UInt8) : (readR ev1 s).l.length ≤ s.length + 1 := by
  have hl := scanR_len s
  unfold readR
  split
  · simp
  · split
    · rename_i l h
      have := (rdL_len (P := fun _ => True) (fun _ _ _ => trivial) _ _ _ _ (by simp) h).1
      simp only [List.length_nil] at this
      simp only; omega
    · simp
theorem law66_StoryReads_run {Γ : Env} (M : Nat) (h82 : AllC (Γ 82)) (h83 : ESameC (Γ 83)) (h84 : Γ 84 [] = some [bo true]) (h85 : ReadC (Γ 85)) (h86 : ReadC (Γ 86)) (s : List UInt8) (hs : s.length ≤ maxLen) :
    run Γ M law66_StoryReads_f [st s] = some [bo true] := by
  by_cases hl : 2000 < (s.length : Int)
  · simp -implicitDefEqProofs (disch := omega) [hl]
  have e85 := h85 s (by omega)
  have e86 := h86 s (by omega)
  have hlen := readR_len s
  have e82 := h82 (readR ev1 s).l (by omega)
  have e83 := h83 (readR ev1 s).l (by omega)
  obtain ⟨R, hR⟩ : ∃ R, readR ev1 s = R := ⟨_, rfl⟩
  rw [hR] at e85 e86 e82 e83
  simp -implicitDefEqProofs (disch := first | omega | assumption) [hl, e85, e86, e82, e83, h84]
abbrev storyTab : Tab := (0, law66_StoryReads_f, 1) :: (82, law66_all_f, 1) :: (83, slices_Equal_Sref66_E_ref66_E_f, 2) :: (84, law66_alive_f, 0) :: (85, ref66_Read_f, 1) :: (86, story_Read_f, 1) :: (123, story_event_f, 1) :: (124, ref66_word_f, 1) :: (148, story_word_f, 1) :: (125, story_Text_f, 1) :: (50, digits_Of_f, 1) :: (72, digits_Text_f, 1) :: (80, digits_plain_f, 1) :: (81, nums_Size_f, 1) :: (69, strings_Builder_String_f, 1) :: (79, strings_Builder_WriteString_f, 2) :: (228, strings_Builder_copyCheck_f, 1) :: (39, ref19_Scan_f, 1) :: (67, ref19_number_f, 1) :: (68, ref19_kind_f, 1) :: lexTab
theorem story_alive : env storyTab lexVals noEnv 70000 10 84 [] = some [bo true] := yes_eq (by decide +kernel)
theorem storyReads_law (s : List UInt8) (hs : s.length ≤ maxLen) : env storyTab lexVals noEnv 70000 11 0 [st s] = some [bo true] := by
  have wp (n : Nat) : WordC (env storyTab lexVals noEnv 70000 (n + 1) 148) := fun k => by rw [env_run rfl rfl]; exact story_word_run _ _ k
  have wr (n : Nat) : WordC (env storyTab lexVals noEnv 70000 (n + 1) 124) := fun k => by rw [env_run rfl rfl]; exact ref66_word_run _ _ k
  have ev (n : Nat) : EventC (env storyTab lexVals noEnv 70000 (n + 2) 123) := fun ts h => by rw [env_run rfl rfl]; exact story_event_run _ 69980 (wp n) ts h
  have s1 : ScanC (env storyTab lexVals noEnv 70000 9 35) := fun s h => by rw [env_run rfl rfl]; exact lexer_Scan_run _ _ (by omega) (lex_next 3 rfl rfl rfl rfl rfl rfl rfl rfl) s h
  have s2 : ScanC (env storyTab lexVals noEnv 70000 9 39) := fun s h => by
    rw [env_run rfl rfl]
    refine ref19_Scan_run _ _ (by omega) ?_ ?_ s h
    · intro b; rw [env_run rfl rfl]; exact ref19_kind_run _ _ b
    · intro w h1 h2 h3; rw [env_run rfl rfl]; exact ref19_number_run _ _ (by omega) w h1 h2 h3
  rw [env_run rfl rfl]
  refine law66_StoryReads_run _ ?_ ?_ story_alive ?_ ?_ s hs
  · intro l h; rw [env_run rfl rfl]; exact law66_all_run _ _ (by omega) l h
  · intro l h; rw [env_run rfl rfl]; exact slices_Equal_E_run _ _ (by omega) l h
  · intro s h; rw [env_run rfl rfl]; exact ref66_Read_run _ 69980 (by omega) s2 (wr 8) s h
  · intro s h; rw [env_run rfl rfl]; exact story_Read_run _ _ (by omega) s1 (ev 7) s h
end Go.Am
