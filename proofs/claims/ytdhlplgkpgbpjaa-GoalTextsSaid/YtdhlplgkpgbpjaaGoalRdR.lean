/- Law 59: a text as goals: the document's reading. -/
import Derived.Test.YtdhlplgkpgbpjaaGoalRead
set_option linter.unusedVariables false
set_option linter.unusedSimpArgs false
set_option maxRecDepth 10000
set_option maxHeartbeats 2000000
namespace Go.Am
theorem ref59_Read_loop (Γ : Env) (M : Nat) (hM : 65540 < M) (hG : GuessC (Γ 147)) (hI : IsC (Γ 146)) (ts : List Tk) (hts : ts.length ≤ 65537) (hok : ∀ t ∈ ts, TkOk t) :
    ∃ ax s', grOut (rdL gl [] ts []) ax s' ∧ ∀ t, nrm [3, 4, 6, 7, 8] [3, 6, 7, 37, 59] t = gfS ts 0 .fa [] [] → lp (exec Γ M ref59_Read_l1) M t = some (ax, s') := by
  obtain ⟨R0, hR0⟩ : ∃ R, rdL gl [] ts [] = R := ⟨_, rfl⟩
  rw [hR0]
  refine lp_all (fun q : Nat × Fs × List Tk × List Gl => gfS ts q.1 q.2.1 q.2.2.1 q.2.2.2) (fun q => q.1 ≤ ts.length ∧ q.2.2.1.length ≤ q.1 ∧ q.2.2.2.length ≤ q.1 ∧ (∀ t ∈ q.2.2.1, TkOk t) ∧ rdL gl q.2.2.1 (ts.drop q.1) q.2.2.2 = R0) (fun q => ts.length - q.1) _ (0, .fa, [], []) M (by simp [gfS, lnV, lnO]) ⟨by omega, by simp, by simp, by simp, by simpa using hR0⟩ (by simp only; omega) ?_
  rintro ⟨i, b, cur, out⟩ ⟨hi, hc, ho, hk0, hr⟩
  simp only at hi hc ho hk0 hr ⊢
  by_cases hlt : i < ts.length
  · obtain ⟨t, ht⟩ : ∃ t, ts[i]'hlt = t := ⟨_, rfl⟩
    have htok : TkOk t := hok t (ht ▸ List.getElem_mem hlt)
    rw [List.drop_eq_getElem_cons hlt, ht] at hr
    by_cases hk : t.kd = 3
    · cases cur with
      | nil =>
        rw [rdL_end (cur := []) hk] at hr
        cases b
        · simp -implicitDefEqProofs (disch := first | omega | assumption) [gfS, lnV, lnO, grOut, hlt, ht, hk]
          exact ⟨i + 1, .fb, [], out, by simp [lnV, lnO], ⟨by omega, by simp, by omega, by simp, hr⟩, by omega⟩
        · simp -implicitDefEqProofs (disch := first | omega | assumption) [gfS, lnV, lnO, grOut, hlt, ht, hk]
          exact ⟨i + 1, .fb, [], out, by simp [lnV, lnO], ⟨by omega, by simp, by omega, by simp, hr⟩, by omega⟩
      | cons x r =>
        have hrl : r.length ≤ 65537 := by simp at hc; omega
        have hg := hG (x :: r) (by simp) (by simp; omega)
        obtain ⟨g1, g2, g3⟩ := guess_ok hk0
        have hi2 := hI (x :: r) (gGuess (x :: r)) (by simp) (by simp; omega) g1 g2 g3
        obtain ⟨⟨o, p, m⟩, hG0⟩ : ∃ e, gGuess (x :: r) = e := ⟨_, rfl⟩
        have hgl := gl_some (ts := x :: r) (by simp)
        rw [hG0] at hg hi2 hgl
        simp only [List.map_cons] at hg hi2
        have htk : List.take r.length (List.map Tk.cells r) = List.map Tk.cells r := List.take_of_length_le (by simp)
        by_cases hq : (x :: r).map Tk.tx = lineOf ⟨o, p, m⟩
        · rw [if_pos hq] at hgl
          rw [rdL_some hk (by simp) hgl] at hr
          have hq2 := decide_eq_true hq
          simp only [List.map_cons] at hq2
          rw [hq2] at hi2
          cases b
          · simp -implicitDefEqProofs (disch := first | omega | assumption) [gfS, lnV, lnO, grOut, hlt, ht, hk, htk, hg, hi2]
            exact ⟨i + 1, .fb, [], out ++ [⟨o, p, m⟩], by simp [lnV, lnO], ⟨by omega, by simp, by simp; omega, by simp, hr⟩, by omega⟩
          · simp -implicitDefEqProofs (disch := first | omega | assumption) [gfS, lnV, lnO, grOut, hlt, ht, hk, htk, hg, hi2]
            exact ⟨i + 1, .fb, [], out ++ [⟨o, p, m⟩], by simp [lnV, lnO], ⟨by omega, by simp, by simp; omega, by simp, hr⟩, by omega⟩
        · rw [if_neg hq] at hgl
          rw [rdL_none hk hgl] at hr
          subst hr
          have hq2 := decide_eq_false hq
          simp only [List.map_cons] at hq2
          rw [hq2] at hi2
          cases b
          · simp -implicitDefEqProofs (disch := first | omega | assumption) [gfS, lnV, lnO, grOut, hlt, ht, hk, htk, hg, hi2]
          · simp -implicitDefEqProofs (disch := first | omega | assumption) [gfS, lnV, lnO, grOut, hlt, ht, hk, htk, hg, hi2]
    · rw [rdL_more hk] at hr
      cases cur with
      | nil =>
        cases b
        · simp -implicitDefEqProofs (disch := first | omega | assumption) [gfS, lnV, lnO, grOut, hlt, ht, hk]
          exact ⟨i + 1, .fa, [t], out, by simp [lnV, lnO], ⟨by omega, by simp, by omega, by simpa using htok, hr⟩, by omega⟩
        · simp -implicitDefEqProofs (disch := first | omega | assumption) [gfS, lnV, lnO, grOut, hlt, ht, hk]
          exact ⟨i + 1, .fb, [t], out, by simp [lnV, lnO], ⟨by omega, by simp, by omega, by simpa using htok, hr⟩, by omega⟩
      | cons x r =>
        have hrl : r.length ≤ 65537 := by simp at hc; omega
        have hok2 : ∀ y ∈ x :: (r ++ [t]), TkOk y := fun y hy => by
          simp only [List.mem_cons, List.mem_append, List.not_mem_nil, or_false] at hy
          rcases hy with rfl | hy | rfl
          · exact hk0 _ (by simp)
          · exact hk0 y (by simp [hy])
          · exact htok
        simp only [List.length_cons] at hc
        cases b
        · simp -implicitDefEqProofs (disch := first | omega | assumption) [gfS, lnV, lnO, grOut, hlt, ht, hk]
          exact ⟨i + 1, .fa, x :: (r ++ [t]), out, by simp [lnV, lnO], ⟨by omega, by simp; omega, by omega, hok2, by simpa using hr⟩, by omega⟩
        · simp -implicitDefEqProofs (disch := first | omega | assumption) [gfS, lnV, lnO, grOut, hlt, ht, hk]
          exact ⟨i + 1, .fb, x :: (r ++ [t]), out, by simp [lnV, lnO], ⟨by omega, by simp; omega, by omega, hok2, by simpa using hr⟩, by omega⟩
  · obtain rfl : i = ts.length := by omega
    have he : rdL gl cur (ts.drop ts.length) out = .ok out := by simp [rdL]
    rw [he] at hr
    subst hr
    cases cur <;> cases b <;> simp -implicitDefEqProofs (disch := first | omega | assumption) [gfS, lnV, lnO, grOut]
theorem ref59_Read_run (Γ : Env) (M : Nat) (hM : 65540 < M) (hS : ScanC (Γ 39)) (hG : GuessC (Γ 147)) (hI : IsC (Γ 146)) : GReadC gl (run Γ M ref59_Read_f) := by
  intro s hs
  have e35 := hS s hs
  have hlen := scanR_len s
  have hse := scanR_e s
  have hok := (scanR_ok s hs).1
  obtain ⟨R, hR⟩ : ∃ R, scanR s = R := ⟨_, rfl⟩
  simp only [readR]
  rw [hR] at e35 hlen hse hok ⊢
  by_cases h0 : R.e = 0
  · rw [if_neg (by simp [h0])]
    obtain ⟨ax, s', hO, hin⟩ := ref59_Read_loop Γ M hM hG hI R.ts (by omega) hok
    have hlp := hin (gfS R.ts 0 .fa [] []) (by simp [gfS, lnV, lnO])
    simp [gfS, lnV, lnO] at hlp
    cases hr : rdL gl [] R.ts [] with
    | ok l =>
      rw [hr] at hO
      obtain ⟨rfl, rfl⟩ := hO
      simp -implicitDefEqProofs (disch := first | omega | assumption) [e35, h0, hlp]
      exact List.take_of_length_le (by simp)
    | bad l c =>
      rw [hr] at hO
      obtain ⟨rfl, rfl⟩ := hO
      simp -implicitDefEqProofs (disch := first | omega | assumption) [e35, h0, hlp]
  · rw [if_pos h0]
    have ht : R.ts = [] := by
      rcases hse with h | h
      · exact (h0 h.1).elim
      · exact h.2
    simp -implicitDefEqProofs (disch := first | omega | assumption) [e35, h0, ht]
end Go.Am
