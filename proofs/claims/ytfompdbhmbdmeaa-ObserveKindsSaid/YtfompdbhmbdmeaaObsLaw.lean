/- Law 58: ObserveKinds, over the functions together. -/
import Derived.Test.YtfompdbhmbdmeaaObs
set_option linter.unusedVariables false
set_option linter.unusedSimpArgs false
set_option maxRecDepth 10000
set_option maxHeartbeats 1000000
namespace Go.Am
theorem law58_ObserveKinds_run {Γ : Env} (M : Nat) (hM : 200 < M) (h12 : LikeC (Γ 12)) (h13 : Γ 13 [] = some [bo true]) (h14 : KindC58 (Γ 14)) (l : List Trip) :
    run Γ M law58_ObserveKinds_f [tL l] = some [bo true] := by
  by_cases hl : 100 < l.length
  · have hl' : (100 : Int) < l.length := by omega
    simp -implicitDefEqProofs (disch := omega) [hl, hl']
  have hl' : ¬ (100 : Int) < l.length := by omega
  have e12 := h12 l (by omega)
  have e14 := h14 l (by omega)
  obtain ⟨ax, s', ⟨rfl, rfl⟩, hin⟩ : ∃ ax s', (ax = .ex 0 ∧ s' = ⟨[(0, tL l), (3, i64 (upC l)), (4, i64 (dnC l))], []⟩) ∧ ∀ t, nrm [0, 3, 4, 5] [] t = ⟨[(0, tL l), (3, i64 (upC (l.take 0))), (4, i64 (dnC (l.take 0))), (5, i64 (0 : Nat))], []⟩ → lp (exec Γ M law58_ObserveKinds_l1) M t = some (ax, s') := by
    refine lp_all (fun k : Nat => ⟨[(0, tL l), (3, i64 (upC (l.take k))), (4, i64 (dnC (l.take k))), (5, i64 k)], []⟩) (fun k => k ≤ l.length) (fun k => l.length - k) _ 0 M (by simp) (by omega) (by omega) ?_
    intro k hk
    by_cases hlt : k < l.length
    · obtain ⟨t, ht⟩ : ∃ t, l[k]'hlt = t := ⟨_, rfl⟩
      have htk : l.take (k + 1) = l.take k ++ [t] := by rw [List.take_succ_eq_append_getElem hlt, ht]
      have hs := cnt_sum (l.take k)
      rw [List.length_take] at hs
      have u1 := upC_snoc t (l.take k)
      have u2 := dnC_snoc t (l.take k)
      rw [← htk] at u1 u2
      generalize upC (l.take k) = a at *
      generalize dnC (l.take k) = b at *
      by_cases h1 : t.frm = 0
      · simp only [h1, if_true] at u1 u2
        simp -implicitDefEqProofs (disch := first | omega | assumption) [hlt, ht, h1]
        exact ⟨k + 1, by rw [u1, u2]; simp, by omega, by omega⟩
      · simp only [h1, if_false] at u1 u2
        by_cases h2 : t.to = 0
        · simp only [h2, if_true] at u1 u2
          simp -implicitDefEqProofs (disch := first | omega | assumption) [hlt, ht, h1, h2]
          exact ⟨k + 1, by rw [u1, u2]; simp, by omega, by omega⟩
        · simp only [h2, if_false] at u1 u2
          simp -implicitDefEqProofs (disch := first | omega | assumption) [hlt, ht, h1, h2]
          exact ⟨k + 1, by rw [u1, u2]; simp, by omega, by omega⟩
    · obtain rfl : k = l.length := by omega
      simp -implicitDefEqProofs (disch := first | omega | assumption)
  have hlp := hin ⟨[(0, tL l), (3, i64 (upC (l.take 0))), (4, i64 (dnC (l.take 0))), (5, i64 (0 : Nat))], []⟩ (by simp)
  simp [upC, dnC] at hlp
  have hs := cnt_sum l
  by_cases h0 : l.length = 0
  · have h0' : (l.length : Int) = 0 := by omega
    have hd := decide_eq_true (List.length_eq_zero_iff.1 h0)
    have hw : wide l = 1 := by unfold wide; rw [if_pos (by omega)]
    have hk : likeS l = 0 := by unfold likeS; rw [if_pos h0]
    rw [hk] at e12
    rw [hw] at e14
    generalize upC l = a at *
    generalize dnC l = b at *
    generalize otC l = c at *
    obtain rfl : a = 0 := by omega
    obtain rfl : b = 0 := by omega
    obtain rfl : c = 0 := by omega
    simp at e14 hlp
    simp -implicitDefEqProofs (disch := first | omega | assumption) [hl, hl', h0', hd, hlp, e12, e14, h13]
  have h0' : ¬ (l.length : Int) = 0 := by omega
  have hne : ¬ l = [] := fun h => h0 (by rw [h]; rfl)
  have hw : wide l = l.length := by unfold wide; rw [if_neg (by omega)]
  rw [hw] at e14
  unfold likeS at e12
  rw [if_neg h0] at e12
  have hce : ∀ x : Int, (1000 : Int) * x = x * 1000 := fun x => Int.mul_comm _ _
  generalize upC l = a at *
  generalize dnC l = b at *
  generalize otC l = c at *
  have q1 : (a : Int) * 1000 / l.length ≤ a * 1000 := Int.ediv_le_self _ (by omega)
  have q2 : (b : Int) * 1000 / l.length ≤ b * 1000 := Int.ediv_le_self _ (by omega)
  have q3 : (c : Int) * 1000 / l.length ≤ c * 1000 := Int.ediv_le_self _ (by omega)
  have p1 : 0 ≤ (a : Int) * 1000 / l.length := Int.ediv_nonneg (by omega) (by omega)
  have p2 : 0 ≤ (b : Int) * 1000 / l.length := Int.ediv_nonneg (by omega) (by omega)
  have p3 : 0 ≤ (c : Int) * 1000 / l.length := Int.ediv_nonneg (by omega) (by omega)
  have m1 := hce a
  have m2 := hce b
  have hsub : (l.length : Int) - a - b = c := by omega
  have m3 := hce c
  by_cases h1 : 2 * (a + b) < l.length
  · have h1' : (a : Int) + a + b + b < l.length := by omega
    rw [if_pos h1] at e12
    simp -implicitDefEqProofs (disch := first | omega | assumption) [hl, hl', hlp, e12, e14, h13, h0', hne, h1', m1, m2, hsub, m3]
  · have h1' : ¬ (a : Int) + a + b + b < l.length := by omega
    rw [if_neg h1] at e12
    by_cases h2 : 3 * l.length ≤ 4 * a
    · have h2' : 3 * (l.length : Int) ≤ 4 * a := by omega
      rw [if_pos h2] at e12
      simp -implicitDefEqProofs (disch := first | omega | assumption) [hl, hl', hlp, e12, e14, h13, h0', hne, h1', h2', m1, m2, hsub, m3]
    · have h2' : ¬ 3 * (l.length : Int) ≤ 4 * a := by omega
      rw [if_neg h2] at e12
      by_cases h3 : 3 * l.length ≤ 4 * b
      · have h3' : 3 * (l.length : Int) ≤ 4 * b := by omega
        rw [if_pos h3] at e12
        simp -implicitDefEqProofs (disch := first | omega | assumption) [hl, hl', hlp, e12, e14, h13, h0', hne, h1', h2', h3', m1, m2, hsub, m3]
      · have h3' : ¬ 3 * (l.length : Int) ≤ 4 * b := by omega
        rw [if_neg h3] at e12
        simp -implicitDefEqProofs (disch := first | omega | assumption) [hl, hl', hlp, e12, e14, h13, h0', hne, h1', h2', h3', m1, m2, hsub, m3]
def yes8 : Option (List AV) → Bool
  | some [.c (.bool b)] => b
  | _ => false
theorem yes8_eq {o : Option (List AV)} (h : yes8 o = true) : o = some [bo true] := by
  unfold yes8 at h
  split at h
  · subst h; rfl
  · simp at h
abbrev obsTab : Tab := [(0, law58_ObserveKinds_f, 1), (12, observe_Like_f, 1), (13, law58_alive_f, 0), (14, observe_Kind_f, 1), (59, observe_At_f, 3), (76, observe_Stops_f, 1)]
abbrev noVals8 : List (Nat × Nat) := []
theorem obs_alive : env obsTab noVals8 noEnv 1000 9 13 [] = some [bo true] := yes8_eq (by decide +kernel)
theorem obs_law (l : List Trip) : env obsTab noVals8 noEnv 1000 10 0 [tL l] = some [bo true] := by
  rw [env_run rfl rfl]
  refine law58_ObserveKinds_run _ (by omega) ?_ obs_alive ?_ l
  · intro l h; rw [env_run rfl rfl]; exact observe_Like_run _ _ (by omega) l h
  · intro l h; rw [env_run rfl rfl]; exact observe_Kind_run _ _ (by omega) l h
end Go.Am
