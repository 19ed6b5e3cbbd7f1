/- Law 58: ObserveKinds. -/
import Derived.Test.YtfompdbhmbdmeaaObsCode
set_option linter.unusedVariables false
set_option linter.unusedSimpArgs false
set_option maxRecDepth 10000
set_option maxHeartbeats 1000000
namespace Go.Am
def upC : List Trip → Nat
  | [] => 0
  | t :: r => (if t.frm = 0 then 1 else 0) + upC r
def dnC : List Trip → Nat
  | [] => 0
  | t :: r => (if t.frm = 0 then 0 else if t.to = 0 then 1 else 0) + dnC r
def otC : List Trip → Nat
  | [] => 0
  | t :: r => (if t.frm = 0 then 0 else if t.to = 0 then 0 else 1) + otC r
theorem upC_snoc (t : Trip) : ∀ l, upC (l ++ [t]) = upC l + (if t.frm = 0 then 1 else 0)
  | [] => by simp [upC]
  | x :: l => by simp only [List.cons_append, upC, upC_snoc t l]; omega
theorem dnC_snoc (t : Trip) : ∀ l, dnC (l ++ [t]) = dnC l + (if t.frm = 0 then 0 else if t.to = 0 then 1 else 0)
  | [] => by simp [dnC]
  | x :: l => by simp only [List.cons_append, dnC, dnC_snoc t l]; omega
theorem otC_snoc (t : Trip) : ∀ l, otC (l ++ [t]) = otC l + (if t.frm = 0 then 0 else if t.to = 0 then 0 else 1)
  | [] => by simp [otC]
  | x :: l => by simp only [List.cons_append, otC, otC_snoc t l]; omega
theorem cnt_sum : ∀ l : List Trip, upC l + dnC l + otC l = l.length
  | [] => rfl
  | t :: l => by
    have := cnt_sum l
    simp only [upC, dnC, otC, List.length_cons]
    split
    · omega
    · split <;> omega
abbrev tL (l : List Trip) : AV := .c (.vs 7 (l.map Trip.cells))
def wide (l : List Trip) : Int := if (l.length : Int) < 1 then 1 else l.length
def KindC58 (g : List AV → Option (List AV)) : Prop := ∀ l : List Trip, l.length ≤ 100 → g [tL l] = some [i64 (upC l * 1000 / wide l), i64 (dnC l * 1000 / wide l), i64 (otC l * 1000 / wide l)]
theorem observe_Kind_run (Γ : Env) (M : Nat) (hM : 200 < M) : KindC58 (run Γ M observe_Kind_f) := by
  intro l hl
  obtain ⟨ax, s', ⟨rfl, rfl⟩, hin⟩ : ∃ ax s', (ax = .ex 0 ∧ s' = ⟨[(0, tL l), (5, i64 (upC l)), (6, i64 (dnC l)), (7, i64 (otC l))], []⟩) ∧ ∀ t, nrm [0, 5, 6, 7, 11, 12, 13] [] t = ⟨[(0, tL l), (5, i64 (upC (l.take 0))), (6, i64 (dnC (l.take 0))), (7, i64 (otC (l.take 0))), (11, tL l), (12, i64 l.length), (13, i64 (0 : Nat))], []⟩ → lp (exec Γ M observe_Kind_l1) M t = some (ax, s') := by
    refine lp_all (fun k : Nat => ⟨[(0, tL l), (5, i64 (upC (l.take k))), (6, i64 (dnC (l.take k))), (7, i64 (otC (l.take k))), (11, tL l), (12, i64 l.length), (13, i64 k)], []⟩) (fun k => k ≤ l.length) (fun k => l.length - k) _ 0 M (by simp) (by omega) (by omega) ?_
    intro k hk
    by_cases hlt : k < l.length
    · obtain ⟨t, ht⟩ : ∃ t, l[k]'hlt = t := ⟨_, rfl⟩
      have htk : l.take (k + 1) = l.take k ++ [t] := by rw [List.take_succ_eq_append_getElem hlt, ht]
      have hs := cnt_sum (l.take k)
      rw [List.length_take] at hs
      have u1 := upC_snoc t (l.take k)
      have u2 := dnC_snoc t (l.take k)
      have u3 := otC_snoc t (l.take k)
      rw [← htk] at u1 u2 u3
      generalize upC (l.take k) = a at *
      generalize dnC (l.take k) = b at *
      generalize otC (l.take k) = c at *
      by_cases h1 : t.frm = 0
      · simp only [h1, if_true] at u1 u2 u3
        simp -implicitDefEqProofs (disch := first | omega | assumption) [hlt, ht, h1]
        exact ⟨k + 1, by rw [u1, u2, u3]; simp, by omega, by omega⟩
      · simp only [h1, if_false] at u1 u2 u3
        by_cases h2 : t.to = 0
        · simp only [h2, if_true] at u1 u2 u3
          simp -implicitDefEqProofs (disch := first | omega | assumption) [hlt, ht, h1, h2]
          exact ⟨k + 1, by rw [u1, u2, u3]; simp, by omega, by omega⟩
        · simp only [h2, if_false] at u1 u2 u3
          simp -implicitDefEqProofs (disch := first | omega | assumption) [hlt, ht, h1, h2]
          exact ⟨k + 1, by rw [u1, u2, u3]; simp, by omega, by omega⟩
    · obtain rfl : k = l.length := by omega
      simp -implicitDefEqProofs (disch := first | omega | assumption)
  have hlp := hin ⟨[(0, tL l), (5, i64 (upC (l.take 0))), (6, i64 (dnC (l.take 0))), (7, i64 (otC (l.take 0))), (11, tL l), (12, i64 l.length), (13, i64 (0 : Nat))], []⟩ (by simp)
  simp [upC, dnC, otC] at hlp
  have hs := cnt_sum l
  unfold wide
  generalize upC l = a at *
  generalize dnC l = b at *
  generalize otC l = c at *
  by_cases h0 : l.length = 0
  · obtain rfl := List.length_eq_zero_iff.1 h0
    have ha : a = 0 := by simp at hs; omega
    have hb : b = 0 := by simp at hs; omega
    have hc : c = 0 := by simp at hs; omega
    subst ha hb hc
    simp at hlp
    simp -implicitDefEqProofs (disch := first | omega | assumption) [hlp]
  · have h0' : ¬ (l.length : Int) < 1 := by omega
    have q1 : (a : Int) * 1000 / l.length ≤ a * 1000 := Int.ediv_le_self _ (by omega)
    have q2 : (b : Int) * 1000 / l.length ≤ b * 1000 := Int.ediv_le_self _ (by omega)
    have q3 : (c : Int) * 1000 / l.length ≤ c * 1000 := Int.ediv_le_self _ (by omega)
    have p1 : 0 ≤ (a : Int) * 1000 / l.length := Int.ediv_nonneg (by omega) (by omega)
    have p2 : 0 ≤ (b : Int) * 1000 / l.length := Int.ediv_nonneg (by omega) (by omega)
    have p3 : 0 ≤ (c : Int) * 1000 / l.length := Int.ediv_nonneg (by omega) (by omega)
    simp -implicitDefEqProofs (disch := first | omega | assumption) [hlp, h0', h0]
def likeS (l : List Trip) : Int := if l.length = 0 then 0 else if 2 * (upC l + dnC l) < l.length then 4 else if 3 * l.length ≤ 4 * upC l then 1 else if 3 * l.length ≤ 4 * dnC l then 3 else 2
def LikeC (g : List AV → Option (List AV)) : Prop := ∀ l : List Trip, l.length ≤ 100 → g [tL l] = some [i64 (likeS l)]
theorem observe_Like_run (Γ : Env) (M : Nat) (hM : 200 < M) : LikeC (run Γ M observe_Like_f) := by
  intro l hl
  obtain ⟨ax, s', ⟨rfl, rfl⟩, hin⟩ : ∃ ax s', (ax = .ex 0 ∧ s' = ⟨[(0, tL l), (3, i64 (upC l)), (4, i64 (dnC l))], []⟩) ∧ ∀ t, nrm [0, 3, 4, 5, 8, 9, 10] [] t = ⟨[(0, tL l), (3, i64 (upC (l.take 0))), (4, i64 (dnC (l.take 0))), (5, i64 (otC (l.take 0))), (8, tL l), (9, i64 l.length), (10, i64 (0 : Nat))], []⟩ → lp (exec Γ M observe_Like_l1) M t = some (ax, s') := by
    refine lp_all (fun k : Nat => ⟨[(0, tL l), (3, i64 (upC (l.take k))), (4, i64 (dnC (l.take k))), (5, i64 (otC (l.take k))), (8, tL l), (9, i64 l.length), (10, i64 k)], []⟩) (fun k => k ≤ l.length) (fun k => l.length - k) _ 0 M (by simp) (by omega) (by omega) ?_
    intro k hk
    by_cases hlt : k < l.length
    · obtain ⟨t, ht⟩ : ∃ t, l[k]'hlt = t := ⟨_, rfl⟩
      have htk : l.take (k + 1) = l.take k ++ [t] := by rw [List.take_succ_eq_append_getElem hlt, ht]
      have hs := cnt_sum (l.take k)
      rw [List.length_take] at hs
      have u1 := upC_snoc t (l.take k)
      have u2 := dnC_snoc t (l.take k)
      have u3 := otC_snoc t (l.take k)
      rw [← htk] at u1 u2 u3
      generalize upC (l.take k) = a at *
      generalize dnC (l.take k) = b at *
      generalize otC (l.take k) = c at *
      by_cases h1 : t.frm = 0
      · simp only [h1, if_true] at u1 u2 u3
        simp -implicitDefEqProofs (disch := first | omega | assumption) [hlt, ht, h1]
        exact ⟨k + 1, by rw [u1, u2, u3]; simp, by omega, by omega⟩
      · simp only [h1, if_false] at u1 u2 u3
        by_cases h2 : t.to = 0
        · simp only [h2, if_true] at u1 u2 u3
          simp -implicitDefEqProofs (disch := first | omega | assumption) [hlt, ht, h1, h2]
          exact ⟨k + 1, by rw [u1, u2, u3]; simp, by omega, by omega⟩
        · simp only [h2, if_false] at u1 u2 u3
          simp -implicitDefEqProofs (disch := first | omega | assumption) [hlt, ht, h1, h2]
          exact ⟨k + 1, by rw [u1, u2, u3]; simp, by omega, by omega⟩
    · obtain rfl : k = l.length := by omega
      simp -implicitDefEqProofs (disch := first | omega | assumption)
  have hlp := hin ⟨[(0, tL l), (3, i64 (upC (l.take 0))), (4, i64 (dnC (l.take 0))), (5, i64 (otC (l.take 0))), (8, tL l), (9, i64 l.length), (10, i64 (0 : Nat))], []⟩ (by simp)
  simp [upC, dnC, otC] at hlp
  have hs := cnt_sum l
  unfold likeS
  generalize upC l = a at *
  generalize dnC l = b at *
  by_cases h0 : l.length = 0
  · obtain rfl := List.length_eq_zero_iff.1 h0
    simp at hlp
    simp -implicitDefEqProofs (disch := first | omega | assumption) [hlp]
  · have h0' : ¬ (l.length : Int) = 0 := by omega
    by_cases h1 : 2 * (a + b) < l.length
    · have h1' : 2 * ((a : Int) + b) < l.length := by omega
      simp -implicitDefEqProofs (disch := first | omega | assumption) [hlp, h0', h0, h1, h1']
    · have h1' : ¬ 2 * ((a : Int) + b) < l.length := by omega
      by_cases h2 : 3 * l.length ≤ 4 * a
      · have h2' : 3 * (l.length : Int) ≤ 4 * a := by omega
        simp -implicitDefEqProofs (disch := first | omega | assumption) [hlp, h0', h0, h1, h1', h2, h2']
      · have h2' : ¬ 3 * (l.length : Int) ≤ 4 * a := by omega
        by_cases h3 : 3 * l.length ≤ 4 * b
        · have h3' : 3 * (l.length : Int) ≤ 4 * b := by omega
          simp -implicitDefEqProofs (disch := first | omega | assumption) [hlp, h0', h0, h1, h1', h2, h2', h3, h3']
        · have h3' : ¬ 3 * (l.length : Int) ≤ 4 * b := by omega
          simp -implicitDefEqProofs (disch := first | omega | assumption) [hlp, h0', h0, h1, h1', h2, h2', h3, h3']
end Go.Am
