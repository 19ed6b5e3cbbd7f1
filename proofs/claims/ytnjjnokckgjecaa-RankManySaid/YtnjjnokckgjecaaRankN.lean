/- Law 15: RankMany, over the functions together. -/
import Derived.Test.YtnjjnokckgjecaaRankM
set_option linter.unusedVariables false
set_option linter.unusedSimpArgs false
set_option maxRecDepth 10000
set_option maxHeartbeats 4000000
namespace Go.Am
theorem fmin_le (l : List Int) (x : Int) : l.foldl min x ≤ x ∧ (∀ y ∈ l, l.foldl min x ≤ y) ∧ (l.foldl min x = x ∨ l.foldl min x ∈ l) := by
  induction l generalizing x with
  | nil => simp
  | cons y l ih =>
    obtain ⟨h1, h2, h3⟩ := ih (min x y)
    simp only [List.foldl_cons, List.mem_cons]
    refine ⟨by omega, fun z hz => ?_, ?_⟩
    · rcases hz with rfl | hz
      · omega
      · exact h2 z hz
    · rcases h3 with h3 | h3
      · omega
      · exact .inr (.inr h3)
theorem fmax_ge (l : List Int) (x : Int) : x ≤ l.foldl max x ∧ (∀ y ∈ l, y ≤ l.foldl max x) ∧ (l.foldl max x = x ∨ l.foldl max x ∈ l) := by
  induction l generalizing x with
  | nil => simp
  | cons y l ih =>
    obtain ⟨h1, h2, h3⟩ := ih (max x y)
    simp only [List.foldl_cons, List.mem_cons]
    refine ⟨by omega, fun z hz => ?_, ?_⟩
    · rcases hz with rfl | hz
      · omega
      · exact h2 z hz
    · rcases h3 with h3 | h3
      · omega
      · exact .inr (.inr h3)
theorem minI_spec {l : List Int} (hl : l ≠ []) : minI l ∈ l ∧ ∀ y ∈ l, minI l ≤ y := by
  cases l with
  | nil => exact (hl rfl).elim
  | cons x l =>
    obtain ⟨h1, h2, h3⟩ := fmin_le l x
    simp only [minI, List.mem_cons]
    exact ⟨h3, fun y hy => by
      rcases hy with rfl | hy
      · exact h1
      · exact h2 y hy⟩
theorem maxI_spec {l : List Int} (hl : l ≠ []) : maxI l ∈ l ∧ ∀ y ∈ l, y ≤ maxI l := by
  cases l with
  | nil => exact (hl rfl).elim
  | cons x l =>
    obtain ⟨h1, h2, h3⟩ := fmax_ge l x
    simp only [maxI, List.mem_cons]
    exact ⟨h3, fun y hy => by
      rcases hy with rfl | hy
      · exact h1
      · exact h2 y hy⟩
def EndsC (g : List AV → Option (List AV)) : Prop := ∀ l : List Int, l.length ≤ 60000 → g [vI l] = some (if l = [] then [i64 0, i64 0, bo false] else [i64 (minI l), i64 (maxI l), bo true])
theorem rank_Ends_run (Γ : Env) (M : Nat) (h297 : MinC (Γ 297)) (h298 : MaxC (Γ 298)) : EndsC (run Γ M rank_Ends_f) := by
  intro l hl
  by_cases h : l = []
  · have hz : l.length = 0 := by rw [h]; rfl
    simp -implicitDefEqProofs (disch := first | omega | assumption) [hz, h]
  · have hz : ¬ l.length = 0 := fun h0 => h (List.eq_nil_of_length_eq_zero h0)
    have e1 := h297 l h hl
    have e2 := h298 l h hl
    simp -implicitDefEqProofs (disch := first | omega | assumption) [hz, h, e1, e2]
def badB (ps l : List Int) : Bool := ps.any fun p => decide (p < 1) || decide (100 < p) || decide (l.length = 0)
theorem badB_good {ps l : List Int} : badB ps l = false ↔ goodP ps l := by
  unfold badB goodP
  rw [List.any_eq_false]
  constructor
  · intro h p hp
    have := h p hp
    simp only [Bool.or_eq_true, decide_eq_true_eq, not_or] at this
    exact ⟨by omega, by omega, fun h0 => this.2 (by rw [h0]; rfl)⟩
  · intro h p hp
    obtain ⟨h1, h2, h3⟩ := h p hp
    have : ¬ l.length = 0 := fun h0 => h3 (List.eq_nil_of_length_eq_zero h0)
    simp only [Bool.or_eq_true, decide_eq_true_eq, not_or]
    exact ⟨⟨by omega, by omega⟩, this⟩
/-- Is one of the percentiles none? -/
theorem many_bad (Γ : Env) (M : Nat) (hM : 100 < M) (ps l F : List Int) (e low high : Int) (some_ : Bool) (hps : ps.length ≤ 60) :
    ∀ s0, nrm [0, 1, 5, 6, 7, 8, 9, 10, 11] [] s0 = ⟨[(0, vI ps), (1, vI l), (5, vI F), (6, i64 e), (7, i64 low), (8, i64 high), (9, bo some_), (10, bo false), (11, i64 (0 : Nat))], []⟩ →
      lp (exec Γ M law15_RankMany_l3) M s0 = some (.ex 0, ⟨[(0, vI ps), (1, vI l), (5, vI F), (6, i64 e), (7, i64 low), (8, i64 high), (9, bo some_), (10, bo (badB ps l))], []⟩) := by
  obtain ⟨ax, s', ⟨rfl, rfl⟩, hin⟩ : ∃ ax s', (ax = .ex 0 ∧ s' = ⟨[(0, vI ps), (1, vI l), (5, vI F), (6, i64 e), (7, i64 low), (8, i64 high), (9, bo some_), (10, bo (badB ps l))], []⟩) ∧ ∀ s0, nrm [0, 1, 5, 6, 7, 8, 9, 10, 11] [] s0 = ⟨[(0, vI ps), (1, vI l), (5, vI F), (6, i64 e), (7, i64 low), (8, i64 high), (9, bo some_), (10, bo false), (11, i64 (0 : Nat))], []⟩ → lp (exec Γ M law15_RankMany_l3) M s0 = some (ax, s') := by
    refine lp_all (fun q : Bool × Nat => ⟨[(0, vI ps), (1, vI l), (5, vI F), (6, i64 e), (7, i64 low), (8, i64 high), (9, bo some_), (10, bo q.1), (11, i64 q.2)], []⟩) (fun q => q.2 ≤ ps.length ∧ q.1 = badB (ps.take q.2) l) (fun q => ps.length - q.2) _ (false, 0) M (by simp) ⟨by simp, by simp [badB]⟩ (by dsimp only; omega) ?_
    rintro ⟨b, k⟩ ⟨h1, h2⟩
    dsimp only at h1 h2 ⊢
    by_cases hlt : k < ps.length
    · obtain ⟨z, hz⟩ : ∃ z, ps[k]'hlt = z := ⟨_, rfl⟩
      have hs : badB (ps.take (k + 1)) l = (b || (decide (z < 1) || decide (100 < z) || decide (l.length = 0))) := by
        rw [List.take_succ_eq_append_getElem hlt, hz, h2]
        simp only [badB, List.any_append, List.any_cons, List.any_nil, Bool.or_false]
      cases b with
      | true =>
        simp -implicitDefEqProofs (disch := first | omega | assumption) [hlt, hz, intD]
        exact ⟨k + 1, by omega, ⟨by omega, by rw [hs]; simp⟩, by omega⟩
      | false =>
        by_cases c1 : z < 1
        · simp -implicitDefEqProofs (disch := first | omega | assumption) [hlt, hz, intD, c1]
          exact ⟨k + 1, by omega, ⟨by omega, by rw [hs]; simp [c1]⟩, by omega⟩
        by_cases c2 : 100 < z
        · simp -implicitDefEqProofs (disch := first | omega | assumption) [hlt, hz, intD, c1, c2]
          exact ⟨k + 1, by omega, ⟨by omega, by rw [hs]; simp [c2]⟩, by omega⟩
        by_cases c3 : l.length = 0
        · have hl0 := List.eq_nil_of_length_eq_zero c3
          simp -implicitDefEqProofs (disch := first | omega | assumption) [hlt, hz, intD, c1, c2, c3]
          exact ⟨k + 1, by omega, ⟨by omega, by rw [hs]; simp [c1, c2, c3]⟩, by omega⟩
        · simp -implicitDefEqProofs (disch := first | omega | assumption) [hlt, hz, intD, c1, c2, c3]
          exact ⟨k + 1, by omega, ⟨by omega, by rw [hs]; simp [c1, c2, c3]⟩, by omega⟩
    · obtain rfl : k = ps.length := by omega
      rw [List.take_length] at h2
      subst h2
      simp -implicitDefEqProofs (disch := first | omega | assumption)
  exact hin
/-- Is the greater one never the less? -/
theorem many_in (Γ : Env) (M : Nat) (hM : 100 < M) (ps l F : List Int) (low high : Int) (i : Nat) (hps : ps.length ≤ 60) (hi : i < ps.length) (hF : F.length = ps.length)
    (hmono : ∀ (k : Nat) (hk : k < ps.length), ps[k] ≤ ps[i] → F[k]'(by omega) ≤ F[i]'(by omega)) :
    ∀ s0, nrm [0, 1, 5, 7, 8, 12, 15] [] s0 = ⟨[(0, vI ps), (1, vI l), (5, vI F), (7, i64 low), (8, i64 high), (12, i64 i), (15, i64 (0 : Nat))], []⟩ →
      lp (exec Γ M law15_RankMany_l1) M s0 = some (.ex 4, ⟨[(0, vI ps), (1, vI l), (5, vI F), (7, i64 low), (8, i64 high), (12, i64 i)], []⟩) := by
  obtain ⟨ax, s', ⟨rfl, rfl⟩, hin⟩ : ∃ ax s', (ax = .ex 4 ∧ s' = ⟨[(0, vI ps), (1, vI l), (5, vI F), (7, i64 low), (8, i64 high), (12, i64 i)], []⟩) ∧ ∀ s0, nrm [0, 1, 5, 7, 8, 12, 15] [] s0 = ⟨[(0, vI ps), (1, vI l), (5, vI F), (7, i64 low), (8, i64 high), (12, i64 i), (15, i64 (0 : Nat))], []⟩ → lp (exec Γ M law15_RankMany_l1) M s0 = some (ax, s') := by
    refine lp_all (fun q : Nat => ⟨[(0, vI ps), (1, vI l), (5, vI F), (7, i64 low), (8, i64 high), (12, i64 i), (15, i64 q)], []⟩) (fun q => q ≤ ps.length) (fun q => ps.length - q) _ 0 M (by simp) (by omega) (by omega) ?_
    intro k hk
    obtain ⟨y, hy⟩ : ∃ y, ps[i]'hi = y := ⟨_, rfl⟩
    obtain ⟨fy, hfy⟩ : ∃ y, F[i]'(by omega) = y := ⟨_, rfl⟩
    have hiF : i < F.length := by omega
    by_cases hlt : k < ps.length
    · obtain ⟨z, hz⟩ : ∃ z, ps[k]'hlt = z := ⟨_, rfl⟩
      obtain ⟨fz, hfz⟩ : ∃ z, F[k]'(by omega) = z := ⟨_, rfl⟩
      have hkF : k < F.length := by omega
      have hm := hmono k hlt
      rw [hy, hz, hfy, hfz] at hm
      by_cases c : z ≤ y
      · have hn : ¬ fy < fz := by have := hm c; omega
        simp -implicitDefEqProofs (disch := first | omega | assumption) [hlt, hz, hy, hfz, hfy, intD, c, hn, hi, hiF, hkF]
        exact ⟨k + 1, by omega, by omega, by omega⟩
      · have c' : y < z := by omega
        simp -implicitDefEqProofs (disch := first | omega | assumption) [hlt, hz, hy, hfz, hfy, intD, c, hi]
        exact ⟨k + 1, by omega, by omega, by omega⟩
    · obtain rfl : k = ps.length := by omega
      simp -implicitDefEqProofs (disch := first | omega | assumption)
  exact hin
theorem many_out (Γ : Env) (M : Nat) (hM : 100 < M) (h252 : OfC15 (Γ 252)) (ps l F : List Int) (low high : Int) (hI : AllI ps) (hl : l.length ≤ 60000) (hps : ps.length ≤ 60) (hF : F.length = ps.length)
    (hFg : ∀ (k : Nat) (h : k < ps.length), F[k]'(by omega) = ofP ps[k] l) (hg : goodP ps l) (hlo : ps ≠ [] → ∀ x ∈ l, low ≤ x ∧ x ≤ high) :
    ∀ s0, nrm [0, 1, 5, 7, 8, 12] [] s0 = ⟨[(0, vI ps), (1, vI l), (5, vI F), (7, i64 low), (8, i64 high), (12, i64 (0 : Nat))], []⟩ →
      lp (exec Γ M law15_RankMany_l2) M s0 = some (.ex 2, ⟨[], []⟩) := by
  obtain ⟨ax, s', ⟨rfl, rfl⟩, hin⟩ : ∃ ax s', (ax = .ex 2 ∧ s' = ⟨[], []⟩) ∧ ∀ s0, nrm [0, 1, 5, 7, 8, 12] [] s0 = ⟨[(0, vI ps), (1, vI l), (5, vI F), (7, i64 low), (8, i64 high), (12, i64 (0 : Nat))], []⟩ → lp (exec Γ M law15_RankMany_l2) M s0 = some (ax, s') := by
    refine lp_all (fun q : Nat => ⟨[(0, vI ps), (1, vI l), (5, vI F), (7, i64 low), (8, i64 high), (12, i64 q)], []⟩) (fun q => q ≤ ps.length) (fun q => ps.length - q) _ 0 M (by simp) (by omega) (by omega) ?_
    intro k hk
    by_cases hlt : k < ps.length
    · have hlp := many_in Γ M hM ps l F low high k hps hlt hF (fun j hj hle => by
        obtain ⟨a1, a2, a3⟩ := hg _ (List.getElem_mem hj)
        obtain ⟨b1, b2, b3⟩ := hg _ (List.getElem_mem hlt)
        rw [hFg j hj, hFg k hlt]
        exact ofP_mono ⟨a1, a2⟩ ⟨b1, b2⟩ a3 hle)
      obtain ⟨z, hz⟩ : ∃ z, ps[k]'hlt = z := ⟨_, rfl⟩
      have hfk := hFg k hlt
      have hzm : z ∈ ps := by rw [← hz]; exact List.getElem_mem hlt
      have hzI : InI64 z := hI z hzm
      have e := h252 z l hzI hl
      obtain ⟨b1, b2, b3⟩ := hg z hzm
      rw [if_pos ⟨b1, b2, b3⟩] at e
      have hmem := ofP_mem ⟨b1, b2⟩ b3
      rw [hz] at hfk
      generalize ofP z l = fz at *
      obtain ⟨q1, q2⟩ := hlo (fun h => by rw [h] at hzm; simp at hzm) fz hmem
      have n1 : ¬ fz < low := by omega
      have n2 : ¬ high < fz := by omega
      have hkF : k < F.length := by omega
      simp -implicitDefEqProofs (disch := first | omega | (simp <;> fail) | assumption) [hlt, hz, hfk, intD, e, n1, n2, hkF, hlp]
      exact ⟨k + 1, by omega, by omega, by omega⟩
    · obtain rfl : k = ps.length := by omega
      simp -implicitDefEqProofs (disch := first | omega | assumption)
  exact hin
theorem law15_RankMany_run {Γ : Env} (M : Nat) (hM : 100 < M) (h252 : OfC15 (Γ 252)) (h259 : ManyC (Γ 259)) (h258 : EndsC (Γ 258)) (h250 : CountC (Γ 250)) (h247 : Γ 247 [] = some [bo true]) (ps l : List Int) (hIp : AllI ps) (hIl : AllI l) : run Γ M law15_RankMany_f [vI ps, vI l] = some [bo true] := by
  by_cases hp : 50 < ps.length
  · have hp' : 50 < (ps.length : Int) := by omega
    simp -implicitDefEqProofs (disch := first | omega | assumption) [hp, hp']
  have hp' : ¬ 50 < (ps.length : Int) := by omega
  by_cases hl : 100 < l.length
  · have hl' : 100 < (l.length : Int) := by omega
    simp -implicitDefEqProofs (disch := first | omega | assumption) [hp, hp', hl, hl']
  have hl' : ¬ 100 < (l.length : Int) := by omega
  have e1 := h258 l (by omega)
  by_cases h0 : l = []
  · rw [if_pos h0] at e1
    have hz : l.length = 0 := by rw [h0]; rfl
    rcases h259 ps l hIp (by omega) (by omega) with ⟨hg, e2⟩ | ⟨hg, e2⟩
    · have hps : ps = [] := by
        cases ps with
        | nil => rfl
        | cons p r => exact ((hg p (by simp)).2.2 h0).elim
      have hz2 : ps.length = 0 := by rw [hps]; rfl
      obtain ⟨F, hF⟩ : ∃ F, ps.map (ofP · l) = F := ⟨_, rfl⟩
      have hFl : F.length = ps.length := by rw [← hF]; simp
      have hFl0 : F.length = 0 := by omega
      have hFg : ∀ (k : Nat) (h : k < ps.length), F[k]'(by omega) = ofP ps[k] l := fun k h => by simp [← hF]
      rw [hF] at e2
      have hlp := many_bad Γ M hM ps l F 0 0 0 false (by omega)
      have hlp2 := many_out Γ M hM h252 ps l F 0 0 hIp (by omega) (by omega) hFl hFg hg (fun h => (h hps).elim)
      have hb : badB ps l = false := badB_good.2 hg
      simp -implicitDefEqProofs (disch := first | omega | (simp <;> fail) | assumption) [hp, hp', hl, hl', hz, hz2, hFl0, e1, e2, hlp, hlp2, hb, h247]
    · have hlp := many_bad Γ M hM ps l [] 22 0 0 false (by omega)
      have hb : badB ps l = true := by
        cases h : badB ps l with
        | true => rfl
        | false => exact (hg (badB_good.1 h)).elim
      simp -implicitDefEqProofs (disch := first | omega | (simp <;> fail) | assumption) [hp, hp', hl, hl', hz, e1, e2, hlp, hb, h247]
  · rw [if_neg h0] at e1
    have hz : ¬ l.length = 0 := fun h => h0 (List.eq_nil_of_length_eq_zero h)
    have hz' : 0 < (l.length : Int) := by omega
    have hmin := minI_spec h0
    have hmax := maxI_spec h0
    have hIlo : InI64 (minI l) := hIl _ hmin.1
    have hIhi : InI64 (maxI l) := hIl _ hmax.1
    generalize minI l = low at *
    generalize maxI l = high at *
    obtain ⟨g1, g2⟩ := hIlo
    have e3 := h250 high l (by omega)
    rw [cnt_all hmax.2] at e3
    have hlen : (l.length : Int) = (l.length : Int) := rfl
    by_cases clo : -9223372036854775808 < low
    · have e4 := h250 (low - 1) l (by omega)
      rw [cnt_none (fun x hx => by have := hmin.2 x hx; omega)] at e4
      rcases h259 ps l hIp (by omega) (by omega) with ⟨hg, e2⟩ | ⟨hg, e2⟩
      · obtain ⟨F, hF⟩ : ∃ F, ps.map (ofP · l) = F := ⟨_, rfl⟩
        have hFl : F.length = ps.length := by rw [← hF]; simp
        have hFg : ∀ (k : Nat) (h : k < ps.length), F[k]'(by omega) = ofP ps[k] l := fun k h => by simp [← hF]
        rw [hF] at e2
        have hlp := many_bad Γ M hM ps l F 0 low high true (by omega)
        have hlp2 := many_out Γ M hM h252 ps l F low high hIp (by omega) (by omega) hFl hFg hg (fun _ x hx => ⟨hmin.2 x hx, hmax.2 x hx⟩)
        have hb : badB ps l = false := badB_good.2 hg
        simp -implicitDefEqProofs (disch := first | omega | (simp <;> fail) | assumption) [hp, hp', hl, hl', hz, hz', e1, e2, e3, e4, hlp, hlp2, hb, h247, hFl]
      · have hlp := many_bad Γ M hM ps l [] 22 low high true (by omega)
        have hb : badB ps l = true := by
          cases h : badB ps l with
          | true => rfl
          | false => exact (hg (badB_good.1 h)).elim
        simp -implicitDefEqProofs (disch := first | omega | (simp <;> fail) | assumption) [hp, hp', hl, hl', hz, hz', e1, e2, e3, e4, hlp, hb, h247]
    · obtain rfl : low = -9223372036854775808 := by omega
      have hw : wrapK .i64 (-9223372036854775809) = 9223372036854775807 := by decide
      have e4 := h250 9223372036854775807 l (by omega)
      rw [cnt_all (fun x hx => (hIl x hx).2)] at e4
      rcases h259 ps l hIp (by omega) (by omega) with ⟨hg, e2⟩ | ⟨hg, e2⟩
      · obtain ⟨F, hF⟩ : ∃ F, ps.map (ofP · l) = F := ⟨_, rfl⟩
        have hFl : F.length = ps.length := by rw [← hF]; simp
        have hFg : ∀ (k : Nat) (h : k < ps.length), F[k]'(by omega) = ofP ps[k] l := fun k h => by simp [← hF]
        rw [hF] at e2
        have hlp := many_bad Γ M hM ps l F 0 (-9223372036854775808) high true (by omega)
        have hlp2 := many_out Γ M hM h252 ps l F (-9223372036854775808) high hIp (by omega) (by omega) hFl hFg hg (fun _ x hx => ⟨hmin.2 x hx, hmax.2 x hx⟩)
        have hb : badB ps l = false := badB_good.2 hg
        simp -implicitDefEqProofs (disch := first | omega | (simp <;> fail) | assumption) [hp, hp', hl, hl', hz, hz', e1, e2, e3, e4, hw, hlp, hlp2, hb, h247, hFl]
      · have hlp := many_bad Γ M hM ps l [] 22 (-9223372036854775808) high true (by omega)
        have hb : badB ps l = true := by
          cases h : badB ps l with
          | true => rfl
          | false => exact (hg (badB_good.1 h)).elim
        simp -implicitDefEqProofs (disch := first | omega | (simp <;> fail) | assumption) [hp, hp', hl, hl', hz, hz', e1, e2, e3, e4, hw, hlp, hb, h247]
abbrev manyTab15 : Tab := (0, law15_RankMany_f, 2) :: (297, slices_Min_Sint_int_f, 1) :: (298, slices_Max_Sint_int_f, 1) :: (258, rank_Ends_f, 1) :: (259, rank_Many_f, 2) :: rankTab
theorem rankM_alive : env manyTab15 [] srtEnv 70000 7 247 [] = some [bo true] := isYes_eq (by decide +kernel)
theorem rank_OfM (n : Nat) : OfC15 (env manyTab15 [] srtEnv 70000 (n + 2) 252) := fun p l hp hl => by
  rw [env_run rfl rfl]
  refine rank_Of_run _ _ ?_ ?_ (env_sort rfl) p l hp hl
  · intro p m hp hm; rw [env_run rfl rfl]; exact rank_Place_run _ _ p m hp hm
  · intro l k h1 h2
    rw [env_runP rfl (by decide +kernel)]; exact clone_run _ _ l k h1 h2
theorem rankMany_law (ps l : List Int) (hp : AllI ps) (hl : AllI l) : env manyTab15 [] srtEnv 70000 8 0 [vI ps, vI l] = some [bo true] := by
  rw [env_run rfl rfl]
  refine law15_RankMany_run _ (by omega) (rank_OfM _) ?_ ?_ ?_ rankM_alive ps l hp hl
  · intro ps l hI h1 h2; rw [env_run rfl rfl]; exact rank_Many_run _ _ (by omega) (rank_OfM _) ps l hI h1 h2
  · intro l h; rw [env_run rfl rfl]
    refine rank_Ends_run _ 70000 ?_ ?_ l h
    · intro l h1 h2; rw [env_run rfl rfl]; exact min_run _ _ (by omega) l h1 h2
    · intro l h1 h2; rw [env_run rfl rfl]; exact max_run _ _ (by omega) l h1 h2
  · intro n l hl; rw [env_run rfl rfl]; exact law15_below_run _ _ (by omega) n l hl
end Go.Am
