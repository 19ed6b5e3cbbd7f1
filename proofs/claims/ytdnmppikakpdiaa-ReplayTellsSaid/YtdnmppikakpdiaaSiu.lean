/- Law 51: has a log few trips, and few legs that rise. -/
import Derived.Test.YtdnmppikakpdiaaSit
set_option linter.unusedVariables false
set_option linter.unusedSimpArgs false
set_option maxRecDepth 10000
set_option maxHeartbeats 2000000
namespace Go.Am.Si
open Go.Am
def B30 (n : Int) : Prop := -1073741824 ≤ n ∧ n ≤ 1073741824
theorem min3 {a b c x : Int} (h : minL .i64 a [i64 b, i64 c] = some x) (hx : ¬ x < -1073741824) : -1073741824 ≤ a ∧ -1073741824 ≤ b ∧ -1073741824 ≤ c := by
  simp only [minL, if_true, Option.some.injEq] at h; subst h
  split at hx <;> split at hx <;> omega
theorem max3 {a b c x : Int} (h : maxL .i64 a [i64 b, i64 c] = some x) (hx : ¬ 1073741824 < x) : a ≤ 1073741824 ∧ b ≤ 1073741824 ∧ c ≤ 1073741824 := by
  simp only [maxL, if_true, Option.some.injEq] at h; subst h
  split at hx <;> split at hx <;> omega
theorem min2 {a b x : Int} (h : minL .i64 a [i64 b] = some x) (hx : ¬ x < -1073741824) : -1073741824 ≤ a ∧ -1073741824 ≤ b := by
  simp only [minL, if_true, Option.some.injEq] at h; subst h
  split at hx <;> omega
theorem max2 {a b x : Int} (h : maxL .i64 a [i64 b] = some x) (hx : ¬ 1073741824 < x) : a ≤ 1073741824 ∧ b ≤ 1073741824 := by
  simp only [maxL, if_true, Option.some.injEq] at h; subst h
  split at hx <;> omega
def logO (l : Log) : Obj := ⟨3, [toAV l.cells]⟩
def TrI (i : Nat) (t : Trip) : Prop := t.id = i ∧ B30 t.board
theorem few_trips {Γ : Env} {N M : Nat} {l : Log} (hl : l.trips.length ≤ 60) (hM : 100 < M) :
    ∃ ax s', ((ax = .ex 0 ∧ s' = ⟨[(1, .loc 1 0 0)], [(1, logO l)]⟩ ∧ ∀ i (h : i < l.trips.length), TrI i l.trips[i]) ∨ (ax = .ret ∧ s' = ⟨[(2, bo false)], []⟩)) ∧ ∀ s, nrm [1, 3] [1] s = ⟨[(1, .loc 1 0 0), (3, i64 (0 : Nat))], [(1, logO l)]⟩ → lp (exec Γ N law51_few_l3) M s = some (ax, s') := by
  refine lp_all (fun i : Nat => ⟨[(1, .loc 1 0 0), (3, i64 i)], [(1, logO l)]⟩) (fun i => i ≤ l.trips.length ∧ ∀ j (h : j < l.trips.length), j < i → TrI j l.trips[j]) (fun i => l.trips.length - i) _ 0 M (by simp) ⟨by omega, fun j _ h => by omega⟩ (by omega) ?_
  rintro i ⟨hi, hj⟩
  by_cases hlt : i < l.trips.length
  · have hlt' : (i : Int) < l.trips.length := by omega
    obtain ⟨t, ht⟩ : ∃ t, l.trips[i]'hlt = t := ⟨_, rfl⟩
    obtain ⟨x, hx⟩ : ∃ x, minL .i64 t.arrive [i64 t.board, i64 t.alight] = some x := ⟨_, by simp only [minL, if_true]; rfl⟩
    obtain ⟨y, hy⟩ : ∃ y, maxL .i64 t.arrive [i64 t.board, i64 t.alight] = some y := ⟨_, by simp only [maxL, if_true]; rfl⟩
    by_cases c1 : t.id = i
    · by_cases c2 : x < -1073741824
      · simp -implicitDefEqProofs (disch := omega) [-minL, -maxL, logO, hlt', ht, hx, hy, c1, c2]
      by_cases c3 : 1073741824 < y
      · simp -implicitDefEqProofs (disch := omega) [-minL, -maxL, logO, hlt', ht, hx, hy, c1, c2, c3]
      have hT : TrI i t := ⟨c1, (min3 hx c2).2.1, (max3 hy c3).2.1⟩
      simp -implicitDefEqProofs (disch := omega) [-minL, -maxL, logO, hlt', ht, hx, hy, c1, c2, c3]
      refine ⟨i + 1, by omega, ⟨by omega, fun j hj1 hj2 => ?_⟩, by omega⟩
      rcases Nat.lt_or_ge j i with q | q
      · exact hj j hj1 q
      · obtain rfl : j = i := by omega
        rw [ht]; exact hT
    · simp -implicitDefEqProofs (disch := omega) [-minL, -maxL, logO, hlt', ht, hx, hy, c1]
  · obtain rfl : i = l.trips.length := by omega
    simp -implicitDefEqProofs [logO]
    exact fun j h => hj j h h
/-- One leg, and it lies behind the one ahead. -/
def LgI (gs : List Leg) (k : Nat) : Prop := ∀ (h : k < gs.length), LegI gs[k] ∧ ∀ (h0 : 0 < k), gs[k - 1].tick < gs[k].tick
theorem few_legs1 {Γ : Env} {N M : Nat} {l : Log} {i : Nat} {gs : List Leg} (hi : l.legs[i]? = some gs) (hM : 100 < M) :
    ∃ ax s', ((ax = .ex 4 ∧ s' = ⟨[(1, .loc 1 0 0), (5, i64 i)], [(1, logO l)]⟩ ∧ gs.length ≤ 61 ∧ ∀ k, LgI gs k) ∨ (ax = .ret ∧ s' = ⟨[(2, bo false)], []⟩)) ∧ ∀ s, nrm [1, 5, 6] [1] s = ⟨[(1, .loc 1 0 0), (5, i64 i), (6, i64 (0 : Nat))], [(1, logO l)]⟩ → lp (exec Γ N law51_few_l1) M s = some (ax, s') := by
  refine lp_all (fun k : Nat => ⟨[(1, .loc 1 0 0), (5, i64 i), (6, i64 k)], [(1, logO l)]⟩) (fun k => k ≤ gs.length ∧ k ≤ 61 ∧ ∀ j, j < k → LgI gs j) (fun k => 61 - k) _ 0 M (by simp) ⟨by omega, by omega, fun j h => by omega⟩ (by omega) ?_
  rintro k ⟨hk, hk61, hj⟩
  by_cases hlt : k < gs.length
  · have hlt' : (k : Int) < gs.length := by omega
    obtain ⟨g, hg⟩ : ∃ g, gs[k]'hlt = g := ⟨_, rfl⟩
    obtain ⟨x, hx⟩ : ∃ x, minL .i64 g.pos [i64 g.tick] = some x := ⟨_, by simp only [minL, if_true]; rfl⟩
    obtain ⟨y, hy⟩ : ∃ y, maxL .i64 g.pos [i64 g.tick] = some y := ⟨_, by simp only [maxL, if_true]; rfl⟩
    by_cases c1 : 60 < (k : Int)
    · simp -implicitDefEqProofs (disch := omega) [-minL, -maxL, logO, hlt', hi, hg, hx, hy, c1]
    have fin : ¬ x < -1073741824 → ¬ 1073741824 < y → ¬ g.dir < -1 → ¬ 1 < g.dir → (∀ (h0 : 0 < k), (gs[k - 1]'(by omega)).tick < g.tick) → ∃ q' : Nat, (k : Int) + 1 = q' ∧ (q' ≤ gs.length ∧ q' ≤ 61 ∧ ∀ j, j < q' → LgI gs j) ∧ 61 - q' < 61 - k := fun a b c d e =>
      ⟨k + 1, by omega, ⟨by omega, by omega, fun j hjq => by
        rcases Nat.lt_or_ge j k with q | q
        · exact hj j q
        · obtain rfl : j = k := by omega
          intro hjl
          rw [hg]
          have m1 := min2 hx a
          have m2 := max2 hy b
          exact ⟨⟨⟨m1.2, m2.2⟩, ⟨m1.1, m2.1⟩, by omega, by omega⟩, e⟩⟩, by omega⟩
    by_cases c0 : 0 < k
    · obtain ⟨g', hg'⟩ : ∃ g', gs[k - 1]'(by omega) = g' := ⟨_, rfl⟩
      have hk1 : ((k : Int) - 1).toNat = k - 1 := by omega
      by_cases c2 : g.tick ≤ g'.tick
      · simp -implicitDefEqProofs (disch := omega) [-minL, -maxL, logO, hlt', hi, hg, hg', hk1, hx, hy, c0, c1, c2]
      by_cases c3 : x < -1073741824
      · simp -implicitDefEqProofs (disch := omega) [-minL, -maxL, logO, hlt', hi, hg, hg', hk1, hx, hy, c0, c1, c2, c3]
      by_cases c4 : 1073741824 < y
      · simp -implicitDefEqProofs (disch := omega) [-minL, -maxL, logO, hlt', hi, hg, hg', hk1, hx, hy, c0, c1, c2, c3, c4]
      by_cases c5 : g.dir < -1
      · simp -implicitDefEqProofs (disch := omega) [-minL, -maxL, logO, hlt', hi, hg, hg', hk1, hx, hy, c0, c1, c2, c3, c4, c5]
      by_cases c6 : 1 < g.dir
      · simp -implicitDefEqProofs (disch := omega) [-minL, -maxL, logO, hlt', hi, hg, hg', hk1, hx, hy, c0, c1, c2, c3, c4, c5, c6]
      have fin := fin c3 c4 c5 c6 fun _ => by rw [hg']; omega
      simp -implicitDefEqProofs (disch := omega) [-minL, -maxL, logO, hlt', hi, hg, hg', hk1, hx, hy, c0, c1, c2, c3, c4, c5, c6]
      exact fin
    · by_cases c3 : x < -1073741824
      · simp -implicitDefEqProofs (disch := omega) [-minL, -maxL, logO, hlt', hi, hg, hx, hy, c0, c1, c3]
      by_cases c4 : 1073741824 < y
      · simp -implicitDefEqProofs (disch := omega) [-minL, -maxL, logO, hlt', hi, hg, hx, hy, c0, c1, c3, c4]
      by_cases c5 : g.dir < -1
      · simp -implicitDefEqProofs (disch := omega) [-minL, -maxL, logO, hlt', hi, hg, hx, hy, c0, c1, c3, c4, c5]
      by_cases c6 : 1 < g.dir
      · simp -implicitDefEqProofs (disch := omega) [-minL, -maxL, logO, hlt', hi, hg, hx, hy, c0, c1, c3, c4, c5, c6]
      have fin := fin c3 c4 c5 c6 fun h => absurd h c0
      simp -implicitDefEqProofs (disch := omega) [-minL, -maxL, logO, hlt', hi, hg, hx, hy, c0, c1, c3, c4, c5, c6]
      exact fin
  · obtain rfl : k = gs.length := by omega
    simp -implicitDefEqProofs [logO, hi]
    exact ⟨hk61, fun k => (Nat.lt_or_ge k gs.length).elim (hj k) fun h h2 => absurd h2 (by omega)⟩
theorem rise_of {gs : List Leg} (h : ∀ k, LgI gs k) : Rise gs := by
  have h2 : ∀ (i j : Nat) (hj : j < gs.length) (hij : i < j), (gs[i]'(by omega)).tick < gs[j].tick := by
    intro i j
    induction j with
    | zero => intro _ h; omega
    | succ j ih =>
      intro hj hij
      have h3 := (h (j + 1) hj).2 (by omega)
      simp only [Nat.add_sub_cancel] at h3
      rcases Nat.lt_or_ge i j with q | q
      · exact Int.lt_trans (ih (by omega) q) h3
      · obtain rfl : i = j := by omega
        exact h3
  clear h
  induction gs with
  | nil => trivial
  | cons g r ih =>
    refine ⟨fun x hx => ?_, ih fun i j hj hij => ?_⟩
    · obtain ⟨j, hj, rfl⟩ := List.getElem_of_mem hx
      exact h2 0 (j + 1) (by simpa using hj) (by omega)
    · exact h2 (i + 1) (j + 1) (by simpa using hj) (by omega)
theorem way_of {gs : List Leg} (h0 : gs.length ≤ 61) (h : ∀ k, LgI gs k) : WayI gs := ⟨h0, fun g hg => by
  obtain ⟨j, hj, rfl⟩ := List.getElem_of_mem hg
  exact (h j hj).1, rise_of h⟩
theorem few_legs {Γ : Env} {N M : Nat} {l : Log} (hl : l.legs.length ≤ 16) (hN : 100 < N) (hM : 100 < M) :
    ∃ ax s', ((ax = .ex 2 ∧ s' = ⟨[], []⟩ ∧ FewW l.legs) ∨ (ax = .ret ∧ s' = ⟨[(2, bo false)], []⟩)) ∧ ∀ s, nrm [1, 5] [1] s = ⟨[(1, .loc 1 0 0), (5, i64 (0 : Nat))], [(1, logO l)]⟩ → lp (exec Γ N law51_few_l2) M s = some (ax, s') := by
  refine lp_all (fun i : Nat => ⟨[(1, .loc 1 0 0), (5, i64 i)], [(1, logO l)]⟩) (fun i => i ≤ l.legs.length ∧ ∀ j (h : j < l.legs.length), j < i → WayI l.legs[j]) (fun i => l.legs.length - i) _ 0 M (by simp) ⟨by omega, fun j _ h => by omega⟩ (by omega) ?_
  rintro i ⟨hi, hj⟩
  by_cases hlt : i < l.legs.length
  · have hlt' : (i : Int) < l.legs.length := by omega
    obtain ⟨gs, hg⟩ : ∃ gs, l.legs[i]? = some gs := ⟨_, List.getElem?_eq_getElem hlt⟩
    have hg2 : l.legs[i]'hlt = gs := by rw [List.getElem?_eq_getElem hlt] at hg; simpa using hg
    obtain ⟨ax, s', (⟨rfl, rfl, h1, h2⟩ | ⟨rfl, rfl⟩), hin⟩ := few_legs1 (Γ := Γ) (N := N) (M := N) hg (by omega)
    · simp -implicitDefEqProofs (disch := first | omega | (simp [logO] <;> fail) | assumption) [logO, hlt', hin]
      refine ⟨i + 1, by omega, ⟨by omega, fun j hj1 hj2 => ?_⟩, by omega⟩
      rcases Nat.lt_or_ge j i with q | q
      · exact hj j hj1 q
      · obtain rfl : j = i := by omega
        rw [hg2]; exact way_of h1 h2
    · simp -implicitDefEqProofs (disch := first | omega | (simp [logO] <;> fail) | assumption) [logO, hlt', hin]
  · obtain rfl : i = l.legs.length := by omega
    simp -implicitDefEqProofs [logO]
    exact ⟨hl, fun g hg => by obtain ⟨j, hjl, rfl⟩ := List.getElem_of_mem hg; exact hj j hjl hjl⟩
def FewC (g : List AV → Option (List AV)) : Prop := ∀ l : Log, l.Ok → ∃ b, g [.agg l.cells] = some [bo b] ∧ (b = true → FewT l.trips ∧ FewW l.legs)
theorem few_run {Γ : Env} {M : Nat} (hM : 100 < M) : FewC (run Γ M law51_few_f) := by
  intro l h
  have h1 := h.ntrips
  have h2 := h.nlegs
  have hmax := maxLen_eq
  by_cases c1 : 60 < l.trips.length
  · refine ⟨false, ?_, by simp⟩
    simp -implicitDefEqProofs (disch := omega) []
  by_cases c2 : 16 < l.legs.length
  · refine ⟨false, ?_, by simp⟩
    simp -implicitDefEqProofs (disch := omega) []
  obtain ⟨ax, s', (⟨rfl, rfl, a1⟩ | ⟨rfl, rfl⟩), h3⟩ := few_trips (Γ := Γ) (N := M) (M := M) (l := l) (by omega) (by omega)
  · obtain ⟨ax, s', (⟨rfl, rfl, a2⟩ | ⟨rfl, rfl⟩), h4⟩ := few_legs (Γ := Γ) (N := M) (M := M) (l := l) (by omega) (by omega) (by omega)
    · refine ⟨true, ?_, fun _ => ⟨⟨by omega, fun i h => (a1 i h).1, fun t ht => ?_⟩, a2⟩⟩
      · simp -implicitDefEqProofs (disch := first | omega | (simp [logO] <;> fail) | assumption) [h3, h4]
      · obtain ⟨i, hi, rfl⟩ := List.getElem_of_mem ht
        exact (a1 i hi).2
    · refine ⟨false, ?_, by simp⟩
      simp -implicitDefEqProofs (disch := first | omega | (simp [logO] <;> fail) | assumption) [h3, h4]
  · refine ⟨false, ?_, by simp⟩
    simp -implicitDefEqProofs (disch := first | omega | (simp [logO] <;> fail) | assumption) [h3]
end Go.Am.Si
