/- Law 48: where a car is behind a tick: found by halving, and by looking at all legs. -/
import Derived.Test.YtmepibdbnbmapaaAxV
set_option linter.unusedVariables false
set_option linter.unusedSimpArgs false
set_option maxRecDepth 10000
set_option maxHeartbeats 2000000
namespace Go.Am
theorem rise_lt : ∀ {l : List Leg}, Rise l → ∀ (i j : Nat) (hi : i < l.length) (hj : j < l.length), i < j → (l[i]'hi).tick < (l[j]'hj).tick
  | [], _, i, j, hi, _, _ => by simp at hi
  | g :: r, h, 0, j + 1, hi, hj, _ => by
    simp only [List.getElem_cons_zero, List.getElem_cons_succ]
    exact h.1 _ (List.getElem_mem _)
  | g :: r, h, i + 1, j + 1, hi, hj, hij => by
    simp only [List.getElem_cons_succ]
    exact rise_lt h.2 i j _ _ (by omega)
/-- So many legs have begun. -/
def Cut (t : Int) (l : List Leg) (c : Nat) : Prop := c ≤ l.length ∧ (∀ (i : Nat) (hi : i < l.length), i < c → (l[i]'hi).tick ≤ t) ∧ ∀ (i : Nat) (hi : i < l.length), c ≤ i → t < (l[i]'hi).tick
theorem cut_last {t : Int} {l : List Leg} {c : Nat} (h : Cut t l c) : lastLe t none l = if c = 0 then none else l[c - 1]? := by
  obtain ⟨h1, h2, h3⟩ := h
  have hl : l = l.take c ++ l.drop c := (List.take_append_drop c l).symm
  have hd : ∀ x ∈ l.drop c, t < x.tick := fun x hx => by
    obtain ⟨i, hi, rfl⟩ := List.getElem_of_mem hx
    rw [List.getElem_drop]
    exact h3 _ _ (by omega)
  rw [show lastLe t none l = lastLe t none (l.take c ++ l.drop c) by rw [← hl], lastLe_app, lastLe_none _ _ _ hd]
  cases c with
  | zero => simp [lastLe]
  | succ c =>
    have hc : c < l.length := by omega
    rw [List.take_succ_eq_append_getElem hc, lastLe_snoc, if_pos (h2 c hc (by omega))]
    simp [hc]
def FindC (g : List AV → Option (List AV)) : Prop := ∀ (l : List Leg) (t : Int), WayOk l → ∃ c, Cut t l c ∧ g [.c (.vs 4 (l.map Leg.cells)), i64 t] = some [i64 ((c : Int) - 1)]
theorem track_find_run (Γ : Env) (M : Nat) (hM : 100 < M) : FindC (run Γ M track_find_f) := by
  intro l t hw
  have hfew := hw.few
  obtain ⟨ax, s', ⟨c, rfl, rfl, hc⟩, hin⟩ : ∃ ax s', (∃ c : Nat, ax = .ex 0 ∧ s' = ⟨[(5, i64 c)], []⟩ ∧ Cut t l c) ∧ ∀ s0, nrm [0, 1, 5, 6] [] s0 = ⟨[(0, .c (.vs 4 (l.map Leg.cells))), (1, i64 t), (5, i64 (0 : Nat)), (6, i64 l.length)], []⟩ → lp (exec Γ M track_find_l1) M s0 = some (ax, s') := by
    refine lp_all (fun q : Nat × Nat => ⟨[(0, .c (.vs 4 (l.map Leg.cells))), (1, i64 t), (5, i64 q.1), (6, i64 q.2)], []⟩) (fun q => q.1 ≤ q.2 ∧ q.2 ≤ l.length ∧ (∀ (i : Nat) (hi : i < l.length), i < q.1 → (l[i]'hi).tick ≤ t) ∧ ∀ (i : Nat) (hi : i < l.length), q.2 ≤ i → t < (l[i]'hi).tick) (fun q => q.2 - q.1) _ (0, l.length) M (by simp) ⟨by simp, by simp, fun i hi h => by simp at h, fun i hi h => by simp at h; omega⟩ (by dsimp only; omega) ?_
    rintro ⟨lo, hi⟩ ⟨h1, h2, h3, h4⟩
    dsimp only at h1 h2 h3 h4 ⊢
    by_cases hlt : lo < hi
    · obtain ⟨mid, hmid⟩ : ∃ m, (lo + hi) / 2 = m := ⟨_, rfl⟩
      have hml : mid < l.length := by omega
      obtain ⟨g, hg⟩ : ∃ g, l[mid]'hml = g := ⟨_, rfl⟩
      have hshr : ((lo : Int) + (hi : Int)).fdiv (2 ^ min 1 IntKind.u64.bits) = (mid : Int) := by
        rw [show (2 : Int) ^ min 1 IntKind.u64.bits = 2 by decide, Int.fdiv_eq_ediv_of_nonneg _ (by omega)]; omega
      by_cases c : g.tick ≤ t
      · simp -implicitDefEqProofs (disch := first | omega | assumption) [hlt, hshr, hg, c]
        refine ⟨mid + 1, hi, by omega, ⟨by omega, h2, fun i hil hi2 => ?_, h4⟩, by omega⟩
        rcases Nat.lt_or_ge i mid with q | q
        · have := rise_lt hw.up i mid hil hml q
          rw [hg] at this; omega
        · obtain rfl : i = mid := by omega
          rw [hg]; exact c
      · simp -implicitDefEqProofs (disch := first | omega | assumption) [hlt, hshr, hg, c]
        refine ⟨lo, mid, by omega, ⟨by omega, by omega, h3, fun i hil hi2 => ?_⟩, by omega⟩
        rcases Nat.lt_or_ge mid i with q | q
        · have := rise_lt hw.up mid i hml hil q
          rw [hg] at this; omega
        · obtain rfl : i = mid := by omega
          rw [hg]; omega
    · obtain rfl : lo = hi := by omega
      simp -implicitDefEqProofs (disch := first | omega | assumption)
      exact ⟨lo, rfl, h2, h3, h4⟩
  refine ⟨c, hc, ?_⟩
  have hc1 := hc.1
  simp -implicitDefEqProofs (disch := first | omega | (simp <;> fail) | assumption) [hin]
def TkC (g : List AV → Option (List AV)) : Prop := ∀ (l : List Leg) (t : Int), WayOk l → (-1073741824 ≤ t ∧ t ≤ 1073741824) → g [.c (.vs 4 (l.map Leg.cells)), i64 t] = some [i64 (tickV l t).1, bo (tickV l t).2, bo (lastLe t none l).isSome]
theorem at_bound {l : List Leg} {t : Int} (hw : WayOk l) (ht : -1073741824 ≤ t ∧ t ≤ 1073741824) {g : Leg} (hg : g ∈ l) : -10737418240 ≤ g.dir * (t - g.tick) ∧ g.dir * (t - g.tick) ≤ 10737418240 := by
  have h := hw.ok g hg
  have h1 := h.tick
  have h3 := h.dir
  have : g.dir = -5 ∨ g.dir = -4 ∨ g.dir = -3 ∨ g.dir = -2 ∨ g.dir = -1 ∨ g.dir = 0 ∨ g.dir = 1 ∨ g.dir = 2 ∨ g.dir = 3 ∨ g.dir = 4 ∨ g.dir = 5 := by omega
  rcases this with h | h | h | h | h | h | h | h | h | h | h <;> rw [h] <;> omega
theorem track_At_run (Γ : Env) (M : Nat) (h167 : FindC (Γ 167)) : TkC (run Γ M track_At_f) := by
  intro l t hw ht
  obtain ⟨c, hc, e⟩ := h167 l t hw
  have hl := cut_last hc
  have hfew := hw.few
  have hcl := hc.1
  unfold tickV
  rw [hl]
  by_cases h0 : c = 0
  · subst h0
    simp -implicitDefEqProofs (disch := first | omega | assumption) [e]
  · obtain ⟨d, rfl⟩ : ∃ d, c = d + 1 := ⟨c - 1, by omega⟩
    have hd : d < l.length := by omega
    obtain ⟨g, hg⟩ : ∃ g, l[d]'hd = g := ⟨_, rfl⟩
    have hgm : g ∈ l := by rw [← hg]; exact List.getElem_mem hd
    have hb := at_bound hw ht hgm
    have h1 := (hw.ok g hgm).tick
    have h2 := (hw.ok g hgm).pos
    have e2 : ((d + 1 : Nat) : Int) - 1 = d := by omega
    rw [e2] at e
    have hgd : l[d]? = some g := by rw [List.getElem?_eq_getElem hd, hg]
    simp -implicitDefEqProofs (disch := first | omega | assumption) [e, hg, hgd, Leg.at]
/-- Was a car at a floor, with an open door? -/
def stoodB (s : Scn) (l : List Leg) (floor tick : Int) : Bool := (lastLe tick none l).isSome && (tickV l tick).2 && decide ((tickV l tick).1 = floor * s.gap)
def StoodC (g : List AV → Option (List AV)) : Prop := ∀ (s : Scn) (l : List Leg) (floor tick : Int), Dom s → WayOk l → (0 ≤ floor ∧ floor ≤ 127) → (-1073741824 ≤ tick ∧ tick ≤ 1073741824) → g [.agg s.cells, .c (.vs 4 (l.map Leg.cells)), i64 floor, i64 tick] = some [bo (stoodB s l floor tick)]
theorem axiom_stood_run (Γ : Env) (M : Nat) (h150 : TkC (Γ 150)) (h127 : PlAtC (Γ 127)) : StoodC (run Γ M axiom_stood_f) := by
  intro s l floor tick hd hw hf ht
  have e := h150 l tick hw ht
  have e2 := h127 floor s.gap (by omega) hd.ga
  unfold stoodB
  generalize tickV l tick = x at *
  generalize (lastLe tick none l).isSome = is at *
  cases is with
  | false => simp -implicitDefEqProofs (disch := first | omega | assumption) [e, e2]
  | true =>
    cases hx : x.2 with
    | false => rw [hx] at e; simp -implicitDefEqProofs (disch := first | omega | assumption) [e, e2]
    | true => rw [hx] at e; simp -implicitDefEqProofs (disch := first | omega | assumption) [e, e2]
end Go.Am
