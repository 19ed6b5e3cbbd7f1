/- Where a car is behind a tick: by legs that rise, found by halves; and by walking. -/
import Derived.Test.YtdnmppikakpdiaaSir
set_option linter.unusedVariables false
set_option linter.unusedSimpArgs false
set_option maxRecDepth 10000
set_option maxHeartbeats 2000000
namespace Go.Am.Si
open Go.Am
abbrev vL (l : List Leg) : AV := .c (.vs 4 (l.map Leg.cells))
structure LegI (g : Leg) : Prop where
  tick : -1073741824 ≤ g.tick ∧ g.tick ≤ 1073741824
  pos : -1073741824 ≤ g.pos ∧ g.pos ≤ 1073741824
  dir : -1 ≤ g.dir ∧ g.dir ≤ 1
def Rise : List Leg → Prop
  | [] => True
  | g :: r => (∀ x ∈ r, g.tick < x.tick) ∧ Rise r
structure WayI (l : List Leg) : Prop where
  few : l.length ≤ 61
  ok : ∀ g ∈ l, LegI g
  up : Rise l
def atL (g : Leg) (t : Int) : Int := g.pos + g.dir * (t - g.tick)
/-- The last leg that has begun. -/
def lastLe (t : Int) : Option Leg → List Leg → Option Leg
  | a, [] => a
  | a, g :: r => lastLe t (if g.tick ≤ t then some g else a) r
def tickV (l : List Leg) (t : Int) : Int × Bool := match lastLe t none l with
  | some g => (atL g t, g.door)
  | none => (0, false)
theorem lastLe_none (t : Int) : ∀ (l : List Leg) (a : Option Leg), (∀ g ∈ l, t < g.tick) → lastLe t a l = a
  | [], a, _ => rfl
  | g :: r, a, h => by
    have := h g (by simp)
    rw [lastLe, if_neg (by omega), lastLe_none t r a fun x hx => h x (by simp [hx])]
theorem lastLe_app (t : Int) : ∀ (a b : List Leg) (o : Option Leg), lastLe t o (a ++ b) = lastLe t (lastLe t o a) b
  | [], b, o => rfl
  | g :: a, b, o => by simp only [List.cons_append, lastLe, lastLe_app t a b]
theorem lastLe_snoc (t : Int) (a : List Leg) (g : Leg) (o : Option Leg) : lastLe t o (a ++ [g]) = if g.tick ≤ t then some g else lastLe t o a := by
  rw [lastLe_app]; rfl
theorem at_bound {l : List Leg} {t : Int} (hw : WayI l) (ht : -1073741824 ≤ t ∧ t ≤ 1073741824) {g : Leg} (hg : g ∈ l) : -10737418240 ≤ g.dir * (t - g.tick) ∧ g.dir * (t - g.tick) ≤ 10737418240 := by
  have h := hw.ok g hg
  have h1 := h.tick
  have h3 := h.dir
  have : g.dir = -1 ∨ g.dir = 0 ∨ g.dir = 1 := by omega
  rcases this with h | h | h <;> rw [h] <;> omega
def optV (t : Int) (o : Option Leg) : Int × Bool := match o with
  | some g => (atL g t, g.door)
  | none => (0, false)
theorem tickV_opt (l : List Leg) (t : Int) : tickV l t = optV t (lastLe t none l) := rfl
def tkD (x : Int × Bool) : List D := [.int .i64 x.1, .bool x.2]
def At25C (g : List AV → Option (List AV)) : Prop := ∀ (l : List Leg) (t : Int), WayI l → (-1073741824 ≤ t ∧ t ≤ 1073741824) → g [vL l, i64 t] = some [.agg (tkD (tickV l t)), bo (lastLe t none l).isSome]
theorem ref25_At_run (Γ : Env) (M : Nat) (hM : 100 < M) : At25C (run Γ M ref25_At_f) := by
  intro l t hw ht
  have hfew := hw.few
  obtain ⟨ax, s', ⟨rfl, rfl⟩, hin⟩ : ∃ ax s', (ax = .ex 0 ∧ s' = ⟨[(4, .loc 4 0 0), (6, .loc 6 0 0), (7, bo (lastLe t none l).isSome)], [(4, ⟨2, [[i64 0, bo false]]⟩), (6, ⟨2, [[i64 (tickV l t).1, bo (tickV l t).2]]⟩)]⟩) ∧ ∀ s0, nrm [0, 1, 4, 6, 7, 8] [4, 6] s0 = ⟨[(0, vL l), (1, i64 t), (4, .loc 4 0 0), (6, .loc 6 0 0), (7, bo false), (8, i64 (0 : Nat))], [(4, ⟨2, [[i64 0, bo false]]⟩), (6, ⟨2, [[i64 0, bo false]]⟩)]⟩ → lp (exec Γ M ref25_At_l1) M s0 = some (ax, s') := by
    refine lp_all (fun q : Nat × Int × Bool × Bool => ⟨[(0, vL l), (1, i64 t), (4, .loc 4 0 0), (6, .loc 6 0 0), (7, bo q.2.2.2), (8, i64 q.1)], [(4, ⟨2, [[i64 0, bo false]]⟩), (6, ⟨2, [[i64 q.2.1, bo q.2.2.1]]⟩)]⟩) (fun q => q.1 ≤ l.length ∧ (q.2.1, q.2.2.1) = optV t (lastLe t none (l.take q.1)) ∧ q.2.2.2 = (lastLe t none (l.take q.1)).isSome) (fun q => l.length - q.1) _ (0, 0, false, false) M (by simp) ⟨by simp, by simp [lastLe, optV], by simp [lastLe]⟩ (by dsimp only; omega) ?_
    rintro ⟨k, p, d, is⟩ ⟨h1, h2, h3⟩
    dsimp only at h1 h2 h3 ⊢
    by_cases hlt : k < l.length
    · obtain ⟨g, hg⟩ : ∃ g, l[k]'hlt = g := ⟨_, rfl⟩
      have hgm : g ∈ l := by rw [← hg]; exact List.getElem_mem hlt
      have hb := at_bound hw ht hgm
      have b1 := (hw.ok g hgm).tick
      have b2 := (hw.ok g hgm).pos
      have hs : lastLe t none (l.take (k + 1)) = if g.tick ≤ t then some g else lastLe t none (l.take k) := by
        rw [List.take_succ_eq_append_getElem hlt, lastLe_snoc, hg]
      by_cases c : g.tick ≤ t
      · rw [if_pos c] at hs
        simp -implicitDefEqProofs (disch := first | omega | assumption) [-Bool.exists_bool, hlt, hg, c]
        exact ⟨k + 1, _, _, _, ⟨⟨rfl, by omega⟩, rfl, rfl⟩, ⟨by omega, by rw [hs]; rfl, by rw [hs]; rfl⟩, by omega⟩
      · rw [if_neg c] at hs
        simp -implicitDefEqProofs (disch := first | omega | assumption) [-Bool.exists_bool, hlt, hg, c]
        exact ⟨k + 1, p, d, is, ⟨⟨rfl, by omega⟩, rfl, rfl⟩, ⟨by omega, by rw [hs]; exact h2, by rw [hs]; exact h3⟩, by omega⟩
    · obtain rfl : k = l.length := by omega
      rw [List.take_length] at h2 h3
      rw [tickV_opt, ← h2, ← h3]
      simp -implicitDefEqProofs (disch := first | omega | assumption)
  simp -implicitDefEqProofs (disch := first | omega | (simp <;> fail) | assumption) [hin, tkD]
theorem rise_lt : ∀ {l : List Leg}, Rise l → ∀ (i j : Nat) (hi : i < l.length) (hj : j < l.length), i < j → (l[i]'hi).tick < (l[j]'hj).tick
  | [], _, i, j, hi, _, _ => by simp at hi
  | g :: r, h, 0, j + 1, hi, hj, _ => by
    simp only [List.getElem_cons_zero, List.getElem_cons_succ]
    exact h.1 _ (List.getElem_mem _)
  | g :: r, h, i + 1, j + 1, hi, hj, hij => by
    simp only [List.getElem_cons_succ]
    exact rise_lt h.2 i j _ _ (by omega)
/-- So many legs have begun. -/
def Cut (t : Int) (l : List Leg) (c : Nat) : Prop := c ≤ l.length ∧ (∀ (i : Nat) (hi : i < l.length), i < c → (l[i]'hi).tick ≤ t) ∧ ∀ (i : Nat) (hi : i < l.length), c ≤ i → t < (l[i]'hi).tick
theorem cut_last {t : Int} {l : List Leg} {c : Nat} (h : Cut t l c) : lastLe t none l = if c = 0 then none else l[c - 1]? := by
  obtain ⟨h1, h2, h3⟩ := h
  have hl : l = l.take c ++ l.drop c := (List.take_append_drop c l).symm
  have hd : ∀ x ∈ l.drop c, t < x.tick := fun x hx => by
    obtain ⟨i, hi, rfl⟩ := List.getElem_of_mem hx
    rw [List.getElem_drop]
    exact h3 _ _ (by omega)
  rw [show lastLe t none l = lastLe t none (l.take c ++ l.drop c) by rw [← hl], lastLe_app, lastLe_none _ _ _ hd]
  cases c with
  | zero => simp [lastLe]
  | succ c =>
    have hc : c < l.length := by omega
    rw [List.take_succ_eq_append_getElem hc, lastLe_snoc, if_pos (h2 c hc (by omega))]
    simp [hc]
def FindC (g : List AV → Option (List AV)) : Prop := ∀ (l : List Leg) (t : Int), WayI l → ∃ c, Cut t l c ∧ g [.c (.vs 4 (l.map Leg.cells)), i64 t] = some [i64 ((c : Int) - 1)]
theorem track_find_run (Γ : Env) (M : Nat) (hM : 100 < M) : FindC (run Γ M track_find_f) := by
  intro l t hw
  have hfew := hw.few
  obtain ⟨ax, s', ⟨c, rfl, rfl, hc⟩, hin⟩ : ∃ ax s', (∃ c : Nat, ax = .ex 0 ∧ s' = ⟨[(5, i64 c)], []⟩ ∧ Cut t l c) ∧ ∀ s0, nrm [0, 1, 5, 6] [] s0 = ⟨[(0, .c (.vs 4 (l.map Leg.cells))), (1, i64 t), (5, i64 (0 : Nat)), (6, i64 l.length)], []⟩ → lp (exec Γ M track_find_l1) M s0 = some (ax, s') := by
    refine lp_all (fun q : Nat × Nat => ⟨[(0, .c (.vs 4 (l.map Leg.cells))), (1, i64 t), (5, i64 q.1), (6, i64 q.2)], []⟩) (fun q => q.1 ≤ q.2 ∧ q.2 ≤ l.length ∧ (∀ (i : Nat) (hi : i < l.length), i < q.1 → (l[i]'hi).tick ≤ t) ∧ ∀ (i : Nat) (hi : i < l.length), q.2 ≤ i → t < (l[i]'hi).tick) (fun q => q.2 - q.1) _ (0, l.length) M (by simp) ⟨by simp, by simp, fun i hi h => by simp at h, fun i hi h => by simp at h; omega⟩ (by dsimp only; omega) ?_
    rintro ⟨lo, hi⟩ ⟨h1, h2, h3, h4⟩
    dsimp only at h1 h2 h3 h4 ⊢
    by_cases hlt : lo < hi
    · obtain ⟨mid, hmid⟩ : ∃ m, (lo + hi) / 2 = m := ⟨_, rfl⟩
      have hml : mid < l.length := by omega
      obtain ⟨g, hg⟩ : ∃ g, l[mid]'hml = g := ⟨_, rfl⟩
      have hshr : ((lo : Int) + (hi : Int)).fdiv (2 ^ min 1 IntKind.u64.bits) = (mid : Int) := by
        rw [show (2 : Int) ^ min 1 IntKind.u64.bits = 2 by decide, Int.fdiv_eq_ediv_of_nonneg _ (by omega)]; omega
      by_cases c : g.tick ≤ t
      · simp -implicitDefEqProofs (disch := first | omega | assumption) [hlt, hshr, hg, c]
        refine ⟨mid + 1, hi, by omega, ⟨by omega, h2, fun i hil hi2 => ?_, h4⟩, by omega⟩
        rcases Nat.lt_or_ge i mid with q | q
        · have := rise_lt hw.up i mid hil hml q
          rw [hg] at this; omega
        · obtain rfl : i = mid := by omega
          rw [hg]; exact c
      · simp -implicitDefEqProofs (disch := first | omega | assumption) [hlt, hshr, hg, c]
        refine ⟨lo, mid, by omega, ⟨by omega, by omega, h3, fun i hil hi2 => ?_⟩, by omega⟩
        rcases Nat.lt_or_ge mid i with q | q
        · have := rise_lt hw.up mid i hml hil q
          rw [hg] at this; omega
        · obtain rfl : i = mid := by omega
          rw [hg]; omega
    · obtain rfl : lo = hi := by omega
      simp -implicitDefEqProofs (disch := first | omega | assumption)
      exact ⟨lo, rfl, h2, h3, h4⟩
  refine ⟨c, hc, ?_⟩
  have hc1 := hc.1
  simp -implicitDefEqProofs (disch := first | omega | (simp <;> fail) | assumption) [hin]
def TkC (g : List AV → Option (List AV)) : Prop := ∀ (l : List Leg) (t : Int), WayI l → (-1073741824 ≤ t ∧ t ≤ 1073741824) → g [.c (.vs 4 (l.map Leg.cells)), i64 t] = some [i64 (tickV l t).1, bo (tickV l t).2, bo (lastLe t none l).isSome]
theorem track_At_run (Γ : Env) (M : Nat) (h167 : FindC (Γ 167)) : TkC (run Γ M track_At_f) := by
  intro l t hw ht
  obtain ⟨c, hc, e⟩ := h167 l t hw
  have hl := cut_last hc
  have hfew := hw.few
  have hcl := hc.1
  unfold tickV
  rw [hl]
  by_cases h0 : c = 0
  · subst h0
    simp -implicitDefEqProofs (disch := first | omega | assumption) [e]
  · obtain ⟨d, rfl⟩ : ∃ d, c = d + 1 := ⟨c - 1, by omega⟩
    have hd : d < l.length := by omega
    obtain ⟨g, hg⟩ : ∃ g, l[d]'hd = g := ⟨_, rfl⟩
    have hgm : g ∈ l := by rw [← hg]; exact List.getElem_mem hd
    have hb := at_bound hw ht hgm
    have h1 := (hw.ok g hgm).tick
    have h2 := (hw.ok g hgm).pos
    have e2 : ((d + 1 : Nat) : Int) - 1 = d := by omega
    rw [e2] at e
    have hgd : l[d]? = some g := by rw [List.getElem?_eq_getElem hd, hg]
    simp -implicitDefEqProofs (disch := first | omega | assumption) [e, hg, hgd, atL]
end Go.Am.Si
