/- Ticks: which traffic there is; the pair that a word means, of any grid. -/
import Derived.Test.YtkigddhdbnganaaArX
import Derived.Test.YtkigddhdbnganaaObK
set_option linter.unusedVariables false
set_option linter.unusedSimpArgs false
set_option maxRecDepth 10000
set_option maxHeartbeats 1000000
namespace Go.Am
structure SgOk (g : Seg) : Prop where
  k1 : 1 ≤ g.kind
  k4 : g.kind ≤ 4
  t1 : 1 ≤ g.ticks
  t2 : g.ticks ≤ 1048576
  r0 : 0 ≤ g.rate
  r1 : g.rate ≤ 4000
structure SegsOk (l : List Seg) : Prop where
  l8 : l.length ≤ 8
  all : ∀ g ∈ l, SgOk g
def atF : List Seg → Int → Option Nat
  | [], _ => none
  | g :: l, t => if t < g.ticks then some 0 else (atF l (t - g.ticks)).map (· + 1)
def totT (l : List Seg) : Int := (l.map (·.ticks)).sum
theorem totT_cons (g : Seg) (l : List Seg) : totT (g :: l) = g.ticks + totT l := rfl
theorem atF_none : ∀ {l : List Seg} {t : Int}, (∀ g ∈ l, SgOk g) → 0 ≤ t → (atF l t = none ↔ totT l ≤ t)
  | [], t, _, h => by simp [atF, totT]; exact h
  | g :: l, t, hg, h => by
    have h1 := hg g (by simp)
    rw [totT_cons, atF]
    have hs : ∀ {l : List Seg}, (∀ g ∈ l, SgOk g) → 0 ≤ totT l := by
      intro l
      induction l with
      | nil => intro _; simp [totT]
      | cons a l ih =>
        intro ha
        have := ih (fun x hx => ha x (List.mem_cons_of_mem _ hx))
        have := (ha a (by simp)).t1
        rw [totT_cons]; omega
    have hl := fun x hx => hg x (List.mem_cons_of_mem g hx)
    have := hs hl
    by_cases hlt : t < g.ticks
    · rw [if_pos hlt]; simp; omega
    · rw [if_neg hlt, Option.map_eq_none_iff, atF_none hl (by omega)]; omega
theorem totT_bound : ∀ {l : List Seg}, (∀ g ∈ l, SgOk g) → 0 ≤ totT l ∧ totT l ≤ 1048576 * l.length
  | [], _ => by simp [totT]
  | g :: l, h => by
    have h1 := h g (by simp)
    have := totT_bound (fun x hx => h x (List.mem_cons_of_mem g hx))
    have := h1.t1
    have := h1.t2
    rw [totT_cons, List.length_cons]; omega
theorem atF_get : ∀ {l : List Seg} {t : Int} {i : Nat}, atF l t = some i → i < l.length
  | g :: l, t, i, h => by
    rw [atF] at h
    split at h
    · simp only [Option.some.injEq] at h; subst h; simp
    · obtain ⟨j, hj, rfl⟩ := Option.map_eq_some_iff.1 h
      have := atF_get hj
      simp; omega
abbrev segV (l : List Seg) : AV := .c (.vs 3 (l.map Seg.cells))
def TickC (g : List AV → Option (List AV)) : Prop := ∀ x : Seg, SgOk x → g [.agg x.cells] = some [i64 x.ticks]
theorem when_ticks_run (Γ : Env) (M : Nat) : TickC (run Γ M when_ticks_f) := by
  rintro ⟨k, t, r⟩ hx
  have h1 := hx.t1
  have h2 := hx.t2
  simp only at h1 h2
  have e1 : max t 0 = t := by omega
  have e2 : min t 1048576 = t := by omega
  simp -implicitDefEqProofs (disch := first | omega | (simp <;> fail) | assumption) [e1, e2]
  try omega
def WhenC (g : List AV → Option (List AV)) : Prop := ∀ (l : List Seg) (t : Int), SegsOk l → 0 ≤ t → t ≤ 10000000 → g [segV l, i64 t] = some (match atF l t with | some i => [i64 i, bo true] | none => [i64 0, bo false])
theorem when_At_run (Γ : Env) (M : Nat) (hM : 100 < M) (hT : TickC (Γ 482)) : WhenC (run Γ M when_At_f) := by
  intro l t hl ht0 ht
  have hl8 := hl.l8
  obtain ⟨ax, s', hR, hin⟩ : ∃ ax s', ((∃ i, atF l t = some i ∧ ax = .ret ∧ s' = ⟨[(4, i64 (i : Nat)), (5, bo true)], []⟩) ∨ (atF l t = none ∧ ax = .ex 0 ∧ s' = ⟨[], []⟩)) ∧ ∀ s0, nrm [1, 10, 11, 12] [] s0 = ⟨[(1, i64 t), (10, segV l), (11, i64 l.length), (12, i64 (0 : Nat))], []⟩ → lp (exec Γ M when_At_l1) M s0 = some (ax, s') := by
    refine lp_all (fun q : Nat × Int => ⟨[(1, i64 q.2), (10, segV l), (11, i64 l.length), (12, i64 q.1)], []⟩) (fun q => q.1 ≤ l.length ∧ 0 ≤ q.2 ∧ q.2 ≤ 10000000 ∧ atF l t = (atF (l.drop q.1) q.2).map (· + q.1)) (fun q => l.length - q.1) _ (0, t) M (by simp) ⟨by simp, by simpa using ht0, by simpa using ht, by simp⟩ (by simp; omega) ?_
    rintro ⟨k, u⟩ ⟨h1, h2, h3, h4⟩
    simp only at h1 h2 h3 h4 ⊢
    by_cases hlt : k < l.length
    · have hx := hl.all l[k] (List.getElem_mem hlt)
      have e := hT l[k] hx
      rw [List.drop_eq_getElem_cons hlt, atF] at h4
      have hx1 := hx.t1
      have hx2 := hx.t2
      obtain ⟨⟨a, b, c⟩, hc⟩ : ∃ x, l[k] = x := ⟨_, rfl⟩
      rw [hc] at h4 e hx1 hx2
      simp only at h4 hx1 hx2
      simp only [Seg.cells] at e
      by_cases hu : u < b
      · rw [if_pos hu] at h4
        simp only [Option.map_some, Nat.zero_add] at h4
        rw [h4]
        simp -implicitDefEqProofs (disch := first | omega | (simp <;> fail) | assumption) [hlt, hc, e, hu]
      · rw [if_neg hu, Option.map_map] at h4
        simp -implicitDefEqProofs (disch := first | omega | (simp <;> fail) | assumption) [hlt, hc, e, hu]
        refine ⟨k + 1, u - b, by simp, ⟨by omega, by omega, by omega, ?_⟩, by omega⟩
        rw [h4]; congr 1; funext x; simp; omega
    · obtain rfl : k = l.length := by omega
      rw [List.drop_length] at h4
      simp only [atF, Option.map_none] at h4
      rw [h4]
      simp -implicitDefEqProofs (disch := first | omega | (simp <;> fail) | assumption)
  have ht1 : ¬ t < 0 := by omega
  rcases hR with ⟨i, hi, rfl, rfl⟩ | ⟨hi, rfl, rfl⟩
  · rw [hi]
    simp -implicitDefEqProofs (disch := first | omega | (simp <;> fail) | assumption) [ht1, hin]
  · rw [hi]
    simp -implicitDefEqProofs (disch := first | omega | (simp <;> fail) | assumption) [ht1, hin]
def TotWC (g : List AV → Option (List AV)) : Prop := ∀ l : List Seg, SegsOk l → g [segV l] = some [i64 (totT l)]
theorem totT_take {l : List Seg} {q : Nat} (h : q < l.length) : totT (l.take (q + 1)) = totT (l.take q) + l[q].ticks := by
  unfold totT
  rw [List.take_succ_eq_append_getElem h, List.map_append, List.sum_append]
  simp only [List.map_cons, List.map_nil, List.sum_cons, List.sum_nil, Int.add_zero]
theorem when_Total_run (Γ : Env) (M : Nat) (hM : 100 < M) (hT : TickC (Γ 482)) : TotWC (run Γ M when_Total_f) := by
  intro l hl
  have hl8 := hl.l8
  obtain ⟨ax, s', ⟨rfl, rfl⟩, hin⟩ : ∃ ax s', (ax = .ex 0 ∧ s' = ⟨[(3, i64 (totT l))], []⟩) ∧ ∀ s0, nrm [3, 6, 7, 8] [] s0 = ⟨[(3, i64 (totT (l.take 0))), (6, segV l), (7, i64 l.length), (8, i64 (0 : Nat))], []⟩ → lp (exec Γ M when_Total_l1) M s0 = some (ax, s') := by
    refine lp_all (fun q : Nat => ⟨[(3, i64 (totT (l.take q))), (6, segV l), (7, i64 l.length), (8, i64 q)], []⟩) (fun q => q ≤ l.length) (fun q => l.length - q) _ 0 M (by simp) (by omega) (by omega) ?_
    intro k hk
    have hb := totT_bound (l := l.take k) fun g hg => hl.all g (List.mem_of_mem_take hg)
    have hlk : (l.take k).length ≤ 8 := by rw [List.length_take]; omega
    by_cases hlt : k < l.length
    · have hx := hl.all l[k] (List.getElem_mem hlt)
      have e := hT l[k] hx
      have htk := totT_take hlt
      have hx1 := hx.t1
      have hx2 := hx.t2
      obtain ⟨⟨a, b, c⟩, hc⟩ : ∃ x, l[k] = x := ⟨_, rfl⟩
      rw [hc] at e hx1 hx2 htk
      simp only [Seg.cells] at e
      simp only at hx1 hx2 htk
      generalize totT (l.take k) = z at *
      simp -implicitDefEqProofs (disch := first | omega | (simp <;> fail) | assumption) [hlt, hc, e]
      exact ⟨k + 1, ⟨by rw [htk], by simp⟩, by omega, by omega⟩
    · obtain rfl : k = l.length := by omega
      rw [List.take_length]
      simp -implicitDefEqProofs (disch := first | omega | (simp <;> fail) | assumption)
  have hin2 := hin ⟨[(3, i64 0), (6, segV l), (7, i64 l.length), (8, i64 0)], []⟩ (by simp [totT])
  simp -implicitDefEqProofs (disch := first | omega | (simp <;> fail) | assumption) [hin2]
def zSeg : Seg := ⟨0, 0, 0⟩
def RSegC (g : List AV → Option (List AV)) : Prop := ∀ (l : List Seg) (t : Int), SegsOk l → 0 ≤ t → t ≤ 10000000 → g [segV l, i64 t] = some (match atF l t with | some i => [.agg (l.getD i zSeg).cells, bo true] | none => [.agg zSeg.cells, bo false])
theorem ref28_Segment_run (Γ : Env) (M : Nat) (hM : 100 < M) : RSegC (run Γ M ref28_Segment_f) := by
  intro l t hl ht0 ht
  have hl8 := hl.l8
  obtain ⟨ax, s', hR, hin⟩ : ∃ ax s', ((∃ i a b c, atF l t = some i ∧ l.getD i zSeg = ⟨a, b, c⟩ ∧ ax = .ret ∧ s' = ⟨[(4, .loc 4 0 0), (5, bo true)], [(4, ⟨3, [[i64 a, i64 b, i64 c]]⟩)]⟩) ∨ (atF l t = none ∧ ax = .ex 0 ∧ s' = ⟨[(4, .loc 4 0 0)], [(4, ⟨3, [[i64 0, i64 0, i64 0]]⟩)]⟩)) ∧ ∀ s0, nrm [0, 1, 4, 6] [4] s0 = ⟨[(0, segV l), (1, i64 t), (4, .loc 4 0 0), (6, i64 (0 : Nat))], [(4, ⟨3, [[i64 0, i64 0, i64 0]]⟩)]⟩ → lp (exec Γ M ref28_Segment_l1) M s0 = some (ax, s') := by
    refine lp_all (fun q : Nat × Int => ⟨[(0, segV l), (1, i64 q.2), (4, .loc 4 0 0), (6, i64 q.1)], [(4, ⟨3, [[i64 0, i64 0, i64 0]]⟩)]⟩) (fun q => q.1 ≤ l.length ∧ 0 ≤ q.2 ∧ q.2 ≤ 10000000 ∧ atF l t = (atF (l.drop q.1) q.2).map (· + q.1)) (fun q => l.length - q.1) _ (0, t) M (by simp) ⟨by simp, by simpa using ht0, by simpa using ht, by simp⟩ (by simp; omega) ?_
    rintro ⟨k, u⟩ ⟨h1, h2, h3, h4⟩
    simp only at h1 h2 h3 h4 ⊢
    by_cases hlt : k < l.length
    · have hx := hl.all l[k] (List.getElem_mem hlt)
      rw [List.drop_eq_getElem_cons hlt, atF] at h4
      have hx1 := hx.t1
      have hx2 := hx.t2
      have hgd : l.getD k zSeg = l[k] := by simp [hlt]
      obtain ⟨⟨a, b, c⟩, hc⟩ : ∃ x, l[k] = x := ⟨_, rfl⟩
      rw [hc] at h4 hx1 hx2 hgd
      simp only at h4 hx1 hx2
      by_cases hu : u < b
      · rw [if_pos hu] at h4
        simp only [Option.map_some, Nat.zero_add] at h4
        simp -implicitDefEqProofs (disch := first | omega | (simp <;> fail) | assumption) [hlt, hc, hu]
        exact ⟨k, h4, a, b, c, by rw [← hgd]; simp, rfl, rfl, rfl⟩
      · rw [if_neg hu, Option.map_map] at h4
        simp -implicitDefEqProofs (disch := first | omega | (simp <;> fail) | assumption) [hlt, hc, hu]
        refine ⟨k + 1, u - b, by simp, ⟨by omega, by omega, by omega, ?_⟩, by omega⟩
        rw [h4]; congr 1; funext x; simp; omega
    · obtain rfl : k = l.length := by omega
      rw [List.drop_length] at h4
      simp only [atF, Option.map_none] at h4
      simp -implicitDefEqProofs (disch := first | omega | (simp <;> fail) | assumption) [h4]
  rcases hR with ⟨i, a, b, c, hi, hg, rfl, rfl⟩ | ⟨hi, rfl, rfl⟩
  · rw [hi]
    simp only [hg, Seg.cells]
    simp -implicitDefEqProofs (disch := first | omega | (simp <;> fail) | assumption) [hin]
  · rw [hi]
    simp only [zSeg, Seg.cells]
    simp -implicitDefEqProofs (disch := first | omega | (simp <;> fail) | assumption) [hin]
end Go.Am
