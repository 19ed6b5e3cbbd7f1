/- Law 66: StoryTells: its guards. -/
import Derived.Test.YtkjlejpaajcahaaStR
set_option linter.unusedVariables false
set_option linter.unusedSimpArgs false
set_option maxRecDepth 10000
set_option maxHeartbeats 2000000
namespace Go.Am
structure Tm (t : Trip) : Prop where
  arr : -1 ≤ t.arrive ∧ t.arrive ≤ 1073741824
  brd : -1 ≤ t.board ∧ t.board ≤ 1073741824
  alt : -1 ≤ t.alight ∧ t.alight ≤ 1073741824
structure Gd (l : List Trip) : Prop where
  n : l.length ≤ 100
  all : ∀ t ∈ l, Tm t
theorem mxL_spec : ∀ (xs : List Int) (a : Int), ∃ m, maxL .i64 a (xs.map fun x => i64 x) = some m ∧ ∀ z, m ≤ z ↔ (a ≤ z ∧ ∀ x ∈ xs, x ≤ z)
  | [], a => ⟨a, rfl, fun z => by simp⟩
  | b :: xs, a => by
    obtain ⟨m, h1, h2⟩ := mxL_spec xs (if a < b then b else a)
    refine ⟨m, by simpa [maxL] using h1, fun z => ?_⟩
    rw [h2, List.forall_mem_cons]
    constructor
    · rintro ⟨h3, h4⟩
      split at h3
      · exact ⟨by omega, h3, h4⟩
      · exact ⟨h3, by omega, h4⟩
    · rintro ⟨h3, h4, h5⟩
      refine ⟨?_, h5⟩
      split <;> assumption
theorem trip_get {l : List Trip} {k : Nat} (hlt : k < l.length) {t : Trip} (h : l[k]'hlt = t) : (l.map Trip.cells)[k]? = some t.cells := by
  rw [List.getElem?_map, List.getElem?_eq_getElem hlt, h]; rfl
def Great24 (g : List AV → Option (List AV)) : Prop := ∀ l : List Trip, ∃ b, g [vT l] = some [bo b] ∧ (b = false → Gd l)
theorem law24_Great_run (Γ : Env) (M : Nat) (hM : 1000 < M) : Great24 (run Γ M law24_Great_f) := by
  intro l
  by_cases c : 100 < l.length
  · have c' : 100 < (l.length : Int) := by omega
    exact ⟨true, by simp -implicitDefEqProofs (disch := first | omega | assumption) [c, c'], by simp⟩
  have c' : ¬ 100 < (l.length : Int) := by omega
  obtain ⟨ax, s', hR, hin⟩ : ∃ ax s', ((ax = .ex 0 ∧ s' = ⟨[], []⟩ ∧ ∀ t ∈ l, Tm t) ∨ (ax = .ret ∧ s' = ⟨[(2, bo true)], []⟩)) ∧ ∀ s0, nrm [0, 3] [] s0 = ⟨[(0, vT l), (3, i64 (0 : Nat))], []⟩ → lp (exec Γ M law24_Great_l1) M s0 = some (ax, s') := by
    refine lp_all (fun q : Nat => ⟨[(0, vT l), (3, i64 q)], []⟩) (fun q => q ≤ l.length ∧ ∀ t ∈ l.take q, Tm t) (fun q => l.length - q) _ 0 M (by simp) ⟨by simp, by simp⟩ (by omega) ?_
    rintro k ⟨hk, hq⟩
    by_cases hlt : k < l.length
    · obtain ⟨t, ht⟩ : ∃ w, l[k]'hlt = w := ⟨_, rfl⟩
      have hrow := trip_get hlt ht
      obtain ⟨m, hm, hm2⟩ := mxL_spec [t.board, t.alight] t.arrive
      have hm3 := hm2 1073741824
      simp only [List.map_cons, List.map_nil, List.forall_mem_cons, Trip.cells] at hm hm3 hrow
      have hnext : Tm t → ∀ x ∈ l.take (k + 1), Tm x := by
        intro h x hx
        rw [List.take_succ_eq_append_getElem hlt, ht, List.mem_append] at hx
        rcases hx with hx | hx
        · exact hq x hx
        · rw [List.mem_singleton] at hx; exact hx ▸ h
      by_cases c1 : t.arrive < -1
      · simp -implicitDefEqProofs (disch := first | omega | assumption) [-maxL, hlt, hrow, hm, c1]
      by_cases c2 : t.board < -1
      · simp -implicitDefEqProofs (disch := first | omega | assumption) [-maxL, hlt, hrow, hm, c1, c2]
      by_cases c3 : t.alight < -1
      · simp -implicitDefEqProofs (disch := first | omega | assumption) [-maxL, hlt, hrow, hm, c1, c2, c3]
      by_cases c4 : 1073741824 < m
      · simp -implicitDefEqProofs (disch := first | omega | assumption) [-maxL, hlt, hrow, hm, c1, c2, c3, c4]
      · obtain ⟨d1, d2, d3, -⟩ := hm3.1 (by omega)
        have hn := hnext ⟨⟨by omega, d1⟩, ⟨by omega, d2⟩, ⟨by omega, d3⟩⟩
        simp -implicitDefEqProofs (disch := first | omega | assumption) [-maxL, hlt, hrow, hm, c1, c2, c3, c4]
        exact ⟨k + 1, by omega, ⟨by omega, hn⟩, by omega⟩
    · obtain rfl : k = l.length := by omega
      rw [List.take_length] at hq
      simp -implicitDefEqProofs (disch := first | omega | assumption)
      exact hq
  rcases hR with ⟨rfl, rfl, hok⟩ | ⟨rfl, rfl⟩
  · exact ⟨false, by simp -implicitDefEqProofs (disch := first | omega | (simp <;> fail) | assumption) [c, c', hin], fun _ => ⟨by omega, hok⟩⟩
  · exact ⟨true, by simp -implicitDefEqProofs (disch := first | omega | (simp <;> fail) | assumption) [c, c', hin], by simp⟩

theorem rise_adj : ∀ {l : List Leg}, (∀ (j : Nat) (h : j + 1 < l.length), (l[j]'(by omega)).tick < (l[j + 1]'h).tick) → Rise l
  | [], h => trivial
  | [g], h => ⟨by simp, trivial⟩
  | g :: x :: r, h => by
    have ih : Rise (x :: r) := rise_adj fun j hj => by
      have := h (j + 1) (by simp at hj ⊢; omega)
      simpa using this
    have h0 : g.tick < x.tick := h 0 (by simp)
    refine ⟨fun y hy => ?_, ih⟩
    rcases List.mem_cons.1 hy with rfl | hy
    · exact h0
    · have := ih.1 y hy; omega
structure WayG (l : List Leg) : Prop where
  few : l.length ≤ 60
  ok : ∀ g ∈ l, LegI g
  up : Rise l
def Great25 (g : List AV → Option (List AV)) : Prop := ∀ l : List Leg, ∃ b, g [vL l] = some [bo b] ∧ (b = false → WayG l)
theorem law25_Great_run (Γ : Env) (M : Nat) (hM : 1000 < M) : Great25 (run Γ M law25_Great_f) := by
  intro l
  by_cases c : 60 < l.length
  · have c' : 60 < (l.length : Int) := by omega
    exact ⟨true, by simp -implicitDefEqProofs (disch := first | omega | (simp <;> fail) | assumption) [c, c'], by simp⟩
  have c' : ¬ 60 < (l.length : Int) := by omega
  obtain ⟨ax, s', hR, hin⟩ : ∃ ax s', ((ax = .ex 0 ∧ s' = ⟨[], []⟩ ∧ (∀ (j : Nat) (h : j < l.length), LegI (l[j]'h)) ∧ ∀ (j : Nat) (h : j + 1 < l.length), (l[j]'(by omega)).tick < (l[j + 1]'h).tick) ∨ (ax = .ret ∧ s' = ⟨[(2, bo true)], []⟩)) ∧ ∀ s0, nrm [0, 3] [] s0 = ⟨[(0, vL l), (3, i64 (0 : Nat))], []⟩ → lp (exec Γ M law25_Great_l1) M s0 = some (ax, s') := by
    refine lp_all (fun q : Nat => ⟨[(0, vL l), (3, i64 q)], []⟩) (fun q => q ≤ l.length ∧ (∀ (j : Nat) (h : j < l.length), j < q → LegI (l[j]'h)) ∧ ∀ (j : Nat) (h : j + 1 < l.length), j + 1 < q → (l[j]'(by omega)).tick < (l[j + 1]'h).tick) (fun q => l.length - q) _ 0 M (by simp) ⟨by simp, fun j h x => absurd x (by omega), fun j h x => absurd x (by omega)⟩ (by omega) ?_
    rintro k ⟨hk, hq1, hq2⟩
    by_cases hlt : k < l.length
    · obtain ⟨g, ht⟩ : ∃ w, l[k]'hlt = w := ⟨_, rfl⟩
      have hrow : (l.map Leg.cells)[k]? = some g.cells := by simp [hlt, ht]
      by_cases k0 : k = 0
      · subst k0
        have fin : LegI g → ∃ q' : Nat, (1 : Int) = (q' : Int) ∧ (q' ≤ l.length ∧ (∀ (j : Nat) (h : j < l.length), j < q' → LegI (l[j]'h)) ∧ ∀ (j : Nat) (h : j + 1 < l.length), j + 1 < q' → (l[j]'(by omega)).tick < (l[j + 1]'h).tick) ∧ l.length - q' < l.length := by
          intro hg
          refine ⟨1, by simp, ⟨by omega, fun j h x => ?_, fun j h x => by omega⟩, by omega⟩
          obtain rfl : j = 0 := by omega
          rw [ht]; exact hg
        by_cases d0 : g.dir < -1
        · simp -implicitDefEqProofs (disch := first | omega | (simp <;> fail) | assumption) [hlt, ht, hrow, Leg.cells, d0]
        by_cases d1 : 1 < g.dir
        · simp -implicitDefEqProofs (disch := first | omega | (simp <;> fail) | assumption) [hlt, ht, hrow, Leg.cells, d0, d1]
        by_cases d2 : g.pos < -1073741824
        · simp -implicitDefEqProofs (disch := first | omega | (simp <;> fail) | assumption) [hlt, ht, hrow, Leg.cells, d0, d1, d2]
        by_cases d3 : 1073741824 < g.pos
        · simp -implicitDefEqProofs (disch := first | omega | (simp <;> fail) | assumption) [hlt, ht, hrow, Leg.cells, d0, d1, d2, d3]
        by_cases d4 : g.tick < -1073741824
        · simp -implicitDefEqProofs (disch := first | omega | (simp <;> fail) | assumption) [hlt, ht, hrow, Leg.cells, d0, d1, d2, d3, d4]
        by_cases d5 : 1073741824 < g.tick
        · simp -implicitDefEqProofs (disch := first | omega | (simp <;> fail) | assumption) [hlt, ht, hrow, Leg.cells, d0, d1, d2, d3, d4, d5]
        simp -implicitDefEqProofs (disch := first | omega | (simp <;> fail) | assumption) [hlt, ht, hrow, Leg.cells, d0, d1, d2, d3, d4, d5]
        exact fin ⟨⟨by omega, by omega⟩, ⟨by omega, by omega⟩, ⟨by omega, by omega⟩⟩
      · obtain ⟨p, hp⟩ : ∃ w, l[k - 1]'(by omega) = w := ⟨_, rfl⟩
        have hrow1 : (l.map Leg.cells)[k - 1]? = some p.cells := by
          have : k - 1 < l.length := by omega
          simp [this, hp]
        have i1 : (k : Int) - 1 < l.length := by omega
        have i2 : ((k : Int) - 1).toNat = k - 1 := by omega
        have i3 : (0 : Int) ≤ (k : Int) - 1 := by omega
        have i4 : 0 < k := by omega
        have fin : LegI g → p.tick < g.tick → ∃ q' : Nat, ((k : Int) + 1 = (q' : Int)) ∧ (q' ≤ l.length ∧ (∀ (j : Nat) (h : j < l.length), j < q' → LegI (l[j]'h)) ∧ ∀ (j : Nat) (h : j + 1 < l.length), j + 1 < q' → (l[j]'(by omega)).tick < (l[j + 1]'h).tick) ∧ l.length - q' < l.length - k := by
          intro hg hpg
          refine ⟨k + 1, by simp, ⟨by omega, fun j h x => ?_, fun j h x => ?_⟩, by omega⟩
          · rcases Nat.lt_or_ge j k with y | y
            · exact hq1 j h y
            · obtain rfl : j = k := by omega
              rw [ht]; exact hg
          · rcases Nat.lt_or_ge (j + 1) k with y | y
            · exact hq2 j h y
            · have hj : j = k - 1 := by omega
              subst hj
              have e : k - 1 + 1 = k := by omega
              simp only [e]
              rw [hp, ht]; exact hpg
        by_cases d0 : g.dir < -1
        · simp -implicitDefEqProofs (disch := first | omega | (simp <;> fail) | assumption) [hlt, ht, hrow, Leg.cells, hrow1, i1, i2, i3, i4, hp, d0]
        by_cases d1 : 1 < g.dir
        · simp -implicitDefEqProofs (disch := first | omega | (simp <;> fail) | assumption) [hlt, ht, hrow, Leg.cells, hrow1, i1, i2, i3, i4, hp, d0, d1]
        by_cases d2 : g.pos < -1073741824
        · simp -implicitDefEqProofs (disch := first | omega | (simp <;> fail) | assumption) [hlt, ht, hrow, Leg.cells, hrow1, i1, i2, i3, i4, hp, d0, d1, d2]
        by_cases d3 : 1073741824 < g.pos
        · simp -implicitDefEqProofs (disch := first | omega | (simp <;> fail) | assumption) [hlt, ht, hrow, Leg.cells, hrow1, i1, i2, i3, i4, hp, d0, d1, d2, d3]
        by_cases d4 : g.tick < -1073741824
        · simp -implicitDefEqProofs (disch := first | omega | (simp <;> fail) | assumption) [hlt, ht, hrow, Leg.cells, hrow1, i1, i2, i3, i4, hp, d0, d1, d2, d3, d4]
        by_cases d5 : 1073741824 < g.tick
        · simp -implicitDefEqProofs (disch := first | omega | (simp <;> fail) | assumption) [hlt, ht, hrow, Leg.cells, hrow1, i1, i2, i3, i4, hp, d0, d1, d2, d3, d4, d5]
        by_cases d6 : g.tick ≤ p.tick
        · simp -implicitDefEqProofs (disch := first | omega | (simp <;> fail) | assumption) [hlt, ht, hrow, Leg.cells, hrow1, i1, i2, i3, i4, hp, d0, d1, d2, d3, d4, d5, d6]
        · simp -implicitDefEqProofs (disch := first | omega | (simp <;> fail) | assumption) [hlt, ht, hrow, Leg.cells, hrow1, i1, i2, i3, i4, hp, d0, d1, d2, d3, d4, d5, d6]
          exact fin ⟨⟨by omega, by omega⟩, ⟨by omega, by omega⟩, ⟨by omega, by omega⟩⟩ (by omega)
    · obtain rfl : k = l.length := by omega
      simp -implicitDefEqProofs (disch := first | omega | (simp <;> fail) | assumption) []
      exact ⟨fun j h => hq1 j h h, fun j h => hq2 j h h⟩
  rcases hR with ⟨rfl, rfl, h1, h2⟩ | ⟨rfl, rfl⟩
  · refine ⟨false, by simp -implicitDefEqProofs (disch := first | omega | (simp <;> fail) | assumption) [c, c', hin], fun _ => ⟨by omega, fun g hg => ?_, rise_adj h2⟩⟩
    obtain ⟨j, hj, rfl⟩ := List.mem_iff_getElem.1 hg
    exact h1 j hj
  · exact ⟨true, by simp -implicitDefEqProofs (disch := first | omega | (simp <;> fail) | assumption) [c, c', hin], by simp⟩
abbrev vLs (ls : List (List Leg)) : AV := .c (.vs 1 (ls.map fun l => [dL l]))
structure LsOk (H : Int) (ls : List (List Leg)) : Prop where
  few : ls.length ≤ 10
  hor : -1 ≤ H ∧ H ≤ 1073741824
  ok : ∀ l ∈ ls, WayI l
  near : ∀ l ∈ ls, ∀ x ∈ l.head?, H - x.tick ≤ 300
def Great35 (g : List AV → Option (List AV)) : Prop := ∀ (ls : List (List Leg)) (H : Int), ∃ b, g [vLs ls, i64 H] = some [bo b] ∧ (b = false → LsOk H ls)
theorem law35_Great_run (Γ : Env) (M : Nat) (hM : 1000 < M) (hG : Great25 (Γ 292)) : Great35 (run Γ M law35_Great_f) := by
  intro ls H
  by_cases c1 : 10 < ls.length
  · have c1' : 10 < (ls.length : Int) := by omega
    exact ⟨true, by simp -implicitDefEqProofs (disch := first | omega | (simp <;> fail) | assumption) [c1, c1'], by simp⟩
  have c1' : ¬ 10 < (ls.length : Int) := by omega
  by_cases c2 : H < -1
  · exact ⟨true, by simp -implicitDefEqProofs (disch := first | omega | (simp <;> fail) | assumption) [c1, c1', c2], by simp⟩
  by_cases c3 : 1073741824 < H
  · exact ⟨true, by simp -implicitDefEqProofs (disch := first | omega | (simp <;> fail) | assumption) [c1, c1', c2, c3], by simp⟩
  obtain ⟨ax, s', hR, hin⟩ : ∃ ax s', ((ax = .ex 0 ∧ s' = ⟨[], []⟩ ∧ ∀ l ∈ ls, WayI l ∧ ∀ x ∈ l.head?, H - x.tick ≤ 300) ∨ (ax = .ret ∧ s' = ⟨[(4, bo true)], []⟩)) ∧ ∀ s0, nrm [0, 1, 5] [] s0 = ⟨[(0, vLs ls), (1, i64 H), (5, i64 (0 : Nat))], []⟩ → lp (exec Γ M law35_Great_l1) M s0 = some (ax, s') := by
    refine lp_all (fun q : Nat => ⟨[(0, vLs ls), (1, i64 H), (5, i64 q)], []⟩) (fun q => q ≤ ls.length ∧ ∀ l ∈ ls.take q, WayI l ∧ ∀ x ∈ l.head?, H - x.tick ≤ 300) (fun q => ls.length - q) _ 0 M (by simp) ⟨by simp, by simp⟩ (by omega) ?_
    rintro k ⟨hk, hq⟩
    by_cases hlt : k < ls.length
    · obtain ⟨l, ht⟩ : ∃ w, ls[k]'hlt = w := ⟨_, rfl⟩
      have hrow : (ls.map fun l => [dL l])[k]? = some [dL l] := by simp [hlt, ht]
      obtain ⟨b, e, hb⟩ := hG l
      have hnext : (WayI l ∧ ∀ x ∈ l.head?, H - x.tick ≤ 300) → ∀ y ∈ ls.take (k + 1), WayI y ∧ ∀ x ∈ y.head?, H - x.tick ≤ 300 := by
        intro h y hy
        rw [List.take_succ_eq_append_getElem hlt, ht, List.mem_append] at hy
        rcases hy with hy | hy
        · exact hq y hy
        · rw [List.mem_singleton] at hy; exact hy ▸ h
      by_cases d1 : 40 < l.length
      · have d1' : 40 < (l.length : Int) := by omega
        simp -implicitDefEqProofs (disch := first | omega | (simp <;> fail) | assumption) [hlt, ht, hrow, d1, d1']
      have d1' : ¬ 40 < (l.length : Int) := by omega
      cases b with
      | true => simp -implicitDefEqProofs (disch := first | omega | (simp <;> fail) | assumption) [hlt, ht, hrow, d1, d1', e]
      | false =>
        have hw := hb rfl
        have hwi : WayI l := ⟨by omega, hw.ok, hw.up⟩
        cases l with
        | nil =>
          have hn := hnext ⟨hwi, by simp⟩
          simp -implicitDefEqProofs (disch := first | omega | (simp <;> fail) | assumption) [hlt, ht, hrow, e]
          exact ⟨k + 1, by omega, ⟨by omega, hn⟩, by omega⟩
        | cons g r =>
          have hgt := (hw.ok g (by simp)).tick
          have d2' : (0 : Int) < (r.length : Int) + 1 := by omega
          have d3' : ¬ 40 < (r.length : Int) + 1 := by simp at d1'; omega
          have d4' : ¬ 40 < r.length + 1 := by simpa using d1
          by_cases d2 : 300 < H - g.tick
          · simp -implicitDefEqProofs (disch := first | omega | (simp <;> fail) | assumption) [hlt, ht, hrow, e, d2', d3', d4', Leg.cells, d2]
          · have hn := hnext ⟨hwi, by simp; omega⟩
            simp -implicitDefEqProofs (disch := first | omega | (simp <;> fail) | assumption) [hlt, ht, hrow, e, d2', d3', d4', Leg.cells, d2]
            exact ⟨k + 1, by omega, ⟨by omega, hn⟩, by omega⟩
    · obtain rfl : k = ls.length := by omega
      rw [List.take_length] at hq
      simp -implicitDefEqProofs (disch := first | omega | (simp <;> fail) | assumption) []
      exact hq
  rcases hR with ⟨rfl, rfl, h1⟩ | ⟨rfl, rfl⟩
  · exact ⟨false, by simp -implicitDefEqProofs (disch := first | omega | (simp <;> fail) | assumption) [c1, c1', c2, c3, hin], fun _ => ⟨by omega, by omega, fun l hl => (h1 l hl).1, fun l hl => (h1 l hl).2⟩⟩
  · exact ⟨true, by simp -implicitDefEqProofs (disch := first | omega | (simp <;> fail) | assumption) [c1, c1', c2, c3, hin], by simp⟩
theorem StoryTells_run {Γ : Env} {M : Nat} (hM : 1000 < M) (h24 : Great24 (Γ 60)) (h35 : Great35 (Γ 256)) (hO : OfC66 true (Γ 255)) (hR : OfC66 false (Γ 254)) (hA : AllC (Γ 82)) (hE : ESameC (Γ 83)) (hal : Γ 84 [] = some [bo true]) (ts : List Trip) (ls : List (List Leg)) (u H : Int) : run Γ M law66_StoryTells_f [.agg (logD ts ls u), i64 H] = some [bo true] := by
  obtain ⟨b1, e1, g1⟩ := h24 ts
  obtain ⟨b2, e2, g2⟩ := h35 ls H
  cases b1 with
  | true => simp -implicitDefEqProofs (disch := first | omega | (simp <;> fail) | assumption) [e1]
  | false =>
    cases b2 with
    | true => simp -implicitDefEqProofs (disch := first | omega | (simp <;> fail) | assumption) [e1, e2]
    | false =>
      have g2 := g2 rfl
      have g1 := (g1 rfl).n
      have e3 := hO ts ls u H g1 g2.few g2.ok g2.near g2.hor
      have e4 := hR ts ls u H g1 g2.few g2.ok g2.near g2.hor
      have hl := legsE_len H ls 0 fun l hl => (g2.ok l hl).few
      have hl2 := evsT_len ts
      have hlf := g2.few
      have hlen : (srtE (evsT ts ++ legsE H 0 ls)).length ≤ 4096 := by rw [srtE_len]; simp only [List.length_append]; omega
      have e5 := hA _ hlen
      have e6 := hE _ hlen
      generalize srtE (evsT ts ++ legsE H 0 ls) = L at *
      simp -implicitDefEqProofs (disch := first | omega | (simp <;> fail) | assumption) [e1, e2, e3, e4, e5, e6, hal]
end Go.Am
