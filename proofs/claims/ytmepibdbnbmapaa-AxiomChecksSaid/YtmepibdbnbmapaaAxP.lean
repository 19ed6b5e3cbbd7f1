/- Law 48: the walks of where people got in and out. -/
import Derived.Test.YtmepibdbnbmapaaAxQ
set_option linter.unusedVariables false
set_option linter.unusedSimpArgs false
set_option maxRecDepth 10000
set_option maxHeartbeats 4000000
namespace Go.Am
theorem ref48_stood_run (Γ : Env) (M : Nat) (h113 : At25C (Γ 113)) : StoodC (run Γ M ref48_stood_f) := by
  intro s l floor tick hd hw hf ht
  have e := h113 l tick hw ht
  have hga := hd.ga
  have hgb := gap_bound (n := floor) hd.ga (by omega)
  unfold stoodB
  generalize tickV l tick = x at *
  generalize (lastLe tick none l).isSome = is at *
  obtain ⟨p, d⟩ := x
  simp only [tkD] at e
  cases is with
  | false => simp -implicitDefEqProofs (disch := first | omega | assumption) [e]
  | true =>
    cases d with
    | false => simp -implicitDefEqProofs (disch := first | omega | assumption) [e]
    | true => simp -implicitDefEqProofs (disch := first | omega | assumption) [e]
/-- A trip as law 48 has it. -/
structure TripOk (t : Trip) : Prop where
  arrive : -1073741824 ≤ t.arrive ∧ t.arrive ≤ 1073741824
  board : -1073741824 ≤ t.board ∧ t.board ≤ 1073741824
  alight : -1073741824 ≤ t.alight ∧ t.alight ≤ 1073741824
  fr : 0 ≤ t.frm ∧ t.frm ≤ 127
  to : 0 ≤ t.to ∧ t.to ≤ 127
  car : -1 ≤ t.car
structure LogOk (l : Log) : Prop where
  few : l.trips.length ≤ 60
  trips : ∀ t ∈ l.trips, TripOk t
  fewl : l.legs.length ≤ 20
  legs : ∀ w ∈ l.legs, WayOk w
def placed1 (s : Scn) (L : List (List Leg)) (t : Trip) : Bool :=
  if t.board < 0 then true
  else match L[t.car.toNat]? with
    | none => false
    | some w => stoodB s w t.frm t.board && (decide (t.alight < 0) || stoodB s w t.to t.alight)
def placedB (s : Scn) (l : Log) : Bool := l.trips.all (placed1 s l.legs)
abbrev rS48 (s : Scn) : Obj := ⟨13, [s.cells.map AV.c]⟩
abbrev rL48 (l : Log) : Obj := ⟨3, [l.cells.map AV.c]⟩
def PlacedC (g : List AV → Option (List AV)) : Prop := ∀ (s : Scn) (l : Log), Dom s → LogOk l → (∀ t ∈ l.trips, 0 ≤ t.board → 0 ≤ t.car) → g [.agg s.cells, .agg l.cells] = some [bo (placedB s l)]
theorem placed_snoc (s : Scn) (L : List (List Leg)) (ts : List Trip) (k : Nat) (h : k < ts.length) : (ts.take (k + 1)).all (placed1 s L) = ((ts.take k).all (placed1 s L) && placed1 s L ts[k]) := by
  rw [List.take_succ_eq_append_getElem h, List.all_append]; simp
theorem axiom_Placed_run (Γ : Env) (M : Nat) (hM : 100 < M) (h131 : StoodC (Γ 131)) : PlacedC (run Γ M axiom_Placed_f) := by
  intro s l hd hl hcar
  have hfew := hl.few
  have hfl := hl.fewl
  obtain ⟨ax, s', (⟨rfl, rfl, hR⟩ | ⟨rfl, rfl, hR⟩), hin⟩ : ∃ ax s', ((ax = .ex 0 ∧ s' = ⟨[], []⟩ ∧ placedB s l = true) ∨ (ax = .ret ∧ s' = ⟨[(4, bo false)], []⟩ ∧ placedB s l = false)) ∧ ∀ s0, nrm [2, 3, 8, 9, 10] [2, 3] s0 = ⟨[(2, .loc 2 0 0), (3, .loc 3 0 0), (8, .c (.vs 7 (l.trips.map Trip.cells))), (9, i64 l.trips.length), (10, i64 (0 : Nat))], [(2, rS48 s), (3, rL48 l)]⟩ → lp (exec Γ M axiom_Placed_l1) M s0 = some (ax, s') := by
    refine lp_all (fun q : Nat => ⟨[(2, .loc 2 0 0), (3, .loc 3 0 0), (8, .c (.vs 7 (l.trips.map Trip.cells))), (9, i64 l.trips.length), (10, i64 q)], [(2, rS48 s), (3, rL48 l)]⟩) (fun q => q ≤ l.trips.length ∧ (l.trips.drop q).all (placed1 s l.legs) = placedB s l) (fun q => l.trips.length - q) _ 0 M (by simp) ⟨by simp, rfl⟩ (by omega) ?_
    rintro k ⟨hk, hq⟩
    by_cases hlt : k < l.trips.length
    · obtain ⟨t, ht⟩ : ∃ t, l.trips[k]'hlt = t := ⟨_, rfl⟩
      have htm : t ∈ l.trips := by rw [← ht]; exact List.getElem_mem hlt
      have hto := hl.trips t htm
      have htc := hcar t htm
      have t1 := hto.board
      have t2 := hto.alight
      have t3 := hto.fr
      have t4 := hto.to
      rw [List.drop_eq_getElem_cons hlt, ht, List.all_cons] at hq
      by_cases b0 : t.board < 0
      · have hp : placed1 s l.legs t = true := by unfold placed1; rw [if_pos b0]
        rw [hp, Bool.true_and] at hq
        simp -implicitDefEqProofs (disch := first | omega | assumption) [hlt, ht, b0]
        exact ⟨k + 1, by omega, ⟨by omega, hq⟩, by omega⟩
      have htc := htc (by omega)
      obtain ⟨c, hc⟩ : ∃ c : Nat, t.car = c := ⟨t.car.toNat, by omega⟩
      have hcn : t.car.toNat = c := by omega
      by_cases hcl : c < l.legs.length
      · obtain ⟨w, hw⟩ : ∃ w, l.legs[c]'hcl = w := ⟨_, rfl⟩
        have hwo := hl.legs w (by rw [← hw]; exact List.getElem_mem hcl)
        have e1 := h131 s w t.frm t.board hd hwo t3 t1
        have e2 := h131 s w t.to t.alight hd hwo t4 t2
        simp only [Scn.cells] at e1 e2
        have hp : placed1 s l.legs t = (stoodB s w t.frm t.board && (decide (t.alight < 0) || stoodB s w t.to t.alight)) := by
          unfold placed1; rw [if_neg b0, hcn, List.getElem?_eq_getElem hcl, hw]
        rw [hp] at hq
        have n1 : ¬ l.legs.length ≤ c := by omega
        cases s1 : stoodB s w t.frm t.board with
        | false =>
          rw [s1] at e1 hq
          have hF : placedB s l = false := by rw [← hq]; rfl
          simp -implicitDefEqProofs (disch := first | omega | assumption) [hlt, ht, b0, hc, hcl, n1, hw, legsRow, e1, hF]
        | true =>
          rw [s1] at e1 hq
          by_cases a0 : t.alight < 0
          · have a1 : ¬ 0 ≤ t.alight := by omega
            simp only [a0, decide_true, Bool.true_or, Bool.and_self, Bool.true_and] at hq
            simp -implicitDefEqProofs (disch := first | omega | assumption) [hlt, ht, b0, hc, hcl, n1, hw, legsRow, e1, a0, a1]
            exact ⟨k + 1, by omega, ⟨by omega, hq⟩, by omega⟩
          · have a1 : 0 ≤ t.alight := by omega
            cases s2 : stoodB s w t.to t.alight with
            | false =>
              rw [s2] at e2 hq
              have hF : placedB s l = false := by rw [← hq]; simp [a0]
              simp -implicitDefEqProofs (disch := first | omega | assumption) [hlt, ht, b0, hc, hcl, n1, hw, legsRow, e1, e2, a0, a1, hF]
            | true =>
              rw [s2] at e2 hq
              simp only [Bool.or_true, Bool.and_self, Bool.true_and] at hq
              simp -implicitDefEqProofs (disch := first | omega | assumption) [hlt, ht, b0, hc, hcl, n1, hw, legsRow, e1, e2, a0, a1]
              exact ⟨k + 1, by omega, ⟨by omega, hq⟩, by omega⟩
      · have hp : placed1 s l.legs t = false := by
          unfold placed1; rw [if_neg b0, hcn, List.getElem?_eq_none (by omega)]
        rw [hp, Bool.false_and] at hq
        have n1 : l.legs.length ≤ c := by omega
        simp -implicitDefEqProofs (disch := first | omega | assumption) [hlt, ht, b0, hc, n1, hq.symm]
    · obtain rfl : k = l.trips.length := by omega
      rw [List.drop_length] at hq
      simp only [List.all_nil] at hq
      simp -implicitDefEqProofs (disch := first | omega | assumption) [hq.symm]
  all_goals
    have hlp := hin ⟨[(2, .loc 2 0 0), (3, .loc 3 0 0), (8, .c (.vs 7 (l.trips.map Trip.cells))), (9, i64 l.trips.length), (10, i64 (0 : Nat))], [(2, rS48 s), (3, rL48 l)]⟩ (by simp)
    simp [rS48, rL48] at hlp
    rw [hR]
    simp -implicitDefEqProofs (disch := first | omega | (simp <;> fail) | assumption) [hlp]
theorem ref48_Placed_run (Γ : Env) (M : Nat) (hM : 100 < M) (h132 : StoodC (Γ 132)) : PlacedC (run Γ M ref48_Placed_f) := by
  intro s l hd hl hcar
  have hfew := hl.few
  have hfl := hl.fewl
  obtain ⟨ax, s', (⟨rfl, rfl, hR⟩ | ⟨rfl, rfl, hR⟩), hin⟩ : ∃ ax s', ((ax = .ex 0 ∧ s' = ⟨[], []⟩ ∧ placedB s l = true) ∨ (ax = .ret ∧ s' = ⟨[(4, bo false)], []⟩ ∧ placedB s l = false)) ∧ ∀ s0, nrm [2, 3, 5] [2, 3] s0 = ⟨[(2, .loc 2 0 0), (3, .loc 3 0 0), (5, i64 (0 : Nat))], [(2, rS48 s), (3, rL48 l)]⟩ → lp (exec Γ M ref48_Placed_l1) M s0 = some (ax, s') := by
    refine lp_all (fun q : Nat => ⟨[(2, .loc 2 0 0), (3, .loc 3 0 0), (5, i64 q)], [(2, rS48 s), (3, rL48 l)]⟩) (fun q => q ≤ l.trips.length ∧ (l.trips.drop q).all (placed1 s l.legs) = placedB s l) (fun q => l.trips.length - q) _ 0 M (by simp) ⟨by simp, rfl⟩ (by omega) ?_
    rintro k ⟨hk, hq⟩
    by_cases hlt : k < l.trips.length
    · obtain ⟨t, ht⟩ : ∃ t, l.trips[k]'hlt = t := ⟨_, rfl⟩
      have htm : t ∈ l.trips := by rw [← ht]; exact List.getElem_mem hlt
      have hto := hl.trips t htm
      have htc := hcar t htm
      have t1 := hto.board
      have t2 := hto.alight
      have t3 := hto.fr
      have t4 := hto.to
      rw [List.drop_eq_getElem_cons hlt, ht, List.all_cons] at hq
      by_cases b0 : t.board < 0
      · have hp : placed1 s l.legs t = true := by unfold placed1; rw [if_pos b0]
        rw [hp, Bool.true_and] at hq
        simp -implicitDefEqProofs (disch := first | omega | assumption) [hlt, ht, b0]
        exact ⟨k + 1, by omega, ⟨by omega, hq⟩, by omega⟩
      have htc := htc (by omega)
      obtain ⟨c, hc⟩ : ∃ c : Nat, t.car = c := ⟨t.car.toNat, by omega⟩
      have hcn : t.car.toNat = c := by omega
      by_cases hcl : c < l.legs.length
      · obtain ⟨w, hw⟩ : ∃ w, l.legs[c]'hcl = w := ⟨_, rfl⟩
        have hwo := hl.legs w (by rw [← hw]; exact List.getElem_mem hcl)
        have e1 := h132 s w t.frm t.board hd hwo t3 t1
        have e2 := h132 s w t.to t.alight hd hwo t4 t2
        simp only [Scn.cells] at e1 e2
        have hp : placed1 s l.legs t = (stoodB s w t.frm t.board && (decide (t.alight < 0) || stoodB s w t.to t.alight)) := by
          unfold placed1; rw [if_neg b0, hcn, List.getElem?_eq_getElem hcl, hw]
        rw [hp] at hq
        have n1 : ¬ l.legs.length ≤ c := by omega
        cases s1 : stoodB s w t.frm t.board with
        | false =>
          rw [s1] at e1 hq
          have hF : placedB s l = false := by rw [← hq]; rfl
          simp -implicitDefEqProofs (disch := first | omega | assumption) [hlt, ht, b0, hc, hcl, n1, hw, legsRow, e1, hF]
        | true =>
          rw [s1] at e1 hq
          by_cases a0 : t.alight < 0
          · have a1 : ¬ 0 ≤ t.alight := by omega
            simp only [a0, decide_true, Bool.true_or, Bool.and_self, Bool.true_and] at hq
            simp -implicitDefEqProofs (disch := first | omega | assumption) [hlt, ht, b0, hc, hcl, n1, hw, legsRow, e1, a0, a1]
            exact ⟨k + 1, by omega, ⟨by omega, hq⟩, by omega⟩
          · have a1 : 0 ≤ t.alight := by omega
            cases s2 : stoodB s w t.to t.alight with
            | false =>
              rw [s2] at e2 hq
              have hF : placedB s l = false := by rw [← hq]; simp [a0]
              simp -implicitDefEqProofs (disch := first | omega | assumption) [hlt, ht, b0, hc, hcl, n1, hw, legsRow, e1, e2, a0, a1, hF]
            | true =>
              rw [s2] at e2 hq
              simp only [Bool.or_true, Bool.and_self, Bool.true_and] at hq
              simp -implicitDefEqProofs (disch := first | omega | assumption) [hlt, ht, b0, hc, hcl, n1, hw, legsRow, e1, e2, a0, a1]
              exact ⟨k + 1, by omega, ⟨by omega, hq⟩, by omega⟩
      · have hp : placed1 s l.legs t = false := by
          unfold placed1; rw [if_neg b0, hcn, List.getElem?_eq_none (by omega)]
        rw [hp, Bool.false_and] at hq
        have n1 : l.legs.length ≤ c := by omega
        simp -implicitDefEqProofs (disch := first | omega | assumption) [hlt, ht, b0, hc, n1, hq.symm]
    · obtain rfl : k = l.trips.length := by omega
      rw [List.drop_length] at hq
      simp only [List.all_nil] at hq
      simp -implicitDefEqProofs (disch := first | omega | assumption) [hq.symm]
  all_goals
    have hlp := hin ⟨[(2, .loc 2 0 0), (3, .loc 3 0 0), (5, i64 (0 : Nat))], [(2, rS48 s), (3, rL48 l)]⟩ (by simp)
    simp [rS48, rL48] at hlp
    rw [hR]
    simp -implicitDefEqProofs (disch := first | omega | (simp <;> fail) | assumption) [hlp]
end Go.Am
