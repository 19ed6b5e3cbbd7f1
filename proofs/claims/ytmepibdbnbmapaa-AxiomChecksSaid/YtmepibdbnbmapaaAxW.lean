/- Law 48: the walks of places, sectors, legs and ticks. -/
import Derived.Test.YtmepibdbnbmapaaAxCode
import Derived.Test.YtmepibdbnbmapaaAxS
set_option linter.unusedVariables false
set_option linter.unusedSimpArgs false
set_option maxRecDepth 10000
set_option maxHeartbeats 2000000
namespace Go.Am
theorem mul_bound {d n N : Int} (hd : -5 ≤ d ∧ d ≤ 5) (hn : 0 ≤ n ∧ n ≤ N) : -5 * N ≤ d * n ∧ d * n ≤ 5 * N := by
  have : d = -5 ∨ d = -4 ∨ d = -3 ∨ d = -2 ∨ d = -1 ∨ d = 0 ∨ d = 1 ∨ d = 2 ∨ d = 3 ∨ d = 4 ∨ d = 5 := by omega
  rcases this with rfl | rfl | rfl | rfl | rfl | rfl | rfl | rfl | rfl | rfl | rfl <;> omega
theorem gap_bound {d n : Int} (hd : 1 ≤ d ∧ d ≤ 16) (hn : -1048576 ≤ n ∧ n ≤ 1048576) : -16777216 ≤ n * d ∧ n * d ≤ 16777216 := by
  have : d = 1 ∨ d = 2 ∨ d = 3 ∨ d = 4 ∨ d = 5 ∨ d = 6 ∨ d = 7 ∨ d = 8 ∨ d = 9 ∨ d = 10 ∨ d = 11 ∨ d = 12 ∨ d = 13 ∨ d = 14 ∨ d = 15 ∨ d = 16 := by omega
  rcases this with rfl | rfl | rfl | rfl | rfl | rfl | rfl | rfl | rfl | rfl | rfl | rfl | rfl | rfl | rfl | rfl <;> omega
/-- What a scenario's numbers are. -/
structure Dom (s : Scn) : Prop where
  fl : 2 ≤ s.floors ∧ s.floors ≤ 128
  ga : 1 ≤ s.gap ∧ s.gap ≤ 16
  ca : 1 ≤ s.cars ∧ s.cars ≤ 16
  ho : 1 ≤ s.horizon ∧ s.horizon ≤ 300
  tr : 1 ≤ s.transfer ∧ s.transfer ≤ 64
  cp : 1 ≤ s.capacity ∧ s.capacity ≤ 64
  sg : s.segs.length ≤ 8
structure LegOk (g : Leg) : Prop where
  tick : -1073741824 ≤ g.tick ∧ g.tick ≤ 1073741824
  pos : -1073741824 ≤ g.pos ∧ g.pos ≤ 1073741824
  dir : -5 ≤ g.dir ∧ g.dir ≤ 5
def Rise : List Leg → Prop
  | [] => True
  | g :: r => (∀ x ∈ r, g.tick < x.tick) ∧ Rise r
structure WayOk (l : List Leg) : Prop where
  few : l.length ≤ 60
  ok : ∀ g ∈ l, LegOk g
  up : Rise l
def FarC (g : List AV → Option (List AV)) : Prop := ∀ a b : Int, (-1099511627776 ≤ a ∧ a ≤ 1099511627776) → (-1099511627776 ≤ b ∧ b ≤ 1099511627776) → g [i64 a, i64 b] = some [i64 (max (a - b) (b - a))]
theorem place_Far_run (Γ : Env) (M : Nat) : FarC (run Γ M place_Far_f) := by
  intro a b ha hb
  simp -implicitDefEqProofs (disch := first | omega | assumption)
  split <;> omega
def TopC (g : List AV → Option (List AV)) : Prop := ∀ s : Scn, Dom s → g [i64 s.floors, i64 s.gap] = some [i64 ((s.floors - 1) * s.gap)]
theorem place_Top_run (Γ : Env) (M : Nat) : TopC (run Γ M place_Top_f) := by
  intro s hd
  have h1 := hd.fl
  have h2 := gap_bound (n := s.floors - 1) hd.ga (by omega)
  simp -implicitDefEqProofs (disch := first | omega | assumption)
def PlAtC (g : List AV → Option (List AV)) : Prop := ∀ (f d : Int), (-1048576 ≤ f ∧ f ≤ 1048576) → (1 ≤ d ∧ d ≤ 16) → g [i64 f, i64 d] = some [i64 (f * d)]
theorem place_At_run (Γ : Env) (M : Nat) : PlAtC (run Γ M place_At_f) := by
  intro f d hf hd
  have h2 := gap_bound hd hf
  simp -implicitDefEqProofs (disch := first | omega | assumption)
/-- The lowest floor of a car. -/
def firstP (s : Scn) (car : Int) : Int := (car * s.floors + s.cars - 1) / s.cars
def homeP (s : Scn) (car : Int) : Int := min (firstP s car) (s.floors - 1)
theorem car_bound {s : Scn} (hd : Dom s) {car : Int} (hc : 0 ≤ car ∧ car ≤ 16) : 0 ≤ car * s.floors ∧ car * s.floors ≤ 2048 := by
  have h1 := hd.fl
  have : car = 0 ∨ car = 1 ∨ car = 2 ∨ car = 3 ∨ car = 4 ∨ car = 5 ∨ car = 6 ∨ car = 7 ∨ car = 8 ∨ car = 9 ∨ car = 10 ∨ car = 11 ∨ car = 12 ∨ car = 13 ∨ car = 14 ∨ car = 15 ∨ car = 16 := by omega
  rcases this with rfl | rfl | rfl | rfl | rfl | rfl | rfl | rfl | rfl | rfl | rfl | rfl | rfl | rfl | rfl | rfl | rfl <;> omega
theorem first_bound {s : Scn} (hd : Dom s) {car : Int} (hc : 0 ≤ car ∧ car ≤ 16) : 0 ≤ firstP s car ∧ firstP s car ≤ 2064 := by
  have h1 := car_bound hd hc
  have h2 := hd.ca
  unfold firstP
  constructor
  · exact Int.ediv_nonneg (by omega) (by omega)
  · have := Int.ediv_le_self (a := car * s.floors + s.cars - 1) s.cars (by omega)
    omega
def FirstC (g : List AV → Option (List AV)) : Prop := ∀ (s : Scn) (car : Int), Dom s → (0 ≤ car ∧ car ≤ 16) → g [i64 s.floors, i64 s.cars, i64 car] = some [i64 (firstP s car)]
theorem sector_first_run (Γ : Env) (M : Nat) : FirstC (run Γ M sector_first_f) := by
  intro s car hd hc
  have h1 := car_bound hd hc
  have h2 := hd.ca
  have h3 := first_bound hd hc
  have h4 := hd.fl
  unfold firstP at *
  simp -implicitDefEqProofs (disch := first | omega | assumption)
def HomeC (g : List AV → Option (List AV)) : Prop := ∀ (s : Scn) (car : Int), Dom s → (0 ≤ car ∧ car ≤ 16) → g [i64 s.floors, i64 s.cars, i64 car] = some [i64 (homeP s car)]
theorem sector_Home_run (Γ : Env) (M : Nat) (hF : FirstC (Γ 49)) : HomeC (run Γ M sector_Home_f) := by
  intro s car hd hc
  have e := hF s car hd hc
  have h3 := first_bound hd hc
  have h4 := hd.fl
  simp -implicitDefEqProofs (disch := first | omega | assumption) [e, homeP]
  split <;> omega
def LegC (g : List AV → Option (List AV)) : Prop := ∀ (s : Scn) (l : Leg) (e before : Int) (door : Bool), Dom s → LegOk l → l.tick < e → e ≤ s.horizon → (-1099511627776 ≤ before ∧ before ≤ 1099511627776) → g [.agg s.cells, .agg l.cells, i64 e, i64 before, bo door] = some [bo (legB s l e before door)]
theorem axiom_leg_run (Γ : Env) (M : Nat) (hF : FarC (Γ 157)) (hT : TopC (Γ 156)) : LegC (run Γ M axiom_leg_f) := by
  intro s l e before door hd hl h1 h2 hb
  have d1 := hd.ho
  have d2 := hd.ga
  have l1 := hl.tick
  have l2 := hl.pos
  have l3 := hl.dir
  have hm := mul_bound (n := e - l.tick - 1) (N := 1073742124) hl.dir (by omega)
  have eF := hF before l.pos hb (by omega)
  have eT := hT s hd
  unfold legB
  obtain ⟨stp, hs⟩ : ∃ x, max (before - l.pos) (l.pos - before) = x := ⟨_, rfl⟩
  obtain ⟨top, ht⟩ : ∃ x, (s.floors - 1) * s.gap = x := ⟨_, rfl⟩
  obtain ⟨dn, hdn⟩ : ∃ x, l.dir * (e - l.tick - 1) = x := ⟨_, rfl⟩
  rw [hs] at eF ⊢
  rw [ht] at eT ⊢
  rw [hdn] at hm ⊢
  by_cases z1 : l.dir < -1
  · rw [if_pos (.inl (.inl z1))]
    simp -implicitDefEqProofs (disch := first | omega | assumption) [eF, eT, hdn, z1]
  by_cases z2 : 1 < l.dir
  · rw [if_pos (.inl (.inr z2))]
    simp -implicitDefEqProofs (disch := first | omega | assumption) [eF, eT, hdn, z1, z2]
  by_cases z4 : 1 < stp
  · rw [if_pos (.inr (.inr z4))]
    simp -implicitDefEqProofs (disch := first | omega | assumption) [eF, eT, hdn, z1, z2, z4]
  by_cases z3 : l.dir ≠ 0 ∧ l.door = true ∧ 1 < e - l.tick
  · rw [if_pos (.inr (.inl z3))]
    obtain ⟨y1, y2, y3⟩ := z3
    simp -implicitDefEqProofs (disch := first | omega | assumption) [eF, eT, hdn, z1, z2, z4, y1, y2, y3]
  rw [if_neg (by simp only [not_or]; exact ⟨⟨z1, z2⟩, z3, z4⟩)]
  have x1 : (!decide (l.dir = 0) && l.door && decide (1 < e - l.tick)) = false := by
    cases hq : (!decide (l.dir = 0) && l.door && decide (1 < e - l.tick)) with
    | false => rfl
    | true =>
      simp only [Bool.and_eq_true, decide_eq_true_eq, Bool.not_eq_true', decide_eq_false_iff_not] at hq
      exact (z3 ⟨hq.1.1, hq.1.2, hq.2⟩).elim
  have z3x : l.door = true → l.dir = 0 ∨ ¬ 1 < e - l.tick := fun h => by
    by_cases q1 : l.dir = 0
    · exact .inl q1
    · exact .inr fun q2 => z3 ⟨q1, h, q2⟩
  obtain ⟨la, hla⟩ : ∃ x, l.pos + dn = x := ⟨_, rfl⟩
  rw [hla]
  by_cases m1 : la < l.pos
  · have e1 : min l.pos la = la := by omega
    have e2 : max l.pos la = l.pos := by omega
    rw [e1, e2]
    have m2 : ¬ l.pos < la := by omega
    by_cases y1 : la < 0
    · rw [if_pos (.inl y1)]
      simp -implicitDefEqProofs (disch := first | omega | assumption) [eF, eT, hdn, hla, z1, z2, z4, x1, m1, y1]
    by_cases y2 : top < l.pos
    · rw [if_pos (.inr y2)]
      simp -implicitDefEqProofs (disch := first | omega | assumption) [eF, eT, hdn, hla, z1, z2, z4, x1, m1, m2, y1, y2]
    rw [if_neg (by omega)]
    have hp0 : 0 ≤ l.pos := by omega
    cases hdo : l.door with
    | false =>
      cases door <;> by_cases s1 : stp = 1 <;>
        simp -implicitDefEqProofs (disch := first | omega | assumption) [eF, eT, hdn, hla, z1, z2, z4, m1, m2, y1, y2, hdo, s1]
    | true =>
      rcases z3x hdo with q | q <;> cases door <;> by_cases s1 : stp = 1 <;> by_cases g0 : l.pos % s.gap = 0 <;>
        simp -implicitDefEqProofs (disch := first | omega | assumption) [eF, eT, hdn, hla, z1, z2, z4, m1, m2, y1, y2, hdo, s1, g0, q]
  · have e1 : min l.pos la = l.pos := by omega
    have e2 : max l.pos la = la := by omega
    rw [e1, e2]
    by_cases y1 : l.pos < 0
    · rw [if_pos (.inl y1)]
      simp -implicitDefEqProofs (disch := first | omega | assumption) [eF, eT, hdn, hla, z1, z2, z4, x1, m1, y1]
    by_cases y2 : top < la
    · rw [if_pos (.inr y2)]
      by_cases m2 : l.pos < la
      · simp -implicitDefEqProofs (disch := first | omega | assumption) [eF, eT, hdn, hla, z1, z2, z4, x1, m1, m2, y1, y2]
      · obtain rfl : la = l.pos := by omega
        simp -implicitDefEqProofs (disch := first | omega | assumption) [eF, eT, hdn, hla, z1, z2, z4, x1, y1, y2]
    rw [if_neg (by omega)]
    have hp0 : 0 ≤ l.pos := by omega
    cases hdo : l.door with
    | false =>
      cases door <;> by_cases s1 : stp = 1 <;>
        simp -implicitDefEqProofs (disch := first | omega | assumption) [eF, eT, hdn, hla, z1, z2, z4, m1, y1, y2, hdo, s1]
    | true =>
      rcases z3x hdo with q | q <;> cases door <;> by_cases s1 : stp = 1 <;> by_cases g0 : l.pos % s.gap = 0 <;>
        simp -implicitDefEqProofs (disch := first | omega | assumption) [eF, eT, hdn, hla, z1, z2, z4, m1, y1, y2, hdo, s1, g0, q]
end Go.Am
