/- Law 48: the walks of who came, and of their times. -/
import Derived.Test.YtmepibdbnbmapaaAxF
set_option linter.unusedVariables false
set_option linter.unusedSimpArgs false
set_option maxRecDepth 10000
set_option maxHeartbeats 4000000
namespace Go.Am
structure Psg where
  id : Int
  tick : Int
  frm : Int
  to : Int
def Psg.cells (p : Psg) : List D := [.int .i64 p.id, .int .i64 p.tick, .int .i64 p.frm, .int .i64 p.to]
def ctPsg : List CT := [ctI, ctI, ctI, ctI]
theorem psg_row (r : List D) (h : All2 WT ctPsg r) : ∃ t : Psg, r = t.cells ∧ True := by
  simp only [ctPsg, all2_cons, all2_nil, wt_i64] at h
  obtain ⟨_, _, rfl, ⟨a, rfl, ha⟩, _, _, rfl, ⟨b, rfl, hb⟩, _, _, rfl, ⟨c, rfl, hc⟩, _, _, rfl, ⟨d, rfl, hd⟩, rfl⟩ := h
  exact ⟨⟨a, b, c, d⟩, rfl, trivial⟩
abbrev vP (ps : List Psg) : AV := .c (.vs 4 (ps.map Psg.cells))
abbrev vT (ts : List Trip) : AV := .c (.vs 7 (ts.map Trip.cells))
def came1 (i : Nat) (p : Psg) (t : Trip) : Bool := decide (p.id = i) && decide (t.id = i) && decide (t.arrive = p.tick) && decide (t.frm = p.frm) && decide (t.to = p.to)
def cameGo : Nat → List Psg → List Trip → Bool
  | i, p :: ps, t :: ts => came1 i p t && cameGo (i + 1) ps ts
  | _, [], [] => true
  | _, _, _ => false
theorem cameGo_len : ∀ (ps : List Psg) (ts : List Trip) (i : Nat), ps.length ≠ ts.length → cameGo i ps ts = false
  | [], [], i, h => by simp at h
  | [], t :: ts, i, h => rfl
  | p :: ps, [], i, h => rfl
  | p :: ps, t :: ts, i, h => by
    rw [cameGo, cameGo_len ps ts (i + 1) (by simpa using h), Bool.and_false]
def BeginC (g : List AV → Option (List AV)) : Prop := ∀ p : Psg, g [.agg p.cells] = some [.agg [.int .i64 p.id, .int .i64 p.tick, .int .i64 p.frm, .int .i64 p.to, .int .i64 (-1), .int .i64 (-1), .int .i64 (-1)]]
theorem trip_Begin_run (Γ : Env) (M : Nat) : BeginC (run Γ M trip_Begin_f) := by
  intro p
  simp -implicitDefEqProofs (disch := first | omega | assumption) [Psg.cells]
def CameC (g : List AV → Option (List AV)) : Prop := ∀ (ps : List Psg) (ts : List Trip), ps.length ≤ 100 → ts.length ≤ 60 → g [vP ps, vT ts] = some [bo (cameGo 0 ps ts)]
theorem axiom_Came_run (Γ : Env) (M : Nat) (hM : 200 < M) (h158 : BeginC (Γ 158)) : CameC (run Γ M axiom_Came_f) := by
  intro ps ts hp ht
  by_cases hl : ps.length = ts.length
  case neg =>
    rw [cameGo_len ps ts 0 hl]
    have hl' : ¬ (ps.length : Int) = ts.length := by omega
    simp -implicitDefEqProofs (disch := first | omega | assumption) [hl, hl']
  obtain ⟨ax, s', (⟨rfl, rfl, hR⟩ | ⟨rfl, rfl, hR⟩), hin⟩ : ∃ ax s', ((ax = .ex 0 ∧ s' = ⟨[], []⟩ ∧ cameGo 0 ps ts = true) ∨ (ax = .ret ∧ s' = ⟨[(4, bo false)], []⟩ ∧ cameGo 0 ps ts = false)) ∧ ∀ s0, nrm [1, 13, 14, 15] [] s0 = ⟨[(1, vT ts), (13, vP ps), (14, i64 ps.length), (15, i64 (0 : Nat))], []⟩ → lp (exec Γ M axiom_Came_l1) M s0 = some (ax, s') := by
    refine lp_all (fun q : Nat => ⟨[(1, vT ts), (13, vP ps), (14, i64 ps.length), (15, i64 q)], []⟩) (fun q => q ≤ ps.length ∧ cameGo q (ps.drop q) (ts.drop q) = cameGo 0 ps ts) (fun q => ps.length - q) _ 0 M (by simp) ⟨by simp, rfl⟩ (by omega) ?_
    rintro k ⟨hk, hq⟩
    by_cases hlt : k < ps.length
    · have hlt2 : k < ts.length := by omega
      obtain ⟨p, hpk⟩ : ∃ t, ps[k]'hlt = t := ⟨_, rfl⟩
      obtain ⟨t, htk⟩ : ∃ t, ts[k]'hlt2 = t := ⟨_, rfl⟩
      rw [List.drop_eq_getElem_cons hlt, List.drop_eq_getElem_cons hlt2, hpk, htk, cameGo] at hq
      have e := h158 p
      simp only [Psg.cells] at e
      by_cases a1 : t.id = p.id
      · by_cases a2 : t.arrive = p.tick
        · by_cases a3 : t.frm = p.frm
          · by_cases a4 : t.to = p.to
            · by_cases a5 : p.id = k
              · have hc : came1 k p t = true := by simp [came1, a1, a2, a3, a4, a5]
                rw [hc, Bool.true_and] at hq
                have a6 : decide (p.id = (k : Int)) = true := decide_eq_true a5
                clear a5
                simp -implicitDefEqProofs (disch := first | omega | assumption) [Psg.cells, hlt, hlt2, hpk, htk, e, a1, a2, a3, a4, a6]
                exact ⟨k + 1, by omega, ⟨by omega, hq⟩, by omega⟩
              · have hc : came1 k p t = false := by simp [came1, a5]
                rw [hc, Bool.false_and] at hq
                simp -implicitDefEqProofs (disch := first | omega | assumption) [Psg.cells, hlt, hlt2, hpk, htk, e, a1, a2, a3, a4, a5, hq.symm]
            · have hc : came1 k p t = false := by simp [came1, a4]
              rw [hc, Bool.false_and] at hq
              simp -implicitDefEqProofs (disch := first | omega | assumption) [Psg.cells, hlt, hlt2, hpk, htk, e, a1, a2, a3, a4, hq.symm]
          · have hc : came1 k p t = false := by simp [came1, a3]
            rw [hc, Bool.false_and] at hq
            simp -implicitDefEqProofs (disch := first | omega | assumption) [Psg.cells, hlt, hlt2, hpk, htk, e, a1, a2, a3, hq.symm]
        · have hc : came1 k p t = false := by simp [came1, a2]
          rw [hc, Bool.false_and] at hq
          simp -implicitDefEqProofs (disch := first | omega | assumption) [Psg.cells, hlt, hlt2, hpk, htk, e, a1, a2, hq.symm]
      · have hc : came1 k p t = false := by
          cases h : came1 k p t with
          | false => rfl
          | true => simp [came1] at h; omega
        rw [hc, Bool.false_and] at hq
        simp -implicitDefEqProofs (disch := first | omega | assumption) [Psg.cells, hlt, hlt2, hpk, htk, e, a1, hq.symm]
    · obtain rfl : k = ps.length := by omega
      rw [List.drop_length, List.drop_eq_nil_of_le (by omega), cameGo] at hq
      simp -implicitDefEqProofs (disch := first | omega | assumption) [hq.symm]
  all_goals
    have hlp := hin ⟨[(1, vT ts), (13, vP ps), (14, i64 ps.length), (15, i64 (0 : Nat))], []⟩ (by simp)
    simp [hl] at hlp
    rw [hR]
    simp -implicitDefEqProofs (disch := first | omega | (simp <;> fail) | assumption) [hl, hlp]
theorem ref48_Came_run (Γ : Env) (M : Nat) (hM : 200 < M) : CameC (run Γ M ref48_Came_f) := by
  intro ps ts hp ht
  by_cases hl : ps.length = ts.length
  case neg =>
    rw [cameGo_len ps ts 0 hl]
    have hl' : ¬ (ps.length : Int) = ts.length := by omega
    simp -implicitDefEqProofs (disch := first | omega | assumption) [hl, hl']
  obtain ⟨ax, s', (⟨rfl, rfl, hR⟩ | ⟨rfl, rfl, hR⟩), hin⟩ : ∃ ax s', ((ax = .ex 0 ∧ s' = ⟨[], []⟩ ∧ cameGo 0 ps ts = true) ∨ (ax = .ret ∧ s' = ⟨[(4, bo false)], []⟩ ∧ cameGo 0 ps ts = false)) ∧ ∀ s0, nrm [0, 1, 5] [] s0 = ⟨[(0, vP ps), (1, vT ts), (5, i64 (0 : Nat))], []⟩ → lp (exec Γ M ref48_Came_l1) M s0 = some (ax, s') := by
    refine lp_all (fun q : Nat => ⟨[(0, vP ps), (1, vT ts), (5, i64 q)], []⟩) (fun q => q ≤ ts.length ∧ cameGo q (ps.drop q) (ts.drop q) = cameGo 0 ps ts) (fun q => ts.length - q) _ 0 M (by simp) ⟨by simp, rfl⟩ (by omega) ?_
    rintro k ⟨hk, hq⟩
    by_cases hlt2 : k < ts.length
    · have hlt : k < ps.length := by omega
      obtain ⟨p, hpk⟩ : ∃ t, ps[k]'hlt = t := ⟨_, rfl⟩
      obtain ⟨t, htk⟩ : ∃ t, ts[k]'hlt2 = t := ⟨_, rfl⟩
      rw [List.drop_eq_getElem_cons hlt, List.drop_eq_getElem_cons hlt2, hpk, htk, cameGo] at hq
      by_cases a5 : p.id = k
      case neg =>
        have hc : came1 k p t = false := by simp [came1, a5]
        rw [hc, Bool.false_and] at hq
        simp -implicitDefEqProofs (disch := first | omega | assumption) [Psg.cells, hlt, hlt2, hpk, htk, a5, hq.symm]
      by_cases a1 : t.id = k
      case neg =>
        have hc : came1 k p t = false := by simp [came1, a1]
        rw [hc, Bool.false_and] at hq
        simp -implicitDefEqProofs (disch := first | omega | assumption) [Psg.cells, hlt, hlt2, hpk, htk, a5, a1, hq.symm]
      by_cases a2 : t.arrive = p.tick
      case neg =>
        have hc : came1 k p t = false := by simp [came1, a2]
        rw [hc, Bool.false_and] at hq
        simp -implicitDefEqProofs (disch := first | omega | assumption) [Psg.cells, hlt, hlt2, hpk, htk, a5, a1, a2, hq.symm]
      by_cases a3 : t.frm = p.frm
      case neg =>
        have hc : came1 k p t = false := by simp [came1, a3]
        rw [hc, Bool.false_and] at hq
        simp -implicitDefEqProofs (disch := first | omega | assumption) [Psg.cells, hlt, hlt2, hpk, htk, a5, a1, a2, a3, hq.symm]
      by_cases a4 : t.to = p.to
      case neg =>
        have hc : came1 k p t = false := by simp [came1, a4]
        rw [hc, Bool.false_and] at hq
        simp -implicitDefEqProofs (disch := first | omega | assumption) [Psg.cells, hlt, hlt2, hpk, htk, a5, a1, a2, a3, a4, hq.symm]
      have hc : came1 k p t = true := by simp [came1, a1, a2, a3, a4, a5]
      rw [hc, Bool.true_and] at hq
      simp -implicitDefEqProofs (disch := first | omega | assumption) [Psg.cells, hlt, hlt2, hpk, htk, a5, a1, a2, a3, a4]
      exact ⟨k + 1, by omega, ⟨by omega, hq⟩, by omega⟩
    · obtain rfl : k = ts.length := by omega
      rw [List.drop_length, List.drop_eq_nil_of_le (by omega), cameGo] at hq
      simp -implicitDefEqProofs (disch := first | omega | assumption) [hq.symm]
  all_goals
    have hlp := hin ⟨[(0, vP ps), (1, vT ts), (5, i64 (0 : Nat))], []⟩ (by simp)
    simp [hl] at hlp
    rw [hR]
    simp -implicitDefEqProofs (disch := first | omega | (simp <;> fail) | assumption) [hl, hlp]
/-- Can the times of a trip be? -/
def timely1 (s : Scn) (t : Trip) : Bool :=
  if t.board < 0 then decide (t.car = -1) && decide (t.board = -1) && decide (t.alight = -1)
  else !(decide (t.car < 0) || decide (s.cars ≤ t.car) || decide (t.board < t.arrive) || decide (s.horizon ≤ t.board)) && (decide (t.alight = -1) || (decide (t.board < t.alight) && decide (t.alight < s.horizon)))
def timelyB (s : Scn) (ts : List Trip) : Bool := ts.all (timely1 s)
def Timely1C (g : List AV → Option (List AV)) : Prop := ∀ (s : Scn) (t : Trip), g [.agg s.cells, .agg t.cells] = some [bo (timely1 s t)]
theorem axiom_timely_run (Γ : Env) (M : Nat) : Timely1C (run Γ M axiom_timely_f) := by
  intro s t
  unfold timely1
  by_cases b0 : t.board < 0
  · rw [if_pos b0]
    by_cases a1 : t.car = -1
    · by_cases a2 : t.board = -1
      · by_cases a3 : t.alight = -1
        · simp -implicitDefEqProofs (disch := first | omega | assumption) [a1, a2, a3]
        · simp -implicitDefEqProofs (disch := first | omega | assumption) [a1, a2, a3]
      · simp -implicitDefEqProofs (disch := first | omega | assumption) [b0, a1, a2]
    · simp -implicitDefEqProofs (disch := first | omega | assumption) [b0, a1]
  · rw [if_neg b0]
    by_cases a1 : t.car < 0
    · simp -implicitDefEqProofs (disch := first | omega | assumption) [b0, a1]
    by_cases a2 : s.cars ≤ t.car
    · simp -implicitDefEqProofs (disch := first | omega | assumption) [b0, a1, a2]
    by_cases a3 : t.board < t.arrive
    · simp -implicitDefEqProofs (disch := first | omega | assumption) [b0, a1, a2, a3]
    by_cases a4 : s.horizon ≤ t.board
    · simp -implicitDefEqProofs (disch := first | omega | assumption) [b0, a1, a2, a3, a4]
    by_cases a5 : t.alight = -1
    · simp -implicitDefEqProofs (disch := first | omega | assumption) [b0, a1, a2, a3, a4, a5]
    by_cases a6 : t.board < t.alight
    · by_cases a7 : t.alight < s.horizon
      · simp -implicitDefEqProofs (disch := first | omega | assumption) [b0, a1, a2, a3, a4, a5, a6, a7]
      · simp -implicitDefEqProofs (disch := first | omega | assumption) [b0, a1, a2, a3, a4, a5, a6, a7]
    · simp -implicitDefEqProofs (disch := first | omega | assumption) [b0, a1, a2, a3, a4, a5, a6]
def TimelyC (g : List AV → Option (List AV)) : Prop := ∀ (s : Scn) (ts : List Trip), ts.length ≤ 60 → g [.agg s.cells, vT ts] = some [bo (timelyB s ts)]
theorem axiom_Timely_run (Γ : Env) (M : Nat) (hM : 200 < M) (h159 : Timely1C (Γ 159)) : TimelyC (run Γ M axiom_Timely_f) := by
  intro s ts hl
  obtain ⟨ax, s', (⟨rfl, rfl, hR⟩ | ⟨rfl, rfl, hR⟩), hin⟩ : ∃ ax s', ((ax = .ex 0 ∧ s' = ⟨[], []⟩ ∧ timelyB s ts = true) ∨ (ax = .ret ∧ s' = ⟨[(4, bo false)], []⟩ ∧ timelyB s ts = false)) ∧ ∀ s0, nrm [2, 7, 8, 9] [2] s0 = ⟨[(2, .loc 2 0 0), (7, vT ts), (8, i64 ts.length), (9, i64 (0 : Nat))], [(2, rS48 s)]⟩ → lp (exec Γ M axiom_Timely_l1) M s0 = some (ax, s') := by
    refine lp_all (fun q : Nat => ⟨[(2, .loc 2 0 0), (7, vT ts), (8, i64 ts.length), (9, i64 q)], [(2, rS48 s)]⟩) (fun q => q ≤ ts.length ∧ (ts.drop q).all (timely1 s) = timelyB s ts) (fun q => ts.length - q) _ 0 M (by simp) ⟨by simp, rfl⟩ (by omega) ?_
    rintro k ⟨hk, hq⟩
    by_cases hlt : k < ts.length
    · obtain ⟨t, ht⟩ : ∃ t, ts[k]'hlt = t := ⟨_, rfl⟩
      rw [List.drop_eq_getElem_cons hlt, ht, List.all_cons] at hq
      have e := h159 s t
      simp only [Scn.cells, Trip.cells] at e
      cases hb : timely1 s t with
      | false =>
        rw [hb] at e hq
        have hF : timelyB s ts = false := by rw [← hq]; rfl
        simp -implicitDefEqProofs (disch := first | omega | assumption) [hlt, ht, e, hF]
      | true =>
        rw [hb, Bool.true_and] at hq
        rw [hb] at e
        simp -implicitDefEqProofs (disch := first | omega | assumption) [hlt, ht, e]
        exact ⟨k + 1, by omega, ⟨by omega, hq⟩, by omega⟩
    · obtain rfl : k = ts.length := by omega
      rw [List.drop_length, List.all_nil] at hq
      simp -implicitDefEqProofs (disch := first | omega | assumption) [hq.symm]
  all_goals
    have hlp := hin ⟨[(2, .loc 2 0 0), (7, vT ts), (8, i64 ts.length), (9, i64 (0 : Nat))], [(2, rS48 s)]⟩ (by simp)
    simp [rS48] at hlp
    rw [hR]
    simp -implicitDefEqProofs (disch := first | omega | (simp <;> fail) | assumption) [hlp]
theorem ref48_Timely_run (Γ : Env) (M : Nat) (hM : 200 < M) : TimelyC (run Γ M ref48_Timely_f) := by
  intro s ts hl
  obtain ⟨ax, s', (⟨rfl, rfl, hR⟩ | ⟨rfl, rfl, hR⟩), hin⟩ : ∃ ax s', ((ax = .ex 0 ∧ s' = ⟨[], []⟩ ∧ timelyB s ts = true) ∨ (ax = .ret ∧ s' = ⟨[(4, bo false)], []⟩ ∧ timelyB s ts = false)) ∧ ∀ s0, nrm [1, 2, 5] [2] s0 = ⟨[(1, vT ts), (2, .loc 2 0 0), (5, i64 (0 : Nat))], [(2, rS48 s)]⟩ → lp (exec Γ M ref48_Timely_l1) M s0 = some (ax, s') := by
    refine lp_all (fun q : Nat => ⟨[(1, vT ts), (2, .loc 2 0 0), (5, i64 q)], [(2, rS48 s)]⟩) (fun q => q ≤ ts.length ∧ (ts.drop q).all (timely1 s) = timelyB s ts) (fun q => ts.length - q) _ 0 M (by simp) ⟨by simp, rfl⟩ (by omega) ?_
    rintro k ⟨hk, hq⟩
    by_cases hlt : k < ts.length
    · obtain ⟨t, ht⟩ : ∃ t, ts[k]'hlt = t := ⟨_, rfl⟩
      rw [List.drop_eq_getElem_cons hlt, ht, List.all_cons] at hq
      have bad : timely1 s t = false → timelyB s ts = false := fun h => by rw [← hq, h]; rfl
      have good : timely1 s t = true → (ts.drop (k + 1)).all (timely1 s) = timelyB s ts := fun h => by rw [← hq, h]; rfl
      unfold timely1 at bad good
      by_cases b0 : t.board < 0
      · rw [if_pos b0] at bad good
        by_cases a1 : t.car = -1
        · by_cases a2 : t.board = -1
          · by_cases a3 : t.alight = -1
            · simp -implicitDefEqProofs (disch := first | omega | assumption) [hlt, ht, a1, a2, a3]
              exact ⟨k + 1, by omega, ⟨by omega, good (by simp [a1, a2, a3])⟩, by omega⟩
            · simp -implicitDefEqProofs (disch := first | omega | assumption) [hlt, ht, a1, a2, a3, bad (by simp [a3])]
          · simp -implicitDefEqProofs (disch := first | omega | assumption) [hlt, ht, b0, a1, a2, bad (by simp [a2])]
        · simp -implicitDefEqProofs (disch := first | omega | assumption) [hlt, ht, b0, a1, bad (by simp [a1])]
      · rw [if_neg b0] at bad good
        by_cases a1 : t.car < 0
        · simp -implicitDefEqProofs (disch := first | omega | assumption) [hlt, ht, b0, a1, bad (by simp [a1])]
        by_cases a2 : s.cars ≤ t.car
        · simp -implicitDefEqProofs (disch := first | omega | assumption) [hlt, ht, b0, a1, a2, bad (by simp [a2])]
        by_cases a3 : t.board < t.arrive
        · simp -implicitDefEqProofs (disch := first | omega | assumption) [hlt, ht, b0, a1, a2, a3, bad (by simp [a3])]
        by_cases a4 : s.horizon ≤ t.board
        · simp -implicitDefEqProofs (disch := first | omega | assumption) [hlt, ht, b0, a1, a2, a3, a4, bad (by simp [a4])]
        by_cases a5 : t.alight = -1
        · simp -implicitDefEqProofs (disch := first | omega | assumption) [hlt, ht, b0, a1, a2, a3, a4, a5]
          exact ⟨k + 1, by omega, ⟨by omega, good (by simp [a1, a2, a3, a4, a5])⟩, by omega⟩
        by_cases a6 : t.alight ≤ t.board
        · have a8 : ¬ t.board < t.alight := by omega
          simp -implicitDefEqProofs (disch := first | omega | assumption) [hlt, ht, b0, a1, a2, a3, a4, a5, a6, bad (by simp [a5, a8])]
        by_cases a7 : s.horizon ≤ t.alight
        · have a8 : ¬ t.alight < s.horizon := by omega
          simp -implicitDefEqProofs (disch := first | omega | assumption) [hlt, ht, b0, a1, a2, a3, a4, a5, a6, a7, bad (by simp [a5, a8])]
        have a8 : t.board < t.alight := by omega
        have a9 : t.alight < s.horizon := by omega
        simp -implicitDefEqProofs (disch := first | omega | assumption) [hlt, ht, b0, a1, a2, a3, a4, a5, a6, a7]
        exact ⟨k + 1, by omega, ⟨by omega, good (by simp [a1, a2, a3, a4, a8, a9])⟩, by omega⟩
    · obtain rfl : k = ts.length := by omega
      rw [List.drop_length, List.all_nil] at hq
      simp -implicitDefEqProofs (disch := first | omega | assumption) [hq.symm]
  all_goals
    have hlp := hin ⟨[(1, vT ts), (2, .loc 2 0 0), (5, i64 (0 : Nat))], [(2, rS48 s)]⟩ (by simp)
    simp [rS48] at hlp
    rw [hR]
    simp -implicitDefEqProofs (disch := first | omega | (simp <;> fail) | assumption) [hlp]
end Go.Am
