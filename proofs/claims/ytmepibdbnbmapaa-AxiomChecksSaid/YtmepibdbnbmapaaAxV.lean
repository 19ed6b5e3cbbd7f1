/- Law 48: the walk of a car's way, leg by leg. -/
import Derived.Test.YtmepibdbnbmapaaAxW
set_option linter.unusedVariables false
set_option linter.unusedSimpArgs false
set_option maxRecDepth 10000
set_option maxHeartbeats 2000000
namespace Go.Am
/-- The way of a car, leg by leg. -/
def WayC (g : List AV → Option (List AV)) : Prop := ∀ (s : Scn) (car : Int) (l : List Leg), Dom s → WayOk l → (0 ≤ car ∧ car < s.cars) → g [.agg s.cells, i64 car, .c (.vs 4 (l.map Leg.cells))] = some [bo (wayP s (homeP s car) l)]
theorem axiom_Way_run (Γ : Env) (M : Nat) (hM : 100 < M) (h3 : HomeC (Γ 3)) (h127 : PlAtC (Γ 127)) (h126 : LegC (Γ 126)) : WayC (run Γ M axiom_Way_f) := by
  intro s car l hd hw hc
  have e3 := h3 s car hd (by have := hd.ca; omega)
  have hfb := first_bound hd (car := car) (by have := hd.ca; omega)
  have hfl := hd.fl
  have e127 := h127 (homeP s car) s.gap (by unfold homeP; omega) hd.ga
  have hgb := gap_bound (n := homeP s car) hd.ga (by unfold homeP; omega)
  have hho := hd.ho
  obtain ⟨home, hh⟩ : ∃ x, homeP s car = x := ⟨_, rfl⟩
  rw [hh] at e3 e127 hgb ⊢
  obtain ⟨ax, s', (⟨rfl, rfl, hR⟩ | ⟨rfl, rfl, hR⟩), hin⟩ : ∃ ax s', ((ax = .ex 0 ∧ s' = ⟨[(2, .c (.vs 4 (l.map Leg.cells)))], []⟩ ∧ wayGo s true (home * s.gap) false l = true) ∨ (ax = .ret ∧ s' = ⟨[(6, bo false)], []⟩ ∧ wayGo s true (home * s.gap) false l = false)) ∧ ∀ s0, nrm [2, 3, 7, 8, 21, 22, 23] [3] s0 = ⟨[(2, .c (.vs 4 (l.map Leg.cells))), (3, .loc 3 0 0), (7, i64 (home * s.gap)), (8, bo false), (21, .c (.vs 4 (l.map Leg.cells))), (22, i64 l.length), (23, i64 (0 : Nat))], [(3, ⟨13, [s.cells.map AV.c]⟩)]⟩ → lp (exec Γ M axiom_Way_l1) M s0 = some (ax, s') := by
    refine lp_all (fun q : Nat × Int × Bool => ⟨[(2, .c (.vs 4 (l.map Leg.cells))), (3, .loc 3 0 0), (7, i64 q.2.1), (8, bo q.2.2), (21, .c (.vs 4 (l.map Leg.cells))), (22, i64 l.length), (23, i64 q.1)], [(3, ⟨13, [s.cells.map AV.c]⟩)]⟩) (fun q => q.1 ≤ l.length ∧ (-1099511627776 ≤ q.2.1 ∧ q.2.1 ≤ 1099511627776) ∧ wayGo s (decide (q.1 = 0)) q.2.1 q.2.2 (l.drop q.1) = wayGo s true (home * s.gap) false l) (fun q => l.length - q.1) _ (0, home * s.gap, false) M (by simp) (by refine ⟨by simp, by constructor <;> dsimp only <;> omega, by simp⟩) (by have := hw.few; dsimp only; omega) ?_
    rintro ⟨k, before, door⟩ ⟨hk, hb, hq⟩
    dsimp only at hk hb hq ⊢
    have hfew := hw.few
    by_cases hlt : k < l.length
    · obtain ⟨g, hg⟩ : ∃ g, l[k]'hlt = g := ⟨_, rfl⟩
      have hgo : LegOk g := hw.ok g (by rw [← hg]; exact List.getElem_mem hlt)
      have hdr : l.drop k = g :: l.drop (k + 1) := by rw [List.drop_eq_getElem_cons hlt, hg]
      rw [hdr] at hq
      simp only [wayGo] at hq
      have l1 := hgo.tick
      have l2 := hgo.pos
      obtain ⟨e, he⟩ : ∃ e, endL s.horizon (l.drop (k + 1)) = e := ⟨_, rfl⟩
      rw [he] at hq
      have heb : -1073741824 ≤ e ∧ e ≤ 1073741824 := by
        rw [← he]
        cases hd2 : l.drop (k + 1) with
        | nil => simp only [endL]; omega
        | cons g2 r =>
          have : g2 ∈ l := List.mem_of_mem_drop (i := k + 1) (by rw [hd2]; simp)
          exact (hw.ok g2 this).tick
      have hcar : (car : Int) = car := rfl
      have hend : (k + 1 < l.length ∧ ∃ h : k + 1 < l.length, ∃ g2, l[k + 1]'h = g2 ∧ g2.tick = e) ∨ (¬ k + 1 < l.length ∧ s.horizon = e) := by
        by_cases m : k + 1 < l.length
        · left
          refine ⟨m, m, _, rfl, ?_⟩
          rw [← he, List.drop_eq_getElem_cons m]; rfl
        · right
          refine ⟨m, ?_⟩
          rw [← he, List.drop_eq_nil_of_le (by omega)]; rfl
      have hmb := mul_bound (n := e - g.tick - 1) (N := 4294967296) hgo.dir
      have hdec : decide (k + 1 = 0) = false := by simp
      by_cases k0 : k = 0
      · subst k0
        by_cases q0 : g.tick = 0
        case neg =>
          rw [if_pos (.inl ⟨decide_eq_true rfl, q0⟩)] at hq
          rcases hend with ⟨m, m', g2, hg2, hge⟩ | ⟨m, rfl⟩
          · simp -implicitDefEqProofs (disch := first | omega | assumption) [hlt, hg, m, hg2, hge, q0, hq.symm]
          · simp -implicitDefEqProofs (disch := first | omega | assumption) [hlt, hg, m, q0, hq.symm]
        by_cases q2 : e ≤ g.tick
        case pos =>
          rw [if_pos (.inr (.inl q2))] at hq
          rw [q0] at q2
          rcases hend with ⟨m, m', g2, hg2, hge⟩ | ⟨m, rfl⟩
          · simp -implicitDefEqProofs (disch := first | omega | assumption) [hlt, hg, m, hg2, hge, q0, q2, hq.symm]
          · simp -implicitDefEqProofs (disch := first | omega | assumption) [hlt, hg, m, q0, q2, hq.symm]
        by_cases q3 : s.horizon < e
        case pos =>
          rw [if_pos (.inr (.inr (.inl q3)))] at hq
          rw [q0] at q2
          rcases hend with ⟨m, m', g2, hg2, hge⟩ | ⟨m, rfl⟩
          · simp -implicitDefEqProofs (disch := first | omega | assumption) [hlt, hg, m, hg2, hge, q0, q2, q3, hq.symm]
          · simp -implicitDefEqProofs (disch := first | omega | assumption) [hlt, hg, m, q0, q2, q3, hq.symm]
        have eL := h126 s g e before door hd hgo (by omega) (by omega) hb
        simp only [Leg.cells, Scn.cells, q0] at eL
        cases q4 : legB s g e before door with
        | false =>
          rw [if_pos (.inr (.inr (.inr q4)))] at hq
          rw [q4] at eL
          rw [q0] at q2
          rcases hend with ⟨m, m', g2, hg2, hge⟩ | ⟨m, rfl⟩
          · simp -implicitDefEqProofs (disch := first | omega | assumption) [hlt, hg, m, hg2, hge, q0, q2, q3, eL, hq.symm]
          · simp -implicitDefEqProofs (disch := first | omega | assumption) [hlt, hg, m, q0, q2, q3, eL, hq.symm]
        | true =>
          rw [if_neg (by simp only [not_or, not_and, q4]; exact ⟨fun h => by simp [q0], q2, q3, by simp⟩)] at hq
          rw [q4] at eL
          have hmb := hmb (by omega)
          obtain ⟨dn, hdn⟩ : ∃ x, g.dir * (e - g.tick - 1) = x := ⟨_, rfl⟩
          rw [hdn] at hmb hq
          rcases hend with ⟨m, m', g2, hg2, hge⟩ | ⟨m, rfl⟩
          · simp only [q0, Int.sub_zero] at q2 hdn
            cases hgd : g.door with
            | false =>
              rw [hgd] at eL hq
              simp -implicitDefEqProofs (disch := first | omega | assumption) [hlt, hg, m, hg2, hge, q0, q2, q3, eL, hdn, hgd]
              exact ⟨1, _, ⟨rfl, by omega⟩, ⟨by omega, by omega, by simpa using hq⟩, by omega⟩
            | true =>
              rw [hgd] at eL hq
              simp -implicitDefEqProofs (disch := first | omega | assumption) [hlt, hg, m, hg2, hge, q0, q2, q3, eL, hdn, hgd]
              exact ⟨1, _, ⟨rfl, by omega⟩, ⟨by omega, by omega, by simpa using hq⟩, by omega⟩
          · simp only [q0, Int.sub_zero] at q2 hdn
            cases hgd : g.door with
            | false =>
              rw [hgd] at eL hq
              simp -implicitDefEqProofs (disch := first | omega | assumption) [hlt, hg, m, q0, q2, q3, eL, hdn, hgd]
              exact ⟨1, _, ⟨rfl, by omega⟩, ⟨by omega, by omega, by simpa using hq⟩, by omega⟩
            | true =>
              rw [hgd] at eL hq
              simp -implicitDefEqProofs (disch := first | omega | assumption) [hlt, hg, m, q0, q2, q3, eL, hdn, hgd]
              exact ⟨1, _, ⟨rfl, by omega⟩, ⟨by omega, by omega, by simpa using hq⟩, by omega⟩
      · by_cases q2 : e ≤ g.tick
        case pos =>
          rw [if_pos (.inr (.inl q2))] at hq
          rcases hend with ⟨m, m', g2, hg2, hge⟩ | ⟨m, rfl⟩
          · simp -implicitDefEqProofs (disch := first | omega | assumption) [hlt, hg, k0, m, hg2, hge, q2, hq.symm]
          · simp -implicitDefEqProofs (disch := first | omega | assumption) [hlt, hg, k0, m, q2, hq.symm]
        by_cases q3 : s.horizon < e
        case pos =>
          rw [if_pos (.inr (.inr (.inl q3)))] at hq
          rcases hend with ⟨m, m', g2, hg2, hge⟩ | ⟨m, rfl⟩
          · simp -implicitDefEqProofs (disch := first | omega | assumption) [hlt, hg, k0, m, hg2, hge, q2, q3, hq.symm]
          · simp -implicitDefEqProofs (disch := first | omega | assumption) [hlt, hg, k0, m, q2, q3, hq.symm]
        have eL := h126 s g e before door hd hgo (by omega) (by omega) hb
        simp only [Leg.cells, Scn.cells] at eL
        cases q4 : legB s g e before door with
        | false =>
          rw [if_pos (.inr (.inr (.inr q4)))] at hq
          rw [q4] at eL
          rcases hend with ⟨m, m', g2, hg2, hge⟩ | ⟨m, rfl⟩
          · simp -implicitDefEqProofs (disch := first | omega | assumption) [hlt, hg, k0, m, hg2, hge, q2, q3, eL, hq.symm]
          · simp -implicitDefEqProofs (disch := first | omega | assumption) [hlt, hg, k0, m, q2, q3, eL, hq.symm]
        | true =>
          rw [if_neg (by simp only [not_or, not_and, q4]; exact ⟨fun h => (k0 (by simpa using h)).elim, q2, q3, by simp⟩)] at hq
          rw [q4] at eL
          have hmb := hmb (by omega)
          obtain ⟨dn, hdn⟩ : ∃ x, g.dir * (e - g.tick - 1) = x := ⟨_, rfl⟩
          rw [hdn] at hmb hq
          rcases hend with ⟨m, m', g2, hg2, hge⟩ | ⟨m, rfl⟩
          · cases hgd : g.door with
            | false =>
              rw [hgd] at eL hq
              simp -implicitDefEqProofs (disch := first | omega | assumption) [hlt, hg, k0, m, hg2, hge, q2, q3, eL, hdn, hgd]
              exact ⟨k + 1, _, ⟨rfl, by omega⟩, ⟨by omega, by omega, by simpa using hq⟩, by omega⟩
            | true =>
              rw [hgd] at eL hq
              simp -implicitDefEqProofs (disch := first | omega | assumption) [hlt, hg, k0, m, hg2, hge, q2, q3, eL, hdn, hgd]
              exact ⟨k + 1, _, ⟨rfl, by omega⟩, ⟨by omega, by omega, by simpa using hq⟩, by omega⟩
          · cases hgd : g.door with
            | false =>
              rw [hgd] at eL hq
              simp -implicitDefEqProofs (disch := first | omega | assumption) [hlt, hg, k0, m, q2, q3, eL, hdn, hgd]
              exact ⟨k + 1, _, ⟨rfl, by omega⟩, ⟨by omega, by omega, by simpa using hq⟩, by omega⟩
            | true =>
              rw [hgd] at eL hq
              simp -implicitDefEqProofs (disch := first | omega | assumption) [hlt, hg, k0, m, q2, q3, eL, hdn, hgd]
              exact ⟨k + 1, _, ⟨rfl, by omega⟩, ⟨by omega, by omega, by simpa using hq⟩, by omega⟩
    · obtain rfl : k = l.length := by omega
      rw [List.drop_length] at hq
      simp only [wayGo] at hq
      simp -implicitDefEqProofs (disch := first | omega | assumption) [hq.symm]
  · have hlp := hin ⟨[(2, .c (.vs 4 (l.map Leg.cells))), (3, .loc 3 0 0), (7, i64 (home * s.gap)), (8, bo false), (21, .c (.vs 4 (l.map Leg.cells))), (22, i64 l.length), (23, i64 (0 : Nat))], [(3, ⟨13, [s.cells.map AV.c]⟩)]⟩ (by simp)
    unfold wayP
    rw [hR, Bool.true_and]
    by_cases h0 : l = []
    · have hz : l.length = 0 := by rw [h0]; rfl
      have hz' : ¬ 0 < (l.length : Int) := by omega
      rw [show decide (l ≠ []) = false by simp [h0]]
      clear h0
      simp -implicitDefEqProofs (disch := first | omega | (simp <;> fail) | assumption) [e3, e127, hin, hz']
    · have hz : 0 < (l.length : Int) := by have := List.length_pos_iff.2 h0; omega
      simp -implicitDefEqProofs (disch := first | omega | (simp <;> fail) | assumption) [e3, e127, hin, hz, h0]
  · have hlp := hin ⟨[(2, .c (.vs 4 (l.map Leg.cells))), (3, .loc 3 0 0), (7, i64 (home * s.gap)), (8, bo false), (21, .c (.vs 4 (l.map Leg.cells))), (22, i64 l.length), (23, i64 (0 : Nat))], [(3, ⟨13, [s.cells.map AV.c]⟩)]⟩ (by simp)
    simp at hlp
    unfold wayP
    rw [hR, Bool.false_and]
    simp -implicitDefEqProofs (disch := first | omega | (simp <;> fail) | assumption) [e3, e127, hlp]
end Go.Am
