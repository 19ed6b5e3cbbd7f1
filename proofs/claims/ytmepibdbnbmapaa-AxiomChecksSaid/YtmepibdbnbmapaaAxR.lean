/- Law 48: the walks of the document's answer for ways: tick by tick. -/
import Derived.Test.YtmepibdbnbmapaaAxT
set_option linter.unusedVariables false
set_option linter.unusedSimpArgs false
set_option maxRecDepth 10000
set_option maxHeartbeats 4000000
namespace Go.Am
def optV (t : Int) (o : Option Leg) : Int × Bool := match o with
  | some g => (g.at t, g.door)
  | none => (0, false)
theorem tickV_opt (l : List Leg) (t : Int) : tickV l t = optV t (lastLe t none l) := rfl
def tkD (x : Int × Bool) : List D := [.int .i64 x.1, .bool x.2]
abbrev vL (l : List Leg) : AV := .c (.vs 4 (l.map Leg.cells))
def At25C (g : List AV → Option (List AV)) : Prop := ∀ (l : List Leg) (t : Int), WayOk l → (-1073741824 ≤ t ∧ t ≤ 1073741824) → g [vL l, i64 t] = some [.agg (tkD (tickV l t)), bo (lastLe t none l).isSome]
theorem ref25_At_run (Γ : Env) (M : Nat) (hM : 100 < M) : At25C (run Γ M ref25_At_f) := by
  intro l t hw ht
  have hfew := hw.few
  obtain ⟨ax, s', ⟨rfl, rfl⟩, hin⟩ : ∃ ax s', (ax = .ex 0 ∧ s' = ⟨[(4, .loc 4 0 0), (6, .loc 6 0 0), (7, bo (lastLe t none l).isSome)], [(4, ⟨2, [[i64 0, bo false]]⟩), (6, ⟨2, [[i64 (tickV l t).1, bo (tickV l t).2]]⟩)]⟩) ∧ ∀ s0, nrm [0, 1, 4, 6, 7, 8] [4, 6] s0 = ⟨[(0, vL l), (1, i64 t), (4, .loc 4 0 0), (6, .loc 6 0 0), (7, bo false), (8, i64 (0 : Nat))], [(4, ⟨2, [[i64 0, bo false]]⟩), (6, ⟨2, [[i64 0, bo false]]⟩)]⟩ → lp (exec Γ M ref25_At_l1) M s0 = some (ax, s') := by
    refine lp_all (fun q : Nat × Int × Bool × Bool => ⟨[(0, vL l), (1, i64 t), (4, .loc 4 0 0), (6, .loc 6 0 0), (7, bo q.2.2.2), (8, i64 q.1)], [(4, ⟨2, [[i64 0, bo false]]⟩), (6, ⟨2, [[i64 q.2.1, bo q.2.2.1]]⟩)]⟩) (fun q => q.1 ≤ l.length ∧ (q.2.1, q.2.2.1) = optV t (lastLe t none (l.take q.1)) ∧ q.2.2.2 = (lastLe t none (l.take q.1)).isSome) (fun q => l.length - q.1) _ (0, 0, false, false) M (by simp) ⟨by simp, by simp [lastLe, optV], by simp [lastLe]⟩ (by dsimp only; omega) ?_
    rintro ⟨k, p, d, is⟩ ⟨h1, h2, h3⟩
    dsimp only at h1 h2 h3 ⊢
    by_cases hlt : k < l.length
    · obtain ⟨g, hg⟩ : ∃ g, l[k]'hlt = g := ⟨_, rfl⟩
      have hgm : g ∈ l := by rw [← hg]; exact List.getElem_mem hlt
      have hb := at_bound hw ht hgm
      have b1 := (hw.ok g hgm).tick
      have b2 := (hw.ok g hgm).pos
      have hs : lastLe t none (l.take (k + 1)) = if g.tick ≤ t then some g else lastLe t none (l.take k) := by
        rw [List.take_succ_eq_append_getElem hlt, lastLe_snoc, hg]
      by_cases c : g.tick ≤ t
      · rw [if_pos c] at hs
        simp -implicitDefEqProofs (disch := first | omega | assumption) [-Bool.exists_bool, hlt, hg, c]
        exact ⟨k + 1, _, _, _, ⟨⟨rfl, by omega⟩, rfl, rfl⟩, ⟨by omega, by rw [hs]; rfl, by rw [hs]; rfl⟩, by omega⟩
      · rw [if_neg c] at hs
        simp -implicitDefEqProofs (disch := first | omega | assumption) [-Bool.exists_bool, hlt, hg, c]
        exact ⟨k + 1, p, d, is, ⟨⟨rfl, by omega⟩, rfl, rfl⟩, ⟨by omega, by rw [hs]; exact h2, by rw [hs]; exact h3⟩, by omega⟩
    · obtain rfl : k = l.length := by omega
      rw [List.take_length] at h2 h3
      rw [tickV_opt, ← h2, ← h3]
      simp -implicitDefEqProofs (disch := first | omega | assumption)
  simp -implicitDefEqProofs (disch := first | omega | (simp <;> fail) | assumption) [hin, tkD]
def All25C (g : List AV → Option (List AV)) : Prop := ∀ (l : List Leg) (H : Int) (h0 : 0 < l.length), WayOk l → (l[0]'h0).tick = 0 → (1 ≤ H ∧ H ≤ 300) → g [vL l, i64 H] = some [.c (.vs 2 ((allT l 0 H.toNat).map tkD))]
theorem allT_snoc (l : List Leg) (n : Nat) : allT l 0 (n + 1) = allT l 0 n ++ [tickV l n] := by
  unfold allT; rw [List.range_succ, List.map_append]; simp
theorem allT_len (l : List Leg) (a : Int) (n : Nat) : (allT l a n).length = n := by simp [allT]
theorem ref25_All_run (Γ : Env) (M : Nat) (hM : 400 < M) (h113 : At25C (Γ 113)) : All25C (run Γ M ref25_All_f) := by
  intro l H h0 hw ht hH
  have hfew := hw.few
  obtain ⟨n, hn⟩ : ∃ n : Nat, H = n := ⟨H.toNat, by omega⟩
  subst hn
  have hz : ¬ l.length = 0 := by omega
  rw [show ((n : Int)).toNat = n by omega]
  obtain ⟨g, hg⟩ : ∃ g, l[0]'h0 = g := ⟨_, rfl⟩
  rw [hg] at ht
  obtain ⟨ax, s', ⟨rfl, rfl⟩, hin⟩ : ∃ ax s', (ax = .ex 0 ∧ s' = ⟨[(5, .sl 5 n 0 n)], [(5, ⟨2, (allT l 0 n).map (toAV ∘ tkD)⟩)]⟩) ∧ ∀ s0, nrm [0, 1, 5, 6] [5, 30] s0 = ⟨[(0, vL l), (1, i64 n), (5, .sl 5 0 0 0), (6, i64 (0 : Nat))], [(5, ⟨2, (allT l 0 0).map (toAV ∘ tkD)⟩)]⟩ → lp (exec Γ M ref25_All_l1) M s0 = some (ax, s') := by
    refine lp_all (fun q : Nat => ⟨[(0, vL l), (1, i64 n), (5, .sl 5 q 0 q), (6, i64 q)], [(5, ⟨2, (allT l 0 q).map (toAV ∘ tkD)⟩)]⟩) (fun q => q ≤ n) (fun q => n - q) _ 0 M (by simp) (by omega) (by omega) ?_
    intro k hk
    have hrl : ((allT l 0 k).map (toAV ∘ tkD)).length = k := by rw [List.length_map, allT_len]
    have hrc := lcRows_comp 5 tkD (allT l 0 k)
    have hrn := nmRows_comp 7 tkD (allT l 0 k)
    by_cases hlt : k < n
    · have e := h113 l k hw (by omega)
      have hs : (allT l 0 (k + 1)).map (toAV ∘ tkD) = (allT l 0 k).map (toAV ∘ tkD) ++ [toAV (tkD (tickV l k))] := by rw [allT_snoc]; simp
      generalize (allT l 0 k).map (toAV ∘ tkD) = G at *
      generalize tickV l k = x at *
      generalize (lastLe k none l).isSome = is at *
      simp only [tkD] at e hs
      simp -implicitDefEqProofs (disch := first | omega | assumption) [hlt, e, hrl, hrc, hrn, hs, toAV]
      exact ⟨k + 1, ⟨⟨rfl, by omega⟩, by rw [hs]; rfl⟩, by omega, by omega⟩
    · obtain rfl : k = n := by omega
      simp -implicitDefEqProofs (disch := first | omega | assumption)
  have hin := hin ⟨[(0, vL l), (1, i64 n), (5, .sl 5 0 0 0), (6, i64 0)], [(5, ⟨2, []⟩)]⟩ (by simp [allT])
  have ha := allRows_comp tkD (allT l 0 n)
  have hrl : ((allT l 0 n).map (toAV ∘ tkD)).length = n := by rw [List.length_map, allT_len]
  have hF2 : ((allT l 0 n).map tkD).take n = (allT l 0 n).map tkD := by
    rw [List.take_of_length_le]; rw [List.length_map, allT_len]; omega
  generalize hG : (allT l 0 n).map (toAV ∘ tkD) = G at *
  generalize (allT l 0 n).map tkD = K at *
  simp -implicitDefEqProofs (disch := first | omega | (simp <;> fail) | assumption) [hin, hz, hg, ht, ha, hF2, hrl]
def Shape48C (g : List AV → Option (List AV)) : Prop := ∀ (s : Scn) (l : List Leg), Dom s → WayOk l → g [.agg s.cells, vL l] = some [bo (shapeGo s.horizon true l && decide (l ≠ []))]
theorem ref48_shape_run (Γ : Env) (M : Nat) (hM : 100 < M) : Shape48C (run Γ M ref48_shape_f) := by
  intro s l hd hw
  have hho := hd.ho
  obtain ⟨ax, s', (⟨rfl, rfl, hR⟩ | ⟨rfl, rfl, hR⟩), hin⟩ : ∃ ax s', ((ax = .ex 0 ∧ s' = ⟨[(1, vL l)], []⟩ ∧ shapeGo s.horizon true l = true) ∨ (ax = .ret ∧ s' = ⟨[(4, bo false)], []⟩ ∧ shapeGo s.horizon true l = false)) ∧ ∀ s0, nrm [1, 2, 5] [2] s0 = ⟨[(1, vL l), (2, .loc 2 0 0), (5, i64 (0 : Nat))], [(2, ⟨13, [s.cells.map AV.c]⟩)]⟩ → lp (exec Γ M ref48_shape_l1) M s0 = some (ax, s') := by
    refine lp_all (fun q : Nat => ⟨[(1, vL l), (2, .loc 2 0 0), (5, i64 q)], [(2, ⟨13, [s.cells.map AV.c]⟩)]⟩) (fun q => q ≤ l.length ∧ shapeGo s.horizon (decide (q = 0)) (l.drop q) = shapeGo s.horizon true l) (fun q => l.length - q) _ 0 M (by simp) (by simp) (by have := hw.few; omega) ?_
    rintro k ⟨hk, hq⟩
    have hfew := hw.few
    by_cases hlt : k < l.length
    · obtain ⟨g, hg⟩ : ∃ g, l[k]'hlt = g := ⟨_, rfl⟩
      have hgo : LegOk g := hw.ok g (by rw [← hg]; exact List.getElem_mem hlt)
      have hdr : l.drop k = g :: l.drop (k + 1) := by rw [List.drop_eq_getElem_cons hlt, hg]
      rw [hdr] at hq
      simp only [shapeGo] at hq
      obtain ⟨e, he⟩ : ∃ e, endL s.horizon (l.drop (k + 1)) = e := ⟨_, rfl⟩
      rw [he] at hq
      have hend : (k + 1 < l.length ∧ ∃ h : k + 1 < l.length, ∃ g2, l[k + 1]'h = g2 ∧ g2.tick = e) ∨ (¬ k + 1 < l.length ∧ s.horizon = e) := by
        by_cases m : k + 1 < l.length
        · left
          refine ⟨m, m, _, rfl, ?_⟩
          rw [← he, List.drop_eq_getElem_cons m]; rfl
        · right
          refine ⟨m, ?_⟩
          rw [← he, List.drop_eq_nil_of_le (by omega)]; rfl
      have hk1 : decide (k + 1 = 0) = false := by simp
      have next : ((!(decide (k = 0) && decide (g.tick ≠ 0) || decide (e ≤ g.tick) || decide (s.horizon < e) || decide (g.dir < -1) || decide (1 < g.dir))) = true) → shapeGo s.horizon (decide (k + 1 = 0)) (l.drop (k + 1)) = shapeGo s.horizon true l := fun h => by
        rw [hk1]; rw [h] at hq; simpa using hq
      by_cases k0 : k = 0
      · subst k0
        by_cases q0 : g.tick = 0
        · by_cases q2 : e ≤ 0
          · have hF : shapeGo s.horizon true l = false := by rw [← hq]; simp [q0, q2]
            rcases hend with ⟨m, m', g2, hg2, hge⟩ | ⟨m, rfl⟩
            · simp -implicitDefEqProofs (disch := first | omega | assumption) [hlt, hg, m, hg2, hge, q0, q2, hF]
            · simp -implicitDefEqProofs (disch := first | omega | assumption) [hlt, hg, m, q0, q2, hF]
          by_cases q3 : s.horizon < e
          · have hF : shapeGo s.horizon true l = false := by rw [← hq]; simp [q3]
            rcases hend with ⟨m, m', g2, hg2, hge⟩ | ⟨m, rfl⟩
            · simp -implicitDefEqProofs (disch := first | omega | assumption) [hlt, hg, m, hg2, hge, q0, q2, q3, hF]
            · omega
          by_cases q4 : g.dir < -1
          · have hF : shapeGo s.horizon true l = false := by rw [← hq]; simp [q4]
            rcases hend with ⟨m, m', g2, hg2, hge⟩ | ⟨m, rfl⟩
            · simp -implicitDefEqProofs (disch := first | omega | assumption) [hlt, hg, m, hg2, hge, q0, q2, q3, q4, hF]
            · simp -implicitDefEqProofs (disch := first | omega | assumption) [hlt, hg, m, q0, q2, q3, q4, hF]
          by_cases q5 : 1 < g.dir
          · have hF : shapeGo s.horizon true l = false := by rw [← hq]; simp [q5]
            rcases hend with ⟨m, m', g2, hg2, hge⟩ | ⟨m, rfl⟩
            · simp -implicitDefEqProofs (disch := first | omega | assumption) [hlt, hg, m, hg2, hge, q0, q2, q3, q4, q5, hF]
            · simp -implicitDefEqProofs (disch := first | omega | assumption) [hlt, hg, m, q0, q2, q3, q4, q5, hF]
          have hN := next (by simp [q0, q2, q3, q4, q5])
          rcases hend with ⟨m, m', g2, hg2, hge⟩ | ⟨m, rfl⟩
          · simp -implicitDefEqProofs (disch := first | omega | assumption) [hlt, hg, m, hg2, hge, q0, q2, q3, q4, q5]
            exact ⟨1, by omega, ⟨by omega, by simpa using hN⟩, by omega⟩
          · simp -implicitDefEqProofs (disch := first | omega | assumption) [hlt, hg, m, q0, q2, q3, q4, q5]
            exact ⟨1, by omega, ⟨by omega, by simpa using hN⟩, by omega⟩
        · have hF : shapeGo s.horizon true l = false := by rw [← hq]; simp [q0]
          rcases hend with ⟨m, m', g2, hg2, hge⟩ | ⟨m, rfl⟩
          · simp -implicitDefEqProofs (disch := first | omega | assumption) [hlt, hg, m, hg2, hge, q0, hF]
          · simp -implicitDefEqProofs (disch := first | omega | assumption) [hlt, hg, m, q0, hF]
      · by_cases q2 : e ≤ g.tick
        · have hF : shapeGo s.horizon true l = false := by rw [← hq]; simp [q2]
          rcases hend with ⟨m, m', g2, hg2, hge⟩ | ⟨m, rfl⟩
          · simp -implicitDefEqProofs (disch := first | omega | assumption) [hlt, hg, m, hg2, hge, k0, q2, hF]
          · simp -implicitDefEqProofs (disch := first | omega | assumption) [hlt, hg, m, k0, q2, hF]
        by_cases q3 : s.horizon < e
        · have hF : shapeGo s.horizon true l = false := by rw [← hq]; simp [q3]
          rcases hend with ⟨m, m', g2, hg2, hge⟩ | ⟨m, rfl⟩
          · simp -implicitDefEqProofs (disch := first | omega | assumption) [hlt, hg, m, hg2, hge, k0, q2, q3, hF]
          · omega
        by_cases q4 : g.dir < -1
        · have hF : shapeGo s.horizon true l = false := by rw [← hq]; simp [q4]
          rcases hend with ⟨m, m', g2, hg2, hge⟩ | ⟨m, rfl⟩
          · simp -implicitDefEqProofs (disch := first | omega | assumption) [hlt, hg, m, hg2, hge, k0, q2, q3, q4, hF]
          · simp -implicitDefEqProofs (disch := first | omega | assumption) [hlt, hg, m, k0, q2, q3, q4, hF]
        by_cases q5 : 1 < g.dir
        · have hF : shapeGo s.horizon true l = false := by rw [← hq]; simp [q5]
          rcases hend with ⟨m, m', g2, hg2, hge⟩ | ⟨m, rfl⟩
          · simp -implicitDefEqProofs (disch := first | omega | assumption) [hlt, hg, m, hg2, hge, k0, q2, q3, q4, q5, hF]
          · simp -implicitDefEqProofs (disch := first | omega | assumption) [hlt, hg, m, k0, q2, q3, q4, q5, hF]
        have hN := next (by simp [k0, q2, q3, q4, q5])
        rcases hend with ⟨m, m', g2, hg2, hge⟩ | ⟨m, rfl⟩
        · simp -implicitDefEqProofs (disch := first | omega | assumption) [hlt, hg, m, hg2, hge, k0, q2, q3, q4, q5]
          exact ⟨k + 1, by omega, ⟨by omega, by simpa using hN⟩, by omega⟩
        · simp -implicitDefEqProofs (disch := first | omega | assumption) [hlt, hg, m, k0, q2, q3, q4, q5]
          exact ⟨k + 1, by omega, ⟨by omega, by simpa using hN⟩, by omega⟩
    · obtain rfl : k = l.length := by omega
      rw [List.drop_length] at hq
      simp only [shapeGo] at hq
      simp -implicitDefEqProofs (disch := first | omega | assumption) [hq.symm]
  · rw [hR, Bool.true_and]
    by_cases h0 : l = []
    · have hz : l.length = 0 := by rw [h0]; rfl
      have hz' : ¬ 0 < (l.length : Int) := by omega
      rw [show decide (l ≠ []) = false by simp [h0]]
      clear h0
      simp -implicitDefEqProofs (disch := first | omega | (simp <;> fail) | assumption) [hin, hz']
    · have hz : 0 < (l.length : Int) := by have := List.length_pos_iff.2 h0; omega
      simp -implicitDefEqProofs (disch := first | omega | (simp <;> fail) | assumption) [hin, hz, h0]
  · rw [hR, Bool.false_and]
    simp -implicitDefEqProofs (disch := first | omega | (simp <;> fail) | assumption) [hin]
end Go.Am
