/- Law 51: ReplayTells: who rode, who waited, who was done, and where cars were. -/
import Derived.Test.YtdnmppikakpdiaaSiv
set_option linter.unusedVariables false
set_option linter.unusedSimpArgs false
set_option maxRecDepth 10000
set_option maxHeartbeats 4000000
namespace Go.Am.Si
open Go.Am
structure Rpl (Γ : Env) : Prop where
  few : FewC (Γ 8)
  at_ : At25C (Γ 113)
  rid : RidC (Γ 107)
  lrid : LRidC (Γ 108)
  wai : IdsC wait1 (Γ 110)
  don : IdsC done1 (Γ 111)
  whr : WhrC (Γ 112)
  eq : EqN (Γ 109)
  alive : Γ 5 [] = some [bo true]
abbrev slN (key : Nat) (l : List Int) : AV := .sl key l.length 0 l.length
abbrev obN (l : List Int) : Obj := ⟨1, l.map (toAV ∘ numD)⟩
theorem ReplayTells_run (Γ : Env) (M : Nat) (hM : 100 < M) (hR : Rpl Γ) (l : Log) (car tick : Int) (hl : l.Ok) : run Γ M law51_ReplayTells_f [.agg l.cells, i64 car, i64 tick] = some [bo true] := by
  obtain ⟨b, hb, hs⟩ := hR.few l hl
  have halive := hR.alive
  cases b with
  | false =>
    simp -implicitDefEqProofs (disch := first | omega | assumption) at hb
    simp -implicitDefEqProofs (disch := first | omega | assumption) [hb]
  | true =>
    obtain ⟨hF, hW⟩ := hs rfl
    by_cases c1 : tick < -1073741824
    · simp -implicitDefEqProofs (disch := first | omega | assumption) at hb
      simp -implicitDefEqProofs (disch := first | omega | assumption) [hb, c1]
    by_cases c2 : 1073741824 < tick
    · simp -implicitDefEqProofs (disch := first | omega | assumption) at hb
      simp -implicitDefEqProofs (disch := first | omega | assumption) [hb, c1, c2]
    have e1 := hR.rid l car tick hF
    have e2 := hR.lrid l.trips car tick hF
    have e3 := hR.wai l tick hF.few
    have e4 := hR.don l tick hF.few
    have e5 := hR.whr l tick hW (by omega)
    obtain ⟨ts, ls, u⟩ := l
    dsimp only at hF hW e1 e2 e3 e4 e5
    have hfew := hF.few
    have hfew2 := hW.few
    obtain ⟨lo, hlo⟩ : ∃ lo : Obj, lo = ⟨3, [toAV (Log.cells ⟨ts, ls, u⟩)]⟩ := ⟨_, rfl⟩
    obtain ⟨ax, s', ⟨rfl, rfl⟩, hin⟩ : ∃ ax s', (ax = .ex 0 ∧ s' = ⟨[(1, i64 car), (2, i64 tick), (3, .loc 3 0 0), (7, slN 7 (idsL (wait1 tick) ts)), (8, slN 8 (idsL (done1 tick) ts)), (9, .sl 9 0 0 0)], [(3, lo), (7, obN (idsL (wait1 tick) ts)), (8, obN (idsL (done1 tick) ts)), (9, ⟨1, []⟩)]⟩) ∧ ∀ s0, nrm [1, 2, 3, 7, 8, 9, 10] [3, 7, 8, 9, 56, 69, 91] s0 = ⟨[(1, i64 car), (2, i64 tick), (3, .loc 3 0 0), (7, slN 7 (idsL (wait1 tick) (ts.take 0))), (8, slN 8 (idsL (done1 tick) (ts.take 0))), (9, .sl 9 0 0 0), (10, i64 (0 : Nat))], [(3, lo), (7, obN (idsL (wait1 tick) (ts.take 0))), (8, obN (idsL (done1 tick) (ts.take 0))), (9, ⟨1, []⟩)]⟩ → lp (exec Γ M law51_ReplayTells_l2) M s0 = some (ax, s') := by
      refine lp_all (fun q : Nat => ⟨[(1, i64 car), (2, i64 tick), (3, .loc 3 0 0), (7, slN 7 (idsL (wait1 tick) (ts.take q))), (8, slN 8 (idsL (done1 tick) (ts.take q))), (9, .sl 9 0 0 0), (10, i64 q)], [(3, lo), (7, obN (idsL (wait1 tick) (ts.take q))), (8, obN (idsL (done1 tick) (ts.take q))), (9, ⟨1, []⟩)]⟩) (fun q => q ≤ ts.length) (fun q => ts.length - q) _ 0 M (by simp) (by omega) (by omega) ?_
      intro k hk
      by_cases hlt : k < ts.length
      · obtain ⟨t, ht⟩ : ∃ t, ts[k]'hlt = t := ⟨_, rfl⟩
        have hid := hF.id k hlt
        rw [ht] at hid
        have hs1 := idsL_snoc (wait1 tick) ts k hlt
        have hs2 := idsL_snoc (done1 tick) ts k hlt
        rw [ht] at hs1 hs2
        have hl1 := idsL_le (wait1 tick) (ts.take k)
        have hl2 := idsL_le (done1 tick) (ts.take k)
        rw [List.length_take] at hl1 hl2
        have w1 : ((idsL (wait1 tick) (ts.take k)).map (toAV ∘ numD)).length = (idsL (wait1 tick) (ts.take k)).length := List.length_map _
        have w2 : ((idsL (done1 tick) (ts.take k)).map (toAV ∘ numD)).length = (idsL (done1 tick) (ts.take k)).length := List.length_map _
        have v1 := fun k => lcRows_comp k numD
        have v2 := fun k => nmRows_comp k numD
        have hS : ∃ q' : Nat, q' = k + 1 ∧ (wait1 tick t = false → idsL (wait1 tick) (ts.take q') = idsL (wait1 tick) (ts.take k)) ∧ (wait1 tick t = true → idsL (wait1 tick) (ts.take q') = idsL (wait1 tick) (ts.take k) ++ [(k : Int)]) ∧ (done1 tick t = false → idsL (done1 tick) (ts.take q') = idsL (done1 tick) (ts.take k)) ∧ (done1 tick t = true → idsL (done1 tick) (ts.take q') = idsL (done1 tick) (ts.take k) ++ [(k : Int)]) :=
          ⟨k + 1, rfl, fun h => by rw [hs1, h]; simp, fun h => by rw [hs1, h, hid]; rfl, fun h => by rw [hs2, h]; simp, fun h => by rw [hs2, h, hid]; rfl⟩
        obtain ⟨q', hq', s1, s2, s3, s4⟩ := hS
        clear hs1 hs2
        generalize hW1 : idsL (wait1 tick) (ts.take q') = W1 at *
        generalize hD1 : idsL (done1 tick) (ts.take q') = D1 at *
        generalize idsL (wait1 tick) (ts.take k) = W at *
        generalize idsL (done1 tick) (ts.take k) = D at *
        subst hlo
        by_cases a1 : t.arrive ≤ tick <;> by_cases a2 : t.board < 0 <;> by_cases a3 : tick < t.board <;> by_cases b1 : 0 ≤ t.alight <;> by_cases b2 : t.alight ≤ tick <;> first
          | omega
          | (simp [wait1, done1, a1, a2, a3, b1, b2] at s1 s2 s3 s4
             simp -implicitDefEqProofs (disch := first | omega | assumption) [hlt, ht, w1, w2, v1, v2, a1, a2, a3, b1, b2]
             refine ⟨q', ?_, by omega, by omega⟩
             rw [hW1, hD1]
             simp [s1, s2, s3, s4, numD, toAV]
             omega)
      · obtain rfl : k = ts.length := by omega
        rw [List.take_length, hlo]
        simp -implicitDefEqProofs (disch := first | omega | assumption)
    obtain ⟨W, hWd⟩ : ∃ W, idsL (wait1 tick) ts = W := ⟨_, rfl⟩
    obtain ⟨D, hDd⟩ : ∃ D, idsL (done1 tick) ts = D := ⟨_, rfl⟩
    have hWl : W.length ≤ 60 := by rw [← hWd]; exact Nat.le_trans (idsL_le _ _) hfew
    have hDl : D.length ≤ 60 := by rw [← hDd]; exact Nat.le_trans (idsL_le _ _) hfew
    have hUl : (whrL ls tick).length ≤ 60 := by simp [whrL]; omega
    have hEl : (srtE (evsR ts car tick)).length ≤ 60 := by
      rw [srtE_len, evsR_len]; exact Nat.le_trans (loadL_le _ _ _) hfew
    have q1 := hR.eq W hWl
    have q2 := hR.eq D hDl
    have q3 := hR.eq (whrL ls tick) hUl
    have q4 : Γ 109 [.c (.vs 1 ((srtE (evsR ts car tick)).map Ev.cells)), .c (.vs 1 ((srtE (evsR ts car tick)).map Ev.cells))] = some [bo true] := by
      have := hR.eq ((srtE (evsR ts car tick)).map (·.i)) (by rw [List.length_map]; exact hEl)
      unfold nuV at this
      rw [List.map_map] at this
      exact this
    rw [hWd] at e3 hin
    rw [hDd] at e4 hin
    have hlp := hin ⟨[(1, i64 car), (2, i64 tick), (3, .loc 3 0 0), (7, .sl 7 0 0 0), (8, .sl 8 0 0 0), (9, .sl 9 0 0 0), (10, i64 (0 : Nat))], [(3, lo), (7, ⟨1, []⟩), (8, ⟨1, []⟩), (9, ⟨1, []⟩)]⟩ (by simp [idsL])
    obtain ⟨ax, s', ⟨rfl, rfl⟩, hin2⟩ : ∃ ax s', (ax = .ex 2 ∧ s' = ⟨[(1, i64 car), (2, i64 tick), (3, .loc 3 0 0), (7, slN 7 W), (8, slN 8 D), (9, slN 9 (whrL ls tick))], [(3, lo), (7, obN W), (8, obN D), (9, obN (whrL ls tick))]⟩) ∧ ∀ s0, nrm [1, 2, 3, 7, 8, 9, 12] [3, 7, 8, 9, 56, 69, 91] s0 = ⟨[(1, i64 car), (2, i64 tick), (3, .loc 3 0 0), (7, slN 7 W), (8, slN 8 D), (9, slN 9 (whrL (ls.take 0) tick)), (12, i64 (0 : Nat))], [(3, lo), (7, obN W), (8, obN D), (9, obN (whrL (ls.take 0) tick))]⟩ → lp (exec Γ M law51_ReplayTells_l1) M s0 = some (ax, s') := by
      refine lp_all (fun q : Nat => ⟨[(1, i64 car), (2, i64 tick), (3, .loc 3 0 0), (7, slN 7 W), (8, slN 8 D), (9, slN 9 (whrL (ls.take q) tick)), (12, i64 q)], [(3, lo), (7, obN W), (8, obN D), (9, obN (whrL (ls.take q) tick))]⟩) (fun q => q ≤ ls.length) (fun q => ls.length - q) _ 0 M (by simp) (by omega) (by omega) ?_
      intro k hk
      have v1 := fun k => lcRows_comp k numD
      have v2 := fun k => nmRows_comp k numD
      by_cases hlt : k < ls.length
      · obtain ⟨g, hg⟩ : ∃ g, ls[k]'hlt = g := ⟨_, rfl⟩
        have e := hR.at_ g tick (hW.way g (by rw [← hg]; exact List.getElem_mem hlt)) (by omega)
        have hs := whrL_snoc ls tick k hlt
        rw [hg] at hs
        have hle : (whrL (ls.take k) tick).length = k := by simp [whrL]; omega
        have w1 : ((whrL (ls.take k) tick).map (toAV ∘ numD)).length = k := by rw [List.length_map, hle]
        have hS : ∃ q' : Nat, q' = k + 1 ∧ whrL (ls.take q') tick = whrL (ls.take k) tick ++ [(tickV g tick).1] := ⟨k + 1, rfl, hs⟩
        obtain ⟨q', hq', s1⟩ := hS
        clear hs
        generalize hW1 : whrL (ls.take q') tick = W1 at *
        generalize whrL (ls.take k) tick = U at *
        subst hlo
        simp only [tkD] at e
        simp -implicitDefEqProofs (disch := first | omega | assumption) [hlt, hg, e, hle, w1, v1, v2]
        refine ⟨q', ?_, by omega, by omega⟩
        rw [hW1]
        simp [s1, numD, toAV]
        omega
      · obtain rfl : k = ls.length := by omega
        rw [List.take_length, hlo]
        simp -implicitDefEqProofs (disch := first | omega | assumption)
    have hlp2 := hin2 ⟨[(1, i64 car), (2, i64 tick), (3, .loc 3 0 0), (7, slN 7 W), (8, slN 8 D), (9, .sl 9 0 0 0), (12, i64 (0 : Nat))], [(3, lo), (7, obN W), (8, obN D), (9, ⟨1, []⟩)]⟩ (by simp [whrL])
    subst hlo
    generalize (srtE (evsR ts car tick)).map Ev.cells = E at *
    have fw := allRows_comp numD W
    have fd := allRows_comp numD D
    have fu := allRows_comp numD (whrL ls tick)
    have tw : (W.map numD).take W.length = W.map numD := by rw [List.take_of_length_le]; rw [List.length_map]; omega
    have td : (D.map numD).take D.length = D.map numD := by rw [List.take_of_length_le]; rw [List.length_map]; omega
    have tu : ((whrL ls tick).map numD).take (whrL ls tick).length = (whrL ls tick).map numD := by rw [List.take_of_length_le]; rw [List.length_map]; omega
    simp -implicitDefEqProofs (disch := first | omega | assumption) at hb e1 e2 e3 e4 e5 hlp hlp2
    simp -implicitDefEqProofs (disch := first | omega | assumption) [hb, c1, c2, hlp, hlp2, e1, e2, e3, e4, e5, q1, q2, q3, q4, halive, fw, fd, fu, tw, td, tu]
end Go.Am.Si
