/- Law 66: what happens in a log: the reference's walk. -/
import Derived.Test.YtkjlejpaajcahaaStQ
set_option linter.unusedVariables false
set_option linter.unusedSimpArgs false
set_option maxRecDepth 10000
set_option maxHeartbeats 2000000
namespace Go.Am
/-- The row so far: nil at the begin. -/
def aV (X : List Ev) : AV := if X = [] then .nil 4 else vE (srtE X)
theorem aV_nil : aV [] = .nil 4 := rfl
theorem aV_some {X : List Ev} (h : X ≠ []) : aV X = vE (srtE X) := by unfold aV; rw [if_neg h]
theorem ref66_Of_run (Γ : Env) (M : Nat) (hM : 1000 < M) (hD : Drs25C (Γ 296)) (hP : PutC (Γ 295)) : OfC66 false (run Γ M ref66_Of_f) := by
  intro ts ls u H hts hls hw hh hH
  have hP0 : ∀ a b c d : Int, Γ 295 [.c (.vs 4 []), .agg [.int .i64 a, .int .i64 b, .int .i64 c, .int .i64 d]] = some [vE (srtE [⟨a, b, c, d⟩])] := fun a b c d => hP [] ⟨a, b, c, d⟩ (by simp) sor_nil
  have hP1 : ∀ (X : List Ev) (a b c d : Int), X.length ≤ 4000 → Γ 295 [.c (.vs 4 ((srtE X).map Ev.cells)), .agg [.int .i64 a, .int .i64 b, .int .i64 c, .int .i64 d]] = some [vE (srtE (X ++ [⟨a, b, c, d⟩]))] := by
    intro X a b c d hX
    have := hP (srtE X) ⟨a, b, c, d⟩ (by rw [srtE_len]; omega) (srtE_sor X)
    rw [srtE_congr ((srtE_perm X).append_right [⟨a, b, c, d⟩])] at this
    exact this
  obtain ⟨ax, s', ⟨rfl, rfl⟩, hin⟩ : ∃ ax s', (ax = .ex 0 ∧ s' = ⟨[(1, i64 H), (2, .loc 2 0 0), (5, aV (evsT ts))], [(2, ⟨3, [toAV (logD ts ls u)]⟩)]⟩) ∧ ∀ s0, nrm [1, 2, 5, 6] [2] s0 = ⟨[(1, i64 H), (2, .loc 2 0 0), (5, aV (evsT (ts.take 0))), (6, i64 (0 : Nat))], [(2, ⟨3, [toAV (logD ts ls u)]⟩)]⟩ → lp (exec Γ M ref66_Of_l3) M s0 = some (ax, s') := by
    refine lp_all (fun q : Nat => ⟨[(1, i64 H), (2, .loc 2 0 0), (5, aV (evsT (ts.take q))), (6, i64 q)], [(2, ⟨3, [toAV (logD ts ls u)]⟩)]⟩) (fun q => q ≤ ts.length) (fun q => ts.length - q) _ 0 M (by simp) (by omega) (by omega) ?_
    intro k hk
    by_cases hlt : k < ts.length
    · obtain ⟨t, ht⟩ : ∃ w, ts[k]'hlt = w := ⟨_, rfl⟩
      have hrow : (ts.map Trip.cells)[k]? = some t.cells := by simp [hlt, ht]
      have hsn := evsT_snoc ts hlt
      rw [ht] at hsn
      have hl2 := evsT_len (ts.take k)
      have hl3 : (ts.take k).length ≤ 100 := by simp; omega
      obtain ⟨X, hX⟩ : ∃ X, evsT (ts.take k) = X := ⟨_, rfl⟩
      rw [hX] at hsn hl2 ⊢
      have hne : X ++ tripE t ≠ [] := by simp [tripE]
      have fin : ∀ Y : List Ev, Y.Perm (X ++ tripE t) → vE (srtE Y) = aV (evsT (ts.take (k + 1))) := by
        intro Y hY
        rw [hsn, aV_some hne, srtE_congr hY]
      by_cases c0 : X = []
      · subst c0
        rw [aV_nil]
        by_cases c1 : 0 ≤ t.board
        · by_cases c2 : 0 ≤ t.alight
          · simp -implicitDefEqProofs (disch := first | omega | (simp <;> omega) | assumption) [-List.append_assoc, hlt, ht, hrow, Trip.cells, c1, c2, hP0, hP1]
            exact ⟨k + 1, ⟨fin _ (by simp [tripE, c1, c2, List.Perm.swap]), by omega⟩, by omega, by omega⟩
          · simp -implicitDefEqProofs (disch := first | omega | (simp <;> omega) | assumption) [-List.append_assoc, hlt, ht, hrow, Trip.cells, c1, c2, hP0, hP1]
            exact ⟨k + 1, ⟨fin _ (by simp [tripE, c1, c2, List.Perm.swap]), by omega⟩, by omega, by omega⟩
        · by_cases c2 : 0 ≤ t.alight
          · simp -implicitDefEqProofs (disch := first | omega | (simp <;> omega) | assumption) [-List.append_assoc, hlt, ht, hrow, Trip.cells, c1, c2, hP0, hP1]
            exact ⟨k + 1, ⟨fin _ (by simp [tripE, c1, c2, List.Perm.swap]), by omega⟩, by omega, by omega⟩
          · simp -implicitDefEqProofs (disch := first | omega | (simp <;> omega) | assumption) [-List.append_assoc, hlt, ht, hrow, Trip.cells, c1, c2, hP0, hP1]
            exact ⟨k + 1, ⟨fin _ (by simp [tripE, c1, c2, List.Perm.swap]), by omega⟩, by omega, by omega⟩
      · rw [aV_some c0]
        by_cases c1 : 0 ≤ t.board
        · by_cases c2 : 0 ≤ t.alight
          · simp -implicitDefEqProofs (disch := first | omega | (simp <;> omega) | assumption) [-List.append_assoc, hlt, ht, hrow, Trip.cells, c1, c2, hP0, hP1]
            exact ⟨k + 1, ⟨fin _ (by simp only [tripE, c1, c2, if_true, List.append_assoc, List.cons_append, List.nil_append]; exact List.Perm.append_left X ((List.Perm.swap _ _ _).cons _)), by omega⟩, by omega, by omega⟩
          · simp -implicitDefEqProofs (disch := first | omega | (simp <;> omega) | assumption) [-List.append_assoc, hlt, ht, hrow, Trip.cells, c1, c2, hP0, hP1]
            exact ⟨k + 1, ⟨fin _ (by simp [tripE, c1, c2, List.Perm.swap]), by omega⟩, by omega, by omega⟩
        · by_cases c2 : 0 ≤ t.alight
          · simp -implicitDefEqProofs (disch := first | omega | (simp <;> omega) | assumption) [-List.append_assoc, hlt, ht, hrow, Trip.cells, c1, c2, hP0, hP1]
            exact ⟨k + 1, ⟨fin _ (by simp [tripE, c1, c2, List.Perm.swap]), by omega⟩, by omega, by omega⟩
          · simp -implicitDefEqProofs (disch := first | omega | (simp <;> omega) | assumption) [-List.append_assoc, hlt, ht, hrow, Trip.cells, c1, c2, hP0, hP1]
            exact ⟨k + 1, ⟨fin _ (by simp [tripE, c1, c2, List.Perm.swap]), by omega⟩, by omega, by omega⟩
    · obtain rfl : k = ts.length := by omega
      have htk : ts.take ts.length = ts := List.take_length
      rw [htk]
      generalize aV (evsT ts) = V at *
      simp -implicitDefEqProofs (disch := first | omega | (simp <;> omega) | assumption) []
  have inner : ∀ (R : List Sp) (X : List Ev) (i : Nat), R.length ≤ 40 → X.length ≤ 2000 → i ≤ 10 → ∀ s0, nrm [1, 2, 5, 8, 9, 10] [2] s0 = ⟨[(1, i64 H), (2, .loc 2 0 0), (5, aV X), (8, i64 i), (9, vS R), (10, i64 (0 : Nat))], [(2, ⟨3, [toAV (logD ts ls u)]⟩)]⟩ → lp (exec Γ M ref66_Of_l1) M s0 = some (.ex 4, ⟨[(1, i64 H), (2, .loc 2 0 0), (5, aV (X ++ R.flatMap (spanE H i))), (8, i64 i)], [(2, ⟨3, [toAV (logD ts ls u)]⟩)]⟩) := by
    intro R X i hR hX hi
    obtain ⟨F, hF⟩ : ∃ F : Nat → List Ev, ∀ q, F q = X ++ (R.take q).flatMap (spanE H i) := ⟨_, fun _ => rfl⟩
    have hF0 : F 0 = X := by rw [hF]; simp
    have hFe : F R.length = X ++ R.flatMap (spanE H i) := by rw [hF, List.take_length]
    rw [← hFe]
    obtain ⟨ax, s', ⟨rfl, rfl⟩, hin⟩ : ∃ ax s', (ax = .ex 4 ∧ s' = ⟨[(1, i64 H), (2, .loc 2 0 0), (5, aV (F R.length)), (8, i64 i)], [(2, ⟨3, [toAV (logD ts ls u)]⟩)]⟩) ∧ ∀ s0, nrm [1, 2, 5, 8, 9, 10] [2] s0 = ⟨[(1, i64 H), (2, .loc 2 0 0), (5, aV (F 0)), (8, i64 i), (9, vS R), (10, i64 (0 : Nat))], [(2, ⟨3, [toAV (logD ts ls u)]⟩)]⟩ → lp (exec Γ M ref66_Of_l1) M s0 = some (ax, s') := by
      refine lp_all (fun q : Nat => ⟨[(1, i64 H), (2, .loc 2 0 0), (5, aV (F q)), (8, i64 i), (9, vS R), (10, i64 q)], [(2, ⟨3, [toAV (logD ts ls u)]⟩)]⟩) (fun q => q ≤ R.length) (fun q => R.length - q) _ 0 M (by simp) (by omega) (by omega) ?_
      intro k hk
      by_cases hlt : k < R.length
      · obtain ⟨⟨a, b⟩, ht⟩ : ∃ w, R[k]'hlt = w := ⟨_, rfl⟩
        have hrow : (R.map Sp.cells)[k]? = some [.int .i64 a, .int .i64 b] := by simp [hlt, ht, Sp.cells]
        have hsn : F (k + 1) = F k ++ spanE H i (a, b) := by
          rw [hF, hF, List.take_succ_eq_append_getElem hlt, List.flatMap_append, ht]; simp
        have hl2 := flat_len (spanE H i) 2 (spanE_len H i) (R.take k)
        have hl3 : (R.take k).length ≤ 40 := by simp; omega
        have hl4 : (F k).length ≤ 2100 := by rw [hF]; simp only [List.length_append]; omega
        have hne : F (k + 1) ≠ [] := by rw [hsn]; simp [spanE]
        have hfin := aV_some hne
        by_cases c0 : F k = []
        · rw [c0] at hsn ⊢
          rw [aV_nil]
          by_cases c1 : b < H
          · simp -implicitDefEqProofs (disch := first | omega | (simp <;> omega) | assumption) [-List.append_assoc, hlt, ht, hrow, Sp.cells, c1, hP0, hP1]
            exact ⟨k + 1, ⟨by rw [hfin, hsn]; simp [spanE, c1], by omega⟩, by omega, by omega⟩
          · simp -implicitDefEqProofs (disch := first | omega | (simp <;> omega) | assumption) [-List.append_assoc, hlt, ht, hrow, Sp.cells, c1, hP0, hP1]
            exact ⟨k + 1, ⟨by rw [hfin, hsn]; simp [spanE, c1], by omega⟩, by omega, by omega⟩
        · rw [aV_some c0]
          generalize F k = Y at *
          by_cases c1 : b < H
          · simp -implicitDefEqProofs (disch := first | omega | (simp <;> omega) | assumption) [-List.append_assoc, hlt, ht, hrow, Sp.cells, c1, hP0, hP1]
            exact ⟨k + 1, ⟨by rw [hfin, hsn]; simp [spanE, c1], by omega⟩, by omega, by omega⟩
          · simp -implicitDefEqProofs (disch := first | omega | (simp <;> omega) | assumption) [-List.append_assoc, hlt, ht, hrow, Sp.cells, c1, hP0, hP1]
            exact ⟨k + 1, ⟨by rw [hfin, hsn]; simp [spanE, c1], by omega⟩, by omega, by omega⟩
      · obtain rfl : k = R.length := by omega
        generalize aV (F R.length) = V at *
        simp -implicitDefEqProofs (disch := first | omega | (simp <;> omega) | assumption) []
    rw [hF0] at hin
    exact hin
  obtain ⟨F, hF⟩ : ∃ F : Nat → List Ev, ∀ q, F q = evsT ts ++ legsE H 0 (ls.take q) := ⟨_, fun _ => rfl⟩
  have hF0 : F 0 = evsT ts := by rw [hF]; simp [legsE]
  have hFe : F ls.length = evsT ts ++ legsE H 0 ls := by rw [hF, List.take_length]
  have hFl : ∀ q, (F q).length ≤ 1100 := by
    intro q
    have h1 := legsE_len H (ls.take q) 0 fun l hl => (hw l (List.mem_of_mem_take hl)).few
    have h2 := evsT_len ts
    have h3 : (ls.take q).length ≤ 10 := by simp; omega
    rw [hF]; simp only [List.length_append]; omega
  rw [← hFe]
  obtain ⟨ax, s', ⟨rfl, rfl⟩, hin2⟩ : ∃ ax s', (ax = .ex 2 ∧ s' = ⟨[(5, aV (F ls.length))], []⟩) ∧ ∀ s0, nrm [1, 2, 5, 8] [2] s0 = ⟨[(1, i64 H), (2, .loc 2 0 0), (5, aV (F 0)), (8, i64 (0 : Nat))], [(2, ⟨3, [toAV (logD ts ls u)]⟩)]⟩ → lp (exec Γ M ref66_Of_l2) M s0 = some (ax, s') := by
    refine lp_all (fun q : Nat => ⟨[(1, i64 H), (2, .loc 2 0 0), (5, aV (F q)), (8, i64 q)], [(2, ⟨3, [toAV (logD ts ls u)]⟩)]⟩) (fun q => q ≤ ls.length) (fun q => ls.length - q) _ 0 M (by simp) (by omega) (by omega) ?_
    intro k hk
    by_cases hlt : k < ls.length
    · obtain ⟨l, hl⟩ : ∃ w, ls[k]'hlt = w := ⟨_, rfl⟩
      have hlm : l ∈ ls := by rw [← hl]; exact List.getElem_mem hlt
      have hrow : (ls.map fun l => [dL l])[k]? = some [dL l] := by simp [hlt, hl]
      have e := hD l H (hw l hlm) hH (hh l hlm)
      have hR : (trk H [] l).length ≤ 40 := by have := trk_len H l []; have := (hw l hlm).few; simp at *; omega
      have hsn : F (k + 1) = F k ++ (trk H [] l).flatMap (spanE H k) := by
        rw [hF, hF, List.take_succ_eq_append_getElem hlt, legsE_snoc, hl, Nat.zero_add, show (ls.take k).length = k by simp; omega, List.append_assoc]; rfl
      have hfl := hFl k
      have hi := inner (trk H [] l) (F k) k hR (by omega) (by omega)
      generalize trk H [] l = R at *
      rw [← hsn] at hi
      have hi2 := hi ⟨[(1, i64 H), (2, .loc 2 0 0), (5, aV (F k)), (8, i64 k), (9, vS R), (10, i64 0)], [(2, ⟨3, [[.c (.vs 7 (ts.map Trip.cells)), .c (.vs 1 (ls.map fun l => [dL l])), i64 u]]⟩)]⟩ (by
        generalize aV (F k) = V at *
        simp -implicitDefEqProofs (disch := first | omega | (simp <;> omega) | assumption) [])
      generalize aV (F k) = V at *
      have hv : ∃ q, aV (F (k + 1)) = aV (F q) ∧ q = k + 1 := ⟨_, rfl, rfl⟩
      simp -implicitDefEqProofs (disch := first | omega | (simp <;> omega) | assumption) [hlt, hl, hrow, e, hi2]
      exact ⟨k + 1, ⟨rfl, by omega⟩, by omega, by omega⟩
    · obtain rfl : k = ls.length := by omega
      generalize aV (F ls.length) = V at *
      simp -implicitDefEqProofs (disch := first | omega | (simp <;> omega) | assumption) []
  have h1 := hin ⟨[(1, i64 H), (2, .loc 2 0 0), (5, .nil 4), (6, i64 0)], [(2, ⟨3, [[.c (.vs 7 (ts.map Trip.cells)), .c (.vs 1 (ls.map fun l => [dL l])), i64 u]]⟩)]⟩ (by
    simp -implicitDefEqProofs (disch := first | omega | (simp <;> omega) | assumption) [evsT, aV_nil])
  have h2 := hin2 ⟨[(1, i64 H), (2, .loc 2 0 0), (5, aV (F 0)), (8, i64 0)], [(2, ⟨3, [[.c (.vs 7 (ts.map Trip.cells)), .c (.vs 1 (ls.map fun l => [dL l])), i64 u]]⟩)]⟩ (by
    generalize aV (F 0) = V at *
    simp -implicitDefEqProofs (disch := first | omega | (simp <;> omega) | assumption) [])
  rw [hF0] at h2
  generalize F ls.length = L at *
  by_cases c0 : L = []
  · subst c0
    rw [aV_nil] at h2
    generalize aV (evsT ts) = V at *
    simp -implicitDefEqProofs (disch := first | omega | (simp <;> omega) | assumption) [h1, h2]
    rfl
  · rw [aV_some c0] at h2
    generalize aV (evsT ts) = V at *
    simp -implicitDefEqProofs (disch := first | omega | (simp <;> omega) | assumption) [h1, h2]
end Go.Am
