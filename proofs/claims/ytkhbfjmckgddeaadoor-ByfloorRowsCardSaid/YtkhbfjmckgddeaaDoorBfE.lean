/- Law 70: ByfloorRows. -/
import Derived.Test.YtkhbfjmckgddeaaDoorBfD
set_option linter.unusedVariables false
set_option linter.unusedSimpArgs false
set_option maxRecDepth 10000
set_option maxHeartbeats 4000000
namespace Go.Am
structure Tm (t : Trip) : Prop where
  arr : -1 ≤ t.arrive ∧ t.arrive ≤ 1073741824
  brd : -1 ≤ t.board ∧ t.board ≤ 1073741824
  alt : -1 ≤ t.alight ∧ t.alight ≤ 1073741824
structure Gd (l : List Trip) : Prop where
  n : l.length ≤ 100
  all : ∀ t ∈ l, Tm t
theorem mxL_spec : ∀ (xs : List Int) (a : Int), ∃ m, maxL .i64 a (xs.map fun x => i64 x) = some m ∧ ∀ z, m ≤ z ↔ (a ≤ z ∧ ∀ x ∈ xs, x ≤ z)
  | [], a => ⟨a, rfl, fun z => by simp⟩
  | b :: xs, a => by
    obtain ⟨m, h1, h2⟩ := mxL_spec xs (if a < b then b else a)
    refine ⟨m, by simpa [maxL] using h1, fun z => ?_⟩
    rw [h2, List.forall_mem_cons]
    constructor
    · rintro ⟨h3, h4⟩
      split at h3
      · exact ⟨by omega, h3, h4⟩
      · exact ⟨h3, by omega, h4⟩
    · rintro ⟨h3, h4, h5⟩
      refine ⟨?_, h5⟩
      split <;> assumption
theorem mnL_spec : ∀ (xs : List Int) (a : Int), ∃ m, minL .i64 a (xs.map fun x => i64 x) = some m ∧ ∀ z, z ≤ m ↔ (z ≤ a ∧ ∀ x ∈ xs, z ≤ x)
  | [], a => ⟨a, rfl, fun z => by simp⟩
  | b :: xs, a => by
    obtain ⟨m, h1, h2⟩ := mnL_spec xs (if b < a then b else a)
    refine ⟨m, by simpa [minL] using h1, fun z => ?_⟩
    rw [h2, List.forall_mem_cons]
    constructor
    · rintro ⟨h3, h4⟩
      split at h3
      · exact ⟨by omega, h3, h4⟩
      · exact ⟨h3, by omega, h4⟩
    · rintro ⟨h3, h4, h5⟩
      refine ⟨?_, h5⟩
      split <;> assumption
def Great24 (g : List AV → Option (List AV)) : Prop := ∀ l : List Trip, ∃ b, g [vTb l] = some [bo b] ∧ (b = false → Gd l)
theorem law24_Great_run (Γ : Env) (M : Nat) (hM : 1000 < M) : Great24 (run Γ M law24_Great_f) := by
  intro l
  by_cases c : 100 < l.length
  · have c' : 100 < (l.length : Int) := by omega
    exact ⟨true, by simp -implicitDefEqProofs (disch := first | omega | assumption) [c, c'], by simp⟩
  have c' : ¬ 100 < (l.length : Int) := by omega
  obtain ⟨ax, s', hR, hin⟩ : ∃ ax s', ((ax = .ex 0 ∧ s' = ⟨[], []⟩ ∧ ∀ t ∈ l, Tm t) ∨ (ax = .ret ∧ s' = ⟨[(2, bo true)], []⟩)) ∧ ∀ s0, nrm [0, 3] [] s0 = ⟨[(0, vTb l), (3, i64 (0 : Nat))], []⟩ → lp (exec Γ M law24_Great_l1) M s0 = some (ax, s') := by
    refine lp_all (fun q : Nat => ⟨[(0, vTb l), (3, i64 q)], []⟩) (fun q => q ≤ l.length ∧ ∀ t ∈ l.take q, Tm t) (fun q => l.length - q) _ 0 M (by simp) ⟨by simp, by simp⟩ (by omega) ?_
    rintro k ⟨hk, hq⟩
    by_cases hlt : k < l.length
    · obtain ⟨t, ht⟩ : ∃ w, l[k]'hlt = w := ⟨_, rfl⟩
      have hrow := bt_get hlt ht
      obtain ⟨m, hm, hm2⟩ := mxL_spec [t.board, t.alight] t.arrive
      have hm3 := hm2 1073741824
      simp only [List.map_cons, List.map_nil, List.forall_mem_cons, Trip.cells] at hm hm3 hrow
      have hnext : Tm t → ∀ x ∈ l.take (k + 1), Tm x := by
        intro h x hx
        rw [List.take_succ_eq_append_getElem hlt, ht, List.mem_append] at hx
        rcases hx with hx | hx
        · exact hq x hx
        · rw [List.mem_singleton] at hx; exact hx ▸ h
      by_cases c1 : t.arrive < -1
      · simp -implicitDefEqProofs (disch := first | omega | assumption) [-maxL, hlt, hrow, hm, c1]
      by_cases c2 : t.board < -1
      · simp -implicitDefEqProofs (disch := first | omega | assumption) [-maxL, hlt, hrow, hm, c1, c2]
      by_cases c3 : t.alight < -1
      · simp -implicitDefEqProofs (disch := first | omega | assumption) [-maxL, hlt, hrow, hm, c1, c2, c3]
      by_cases c4 : 1073741824 < m
      · simp -implicitDefEqProofs (disch := first | omega | assumption) [-maxL, hlt, hrow, hm, c1, c2, c3, c4]
      · obtain ⟨d1, d2, d3, -⟩ := hm3.1 (by omega)
        have hn := hnext ⟨⟨by omega, d1⟩, ⟨by omega, d2⟩, ⟨by omega, d3⟩⟩
        simp -implicitDefEqProofs (disch := first | omega | assumption) [-maxL, hlt, hrow, hm, c1, c2, c3, c4]
        exact ⟨k + 1, by omega, ⟨by omega, hn⟩, by omega⟩
    · obtain rfl : k = l.length := by omega
      rw [List.take_length] at hq
      simp -implicitDefEqProofs (disch := first | omega | assumption)
      exact hq
  rcases hR with ⟨rfl, rfl, hok⟩ | ⟨rfl, rfl⟩
  · exact ⟨false, by simp -implicitDefEqProofs (disch := first | omega | (simp <;> fail) | assumption) [c, c', hin], fun _ => ⟨by omega, hok⟩⟩
  · exact ⟨true, by simp -implicitDefEqProofs (disch := first | omega | (simp <;> fail) | assumption) [c, c', hin], by simp⟩
def eR (es : List BE) : Rows := es.map (toAV ∘ BE.cells)
theorem eR_len (es : List BE) : (eR es).length = es.length := by simp [eR]
theorem eR_snoc (es : List BE) (e : BE) : eR (es ++ [e]) = eR es ++ [cellsA e] := by simp [eR, cellsA, BE.cells, toAV]
/-- The guard. -/
theorem l3_run (Γ : Env) (M : Nat) (hM : 1000 < M) (l : List Trip) (hg : Gd l) (kf kd : Int) :
    ∃ ax s', ((ax = .ret ∧ ∃ ob, s' = ⟨[(4, bo true)], ob⟩) ∨ (ax = .ex 0 ∧ s' = ⟨[(0, vTb l), (3, .loc 3 0 0)], [(3, ⟨2, [[i64 kf, i64 kd]]⟩)]⟩ ∧ ∀ t ∈ l, Tb t)) ∧ ∀ s0, nrm [0, 3, 5] [3] s0 = ⟨[(0, vTb l), (3, .loc 3 0 0), (5, i64 (0 : Nat))], [(3, ⟨2, [[i64 kf, i64 kd]]⟩)]⟩ → lp (exec Γ M law70_ByfloorRows_l3) M s0 = some (ax, s') := by
  have hgn := hg.n
  refine lp_all (fun q : Nat => ⟨[(0, vTb l), (3, .loc 3 0 0), (5, i64 q)], [(3, ⟨2, [[i64 kf, i64 kd]]⟩)]⟩) (fun q => q ≤ l.length ∧ ∀ t ∈ l.take q, Tb t) (fun q => l.length - q) _ 0 M (by simp) ⟨by simp, by simp⟩ (by omega) ?_
  rintro k ⟨hk, hq⟩
  by_cases hlt : k < l.length
  · obtain ⟨t, ht⟩ : ∃ w, l[k]'hlt = w := ⟨_, rfl⟩
    have hrow := bt_get hlt ht
    obtain ⟨g1, g2, g3⟩ := hg.all t (ht ▸ List.getElem_mem hlt)
    obtain ⟨m, hm, hm2⟩ := mnL_spec [t.to] t.frm
    obtain ⟨x, hx, hx2⟩ := mxL_spec [t.to] t.frm
    have hm3 := hm2 0
    have hx3 := hx2 127
    simp only [List.map_cons, List.map_nil, List.forall_mem_cons, Trip.cells] at hm hx hm3 hx3 hrow
    have hnext : Tb t → ∀ x ∈ l.take (k + 1), Tb x := by
      intro h x hx
      rw [List.take_succ_eq_append_getElem hlt, ht, List.mem_append] at hx
      rcases hx with hx | hx
      · exact hq x hx
      · rw [List.mem_singleton] at hx; exact hx ▸ h
    by_cases c1 : m < 0
    · simp -implicitDefEqProofs (disch := first | omega | assumption) [-minL, -maxL, hlt, hrow, hm, hx, c1]
    by_cases c2 : 127 < x
    · simp -implicitDefEqProofs (disch := first | omega | assumption) [-minL, -maxL, hlt, hrow, hm, hx, c1, c2]
    obtain ⟨d1, d2, -⟩ := hm3.1 (by omega)
    obtain ⟨f1, f2, -⟩ := hx3.1 (by omega)
    by_cases c3 : 0 ≤ t.board
    · by_cases c4 : t.board < t.arrive
      · simp -implicitDefEqProofs (disch := first | omega | assumption) [-minL, -maxL, hlt, hrow, hm, hx, c1, c2, c3, c4]
      · simp -implicitDefEqProofs (disch := first | omega | assumption) [-minL, -maxL, hlt, hrow, hm, hx, c1, c2, c3, c4]
        exact ⟨k + 1, by omega, ⟨by omega, hnext ⟨⟨d1, f1⟩, ⟨d2, f2⟩, g1, g2, fun _ => by omega⟩⟩, by omega⟩
    · simp -implicitDefEqProofs (disch := first | omega | assumption) [-minL, -maxL, hlt, hrow, hm, hx, c1, c2, c3]
      exact ⟨k + 1, by omega, ⟨by omega, hnext ⟨⟨d1, f1⟩, ⟨d2, f2⟩, g1, g2, fun h => absurd h c3⟩⟩, by omega⟩
  · obtain rfl : k = l.length := by omega
    rw [List.take_length] at hq
    simp -implicitDefEqProofs (disch := first | omega | assumption)
    exact hq
theorem at3 (f j : Nat) (hj : j < 3) : fAt (3 * f + j) = f ∧ dAt (3 * f + j) = 1 - (j : Int) := by
  unfold fAt dAt; constructor <;> omega
theorem l1_run {Γ : Env} {M : Nat} (hM : 1000 < M) (h1 : RowC70 (Γ 449)) (h2 : Of (Γ 6)) (l : List Trip) (hn : l.length ≤ 100) (hl : ∀ t ∈ l, Tb t) (kf kd : Int) (f : Nat) (hf : f < 128) :
    ∀ s0, nrm [0, 3, 7, 8, 9, 10, 11, 12] [3, 7, 8, 10, 60, 80, 116] s0 = ⟨[(0, vTb l), (3, .loc 3 0 0), (7, .sl 7 (wantE l (3 * f + 0)).length 0 (wantE l (3 * f + 0)).length), (8, .loc 8 0 0), (9, bo (wst (wantE l (3 * f + 0))).2), (10, .sl 60 ((wantE l (3 * f + 0)).length + 1) 0 ((wantE l (3 * f + 0)).length + 1)), (11, i64 f), (12, i64 (1 - ((0 : Nat) : Int)))], [(3, ⟨2, [[i64 kf, i64 kd]]⟩), (7, ⟨6, eR (wantE l (3 * f + 0))⟩), (8, ⟨6, [cellsA (wst (wantE l (3 * f + 0))).1]⟩), (60, ⟨1, trF (tabF (wantE l (3 * f + 0)))⟩)]⟩ →
      lp (exec Γ M law70_ByfloorRows_l1) M s0 = some (.ex 4, ⟨[(0, vTb l), (3, .loc 3 0 0), (7, .sl 7 (wantE l (3 * f + 3)).length 0 (wantE l (3 * f + 3)).length), (8, .loc 8 0 0), (9, bo (wst (wantE l (3 * f + 3))).2), (10, .sl 60 ((wantE l (3 * f + 3)).length + 1) 0 ((wantE l (3 * f + 3)).length + 1)), (11, i64 f)], [(3, ⟨2, [[i64 kf, i64 kd]]⟩), (7, ⟨6, eR (wantE l (3 * f + 3))⟩), (8, ⟨6, [cellsA (wst (wantE l (3 * f + 3))).1]⟩), (60, ⟨1, trF (tabF (wantE l (3 * f + 3)))⟩)]⟩) := by
  obtain ⟨ax, s', ⟨rfl, rfl⟩, hin⟩ : ∃ ax s', (ax = .ex 4 ∧ s' = ⟨[(0, vTb l), (3, .loc 3 0 0), (7, .sl 7 (wantE l (3 * f + 3)).length 0 (wantE l (3 * f + 3)).length), (8, .loc 8 0 0), (9, bo (wst (wantE l (3 * f + 3))).2), (10, .sl 60 ((wantE l (3 * f + 3)).length + 1) 0 ((wantE l (3 * f + 3)).length + 1)), (11, i64 f)], [(3, ⟨2, [[i64 kf, i64 kd]]⟩), (7, ⟨6, eR (wantE l (3 * f + 3))⟩), (8, ⟨6, [cellsA (wst (wantE l (3 * f + 3))).1]⟩), (60, ⟨1, trF (tabF (wantE l (3 * f + 3)))⟩)]⟩) ∧ ∀ s0, nrm [0, 3, 7, 8, 9, 10, 11, 12] [3, 7, 8, 10, 60, 80, 116] s0 = ⟨[(0, vTb l), (3, .loc 3 0 0), (7, .sl 7 (wantE l (3 * f + 0)).length 0 (wantE l (3 * f + 0)).length), (8, .loc 8 0 0), (9, bo (wst (wantE l (3 * f + 0))).2), (10, .sl 60 ((wantE l (3 * f + 0)).length + 1) 0 ((wantE l (3 * f + 0)).length + 1)), (11, i64 f), (12, i64 (1 - ((0 : Nat) : Int)))], [(3, ⟨2, [[i64 kf, i64 kd]]⟩), (7, ⟨6, eR (wantE l (3 * f + 0))⟩), (8, ⟨6, [cellsA (wst (wantE l (3 * f + 0))).1]⟩), (60, ⟨1, trF (tabF (wantE l (3 * f + 0)))⟩)]⟩ → lp (exec Γ M law70_ByfloorRows_l1) M s0 = some (ax, s') := by
    refine lp_all (fun j : Nat => ⟨[(0, vTb l), (3, .loc 3 0 0), (7, .sl 7 (wantE l (3 * f + j)).length 0 (wantE l (3 * f + j)).length), (8, .loc 8 0 0), (9, bo (wst (wantE l (3 * f + j))).2), (10, .sl 60 ((wantE l (3 * f + j)).length + 1) 0 ((wantE l (3 * f + j)).length + 1)), (11, i64 f), (12, i64 (1 - (j : Int)))], [(3, ⟨2, [[i64 kf, i64 kd]]⟩), (7, ⟨6, eR (wantE l (3 * f + j))⟩), (8, ⟨6, [cellsA (wst (wantE l (3 * f + j))).1]⟩), (60, ⟨1, trF (tabF (wantE l (3 * f + j)))⟩)]⟩) (fun j => j ≤ 3) (fun j => 3 - j) _ 0 M (by simp) (by simp) (by omega) ?_
    intro j hj
    by_cases hlt : j < 3
    · obtain ⟨x1, x2⟩ := at3 f j hlt
      have hok := rowI3_ok hn hl (i := 3 * f + j) (by omega)
      have hxy := rowI3_x l (3 * f + j)
      have e := h1 l f (1 - (j : Int)) hn hl
      rw [← x1, ← x2] at e
      rw [show rowL l (fAt (3 * f + j)) (dAt (3 * f + j)) = rowI3 l (3 * f + j) from rfl, x1, x2] at e
      rw [x1, x2] at hxy
      have hsn := wantE_snoc l (3 * f + j)
      have hgo : ∀ E : List BE, wantE l (3 * f + j + 1) = E → ∃ q' : Nat, (⟨[(0, vTb l), (3, .loc 3 0 0), (7, .sl 7 E.length 0 E.length), (8, .loc 8 0 0), (9, bo (wst E).2), (10, .sl 60 (E.length + 1) 0 (E.length + 1)), (11, i64 f), (12, i64 (1 - (j : Int) - 1))], [(3, ⟨2, [[i64 kf, i64 kd]]⟩), (7, ⟨6, eR E⟩), (8, ⟨6, [cellsA (wst E).1]⟩), (60, ⟨1, trF (tabF E)⟩)]⟩ : St) = ⟨[(0, vTb l), (3, .loc 3 0 0), (7, .sl 7 (wantE l (3 * f + q')).length 0 (wantE l (3 * f + q')).length), (8, .loc 8 0 0), (9, bo (wst (wantE l (3 * f + q'))).2), (10, .sl 60 ((wantE l (3 * f + q')).length + 1) 0 ((wantE l (3 * f + q')).length + 1)), (11, i64 f), (12, i64 (1 - (q' : Int)))], [(3, ⟨2, [[i64 kf, i64 kd]]⟩), (7, ⟨6, eR (wantE l (3 * f + q'))⟩), (8, ⟨6, [cellsA (wst (wantE l (3 * f + q'))).1]⟩), (60, ⟨1, trF (tabF (wantE l (3 * f + q')))⟩)]⟩ ∧ q' ≤ 3 ∧ 3 - q' < 3 - j := by
        rintro E rfl; exact ⟨j + 1, by rw [show (1 : Int) - j - 1 = 1 - ((j + 1 : Nat) : Int) by omega]; rfl, by omega, by omega⟩
      have hWl := wantE_len2 l (3 * f + j)
      obtain ⟨W, hW⟩ : ∃ W, wantE l (3 * f + j) = W := ⟨_, rfl⟩
      rw [hW] at hsn hWl
      simp only [hW]
      have hl7 := eR_len W
      have hl60 := trF_len (tabF W)
      rw [tabF_len] at hl60
      have hn7 : ∀ z, nmRows z (eR W) = true := fun z => nmRows_comp z BE.cells _
      have hc7 : ∀ z, lcRows z (eR W) = true := fun z => lcRows_comp z BE.cells _
      have hn60 : ∀ z, nmRows z (trF (tabF W)) = true := fun z => nmRows_comp z rowQ _
      have hc60 : ∀ z, lcRows z (trF (tabF W)) = true := fun z => lcRows_comp z rowQ _
      generalize rowI3 l (3 * f + j) = R at *
      obtain ⟨o1, o2, o3, o4, o5⟩ := hok
      have a1 := h2 f ⟨by omega, by omega⟩
      have a2 := h2 R.c ⟨by omega, by omega⟩
      have a3 := h2 R.s ⟨by omega, by omega⟩
      have a4 := h2 R.u ⟨by omega, by omega⟩
      have a5 := h2 R.m ⟨by omega, by omega⟩
      have hj3 : (j : Int) ≤ 2 := by omega
      simp only [BE.cells] at e
      by_cases c0 : R.c = 0
      · rw [if_pos c0, List.append_nil] at hsn
        obtain ⟨q', q1, q2, q3⟩ := hgo W hsn
        generalize eR W = G7 at *
        generalize trF (tabF W) = G60 at *
        generalize wst W = B at *
        simp -implicitDefEqProofs (disch := first | omega | (simp [hl7, hl60, hn7, hc7, hn60, hc60] <;> fail) | assumption) [hlt, hj3, e, c0, hl7, hl60, hn7, hc7, hn60, hc60, cellsA]
        exact ⟨q', by simpa [cellsA] using q1, q2, q3⟩
      · rw [if_neg c0] at hsn
        obtain ⟨q', q1, q2, q3⟩ := hgo (W ++ [R]) hsn
        rw [eR_snoc, tabF_snoc, trF_snoc, wst_snoc, List.length_append, List.length_singleton] at q1
        have hR : rowTF R = [txt f, if 0 < R.y then [117, 112] else [100, 111, 119, 110], txt R.c, txt R.s, txt R.u, txt R.m] := by unfold rowTF; rw [hxy.1]
        rw [hR, hxy.2] at q1
        have hy : (0 < 1 - (j : Int)) ↔ (j : Int) < 1 := by omega
        generalize eR W = G7 at *
        generalize trF (tabF W) = G60 at *
        obtain ⟨⟨B, sm⟩, hB⟩ : ∃ q, wst W = q := ⟨_, rfl⟩
        rw [hB] at q1
        simp only [hB]
        generalize W.length = n at *
        unfold wstS at q1
        simp only at q1
        by_cases cj : (j : Int) < 1
        · rw [if_pos (hy.2 cj)] at q1
          by_cases c1 : 0 < R.s
          · cases sm with
            | false =>
              simp only [if_pos (show 0 < R.s ∧ (False ∨ True) from ⟨c1, .inr trivial⟩), c1, true_and, true_or, if_true] at q1
              simp -implicitDefEqProofs (disch := first | omega | (simp [hl7, hl60, hn7, hc7, hn60, hc60] <;> fail) | assumption) [hlt, hj3, e, c0, c1, cj, a1, a2, a3, a4, a5, hl7, hl60, hn7, hc7, hn60, hc60, cellsA]
              exact ⟨q', by first | (simp [cellsA] at q1 ⊢; exact q1) | (simp [cellsA] at q1; exact q1), q2, q3⟩
            | true =>
              by_cases c2 : B.m < R.m
              · simp only [c1, c2, or_true, and_self, if_true] at q1
                simp -implicitDefEqProofs (disch := first | omega | (simp [hl7, hl60, hn7, hc7, hn60, hc60] <;> fail) | assumption) [hlt, hj3, e, c0, c1, c2, cj, a1, a2, a3, a4, a5, hl7, hl60, hn7, hc7, hn60, hc60, cellsA]
                exact ⟨q', by first | (simp [cellsA] at q1 ⊢; exact q1) | (simp [cellsA] at q1; exact q1), q2, q3⟩
              · simp only [c1, c2, Bool.true_eq_false, or_self, and_false, if_false] at q1
                simp -implicitDefEqProofs (disch := first | omega | (simp [hl7, hl60, hn7, hc7, hn60, hc60] <;> fail) | assumption) [hlt, hj3, e, c0, c1, c2, cj, a1, a2, a3, a4, a5, hl7, hl60, hn7, hc7, hn60, hc60, cellsA]
                exact ⟨q', by first | (simp [cellsA] at q1 ⊢; exact q1) | (simp [cellsA] at q1; exact q1), q2, q3⟩
          · simp only [c1, false_and, if_false] at q1
            simp -implicitDefEqProofs (disch := first | omega | (simp [hl7, hl60, hn7, hc7, hn60, hc60] <;> fail) | assumption) [hlt, hj3, e, c0, c1, cj, a1, a2, a3, a4, a5, hl7, hl60, hn7, hc7, hn60, hc60, cellsA]
            exact ⟨q', by first | (simp [cellsA] at q1 ⊢; exact q1) | (simp [cellsA] at q1; exact q1), q2, q3⟩
        · rw [if_neg fun h => cj (hy.1 h)] at q1
          by_cases c1 : 0 < R.s
          · cases sm with
            | false =>
              simp only [c1, true_and, true_or, if_true] at q1
              simp -implicitDefEqProofs (disch := first | omega | (simp [hl7, hl60, hn7, hc7, hn60, hc60] <;> fail) | assumption) [hlt, hj3, e, c0, c1, cj, a1, a2, a3, a4, a5, hl7, hl60, hn7, hc7, hn60, hc60, cellsA]
              exact ⟨q', by first | (simp [cellsA] at q1 ⊢; exact q1) | (simp [cellsA] at q1; exact q1), q2, q3⟩
            | true =>
              by_cases c2 : B.m < R.m
              · simp only [c1, c2, or_true, and_self, if_true] at q1
                simp -implicitDefEqProofs (disch := first | omega | (simp [hl7, hl60, hn7, hc7, hn60, hc60] <;> fail) | assumption) [hlt, hj3, e, c0, c1, c2, cj, a1, a2, a3, a4, a5, hl7, hl60, hn7, hc7, hn60, hc60, cellsA]
                exact ⟨q', by first | (simp [cellsA] at q1 ⊢; exact q1) | (simp [cellsA] at q1; exact q1), q2, q3⟩
              · simp only [c1, c2, Bool.true_eq_false, or_self, and_false, if_false] at q1
                simp -implicitDefEqProofs (disch := first | omega | (simp [hl7, hl60, hn7, hc7, hn60, hc60] <;> fail) | assumption) [hlt, hj3, e, c0, c1, c2, cj, a1, a2, a3, a4, a5, hl7, hl60, hn7, hc7, hn60, hc60, cellsA]
                exact ⟨q', by first | (simp [cellsA] at q1 ⊢; exact q1) | (simp [cellsA] at q1; exact q1), q2, q3⟩
          · simp only [c1, false_and, if_false] at q1
            simp -implicitDefEqProofs (disch := first | omega | (simp [hl7, hl60, hn7, hc7, hn60, hc60] <;> fail) | assumption) [hlt, hj3, e, c0, c1, cj, a1, a2, a3, a4, a5, hl7, hl60, hn7, hc7, hn60, hc60, cellsA]
            exact ⟨q', by first | (simp [cellsA] at q1 ⊢; exact q1) | (simp [cellsA] at q1; exact q1), q2, q3⟩
    · obtain rfl : j = 3 := by omega
      generalize eR (wantE l (3 * f + 3)) = G7 at *
      generalize trF (tabF (wantE l (3 * f + 3))) = G60 at *
      generalize wst (wantE l (3 * f + 3)) = B at *
      simp -implicitDefEqProofs (disch := first | omega | assumption) [cellsA]
  exact hin
theorem l2_run {Γ : Env} {M : Nat} (hM : 1000 < M) (h1 : RowC70 (Γ 449)) (h2 : Of (Γ 6)) (l : List Trip) (hn : l.length ≤ 100) (hl : ∀ t ∈ l, Tb t) (kf kd : Int) :
    ∀ s0, nrm [0, 3, 7, 8, 9, 10, 11] [3, 7, 8, 10, 60, 80, 116] s0 = ⟨[(0, vTb l), (3, .loc 3 0 0), (7, .sl 7 (wantE l (3 * 0)).length 0 (wantE l (3 * 0)).length), (8, .loc 8 0 0), (9, bo (wst (wantE l (3 * 0))).2), (10, .sl 60 ((wantE l (3 * 0)).length + 1) 0 ((wantE l (3 * 0)).length + 1)), (11, i64 (0 : Nat))], [(3, ⟨2, [[i64 kf, i64 kd]]⟩), (7, ⟨6, eR (wantE l (3 * 0))⟩), (8, ⟨6, [cellsA (wst (wantE l (3 * 0))).1]⟩), (60, ⟨1, trF (tabF (wantE l (3 * 0)))⟩)]⟩ →
      lp (exec Γ M law70_ByfloorRows_l2) M s0 = some (.ex 2, ⟨[(0, vTb l), (3, .loc 3 0 0), (7, .sl 7 (wantE l (384)).length 0 (wantE l (384)).length), (8, .loc 8 0 0), (9, bo (wst (wantE l (384))).2), (10, .sl 60 ((wantE l (384)).length + 1) 0 ((wantE l (384)).length + 1))], [(3, ⟨2, [[i64 kf, i64 kd]]⟩), (7, ⟨6, eR (wantE l (384))⟩), (8, ⟨6, [cellsA (wst (wantE l (384))).1]⟩), (60, ⟨1, trF (tabF (wantE l (384)))⟩)]⟩) := by
  obtain ⟨ax, s', ⟨rfl, rfl⟩, hin⟩ : ∃ ax s', (ax = .ex 2 ∧ s' = ⟨[(0, vTb l), (3, .loc 3 0 0), (7, .sl 7 (wantE l (384)).length 0 (wantE l (384)).length), (8, .loc 8 0 0), (9, bo (wst (wantE l (384))).2), (10, .sl 60 ((wantE l (384)).length + 1) 0 ((wantE l (384)).length + 1))], [(3, ⟨2, [[i64 kf, i64 kd]]⟩), (7, ⟨6, eR (wantE l (384))⟩), (8, ⟨6, [cellsA (wst (wantE l (384))).1]⟩), (60, ⟨1, trF (tabF (wantE l (384)))⟩)]⟩) ∧ ∀ s0, nrm [0, 3, 7, 8, 9, 10, 11] [3, 7, 8, 10, 60, 80, 116] s0 = ⟨[(0, vTb l), (3, .loc 3 0 0), (7, .sl 7 (wantE l (3 * 0)).length 0 (wantE l (3 * 0)).length), (8, .loc 8 0 0), (9, bo (wst (wantE l (3 * 0))).2), (10, .sl 60 ((wantE l (3 * 0)).length + 1) 0 ((wantE l (3 * 0)).length + 1)), (11, i64 (0 : Nat))], [(3, ⟨2, [[i64 kf, i64 kd]]⟩), (7, ⟨6, eR (wantE l (3 * 0))⟩), (8, ⟨6, [cellsA (wst (wantE l (3 * 0))).1]⟩), (60, ⟨1, trF (tabF (wantE l (3 * 0)))⟩)]⟩ → lp (exec Γ M law70_ByfloorRows_l2) M s0 = some (ax, s') := by
    refine lp_all (fun f : Nat => ⟨[(0, vTb l), (3, .loc 3 0 0), (7, .sl 7 (wantE l (3 * f)).length 0 (wantE l (3 * f)).length), (8, .loc 8 0 0), (9, bo (wst (wantE l (3 * f))).2), (10, .sl 60 ((wantE l (3 * f)).length + 1) 0 ((wantE l (3 * f)).length + 1)), (11, i64 f)], [(3, ⟨2, [[i64 kf, i64 kd]]⟩), (7, ⟨6, eR (wantE l (3 * f))⟩), (8, ⟨6, [cellsA (wst (wantE l (3 * f))).1]⟩), (60, ⟨1, trF (tabF (wantE l (3 * f)))⟩)]⟩) (fun f => f ≤ 128) (fun f => 128 - f) _ 0 M (by simp) (by simp) (by omega) ?_
    intro f hf
    by_cases hlt : f < 128
    · have hlp := l1_run hM h1 h2 l hn hl kf kd f hlt ⟨[(0, vTb l), (3, .loc 3 0 0), (7, .sl 7 (wantE l (3 * f)).length 0 (wantE l (3 * f)).length), (8, .loc 8 0 0), (9, bo (wst (wantE l (3 * f))).2), (10, .sl 60 ((wantE l (3 * f)).length + 1) 0 ((wantE l (3 * f)).length + 1)), (11, i64 f), (12, i64 1)], [(3, ⟨2, [[i64 kf, i64 kd]]⟩), (7, ⟨6, eR (wantE l (3 * f))⟩), (8, ⟨6, [cellsA (wst (wantE l (3 * f))).1]⟩), (60, ⟨1, trF (tabF (wantE l (3 * f)))⟩)]⟩ (by simp)
      have hf' : (f : Int) < 128 := by omega
      have hn7 : ∀ n z, nmRows z (eR (wantE l n)) = true := fun n z => nmRows_comp z BE.cells _
      have hc7 : ∀ n z, lcRows z (eR (wantE l n)) = true := fun n z => lcRows_comp z BE.cells _
      have hn60 : ∀ n z, nmRows z (trF (tabF (wantE l n))) = true := fun n z => nmRows_comp z rowQ _
      have hc60 : ∀ n z, lcRows z (trF (tabF (wantE l n))) = true := fun n z => lcRows_comp z rowQ _
      have hgo : ∃ q' : Nat, (⟨[(0, vTb l), (3, .loc 3 0 0), (7, .sl 7 (wantE l (3 * f + 3)).length 0 (wantE l (3 * f + 3)).length), (8, .loc 8 0 0), (9, bo (wst (wantE l (3 * f + 3))).2), (10, .sl 60 ((wantE l (3 * f + 3)).length + 1) 0 ((wantE l (3 * f + 3)).length + 1)), (11, i64 ((f : Int) + 1))], [(3, ⟨2, [[i64 kf, i64 kd]]⟩), (7, ⟨6, eR (wantE l (3 * f + 3))⟩), (8, ⟨6, [cellsA (wst (wantE l (3 * f + 3))).1]⟩), (60, ⟨1, trF (tabF (wantE l (3 * f + 3)))⟩)]⟩ : St) = ⟨[(0, vTb l), (3, .loc 3 0 0), (7, .sl 7 (wantE l (3 * q')).length 0 (wantE l (3 * q')).length), (8, .loc 8 0 0), (9, bo (wst (wantE l (3 * q'))).2), (10, .sl 60 ((wantE l (3 * q')).length + 1) 0 ((wantE l (3 * q')).length + 1)), (11, i64 q')], [(3, ⟨2, [[i64 kf, i64 kd]]⟩), (7, ⟨6, eR (wantE l (3 * q'))⟩), (8, ⟨6, [cellsA (wst (wantE l (3 * q'))).1]⟩), (60, ⟨1, trF (tabF (wantE l (3 * q')))⟩)]⟩ ∧ q' ≤ 128 ∧ 128 - q' < 128 - f := ⟨f + 1, by rw [show 3 * (f + 1) = 3 * f + 3 by omega]; simp, by omega, by omega⟩
      obtain ⟨q', q1, q2, q3⟩ := hgo
      generalize wantE l (3 * f) = W0 at *
      generalize wantE l (3 * f + 3) = W3 at *
      simp only [cellsA] at hlp
      simp -implicitDefEqProofs (disch := first | omega | assumption) [hf', hlp, cellsA]
      exact ⟨q', by first | (simp [cellsA] at q1 ⊢; exact q1) | (simp [cellsA] at q1; exact q1), q2, q3⟩
    · obtain rfl : f = 128 := by omega
      rw [show 3 * 128 = 384 from rfl]
      generalize wantE l 384 = W at *
      simp -implicitDefEqProofs (disch := first | omega | assumption) [cellsA]
  exact hin
end Go.Am
