/- Law 70: the walks over All's rows; the document's row. -/
import Derived.Test.YtkhbfjmckgddeaaDoorBfP
import Derived.Test.YtkhbfjmckgddeaaDoorColsM
set_option linter.unusedVariables false
set_option linter.unusedSimpArgs false
set_option maxRecDepth 10000
set_option maxHeartbeats 2000000
namespace Go.Am
open Go.Sort
abbrev vE (es : List BE) : AV := .c (.vs 6 (es.map BE.cells))
def wantE (l : List Trip) (n : Nat) : List BE := ((List.range n).filter fun i => decide ((rowI3 l i).c ≠ 0)).map (rowI3 l)
theorem wantE_w (l : List Trip) (n : Nat) : (wantE l n).map BE.w = wantN l n := by unfold wantE wantN; rw [List.map_map]; rfl
theorem wantE_snoc (l : List Trip) (n : Nat) : wantE l (n + 1) = wantE l n ++ if (rowI3 l n).c = 0 then [] else [rowI3 l n] := by
  unfold wantE
  rw [List.range_succ, List.filter_append, List.map_append]
  congr 1
  by_cases c : (rowI3 l n).c = 0 <;> simp [c]
theorem wantE_in {l : List Trip} (hl : ∀ t ∈ l, Tb t) (n : Nat) : ∀ e ∈ wantE l n, e.In l.length ∧ (∃ i, e = rowI3 l i ∧ i < n) := by
  intro e he
  unfold wantE at he
  obtain ⟨i, hi, rfl⟩ := List.mem_map.1 he
  exact ⟨rowL_inA hl _ _, i, rfl, List.mem_range.1 (List.mem_filter.1 hi).1⟩
theorem wantE_len {l : List Trip} (hl : ∀ t ∈ l, Tb t) : (wantE l 384).length ≤ l.length := by
  have h1 : (rowsA l).length = (wantE l 384).length := by rw [rowsA_want hl, ← wantE_w, List.length_map]
  have hO : SWO ltB := by rw [← lt_cfB]; exact swo_cfB
  have h2 : (rowsA l).length = (entsB l).1.length := by unfold rowsA; rw [(resF_perm hO _).length_eq, List.length_map]
  have := entsB_len l
  omega
theorem wantE_len2 (l : List Trip) (n : Nat) : (wantE l n).length ≤ n := by
  unfold wantE; rw [List.length_map]; exact Nat.le_trans (List.length_filter_le _ _) (by simp)
theorem zD_w (e : BE) : zD e.w = e.cells := rfl
theorem vRB_want {l : List Trip} (hl : ∀ t ∈ l, Tb t) : vRB (rowsA l) = vE (wantE l 384) := by
  rw [rowsA_want hl, ← wantE_w]; simp only [vRB, vE, List.map_map]; rfl
def AllE (g : List AV → Option (List AV)) : Prop := ∀ l : List Trip, l.length ≤ 100 → (∀ t ∈ l, Tb t) → g [vTb l] = some [vE (wantE l 384)]
theorem allS_E : AllE allS := fun l h1 h2 => by rw [allS_C l h1 h2, vRB_want h2]
theorem be_get {es : List BE} {k : Nat} (hlt : k < es.length) {e : BE} (h : es[k]'hlt = e) : (es.map BE.cells)[k]? = some e.cells := by
  rw [List.getElem?_map, List.getElem?_eq_getElem hlt, h]; rfl
theorem be_get2 {es : List BE} {k : Nat} (hlt : k < es.length) {e : BE} (h : es[k]'hlt = e) : ∀ h2, (es.map BE.cells)[k]'h2 = e.cells := by
  intro h2; rw [List.getElem_map, h]
/-! ### The document's row -/
def LDirC (g : List AV → Option (List AV)) : Prop := ∀ a b : Int, g [i64 a, i64 b] = some [i64 (if a < b then 1 else if b < a then -1 else 0)]
theorem law70_dir_run (Γ : Env) (M : Nat) : LDirC (run Γ M law70_dir_f) := by
  intro a b
  by_cases c1 : a < b
  · simp -implicitDefEqProofs (disch := omega) [c1]
  · by_cases c2 : b < a
    · simp -implicitDefEqProofs (disch := omega) [c1, c2]
    · simp -implicitDefEqProofs (disch := omega) [c1, c2]
def cellsA (e : BE) : List AV := [i64 e.x, i64 e.y, i64 e.c, i64 e.s, i64 e.u, i64 e.m]
def RowC70 (g : List AV → Option (List AV)) : Prop := ∀ (l : List Trip) (f d : Int), l.length ≤ 100 → (∀ t ∈ l, Tb t) → g [vTb l, .agg [.int .i64 f, .int .i64 d]] = some [.agg (rowL l f d).cells]
theorem law70_row_run {Γ : Env} {M : Nat} (hM : 1000 < M) (hD : LDirC (Γ 453)) : RowC70 (run Γ M law70_row_f) := by
  intro l f d hn hl
  obtain ⟨ax, s', ⟨rfl, rfl⟩, hin⟩ : ∃ ax s', (ax = .ex 0 ∧ s' = ⟨[(4, .loc 4 0 0), (5, .loc 5 0 0)], [(4, ⟨6, [[i64 0, i64 0, i64 0, i64 0, i64 0, i64 0]]⟩), (5, ⟨6, [cellsA (rowL l f d)]⟩)]⟩) ∧ ∀ s0, nrm [0, 3, 4, 5, 6] [3, 4, 5] s0 = ⟨[(0, vTb l), (3, .loc 3 0 0), (4, .loc 4 0 0), (5, .loc 5 0 0), (6, i64 (0 : Nat))], [(3, ⟨2, [[i64 f, i64 d]]⟩), (4, ⟨6, [[i64 0, i64 0, i64 0, i64 0, i64 0, i64 0]]⟩), (5, ⟨6, [cellsA (rowL (l.take 0) f d)]⟩)]⟩ → lp (exec Γ M law70_row_l1) M s0 = some (ax, s') := by
    refine lp_all (fun q : Nat => ⟨[(0, vTb l), (3, .loc 3 0 0), (4, .loc 4 0 0), (5, .loc 5 0 0), (6, i64 q)], [(3, ⟨2, [[i64 f, i64 d]]⟩), (4, ⟨6, [[i64 0, i64 0, i64 0, i64 0, i64 0, i64 0]]⟩), (5, ⟨6, [cellsA (rowL (l.take q) f d)]⟩)]⟩) (fun q => q ≤ l.length) (fun q => l.length - q) _ 0 M (by simp) (by simp) (by omega) ?_
    intro k hk
    by_cases hlt : k < l.length
    · obtain ⟨t, ht⟩ : ∃ w, l[k]'hlt = w := ⟨_, rfl⟩
      have hrow := bt_get hlt ht
      obtain ⟨t1, t2, t3, t4, t5⟩ := hl t (ht ▸ List.getElem_mem hlt)
      have hsn := rowL_take l k hlt f d
      rw [ht] at hsn
      have hxy := rowL_xy l f d k (by omega)
      obtain ⟨i1, i2, i3, i4⟩ := rowL_in hl f d k (by omega)
      have e := hD t.frm t.to
      rw [show (if t.frm < t.to then 1 else if t.to < t.frm then -1 else 0 : Int) = dirT t from rfl] at e
      have hgo : ∀ E : BE, rowL (l.take (k + 1)) f d = E → ∃ q' : Nat, (⟨[(0, vTb l), (3, .loc 3 0 0), (4, .loc 4 0 0), (5, .loc 5 0 0), (6, i64 ((k : Int) + 1))], [(3, ⟨2, [[i64 f, i64 d]]⟩), (4, ⟨6, [[i64 0, i64 0, i64 0, i64 0, i64 0, i64 0]]⟩), (5, ⟨6, [cellsA E]⟩)]⟩ : St) = ⟨[(0, vTb l), (3, .loc 3 0 0), (4, .loc 4 0 0), (5, .loc 5 0 0), (6, i64 q')], [(3, ⟨2, [[i64 f, i64 d]]⟩), (4, ⟨6, [[i64 0, i64 0, i64 0, i64 0, i64 0, i64 0]]⟩), (5, ⟨6, [cellsA (rowL (l.take q') f d)]⟩)]⟩ ∧ q' ≤ l.length ∧ l.length - q' < l.length - k := by
        rintro E rfl; exact ⟨k + 1, by simp, by omega, by omega⟩
      simp only [Trip.cells] at hrow
      generalize rowL (l.take k) f d = R at *
      generalize dirT t = dd at *
      by_cases c1 : t.frm = f
      · subst c1
        by_cases c2 : dd = d
        · subst c2
          rw [if_pos ⟨rfl, rfl⟩] at hsn
          by_cases c3 : 0 ≤ t.board
          · by_cases c4 : R.m < t.board - t.arrive
            · obtain ⟨q', h1, h2, h3⟩ := hgo ⟨R.b, R.x, R.y, R.c + 1, R.s + 1, R.u + (t.board - t.arrive), t.board - t.arrive⟩ (by rw [hsn]; unfold BE.add; rw [if_pos c3]; simp only [BE.mk.injEq]; exact ⟨trivial, trivial, trivial, trivial, trivial, trivial, by omega⟩)
              simp -implicitDefEqProofs (disch := first | omega | assumption) [hlt, hrow, e, c3, c4, cellsA]
              exact ⟨q', by simpa [cellsA] using h1, h2, h3⟩
            · obtain ⟨q', h1, h2, h3⟩ := hgo ⟨R.b, R.x, R.y, R.c + 1, R.s + 1, R.u + (t.board - t.arrive), R.m⟩ (by rw [hsn]; unfold BE.add; rw [if_pos c3]; simp only [BE.mk.injEq]; exact ⟨trivial, trivial, trivial, trivial, trivial, trivial, by omega⟩)
              simp -implicitDefEqProofs (disch := first | omega | assumption) [hlt, hrow, e, c3, c4, cellsA]
              exact ⟨q', by simpa [cellsA] using h1, h2, h3⟩
          · obtain ⟨q', h1, h2, h3⟩ := hgo ⟨R.b, R.x, R.y, R.c + 1, R.s, R.u, R.m⟩ (by rw [hsn]; unfold BE.add; rw [if_neg c3])
            simp -implicitDefEqProofs (disch := first | omega | assumption) [hlt, hrow, e, c3, cellsA]
            exact ⟨q', by simpa [cellsA] using h1, h2, h3⟩
        · rw [if_neg fun h => c2 h.2] at hsn
          obtain ⟨q', h1, h2, h3⟩ := hgo _ hsn
          simp -implicitDefEqProofs (disch := first | omega | assumption) [hlt, hrow, e, c2, cellsA]
          exact ⟨q', by simpa [cellsA] using h1, h2, h3⟩
      · rw [if_neg fun h => c1 h.1] at hsn
        obtain ⟨q', h1, h2, h3⟩ := hgo _ hsn
        simp -implicitDefEqProofs (disch := first | omega | assumption) [hlt, hrow, c1, cellsA]
        exact ⟨q', by simpa [cellsA] using h1, h2, h3⟩
    · obtain rfl : k = l.length := by omega
      rw [List.take_length]
      simp -implicitDefEqProofs (disch := first | omega | assumption)
  have hlp := hin ⟨[(0, vTb l), (3, .loc 3 0 0), (4, .loc 4 0 0), (5, .loc 5 0 0), (6, i64 0)], [(3, ⟨2, [[i64 f, i64 d]]⟩), (4, ⟨6, [[i64 0, i64 0, i64 0, i64 0, i64 0, i64 0]]⟩), (5, ⟨6, [[i64 f, i64 d, i64 0, i64 0, i64 0, i64 0]]⟩)]⟩ (by simp [rowL, cellsA])
  simp -implicitDefEqProofs (disch := first | omega | assumption) [hlp, cellsA, BE.cells]
/-! ### The worst, one of a key, equality -/
def e00 : BE := ⟨0, 0, 0, 0, 0, 0, 0⟩
def wstS (q : BE × Bool) (e : BE) : BE × Bool := if 0 < e.s ∧ (q.2 = false ∨ q.1.m < e.m) then (e, true) else q
def wst (es : List BE) : BE × Bool := es.foldl wstS (e00, false)
theorem wst_snoc (es : List BE) (e : BE) : wst (es ++ [e]) = wstS (wst es) e := by unfold wst; rw [List.foldl_append]; rfl
theorem wst_take (es : List BE) (k : Nat) (h : k < es.length) : wst (es.take (k + 1)) = wstS (wst (es.take k)) es[k] := by
  rw [List.take_succ_eq_append_getElem h, wst_snoc]
def WorstC (g : List AV → Option (List AV)) : Prop := ∀ l : List Trip, l.length ≤ 100 → (∀ t ∈ l, Tb t) → g [vTb l] = some [.agg (wst (wantE l 384)).1.cells, bo (wst (wantE l 384)).2]
theorem byfloor_Worst_run {Γ : Env} {M : Nat} (hM : 1000 < M) (hA : AllE (Γ 445)) : WorstC (run Γ M byfloor_Worst_f) := by
  intro l hn hl
  have eA := hA l hn hl
  have hel := wantE_len hl
  generalize wantE l 384 = es at *
  obtain ⟨ax, s', ⟨rfl, rfl⟩, hin⟩ : ∃ ax s', (ax = .ex 0 ∧ s' = ⟨[(2, .loc 2 0 0), (4, .loc 4 0 0), (5, bo (wst es).2)], [(2, ⟨6, [[i64 0, i64 0, i64 0, i64 0, i64 0, i64 0]]⟩), (4, ⟨6, [cellsA (wst es).1]⟩)]⟩) ∧ ∀ s0, nrm [2, 4, 5, 10, 11, 12] [2, 4] s0 = ⟨[(2, .loc 2 0 0), (4, .loc 4 0 0), (5, bo (wst (es.take 0)).2), (10, vE es), (11, i64 es.length), (12, i64 (0 : Nat))], [(2, ⟨6, [[i64 0, i64 0, i64 0, i64 0, i64 0, i64 0]]⟩), (4, ⟨6, [cellsA (wst (es.take 0)).1]⟩)]⟩ → lp (exec Γ M byfloor_Worst_l1) M s0 = some (ax, s') := by
    refine lp_all (fun q : Nat => ⟨[(2, .loc 2 0 0), (4, .loc 4 0 0), (5, bo (wst (es.take q)).2), (10, vE es), (11, i64 es.length), (12, i64 q)], [(2, ⟨6, [[i64 0, i64 0, i64 0, i64 0, i64 0, i64 0]]⟩), (4, ⟨6, [cellsA (wst (es.take q)).1]⟩)]⟩) (fun q => q ≤ es.length) (fun q => es.length - q) _ 0 M (by simp) (by simp) (by omega) ?_
    intro k hk
    by_cases hlt : k < es.length
    · obtain ⟨e, he⟩ : ∃ w, es[k]'hlt = w := ⟨_, rfl⟩
      have hrow := be_get hlt he
      have hsn := wst_take es k hlt
      rw [he] at hsn
      have hgo : ∀ E : BE × Bool, wst (es.take (k + 1)) = E → ∃ q' : Nat, (⟨[(2, .loc 2 0 0), (4, .loc 4 0 0), (5, bo E.2), (10, vE es), (11, i64 es.length), (12, i64 ((k : Int) + 1))], [(2, ⟨6, [[i64 0, i64 0, i64 0, i64 0, i64 0, i64 0]]⟩), (4, ⟨6, [cellsA E.1]⟩)]⟩ : St) = ⟨[(2, .loc 2 0 0), (4, .loc 4 0 0), (5, bo (wst (es.take q')).2), (10, vE es), (11, i64 es.length), (12, i64 q')], [(2, ⟨6, [[i64 0, i64 0, i64 0, i64 0, i64 0, i64 0]]⟩), (4, ⟨6, [cellsA (wst (es.take q')).1]⟩)]⟩ ∧ q' ≤ es.length ∧ es.length - q' < es.length - k := by
        rintro E rfl; exact ⟨k + 1, by simp, by omega, by omega⟩
      simp only [BE.cells] at hrow
      obtain ⟨⟨B, sm⟩, hB⟩ : ∃ q, wst (es.take k) = q := ⟨_, rfl⟩
      rw [hB] at hsn
      simp only [hB]
      unfold wstS at hsn
      simp only at hsn
      by_cases c1 : 0 < e.s
      · cases sm with
        | false =>
          rw [if_pos ⟨c1, .inl rfl⟩] at hsn
          obtain ⟨q', h1, h2, h3⟩ := hgo _ hsn
          simp -implicitDefEqProofs (disch := first | omega | assumption) [hlt, hrow, c1, cellsA]
          exact ⟨q', by simpa [cellsA] using h1, h2, h3⟩
        | true =>
          by_cases c2 : B.m < e.m
          · rw [if_pos ⟨c1, .inr c2⟩] at hsn
            obtain ⟨q', h1, h2, h3⟩ := hgo _ hsn
            simp -implicitDefEqProofs (disch := first | omega | assumption) [hlt, hrow, c1, c2, cellsA]
            exact ⟨q', by simpa [cellsA] using h1, h2, h3⟩
          · rw [if_neg (by simp [c2])] at hsn
            obtain ⟨q', h1, h2, h3⟩ := hgo _ hsn
            simp -implicitDefEqProofs (disch := first | omega | assumption) [hlt, hrow, c1, c2, cellsA]
            exact ⟨q', by simpa [cellsA] using h1, h2, h3⟩
      · rw [if_neg fun h => c1 h.1] at hsn
        obtain ⟨q', h1, h2, h3⟩ := hgo _ hsn
        simp -implicitDefEqProofs (disch := first | omega | assumption) [hlt, hrow, c1, cellsA]
        exact ⟨q', by simpa [cellsA] using h1, h2, h3⟩
    · obtain rfl : k = es.length := by omega
      rw [List.take_length]
      simp -implicitDefEqProofs (disch := first | omega | assumption)
  have hlp := hin ⟨[(2, .loc 2 0 0), (4, .loc 4 0 0), (5, bo false), (10, vE es), (11, i64 es.length), (12, i64 0)], [(2, ⟨6, [[i64 0, i64 0, i64 0, i64 0, i64 0, i64 0]]⟩), (4, ⟨6, [[i64 0, i64 0, i64 0, i64 0, i64 0, i64 0]]⟩)]⟩ (by simp [wst, e00, cellsA])
  generalize wst es = W at *
  simp -implicitDefEqProofs (disch := first | omega | assumption) [eA, hlp, cellsA, BE.cells]
def OfCB (g : List AV → Option (List AV)) : Prop := ∀ (l : List Trip) (f d : Int), l.length ≤ 100 → (∀ t ∈ l, Tb t) → g [vTb l, .agg [.int .i64 f, .int .i64 d]] = some (if (rowL l f d).c = 0 then [.agg e00.cells, bo false] else [.agg (rowL l f d).cells, bo true])
theorem find_be {l : List Trip} (hl : ∀ t ∈ l, Tb t) (f d : Int) : ((rowL l f d).c = 0 ∧ ∀ e ∈ wantE l 384, ¬ (e.x = f ∧ e.y = d)) ∨ ((rowL l f d).c ≠ 0 ∧ ∃ e ∈ wantE l 384, e.x = f ∧ e.y = d) ∧ ∀ e ∈ wantE l 384, e.x = f ∧ e.y = d → e.cells = (rowL l f d).cells := by
  have hrow : ∀ e ∈ wantE l 384, ∃ i, e = rowI3 l i ∧ (rowI3 l i).c ≠ 0 := by
    intro r hr
    unfold wantE at hr
    obtain ⟨i, hi, rfl⟩ := List.mem_map.1 hr
    exact ⟨i, rfl, of_decide_eq_true (List.mem_filter.1 hi).2⟩
  have hcell : ∀ e ∈ wantE l 384, e.x = f ∧ e.y = d → e = rowL l f d := by
    intro e he hxy
    obtain ⟨i, rfl, h2⟩ := hrow e he
    rw [(rowI3_x l i).1, (rowI3_x l i).2] at hxy
    unfold rowI3
    rw [hxy.1, hxy.2]
  by_cases hc : (rowL l f d).c = 0
  · refine .inl ⟨hc, fun e he hxy => ?_⟩
    obtain ⟨i, h1, h2⟩ := hrow e he
    rw [← h1, hcell e he hxy] at h2
    exact h2 hc
  · have hm := wantN_mem hl hc
    rw [← wantE_w] at hm
    obtain ⟨e, he, hw⟩ := List.mem_map.1 hm
    have hx := rowL_x l f d
    refine .inr ⟨⟨hc, e, he, ?_⟩, fun e he h => by rw [hcell e he h]⟩
    simp only [BE.w, List.cons.injEq] at hw
    rw [hw.1, hw.2.1]; exact hx
theorem byfloor_Of_run {Γ : Env} {M : Nat} (hM : 1000 < M) (hA : AllE (Γ 445)) : OfCB (run Γ M byfloor_Of_f) := by
  intro l f d hn hl
  have eA := hA l hn hl
  have hel := wantE_len hl
  have hfind := find_be hl f d
  generalize rowL l f d = R at *
  generalize wantE l 384 = es at *
  obtain ⟨ax, s', hR, hin⟩ : ∃ ax s', ((ax = .ex 0 ∧ s' = ⟨[(4, .loc 4 0 0)], [(4, ⟨6, [[i64 0, i64 0, i64 0, i64 0, i64 0, i64 0]]⟩)]⟩ ∧ ∀ e ∈ es, ¬ (e.x = f ∧ e.y = d)) ∨ (∃ e ∈ es, e.x = f ∧ e.y = d ∧ ax = .ret ∧ s' = ⟨[(4, .loc 4 0 0), (5, bo true)], [(4, ⟨6, [cellsA e]⟩)]⟩)) ∧ ∀ s0, nrm [3, 4, 9, 10, 11] [3, 4] s0 = ⟨[(3, .loc 3 0 0), (4, .loc 4 0 0), (9, vE es), (10, i64 es.length), (11, i64 (0 : Nat))], [(3, ⟨2, [[i64 f, i64 d]]⟩), (4, ⟨6, [[i64 0, i64 0, i64 0, i64 0, i64 0, i64 0]]⟩)]⟩ → lp (exec Γ M byfloor_Of_l1) M s0 = some (ax, s') := by
    refine lp_all (fun q : Nat => ⟨[(3, .loc 3 0 0), (4, .loc 4 0 0), (9, vE es), (10, i64 es.length), (11, i64 q)], [(3, ⟨2, [[i64 f, i64 d]]⟩), (4, ⟨6, [[i64 0, i64 0, i64 0, i64 0, i64 0, i64 0]]⟩)]⟩) (fun q => q ≤ es.length ∧ ∀ e ∈ es.take q, ¬ (e.x = f ∧ e.y = d)) (fun q => es.length - q) _ 0 M (by simp) ⟨by simp, by simp⟩ (by omega) ?_
    rintro k ⟨hk, hq⟩
    by_cases hlt : k < es.length
    · obtain ⟨e, he⟩ : ∃ w, es[k]'hlt = w := ⟨_, rfl⟩
      have hrow := be_get hlt he
      have hem : e ∈ es := he ▸ List.getElem_mem hlt
      simp only [BE.cells] at hrow
      by_cases c : e.x = f ∧ e.y = d
      · obtain ⟨c1, c2⟩ := c
        simp -implicitDefEqProofs (disch := first | omega | assumption) [hlt, hrow, c1, c2, cellsA]
        exact ⟨e, hem, c1, c2, by rw [c1, c2]; simp⟩
      · have hnx : ∀ e' ∈ es.take (k + 1), ¬ (e'.x = f ∧ e'.y = d) := by
          intro e' he'
          rw [List.take_succ_eq_append_getElem hlt, he, List.mem_append] at he'
          rcases he' with he' | he'
          · exact hq e' he'
          · rw [List.mem_singleton] at he'; exact he' ▸ c
        have c' : (decide (e.x = f) && decide (e.y = d)) = false := by
          rw [← Bool.decide_and]; exact decide_eq_false c
        simp -implicitDefEqProofs (disch := first | omega | assumption) [hlt, hrow, c', cellsA]
        exact ⟨k + 1, by omega, ⟨by omega, fun e he h1 h2 => hnx e he ⟨h1, h2⟩⟩, by omega⟩
    · obtain rfl : k = es.length := by omega
      rw [List.take_length] at hq
      simp -implicitDefEqProofs (disch := first | omega | assumption)
      exact fun e he h1 h2 => hq e he ⟨h1, h2⟩
  have hlp := hin ⟨[(3, .loc 3 0 0), (4, .loc 4 0 0), (9, vE es), (10, i64 es.length), (11, i64 0)], [(3, ⟨2, [[i64 f, i64 d]]⟩), (4, ⟨6, [[i64 0, i64 0, i64 0, i64 0, i64 0, i64 0]]⟩)]⟩ (by simp)
  rcases hR with ⟨rfl, rfl, hall⟩ | ⟨e, he, h1, h2, rfl, rfl⟩
  · rcases hfind with ⟨hc, -⟩ | ⟨⟨-, e, he, hx⟩, -⟩
    · rw [if_pos hc]
      simp -implicitDefEqProofs (disch := first | omega | assumption) [eA, hlp, e00, BE.cells]
    · exact absurd hx (hall e he)
  · rcases hfind with ⟨-, hno⟩ | ⟨⟨hc, -⟩, hcell⟩
    · exact absurd ⟨h1, h2⟩ (hno e he)
    · rw [if_neg hc, ← hcell e he ⟨h1, h2⟩]
      simp -implicitDefEqProofs (disch := first | omega | assumption) [eA, hlp, cellsA, BE.cells]
def EqE (g : List AV → Option (List AV)) : Prop := ∀ es : List BE, es.length ≤ 400 → g [vE es, vE es] = some [bo true]
theorem slices_Equal_E_run (Γ : Env) (M : Nat) (hM : 1000 < M) : EqE (run Γ M slices_Equal_Sbyfloor_Row_byfloor_Row_f) := by
  intro es hl
  obtain ⟨ax, s', ⟨rfl, rfl⟩, hin⟩ : ∃ ax s', (ax = .ex 0 ∧ s' = ⟨[], []⟩) ∧ ∀ s0, nrm [0, 1, 12, 13] [] s0 = ⟨[(0, vE es), (1, vE es), (12, i64 es.length), (13, i64 (0 : Nat))], []⟩ → lp (exec Γ M slices_Equal_Sbyfloor_Row_byfloor_Row_l1) M s0 = some (ax, s') := by
    refine lp_all (fun q : Nat => ⟨[(0, vE es), (1, vE es), (12, i64 es.length), (13, i64 q)], []⟩) (fun q => q ≤ es.length) (fun q => es.length - q) _ 0 M (by simp) (by omega) (by omega) ?_
    intro k hk
    by_cases hlt : k < es.length
    · obtain ⟨e, he⟩ : ∃ w, es[k]'hlt = w := ⟨_, rfl⟩
      have hrow := be_get hlt he
      simp only [BE.cells] at hrow
      simp -implicitDefEqProofs (disch := first | omega | assumption) [hlt, hrow]
      exact ⟨k + 1, by omega, by omega, by omega⟩
    · obtain rfl : k = es.length := by omega
      simp -implicitDefEqProofs (disch := first | omega | assumption)
  have hlp := hin ⟨[(0, vE es), (1, vE es), (12, i64 es.length), (13, i64 0)], []⟩ (by simp)
  simp -implicitDefEqProofs (disch := first | omega | assumption) [hlp]
end Go.Am
