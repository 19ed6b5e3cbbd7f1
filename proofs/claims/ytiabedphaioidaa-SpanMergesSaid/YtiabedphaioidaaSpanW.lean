/- Law 9: what rows of spans have, their bounds, rows made anew: the document's functions. -/
import Derived.Test.YtiabedphaioidaaSpanCode
set_option linter.unusedVariables false
set_option linter.unusedSimpArgs false
set_option maxRecDepth 10000
set_option maxHeartbeats 2000000
namespace Go.Am
def sQ (z : Int) : List D := [.int .i64 z]
abbrev vI (l : List Int) : AV := .c (.vs 1 (l.map sQ))
def HasC (g : List AV → Option (List AV)) : Prop := ∀ (l : List Sp) (n : Int), l.length ≤ 1000 → g [spL l, i64 n] = some [bo (decide (HasS l n))]
theorem ref09_Has_run (Γ : Env) (M : Nat) (hM : 1100 < M) : HasC (run Γ M ref09_Has_f) := by
  intro l n hl
  obtain ⟨ax, s', hR, hin⟩ : ∃ ax s', ((ax = .ex 0 ∧ s' = ⟨[], []⟩ ∧ ¬ HasS l n) ∨ (ax = .ret ∧ s' = ⟨[(4, bo true)], []⟩ ∧ HasS l n)) ∧ ∀ s0, nrm [0, 1, 5] [] s0 = ⟨[(0, spL l), (1, i64 n), (5, i64 (0 : Nat))], []⟩ → lp (exec Γ M ref09_Has_l1) M s0 = some (ax, s') := by
    refine lp_all (fun q : Nat => ⟨[(0, spL l), (1, i64 n), (5, i64 q)], []⟩) (fun q => q ≤ l.length ∧ ¬ HasS (l.take q) n) (fun q => l.length - q) _ 0 M (by simp) ⟨by omega, by simp [HasS]⟩ (by omega) ?_
    rintro k ⟨hk, hq⟩
    by_cases hlt : k < l.length
    · obtain ⟨s, hs⟩ : ∃ t, l[k]'hlt = t := ⟨_, rfl⟩
      have hmem : s ∈ l := hs ▸ List.getElem_mem hlt
      have htk : l.take (k + 1) = l.take k ++ [s] := by rw [List.take_succ_eq_append_getElem hlt, hs]
      by_cases c1 : s.f ≤ n
      · by_cases c2 : n < s.t
        · have : HasS l n := ⟨s, hmem, c1, c2⟩
          simp -implicitDefEqProofs (disch := first | omega | assumption) [hlt, hs, Sp.cells, c1, c2, this]
        · simp -implicitDefEqProofs (disch := first | omega | assumption) [hlt, hs, Sp.cells, c1, c2]
          refine ⟨k + 1, by omega, ⟨by omega, ?_⟩, by omega⟩
          rw [htk, hasS_app, hasS_cons, hasS_nil]
          rintro (h | h | h)
          · exact hq h
          · omega
          · exact h
      · simp -implicitDefEqProofs (disch := first | omega | assumption) [hlt, hs, Sp.cells, c1]
        refine ⟨k + 1, by omega, ⟨by omega, ?_⟩, by omega⟩
        rw [htk, hasS_app, hasS_cons, hasS_nil]
        rintro (h | h | h)
        · exact hq h
        · omega
        · exact h
    · obtain rfl : k = l.length := by omega
      rw [List.take_length] at hq
      simp -implicitDefEqProofs (disch := first | omega | assumption) [hq]
  rcases hR with ⟨rfl, rfl, h⟩ | ⟨rfl, rfl, h⟩
  · simp -implicitDefEqProofs (disch := first | omega | (simp <;> fail) | assumption) [hin, h]
  · simp -implicitDefEqProofs (disch := first | omega | (simp <;> fail) | assumption) [hin, h]
/-! ### Bounds -/
def wk (x : Int) (o : List Int) : Nat := (o.takeWhile fun y => decide (y < x)).length
theorem wk_le (x : Int) : ∀ o, wk x o ≤ o.length
  | [] => by simp [wk]
  | y :: o => by
    have := wk_le x o
    unfold wk at this ⊢
    rw [List.takeWhile_cons]
    split <;> simp only [List.length_cons, List.length_nil] <;> omega
theorem wk_lt (x : Int) : ∀ (o : List Int) (i : Nat) (hi : i < o.length), i < wk x o → o[i] < x
  | [], i, hi, _ => by simp at hi
  | y :: o, i, hi, h => by
    unfold wk at h
    rw [List.takeWhile_cons] at h
    split at h
    · rename_i hy
      cases i with
      | zero => simpa using hy
      | succ i =>
        rw [List.getElem_cons_succ]
        refine wk_lt x o i (by simpa using hi) ?_
        unfold wk; simpa using h
    · simp at h
theorem wk_ge (x : Int) : ∀ (o : List Int) (hi : wk x o < o.length), ¬ o[wk x o] < x
  | [], hi => by simp at hi
  | y :: o, hi => by
    by_cases hy : y < x
    · have e : wk x (y :: o) = wk x o + 1 := by unfold wk; rw [List.takeWhile_cons, if_pos (by simpa using hy)]; rfl
      have h2 : wk x o < o.length := by rw [e] at hi; simpa using hi
      have := wk_ge x o h2
      simp only [e, List.getElem_cons_succ]; exact this
    · have e : wk x (y :: o) = 0 := by unfold wk; rw [List.takeWhile_cons, if_neg (by simpa using hy)]; rfl
      simp only [e, List.getElem_cons_zero]; exact hy
theorem insU_at (x : Int) : ∀ o : List Int, insU x o = if o[wk x o]? = some x then o else o.take (wk x o) ++ x :: o.drop (wk x o)
  | [] => by simp [insU, wk]
  | y :: o => by
    by_cases hy : y < x
    · have e : wk x (y :: o) = wk x o + 1 := by unfold wk; rw [List.takeWhile_cons, if_pos (by simpa using hy)]; rfl
      rw [insU, if_pos hy, insU_at x o, e]
      simp only [List.getElem?_cons_succ, List.take_succ_cons, List.drop_succ_cons]
      split <;> simp
    · have e : wk x (y :: o) = 0 := by unfold wk; rw [List.takeWhile_cons, if_neg (by simpa using hy)]; rfl
      rw [insU, if_neg hy, e]
      simp
def v5 (o : List Int) : Nat → AV
  | 0 => .nil 1
  | _ + 1 => vI o
theorem v5_0 (o : List Int) : v5 o 0 = .nil 1 := rfl
theorem v5_p (o : List Int) {k : Nat} (h : 0 < k) : v5 o k = vI o := by cases k with | zero => omega | succ k => rfl
theorem v5_s (o : List Int) (k : Nat) : v5 o (k + 1) = vI o := rfl
theorem bndL_get : ∀ (l : List Sp) (k : Nat), (bndL l)[k]? = (l[k / 2]?).map fun s => if k % 2 = 1 then s.t else s.f
  | [], k => by simp [bndL]
  | s :: l, 0 => by simp [bndL]
  | s :: l, 1 => by simp [bndL]
  | s :: l, k + 2 => by
    have := bndL_get l k
    have e : bndL (s :: l) = s.f :: s.t :: bndL l := rfl
    rw [e, List.getElem?_cons_succ, List.getElem?_cons_succ, this, show (k + 2) / 2 = k / 2 + 1 by omega, List.getElem?_cons_succ, show (k + 2) % 2 = k % 2 by omega]
def bAcc (l : List Sp) (k : Nat) : List Int := ((bndL l).take k).foldl (fun o x => insU x o) []
theorem bAcc_len (l : List Sp) (k : Nat) : (bAcc l k).length ≤ k := by
  have := (foldU_spec ((bndL l).take k) [] .nil).2.1
  rw [List.length_take] at this
  unfold bAcc; simp at this; omega
theorem bounds_in (Γ : Env) (M : Nat) (hM : 10000 < M) (o : List Int) (l : List Sp) (k : Nat) (x : Int) (ho : o.length ≤ 9000) (A : AV) (hA : A = v5 o k) (hA0 : k = 0 → o = []) :
    ∀ s0, nrm [5, 6, 7, 8, 9] [] s0 = ⟨[(5, A), (6, spL l), (7, i64 k), (8, i64 x), (9, i64 (0 : Nat))], []⟩ → lp (exec Γ M ref09_bounds_l1) M s0 = some (.ex 2, ⟨[(5, A), (6, spL l), (7, i64 k), (8, i64 x), (9, i64 (wk x o))], []⟩) := by
  obtain ⟨ax, s', ⟨rfl, rfl⟩, hin⟩ : ∃ ax s', (ax = .ex 2 ∧ s' = ⟨[(5, A), (6, spL l), (7, i64 k), (8, i64 x), (9, i64 (wk x o))], []⟩) ∧ ∀ s0, nrm [5, 6, 7, 8, 9] [] s0 = ⟨[(5, A), (6, spL l), (7, i64 k), (8, i64 x), (9, i64 (0 : Nat))], []⟩ → lp (exec Γ M ref09_bounds_l1) M s0 = some (ax, s') := by
    refine lp_all (fun q : Nat => ⟨[(5, A), (6, spL l), (7, i64 k), (8, i64 x), (9, i64 q)], []⟩) (fun q => q ≤ wk x o) (fun q => wk x o - q) _ 0 M (by simp) (by omega) (by have := wk_le x o; omega) ?_
    intro q hq
    have hw := wk_le x o
    cases k with
    | zero =>
      obtain rfl := hA0 rfl
      subst hA
      obtain rfl : q = 0 := by simp at hw; omega
      have h0 : wk x [] = 0 := rfl
      simp -implicitDefEqProofs (disch := first | omega | assumption) [v5_0, h0]
    | succ k =>
      subst hA
      by_cases hlt : q < o.length
      · obtain ⟨y, hy⟩ : ∃ t, o[q]'hlt = t := ⟨_, rfl⟩
        by_cases c : q < wk x o
        · have hc := wk_lt x o q hlt c
          rw [hy] at hc
          simp -implicitDefEqProofs (disch := first | omega | assumption) [v5_s, hlt, hy, sQ, hc]
          exact ⟨q + 1, by omega, by omega, by omega⟩
        · obtain rfl : q = wk x o := by omega
          have hc := wk_ge x o hlt
          rw [hy] at hc
          simp -implicitDefEqProofs (disch := first | omega | assumption) [v5_s, hlt, hy, sQ, hc]
      · obtain rfl : q = wk x o := by omega
        simp -implicitDefEqProofs (disch := first | omega | assumption) [v5_s, hlt]
  exact hin
def BndC (g : List AV → Option (List AV)) : Prop := ∀ a b : List Sp, a.length ≤ 1000 → b.length ≤ 1000 → g [spL a, spL b] = some [vI (bnd (a ++ b))]
theorem ref09_bounds_run (Γ : Env) (M : Nat) (hM : 10000 < M) : BndC (run Γ M ref09_bounds_f) := by
  intro a b ha hb
  obtain ⟨l, hl⟩ : ∃ l, a ++ b = l := ⟨_, rfl⟩
  have hll : l.length ≤ 2000 := by rw [← hl, List.length_append]; omega
  have hbl := bndL_len l
  obtain ⟨ax, s', ⟨rfl, rfl⟩, hin⟩ : ∃ ax s', (ax = .ex 0 ∧ s' = ⟨[(5, v5 (bnd l) (2 * l.length))], []⟩) ∧ ∀ s0, nrm [5, 6, 7] [] s0 = ⟨[(5, v5 (bAcc l 0) 0), (6, spL l), (7, i64 (0 : Nat))], []⟩ → lp (exec Γ M ref09_bounds_l2) M s0 = some (ax, s') := by
    refine lp_all (fun q : Nat => ⟨[(5, v5 (bAcc l q) q), (6, spL l), (7, i64 q)], []⟩) (fun q => q ≤ 2 * l.length) (fun q => 2 * l.length - q) _ 0 M (by simp) (by omega) (by omega) ?_
    intro k hk
    by_cases hlt : k < 2 * l.length
    · have hk2 : k / 2 < l.length := by omega
      obtain ⟨s, hs⟩ : ∃ t, l[k / 2]'hk2 = t := ⟨_, rfl⟩
      obtain ⟨x, hx⟩ : ∃ x, (if k % 2 = 1 then s.t else s.f) = x := ⟨_, rfl⟩
      have hkb : k < (bndL l).length := by omega
      have hg : (bndL l)[k] = x := by
        have := bndL_get l k
        rw [List.getElem?_eq_getElem hk2, hs, List.getElem?_eq_getElem hkb] at this
        simpa [hx] using this
      have hsn : bAcc l (k + 1) = insU x (bAcc l k) := by
        unfold bAcc; rw [List.take_succ_eq_append_getElem hkb, List.foldl_append, hg]; rfl
      have hal := bAcc_len l k
      obtain ⟨o, ho⟩ : ∃ o, bAcc l k = o := ⟨_, rfl⟩
      have h00 : k = 0 → o = [] := fun h => by subst h; rw [← ho]; rfl
      rw [ho] at hsn hal ⊢
      have hlp := bounds_in Γ M hM o l k x (by omega) (v5 o k) rfl h00
      have hw := wk_le x o
      have hat := insU_at x o
      rw [← hsn] at hat
      have q3 : ((k : Int) / 2).toNat = k / 2 := by omega
      rcases Nat.eq_zero_or_pos k with rfl | hk0
      · obtain rfl := h00 rfl
        have hx0 : s.f = x := by simpa using hx
        have hw0 : wk x [] = 0 := rfl
        rw [hw0] at hlp hat
        have hat1 : bAcc l 1 = [x] := by rw [hat]; simp
        simp only [v5_0, v5_s] at hlp ⊢
        rw [← hx0] at hlp
        simp -implicitDefEqProofs (disch := first | omega | (simp <;> fail) | assumption) [hlt, hs, Sp.cells, hlp]
        exact ⟨1, ⟨by rw [hat1, hx0]; simp [v5_s, sQ], by omega⟩, by omega, by omega⟩
      · rw [v5_p o hk0] at hlp ⊢
        have key : ∀ y, o[wk x o]? = some y → y = x → bAcc l (k + 1) = o := fun y h1 h2 => by rw [hat, h1, h2, if_pos rfl]
        have hx2 : (k : Int) % 2 = 1 ∧ s.t = x ∨ ¬ (k : Int) % 2 = 1 ∧ s.f = x := by
          by_cases ch : k % 2 = 1
          · rw [if_pos ch] at hx; exact .inl ⟨by omega, hx⟩
          · rw [if_neg ch] at hx; exact .inr ⟨by omega, hx⟩
        have hlc : lcRows 10 (List.take (wk x o) (List.map (toAV ∘ sQ) o)) = true := by rw [← List.map_take]; exact lcRows_comp 10 sQ _
        have hwl : wk x o + (o.length - wk x o + 1) = wk x o + 1 + (o.length - wk x o) := by omega
        have hnl : (o.take (wk x o) ++ x :: o.drop (wk x o)).length = wk x o + 1 + (o.length - wk x o) := by
          rw [List.length_append, List.length_take, List.length_cons, List.length_drop]; omega
        have hall := allRows_comp sQ (o.take (wk x o) ++ x :: o.drop (wk x o))
        have e1 : (o.take (wk x o) ++ x :: o.drop (wk x o)).map (toAV ∘ sQ) = List.take (wk x o) (List.map (toAV ∘ sQ) o) ++ [AV.c (D.int IntKind.i64 x)] :: List.take (o.length - wk x o) (List.drop (wk x o) (List.map (toAV ∘ sQ) o)) := by
          rw [List.map_append, List.map_cons, List.map_take, List.map_drop, List.take_of_length_le (l := List.drop _ _) (by simp)]; rfl
        have hF := List.take_of_length_le (i := wk x o + 1 + (o.length - wk x o)) (l := (o.take (wk x o) ++ x :: o.drop (wk x o)).map sQ) (by rw [List.length_map]; omega)
        rw [e1] at hall
        have hlast : o[wk x o]? ≠ some x → vI (bAcc l (k + 1)) = .c (.vs 1 ((o.take (wk x o) ++ x :: o.drop (wk x o)).map sQ)) := fun h => by rw [hat, if_neg h]
        generalize (o.take (wk x o) ++ x :: o.drop (wk x o)).map sQ = K at *
        by_cases c : wk x o < o.length
        · obtain ⟨y, hy⟩ : ∃ t, o[wk x o]'c = t := ⟨_, rfl⟩
          have hy2 : o[wk x o]? = some y := by rw [List.getElem?_eq_getElem c, hy]
          rw [hy2] at hat hlast
          generalize wk x o = w at *
          by_cases e : y = x
          · have ho2 := key y hy2 e
            rcases hx2 with ⟨q2, hx⟩ | ⟨q2, hx⟩ <;>
            · simp -implicitDefEqProofs (disch := first | omega | (simp <;> fail) | assumption) [hlt, hk2, hs, Sp.cells, q2, q3, hlp, hx, c, hy, e, sQ]
              exact ⟨k + 1, ⟨by rw [v5_s, ho2], by omega⟩, by omega, by omega⟩
          · have e' : ¬ x = y := fun h => e h.symm
            have hne : some y ≠ some x := by simpa using e
            replace hlast := hlast hne
            clear hne
            rcases hx2 with ⟨q2, hx⟩ | ⟨q2, hx⟩ <;>
            · simp -implicitDefEqProofs (disch := first | omega | (simp <;> fail) | assumption) [hlt, hk2, hs, Sp.cells, q2, q3, hlp, hx, c, hy, e, e', sQ, hw, hlc, hwl, hall, hF]
              exact ⟨k + 1, ⟨by rw [v5_s, hlast], by omega⟩, by omega, by omega⟩
        · have hne : o[wk x o]? ≠ some x := by rw [List.getElem?_eq_none (by omega)]; simp
          replace hlast := hlast hne
          clear hne
          generalize wk x o = w at *
          have hz : o.length - w = 0 := by omega
          rw [hz] at hall hF
          have hall2 : allRows (List.take w (List.map (toAV ∘ sQ) o) ++ [[AV.c (D.int IntKind.i64 x)]]) = some K := by simpa using hall
          have hF2 : K.take (w + 1) = K := hF
          rcases hx2 with ⟨q2, hx⟩ | ⟨q2, hx⟩ <;>
          · simp -implicitDefEqProofs (disch := first | omega | (simp <;> fail) | assumption) [hlt, hk2, hs, Sp.cells, q2, q3, hlp, hx, c, sQ, hw, hlc, hall2, hF2]
            exact ⟨k + 1, ⟨by rw [v5_s, hlast], by omega⟩, by omega, by omega⟩
    · obtain rfl : k = 2 * l.length := by omega
      have : bAcc l (2 * l.length) = bnd l := by unfold bAcc bnd; rw [← hbl, List.take_length]
      rw [this]
      simp -implicitDefEqProofs (disch := first | omega | assumption)
  have hlp : lp (exec Γ M ref09_bounds_l2) M ⟨[(5, .nil 1), (6, spL l), (7, .c (.int .i64 0))], []⟩ = some (.ex 0, ⟨[(5, v5 (bnd l) (2 * l.length))], []⟩) := hin _ (by simp [v5_0])
  have ha0 := allRows_comp Sp.cells l
  have e0 : List.map (toAV ∘ Sp.cells) a ++ List.map (toAV ∘ Sp.cells) b = List.map (toAV ∘ Sp.cells) l := by rw [← hl, List.map_append]
  have hlc : ∀ l : List Sp, lcRows 11 (List.map (toAV ∘ Sp.cells) l) = true := fun l => lcRows_comp 11 Sp.cells l
  have hF := List.take_of_length_le (i := a.length + b.length) (l := l.map Sp.cells) (by rw [List.length_map, ← hl, List.length_append]; omega)
  have hln : l.length = a.length + b.length := by rw [← hl, List.length_append]
  rw [hl]
  have hend : v5 (bnd l) (2 * l.length) = .nil 1 ∧ bnd l = [] ∨ v5 (bnd l) (2 * l.length) = vI (bnd l) := by
    rcases Nat.eq_zero_or_pos l.length with h0 | h0
    · obtain rfl := List.eq_nil_of_length_eq_zero h0
      exact .inl ⟨rfl, rfl⟩
    · exact .inr (v5_p _ (by omega))
  rcases hend with ⟨h1, h2⟩ | h1
  · rw [h1] at hlp
    simp -implicitDefEqProofs (disch := first | omega | (simp <;> fail) | assumption) [hlp, ha0, e0, hlc, hF, h2, hln]
  · rw [h1] at hlp
    simp -implicitDefEqProofs (disch := first | omega | (simp <;> fail) | assumption) [hlp, ha0, e0, hlc, hF, hln]
/-! ### A row made anew -/
def MakeC (g : List AV → Option (List AV)) : Prop := ∀ (a b : List Sp) (k : Int), a.length ≤ 1000 → b.length ≤ 1000 → g [spL a, spL b, i64 k] = some [spL (makeS a b k)]
def oR (l : List Sp) : Rows := l.map (toAV ∘ Sp.cells)
theorem oR_len (l : List Sp) : (oR l).length = l.length := List.length_map _
theorem make_k1 (Γ : Env) (M : Nat) (A B L : AV) (k : Int) (i n : Nat) (O : Obj) (p : Bool) : True := trivial
theorem ref09_Make_run (Γ : Env) (M : Nat) (hM : 5000 < M) (hB : BndC (Γ 301)) (hH : HasC (Γ 268)) : MakeC (run Γ M ref09_Make_f) := by
  intro a b k ha hb
  have hbd := hB a b ha hb
  have hbl := bnd_len (a ++ b)
  rw [List.length_append] at hbl
  obtain ⟨l, hl⟩ : ∃ l, bnd (a ++ b) = l := ⟨_, rfl⟩
  have hmk : makeS a b k = mkAcc (kindP a b k) l (l.length - 1) := by rw [makeS, hl]
  rw [hl] at hbd hbl
  rw [hmk]
  obtain ⟨p, hp⟩ : ∃ p, kindP a b k = p := ⟨_, rfl⟩
  rw [hp]
  obtain ⟨ax, s', ⟨rfl, rfl⟩, hin⟩ : ∃ ax s', (ax = .ex 0 ∧ s' = ⟨[(8, .sl 8 (mkAcc p l (l.length - 1)).length 0 (mkAcc p l (l.length - 1)).length)], [(8, ⟨2, oR (mkAcc p l (l.length - 1))⟩)]⟩) ∧ ∀ s0, nrm [0, 1, 2, 7, 8, 9] [8, 92] s0 = ⟨[(0, spL a), (1, spL b), (2, i64 k), (7, vI l), (8, .sl 8 (mkAcc p l 0).length 0 (mkAcc p l 0).length), (9, i64 (0 : Nat))], [(8, ⟨2, oR (mkAcc p l 0)⟩)]⟩ → lp (exec Γ M ref09_Make_l1) M s0 = some (ax, s') := by
    refine lp_all (fun q : Nat => ⟨[(0, spL a), (1, spL b), (2, i64 k), (7, vI l), (8, .sl 8 (mkAcc p l q).length 0 (mkAcc p l q).length), (9, i64 q)], [(8, ⟨2, oR (mkAcc p l q)⟩)]⟩) (fun q => q ≤ l.length - 1) (fun q => l.length - 1 - q) _ 0 M (by simp [oR, mkAcc]) (by omega) (by omega) ?_
    intro i hi
    by_cases hlt : i + 1 < l.length
    · have hi1 : i < l.length := by omega
      obtain ⟨x, hx⟩ : ∃ t, l[i]'hi1 = t := ⟨_, rfl⟩
      obtain ⟨y, hy⟩ : ∃ t, l[i + 1]'hlt = t := ⟨_, rfl⟩
      have hdx : l.getD i 0 = x := by rw [List.getD_eq_getElem?_getD, List.getElem?_eq_getElem hi1, hx]; rfl
      have hdy : l.getD (i + 1) 0 = y := by rw [List.getD_eq_getElem?_getD, List.getElem?_eq_getElem hlt, hy]; rfl
      have hsn : mkAcc p l (i + 1) = if p x then mkStep (mkAcc p l i) x y else mkAcc p l i := by rw [mkAcc, hdx, hdy]
      have hal := mkAcc_len p l i
      have e1 := hH a x ha
      have e2 := hH b x hb
      have hpx : p x = (decide (HasS a x) && (if k = 1 then decide (HasS b x) else true) && (if k = 2 then !decide (HasS b x) else true)) := by rw [← hp]; rfl
      generalize decide (HasS a x) = A at *
      generalize decide (HasS b x) = B at *
      obtain ⟨o, ho⟩ : ∃ o, mkAcc p l i = o := ⟨_, rfl⟩
      rw [ho] at hsn hal ⊢
      have hrl := oR_len o
      have hlc : lcRows 8 (oR o) = true := lcRows_comp 8 Sp.cells o
      have hkk : k = 1 ∨ k = 2 ∨ (¬ k = 1 ∧ ¬ k = 2) := by omega
      have ho3 : o = [] ∨ ∃ o' s, o = o' ++ [s] := by
        rcases List.eq_nil_or_concat o with h | ⟨o', s, h⟩
        · exact .inl h
        · exact .inr ⟨o', s, by rw [h, List.concat_eq_append]⟩
      cases hpv : p x with
      | false =>
        rw [hpv] at hpx
        rw [hpv, if_neg (by simp)] at hsn
        rcases hkk with rfl | rfl | ⟨k1, k2⟩
        · cases A <;> cases B <;> simp at hpx <;>
          · simp -implicitDefEqProofs (disch := first | omega | (simp <;> fail) | assumption) [hlt, hi1, hx, hy, sQ, e1, e2]
            exact ⟨i + 1, ⟨⟨by rw [hsn], by omega⟩, by rw [hsn]⟩, by omega, by omega⟩
        · cases A <;> cases B <;> simp at hpx <;>
          · simp -implicitDefEqProofs (disch := first | omega | (simp <;> fail) | assumption) [hlt, hi1, hx, hy, sQ, e1, e2]
            exact ⟨i + 1, ⟨⟨by rw [hsn], by omega⟩, by rw [hsn]⟩, by omega, by omega⟩
        · cases A <;> cases B <;> simp [k1, k2] at hpx <;>
          · simp -implicitDefEqProofs (disch := first | omega | (simp <;> fail) | assumption) [hlt, hi1, hx, hy, sQ, e1, e2, k1, k2]
            exact ⟨i + 1, ⟨⟨by rw [hsn], by omega⟩, by rw [hsn]⟩, by omega, by omega⟩
      | true =>
        rw [hpv] at hpx
        rw [hpv, if_pos rfl] at hsn
        rcases ho3 with rfl | ⟨o', s, rfl⟩
        · have hst : mkStep [] x y = [⟨x, y⟩] := rfl
          rw [hst] at hsn
          rcases hkk with rfl | rfl | ⟨k1, k2⟩
          · cases A <;> cases B <;> simp at hpx <;>
            · simp -implicitDefEqProofs (disch := first | omega | (simp <;> fail) | assumption) [hlt, hi1, hx, hy, sQ, e1, e2, oR]
              exact ⟨i + 1, ⟨⟨by rw [hsn]; rfl, by omega⟩, by rw [hsn]; rfl⟩, by omega, by omega⟩
          · cases A <;> cases B <;> simp at hpx <;>
            · simp -implicitDefEqProofs (disch := first | omega | (simp <;> fail) | assumption) [hlt, hi1, hx, hy, sQ, e1, e2, oR]
              exact ⟨i + 1, ⟨⟨by rw [hsn]; rfl, by omega⟩, by rw [hsn]; rfl⟩, by omega, by omega⟩
          · cases A <;> cases B <;> simp [k1, k2] at hpx <;>
            · simp -implicitDefEqProofs (disch := first | omega | (simp <;> fail) | assumption) [hlt, hi1, hx, hy, sQ, e1, e2, oR, k1, k2]
              exact ⟨i + 1, ⟨⟨by rw [hsn]; rfl, by omega⟩, by rw [hsn]; rfl⟩, by omega, by omega⟩
        · have hlen : (oR (o' ++ [s])).length = o'.length + 1 := by rw [oR_len]; simp
          have hol : (o' ++ [s]).length = o'.length + 1 := by simp
          have hget : (oR (o' ++ [s]))[o'.length]? = some [i64 s.f, i64 s.t] := by unfold oR; rw [List.getElem?_map, List.getElem?_append_right (by omega), Nat.sub_self]; rfl
          have hget2 := (List.getElem?_eq_some_iff.1 hget).2
          have hz : ((o'.length : Int) + 1 - 1) = o'.length := by omega
          rw [hol] at *
          by_cases hst : s.t = x
          · have hsn2 : mkAcc p l (i + 1) = o' ++ [⟨s.f, y⟩] := by
              rw [hsn]; unfold mkStep; simp [hst]
            have hset : (oR (o' ++ [s])).set o'.length [i64 s.f, i64 y] = oR (o' ++ [⟨s.f, y⟩]) := by
              unfold oR; rw [List.map_append, List.map_append, List.set_append_right _ _ (by simp)]; simp [toAV, Sp.cells]
            have hln2 : (mkAcc p l (i + 1)).length = o'.length + 1 := by rw [hsn2]; simp
            rcases hkk with rfl | rfl | ⟨k1, k2⟩
            · cases A <;> cases B <;> simp at hpx <;>
              · simp -implicitDefEqProofs (disch := first | omega | (simp <;> fail) | assumption) [hlt, hi1, hx, hy, sQ, e1, e2, hlen, hget, hget2, hst, hlc]
                exact ⟨i + 1, ⟨⟨by rw [hln2], by omega⟩, by rw [hsn2, ← hset, List.set_eq_take_append_cons_drop, if_pos (by omega)]⟩, by omega, by omega⟩
            · cases A <;> cases B <;> simp at hpx <;>
              · simp -implicitDefEqProofs (disch := first | omega | (simp <;> fail) | assumption) [hlt, hi1, hx, hy, sQ, e1, e2, hlen, hget, hget2, hst, hlc]
                exact ⟨i + 1, ⟨⟨by rw [hln2], by omega⟩, by rw [hsn2, ← hset, List.set_eq_take_append_cons_drop, if_pos (by omega)]⟩, by omega, by omega⟩
            · cases A <;> cases B <;> simp [k1, k2] at hpx <;>
              · simp -implicitDefEqProofs (disch := first | omega | (simp <;> fail) | assumption) [hlt, hi1, hx, hy, sQ, e1, e2, hlen, hget, hget2, hst, hlc, k1, k2]
                exact ⟨i + 1, ⟨⟨by rw [hln2], by omega⟩, by rw [hsn2, ← hset, List.set_eq_take_append_cons_drop, if_pos (by omega)]⟩, by omega, by omega⟩
          · have hsn2 : mkAcc p l (i + 1) = (o' ++ [s]) ++ [⟨x, y⟩] := by
              rw [hsn]; unfold mkStep; simp [hst]
            have hln2 : (mkAcc p l (i + 1)).length = o'.length + 1 + 1 := by rw [hsn2]; simp
            have hap : oR (o' ++ [s]) ++ [[i64 x, i64 y]] = oR (mkAcc p l (i + 1)) := by rw [hsn2]; unfold oR; rw [List.map_append (l₁ := o' ++ [s])]; rfl
            rcases hkk with rfl | rfl | ⟨k1, k2⟩
            · cases A <;> cases B <;> simp at hpx <;>
              · simp -implicitDefEqProofs (disch := first | omega | (simp <;> fail) | assumption) [hlt, hi1, hx, hy, sQ, e1, e2, hlen, hget, hget2, hst, hlc]
                exact ⟨i + 1, ⟨⟨by rw [hln2], by omega⟩, by rw [← hap]⟩, by omega, by omega⟩
            · cases A <;> cases B <;> simp at hpx <;>
              · simp -implicitDefEqProofs (disch := first | omega | (simp <;> fail) | assumption) [hlt, hi1, hx, hy, sQ, e1, e2, hlen, hget, hget2, hst, hlc]
                exact ⟨i + 1, ⟨⟨by rw [hln2], by omega⟩, by rw [← hap]⟩, by omega, by omega⟩
            · cases A <;> cases B <;> simp [k1, k2] at hpx <;>
              · simp -implicitDefEqProofs (disch := first | omega | (simp <;> fail) | assumption) [hlt, hi1, hx, hy, sQ, e1, e2, hlen, hget, hget2, hst, hlc, k1, k2]
                exact ⟨i + 1, ⟨⟨by rw [hln2], by omega⟩, by rw [← hap]⟩, by omega, by omega⟩
    · obtain rfl : i = l.length - 1 := by omega
      have hnl : ¬ ((l.length - 1 : Nat) : Int) + 1 < l.length := by omega
      have hnb : l.length - 1 ≤ 4000 := by omega
      generalize l.length - 1 = n at *
      simp -implicitDefEqProofs (disch := first | omega | assumption) [hnl, hlt]
  have hlp : lp (exec Γ M ref09_Make_l1) M ⟨[(0, spL a), (1, spL b), (2, i64 k), (7, vI l), (8, .sl 8 0 0 0), (9, .c (.int .i64 0))], [(8, ⟨2, []⟩)]⟩ = some (.ex 0, ⟨[(8, .sl 8 (mkAcc p l (l.length - 1)).length 0 (mkAcc p l (l.length - 1)).length)], [(8, ⟨2, oR (mkAcc p l (l.length - 1))⟩)]⟩) := hin _ (by simp [mkAcc, oR])
  have ha := allRows_comp Sp.cells (mkAcc p l (l.length - 1))
  have hrl := oR_len (mkAcc p l (l.length - 1))
  have hF := List.take_of_length_le (i := (mkAcc p l (l.length - 1)).length) (l := (mkAcc p l (l.length - 1)).map Sp.cells) (by simp)
  rw [show List.map (toAV ∘ Sp.cells) (mkAcc p l (l.length - 1)) = oR (mkAcc p l (l.length - 1)) from rfl] at ha
  generalize mkAcc p l (l.length - 1) = o at *
  generalize hG : oR o = G at *
  generalize hK : o.map Sp.cells = K at *
  simp -implicitDefEqProofs (disch := first | omega | (simp <;> fail) | assumption) [hbd, hlp, ha, hrl, hF, hK]
end Go.Am
