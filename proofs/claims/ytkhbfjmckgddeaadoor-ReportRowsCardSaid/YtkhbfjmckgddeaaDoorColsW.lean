/- Law 16: widths of columns, row by row and column by column. -/
import Derived.Test.YtkhbfjmckgddeaaDoorCols
set_option linter.unusedVariables false
set_option linter.unusedSimpArgs false
set_option maxRecDepth 10000
set_option maxHeartbeats 2000000
namespace Go.Am
/-- Widths with a row more. -/
def updW : List Int → TRow → List Int
  | o :: out, s :: r => max o s.length :: updW out r
  | [], s :: r => (s.length : Int) :: updW [] r
  | out, [] => out
theorem updW_nil : ∀ out : List Int, updW out [] = out
  | [] => rfl
  | _ :: _ => rfl
theorem updW_len : ∀ (out : List Int) (r : TRow), (updW out r).length = max out.length r.length
  | [], [] => rfl
  | o :: out, [] => by rw [updW_nil]; simp
  | [], s :: r => by simp only [updW, List.length_cons, updW_len [] r, List.length_nil]; omega
  | o :: out, s :: r => by simp only [updW, List.length_cons, updW_len out r]; omega
theorem updW_get : ∀ (out : List Int) (r : TRow) (k : Nat), (updW out r)[k]? = match out[k]?, r[k]? with
    | some o, some s => some (max o s.length)
    | some o, none => some o
    | none, some s => some (s.length : Int)
    | none, none => none
  | [], [], k => by simp [updW]
  | o :: out, [], k => by
    rw [updW_nil]; simp only [List.getElem?_nil]
    cases (o :: out)[k]? <;> rfl
  | [], s :: r, 0 => by simp [updW]
  | [], s :: r, k + 1 => by
    rw [updW, List.getElem?_cons_succ, updW_get [] r k]; simp
  | o :: out, s :: r, 0 => by simp [updW]
  | o :: out, s :: r, k + 1 => by
    rw [updW, List.getElem?_cons_succ, updW_get out r k]; simp
theorem updW_snoc_old (out : List Int) (r : TRow) (i : Nat) (hi : i < r.length) (hc : i < (updW out (r.take i)).length) :
    updW out (r.take (i + 1)) = (updW out (r.take i)).set i (max (updW out (r.take i))[i] (r[i].length : Int)) := by
  have hl := updW_len out (r.take i)
  rw [List.length_take] at hl
  have hio : i < out.length := by omega
  have hg : (updW out (r.take i))[i] = out[i] := by
    have := updW_get out (r.take i) i
    rw [List.getElem?_take, if_neg (by omega), List.getElem?_eq_getElem hio, List.getElem?_eq_getElem hc] at this
    simpa using this
  rw [hg]
  apply List.ext_getElem?
  intro k
  rw [List.getElem?_set, updW_get, updW_get, List.getElem?_take, List.getElem?_take]
  by_cases hk : i = k
  · subst hk
    rw [if_pos rfl, if_pos (by omega), if_pos hc, List.getElem?_eq_getElem hio, List.getElem?_eq_getElem hi]
  · rw [if_neg hk]
    by_cases h1 : k < i
    · rw [if_pos (by omega), if_pos h1]
    · rw [if_neg (by omega), if_neg h1]
theorem updW_snoc_new (out : List Int) (r : TRow) (i : Nat) (hi : i < r.length) (hc : ¬ i < (updW out (r.take i)).length) :
    (updW out (r.take i)).length = i ∧ updW out (r.take (i + 1)) = updW out (r.take i) ++ [(r[i].length : Int)] := by
  have hl := updW_len out (r.take i)
  rw [List.length_take] at hl
  have hio : out.length ≤ i := by omega
  have hli : (updW out (r.take i)).length = i := by omega
  refine ⟨hli, ?_⟩
  apply List.ext_getElem?
  intro k
  rw [updW_get, List.getElem?_take]
  by_cases h1 : k < i
  · rw [if_pos (by omega), List.getElem?_append_left (by omega), updW_get, List.getElem?_take, if_pos h1]
  · rw [List.getElem?_append_right (by omega), hli]
    by_cases h2 : k = i
    · subst h2
      rw [if_pos (by omega), Nat.sub_self, List.getElem?_eq_none hio, List.getElem?_eq_getElem hi]; rfl
    · rw [if_neg (by omega), List.getElem?_eq_none (by omega)]
      simp; omega
def wid (rs : List TRow) : List Int := rs.foldl updW []
/-- A column's width, row by row. -/
def colF (k : Nat) (w : Int) (r : TRow) : Int := match r[k]? with
  | some s => max w s.length
  | none => w
def colW (rs : List TRow) (k : Nat) : Int := rs.foldl (colF k) 0
def nCols (rs : List TRow) : Nat := rs.foldl (fun n r => max n r.length) 0
theorem wid_len_aux : ∀ (rs : List TRow) (out : List Int) (n : Nat), out.length = n → (rs.foldl updW out).length = rs.foldl (fun n r => max n r.length) n
  | [], out, n, h => h
  | r :: rs, out, n, h => by
    rw [List.foldl_cons, List.foldl_cons]
    exact wid_len_aux rs _ _ (by rw [updW_len, h])
theorem wid_len (rs : List TRow) : (wid rs).length = nCols rs := wid_len_aux rs [] 0 rfl
theorem wid_get_aux : ∀ (rs : List TRow) (out : List Int) (k : Nat), (∀ x ∈ out, 0 ≤ x) → (rs.foldl updW out).getD k 0 = rs.foldl (colF k) (out.getD k 0)
  | [], out, k, h => rfl
  | r :: rs, out, k, h => by
    rw [List.foldl_cons, List.foldl_cons, wid_get_aux rs (updW out r) k ?_]
    · congr 1
      rw [List.getD_eq_getElem?_getD, updW_get, List.getD_eq_getElem?_getD]
      unfold colF
      cases out[k]? <;> cases r[k]? <;> simp
    · intro x hx
      obtain ⟨i, hi, rfl⟩ := List.getElem_of_mem hx
      have := updW_get out r i
      rw [List.getElem?_eq_getElem hi] at this
      cases ho : out[i]? with
      | none =>
        rw [ho] at this
        cases hr : r[i]? with
        | none => rw [hr] at this; simp at this
        | some s => rw [hr] at this; simp only [Option.some.injEq] at this; omega
      | some o =>
        have h0 := h o (List.mem_of_getElem? ho)
        rw [ho] at this
        cases hr : r[i]? with
        | none => rw [hr] at this; simp only [Option.some.injEq] at this; omega
        | some s => rw [hr] at this; simp only [Option.some.injEq] at this; omega
theorem wid_cols (rs : List TRow) : wid rs = (List.range (nCols rs)).map (colW rs) := by
  apply List.ext_getElem
  · rw [wid_len]; simp
  · intro k h1 h2
    have := wid_get_aux rs [] k (by simp)
    rw [List.getD_eq_getElem?_getD, show rs.foldl updW [] = wid rs from rfl, List.getElem?_eq_getElem h1] at this
    simp only [Option.getD_some, List.getD_nil] at this
    rw [this]; simp [colW]
theorem nCols_aux : ∀ (rs : List TRow) (n k : Nat), (k < rs.foldl (fun n r => max n r.length) n ↔ k < n ∨ ∃ r ∈ rs, k < r.length)
  | [], n, k => by simp
  | r :: rs, n, k => by
    rw [List.foldl_cons, nCols_aux rs (max n r.length) k]
    simp only [List.mem_cons, exists_eq_or_imp]
    constructor
    · rintro (h | h)
      · by_cases h2 : k < n
        · exact .inl h2
        · exact .inr (.inl (by omega))
      · exact .inr (.inr h)
    · rintro (h | h | h)
      · exact .inl (by omega)
      · exact .inl (by omega)
      · exact .inr h
theorem nCols_iff (rs : List TRow) (k : Nat) : k < nCols rs ↔ ∃ r ∈ rs, k < r.length := by
  rw [nCols, nCols_aux]; simp
theorem nCols_small {rs : List TRow} (h : Small rs) : nCols rs ≤ 20 := by
  rcases Nat.lt_or_ge 20 (nCols rs) with h1 | h1
  · obtain ⟨r, hr, h2⟩ := (nCols_iff rs 20).1 h1
    have := (h.rows r hr).few; omega
  · exact h1
theorem colF_bound {k : Nat} : ∀ (rs : List TRow) (w : Int), (0 ≤ w ∧ w ≤ 60) → (∀ r ∈ rs, SmallR r) → 0 ≤ rs.foldl (colF k) w ∧ rs.foldl (colF k) w ≤ 60
  | [], w, h, _ => h
  | r :: rs, w, h, hs => by
    rw [List.foldl_cons]
    refine colF_bound rs _ ?_ fun x hx => hs x (by simp [hx])
    unfold colF
    cases hr : r[k]? with
    | none => exact h
    | some s =>
      have := (hs r (by simp)).short s (List.mem_of_getElem? hr)
      simp only; omega
def WidthsC (g : List AV → Option (List AV)) : Prop := ∀ rs : List TRow, Small rs → g [vRs rs] = some [vN (wid rs)]
def nR (l : List Int) : Rows := l.map (toAV ∘ numQ)
theorem nR_len (l : List Int) : (nR l).length = l.length := List.length_map _
theorem widths_in (Γ : Env) (M : Nat) (hM : 130 < M) (rs : List TRow) (out : List Int) (i : Nat) (r : TRow) (hr : SmallR r) (ho : out.length ≤ 20) :
    ∀ s0, nrm [3, 8, 9, 10, 14, 15, 16] [3, 27] s0 = ⟨[(3, .sl 3 out.length 0 out.length), (8, vRs rs), (9, i64 rs.length), (10, i64 i), (14, vR r), (15, i64 r.length), (16, i64 (0 : Nat))], [(3, ⟨1, nR out⟩)]⟩ →
      lp (exec Γ M cols_Widths_l1) M s0 = some (.ex 2, ⟨[(3, .sl 3 (updW out r).length 0 (updW out r).length), (8, vRs rs), (9, i64 rs.length), (10, i64 i)], [(3, ⟨1, nR (updW out r)⟩)]⟩) := by
  have hfew := hr.few
  have h00 : updW out (r.take 0) = out := updW_nil out
  obtain ⟨ax, s', ⟨rfl, rfl⟩, hin⟩ : ∃ ax s', (ax = .ex 2 ∧ s' = ⟨[(3, .sl 3 (updW out r).length 0 (updW out r).length), (8, vRs rs), (9, i64 rs.length), (10, i64 i)], [(3, ⟨1, nR (updW out r)⟩)]⟩) ∧ ∀ s0, nrm [3, 8, 9, 10, 14, 15, 16] [3, 27] s0 = ⟨[(3, .sl 3 (updW out (r.take 0)).length 0 (updW out (r.take 0)).length), (8, vRs rs), (9, i64 rs.length), (10, i64 i), (14, vR r), (15, i64 r.length), (16, i64 (0 : Nat))], [(3, ⟨1, nR (updW out (r.take 0))⟩)]⟩ → lp (exec Γ M cols_Widths_l1) M s0 = some (ax, s') := by
    refine lp_all (fun q : Nat => ⟨[(3, .sl 3 (updW out (r.take q)).length 0 (updW out (r.take q)).length), (8, vRs rs), (9, i64 rs.length), (10, i64 i), (14, vR r), (15, i64 r.length), (16, i64 q)], [(3, ⟨1, nR (updW out (r.take q))⟩)]⟩) (fun q => q ≤ r.length) (fun q => r.length - q) _ 0 M (by simp) (by omega) (by omega) ?_
    intro k hk
    by_cases hlt : k < r.length
    · obtain ⟨w, hw⟩ : ∃ w, r[k]'hlt = w := ⟨_, rfl⟩
      have hws := hr.short w (by rw [← hw]; exact List.getElem_mem hlt)
      have hlen := updW_len out (r.take k)
      rw [List.length_take] at hlen
      by_cases c : k < (updW out (r.take k)).length
      · have hs := updW_snoc_old out r k hlt c
        rw [hw] at hs
        obtain ⟨U, hU⟩ : ∃ U, updW out (r.take k) = U := ⟨_, rfl⟩
        simp only [hU] at hs hlen c ⊢
        obtain ⟨o, hok⟩ : ∃ o, U[k]'c = o := ⟨_, rfl⟩
        rw [hok] at hs
        have hrl := nR_len U
        have hget : (nR U)[k]? = some [i64 o] := by unfold nR; rw [List.getElem?_map, List.getElem?_eq_getElem c, hok]; rfl
        have hne : ¬ k = U.length := by omega
        have hget2 := (List.getElem?_eq_some_iff.1 hget).2
        simp -implicitDefEqProofs (disch := first | omega | assumption) [hlt, hw, txQ, c, hne, hrl, hget, hget2]
        refine ⟨k + 1, ⟨⟨by rw [hs, List.length_set], by omega⟩, ?_⟩, by omega, by omega⟩
        rw [hs, List.set_eq_take_append_cons_drop, if_pos c, show (if o < (w.length : Int) then (w.length : Int) else o) = max o w.length by omega]
        simp [nR, List.map_take, List.map_drop, numQ, toAV]
      · obtain ⟨hli, hs⟩ := updW_snoc_new out r k hlt c
        rw [hw] at hs
        obtain ⟨U, hU⟩ : ∃ U, updW out (r.take k) = U := ⟨_, rfl⟩
        simp only [hU] at hs hlen c hli ⊢
        have hrl := nR_len U
        have hrc : lcRows 3 (nR U) = true := lcRows_comp 3 numQ _
        have hgn : (nR U ++ [[i64 0]])[k]? = some [i64 0] := by rw [List.getElem?_append_right (by omega), hrl, hli, Nat.sub_self]; rfl
        simp -implicitDefEqProofs (disch := first | omega | assumption) [hlt, hw, txQ, c, hli, hrl, hrc, hgn]
        refine ⟨k + 1, ⟨⟨by rw [hs]; simp; omega, by omega⟩, ?_⟩, by omega, by omega⟩
        rw [hs, List.drop_eq_nil_of_le (by simp [hrl]; omega), show (if 0 < w.length then (w.length : Int) else 0) = w.length by split <;> omega]
        simp [nR, numQ, toAV]
    · obtain rfl : k = r.length := by omega
      simp only [List.take_length]
      simp -implicitDefEqProofs (disch := first | omega | assumption)
  rw [h00] at hin
  exact hin
theorem foldl_take_succ {α β : Type} (f : β → α → β) (b : β) (l : List α) (k : Nat) (h : k < l.length) : (l.take (k + 1)).foldl f b = f ((l.take k).foldl f b) l[k] := by
  rw [List.take_succ_eq_append_getElem h, List.foldl_append]; rfl
theorem wid_take_len {rs : List TRow} (h : Small rs) (k : Nat) : (wid (rs.take k)).length ≤ 20 := by
  rw [wid_len]
  refine nCols_small ⟨?_, fun r hr => h.rows r (List.mem_of_mem_take hr)⟩
  have := h.few
  rw [List.length_take]; omega
theorem cols_Widths_run (Γ : Env) (M : Nat) (hM : 130 < M) : WidthsC (run Γ M cols_Widths_f) := by
  intro rs hs
  have hfew := hs.few
  obtain ⟨ax, s', ⟨rfl, rfl⟩, hin⟩ : ∃ ax s', (ax = .ex 0 ∧ s' = ⟨[(3, .sl 3 (wid rs).length 0 (wid rs).length)], [(3, ⟨1, nR (wid rs)⟩)]⟩) ∧ ∀ s0, nrm [3, 8, 9, 10] [3, 27] s0 = ⟨[(3, .sl 3 (wid (rs.take 0)).length 0 (wid (rs.take 0)).length), (8, vRs rs), (9, i64 rs.length), (10, i64 (0 : Nat))], [(3, ⟨1, nR (wid (rs.take 0))⟩)]⟩ → lp (exec Γ M cols_Widths_l2) M s0 = some (ax, s') := by
    refine lp_all (fun q : Nat => ⟨[(3, .sl 3 (wid (rs.take q)).length 0 (wid (rs.take q)).length), (8, vRs rs), (9, i64 rs.length), (10, i64 q)], [(3, ⟨1, nR (wid (rs.take q))⟩)]⟩) (fun q => q ≤ rs.length) (fun q => rs.length - q) _ 0 M (by simp) (by omega) (by omega) ?_
    intro k hk
    by_cases hlt : k < rs.length
    · obtain ⟨r, hr⟩ : ∃ w, rs[k]'hlt = w := ⟨_, rfl⟩
      have hrs := hs.rows r (by rw [← hr]; exact List.getElem_mem hlt)
      have hsn : wid (rs.take (k + 1)) = updW (wid (rs.take k)) r := by unfold wid; rw [foldl_take_succ _ _ _ _ hlt, hr]
      have hol := wid_take_len hs k
      generalize wid (rs.take k) = U at *
      have hlp := widths_in Γ M hM rs U k r hrs hol
      simp -implicitDefEqProofs (disch := first | omega | (simp <;> fail) | assumption) [hlt, hr, rowQ, hlp]
      exact ⟨k + 1, ⟨⟨by rw [hsn], by omega⟩, by rw [hsn]⟩, by omega, by omega⟩
    · obtain rfl : k = rs.length := by omega
      rw [List.take_length]
      simp -implicitDefEqProofs (disch := first | omega | assumption)
  have hin := hin ⟨[(3, .sl 3 0 0 0), (8, vRs rs), (9, i64 rs.length), (10, i64 (0 : Nat))], [(3, ⟨1, []⟩)]⟩ (by simp [wid, nR])
  simp at hin
  have ha := allRows_comp numQ (wid rs)
  have hF2 : ((wid rs).map numQ).take (wid rs).length = (wid rs).map numQ := by rw [List.take_of_length_le]; simp
  have hrl := nR_len (wid rs)
  rw [show (wid rs).map (toAV ∘ numQ) = nR (wid rs) from rfl] at ha
  generalize nR (wid rs) = G at *
  obtain ⟨K, hK⟩ : ∃ K, (wid rs).map numQ = K := ⟨_, rfl⟩
  simp only [hK] at ha hF2 ⊢
  generalize (wid rs).length = N at *
  simp -implicitDefEqProofs (disch := first | omega | assumption) [hin, ha, hF2, hrl, hK]
theorem rwidths_in (Γ : Env) (M : Nat) (hM : 130 < M) (rs : List TRow) (hs : Small rs) (k : Nat) (A : AV) (O : Obj) :
    ∀ s0, nrm [0, 3, 4, 5, 6, 7] [3, 47] s0 = ⟨[(0, vRs rs), (3, A), (4, i64 k), (5, i64 0), (6, bo false), (7, i64 (0 : Nat))], [(3, O)]⟩ →
      lp (exec Γ M ref16_Widths_l1) M s0 = some (.ex 2, ⟨[(0, vRs rs), (3, A), (4, i64 k), (5, i64 (colW rs k)), (6, bo (decide (k < nCols rs)))], [(3, O)]⟩) := by
  have hfew := hs.few
  obtain ⟨ax, s', ⟨rfl, rfl⟩, hin⟩ : ∃ ax s', (ax = .ex 2 ∧ s' = ⟨[(0, vRs rs), (3, A), (4, i64 k), (5, i64 (colW rs k)), (6, bo (decide (k < nCols rs)))], [(3, O)]⟩) ∧ ∀ s0, nrm [0, 3, 4, 5, 6, 7] [3, 47] s0 = ⟨[(0, vRs rs), (3, A), (4, i64 k), (5, i64 0), (6, bo false), (7, i64 (0 : Nat))], [(3, O)]⟩ → lp (exec Γ M ref16_Widths_l1) M s0 = some (ax, s') := by
    refine lp_all (fun q : Int × Bool × Nat => ⟨[(0, vRs rs), (3, A), (4, i64 k), (5, i64 q.1), (6, bo q.2.1), (7, i64 q.2.2)], [(3, O)]⟩) (fun q => q.2.2 ≤ rs.length ∧ q.1 = (rs.take q.2.2).foldl (colF k) 0 ∧ (q.2.1 = true ↔ ∃ r ∈ rs.take q.2.2, k < r.length)) (fun q => rs.length - q.2.2) _ (0, false, 0) M (by simp) ⟨by simp, by simp, by simp⟩ (by dsimp only; omega) ?_
    rintro ⟨c, b, i⟩ ⟨h1, h2, h3⟩
    dsimp only at h1 h2 h3 ⊢
    by_cases hlt : i < rs.length
    · obtain ⟨r, hr⟩ : ∃ w, rs[i]'hlt = w := ⟨_, rfl⟩
      have hrs := hs.rows r (by rw [← hr]; exact List.getElem_mem hlt)
      have hsn := foldl_take_succ (colF k) 0 rs i hlt
      rw [hr, ← h2] at hsn
      have hts : rs.take (i + 1) = rs.take i ++ [r] := by rw [List.take_succ_eq_append_getElem hlt, hr]
      have hcb := colF_bound (k := k) (rs.take i) 0 (by omega) fun x hx => hs.rows x (List.mem_of_mem_take hx)
      rw [← h2] at hcb
      by_cases d : k < r.length
      · obtain ⟨w, hw⟩ : ∃ w, r[k]'d = w := ⟨_, rfl⟩
        have hwl := hrs.short w (by rw [← hw]; exact List.getElem_mem d)
        have hcf : colF k c r = max c w.length := by unfold colF; rw [List.getElem?_eq_getElem d, hw]
        rw [hcf] at hsn
        have hb : ∃ x ∈ rs.take (i + 1), k < x.length := ⟨r, by rw [hts]; simp, d⟩
        by_cases e : c < (w.length : Int)
        · simp -implicitDefEqProofs (disch := first | omega | assumption) [-Bool.exists_bool, hlt, hr, rowQ, d, hw, txQ, e]
          exact ⟨_, true, i + 1, ⟨rfl, rfl, by omega⟩, ⟨by omega, by rw [hsn]; omega, ⟨fun _ => hb, fun _ => rfl⟩⟩, by omega⟩
        · simp -implicitDefEqProofs (disch := first | omega | assumption) [-Bool.exists_bool, hlt, hr, rowQ, d, hw, txQ, e]
          exact ⟨_, true, i + 1, ⟨rfl, rfl, by omega⟩, ⟨by omega, by rw [hsn]; omega, ⟨fun _ => hb, fun _ => rfl⟩⟩, by omega⟩
      · have hcf : colF k c r = c := by unfold colF; rw [List.getElem?_eq_none (by omega)]
        rw [hcf] at hsn
        have hb : (∃ x ∈ rs.take (i + 1), k < x.length) ↔ ∃ x ∈ rs.take i, k < x.length := by
          rw [hts]
          constructor
          · rintro ⟨x, hx, h⟩
            simp only [List.mem_append, List.mem_singleton] at hx
            rcases hx with hx | rfl
            · exact ⟨x, hx, h⟩
            · omega
          · rintro ⟨x, hx, h⟩; exact ⟨x, by simp [hx], h⟩
        simp -implicitDefEqProofs (disch := first | omega | assumption) [-Bool.exists_bool, hlt, hr, rowQ, d]
        exact ⟨c, b, i + 1, ⟨rfl, rfl, by omega⟩, ⟨by omega, hsn.symm, h3.trans hb.symm⟩, by omega⟩
    · obtain rfl : i = rs.length := by omega
      rw [List.take_length] at h2 h3
      have hb : decide (k < nCols rs) = b := by
        cases b with
        | true => exact decide_eq_true ((nCols_iff rs k).2 (h3.1 rfl))
        | false => exact decide_eq_false fun h => by have := h3.2 ((nCols_iff rs k).1 h); simp at this
      have hc : colW rs k = c := h2.symm
      simp -implicitDefEqProofs (disch := first | omega | assumption) [hb, hc]
  exact hin
end Go.Am
