/- Law 72's table: a row's texts; the table by the program; WindowsTexts. -/
import Derived.Test.YtkjlejpaajcahaaDoorWtxB
import Derived.Test.YtkjlejpaajcahaaDoorColsM
set_option linter.unusedVariables false
set_option linter.unusedSimpArgs false
set_option maxRecDepth 10000
set_option maxHeartbeats 2000000
namespace Go.Am
structure WRow where
  frm : Int
  to : Int
  came : Int
  inn : Int
  out : Int
  waited : Int
  behind : Int
@[simp] def WRow.cells (r : WRow) : List D := [.int .i64 r.frm, .int .i64 r.to, .int .i64 r.came, .int .i64 r.inn, .int .i64 r.out, .int .i64 r.waited, .int .i64 r.behind]
def ctWRow : List CT := [ctI, ctI, ctI, ctI, ctI, ctI, ctI]
theorem wrow_row (r : List D) (h : All2 WT ctWRow r) : ∃ t : WRow, r = t.cells ∧ True := by
  simp only [ctWRow, all2_cons, all2_nil, wt_i64] at h
  obtain ⟨_, _, rfl, ⟨a, rfl, ha⟩, _, _, rfl, ⟨b, rfl, hb⟩, _, _, rfl, ⟨c, rfl, hc⟩, _, _, rfl, ⟨d, rfl, hd⟩, _, _, rfl, ⟨e, rfl, he⟩, _, _, rfl, ⟨f, rfl, hf⟩, _, _, rfl, ⟨g, rfl, hg⟩, rfl⟩ := h
  exact ⟨⟨a, b, c, d, e, f, g⟩, rfl, trivial⟩
theorem wt_wrows {d : D} (h : WT (.sl ctWRow) d) : ∃ l : List WRow, AV.c d = .c (.vs 7 (l.map WRow.cells)) := by
  rw [wt_sl] at h
  obtain ⟨rows, rfl, hl, h⟩ := h
  obtain ⟨ts, rfl, -⟩ := rows_map wrow_row rows h
  exact ⟨ts, rfl⟩
structure WRow.Small (r : WRow) : Prop where
  frm : 0 ≤ r.frm ∧ r.frm ≤ 1099511627776
  to : 0 ≤ r.to ∧ r.to ≤ 1099511627776
  came : 0 ≤ r.came ∧ r.came ≤ 1099511627776
  inn : 0 ≤ r.inn ∧ r.inn ≤ 1099511627776
  out : 0 ≤ r.out ∧ r.out ≤ 1099511627776
  waited : 0 ≤ r.waited ∧ r.waited ≤ 1099511627776
  behind : 0 ≤ r.behind ∧ r.behind ≤ 1099511627776
def MeanC (g : List AV → Option (List AV)) : Prop := ∀ r : WRow, r.Small → g [.agg r.cells] = some [st (meanT r.waited r.inn)]
theorem div_zero_in {w i : Int} (hw : 0 ≤ w) (hi : 0 < i) : (0 ≤ w / i ∧ w / i ≤ w) ∧ 0 ≤ w % i ∧ w % i < i := div_in hw hi
theorem windows_mean_run {Γ : Env} {M : Nat} (h1 : FracOfC (Γ 387)) (h2 : HundC (Γ 386)) (h3 : FixC (Γ 385)) : MeanC (run Γ M windows_mean_f) := by
  rintro ⟨f, t, c, i, o, w, b⟩ ⟨-, -, -, ⟨i0, i1⟩, -, ⟨w0, w1⟩, -⟩
  simp only at i0 i1 w0 w1
  have e1 := h1 w i w0 w1 i0 i1
  unfold meanT
  by_cases hi : i = 0
  · subst hi
    simp only [if_pos, fracD] at e1
    simp -implicitDefEqProofs (disch := omega) [e1]
  · have hp : 0 < i := by omega
    obtain ⟨⟨p1, p2⟩, p3, p4⟩ := div_in (l := w) (c := i) w0 hp
    have e2 := h2 (w / i) (w % i) i p1 (by omega) p3 p4 i1
    have hin := hundT_in w0 hp
    have e3 := h3 (hundT w i) hin.1 (by omega)
    rw [show 100 * (w / i) + 100 * (w % i) / i = hundT w i from rfl] at e2
    simp only [if_neg hi, fracD] at e1 e2
    generalize w / i = q at *
    generalize w % i = r at *
    generalize hundT w i = H at *
    simp -implicitDefEqProofs (disch := omega) [e1, e2, e3, hp]
def cellsT (r : WRow) : TRow := [clkT r.frm ++ 45 :: clkT r.to, txt r.came, txt r.inn, txt r.out, meanT r.waited r.inn, txt r.behind]
def headW : TRow := [[116, 105, 109, 101], [99, 97, 109, 101], [105, 110], [111, 117, 116], [119, 97, 105, 116], [108, 101, 102, 116]]
def tableW (l : List WRow) : List TRow := headW :: l.map cellsT
theorem txt_len {n : Int} (h0 : 0 ≤ n) : (txt n).length ≤ 20 := by
  unfold txt; rw [if_neg (by omega)]; exact dig_len n
theorem meanT_len {w i : Int} (h : 0 < i → 0 ≤ hundT w i) : (meanT w i).length ≤ 23 := by
  unfold meanT
  split
  · have := dig_len (hundT w i / 100)
    unfold fixT dig2; simp; omega
  · simp
theorem tableW_small {l : List WRow} (hl : l.length ≤ 60) (h : ∀ r ∈ l, r.Small) : Small (tableW l) := by
  constructor
  · unfold tableW; simp; omega
  · intro r hr
    unfold tableW at hr
    rw [List.mem_cons] at hr
    rcases hr with rfl | hr
    · constructor
      · decide
      · decide
    · rw [List.mem_map] at hr
      obtain ⟨x, hx, rfl⟩ := hr
      obtain ⟨h1, h2, h3, h4, h5, h6, h7⟩ := h x hx
      constructor
      · simp [cellsT]
      · intro w hw
        simp only [cellsT, List.mem_cons, List.not_mem_nil, or_false] at hw
        have c1 := clkT_len h1.1 h1.2
        have c2 := clkT_len h2.1 h2.2
        have c3 := txt_len h3.1
        have c4 := txt_len h4.1
        have c5 := txt_len h5.1
        have c6 := txt_len h7.1
        have c7 := meanT_len (w := x.waited) (i := x.inn) (fun hi => (hundT_in h6.1 hi).1)
        rcases hw with rfl | rfl | rfl | rfl | rfl | rfl
        · simp; omega
        all_goals omega
def trR (rs : List TRow) : Rows := rs.map (toAV ∘ rowQ)
theorem trR_len (rs : List TRow) : (trR rs).length = rs.length := by simp [trR]
theorem trR_snoc (rs : List TRow) (r : TRow) : trR (rs ++ [r]) = trR rs ++ [[vR r]] := by simp [trR, rowQ, toAV]
theorem tableW_take (l : List WRow) (k : Nat) (h : k < l.length) : tableW (l.take (k + 1)) = tableW (l.take k) ++ [cellsT l[k]] := by
  unfold tableW; rw [List.take_succ_eq_append_getElem h, List.map_append]; rfl
def WTextC (g : List AV → Option (List AV)) : Prop := ∀ l : List WRow, l.length ≤ 60 → (∀ r ∈ l, r.Small) → g [.c (.vs 7 (l.map WRow.cells))] = some [st (linesG (wid (tableW l)) (tableW l))]
theorem windows_Text_run {Γ : Env} {M : Nat} (hM : 100 < M) (h1 : SpanTC (Γ 381)) (h2 : Of (Γ 50)) (h3 : MeanC (Γ 382)) (h4 : TextC16 (Γ 183)) : WTextC (run Γ M windows_Text_f) := by
  intro l hl hs
  have hT := h4 _ (tableW_small hl hs)
  obtain ⟨ax, s', ⟨rfl, rfl⟩, hin⟩ : ∃ ax s', (ax = .ex 0 ∧ s' = ⟨[(3, .sl 7 (l.length + 1) 0 (l.length + 1))], [(7, ⟨1, trR (tableW l)⟩)]⟩) ∧ ∀ t, nrm [3, 8, 9, 10] [3, 7, 34] t = ⟨[(3, .sl 7 (0 + 1) 0 (0 + 1)), (8, .c (.vs 7 (l.map WRow.cells))), (9, i64 l.length), (10, i64 (0 : Nat))], [(7, ⟨1, trR (tableW (l.take 0))⟩)]⟩ → lp (exec Γ M windows_Text_l1) M t = some (ax, s') := by
    refine lp_all (fun k : Nat => ⟨[(3, .sl 7 (k + 1) 0 (k + 1)), (8, .c (.vs 7 (l.map WRow.cells))), (9, i64 l.length), (10, i64 k)], [(7, ⟨1, trR (tableW (l.take k))⟩)]⟩) (fun k => k ≤ l.length) (fun k => l.length - k) _ 0 M (by simp) (by omega) (by omega) ?_
    intro k hk
    by_cases hlt : k < l.length
    · obtain ⟨r, hr⟩ : ∃ t, l[k]'hlt = t := ⟨_, rfl⟩
      have hrow : (l.map WRow.cells)[k]? = some r.cells := by rw [List.getElem?_map, List.getElem?_eq_getElem hlt, hr]; rfl
      have hsn := tableW_take l k hlt
      rw [hr] at hsn
      obtain ⟨q1, q2, q3, q4, q5, q6, q7⟩ := hs r (hr ▸ List.getElem_mem hlt)
      have a1 := h1 r.frm r.to q1.1 q1.2 q2.1 q2.2
      have a2 := h2 r.came ⟨by omega, by omega⟩
      have a3 := h2 r.inn ⟨by omega, by omega⟩
      have a4 := h2 r.out ⟨by omega, by omega⟩
      have a5 := h3 r ⟨q1, q2, q3, q4, q5, q6, q7⟩
      have a6 := h2 r.behind ⟨by omega, by omega⟩
      simp only [WRow.cells] at a5 hrow
      have hrl := trR_len (tableW (l.take k))
      have hrl2 : (tableW (l.take k)).length = k + 1 := by unfold tableW; simp; omega
      rw [hrl2] at hrl
      have hrn : ∀ z, nmRows z (trR (tableW (l.take k))) = true := fun z => nmRows_comp z rowQ _
      have hrc : ∀ z, lcRows z (trR (tableW (l.take k))) = true := fun z => lcRows_comp z rowQ _
      have hgoal : trR (tableW (l.take (k + 1))) = trR (tableW (l.take k)) ++ [[vR (cellsT r)]] := by rw [hsn, trR_snoc]
      have hcr : cellsT r = [clkT r.frm ++ 45 :: clkT r.to, txt r.came, txt r.inn, txt r.out, meanT r.waited r.inn, txt r.behind] := rfl
      rw [hcr] at hgoal
      generalize trR (tableW (l.take k)) = G at *
      generalize clkT r.frm ++ 45 :: clkT r.to = c1 at *
      generalize meanT r.waited r.inn = c2 at *
      simp -implicitDefEqProofs (disch := first | omega | (simp [hrl, hrc, hrn] <;> fail) | assumption) [hlt, hrow, a1, a2, a3, a4, a5, a6, hrl, hrc, hrn]
      exact ⟨k + 1, ⟨⟨by omega, by omega⟩, hgoal.symm⟩, by omega, by omega⟩
    · obtain rfl : k = l.length := by omega
      rw [List.take_length]
      simp -implicitDefEqProofs (disch := first | omega | assumption)
  have hlp := hin ⟨[(3, .sl 7 1 0 1), (8, .c (.vs 7 (l.map WRow.cells))), (9, i64 l.length), (10, i64 0)], [(7, ⟨1, [[vR headW]]⟩)]⟩ (by simp [tableW, trR, rowQ, toAV])
  have ha := allRows_comp rowQ (tableW l)
  have hrl : (trR (tableW l)).length = l.length + 1 := by rw [trR_len]; unfold tableW; simp
  have hF2 : ((tableW l).map rowQ).take (l.length + 1) = (tableW l).map rowQ := by rw [List.take_of_length_le]; unfold tableW; simp
  rw [show (tableW l).map (toAV ∘ rowQ) = trR (tableW l) from rfl] at ha
  generalize trR (tableW l) = G at *
  generalize linesG (wid (tableW l)) (tableW l) = T at *
  simp only [vR, headW, List.map_cons, List.map_nil, txQ] at hlp
  simp only [vRs] at hT
  generalize (tableW l).map rowQ = K at *
  simp -implicitDefEqProofs (disch := first | omega | assumption) [hlp, ha, hrl, hF2, hT]
theorem minL_spec : ∀ (xs : List Int) (a : Int), ∃ m, minL .i64 a (xs.map fun x => i64 x) = some m ∧ ∀ z, z ≤ m ↔ (z ≤ a ∧ ∀ x ∈ xs, z ≤ x)
  | [], a => ⟨a, rfl, fun z => by simp⟩
  | b :: xs, a => by
    obtain ⟨m, h1, h2⟩ := minL_spec xs (if b < a then b else a)
    refine ⟨m, by simpa [minL] using h1, fun z => ?_⟩
    rw [h2, List.forall_mem_cons]
    constructor
    · rintro ⟨h3, h4⟩
      split at h3
      · exact ⟨by omega, h3, h4⟩
      · exact ⟨h3, by omega, h4⟩
    · rintro ⟨h3, h4, h5⟩
      refine ⟨?_, h5⟩
      split <;> assumption
theorem maxL_spec : ∀ (xs : List Int) (a : Int), ∃ m, maxL .i64 a (xs.map fun x => i64 x) = some m ∧ ∀ z, m ≤ z ↔ (a ≤ z ∧ ∀ x ∈ xs, x ≤ z)
  | [], a => ⟨a, rfl, fun z => by simp⟩
  | b :: xs, a => by
    obtain ⟨m, h1, h2⟩ := maxL_spec xs (if a < b then b else a)
    refine ⟨m, by simpa [maxL] using h1, fun z => ?_⟩
    rw [h2, List.forall_mem_cons]
    constructor
    · rintro ⟨h3, h4⟩
      split at h3
      · exact ⟨by omega, h3, h4⟩
      · exact ⟨h3, by omega, h4⟩
    · rintro ⟨h3, h4, h5⟩
      refine ⟨?_, h5⟩
      split <;> assumption
theorem WindowsTexts_run {Γ : Env} {M : Nat} (hM : 100 < M) (ha : Γ 16 [] = some [bo true]) (h1 : ClkC (Γ 371)) (h2 : Of (Γ 6)) (h3 : HundC (Γ 373)) (h4 : FixC (Γ 372)) (h5 : TextC16 (Γ 184)) (h6 : WTextC (Γ 370)) (l : List WRow) :
    run Γ M law72_WindowsTexts_f [.c (.vs 7 (l.map WRow.cells))] = some [bo true] := by
  by_cases hl : l.length ≤ 60
  rotate_left
  · have : 60 < l.length := by omega
    simp -implicitDefEqProofs (disch := first | omega | assumption) [this]
  have hl' : ¬ 60 < l.length := by omega
  obtain ⟨ax, s', hax, hin⟩ : ∃ ax s', ((ax = .ret ∧ s' = ⟨[(2, bo true)], []⟩) ∨ (ax = .ex 0 ∧ s' = ⟨[(0, .c (.vs 7 (l.map WRow.cells))), (3, .sl 13 (l.length + 1) 0 (l.length + 1))], [(13, ⟨1, trR (tableW l)⟩)]⟩ ∧ ∀ r ∈ l, r.Small)) ∧ ∀ t, nrm [0, 3, 4] [3, 13, 110] t = ⟨[(0, .c (.vs 7 (l.map WRow.cells))), (3, .sl 13 (0 + 1) 0 (0 + 1)), (4, i64 (0 : Nat))], [(13, ⟨1, trR (tableW (l.take 0))⟩)]⟩ → lp (exec Γ M law72_WindowsTexts_l1) M t = some (ax, s') := by
    refine lp_all (fun k : Nat => ⟨[(0, .c (.vs 7 (l.map WRow.cells))), (3, .sl 13 (k + 1) 0 (k + 1)), (4, i64 k)], [(13, ⟨1, trR (tableW (l.take k))⟩)]⟩) (fun k => k ≤ l.length ∧ ∀ r ∈ l.take k, r.Small) (fun k => l.length - k) _ 0 M (by simp) ⟨by omega, by simp⟩ (by omega) ?_
    rintro k ⟨hk, hsm⟩
    by_cases hlt : k < l.length
    · obtain ⟨r, hr⟩ : ∃ t, l[k]'hlt = t := ⟨_, rfl⟩
      have hrow : (l.map WRow.cells)[k]? = some r.cells := by rw [List.getElem?_map, List.getElem?_eq_getElem hlt, hr]; rfl
      have hsn := tableW_take l k hlt
      rw [hr] at hsn
      have hrl := trR_len (tableW (l.take k))
      have hrl2 : (tableW (l.take k)).length = k + 1 := by unfold tableW; simp; omega
      rw [hrl2] at hrl
      have hrn : ∀ z, nmRows z (trR (tableW (l.take k))) = true := fun z => nmRows_comp z rowQ _
      have hrc : ∀ z, lcRows z (trR (tableW (l.take k))) = true := fun z => lcRows_comp z rowQ _
      have hgoal : trR (tableW (l.take (k + 1))) = trR (tableW (l.take k)) ++ [[vR (cellsT r)]] := by rw [hsn, trR_snoc]
      have hcr : cellsT r = [clkT r.frm ++ 45 :: clkT r.to, txt r.came, txt r.inn, txt r.out, meanT r.waited r.inn, txt r.behind] := rfl
      rw [hcr] at hgoal
      have hnext : r.Small → ∀ x ∈ l.take (k + 1), x.Small := by
        intro h x hx
        rw [List.take_succ_eq_append_getElem hlt, hr, List.mem_append] at hx
        rcases hx with hx | hx
        · exact hsm x hx
        · rw [List.mem_singleton] at hx; exact hx ▸ h
      simp only [WRow.cells] at hrow
      generalize trR (tableW (l.take k)) = G at *
      obtain ⟨f, t, c, i, o, w, b⟩ := r
      simp only at *
      obtain ⟨m, hm, hm2⟩ := minL_spec [t, c, i, o, w, b] f
      obtain ⟨x, hx, hx2⟩ := maxL_spec [t, c, i, o, w, b] f
      have hm3 := hm2 0
      have hx3 := hx2 1099511627776
      simp only [List.map_cons, List.map_nil, List.forall_mem_cons] at hm hx hm3 hx3
      by_cases hs : 0 ≤ m ∧ x ≤ 1099511627776
      · obtain ⟨s1, s3, s4, s5, s6, s7, s8, -⟩ := hm3.1 hs.1
        obtain ⟨t1, t3, t4, t5, t6, t7, t8, -⟩ := hx3.1 hs.2
        have hsmall : (⟨f, t, c, i, o, w, b⟩ : WRow).Small := ⟨⟨s1, t1⟩, ⟨s3, t3⟩, ⟨s4, t4⟩, ⟨s5, t5⟩, ⟨s6, t6⟩, ⟨s7, t7⟩, ⟨s8, t8⟩⟩
        have hnx := hnext hsmall
        have a1 := h1 f s1 t1
        have a2 := h1 t s3 t3
        have a3 := h2 c ⟨by omega, by omega⟩
        have a4 := h2 i ⟨by omega, by omega⟩
        have a5 := h2 o ⟨by omega, by omega⟩
        have a6 := h2 b ⟨by omega, by omega⟩
        have c1 := clkT_len s1 t1
        have c2 := clkT_len s3 t3
        have hms : (1000 : Nat) ≤ maxStr := by decide
        have hm0 : ¬ m < 0 := by omega
        have hx0 : ¬ 1099511627776 < x := by omega
        generalize clkT f = A at *
        generalize clkT t = B at *
        by_cases hi : 0 < i
        · obtain ⟨⟨p1, p2⟩, p3, p4⟩ := div_in (l := w) (c := i) s7 hi
          have hi0 : ¬ i = 0 := by omega
          have e2 := h3 (w / i) (w % i) i p1 (by omega) p3 p4 t5
          have hin := hundT_in s7 hi
          have e3 := h4 (hundT w i) hin.1 (by omega)
          rw [show 100 * (w / i) + 100 * (w % i) / i = hundT w i from rfl] at e2
          have hme : meanT w i = fixT (hundT w i) := if_pos hi
          rw [hme] at hgoal
          simp only [fracD] at e2
          generalize hundT w i = H at *
          generalize fixT H = F at *
          simp -implicitDefEqProofs (disch := first | omega | (simp [hrl, hrc, hrn] <;> fail) | ((try simp only [List.length_append, List.length_cons, List.length_nil, maxStr_eq]); omega) | assumption) [-minL, -maxL, hlt, hrow, hrl, hrc, hrn, hm, hx, hm0, hx0, hi, hi0, a1, a2, a3, a4, a5, a6, e2, e3, binS_add]
          exact ⟨k + 1, ⟨⟨by omega, by omega⟩, hgoal.symm⟩, ⟨by omega, hnx⟩, by omega⟩
        · have hme : meanT w i = [45] := if_neg hi
          rw [hme] at hgoal
          simp -implicitDefEqProofs (disch := first | omega | (simp [hrl, hrc, hrn] <;> fail) | ((try simp only [List.length_append, List.length_cons, List.length_nil, maxStr_eq]); omega) | assumption) [-minL, -maxL, hlt, hrow, hrl, hrc, hrn, hm, hx, hm0, hx0, hi, a1, a2, a3, a4, a5, a6, binS_add]
          exact ⟨k + 1, ⟨⟨by omega, by omega⟩, hgoal.symm⟩, ⟨by omega, hnx⟩, by omega⟩
      · by_cases hm0 : m < 0
        · simp -implicitDefEqProofs (disch := first | omega | (simp [hrl, hrc, hrn] <;> fail) | assumption) [-minL, -maxL, hlt, hrow, hrl, hrc, hrn, hm, hx, hm0]
        · have hx0 : 1099511627776 < x := by omega
          simp -implicitDefEqProofs (disch := first | omega | (simp [hrl, hrc, hrn] <;> fail) | assumption) [-minL, -maxL, hlt, hrow, hrl, hrc, hrn, hm, hx, hm0, hx0]
    · obtain rfl : k = l.length := by omega
      rw [List.take_length] at hsm ⊢
      simp -implicitDefEqProofs (disch := first | omega | assumption)
      exact hsm
  have hlp := hin ⟨[(0, .c (.vs 7 (l.map WRow.cells))), (3, .sl 13 1 0 1), (4, i64 0)], [(13, ⟨1, [[vR headW]]⟩)]⟩ (by simp [tableW, trR, rowQ, toAV])
  simp only [vR, headW, List.map_cons, List.map_nil, txQ] at hlp
  rcases hax with ⟨rfl, rfl⟩ | ⟨rfl, rfl, hs⟩
  · simp -implicitDefEqProofs (disch := first | omega | assumption) [hlp, hl']
  have hT := h5 _ (tableW_small hl hs)
  have hW := h6 l hl hs
  have ha2 := allRows_comp rowQ (tableW l)
  have hrl : (trR (tableW l)).length = l.length + 1 := by rw [trR_len]; unfold tableW; simp
  have hF2 : ((tableW l).map rowQ).take (l.length + 1) = (tableW l).map rowQ := by rw [List.take_of_length_le]; unfold tableW; simp
  rw [show (tableW l).map (toAV ∘ rowQ) = trR (tableW l) from rfl] at ha2
  generalize trR (tableW l) = G at *
  generalize linesG (wid (tableW l)) (tableW l) = T at *
  simp only [vRs] at hT
  generalize (tableW l).map rowQ = K at *
  simp -implicitDefEqProofs (disch := first | omega | assumption) [hlp, hl', ha, ha2, hrl, hF2, hT, hW]
end Go.Am
