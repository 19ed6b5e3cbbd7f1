/- Law 16: the document's lines and texts; ColsLay. -/
import Derived.Test.YtkhbfjmckgddeaaDoorColsL
set_option linter.unusedVariables false
set_option linter.unusedSimpArgs false
set_option maxRecDepth 10000
set_option maxHeartbeats 2000000
namespace Go.Am
def RLineC16 (g : List AV → Option (List AV)) : Prop := ∀ (ws : List Int) (r : TRow), ws.length ≤ 20 → (∀ x ∈ ws, 0 ≤ x ∧ x ≤ 100) → SmallR r → g [vN ws, vR r] = some [st (lineW ws r)]
theorem ref16_Line_run (Γ : Env) (M : Nat) (hM : 3300 < M) (hB : BlanksC (Γ 193)) : RLineC16 (run Γ M ref16_Line_f) := by
  intro ws r hwl hws hr
  have hfew := hr.few
  have hw100 : ∀ x ∈ ws, x ≤ 100 := fun x hx => (hws x hx).2
  obtain ⟨ax, s', ⟨rfl, rfl⟩, hin⟩ : ∃ ax s', (ax = .ex 0 ∧ s' = ⟨[(5, st (accT ws r r.length))], []⟩) ∧ ∀ t, nrm [0, 1, 5, 6] [] t = ⟨[(0, vN ws), (1, vR r), (5, st (accT ws r 0)), (6, i64 (0 : Nat))], []⟩ → lp (exec Γ M ref16_Line_l2) M t = some (ax, s') := by
    refine lp_all (fun k : Nat => ⟨[(0, vN ws), (1, vR r), (5, st (accT ws r k)), (6, i64 k)], []⟩) (fun k => k ≤ r.length) (fun k => r.length - k) _ 0 M (by simp) (by omega) (by omega) ?_
    intro k hk
    by_cases hlt : k < r.length
    · obtain ⟨s, hs⟩ : ∃ t, r[k]'hlt = t := ⟨_, rfl⟩
      have hsl := hr.short s (hs ▸ List.getElem_mem hlt)
      have hgd : r.getD k [] = s := by rw [List.getD_eq_getElem?_getD, List.getElem?_eq_getElem hlt, hs]; rfl
      have hal := accT_len ws hw100 r hr k
      obtain ⟨w, hw⟩ : ∃ w, ws.getD k 0 = w := ⟨_, rfl⟩
      have hwb := getD_in (P := fun x => 0 ≤ x ∧ x ≤ 100) hws (by omega) k
      rw [hw] at hwb
      have hg : ∀ hh : k < ws.length, ws[k]'hh = w := fun hh => by rw [← hw, List.getD_eq_getElem?_getD, List.getElem?_eq_getElem hh]; rfl
      have hz : ¬ k < ws.length → w = 0 := fun hh => by rw [← hw, List.getD_eq_getElem?_getD, List.getElem?_eq_none (by omega)]; rfl
      have hb := hB (w - s.length) (by omega)
      have hbl := bl_len (w - s.length)
      have hacc : accT ws r (k + 1) = accT ws r k ++ if k = 0 then s ++ bl (w - s.length) else [32, 32] ++ bl (w - s.length) ++ s := by
        rw [accT, hgd]; unfold cellT; rw [hw]
      generalize accT ws r k = A at *
      generalize hBB : bl (w - s.length) = B at *
      by_cases k0 : k = 0
      · rw [if_pos k0] at hacc
        subst k0
        by_cases c : 0 < ws.length
        · have hgc := hg c
          simp -implicitDefEqProofs (disch := first | omega | ((try simp only [List.length_append, List.length_cons, List.length_nil, maxStr_eq]); omega) | (simp <;> fail) | assumption) [hlt, hs, txQ, c, hgc, numQ, hb, binS_add]
          exact ⟨1, ⟨by rw [hacc], by simp⟩, by omega, by omega⟩
        · obtain rfl := hz c
          have hb2 : Γ 193 [i64 (-(s.length : Int))] = some [st B] := by rw [← hb]; congr 4; omega
          simp -implicitDefEqProofs (disch := first | omega | ((try simp only [List.length_append, List.length_cons, List.length_nil, maxStr_eq]); omega) | (simp <;> fail) | assumption) [hlt, hs, txQ, c, hb2, binS_add]
          exact ⟨1, ⟨by rw [hacc], by simp⟩, by omega, by omega⟩
      · rw [if_neg k0] at hacc
        have k0' : ¬ (k : Int) = 0 := by omega
        by_cases c : k < ws.length
        · have hgc := hg c
          simp -implicitDefEqProofs (disch := first | omega | ((try simp only [List.length_append, List.length_cons, List.length_nil, maxStr_eq]); omega) | (simp <;> fail) | assumption) [hlt, hs, txQ, c, hgc, numQ, hb, k0, k0', binS_add]
          exact ⟨k + 1, ⟨by rw [hacc]; simp, by omega⟩, by omega, by omega⟩
        · obtain rfl := hz c
          have hb2 : Γ 193 [i64 (-(s.length : Int))] = some [st B] := by rw [← hb]; congr 4; omega
          simp -implicitDefEqProofs (disch := first | omega | ((try simp only [List.length_append, List.length_cons, List.length_nil, maxStr_eq]); omega) | (simp <;> fail) | assumption) [hlt, hs, txQ, c, hb2, k0, k0', binS_add]
          exact ⟨k + 1, ⟨by rw [hacc]; simp, by omega⟩, by omega, by omega⟩
    · obtain rfl : k = r.length := by omega
      simp -implicitDefEqProofs (disch := first | omega | assumption)
  have hlp : lp (exec Γ M ref16_Line_l2) M ⟨[(0, vN ws), (1, vR r), (5, st []), (6, .c (.int .i64 0))], []⟩ = some (.ex 0, ⟨[(5, st (accT ws r r.length))], []⟩) := hin _ (by simp [accT])
  have hal := accT_len ws hw100 r hr r.length
  have hlp2 : lp (exec Γ M ref16_Line_l1) M ⟨[(5, st (accT ws r r.length))], []⟩ = some (.ex 2, ⟨[(5, st (trimR (accT ws r r.length)))], []⟩) := rtrim_lp Γ M hM (accT ws r r.length) (by omega) _ (by simp)
  unfold lineW
  generalize accT ws r r.length = A at *
  simp -implicitDefEqProofs (disch := first | omega | assumption) [hlp, hlp2]
def linesW (ws : List Int) (rs : List TRow) : List UInt8 := rs.flatMap fun r => lineW ws r ++ [10]
theorem linesW_snoc (ws : List Int) (l : List TRow) (r : TRow) : linesW ws (l ++ [r]) = linesW ws l ++ (lineW ws r ++ [10]) := by
  unfold linesW; simp [List.flatMap_append]
theorem linesG_eq (ws : List Int) (hw : ∀ x ∈ ws, 0 ≤ x ∧ x ≤ 60) (rs : List TRow) (h : ∀ r ∈ rs, SmallR r) : linesG ws rs = linesW ws rs := by
  unfold linesG linesW
  rw [List.flatMap_def, List.flatMap_def]
  congr 1
  exact List.map_congr_left fun r hr => by rw [lineG_eq ws (fun x hx => by have := hw x hx; omega) r (h r hr)]
theorem ref16_Text_run (Γ : Env) (M : Nat) (hM : 130 < M) (hL : RLineC16 (Γ 189)) (hD : WidthsC (Γ 182)) : TextC16 (run Γ M ref16_Text_f) := by
  intro rs hrs
  have hfew := hrs.few
  have hwi := wid_in hrs
  have hwl : (wid rs).length ≤ 20 := by rw [wid_len]; exact nCols_small hrs
  have hwd := hD rs hrs
  have hle := linesG_len (wid rs) hwi
  rw [linesG_eq _ hwi rs hrs.rows]
  obtain ⟨ws, hws⟩ : ∃ ws, wid rs = ws := ⟨_, rfl⟩
  rw [hws] at hwi hwl hwd hle ⊢
  obtain ⟨ax, s', ⟨rfl, rfl⟩, hin⟩ : ∃ ax s', (ax = .ex 0 ∧ s' = ⟨[(4, st (linesW ws rs))], []⟩) ∧ ∀ t, nrm [0, 3, 4, 5] [] t = ⟨[(0, vRs rs), (3, vN ws), (4, st (linesW ws (rs.take 0))), (5, i64 (0 : Nat))], []⟩ → lp (exec Γ M ref16_Text_l1) M t = some (ax, s') := by
    refine lp_all (fun k : Nat => ⟨[(0, vRs rs), (3, vN ws), (4, st (linesW ws (rs.take k))), (5, i64 k)], []⟩) (fun k => k ≤ rs.length) (fun k => rs.length - k) _ 0 M (by simp) (by omega) (by omega) ?_
    intro k hk
    by_cases hlt : k < rs.length
    · obtain ⟨r, hr⟩ : ∃ t, rs[k]'hlt = t := ⟨_, rfl⟩
      have hrr := hrs.rows r (hr ▸ List.getElem_mem hlt)
      have hl := hL ws r hwl (fun x hx => by have := hwi x hx; omega) hrr
      have hll := lineW_len ws (fun x hx => by have := hwi x hx; omega) r hrr
      have htk : linesW ws (rs.take (k + 1)) = linesW ws (rs.take k) ++ (lineW ws r ++ [10]) := by rw [List.take_succ_eq_append_getElem hlt, hr, linesW_snoc]
      have hal := hle (rs.take k) fun x hx => hrs.rows x (List.mem_of_mem_take hx)
      rw [linesG_eq ws hwi _ (fun x hx => hrs.rows x (List.mem_of_mem_take hx)), List.length_take] at hal
      generalize lineW ws r = L at *
      generalize linesW ws (rs.take k) = A at *
      simp -implicitDefEqProofs (disch := first | omega | ((try simp only [List.length_append, List.length_cons, List.length_nil, maxStr_eq]); omega) | (simp <;> fail) | assumption) [hlt, hr, rowQ, hl, binS_add]
      exact ⟨k + 1, ⟨htk.symm, by omega⟩, by omega, by omega⟩
    · obtain rfl : k = rs.length := by omega
      rw [List.take_length]
      simp -implicitDefEqProofs (disch := first | omega | assumption)
  have hlp : lp (exec Γ M ref16_Text_l1) M ⟨[(0, vRs rs), (3, vN ws), (4, st []), (5, .c (.int .i64 0))], []⟩ = some (.ex 0, ⟨[(4, st (linesW ws rs))], []⟩) := hin _ (by simp [linesW])
  simp -implicitDefEqProofs (disch := first | omega | assumption) [hwd, hlp]
theorem txq_row (r : List D) (h : All2 WT [.str] r) : ∃ t : List UInt8, r = txQ t ∧ True := by
  simp only [all2_cons, all2_nil, wt_str] at h
  obtain ⟨_, _, rfl, ⟨a, rfl, ha⟩, rfl⟩ := h
  exact ⟨a, rfl, trivial⟩
theorem rowq_row (r : List D) (h : All2 WT [.sl [.str]] r) : ∃ t : TRow, r = rowQ t ∧ True := by
  rw [all2_cons] at h
  obtain ⟨_, _, rfl, h1, h2⟩ := h
  rw [all2_nil] at h2
  rw [wt_sl] at h1
  subst h2
  obtain ⟨rows, rfl, hl, h⟩ := h1
  obtain ⟨ts, rfl, -⟩ := rows_map txq_row rows h
  exact ⟨ts, rfl, trivial⟩
theorem wt_rows {d : D} (h : WT (.sl [.sl [.str]]) d) : ∃ rs : List TRow, AV.c d = vRs rs := by
  rw [wt_sl] at h
  obtain ⟨rows, rfl, hl, h⟩ := h
  obtain ⟨ts, rfl, -⟩ := rows_map rowq_row rows h
  exact ⟨ts, rfl⟩
end Go.Am
