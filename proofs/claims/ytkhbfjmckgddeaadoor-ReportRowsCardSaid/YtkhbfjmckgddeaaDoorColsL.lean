/- Law 16: lines and texts of rows, by the program. -/
import Derived.Test.YtkhbfjmckgddeaaDoorColsR
import Derived.Test.YtkhbfjmckgddeaaDoorBldClU
import Derived.Test.YtkhbfjmckgddeaaDoorBldCtU
set_option linter.unusedVariables false
set_option linter.unusedSimpArgs false
set_option maxRecDepth 10000
set_option maxHeartbeats 2000000
namespace Go.Am
open Cl in
theorem Cl.kfT (t : List UInt8) (os : List Nat) (h : kt_cols_Line_5 ∈ os) : keepF 0 1000 os (bT t []) = bT t [] := by
  simp only [kt_cols_Line_5] at h
  simp [bT, h]
open Cl in
theorem Cl.kfN (os : List Nat) (h : kt_cols_Line_5 ∈ os) : keepF 0 1000 os (bN []) = bN [] := by
  simp only [kt_cols_Line_5] at h
  simp [bN, h]
open Ct in
theorem Ct.kfT (t : List UInt8) (os : List Nat) (h : kt_cols_Text_4 ∈ os) : keepF 0 1000 os (bT t []) = bT t [] := by
  simp only [kt_cols_Text_4] at h
  simp [bT, h]
open Ct in
theorem Ct.kfN (os : List Nat) (h : kt_cols_Text_4 ∈ os) : keepF 0 1000 os (bN []) = bN [] := by
  simp only [kt_cols_Text_4] at h
  simp [bN, h]
def LineC16 (g : List AV → Option (List AV)) : Prop := ∀ (ws : List Int) (r : TRow), ws.length ≤ 20 → (∀ x ∈ ws, -9223372036854775808 ≤ x ∧ x ≤ 100) → SmallR r → g [vN ws, vR r] = some [st (lineG ws r)]
section
open Cl
def bSL (ws : List Int) (r : TRow) : Nat → List (Nat × Obj)
  | 0 => bN []
  | k + 1 => bT (accG ws r (k + 1)) []
theorem kfS (ws : List Int) (r : TRow) (k : Nat) (os : List Nat) (h : kt_cols_Line_5 ∈ os) : keepF 0 1000 os (bSL ws r k) = bSL ws r k := by
  cases k with
  | zero => exact kfN os h
  | succ k => exact kfT _ os h
theorem cols_Line_run (Γ : Env) (M : Nat) (hM : 130 < M) (hW : WrA (Γ.pt 79)) (hWN : WrN (Γ.pt 79)) (hS : StrA (Γ.pt 69)) (hS0 : StrC0 (Γ.pt 69)) (hP : PadC (Γ 192)) (hT : TrimC2 (Γ 191)) : LineC16 (run Γ M cols_Line_f) := by
  intro ws r hwl hws hr
  have hfew := hr.few
  have hw100 : ∀ x ∈ ws, x ≤ 100 := fun x hx => (hws x hx).2
  have k0 := fun k => kfS ws r k [kt_cols_Line_5] (by simp)
  have k1 := fun t => kfT t [kt_cols_Line_5] (by simp)
  simp only [kt_cols_Line_5] at k0 k1
  obtain ⟨ax, s', ⟨rfl, rfl⟩, hin⟩ : ∃ ax s', (ax = .ex 0 ∧ s' = ⟨[(5, .loc kB 0 0)], bSL ws r r.length⟩) ∧ ∀ t, nrmP [0, 5, 9, 10, 11] 0 1000 [kt_cols_Line_5] t = ⟨[(0, vN ws), (5, .loc kB 0 0), (9, vR r), (10, i64 r.length), (11, i64 (0 : Nat))], bSL ws r 0⟩ → lp (exec Γ M cols_Line_l1) M t = some (ax, s') := by
    refine lp_allP (fun k : Nat => ⟨[(0, vN ws), (5, .loc kB 0 0), (9, vR r), (10, i64 r.length), (11, i64 k)], bSL ws r k⟩) (fun k => k ≤ r.length) (fun k => r.length - k) _ 0 M (by omega) (by omega) ?_
    intro k hk
    by_cases hlt : k < r.length
    · obtain ⟨s, hs⟩ : ∃ t, r[k]'hlt = t := ⟨_, rfl⟩
      have hsl := hr.short s (hs ▸ List.getElem_mem hlt)
      have hgd : r.getD k [] = s := by rw [List.getD_eq_getElem?_getD, List.getElem?_eq_getElem hlt, hs]; rfl
      have hal := accG_len ws hw100 r hr k
      obtain ⟨w, hw⟩ : ∃ w, ws.getD k 0 = w := ⟨_, rfl⟩
      have hwb := getD_in (P := fun x => -9223372036854775808 ≤ x ∧ x ≤ 100) hws (by omega) k
      rw [hw] at hwb
      have hg : ∀ hh : k < ws.length, ws[k]'hh = w := fun hh => by rw [← hw, List.getD_eq_getElem?_getD, List.getElem?_eq_getElem hh]; rfl
      have hz : ¬ k < ws.length → w = 0 := fun hh => by rw [← hw, List.getD_eq_getElem?_getD, List.getElem?_eq_none (by omega)]; rfl
      cases k with
      | zero =>
        have hacc : accG ws r 1 = s ++ padL [] (wrapK .i64 (w - s.length)) := by
          rw [accG, accG, hgd]; unfold cellG; rw [if_pos rfl, hw]; simp
        obtain ⟨z, hzz⟩ : ∃ z, wrapK .i64 (w - s.length) = z := ⟨_, rfl⟩
        have hzb : -9223372036854775808 ≤ z ∧ z ≤ 9223372036854775807 := by
          rw [← hzz]; unfold wrapK; rw [IntKind.wrap_i64]; omega
        have hp := hP [] z (by simp) hzb.2 hzb.1
        have hpl := padL_len [] z
        rw [hzz] at hacc
        have h1 := fun gs h1 h2 h3 => hWN gs [] s ⟨h1, h2, h3⟩ ⟨rfl, rfl, rfl, rfl⟩ (by omega)
        have h2 := fun gs h1 h2 h3 => hW gs [] s (padL [] z) ⟨h1, h2, h3⟩ ⟨rfl, rfl, rfl, rfl⟩ (by simp at hpl; omega)
        have hb0 : bSL ws r 0 = bN [] := rfl
        have hb1 : bT (s ++ padL [] z) [] = bSL ws r 1 := by rw [← hacc]; rfl
        rw [hb1] at h2
        rw [hb0]
        simp only [kB, kt_cols_Line_5, kt_buf] at h1 h2
        have kn := kfN [kt_cols_Line_5] (by simp)
        simp only [kt_cols_Line_5] at kn
        generalize padL [] z = P at *
        by_cases c : 0 < ws.length
        · have hgc := hg c
          simp -implicitDefEqProofs (disch := first | omega | (simp <;> fail) | assumption) [hlt, hs, txQ, c, hgc, numQ, h1, h2, hp, k0, k1, kn, hzz]
          exact ⟨1, ⟨by simp, rfl⟩, by omega, by omega⟩
        · obtain rfl := hz c
          have hz2 : z = -(s.length : Int) := by rw [← hzz, wrapK_i64 (by omega) (by omega)]; omega
          subst hz2
          simp -implicitDefEqProofs (disch := first | omega | (simp <;> fail) | assumption) [hlt, hs, txQ, c, h1, h2, hp, k0, k1, kn]
          exact ⟨1, ⟨by simp, rfl⟩, by omega, by omega⟩
      | succ k =>
        have hacc : accG ws r (k + 2) = accG ws r (k + 1) ++ [32, 32] ++ padL s w := by
          rw [accG, hgd]; unfold cellG; rw [if_neg (by omega), hw, List.append_assoc]
        have hp := hP s w (by omega) (by omega) (by omega)
        have hpl := padL_len s w
        have h1 := fun gs h1 h2 h3 => hW gs [] (accG ws r (k + 1)) [32, 32] ⟨h1, h2, h3⟩ ⟨rfl, rfl, rfl, rfl⟩ (by simp; omega)
        have h2 := fun gs h1 h2 h3 => hW gs [] (accG ws r (k + 1) ++ [32, 32]) (padL s w) ⟨h1, h2, h3⟩ ⟨rfl, rfl, rfl, rfl⟩ (by simp; omega)
        have hb0 : bSL ws r (k + 1) = bT (accG ws r (k + 1)) [] := rfl
        have hb1 : bT (accG ws r (k + 1) ++ [32, 32] ++ padL s w) [] = bSL ws r (k + 2) := by rw [← hacc]; rfl
        rw [hb1] at h2
        rw [hb0]
        simp only [kB, kt_cols_Line_5, kt_buf] at h1 h2
        generalize padL s w = P at *
        generalize accG ws r (k + 1) = A at *
        by_cases c : k + 1 < ws.length
        · have hgc := hg c
          simp -implicitDefEqProofs (disch := first | omega | (simp <;> fail) | assumption) [hlt, hs, txQ, c, hgc, numQ, h1, h2, hp, k0, k1]
          exact ⟨k + 2, ⟨by omega, rfl⟩, by omega, by omega⟩
        · obtain rfl := hz c
          simp -implicitDefEqProofs (disch := first | omega | (simp <;> fail) | assumption) [hlt, hs, txQ, c, h1, h2, hp, k0, k1]
          exact ⟨k + 2, ⟨by omega, rfl⟩, by omega, by omega⟩
    · obtain rfl : k = r.length := by omega
      simp -implicitDefEqProofs (disch := first | omega | assumption) [k0]
  have hlp := hin ⟨[(0, vN ws), (5, .loc kB 0 0), (9, vR r), (10, i64 r.length), (11, i64 (0 : Nat))], bN []⟩ (by
    have kn := kfN [kt_cols_Line_5] (by simp)
    simp only [kt_cols_Line_5] at kn
    simp [kn, bSL])
  simp only [bN, kB, kt_cols_Line_5] at hlp
  have hal := accG_len ws hw100 r hr r.length
  have hT1 := hT (accG ws r r.length) (by omega)
  unfold lineG
  rcases Nat.eq_zero_or_pos r.length with h0 | h0
  · have hs0 := fun gs h1 => hS0 gs [] h1
    have ha : accG ws r r.length = [] := by rw [h0]; rfl
    have hb : bSL ws r r.length = bOb [] [] := by rw [h0]; rfl
    rw [ha] at hT1 ⊢
    rw [hb] at hlp
    simp only [bOb, kB, kt_cols_Line_5] at hs0 hlp
    simp at hlp
    simp -implicitDefEqProofs (disch := first | omega | (simp <;> fail) | assumption) [hlp, hs0, hT1]
  · obtain ⟨n, hn⟩ : ∃ n, r.length = n + 1 := ⟨r.length - 1, by omega⟩
    have hs0 := fun gs h1 h2 h3 => hS gs [] (accG ws r r.length) ⟨h1, h2, h3⟩ ⟨rfl, rfl, rfl, rfl⟩ (by omega)
    have hb : bSL ws r r.length = bT (accG ws r r.length) [] := by rw [hn]; rfl
    rw [hb] at hlp
    simp only [kB, kt_cols_Line_5, kt_buf] at hs0 hlp
    generalize accG ws r r.length = A at *
    simp at hlp
    by_cases hA : A = []
    · rw [if_pos hA] at hs0
      simp -implicitDefEqProofs (disch := first | omega | (simp <;> fail) | assumption) [hlp, hs0, hT1, k1]
    · simp only [if_neg hA] at hs0
      simp -implicitDefEqProofs (disch := first | omega | (simp <;> fail) | assumption) [hlp, hs0, hT1, k1]
end
/-! ### Texts -/
def linesG (ws : List Int) (rs : List TRow) : List UInt8 := rs.flatMap fun r => lineG ws r ++ [10]
def TextC16 (g : List AV → Option (List AV)) : Prop := ∀ rs : List TRow, Small rs → g [vRs rs] = some [st (linesG (wid rs) rs)]
theorem wid_in {rs : List TRow} (h : Small rs) : ∀ x ∈ wid rs, 0 ≤ x ∧ x ≤ 60 := by
  intro x hx
  rw [wid_cols] at hx
  obtain ⟨k, -, rfl⟩ := List.mem_map.1 hx
  exact colF_bound rs 0 (by omega) h.rows
theorem linesG_len (ws : List Int) (hw : ∀ x ∈ ws, 0 ≤ x ∧ x ≤ 60) : ∀ rs : List TRow, (∀ r ∈ rs, SmallR r) → (linesG ws rs).length ≤ 3241 * rs.length
  | [], _ => by simp [linesG]
  | r :: rs, h => by
    have h1 := linesG_len ws hw rs fun x hx => h x (by simp [hx])
    have h2 := lineW_len ws (fun x hx => by have := hw x hx; omega) r (h r (by simp))
    rw [← lineG_eq ws (fun x hx => by have := hw x hx; omega) r (h r (by simp))] at h2
    have : linesG ws (r :: rs) = (lineG ws r ++ [10]) ++ linesG ws rs := by unfold linesG; rw [List.flatMap_cons]
    rw [this]; simp only [List.length_append, List.length_cons, List.length_nil]; omega
theorem linesG_snoc (ws : List Int) (l : List TRow) (r : TRow) : linesG ws (l ++ [r]) = linesG ws l ++ lineG ws r ++ [10] := by
  unfold linesG; simp [List.flatMap_append]
section
open Ct
def bST (ws : List Int) (rs : List TRow) : Nat → List (Nat × Obj)
  | 0 => bN []
  | k + 1 => bT (linesG ws (rs.take (k + 1))) []
theorem kfST (ws : List Int) (r : List TRow) (k : Nat) (os : List Nat) (h : kt_cols_Text_4 ∈ os) : keepF 0 1000 os (bST ws r k) = bST ws r k := by
  cases k with
  | zero => exact kfN os h
  | succ k => exact kfT _ os h
theorem cols_Text_run (Γ : Env) (M : Nat) (hM : 130 < M) (hW : WrA (Γ.pt 79)) (hWN : WrN (Γ.pt 79)) (hS : StrA (Γ.pt 69)) (hS0 : StrC0 (Γ.pt 69)) (hL : LineC16 (Γ 187)) (hD : WidthsC (Γ 181)) : TextC16 (run Γ M cols_Text_f) := by
  intro rs hrs
  have hfew := hrs.few
  have hwi := wid_in hrs
  have hwl : (wid rs).length ≤ 20 := by rw [wid_len]; exact nCols_small hrs
  have hwd := hD rs hrs
  obtain ⟨ws, hws⟩ : ∃ ws, wid rs = ws := ⟨_, rfl⟩
  rw [hws] at hwi hwl hwd ⊢
  have k0 := fun k => kfST ws rs k [kt_cols_Text_4] (by simp)
  have k1 := fun t => kfT t [kt_cols_Text_4] (by simp)
  simp only [kt_cols_Text_4] at k0 k1
  obtain ⟨ax, s', ⟨rfl, rfl⟩, hin⟩ : ∃ ax s', (ax = .ex 0 ∧ s' = ⟨[(4, .loc kB 0 0)], bST ws rs rs.length⟩) ∧ ∀ t, nrmP [3, 4, 9, 10, 11] 0 1000 [kt_cols_Text_4] t = ⟨[(3, vN ws), (4, .loc kB 0 0), (9, vRs rs), (10, i64 rs.length), (11, i64 (0 : Nat))], bST ws rs 0⟩ → lp (exec Γ M cols_Text_l1) M t = some (ax, s') := by
    refine lp_allP (fun k : Nat => ⟨[(3, vN ws), (4, .loc kB 0 0), (9, vRs rs), (10, i64 rs.length), (11, i64 k)], bST ws rs k⟩) (fun k => k ≤ rs.length) (fun k => rs.length - k) _ 0 M (by omega) (by omega) ?_
    intro k hk
    by_cases hlt : k < rs.length
    · obtain ⟨r, hr⟩ : ∃ t, rs[k]'hlt = t := ⟨_, rfl⟩
      have hrr := hrs.rows r (hr ▸ List.getElem_mem hlt)
      have hl := hL ws r hwl (fun x hx => by have := hwi x hx; omega) hrr
      have hll := lineW_len ws (fun x hx => by have := hwi x hx; omega) r hrr
      rw [← lineG_eq ws (fun x hx => by have := hwi x hx; omega) r hrr] at hll
      have hal := linesG_len ws hwi (rs.take k) fun x hx => hrs.rows x (List.mem_of_mem_take hx)
      have htk : linesG ws (rs.take (k + 1)) = linesG ws (rs.take k) ++ lineG ws r ++ [10] := by rw [List.take_succ_eq_append_getElem hlt, hr, linesG_snoc]
      rw [List.length_take] at hal
      have hb1 : bT (linesG ws (rs.take k) ++ lineG ws r ++ [10]) [] = bST ws rs (k + 1) := by rw [← htk]; rfl
      have h2 := fun gs h1 h2 h3 => hW gs [] (linesG ws (rs.take k) ++ lineG ws r) [10] ⟨h1, h2, h3⟩ ⟨rfl, rfl, rfl, rfl⟩ (by simp; omega)
      rw [hb1] at h2
      cases k with
      | zero =>
        have hl0 : linesG ws (rs.take 0) = [] := rfl
        rw [hl0, List.nil_append] at h2
        have h1 := fun gs h1 h2 h3 => hWN gs [] (lineG ws r) ⟨h1, h2, h3⟩ ⟨rfl, rfl, rfl, rfl⟩ (by omega)
        have hb0 : bST ws rs 0 = bN [] := rfl
        rw [hb0]
        have kn := kfN [kt_cols_Text_4] (by simp)
        simp only [kB, kt_cols_Text_4, kt_buf] at h1 h2 kn
        generalize lineG ws r = L at *
        simp -implicitDefEqProofs (disch := first | omega | (simp <;> fail) | assumption) [hlt, hr, rowQ, h1, h2, hl, k0, k1, kn]
        exact ⟨1, ⟨by simp, rfl⟩, by omega, by omega⟩
      | succ k =>
        have h1 := fun gs h1 h2 h3 => hW gs [] (linesG ws (rs.take (k + 1))) (lineG ws r) ⟨h1, h2, h3⟩ ⟨rfl, rfl, rfl, rfl⟩ (by omega)
        have hb0 : bST ws rs (k + 1) = bT (linesG ws (rs.take (k + 1))) [] := rfl
        rw [hb0]
        simp only [kB, kt_cols_Text_4, kt_buf] at h1 h2
        generalize lineG ws r = L at *
        generalize linesG ws (rs.take (k + 1)) = A at *
        simp -implicitDefEqProofs (disch := first | omega | (simp <;> fail) | assumption) [hlt, hr, rowQ, h1, h2, hl, k0, k1]
        exact ⟨k + 2, ⟨by omega, rfl⟩, by omega, by omega⟩
    · obtain rfl : k = rs.length := by omega
      simp -implicitDefEqProofs (disch := first | omega | assumption) [k0]
  have hlp := hin ⟨[(3, vN ws), (4, .loc kB 0 0), (9, vRs rs), (10, i64 rs.length), (11, i64 (0 : Nat))], bN []⟩ (by
    have kn := kfN [kt_cols_Text_4] (by simp)
    simp only [kt_cols_Text_4] at kn
    simp [kn, bST])
  simp only [bN, kB, kt_cols_Text_4] at hlp
  have hal := linesG_len ws hwi rs hrs.rows
  rcases Nat.eq_zero_or_pos rs.length with h0 | h0
  · have hs0 := fun gs h1 => hS0 gs [] h1
    obtain rfl := List.eq_nil_of_length_eq_zero h0
    have hb : bST ws [] 0 = bOb [] [] := rfl
    rw [List.length_nil, hb] at hlp
    simp only [bOb, kB, kt_cols_Text_4] at hs0 hlp
    simp at hlp
    have hwd2 : Γ 181 [.c (.vs 1 [])] = some [vN ws] := hwd
    simp -implicitDefEqProofs (disch := first | omega | (simp <;> fail) | assumption) [hlp, hs0, hwd2, linesG]
  · obtain ⟨n, hn⟩ : ∃ n, rs.length = n + 1 := ⟨rs.length - 1, by omega⟩
    have hs0 := fun gs h1 h2 h3 => hS gs [] (linesG ws rs) ⟨h1, h2, h3⟩ ⟨rfl, rfl, rfl, rfl⟩ (by omega)
    have hb : bST ws rs rs.length = bT (linesG ws rs) [] := by rw [hn, bST, ← hn, List.take_length]
    rw [hb] at hlp
    simp only [kB, kt_cols_Text_4, kt_buf] at hs0 hlp
    generalize linesG ws rs = A at *
    simp at hlp
    by_cases hA : A = []
    · rw [if_pos hA] at hs0
      simp -implicitDefEqProofs (disch := first | omega | (simp <;> fail) | assumption) [hlp, hs0, hwd, k1]
    · simp only [if_neg hA] at hs0
      simp -implicitDefEqProofs (disch := first | omega | (simp <;> fail) | assumption) [hlp, hs0, hwd, k1]
end
end Go.Am
