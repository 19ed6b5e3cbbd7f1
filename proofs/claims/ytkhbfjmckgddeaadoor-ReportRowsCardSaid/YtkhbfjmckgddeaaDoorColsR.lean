/- Law 16: the document's widths, lines and text; numbers' equality. -/
import Derived.Test.YtkhbfjmckgddeaaDoorColsW
set_option linter.unusedVariables false
set_option linter.unusedSimpArgs false
set_option maxRecDepth 10000
set_option maxHeartbeats 2000000
namespace Go.Am
theorem ref16_Widths_run (Γ : Env) (M : Nat) (hM : 130 < M) : WidthsC (run Γ M ref16_Widths_f) := by
  intro rs hs
  have hfew := hs.few
  have hnc := nCols_small hs
  have hcl := wid_cols rs
  have hloop : ∃ ax s', (ax = .ret ∧ s' = ⟨[(2, .sl 3 (nCols rs) 0 (nCols rs))], [(3, ⟨1, nR (wid rs)⟩)]⟩) ∧ ∀ s0, nrm [0, 3, 4] [3, 47] s0 = ⟨[(0, vRs rs), (3, .sl 3 0 0 0), (4, i64 (0 : Nat))], [(3, ⟨1, nR ((List.range 0).map (colW rs))⟩)]⟩ → lp (exec Γ M ref16_Widths_l2) M s0 = some (ax, s') := by
    refine lp_all (fun q : Nat => ⟨[(0, vRs rs), (3, .sl 3 q 0 q), (4, i64 q)], [(3, ⟨1, nR ((List.range q).map (colW rs))⟩)]⟩) (fun q => q ≤ nCols rs) (fun q => nCols rs - q) _ 0 M (by simp) (by omega) (by omega) ?_
    intro k hk
    have hlp := rwidths_in Γ M hM rs hs k (.sl 3 k 0 k) ⟨1, nR ((List.range k).map (colW rs))⟩
    by_cases hlt : k < nCols rs
    · have hd : decide (k < nCols rs) = true := decide_eq_true hlt
      rw [hd] at hlp
      have hrl : (nR ((List.range k).map (colW rs))).length = k := by rw [nR_len]; simp
      have hrc : lcRows 3 (nR ((List.range k).map (colW rs))) = true := lcRows_comp 3 numQ _
      have hsn : nR ((List.range (k + 1)).map (colW rs)) = nR ((List.range k).map (colW rs)) ++ [[i64 (colW rs k)]] := by
        rw [List.range_succ]; simp [nR, numQ, toAV]
      generalize nR ((List.range k).map (colW rs)) = G at *
      generalize colW rs k = c at *
      simp -implicitDefEqProofs (disch := first | omega | (simp <;> fail) | assumption) [hlp, hrl, hrc]
      exact ⟨k + 1, ⟨by omega, hsn.symm⟩, by omega, by omega⟩
    · have hd : decide (k < nCols rs) = false := decide_eq_false hlt
      rw [hd] at hlp
      obtain rfl : k = nCols rs := by omega
      rw [← hcl] at hlp ⊢
      generalize nR (wid rs) = G at *
      generalize colW rs (nCols rs) = c at *
      generalize nCols rs = N at *
      simp -implicitDefEqProofs (disch := first | omega | (simp <;> fail) | assumption) [hlp]
  obtain ⟨ax, s', ⟨rfl, rfl⟩, hin⟩ := hloop
  have hin := hin ⟨[(0, vRs rs), (3, .sl 3 0 0 0), (4, i64 (0 : Nat))], [(3, ⟨1, []⟩)]⟩ (by simp [nR])
  simp at hin
  have ha := allRows_comp numQ (wid rs)
  have hwl := wid_len rs
  have hF2 : ((wid rs).map numQ).take (nCols rs) = (wid rs).map numQ := by rw [List.take_of_length_le]; simp [hwl]
  have hrl := nR_len (wid rs)
  rw [hwl] at hrl
  rw [show (wid rs).map (toAV ∘ numQ) = nR (wid rs) from rfl] at ha
  generalize nR (wid rs) = G at *
  obtain ⟨K, hK⟩ : ∃ K, (wid rs).map numQ = K := ⟨_, rfl⟩
  simp only [hK] at ha hF2 ⊢
  generalize nCols rs = N at *
  simp -implicitDefEqProofs (disch := first | omega | assumption) [hin, ha, hF2, hrl, hK]
/-! ### Lines -/
/-- No blanks behind. -/
def trimR (l : List UInt8) : List UInt8 := (l.reverse.dropWhile (· == 32)).reverse
theorem trimR_nil : trimR [] = [] := rfl
theorem trimR_snoc (l : List UInt8) (b : UInt8) : trimR (l ++ [b]) = if b = 32 then trimR l else l ++ [b] := by
  unfold trimR
  rw [List.reverse_append]
  simp only [List.reverse_cons, List.reverse_nil, List.nil_append, List.singleton_append, List.dropWhile_cons, beq_iff_eq]
  split <;> simp
theorem trimR_len (l : List UInt8) : (trimR l).length ≤ l.length := by
  unfold trimR
  have := (List.dropWhile_suffix (l := l.reverse) (· == (32 : UInt8))).length_le
  simp only [List.length_reverse] at this ⊢
  exact this
/-- A cell of a line. -/
def cellT (ws : List Int) (k : Nat) (s : List UInt8) : List UInt8 :=
  if k = 0 then s ++ bl (ws.getD k 0 - s.length) else [32, 32] ++ bl (ws.getD k 0 - s.length) ++ s
def accT (ws : List Int) (r : TRow) : Nat → List UInt8
  | 0 => []
  | k + 1 => accT ws r k ++ cellT ws k (r.getD k [])
def lineW (ws : List Int) (r : TRow) : List UInt8 := trimR (accT ws r r.length)
/-- A cell of a line, whatever the widths. -/
def cellG (ws : List Int) (k : Nat) (s : List UInt8) : List UInt8 :=
  if k = 0 then s ++ padL [] (wrapK .i64 (ws.getD k 0 - s.length)) else [32, 32] ++ padL s (ws.getD k 0)
def accG (ws : List Int) (r : TRow) : Nat → List UInt8
  | 0 => []
  | k + 1 => accG ws r k ++ cellG ws k (r.getD k [])
def lineG (ws : List Int) (r : TRow) : List UInt8 := trimR (accG ws r r.length)
theorem bl_len (n : Int) : (bl n).length = n.toNat := List.length_replicate ..
theorem getD_in {ws : List Int} {P : Int → Prop} (hw : ∀ x ∈ ws, P x) (h0 : P 0) (k : Nat) : P (ws.getD k 0) := by
  rw [List.getD_eq_getElem?_getD]
  cases h : ws[k]? with
  | none => exact h0
  | some x => exact hw x (List.mem_of_getElem? h)
theorem cellT_len (ws : List Int) (hw : ∀ x ∈ ws, x ≤ 100) (k : Nat) (s : List UInt8) (hs : s.length ≤ 60) : (cellT ws k s).length ≤ 162 := by
  have : ws.getD k 0 ≤ 100 := getD_in (P := fun x => x ≤ 100) hw (by omega) k
  unfold cellT
  split <;> simp only [List.length_append, bl_len, List.length_cons, List.length_nil] <;> omega
theorem getD_le {r : TRow} (hr : SmallR r) (k : Nat) : (r.getD k []).length ≤ 60 := by
  rw [List.getD_eq_getElem?_getD]
  cases h : r[k]? with
  | none => simp
  | some x => exact hr.short x (List.mem_of_getElem? h)
theorem accT_len (ws : List Int) (hw : ∀ x ∈ ws, x ≤ 100) (r : TRow) (hr : SmallR r) : ∀ k, (accT ws r k).length ≤ 162 * k
  | 0 => by simp [accT]
  | k + 1 => by
    have := accT_len ws hw r hr k
    have := cellT_len ws hw k (r.getD k []) (getD_le hr k)
    simp only [accT, List.length_append]; omega
theorem padL_len (s : List UInt8) (w : Int) : (padL s w).length ≤ 65536 + s.length := by
  unfold padL; simp only [List.length_append, bl_len]; omega
theorem cellG_len0 (ws : List Int) (s : List UInt8) (hs : s.length ≤ 60) : (cellG ws 0 s).length ≤ 65600 := by
  unfold cellG
  have := padL_len [] (wrapK .i64 (ws.getD 0 0 - s.length))
  rw [if_pos rfl]
  simp only [List.length_append, List.length_nil] at this ⊢; omega
theorem cellG_len (ws : List Int) (hw : ∀ x ∈ ws, x ≤ 100) (k : Nat) (s : List UInt8) (hs : s.length ≤ 60) : (cellG ws (k + 1) s).length ≤ 162 := by
  have : ws.getD (k + 1) 0 ≤ 100 := getD_in (P := fun x => x ≤ 100) hw (by omega) _
  unfold cellG padL
  rw [if_neg (by omega)]
  simp only [List.length_append, bl_len, List.length_cons, List.length_nil]; omega
theorem accG_len (ws : List Int) (hw : ∀ x ∈ ws, x ≤ 100) (r : TRow) (hr : SmallR r) : ∀ k, (accG ws r k).length ≤ 65600 + 162 * k
  | 0 => by simp [accG]
  | 1 => by
    have := cellG_len0 ws (r.getD 0 []) (getD_le hr 0)
    simp only [accG, List.length_append, List.length_nil]; omega
  | k + 2 => by
    have := accG_len ws hw r hr (k + 1)
    have := cellG_len ws hw k (r.getD (k + 1) []) (getD_le hr (k + 1))
    rw [accG]; simp only [List.length_append]; omega
theorem accG_eq (ws : List Int) (hw : ∀ x ∈ ws, 0 ≤ x ∧ x ≤ 100) (r : TRow) (hr : SmallR r) : ∀ k, accG ws r k = accT ws r k
  | 0 => rfl
  | k + 1 => by
    rw [accG, accT, accG_eq ws hw r hr k]
    congr 1
    have h1 := getD_in (P := fun x => 0 ≤ x ∧ x ≤ 100) hw (by omega) k
    have h2 := getD_le hr k
    unfold cellG cellT padL
    split
    · rename_i h; subst h
      rw [List.append_nil, wrapK_i64 (by omega) (by omega)]
      have : min (max (ws.getD 0 0 - ((r.getD 0 []).length : Int)) 0) 65536 - ((([] : List UInt8)).length : Int) = max (ws.getD 0 0 - ((r.getD 0 []).length : Int)) 0 := by simp only [List.length_nil]; omega
      rw [this]
      congr 1
      unfold bl
      congr 1
      omega
    · rw [List.append_assoc]
      congr 2
      unfold bl
      congr 1
      omega
theorem lineG_eq (ws : List Int) (hw : ∀ x ∈ ws, 0 ≤ x ∧ x ≤ 100) (r : TRow) (hr : SmallR r) : lineG ws r = lineW ws r := by
  unfold lineG lineW; rw [accG_eq ws hw r hr]
theorem lineW_len (ws : List Int) (hw : ∀ x ∈ ws, x ≤ 100) (r : TRow) (hr : SmallR r) : (lineW ws r).length ≤ 3240 := by
  have h1 := trimR_len (accT ws r r.length)
  have h2 := accT_len ws hw r hr r.length
  have := hr.few
  unfold lineW; omega
def TrimC (g : List AV → Option (List AV)) : Prop := ∀ t : List UInt8, t.length ≤ 69000 → g [st t, .c (.int .u8 32)] = some [st (trimR t)]
def TrimC2 (g : List AV → Option (List AV)) : Prop := ∀ t : List UInt8, t.length ≤ 69000 → g [st t, st [32]] = some [st (trimR t)]
theorem snoc_take (l : List UInt8) (b : UInt8) : (l ++ [b]).take l.length = l := by simp
theorem rtrim_lp (Γ : Env) (M : Nat) (hM : 3300 < M) (t : List UInt8) (ht : t.length ≤ 3240) :
    ∀ s0, nrm [5] [] s0 = ⟨[(5, st t)], []⟩ → lp (exec Γ M ref16_Line_l1) M s0 = some (.ex 2, ⟨[(5, st (trimR t))], []⟩) := by
  obtain ⟨ax, s', ⟨rfl, rfl⟩, hin⟩ : ∃ ax s', (ax = .ex 2 ∧ s' = ⟨[(5, st (trimR t))], []⟩) ∧ ∀ s0, nrm [5] [] s0 = ⟨[(5, st t)], []⟩ → lp (exec Γ M ref16_Line_l1) M s0 = some (ax, s') := by
    refine lp_all (fun q : List UInt8 => ⟨[(5, st q)], []⟩) (fun q => q.length ≤ 3240 ∧ trimR q = trimR t) (fun q => q.length) _ t M (by simp) ⟨ht, rfl⟩ (by omega) ?_
    rintro q ⟨hq, he⟩
    rcases List.eq_nil_or_concat q with rfl | ⟨l, b, rfl⟩
    · rw [← he, trimR_nil]
      simp -implicitDefEqProofs (disch := first | omega | assumption)
    · rw [List.concat_eq_append] at *
      rw [trimR_snoc] at he
      simp only [List.length_append, List.length_cons, List.length_nil] at hq
      have hg : (l ++ [b])[l.length]? = some b := by simp
      by_cases hb : b = 32
      · subst hb
        rw [if_pos rfl] at he
        simp -implicitDefEqProofs (disch := first | omega | assumption) [hg]
        exact ⟨by omega, he⟩
      · rw [if_neg hb] at he
        rw [← he]
        have hb' : ¬ (b.toNat : Int) = 32 := fun h => hb (UInt8.toNat_inj.1 (by simp only [UInt8.reduceToNat]; omega))
        simp -implicitDefEqProofs (disch := first | omega | assumption) [hb, hb', hg]
  exact hin
theorem trimRightByte_run (Γ : Env) (M : Nat) (hM : 70000 < M) : TrimC (run Γ M strings_trimRightByte_f) := by
  intro t ht
  obtain ⟨ax, s', ⟨rfl, rfl⟩, hin⟩ : ∃ ax s', (ax = .ex 0 ∧ s' = ⟨[(0, st (trimR t))], []⟩) ∧ ∀ s0, nrm [0, 1] [] s0 = ⟨[(0, st t), (1, .c (.int .u8 32))], []⟩ → lp (exec Γ M strings_trimRightByte_l1) M s0 = some (ax, s') := by
    refine lp_all (fun q : List UInt8 => ⟨[(0, st q), (1, .c (.int .u8 32))], []⟩) (fun q => q.length ≤ 69000 ∧ trimR q = trimR t) (fun q => q.length) _ t M (by simp) ⟨ht, rfl⟩ (by omega) ?_
    rintro q ⟨hq, he⟩
    rcases List.eq_nil_or_concat q with rfl | ⟨l, b, rfl⟩
    · rw [← he, trimR_nil]
      simp -implicitDefEqProofs (disch := first | omega | assumption)
    · rw [List.concat_eq_append] at *
      rw [trimR_snoc] at he
      simp only [List.length_append, List.length_cons, List.length_nil] at hq
      have hg : (l ++ [b])[l.length]? = some b := by simp
      by_cases hb : b = 32
      · subst hb
        rw [if_pos rfl] at he
        simp -implicitDefEqProofs (disch := first | omega | assumption) [hg]
        exact ⟨by omega, he⟩
      · rw [if_neg hb] at he
        rw [← he]
        have hb' : ¬ (b.toNat : Int) = 32 := fun h => hb (UInt8.toNat_inj.1 (by simp only [UInt8.reduceToNat]; omega))
        simp -implicitDefEqProofs (disch := first | omega | assumption) [hb, hb', hg]
  have hlp : lp (exec Γ M strings_trimRightByte_l1) M ⟨[(0, st t), (1, .c (.int .u8 32))], []⟩ = some (.ex 0, ⟨[(0, st (trimR t))], []⟩) := hin _ (by simp)
  simp -implicitDefEqProofs (disch := first | omega | assumption) [hlp]
theorem TrimRight_run (Γ : Env) (M : Nat) (hT : TrimC (Γ 197)) : TrimC2 (run Γ M strings_TrimRight_f) := by
  intro t ht
  have h := hT t ht
  by_cases h0 : t = []
  · subst h0
    simp -implicitDefEqProofs (disch := first | omega | assumption) [trimR_nil]
  · have hd := decide_eq_false h0
    simp -implicitDefEqProofs (disch := first | omega | assumption) [h, h0, hd]
end Go.Am
