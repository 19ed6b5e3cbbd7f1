/- Tables of how many come, and what a word means by them: the program's and the document's. -/
import Derived.Test.YtkigddhdbnganaaRfW
set_option linter.unusedVariables false
set_option linter.unusedSimpArgs false
set_option maxRecDepth 10000
set_option maxHeartbeats 1000000
namespace Go.Am
/-! ### Plain -/
def wtsF (rate : Nat) : Nat → Nat → Nat → List Nat
  | 0, _, _ => []
  | f + 1, k, w => if w = 0 then [] else w :: wtsF rate f (k + 1) (w * rate / (1000 * k))
def wts (rate : Nat) : List Nat := wtsF rate 64 1 67108864
def partsF : Nat → List Nat → List Nat
  | _, [] => []
  | a, w :: l => (a + w) :: partsF (a + w) l
def tbl (rate : Nat) : List Nat := (partsF 0 (wts rate)).map fun n => n * 4294967296 / (wts rate).sum
def meansF : List Nat → Nat → Nat
  | [], _ => 0
  | n :: l, w => if n ≤ w then meansF l w + 1 else 0
def sumsOk : Bool := (List.range 4001).all fun r => decide ((wts r).sum ≤ 4294967295)
theorem sumsOk_true : sumsOk = true := by decide +kernel
theorem wts_sum {rate : Nat} (h : rate ≤ 4000) : (wts rate).sum ≤ 4294967295 := by
  have := List.all_eq_true.1 sumsOk_true rate (List.mem_range.2 (by omega))
  simpa using this
theorem wtsF_length (rate : Nat) : ∀ f k w, (wtsF rate f k w).length ≤ f
  | 0, _, _ => Nat.le_refl _
  | f + 1, k, w => by
    unfold wtsF
    split
    · simp
    · have := wtsF_length rate f (k + 1) (w * rate / (1000 * k)); simp; omega
theorem wts_length (rate : Nat) : (wts rate).length ≤ 64 := wtsF_length rate 64 1 67108864
theorem wts_cons (rate : Nat) : ∃ l, wts rate = 67108864 :: l := ⟨wtsF rate 63 2 (67108864 * rate / (1000 * 1)), rfl⟩
theorem partsF_length : ∀ (l : List Nat) (a : Nat), (partsF a l).length = l.length
  | [], _ => rfl
  | w :: l, a => by simp [partsF, partsF_length l]
theorem partsF_get : ∀ (l : List Nat) (a i : Nat) (h : i < (partsF a l).length), (partsF a l)[i] = a + (l.take (i + 1)).sum
  | [], a, i, h => by simp [partsF] at h
  | w :: l, a, 0, h => by simp [partsF]
  | w :: l, a, i + 1, h => by
    simp only [partsF, List.getElem_cons_succ]
    rw [partsF_get l (a + w) i (by simpa [partsF] using h)]
    simp [Nat.add_assoc]
theorem tbl_length (rate : Nat) : (tbl rate).length = (wts rate).length := by simp [tbl, partsF_length]
theorem tbl_get {rate i : Nat} (h : i < (tbl rate).length) : (tbl rate)[i] = ((wts rate).take (i + 1)).sum * 4294967296 / (wts rate).sum := by
  simp only [tbl, List.getElem_map]
  rw [partsF_get, Nat.zero_add]
theorem sum_take_le : ∀ (l : List Nat) (i : Nat), (l.take i).sum ≤ l.sum
  | [], i => by simp
  | w :: l, 0 => by simp
  | w :: l, i + 1 => by have := sum_take_le l i; simp; omega
theorem sum_take_mono (l : List Nat) {i j : Nat} (h : i ≤ j) : (l.take i).sum ≤ (l.take j).sum := by
  have : l.take i = (l.take j).take i := by rw [List.take_take, Nat.min_eq_left h]
  rw [this]; exact sum_take_le _ _
theorem wts_pos (rate : Nat) : 0 < (wts rate).sum := by
  obtain ⟨l, hl⟩ := wts_cons rate
  rw [hl]; simp; omega
theorem tbl_mono {rate i j : Nat} (hij : i ≤ j) (hj : j < (tbl rate).length) : (tbl rate)[i] ≤ (tbl rate)[j] := by
  rw [tbl_get, tbl_get]
  exact Nat.div_le_div_right (Nat.mul_le_mul_right _ (sum_take_mono _ (by omega)))
theorem tbl_pos (rate : Nat) : 0 < (tbl rate).length := by
  rw [tbl_length]
  obtain ⟨l, hl⟩ := wts_cons rate
  rw [hl]; simp
theorem tbl_last {rate i : Nat} (h : i < (tbl rate).length) (hi : i + 1 = (tbl rate).length) : (tbl rate)[i] = 4294967296 := by
  rw [tbl_get, hi, tbl_length, List.take_length]
  exact Nat.mul_div_cancel_left _ (wts_pos rate)
theorem tbl_le {rate i : Nat} (h : i < (tbl rate).length) : (tbl rate)[i] ≤ 4294967296 := by
  have h2 := tbl_last (rate := rate) (i := (tbl rate).length - 1) (by omega) (by omega)
  rw [← h2]; exact tbl_mono (by omega) (by omega)
theorem meansF_le : ∀ (l : List Nat) (w : Nat), meansF l w ≤ l.length
  | [], w => Nat.le_refl _
  | n :: l, w => by
    unfold meansF; split
    · have := meansF_le l w; simp; omega
    · simp
theorem meansF_low : ∀ (l : List Nat) (w i : Nat) (h : i < l.length), i < meansF l w → l[i] ≤ w
  | n :: l, w, 0, h, hi => by
    unfold meansF at hi; split at hi
    · assumption
    · simp at hi
  | n :: l, w, i + 1, h, hi => by
    unfold meansF at hi; split at hi
    · rw [List.getElem_cons_succ]; exact meansF_low l w i (by simpa using h) (by omega)
    · simp at hi
theorem meansF_at : ∀ (l : List Nat) (w : Nat) (h : meansF l w < l.length), w < l[meansF l w]
  | [], w, h => by simp at h
  | n :: l, w, h => by
    by_cases hn : n ≤ w
    · have e : meansF (n :: l) w = meansF l w + 1 := by simp only [meansF, if_pos hn]
      have h2 : meansF l w < l.length := by rw [e] at h; simpa using h
      simp only [e, List.getElem_cons_succ]
      exact meansF_at l w h2
    · have e : meansF (n :: l) w = 0 := by simp only [meansF, if_neg hn]
      simp only [e, List.getElem_cons_zero]; omega
theorem meansF_lt {rate w : Nat} (hw : w < 4294967296) : meansF (tbl rate) w < (tbl rate).length := by
  have h := meansF_le (tbl rate) w
  by_cases he : meansF (tbl rate) w = (tbl rate).length
  · exfalso
    have hp := tbl_pos rate
    have := meansF_low (tbl rate) w ((tbl rate).length - 1) (by omega) (by omega)
    rw [tbl_last (by omega) (by omega)] at this
    omega
  · omega
theorem means_above {rate w i : Nat} (hw : w < 4294967296) (hi : i < (tbl rate).length) (h : meansF (tbl rate) w ≤ i) : w < (tbl rate)[i] :=
  Nat.lt_of_lt_of_le (meansF_at (tbl rate) w (meansF_lt hw)) (tbl_mono h hi)
theorem means_64 {rate w : Nat} (hw : w < 4294967296) : meansF (tbl rate) w < 64 := by
  have := meansF_lt (rate := rate) hw
  have := wts_length rate
  rw [tbl_length] at *; omega
/-! ### The program's -/
def uD (n : Nat) : List D := [.int .u64 n]
abbrev uR (n : Nat) : List AV := [u64 n]
abbrev uV (l : List Nat) : AV := .c (.vs 1 (l.map uD))
theorem uR_map (l : List Nat) : l.map (toAV ∘ uD) = l.map uR := rfl
theorem nmRows_uR (k : Nat) (l : List Nat) : nmRows k (l.map uR) = true := by induction l <;> simp_all
theorem lcRows_uR (k : Nat) (l : List Nat) : lcRows k (l.map uR) = true := by induction l <;> simp_all
/-- What is still to come of the weights. -/
structure WtI (rate : Nat) (p : List Nat × Nat) : Prop where
  l : p.1.length ≤ 64
  e : wts rate = p.1 ++ wtsF rate (64 - p.1.length) (p.1.length + 1) p.2
theorem wtI_next {rate : Nat} {d : List Nat} {w : Nat} (h : WtI rate (d, w)) (hl : d.length ≤ 63) (hw : ¬ w = 0) : WtI rate (d ++ [w], w * rate / (1000 * (d.length + 1))) := by
  obtain ⟨h1, h2⟩ := h
  simp only at h1 h2
  refine ⟨by simp; omega, ?_⟩
  rw [h2, List.append_assoc]
  congr 1
  have : 64 - d.length = (63 - d.length) + 1 := by omega
  rw [this]
  simp only [wtsF, if_neg hw, List.length_append, List.length_cons, List.length_nil, List.cons_append, List.nil_append]
  rw [show 64 - (d.length + (0 + 1)) = 63 - d.length by omega]
theorem wtI_end {rate : Nat} {d : List Nat} {w : Nat} (h : WtI rate (d, w)) (hx : w = 0 ∨ 63 < d.length) : wts rate = d := by
  obtain ⟨h1, h2⟩ := h
  simp only at h1 h2
  rw [h2]
  rcases hx with rfl | hx
  · have : wtsF rate (64 - d.length) (d.length + 1) 0 = [] := by
      cases 64 - d.length with
      | zero => rfl
      | succ f => simp [wtsF]
    rw [this, List.append_nil]
  · rw [show 64 - d.length = 0 by omega]; simp [wtsF]
theorem wtI_le {rate : Nat} {d : List Nat} {w : Nat} (hr : rate ≤ 4000) (h : WtI rate (d, w)) (hl : d.length ≤ 63) : w ≤ 4294967295 := by
  by_cases h0 : w = 0
  · omega
  · have h2 := (wtI_next h hl h0).e
    have hs := wts_sum hr
    rw [h2] at hs
    simp only [List.sum_append, List.sum_cons, List.sum_nil] at hs
    omega
def WtsC (g : St → Option (List AV × List (Nat × Obj))) : Prop := ∀ (rate : Nat) gs, rate ≤ 4000 → Gh gs → nmFr 487005 gs = true → lcFr 487005 gs = true →
  g ⟨(0, i64 rate) :: gs, []⟩ = some ([.sl 487005 (wts rate).length 0 (wts rate).length, i64 0], [(487005, ⟨1, (wts rate).map uR⟩)])
theorem cumul_Weights_run (Γ : Env) (M : Nat) (hM : 100 < M) : WtsC (runP Γ M cumul_Weights_P_f) := by
  intro rate gs hr g n5 l5
  obtain ⟨ax, s', ⟨rfl, rfl⟩, hin⟩ : ∃ ax s', (ax = .ex 0 ∧ s' = ⟨[(5, .sl 487005 (wts rate).length 0 (wts rate).length)] ++ gs, [(487005, ⟨1, (wts rate).map uR⟩)]⟩) ∧ ∀ s0, nrmP [0, 4, 5, 6] 487000 488000 [487005, 487025] s0 = ⟨[(0, i64 rate), (4, u64 (67108864 : Nat)), (5, .sl 487005 ([] : List Nat).length 0 ([] : List Nat).length), (6, u64 ((([] : List Nat).length + 1 : Nat) : Int))] ++ gs, [(487005, ⟨1, ([] : List Nat).map uR⟩)]⟩ → lp (exec Γ M cumul_Weights_P_l1) M s0 = some (ax, s') := by
    refine lp_allP (fun q : List Nat × Nat => ⟨[(0, i64 rate), (4, u64 q.2), (5, .sl 487005 q.1.length 0 q.1.length), (6, u64 ((q.1.length + 1 : Nat) : Int))] ++ gs, [(487005, ⟨1, q.1.map uR⟩)]⟩) (WtI rate) (fun q => 64 - q.1.length) _ ([], 67108864) M ⟨by simp, rfl⟩ (by simp; omega) ?_
    rintro ⟨d, w⟩ hI
    have hl := hI.l
    simp only at hl ⊢
    by_cases h0 : w = 0
    · have he := wtI_end hI (.inl h0)
      subst h0
      rw [he]
      simp -implicitDefEqProofs (disch := first | omega | (simp [g] <;> fail) | assumption) [g]
    · by_cases h63 : d.length ≤ 63
      · have hw := wtI_le hr hI h63
        have hn := wtI_next hI h63 h0
        have hm : ((w * rate : Nat) : Int) = (w : Int) * (rate : Int) := by push_cast; rfl
        have hb : w * rate ≤ 4294967295 * 4000 := Nat.mul_le_mul hw hr
        have hq : ((w * rate / (1000 * (d.length + 1)) : Nat) : Int) = (w : Int) * (rate : Int) / (1000 * ((d.length : Int) + 1)) := by push_cast; rfl
        have hle : w * rate / (1000 * (d.length + 1)) ≤ w * rate := Nat.div_le_self _ _
        have y1 := fun k => nmRows_uR k d
        have y2 := fun k => lcRows_uR k d
        generalize w * rate / (1000 * (d.length + 1)) = w' at *
        have hPb : 0 ≤ (w : Int) * (rate : Int) ∧ (w : Int) * (rate : Int) ≤ 17179869180000 := by rw [← hm]; omega
        clear hm
        obtain ⟨P, hP⟩ : ∃ P, (w : Int) * (rate : Int) = P := ⟨_, rfl⟩
        rw [hP] at hq hPb
        have hqb : 0 ≤ P / (1000 * ((d.length : Int) + 1)) ∧ P / (1000 * ((d.length : Int) + 1)) ≤ P := ⟨Int.ediv_nonneg hPb.1 (by omega), Int.ediv_le_self _ hPb.1⟩
        have hw0 : (0 : Int) < w := by omega
        simp -implicitDefEqProofs (disch := first | omega | (simp [g, y1, y2] <;> fail) | assumption) [g, h63, hw0, y1, y2, n5, l5, hP]
        exact ⟨d ++ [w], w', by simp [hq], hn, by simp; omega⟩
      · have he := wtI_end hI (.inr (by omega))
        have hw0 : (0 : Int) < w := by omega
        have h63' : ¬ (d.length : Int) ≤ 63 := by omega
        rw [he]
        simp -implicitDefEqProofs (disch := first | omega | (simp [g] <;> fail) | assumption) [g, h63, h63', hw0]
  have hin2 := hin ⟨[(0, i64 rate), (4, u64 67108864), (5, .sl 487005 0 0 0), (6, u64 1)] ++ gs, [(487005, ⟨1, []⟩)]⟩ (by
    simp -implicitDefEqProofs (disch := first | omega | (simp <;> fail) | assumption) [g])
  simp only [List.cons_append, List.nil_append] at hin2
  have h1 : ¬ (rate : Int) < 0 := by omega
  have h2 : ¬ 4000 < (rate : Int) := by omega
  simp -implicitDefEqProofs (disch := first | omega | (simp [g, n5, l5] <;> fail) | assumption) [g, h1, h2, n5, l5, hin2]
end Go.Am
