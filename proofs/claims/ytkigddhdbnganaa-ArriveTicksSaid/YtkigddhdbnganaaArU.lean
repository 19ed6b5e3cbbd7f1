/- Tables, words, ticks: the program's functions and the document's. -/
import Derived.Test.YtkigddhdbnganaaArT
import Derived.Test.YtkigddhdbnganaaVetK
set_option linter.unusedVariables false
set_option linter.unusedSimpArgs false
set_option maxRecDepth 10000
set_option maxHeartbeats 1000000
namespace Go.Am
/-! ### The table -/
def fillF (rate q : Nat) : List Nat := (tbl rate).take q ++ (wts rate).drop q
theorem fillF_zero (rate : Nat) : fillF rate 0 = wts rate := rfl
theorem fillF_all (rate : Nat) : fillF rate (wts rate).length = tbl rate := by
  unfold fillF
  rw [List.drop_length, List.append_nil, List.take_of_length_le (by rw [tbl_length]; exact Nat.le_refl _)]
theorem fillF_length (rate q : Nat) (h : q ≤ (wts rate).length) : (fillF rate q).length = (wts rate).length := by
  unfold fillF
  rw [List.length_append, List.length_take, List.length_drop, tbl_length]; omega
theorem fillF_get {rate q : Nat} (h : q < (wts rate).length) : (fillF rate q)[q]? = some (wts rate)[q] := by
  unfold fillF
  rw [List.getElem?_append_right (by rw [List.length_take]; omega)]
  rw [List.length_take, tbl_length, Nat.min_eq_left (by omega), Nat.sub_self, List.getElem?_drop, Nat.add_zero, List.getElem?_eq_getElem h]
theorem fillF_succ {rate q : Nat} (h : q < (wts rate).length) : (fillF rate q).take q ++ (((wts rate).take (q + 1)).sum * 4294967296 / (wts rate).sum) :: (fillF rate q).drop (q + 1) = fillF rate (q + 1) := by
  have h2 : q < (tbl rate).length := by rw [tbl_length]; exact h
  have e1 : (fillF rate q).take q = (tbl rate).take q := by
    unfold fillF
    rw [List.take_append_of_le_length (by rw [List.length_take]; omega), List.take_take, Nat.min_self]
  have e2 : (fillF rate q).drop (q + 1) = (wts rate).drop (q + 1) := by
    unfold fillF
    rw [List.drop_append, List.drop_eq_nil_of_le (by rw [List.length_take]; omega), List.nil_append, List.length_take, Nat.min_eq_left (by omega), List.drop_drop]
    congr 1; omega
  rw [e1, e2]
  unfold fillF
  rw [List.take_succ_eq_append_getElem h2, tbl_get h2, List.append_assoc]; rfl
def TabC (g : List AV → Option (List AV)) : Prop := ∀ rate : Nat, rate ≤ 4000 → g [i64 rate] = some [uV (tbl rate), i64 0]
theorem sum_take_succ {l : List Nat} {q : Nat} (h : q < l.length) : (l.take (q + 1)).sum = (l.take q).sum + l[q] := by
  rw [List.take_succ_eq_append_getElem h, List.sum_append]; simp
theorem getI {α : Type} {R : List α} {q : Nat} {r : α} (h : R[q]? = some r) : ∀ h', R[q]'h' = r := fun h' => by rw [List.getElem?_eq_getElem h'] at h; simpa using h
theorem tab_l2 (Γ : Env) (M : Nat) (hM : 100 < M) (L S : Nat) (W A : Nat → Nat) (R : Rows) (hL : L ≤ 64) (hS : S ≤ 4294967295) (hA0 : A 0 = 0) (hA : ∀ q, q < L → A (q + 1) = A q + W q) (hAS : ∀ q, q ≤ L → A q ≤ S) (hAL : A L = S) (hRl : R.length = L) (hR : ∀ q, q < L → R[q]? = some [u64 (W q)]) :
    lp (exec Γ M cumul_Table_l2) M ⟨[(4, .sl 487005 L 0 L), (6, u64 0), (20, .sl 487005 L 0 L), (21, i64 L), (22, i64 0)], [(487005, ⟨1, R⟩)]⟩ = some (.ex 0, ⟨[(4, .sl 487005 L 0 L), (6, u64 S)], [(487005, ⟨1, R⟩)]⟩) := by
  obtain ⟨ax, s', ⟨rfl, rfl⟩, hin⟩ : ∃ ax s', (ax = .ex 0 ∧ s' = ⟨[(4, .sl 487005 L 0 L), (6, u64 S)], [(487005, ⟨1, R⟩)]⟩) ∧ ∀ s0, nrmP [4, 6, 20, 21, 22] 0 0 [] s0 = ⟨[(4, .sl 487005 L 0 L), (6, u64 (A 0)), (20, .sl 487005 L 0 L), (21, i64 L), (22, i64 (0 : Nat))], [(487005, ⟨1, R⟩)]⟩ → lp (exec Γ M cumul_Table_l2) M s0 = some (ax, s') := by
    refine lp_allP (fun q : Nat => ⟨[(4, .sl 487005 L 0 L), (6, u64 (A q)), (20, .sl 487005 L 0 L), (21, i64 L), (22, i64 q)], [(487005, ⟨1, R⟩)]⟩) (fun q => q ≤ L) (fun q => L - q) _ 0 M (by omega) (by omega) ?_
    intro q hq
    by_cases hlt : q < L
    · have hs := hA q hlt
      have hb := hAS (q + 1) hlt
      have hrow := hR q hlt
      have hrow2 := getI hrow
      have hs' : (A (q + 1) : Int) = (A q : Int) + W q := by omega
      simp -implicitDefEqProofs (disch := first | omega | (simp <;> fail) | assumption) [hlt, hrow, hrow2, hRl]
      exact ⟨q + 1, by rw [hs']; simp, by omega, by omega⟩
    · obtain rfl : q = L := by omega
      rw [hAL]
      simp -implicitDefEqProofs (disch := first | omega | (simp <;> fail) | assumption)
  exact hin _ (by rw [hA0]; simp)
theorem tab_l1 (Γ : Env) (M : Nat) (hM : 100 < M) (L S : Nat) (W A V : Nat → Nat) (F : Nat → Rows) (hL : L ≤ 64) (hS : S ≤ 4294967295) (hS0 : 0 < S) (hA0 : A 0 = 0) (hA : ∀ q, q < L → A (q + 1) = A q + W q) (hAS : ∀ q, q ≤ L → A q ≤ S) (hR : ∀ q, q < L → (F q)[q]? = some [u64 (W q)]) (hFl : ∀ q, q ≤ L → (F q).length = L)
    (hV : ∀ q, q < L → (V q : Int) = (A (q + 1) : Int) * 4294967296 / S) (hF : ∀ q, q < L → (F q).take q ++ [u64 (V q)] :: (F q).drop (q + 1) = F (q + 1)) :
    lp (exec Γ M cumul_Table_l1) M ⟨[(4, .sl 487005 L 0 L), (6, u64 S), (9, u64 0), (30, .sl 487005 L 0 L), (31, i64 L), (32, i64 0)], [(487005, ⟨1, F 0⟩)]⟩ = some (.ex 2, ⟨[(4, .sl 487005 L 0 L)], [(487005, ⟨1, F L⟩)]⟩) := by
  obtain ⟨ax, s', ⟨rfl, rfl⟩, hin⟩ : ∃ ax s', (ax = .ex 2 ∧ s' = ⟨[(4, .sl 487005 L 0 L)], [(487005, ⟨1, F L⟩)]⟩) ∧ ∀ s0, nrmP [4, 6, 9, 30, 31, 32] 0 0 [] s0 = ⟨[(4, .sl 487005 L 0 L), (6, u64 S), (9, u64 (A 0)), (30, .sl 487005 L 0 L), (31, i64 L), (32, i64 (0 : Nat))], [(487005, ⟨1, F 0⟩)]⟩ → lp (exec Γ M cumul_Table_l1) M s0 = some (ax, s') := by
    refine lp_allP (fun q : Nat => ⟨[(4, .sl 487005 L 0 L), (6, u64 S), (9, u64 (A q)), (30, .sl 487005 L 0 L), (31, i64 L), (32, i64 q)], [(487005, ⟨1, F q⟩)]⟩) (fun q => q ≤ L) (fun q => L - q) _ 0 M (by omega) (by omega) ?_
    intro q hq
    by_cases hlt : q < L
    · have hs := hA q hlt
      have hb := hAS (q + 1) hlt
      have hrow := hR q hlt
      have hrow2 := getI hrow
      have hfl := hFl q hq
      have hv := hV q hlt
      have hset := hF q hlt
      have hs' : (A q : Int) + W q = A (q + 1) := by omega
      have hv1 : 0 ≤ (A (q + 1) : Int) * 4294967296 / S ∧ (A (q + 1) : Int) * 4294967296 / S ≤ (A (q + 1) : Int) * 4294967296 := ⟨Int.ediv_nonneg (by omega) (by omega), Int.ediv_le_self _ (by omega)⟩
      have hsh : shfI true .u64 (A (q + 1) : Int) 32 = some (.int .u64 ((A (q + 1) : Int) * 4294967296)) := by
        have e : (2 : Int) ^ (min (32 : Int).toNat IntKind.u64.bits) = 4294967296 := by decide
        unfold shfI
        rw [if_neg (by omega), e, if_pos rfl, IntKind.wrap_u64, Int.emod_eq_of_lt (by omega) (by omega)]
      generalize hb' : A (q + 1) = b at *
      generalize A q = a at *
      generalize F q = R at *
      generalize hF' : F (q + 1) = R' at *
      generalize V q = v at *
      generalize W q = w at *
      simp -implicitDefEqProofs (disch := first | omega | (simp <;> fail) | assumption) [-shfI, hlt, hrow, hrow2, hs', hsh, ← hv, hfl, hset]
      exact ⟨q + 1, by simp [hb', hF'], by omega, by omega⟩
    · obtain rfl : q = L := by omega
      simp -implicitDefEqProofs (disch := first | omega | (simp <;> fail) | assumption)
  exact hin _ (by rw [hA0]; simp)
theorem cast_div (a s : Nat) : ((a * 4294967296 / s : Nat) : Int) = (a : Int) * 4294967296 / s := by
  rw [Int.natCast_ediv, Int.natCast_mul]; rfl
theorem cumul_Table_run (Γ : Env) (M : Nat) (hM : 100 < M) (hW : WtsC (Γ.pt 487)) : TabC (run Γ M cumul_Table_f) := by
  intro rate hr
  have e := fun gs a b c => hW rate gs hr a b c
  have hsum := wts_sum hr
  have hlen := wts_length rate
  have hpos := wts_pos rate
  have gW : ∀ q, q < (wts rate).length → (wts rate)[q]? = some ((wts rate).getD q 0) := fun q hq => by simp [hq]
  have l2 := tab_l2 Γ M hM (wts rate).length (wts rate).sum (fun q => (wts rate).getD q 0) (fun q => ((wts rate).take q).sum) ((wts rate).map uR) hlen hsum rfl (fun q hq => by
    rw [sum_take_succ hq]; simp [hq]) (fun q hq => sum_take_le _ _) (by rw [List.take_length]) (by simp) (fun q hq => by simp [hq])
  have l1 := tab_l1 Γ M hM (wts rate).length (wts rate).sum (fun q => (wts rate).getD q 0) (fun q => ((wts rate).take q).sum) (fun q => ((wts rate).take (q + 1)).sum * 4294967296 / (wts rate).sum) (fun q => (fillF rate q).map uR) hlen hsum hpos rfl (fun q hq => by
    rw [sum_take_succ hq]; simp [hq]) (fun q hq => sum_take_le _ _) (fun q hq => by
    rw [List.getElem?_map, fillF_get hq]; simp [hq]) (fun q hq => by rw [List.length_map, fillF_length rate q hq]) (fun q hq => cast_div _ _) (fun q hq => by
    rw [← fillF_succ hq, List.map_append, List.map_cons, List.map_take, List.map_drop])
  simp only [fillF_zero, fillF_all] at l1
  simp only [← uR_map] at e l2 l1
  have hlt := tbl_length rate
  have htc : List.take (wts rate).length ((tbl rate).map uD) = (tbl rate).map uD := List.take_of_length_le (by rw [List.length_map, hlt]; exact Nat.le_refl _)
  simp -implicitDefEqProofs (disch := first | omega | (simp <;> fail) | assumption) [e, l2, l1, htc, hlt]
def RtbC (g : List AV → Option (List AV)) : Prop := ∀ rate : Nat, g [uV (tbl rate)] = some [bo true]
theorem cumul_Right_run (Γ : Env) (M : Nat) (hM : 100 < M) : RtbC (run Γ M cumul_Right_f) := by
  intro rate
  have hlen : (tbl rate).length ≤ 64 := by rw [tbl_length]; exact wts_length rate
  have hp := tbl_pos rate
  obtain ⟨ax, s', ⟨rfl, rfl⟩, hin⟩ : ∃ ax s', (ax = .ex 0 ∧ s' = ⟨[(0, uV (tbl rate))], []⟩) ∧ ∀ s0, nrm [0, 5, 6, 7] [] s0 = ⟨[(0, uV (tbl rate)), (5, uV (tbl rate)), (6, i64 (tbl rate).length), (7, i64 (0 : Nat))], []⟩ → lp (exec Γ M cumul_Right_l1) M s0 = some (ax, s') := by
    refine lp_all (fun q : Nat => ⟨[(0, uV (tbl rate)), (5, uV (tbl rate)), (6, i64 (tbl rate).length), (7, i64 q)], []⟩) (fun q => q ≤ (tbl rate).length) (fun q => (tbl rate).length - q) _ 0 M (by simp) (by omega) (by omega) ?_
    intro q hq
    by_cases hlt : q < (tbl rate).length
    · obtain ⟨x, hx⟩ : ∃ x, (tbl rate)[q] = x := ⟨_, rfl⟩
      by_cases h0 : q = 0
      · subst h0
        simp -implicitDefEqProofs (disch := first | omega | (simp <;> fail) | assumption) [hlt, hx, uD]
        exact ⟨1, by simp, by omega, by omega⟩
      · obtain ⟨p, rfl⟩ : ∃ p, q = p + 1 := ⟨q - 1, by omega⟩
        have hlt' : p < (tbl rate).length := by omega
        obtain ⟨y, hy⟩ : ∃ y, (tbl rate)[p] = y := ⟨_, rfl⟩
        have hm := tbl_mono (rate := rate) (Nat.le_succ p) hlt
        rw [hx, hy] at hm
        have hm' : ¬ (x : Int) < y := by omega
        simp -implicitDefEqProofs (disch := first | omega | (simp <;> fail) | assumption) [hlt, hlt', hx, hy, hm', uD]
        exact ⟨p + 1 + 1, by simp, by omega, by omega⟩
    · obtain rfl : q = (tbl rate).length := by omega
      simp -implicitDefEqProofs (disch := first | omega | (simp <;> fail) | assumption)
  have hin2 := hin ⟨[(0, uV (tbl rate)), (5, uV (tbl rate)), (6, i64 (tbl rate).length), (7, i64 0)], []⟩ (by simp)
  obtain ⟨L, hL⟩ : ∃ L, (tbl rate).length = L + 1 := ⟨(tbl rate).length - 1, by omega⟩
  have hlast := tbl_last (rate := rate) (i := L) (by omega) (by omega)
  have hlt : L < (tbl rate).length := by omega
  rw [hL, show ((L + 1 : Nat) : Int) = (L : Int) + 1 from rfl] at hin2
  simp -implicitDefEqProofs (disch := first | omega | (simp <;> fail) | assumption) [hin2, hL, hlast, uD]
def DrawC (g : List AV → Option (List AV)) : Prop := ∀ rate w : Nat, w < 4294967296 → g [uV (tbl rate), u32 w] = some [i64 (meansF (tbl rate) w)]
theorem draw_Of_run (Γ : Env) (M : Nat) (hM : 100 < M) : DrawC (run Γ M draw_Of_f) := by
  intro rate w hw
  have hlen : (tbl rate).length ≤ 64 := by rw [tbl_length]; exact wts_length rate
  have hml := meansF_lt (rate := rate) hw
  obtain ⟨ax, s', ⟨rfl, rfl⟩, hin⟩ : ∃ ax s', (ax = .ex 0 ∧ s' = ⟨[(5, i64 (meansF (tbl rate) w))], []⟩) ∧ ∀ s0, nrm [0, 1, 5, 6] [] s0 = ⟨[(0, uV (tbl rate)), (1, u32 w), (5, i64 (0 : Nat)), (6, i64 (tbl rate).length)], []⟩ → lp (exec Γ M draw_Of_l1) M s0 = some (ax, s') := by
    refine lp_all (fun q : Nat × Nat => ⟨[(0, uV (tbl rate)), (1, u32 w), (5, i64 q.1), (6, i64 q.2)], []⟩) (fun q => q.1 ≤ meansF (tbl rate) w ∧ meansF (tbl rate) w ≤ q.2 ∧ q.2 ≤ (tbl rate).length) (fun q => q.2 - q.1) _ (0, (tbl rate).length) M (by simp) (by simp; omega) (by simp; omega) ?_
    rintro ⟨a, b⟩ ⟨h1, h2, h3⟩
    simp only at h1 h2 h3 ⊢
    by_cases hlt : a < b
    · obtain ⟨m, hm⟩ : ∃ m, (a + b) / 2 = m := ⟨_, rfl⟩
      have hmb : m < (tbl rate).length := by omega
      have hsh : ((a : Int) + b).fdiv (2 ^ min 1 IntKind.u64.bits) = m := by
        have e : (2 : Int) ^ min 1 IntKind.u64.bits = 2 := by decide
        rw [e, Int.fdiv_eq_ediv_of_nonneg _ (by decide)]; omega
      obtain ⟨x, hx⟩ : ∃ x, (tbl rate)[m] = x := ⟨_, rfl⟩
      have hxb := tbl_le hmb
      rw [hx] at hxb
      by_cases hgt : w < x
      · have hmm : meansF (tbl rate) w ≤ m := by
          by_cases h : meansF (tbl rate) w ≤ m
          · exact h
          · have := meansF_low (tbl rate) w m hmb (by omega); omega
        simp -implicitDefEqProofs (disch := first | omega | (simp <;> fail) | assumption) [hlt, hx, hsh, hgt, hmb, uD]
        exact ⟨a, m, by simp, ⟨by omega, by omega, by omega⟩, by omega⟩
      · have hmm : m < meansF (tbl rate) w := by
          by_cases h : m < meansF (tbl rate) w
          · exact h
          · have := means_above hw hmb (by omega); omega
        simp -implicitDefEqProofs (disch := first | omega | (simp <;> fail) | assumption) [hlt, hx, hsh, hgt, hmb, uD]
        exact ⟨m + 1, b, by simp, ⟨by omega, by omega, by omega⟩, by omega⟩
    · obtain rfl : a = meansF (tbl rate) w := by omega
      simp -implicitDefEqProofs (disch := first | omega | (simp <;> fail) | assumption) [hlt]
  have hin2 := hin ⟨[(0, uV (tbl rate)), (1, u32 w), (5, i64 0), (6, i64 (tbl rate).length)], []⟩ (by simp)
  simp -implicitDefEqProofs (disch := first | omega | (simp <;> fail) | assumption) [hin2]
end Go.Am
