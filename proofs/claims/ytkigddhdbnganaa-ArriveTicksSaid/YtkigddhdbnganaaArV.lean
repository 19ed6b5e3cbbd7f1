/- Products and quotients of the document's table; its weights, its table. -/
import Derived.Test.YtkigddhdbnganaaArU
set_option linter.unusedVariables false
set_option linter.unusedSimpArgs false
set_option maxRecDepth 10000
set_option maxHeartbeats 1000000
namespace Go.Am
def TimesH (g : List AV → Option (List AV)) : Prop := ∀ a : Int, 0 ≤ a → a ≤ 4294967295 → g [u64 a, u64 4294967296] = some [u64 0, u64 (a * 4294967296)]
theorem ref01_TimesH_run (Γ : Env) (M : Nat) : TimesH (run Γ M ref01_Times_f) := by
  intro a h1 h2
  have e1 : a / 4294967296 = 0 := by omega
  have e2 : a % 4294967296 = a := by omega
  simp -implicitDefEqProofs (disch := omega) [e1, e2]
def OverH (g : List AV → Option (List AV)) : Prop := ∀ l c : Int, 0 ≤ l → l ≤ 18446744073709551615 → 0 < c → c ≤ 4294967296 → g [u64 0, u64 l, u64 c] = some [u64 (l / c), u64 (l % c)]
structure OvJ (l c : Int) (t : Nat × Int × Int) : Prop where
  k : t.1 ≤ 64
  eq : c * t.2.1 + t.2.2 = l / 2 ^ t.1
  q0 : 0 ≤ t.2.1
  r0 : 0 ≤ t.2.2
  rc : t.2.2 < c
theorem ovj_q {l c : Int} {t : Nat × Int × Int} (hl0 : 0 ≤ l) (hc0 : 0 < c) (h : OvJ l c t) : t.2.1 ≤ l := by
  have h1 : l / 2 ^ t.1 ≤ l := Int.ediv_le_self _ hl0
  have h2 := h.eq
  have h3 := h.r0
  have h4 : 1 * t.2.1 ≤ c * t.2.1 := Int.mul_le_mul_of_nonneg_right (by omega) h.q0
  omega
theorem ovj_step {l c : Int} {j : Nat} {q r : Int} (hl0 : 0 ≤ l) (hc0 : 0 < c) (h : OvJ l c (j + 1, q, r)) :
    (c ≤ 2 * r + l / 2 ^ j % 2 → OvJ l c (j, 2 * q + 1, 2 * r + l / 2 ^ j % 2 - c)) ∧ (¬ c ≤ 2 * r + l / 2 ^ j % 2 → OvJ l c (j, 2 * q, 2 * r + l / 2 ^ j % 2)) := by
  obtain ⟨h1, h2, h3, h4, h5⟩ := h
  simp only at h1 h2 h3 h4 h5
  have hv : l / 2 ^ (j + 1) = l / 2 ^ j / 2 := by rw [Int.pow_succ, Int.ediv_ediv_of_nonneg (by exact Int.le_of_lt (Int.pow_pos (by decide)))]
  rw [hv] at h2
  have e1 : c * (2 * q + 1) = 2 * (c * q) + c := by rw [Int.mul_add, Int.mul_left_comm]; omega
  have e2 : c * (2 * q) = 2 * (c * q) := Int.mul_left_comm _ _ _
  constructor
  · intro h
    exact ⟨by simp only; omega, by simp only; rw [e1]; omega, by simp only; omega, by simp only; omega, by simp only; omega⟩
  · intro h
    exact ⟨by simp only; omega, by simp only; rw [e2]; omega, by simp only; omega, by simp only; omega, by simp only; omega⟩
theorem ref01_OverH_run (Γ : Env) (M : Nat) (hM : 100 < M) : OverH (run Γ M ref01_Over_f) := by
  intro l c hl0 hl hc0 hc
  obtain ⟨ax, s', ⟨rfl, rfl⟩, hin⟩ : ∃ ax s', (ax = .ex 0 ∧ s' = ⟨[(8, u64 (l / c)), (9, u64 (l % c))], []⟩) ∧ ∀ t, nrm [1, 2, 8, 9, 10] [] t = ⟨[(1, u64 l), (2, u64 c), (8, u64 0), (9, u64 0), (10, i64 (((64 : Nat) : Int) - 1))], []⟩ → lp (exec Γ M ref01_Over_l1) M t = some (ax, s') := by
    refine lp_all (fun t : Nat × Int × Int => ⟨[(1, u64 l), (2, u64 c), (8, u64 t.2.1), (9, u64 t.2.2), (10, i64 ((t.1 : Int) - 1))], []⟩) (OvJ l c) (fun t => t.1) _ (64, 0, 0) M (by simp) ⟨by simp, by simp only; omega, by simp, by simp, by simpa using hc0⟩ (by simp only; omega) ?_
    rintro ⟨k, q, r⟩ hk
    have hq := ovj_q hl0 hc0 hk
    rcases k with _ | j
    · obtain ⟨h1, h2, h3, h4, h5⟩ := hk
      simp only [Int.pow_zero, Int.ediv_one] at h2 h3 h4 h5 hq
      have hql : q = l / c ∧ r = l % c := by
        have : l = r + c * q := by omega
        constructor
        · rw [this, Int.add_mul_ediv_left _ _ (by omega), Int.ediv_eq_zero_of_lt h4 h5]; omega
        · rw [this, Int.add_mul_emod_self_left, Int.emod_eq_of_lt h4 h5]
      rw [← hql.1, ← hql.2]
      simp -implicitDefEqProofs (disch := omega)
    · have hst := ovj_step hl0 hc0 hk
      obtain ⟨h1, h2, h3, h4, h5⟩ := hk
      simp only at h1 h2 h3 h4 h5 hq
      have hq2 : 2 * q ≤ l := by
        have h2' : l / 2 ^ j ≤ l := Int.ediv_le_self _ hl0
        have hv : l / 2 ^ (j + 1) = l / 2 ^ j / 2 := by rw [Int.pow_succ, Int.ediv_ediv_of_nonneg (by exact Int.le_of_lt (Int.pow_pos (by decide)))]
        have h4' : 1 * q ≤ c * q := Int.mul_le_mul_of_nonneg_right (by omega) h3
        omega
      clear h2
      have hsh : shfI false .u64 l (j : Int) = some (.int .u64 (l / 2 ^ j)) := by
        unfold shfI
        rw [if_neg (by omega), Int.toNat_natCast, Nat.min_eq_left (by show j ≤ 64; omega)]
        rw [if_neg (by decide), Int.fdiv_eq_ediv_of_nonneg _ (Int.le_of_lt (Int.pow_pos (by decide)))]
      have hw0 : 0 ≤ l / 2 ^ j := Int.ediv_nonneg hl0 (Int.le_of_lt (Int.pow_pos (by decide)))
      have hj : ((j + 1 : Nat) : Int) - 1 = j := by omega
      simp only [hj]
      generalize l / 2 ^ j = w at *
      by_cases hge : c ≤ 2 * r + w % 2
      · have hn := hst.1 hge
        have hql := ovj_q hl0 hc0 hn
        simp only at hql
        simp -implicitDefEqProofs (disch := omega) [-shfI, hsh, hge]
        exact ⟨j, 2 * q + 1, 2 * r + w % 2 - c, ⟨by simp, by simp, rfl⟩, hn, by omega⟩
      · have hn := hst.2 hge
        simp -implicitDefEqProofs (disch := omega) [-shfI, hsh, hge]
        exact ⟨j, 2 * q, 2 * r + w % 2, ⟨by simp, by simp, rfl⟩, hn, by omega⟩
  have hlp := hin ⟨[(1, u64 l), (2, u64 c), (8, u64 0), (9, u64 0), (10, i64 63)], []⟩ (by simp)
  simp -implicitDefEqProofs (disch := omega) [hlp]
/-! ### The document's weights -/
def RWtsC (g : List AV → Option (List AV)) : Prop := ∀ rate : Nat, rate ≤ 4000 → g [i64 rate] = some [uV (wts rate)]
theorem ref11_Weights_run (Γ : Env) (M : Nat) (hM : 100 < M) : RWtsC (run Γ M ref11_Weights_f) := by
  intro rate hr
  have hsum := wts_sum hr
  obtain ⟨ax, s', hR, hin⟩ : ∃ ax s', ((ax = .ret ∧ s' = ⟨[(2, .sl 6 (wts rate).length 0 (wts rate).length)], [(6, ⟨1, (wts rate).map uR⟩)]⟩) ∨ (ax = .ex 0 ∧ s' = ⟨[(3, .sl 6 (wts rate).length 0 (wts rate).length)], [(6, ⟨1, (wts rate).map uR⟩)]⟩)) ∧ ∀ s0, nrm [0, 3, 4] [3, 6, 29] s0 = ⟨[(0, i64 rate), (3, .sl 6 (([] : List Nat).length + 1) 0 (([] : List Nat).length + 1)), (4, i64 ((([] : List Nat).length + 1 : Nat) : Int))], [(6, ⟨1, ([] ++ [67108864]).map uR⟩)]⟩ → lp (exec Γ M ref11_Weights_l1) M s0 = some (ax, s') := by
    refine lp_all (fun q : List Nat × Nat => ⟨[(0, i64 rate), (3, .sl 6 (q.1.length + 1) 0 (q.1.length + 1)), (4, i64 ((q.1.length + 1 : Nat) : Int))], [(6, ⟨1, (q.1 ++ [q.2]).map uR⟩)]⟩) (fun q => WtI rate (q.1 ++ [q.2], q.2 * rate / (1000 * (q.1.length + 1)))) (fun q => 64 - q.1.length) _ ([], 67108864) M (by simp) ⟨by simp, rfl⟩ (by simp; omega) ?_
    rintro ⟨d, w⟩ hI
    simp only at hI ⊢
    have hl := hI.l
    simp only [List.length_append, List.length_cons, List.length_nil] at hl
    have hw : w ≤ 4294967295 := by
      have h2 := hI.e
      rw [h2] at hsum
      simp only [List.sum_append, List.sum_cons, List.sum_nil] at hsum
      omega
    by_cases h63 : d.length + 1 ≤ 63
    · have hm : ((w * rate : Nat) : Int) = (w : Int) * (rate : Int) := by push_cast; rfl
      have hb : w * rate ≤ 4294967295 * 4000 := Nat.mul_le_mul hw hr
      have hq : ((w * rate / (1000 * (d.length + 1)) : Nat) : Int) = (w : Int) * (rate : Int) / (1000 * ((d.length : Int) + 1)) := by push_cast; rfl
      have hle : w * rate / (1000 * (d.length + 1)) ≤ w * rate := Nat.div_le_self _ _
      have hrow : ((d ++ [w]).map uR)[d.length]? = some [u64 w] := by simp
      have hrl : ((d ++ [w]).map uR).length = d.length + 1 := by simp
      have y1 := fun k => nmRows_uR k (d ++ [w])
      have y2 := fun k => lcRows_uR k (d ++ [w])
      by_cases h0 : w * rate / (1000 * (d.length + 1)) = 0
      · have he := wtI_end hI (.inl h0)
        have hel : (wts rate).length = d.length + 1 := by rw [he]; simp
        rw [hel, he]
        generalize w * rate / (1000 * (d.length + 1)) = w' at *
        subst h0
        have hPb : 0 ≤ (w : Int) * (rate : Int) ∧ (w : Int) * (rate : Int) ≤ 17179869180000 := by rw [← hm]; omega
        clear hm
        obtain ⟨P, hP⟩ : ∃ P, (w : Int) * (rate : Int) = P := ⟨_, rfl⟩
        rw [hP] at hq hPb
        have hq' := hq.symm
        have hrow2 := getI hrow
        generalize (d ++ [w]).map uR = R at *
        have hlt : (d.length : Int) + 1 < 64 := by omega
        simp -implicitDefEqProofs (disch := first | omega | (simp <;> fail) | assumption) [hlt, h63, hP, hq', hrow, hrow2, hrl]
      · have hn := wtI_next hI (by simp; omega) h0
        have hn' : WtI rate ((d ++ [w]) ++ [w * rate / (1000 * (d.length + 1))], w * rate / (1000 * (d.length + 1)) * rate / (1000 * ((d ++ [w]).length + 1))) := hn
        generalize w * rate / (1000 * (d.length + 1)) = w' at *
        have hPb : 0 ≤ (w : Int) * (rate : Int) ∧ (w : Int) * (rate : Int) ≤ 17179869180000 := by rw [← hm]; omega
        clear hm
        obtain ⟨P, hP⟩ : ∃ P, (w : Int) * (rate : Int) = P := ⟨_, rfl⟩
        rw [hP] at hq hPb
        have hq' := hq.symm
        have hrow2 := getI hrow
        have hlt : (d.length : Int) + 1 < 64 := by omega
        have hRe : (d ++ [w]).map uR ++ [[u64 w']] = ((d ++ [w]) ++ [w']).map uR := by simp
        obtain ⟨R, hRR⟩ : ∃ R, (d ++ [w]).map uR = R := ⟨_, rfl⟩
        rw [hRR] at hrow hrl y1 y2 hRe
        have hrow2 := getI hrow
        rw [hRR]
        simp -implicitDefEqProofs (disch := first | omega | (simp [y1, y2] <;> fail) | assumption) [hlt, h63, hP, hq', hrow, hrow2, hrl, h0, y1, y2]
        exact ⟨d ++ [w], w', by simp [← hRR], hn', by simp; omega⟩
    · have he := wtI_end hI (.inr (by simp; omega))
      have hel : (wts rate).length = d.length + 1 := by rw [he]; simp
      rw [hel, he]
      generalize (d ++ [w]).map uR = R at *
      have hlt : ¬ (d.length : Int) + 1 < 64 := by omega
      simp -implicitDefEqProofs (disch := first | omega | (simp <;> fail) | assumption) [hlt]
  have hin2 := hin ⟨[(0, i64 rate), (3, .sl 6 1 0 1), (4, i64 1)], [(6, ⟨1, [[u64 67108864]]⟩)]⟩ (by simp)
  have htc : List.take (wts rate).length ((wts rate).map uD) = (wts rate).map uD := List.take_of_length_le (by simp)
  simp only [← uR_map] at hR hin2
  rcases hR with ⟨rfl, rfl⟩ | ⟨rfl, rfl⟩
  · simp -implicitDefEqProofs (disch := first | omega | (simp <;> fail) | assumption) [hin2, htc]
  · simp -implicitDefEqProofs (disch := first | omega | (simp <;> fail) | assumption) [hin2, htc]
end Go.Am
