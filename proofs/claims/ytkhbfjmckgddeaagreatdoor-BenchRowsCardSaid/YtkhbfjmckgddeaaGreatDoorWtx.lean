/- Law 72's table: clock, hundredths, numbers with a point, by the program and by the document. -/
import Derived.Test.YtkhbfjmckgddeaaGreatDoorWtxCode
import Derived.Test.YtkhbfjmckgddeaaGreatDoorWtxP
set_option linter.unusedVariables false
set_option linter.unusedSimpArgs false
set_option maxRecDepth 10000
set_option maxHeartbeats 400000
namespace Go.Am
/-! ### Bits -/
theorem and_lo {a : Int} (h : 0 ≤ a) (h2 : a ≤ 18446744073709551615) : bitsK .and .u64 a 4294967295 = a % 4294967296 := by
  obtain ⟨n, rfl⟩ := Int.eq_ofNat_of_zero_le h
  have e : (BitVec.ofInt IntKind.u64.bits (n : Int) &&& BitVec.ofInt IntKind.u64.bits 4294967295).toNat = n % 4294967296 := by
    rw [BitVec.toNat_and]
    have h64 : IntKind.u64.bits = 64 := rfl
    have h1 : (BitVec.ofInt IntKind.u64.bits (n : Int)).toNat = n := by simp only [BitVec.toNat_ofInt, h64]; omega
    have h2 : (BitVec.ofInt IntKind.u64.bits (4294967295 : Int)).toNat = 2 ^ 32 - 1 := by decide
    rw [h1, h2, Nat.and_two_pow_sub_one_eq_mod]
  simp only [bitsK, e, IntKind.wrap_u64]
  omega
theorem shr_lo {a : Int} : shfI false .u64 a 32 = some (.int .u64 (a / 4294967296)) := by
  have : (2 : Int) ^ (min (32 : Int).toNat IntKind.u64.bits) = 4294967296 := by decide
  unfold shfI
  rw [if_neg (by omega), this]
  simp [Int.fdiv_eq_ediv_of_nonneg]
theorem bit_i64 {a : Int} (h : 0 ≤ a) (h2 : a ≤ 9223372036854775807) : (BitVec.ofInt IntKind.i64.bits a).toNat = a.toNat := by
  have h64 : IntKind.i64.bits = 64 := rfl
  simp only [BitVec.toNat_ofInt, h64]; omega
theorem xor_pos {a b : Int} (h : 0 ≤ a) (h2 : a ≤ 9223372036854775807) (h3 : 0 ≤ b) (h4 : b ≤ 9223372036854775807) : 0 ≤ bitsK .xor .i64 a b ∧ bitsK .xor .i64 a b ≤ 9223372036854775807 := by
  have e : (BitVec.ofInt IntKind.i64.bits a ^^^ BitVec.ofInt IntKind.i64.bits b).toNat = a.toNat ^^^ b.toNat := by rw [BitVec.toNat_xor, bit_i64 h h2, bit_i64 h3 h4]
  have hb : a.toNat ^^^ b.toNat < 2 ^ 63 := Nat.xor_lt_two_pow (by omega) (by omega)
  simp only [bitsK, e, IntKind.wrap_i64]
  omega
theorem and_pos {a b : Int} (h : 0 ≤ a) (h2 : a ≤ 9223372036854775807) (h3 : 0 ≤ b) (h4 : b ≤ 9223372036854775807) : 0 ≤ bitsK .and .i64 a b := by
  have e : (BitVec.ofInt IntKind.i64.bits a &&& BitVec.ofInt IntKind.i64.bits b).toNat = a.toNat &&& b.toNat := by rw [BitVec.toNat_and, bit_i64 h h2, bit_i64 h3 h4]
  have hb : a.toNat &&& b.toNat < 2 ^ 63 := Nat.and_lt_two_pow _ (by omega)
  simp only [bitsK, e, IntKind.wrap_i64]
  omega
/-! ### Products, quotients -/
def TimesC (g : List AV → Option (List AV)) : Prop := ∀ a : Int, 0 ≤ a → a ≤ 1099511627776 → g [u64 a, u64 100] = some [u64 0, u64 (100 * a)]
theorem ref01_Times_run (Γ : Env) (M : Nat) : TimesC (run Γ M ref01_Times_f) := by
  intro a h1 h2
  simp -implicitDefEqProofs (disch := omega)
  omega
theorem math_bits_Mul64_run (Γ : Env) (M : Nat) : TimesC (run Γ M math_bits_Mul64_f) := by
  intro a h1 h2
  have e1 := and_lo (a := a) h1 (by omega)
  have e2 : bitsK .and .u64 100 4294967295 = 100 := by decide
  have e3 := @shr_lo
  have e4 : (∀ x : Int, 0 ≤ x → x ≤ 18446744073709551615 → bitsK .and .u64 x 4294967295 = x % 4294967296) := fun x h h2 => and_lo h h2
  simp -implicitDefEqProofs (disch := omega) [-shfI, e1, e2, e3, e4]
  omega
def OverC (g : List AV → Option (List AV)) : Prop := ∀ l c : Int, 0 ≤ l → l ≤ 1099511627776000 → 0 < c → c ≤ 1099511627776 → g [u64 0, u64 l, u64 c] = some [u64 (l / c), u64 (l % c)]
structure OvI (l c : Int) (t : Nat × Int × Int) : Prop where
  k : t.1 ≤ 64
  eq : c * t.2.1 + t.2.2 = l / 2 ^ t.1
  q0 : 0 ≤ t.2.1
  r0 : 0 ≤ t.2.2
  rc : t.2.2 < c
theorem ovi_q {l c : Int} {t : Nat × Int × Int} (hl0 : 0 ≤ l) (hc0 : 0 < c) (h : OvI l c t) : t.2.1 ≤ l := by
  have h1 : l / 2 ^ t.1 ≤ l := Int.ediv_le_self _ hl0
  have h2 := h.eq
  have h3 := h.r0
  have h4 : 1 * t.2.1 ≤ c * t.2.1 := Int.mul_le_mul_of_nonneg_right (by omega) h.q0
  omega
theorem ovi_step {l c : Int} {j : Nat} {q r : Int} (hl0 : 0 ≤ l) (hc0 : 0 < c) (h : OvI l c (j + 1, q, r)) :
    (c ≤ 2 * r + l / 2 ^ j % 2 → OvI l c (j, 2 * q + 1, 2 * r + l / 2 ^ j % 2 - c)) ∧ (¬ c ≤ 2 * r + l / 2 ^ j % 2 → OvI l c (j, 2 * q, 2 * r + l / 2 ^ j % 2)) := by
  obtain ⟨h1, h2, h3, h4, h5⟩ := h
  simp only at h1 h2 h3 h4 h5
  have hv : l / 2 ^ (j + 1) = l / 2 ^ j / 2 := by rw [Int.pow_succ, Int.ediv_ediv_of_nonneg (by exact Int.le_of_lt (Int.pow_pos (by decide)))]
  rw [hv] at h2
  have e1 : c * (2 * q + 1) = 2 * (c * q) + c := by rw [Int.mul_add, Int.mul_left_comm]; omega
  have e2 : c * (2 * q) = 2 * (c * q) := Int.mul_left_comm _ _ _
  constructor
  · intro h
    exact ⟨by simp only; omega, by simp only; rw [e1]; omega, by simp only; omega, by simp only; omega, by simp only; omega⟩
  · intro h
    exact ⟨by simp only; omega, by simp only; rw [e2]; omega, by simp only; omega, by simp only; omega, by simp only; omega⟩
theorem ref01_Over_run (Γ : Env) (M : Nat) (hM : 100 < M) : OverC (run Γ M ref01_Over_f) := by
  intro l c hl0 hl hc0 hc
  obtain ⟨ax, s', ⟨rfl, rfl⟩, hin⟩ : ∃ ax s', (ax = .ex 0 ∧ s' = ⟨[(8, u64 (l / c)), (9, u64 (l % c))], []⟩) ∧ ∀ t, nrm [1, 2, 8, 9, 10] [] t = ⟨[(1, u64 l), (2, u64 c), (8, u64 0), (9, u64 0), (10, i64 (((64 : Nat) : Int) - 1))], []⟩ → lp (exec Γ M ref01_Over_l1) M t = some (ax, s') := by
    refine lp_all (fun t : Nat × Int × Int => ⟨[(1, u64 l), (2, u64 c), (8, u64 t.2.1), (9, u64 t.2.2), (10, i64 ((t.1 : Int) - 1))], []⟩) (OvI l c) (fun t => t.1) _ (64, 0, 0) M (by simp) ⟨by simp, by simp only; omega, by simp, by simp, by simpa using hc0⟩ (by simp only; omega) ?_
    rintro ⟨k, q, r⟩ hk
    have hq := ovi_q hl0 hc0 hk
    rcases k with _ | j
    · obtain ⟨h1, h2, h3, h4, h5⟩ := hk
      simp only [Int.pow_zero, Int.ediv_one] at h2 h3 h4 h5 hq
      have hql : q = l / c ∧ r = l % c := by
        have : l = r + c * q := by omega
        constructor
        · rw [this, Int.add_mul_ediv_left _ _ (by omega), Int.ediv_eq_zero_of_lt h4 h5]; omega
        · rw [this, Int.add_mul_emod_self_left, Int.emod_eq_of_lt h4 h5]
      rw [← hql.1, ← hql.2]
      simp -implicitDefEqProofs (disch := omega)
    · have hst := ovi_step hl0 hc0 hk
      obtain ⟨h1, h2, h3, h4, h5⟩ := hk
      simp only at h1 h3 h4 h5 hq
      clear h2
      have hsh : shfI false .u64 l (j : Int) = some (.int .u64 (l / 2 ^ j)) := by
        unfold shfI
        rw [if_neg (by omega), Int.toNat_natCast, Nat.min_eq_left (by show j ≤ 64; omega)]
        rw [if_neg (by decide), Int.fdiv_eq_ediv_of_nonneg _ (Int.le_of_lt (Int.pow_pos (by decide)))]
      have hw0 : 0 ≤ l / 2 ^ j := Int.ediv_nonneg hl0 (Int.le_of_lt (Int.pow_pos (by decide)))
      have hj : ((j + 1 : Nat) : Int) - 1 = j := by omega
      simp only [hj]
      generalize l / 2 ^ j = w at *
      by_cases hge : c ≤ 2 * r + w % 2
      · have hn := hst.1 hge
        simp -implicitDefEqProofs (disch := omega) [-shfI, hsh, hge]
        exact ⟨j, 2 * q + 1, 2 * r + w % 2 - c, ⟨by simp, by simp, rfl⟩, hn, by omega⟩
      · have hn := hst.2 hge
        simp -implicitDefEqProofs (disch := omega) [-shfI, hsh, hge]
        exact ⟨j, 2 * q, 2 * r + w % 2, ⟨by simp, by simp, rfl⟩, hn, by omega⟩
  have hlp := hin ⟨[(1, u64 l), (2, u64 c), (8, u64 0), (9, u64 0), (10, i64 63)], []⟩ (by simp)
  simp -implicitDefEqProofs (disch := omega) [hlp]
end Go.Am
