/- Small numbers: sums, products, as the program reckons them. -/
import Derived.Test.YtkhbfjmckgddeaaDoorNumCode
import Derived.Test.YtkhbfjmckgddeaaDoorDigits
set_option linter.unusedVariables false
set_option linter.unusedSimpArgs false
set_option maxRecDepth 10000
set_option maxHeartbeats 1000000
namespace Go.Am
theorem and_lo {a : Int} (h : 0 ≤ a) (h2 : a ≤ 18446744073709551615) : bitsK .and .u64 a 4294967295 = a % 4294967296 := by
  obtain ⟨n, rfl⟩ := Int.eq_ofNat_of_zero_le h
  have e : (BitVec.ofInt IntKind.u64.bits (n : Int) &&& BitVec.ofInt IntKind.u64.bits 4294967295).toNat = n % 4294967296 := by
    rw [BitVec.toNat_and]
    have h64 : IntKind.u64.bits = 64 := rfl
    have h1 : (BitVec.ofInt IntKind.u64.bits (n : Int)).toNat = n := by simp only [BitVec.toNat_ofInt, h64]; omega
    have h2 : (BitVec.ofInt IntKind.u64.bits (4294967295 : Int)).toNat = 2 ^ 32 - 1 := by decide
    rw [h1, h2, Nat.and_two_pow_sub_one_eq_mod]
  simp only [bitsK, e, IntKind.wrap_u64]
  omega
theorem shr_lo {a : Int} : shfI false .u64 a 32 = some (.int .u64 (a / 4294967296)) := by
  have : (2 : Int) ^ (min (32 : Int).toNat IntKind.u64.bits) = 4294967296 := by decide
  unfold shfI
  rw [if_neg (by omega), this]
  simp [Int.fdiv_eq_ediv_of_nonneg]
theorem bit_i64 {a : Int} (h : 0 ≤ a) (h2 : a ≤ 9223372036854775807) : (BitVec.ofInt IntKind.i64.bits a).toNat = a.toNat := by
  have h64 : IntKind.i64.bits = 64 := rfl
  simp only [BitVec.toNat_ofInt, h64]; omega
theorem xor_pos {a b : Int} (h : 0 ≤ a) (h2 : a ≤ 9223372036854775807) (h3 : 0 ≤ b) (h4 : b ≤ 9223372036854775807) : 0 ≤ bitsK .xor .i64 a b ∧ bitsK .xor .i64 a b ≤ 9223372036854775807 := by
  have e : (BitVec.ofInt IntKind.i64.bits a ^^^ BitVec.ofInt IntKind.i64.bits b).toNat = a.toNat ^^^ b.toNat := by rw [BitVec.toNat_xor, bit_i64 h h2, bit_i64 h3 h4]
  have hb : a.toNat ^^^ b.toNat < 2 ^ 63 := Nat.xor_lt_two_pow (by omega) (by omega)
  simp only [bitsK, e, IntKind.wrap_i64]
  omega
theorem and_pos {a b : Int} (h : 0 ≤ a) (h2 : a ≤ 9223372036854775807) (h3 : 0 ≤ b) (h4 : b ≤ 9223372036854775807) : 0 ≤ bitsK .and .i64 a b := by
  have e : (BitVec.ofInt IntKind.i64.bits a &&& BitVec.ofInt IntKind.i64.bits b).toNat = a.toNat &&& b.toNat := by rw [BitVec.toNat_and, bit_i64 h h2, bit_i64 h3 h4]
  have hb : a.toNat &&& b.toNat < 2 ^ 63 := Nat.and_lt_two_pow _ (by omega)
  simp only [bitsK, e, IntKind.wrap_i64]
  omega
theorem div_in {l c : Int} (hl0 : 0 ≤ l) (hc0 : 0 < c) : (0 ≤ l / c ∧ l / c ≤ l) ∧ 0 ≤ l % c ∧ l % c < c := ⟨⟨Int.ediv_nonneg hl0 (by omega), Int.ediv_le_self _ hl0⟩, Int.emod_nonneg _ (by omega), Int.emod_lt_of_pos _ hc0⟩
def NSgC (g : List AV → Option (List AV)) : Prop := ∀ n : Int, 0 ≤ n → n ≤ 9007199254740992 → g [u64 n, bo false] = some [i64 n, i64 0]
theorem nums_signed_run (Γ : Env) (M : Nat) : NSgC (run Γ M nums_signed_f) := by
  intro n h1 h2
  simp -implicitDefEqProofs (disch := omega)
def NAddC (g : List AV → Option (List AV)) : Prop := ∀ a b : Int, 0 ≤ a → a ≤ 1099511627776000 → 0 ≤ b → b ≤ 1099511627776000 → g [i64 a, i64 b] = some [i64 (a + b), i64 0]
theorem nums_Add_run (Γ : Env) (M : Nat) : NAddC (run Γ M nums_Add_f) := by
  intro a b h1 h2 h3 h4
  obtain ⟨p1, p2⟩ := xor_pos (a := a) (b := a + b) h1 (by omega) (by omega) (by omega)
  obtain ⟨p3, p4⟩ := xor_pos (a := b) (b := a + b) h3 (by omega) (by omega) (by omega)
  have p5 := and_pos p1 p2 p3 p4
  obtain ⟨x, hx⟩ : ∃ x, bitsK .xor .i64 a (a + b) = x := ⟨_, rfl⟩
  obtain ⟨y, hy⟩ : ∃ y, bitsK .xor .i64 b (a + b) = y := ⟨_, rfl⟩
  obtain ⟨z, hz⟩ : ∃ z, bitsK .and .i64 x y = z := ⟨_, rfl⟩
  rw [hx, hy, hz] at p5
  simp -implicitDefEqProofs (disch := omega) [hx, hy, hz]
def TimesS (g : List AV → Option (List AV)) : Prop := ∀ a b : Int, 0 ≤ a → a ≤ 10000 → 0 ≤ b → b ≤ 10000 → g [u64 a, u64 b] = some [u64 0, u64 (a * b)]
theorem mulS {a b : Int} (h1 : 0 ≤ a) (h2 : a ≤ 10000) (h3 : 0 ≤ b) (h4 : b ≤ 10000) : 0 ≤ a * b ∧ a * b ≤ 100000000 := by
  have h5 : 0 ≤ a * b := Int.mul_nonneg h1 h3
  have h6 : a * b ≤ 10000 * b := Int.mul_le_mul_of_nonneg_right h2 h3
  omega
theorem math_bits_Mul64S_run (Γ : Env) (M : Nat) : TimesS (run Γ M math_bits_Mul64_f) := by
  intro a b h1 h2 h3 h4
  have hm := mulS h1 h2 h3 h4
  have a1 : a / 4294967296 = 0 := by omega
  have a2 : a % 4294967296 = a := by omega
  have b1 : b / 4294967296 = 0 := by omega
  have b2 : b % 4294967296 = b := by omega
  have p1 : a * b / 4294967296 = 0 := by omega
  have p2 : a * b % 4294967296 = a * b := by omega
  have e3 := @shr_lo
  have e4 : (∀ x : Int, 0 ≤ x → x ≤ 18446744073709551615 → bitsK .and .u64 x 4294967295 = x % 4294967296) := fun x h h2 => and_lo h h2
  simp -implicitDefEqProofs (disch := omega) [-shfI, e3, e4, a1, a2, b1, b2, p1, p2]
def NMulS (g : List AV → Option (List AV)) : Prop := ∀ a b : Int, 0 ≤ a → a ≤ 10000 → 0 ≤ b → b ≤ 10000 → g [i64 a, i64 b] = some [i64 (a * b), i64 0]
theorem nums_MulS_run {Γ : Env} {M : Nat} (h1 : TimesS (Γ 394)) (h2 : Size (Γ 81)) (h3 : NSgC (Γ 393)) : NMulS (run Γ M nums_Mul_f) := by
  intro a b ha0 ha hb0 hb
  have e1 := h2 a ⟨by omega, by omega⟩
  have e2 := h2 b ⟨by omega, by omega⟩
  simp only [sizeOfI, show ¬ a < 0 by omega, show ¬ b < 0 by omega, if_false] at e1 e2
  have e3 := h1 a b ha0 ha hb0 hb
  have hm := mulS ha0 ha hb0 hb
  have e4 := h3 (a * b) hm.1 (by omega)
  have ha1 : ¬ a < 0 := by omega
  have hb1 : ¬ b < 0 := by omega
  simp -implicitDefEqProofs (disch := omega) [e1, e2, e3, e4, ha1, hb1]
end Go.Am
