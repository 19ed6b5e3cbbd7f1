import Derived.Test.YtkdnbfmlpklkhaaGreatDoorCA
import Derived.Test.YtkdnbfmlpklkhaaGreatDoorK
import Derived.Test.YtkdnbfmlpklkhaaGreatDoorAs
import Derived.Shelf.Sort.Plain
import Derived.Shelf.Slices.In.SortNone
import Derived.Shelf.Strings.SplitShaped
import Derived.Shelf.Strings.OnBuilder
import Derived.Ground.NamesProg
import Derived.Test.YtkdnbfmlpklkhaaGreatDoorProg
import Derived.Test.YtkdnbfmlpklkhaaGreatDoorAl
set_option maxHeartbeats 2000000
set_option maxRecDepth 10000
set_option linter.unusedVariables false
set_option linter.unusedSimpArgs false
namespace Go.Am
def dig2 (m : Int) : List UInt8 := [dg (m / 10), dg (m % 10)]
theorem dig_small {n : Int} (h0 : 0 ≤ n) (h : n < 10) : dig n = [dg n] := by
 unfold dig; rw [show (20 : Nat) = 19 + 1 from rfl, digF, if_pos h]
theorem dig_step {n : Int} (h : 10 ≤ n) (h2 : n ≤ 9223372036854775807) : dig n = dig (n / 10) ++ [dg (n % 10)] := by
 have e : digF 20 (n / 10) = digF 19 (n / 10) := digF_more 19 1 (n / 10) ⟨by omega, by omega, by omega⟩ (by omega)
 have e2 : dig n = digF 19 (n / 10) ++ [dg (n % 10)] := by
  unfold dig; rw [show (20 : Nat) = 19 + 1 from rfl, digF, if_neg (by omega)]
 rw [e2, ← e]; rfl
theorem dig_two {n : Int} (h0 : 10 ≤ n) (h : n < 100) : dig n = dig2 n := by
 rw [dig_step h0 (by omega), dig_small (by omega) (by omega)]; rfl
theorem dig_pos (n : Int) (h0 : 0 ≤ n) (h2 : n ≤ 9223372036854775807) : 1 ≤ (dig n).length := by
 by_cases h : n < 10
 ·rw [dig_small h0 h]; simp
 ·rw [dig_step (by omega) h2]; simp
theorem dig_hund {n : Int} (h : 100 ≤ n) (h2 : n ≤ 9223372036854775807) : dig n = dig (n / 100) ++ dig2 (n % 100) := by
 rw [dig_step (by omega) h2, dig_step (n := n / 10) (by omega) (by omega)]
 unfold dig2
 rw [show n / 10 / 10 = n / 100 by omega, show n / 10 % 10 = n % 100 / 10 by omega, show n % 10 = n % 100 % 10 by omega]
 simp
theorem dig_nine {n : Int} (h0 : 0 ≤ n) (h : n < 10) : 48 :: dig n = dig2 n := by
 rw [dig_small h0 h]; unfold dig2; rw [show n / 10 = 0 by omega, show n % 10 = n by omega]; rfl
theorem dig_len_le {n : Int} {k : Nat} (h0 : 0 ≤ n) (h : n < 10 ^ k) (hk : 0 < k) (hk2 : k ≤ 18) (hm : n ≤ 9223372036854775807) : (dig n).length ≤ k := by
 have e : digF (k + (20 - k)) n = digF k n := digF_more k (20 - k) n ⟨h0, h, by omega⟩ hk
 rw [show k + (20 - k) = 20 by omega] at e
 unfold dig
 rw [e]
 exact digF_len k n
def fixT (n : Int) : List UInt8 := dig (n / 100) ++ [46] ++ dig2 (n % 100)
def pad3 (n : Int) : List UInt8 := dig (n / 100) ++ dig2 (n % 100)
theorem pad3_hund {n : Int} (h : 100 ≤ n) (h2 : n ≤ 9223372036854775807) : dig n = pad3 n := dig_hund h h2
theorem pad3_two {n : Int} (h0 : 10 ≤ n) (h : n < 100) : 48 :: dig n = pad3 n := by
 rw [dig_two h0 h]; unfold pad3; rw [show n / 100 = 0 by omega, show n % 100 = n by omega, dig_small (by omega) (by omega)]; rfl
theorem pad3_nine {n : Int} (h0 : 0 ≤ n) (h : n < 10) : 48 :: 48 :: dig n = pad3 n := by
 rw [dig_nine h0 h]; unfold pad3; rw [show n / 100 = 0 by omega, show n % 100 = n by omega, dig_small (by omega) (by omega)]; rfl
def dayT (t : Int) : List UInt8 := dig2 (t / 3600 % 24) ++ [58] ++ dig2 (t / 60 % 60) ++ [58] ++ dig2 (t % 60)
def clkT (t : Int) : List UInt8 := if 86400 ≤ t then dig (t / 86400) ++ [100] ++ dayT t else dayT t
def hundT (w i : Int) : Int := 100 * (w / i) + 100 * (w % i) / i
def meanT (w i : Int) : List UInt8 := if 0 < i then fixT (hundT w i) else [45]
theorem hundT_in {w i : Int} (hw0 : 0 ≤ w) (hi0 : 0 < i) : 0 ≤ hundT w i ∧ hundT w i ≤ 100 * w + 100 := by
 unfold hundT
 have h1 : 0 ≤ w / i := Int.ediv_nonneg hw0 (by omega)
 have h2 : 0 ≤ w % i := Int.emod_nonneg _ (by omega)
 have h3 : w % i < i := Int.emod_lt_of_pos _ hi0
 have h4 : 0 ≤ 100 * (w % i) / i := Int.ediv_nonneg (by omega) (by omega)
 have h5 : 100 * (w % i) / i < 100 := Int.ediv_lt_of_lt_mul hi0 (by omega)
 have h6 : w / i ≤ w := Int.ediv_le_self _ hw0
 omega
theorem over_step {v b c : Int} (hc : 0 < c) (hb0 : 0 ≤ b) (hb1 : b < 2) :
  (2 * (v % c) + b < c → (2 * v + b) / c = 2 * (v / c) ∧ (2 * v + b) % c = 2 * (v % c) + b) ∧
  (c ≤ 2 * (v % c) + b → (2 * v + b) / c = 2 * (v / c) + 1 ∧ (2 * v + b) % c = 2 * (v % c) + b - c) := by
 have h2 : 0 ≤ v % c := Int.emod_nonneg _ (by omega)
 have h3 : v % c < c := Int.emod_lt_of_pos _ hc
 have h4 : c * (v / c) + v % c = v := Int.mul_ediv_add_emod v c
 constructor
 ·intro h
  have e : 2 * v + b = (2 * (v % c) + b) + c * (2 * (v / c)) := by
   rw [show c * (2 * (v / c)) = 2 * (c * (v / c)) by rw [Int.mul_left_comm]]; omega
  rw [e, Int.add_mul_ediv_left _ _ (by omega), Int.add_mul_emod_self_left]
  rw [Int.ediv_eq_zero_of_lt (by omega) h, Int.emod_eq_of_lt (by omega) h]
  omega
 ·intro h
  have e : 2 * v + b = (2 * (v % c) + b - c) + c * (2 * (v / c) + 1) := by
   rw [Int.mul_add, show c * (2 * (v / c)) = 2 * (c * (v / c)) by rw [Int.mul_left_comm]]; omega
  rw [e, Int.add_mul_ediv_left _ _ (by omega), Int.add_mul_emod_self_left]
  rw [Int.ediv_eq_zero_of_lt (by omega) (by omega), Int.emod_eq_of_lt (by omega) (by omega)]
  omega
end Go.Am
namespace Go.Am
theorem and_lo {a : Int} (h : 0 ≤ a) (h2 : a ≤ 18446744073709551615) : bitsK .and .u64 a 4294967295 = a % 4294967296 := by
 obtain ⟨n, rfl⟩ := Int.eq_ofNat_of_zero_le h
 have e : (BitVec.ofInt IntKind.u64.bits (n : Int) &&& BitVec.ofInt IntKind.u64.bits 4294967295).toNat = n % 4294967296 := by
  rw [BitVec.toNat_and]
  have h64 : IntKind.u64.bits = 64 := rfl
  have h1 : (BitVec.ofInt IntKind.u64.bits (n : Int)).toNat = n := by simp only [BitVec.toNat_ofInt, h64]; omega
  have h2 : (BitVec.ofInt IntKind.u64.bits (4294967295 : Int)).toNat = 2 ^ 32 - 1 := by decide
  rw [h1, h2, Nat.and_two_pow_sub_one_eq_mod]
 simp only [bitsK, e, IntKind.wrap_u64]
 omega
theorem shr_lo {a : Int} : shfI false .u64 a 32 = some (.int .u64 (a / 4294967296)) := by
 have : (2 : Int) ^ (min (32 : Int).toNat IntKind.u64.bits) = 4294967296 := by decide
 unfold shfI
 rw [if_neg (by omega), this]
 simp [Int.fdiv_eq_ediv_of_nonneg]
theorem bit_i64 {a : Int} (h : 0 ≤ a) (h2 : a ≤ 9223372036854775807) : (BitVec.ofInt IntKind.i64.bits a).toNat = a.toNat := by
 have h64 : IntKind.i64.bits = 64 := rfl
 simp only [BitVec.toNat_ofInt, h64]; omega
theorem xor_pos {a b : Int} (h : 0 ≤ a) (h2 : a ≤ 9223372036854775807) (h3 : 0 ≤ b) (h4 : b ≤ 9223372036854775807) : 0 ≤ bitsK .xor .i64 a b ∧ bitsK .xor .i64 a b ≤ 9223372036854775807 := by
 have e : (BitVec.ofInt IntKind.i64.bits a ^^^ BitVec.ofInt IntKind.i64.bits b).toNat = a.toNat ^^^ b.toNat := by rw [BitVec.toNat_xor, bit_i64 h h2, bit_i64 h3 h4]
 have hb : a.toNat ^^^ b.toNat < 2 ^ 63 := Nat.xor_lt_two_pow (by omega) (by omega)
 simp only [bitsK, e, IntKind.wrap_i64]
 omega
theorem and_pos {a b : Int} (h : 0 ≤ a) (h2 : a ≤ 9223372036854775807) (h3 : 0 ≤ b) (h4 : b ≤ 9223372036854775807) : 0 ≤ bitsK .and .i64 a b := by
 have e : (BitVec.ofInt IntKind.i64.bits a &&& BitVec.ofInt IntKind.i64.bits b).toNat = a.toNat &&& b.toNat := by rw [BitVec.toNat_and, bit_i64 h h2, bit_i64 h3 h4]
 have hb : a.toNat &&& b.toNat < 2 ^ 63 := Nat.and_lt_two_pow _ (by omega)
 simp only [bitsK, e, IntKind.wrap_i64]
 omega
def TimesC (g : List AV → Option (List AV)) : Prop := ∀ a : Int, 0 ≤ a → a ≤ 1099511627776 → g [u64 a, u64 100] = some [u64 0, u64 (100 * a)]
theorem ref01_Times_run (Γ : Env) (M : Nat) : TimesC (run Γ M ref01_Times_f) := by
 intro a h1 h2
 simp -implicitDefEqProofs (disch := omega)
 omega
theorem math_bits_Mul64_run (Γ : Env) (M : Nat) : TimesC (run Γ M math_bits_Mul64_f) := by
 intro a h1 h2
 have e1 := and_lo (a := a) h1 (by omega)
 have e2 : bitsK .and .u64 100 4294967295 = 100 := by decide
 have e3 := @shr_lo
 have e4 : (∀ x : Int, 0 ≤ x → x ≤ 18446744073709551615 → bitsK .and .u64 x 4294967295 = x % 4294967296) := fun x h h2 => and_lo h h2
 simp -implicitDefEqProofs (disch := omega) [-shfI, e1, e2, e3, e4]
 omega
def OverC (g : List AV → Option (List AV)) : Prop := ∀ l c : Int, 0 ≤ l → l ≤ 1099511627776000 → 0 < c → c ≤ 1099511627776 → g [u64 0, u64 l, u64 c] = some [u64 (l / c), u64 (l % c)]
structure OvI (l c : Int) (t : Nat × Int × Int) : Prop where
 k : t.1 ≤ 64
 eq : c * t.2.1 + t.2.2 = l / 2 ^ t.1
 q0 : 0 ≤ t.2.1
 r0 : 0 ≤ t.2.2
 rc : t.2.2 < c
theorem ovi_q {l c : Int} {t : Nat × Int × Int} (hl0 : 0 ≤ l) (hc0 : 0 < c) (h : OvI l c t) : t.2.1 ≤ l := by
 have h1 : l / 2 ^ t.1 ≤ l := Int.ediv_le_self _ hl0
 have h2 := h.eq
 have h3 := h.r0
 have h4 : 1 * t.2.1 ≤ c * t.2.1 := Int.mul_le_mul_of_nonneg_right (by omega) h.q0
 omega
theorem ovi_step {l c : Int} {j : Nat} {q r : Int} (hl0 : 0 ≤ l) (hc0 : 0 < c) (h : OvI l c (j + 1, q, r)) :
  (c ≤ 2 * r + l / 2 ^ j % 2 → OvI l c (j, 2 * q + 1, 2 * r + l / 2 ^ j % 2 - c)) ∧ (¬ c ≤ 2 * r + l / 2 ^ j % 2 → OvI l c (j, 2 * q, 2 * r + l / 2 ^ j % 2)) := by
 obtain ⟨h1, h2, h3, h4, h5⟩ := h
 simp only at h1 h2 h3 h4 h5
 have hv : l / 2 ^ (j + 1) = l / 2 ^ j / 2 := by rw [Int.pow_succ, Int.ediv_ediv_of_nonneg (by exact Int.le_of_lt (Int.pow_pos (by decide)))]
 rw [hv] at h2
 have e1 : c * (2 * q + 1) = 2 * (c * q) + c := by rw [Int.mul_add, Int.mul_left_comm]; omega
 have e2 : c * (2 * q) = 2 * (c * q) := Int.mul_left_comm _ _ _
 constructor
 ·intro h
  exact ⟨by simp only; omega, by simp only; rw [e1]; omega, by simp only; omega, by simp only; omega, by simp only; omega⟩
 ·intro h
  exact ⟨by simp only; omega, by simp only; rw [e2]; omega, by simp only; omega, by simp only; omega, by simp only; omega⟩
theorem ref01_Over_run (Γ : Env) (M : Nat) (hM : 100 < M) : OverC (run Γ M ref01_Over_f) := by
 intro l c hl0 hl hc0 hc
 obtain ⟨ax, s', ⟨rfl, rfl⟩, hin⟩ : ∃ ax s', (ax = .ex 0 ∧ s' = ⟨[(8, u64 (l / c)), (9, u64 (l % c))], []⟩) ∧ ∀ t, nrm [1, 2, 8, 9, 10] [] t = ⟨[(1, u64 l), (2, u64 c), (8, u64 0), (9, u64 0), (10, i64 (((64 : Nat) : Int) - 1))], []⟩ → lp (exec Γ M ref01_Over_l1) M t = some (ax, s') := by
  refine lp_all (fun t : Nat × Int × Int => ⟨[(1, u64 l), (2, u64 c), (8, u64 t.2.1), (9, u64 t.2.2), (10, i64 ((t.1 : Int) - 1))], []⟩) (OvI l c) (fun t => t.1) _ (64, 0, 0) M (by simp) ⟨by simp, by simp only; omega, by simp, by simp, by simpa using hc0⟩ (by simp only; omega) ?_
  rintro ⟨k, q, r⟩ hk
  have hq := ovi_q hl0 hc0 hk
  rcases k with _ | j
  ·obtain ⟨h1, h2, h3, h4, h5⟩ := hk
   simp only [Int.pow_zero, Int.ediv_one] at h2 h3 h4 h5 hq
   have hql : q = l / c ∧ r = l % c := by
    have : l = r + c * q := by omega
    constructor
    ·rw [this, Int.add_mul_ediv_left _ _ (by omega), Int.ediv_eq_zero_of_lt h4 h5]; omega
    ·rw [this, Int.add_mul_emod_self_left, Int.emod_eq_of_lt h4 h5]
   rw [← hql.1, ← hql.2]
   simp -implicitDefEqProofs (disch := omega)
  ·have hst := ovi_step hl0 hc0 hk
   obtain ⟨h1, h2, h3, h4, h5⟩ := hk
   simp only at h1 h3 h4 h5 hq
   clear h2
   have hsh : shfI false .u64 l (j : Int) = some (.int .u64 (l / 2 ^ j)) := by
    unfold shfI
    rw [if_neg (by omega), Int.toNat_natCast, Nat.min_eq_left (by show j ≤ 64; omega)]
    rw [if_neg (by decide), Int.fdiv_eq_ediv_of_nonneg _ (Int.le_of_lt (Int.pow_pos (by decide)))]
   have hw0 : 0 ≤ l / 2 ^ j := Int.ediv_nonneg hl0 (Int.le_of_lt (Int.pow_pos (by decide)))
   have hj : ((j + 1 : Nat) : Int) - 1 = j := by omega
   simp only [hj]
   generalize l / 2 ^ j = w at *
   by_cases hge : c ≤ 2 * r + w % 2
   ·have hn := hst.1 hge
    simp -implicitDefEqProofs (disch := omega) [-shfI, hsh, hge]
    exact ⟨j, 2 * q + 1, 2 * r + w % 2 - c, ⟨by simp, by simp, rfl⟩, hn, by omega⟩
   ·have hn := hst.2 hge
    simp -implicitDefEqProofs (disch := omega) [-shfI, hsh, hge]
    exact ⟨j, 2 * q, 2 * r + w % 2, ⟨by simp, by simp, rfl⟩, hn, by omega⟩
 have hlp := hin ⟨[(1, u64 l), (2, u64 c), (8, u64 0), (9, u64 0), (10, i64 63)], []⟩ (by simp)
 simp -implicitDefEqProofs (disch := omega) [hlp]
end Go.Am
namespace Go.Am
def DivC (g : List AV → Option (List AV)) : Prop := ∀ l c : Int, 0 ≤ l → l ≤ 1099511627776000 → 0 < c → c ≤ 1099511627776 → g [u64 0, u64 l, u64 c] = some [u64 (l / c), u64 (l % c)]
theorem div_in {l c : Int} (hl0 : 0 ≤ l) (hc0 : 0 < c) : (0 ≤ l / c ∧ l / c ≤ l) ∧ 0 ≤ l % c ∧ l % c < c := ⟨⟨Int.ediv_nonneg hl0 (by omega), Int.ediv_le_self _ hl0⟩, Int.emod_nonneg _ (by omega), Int.emod_lt_of_pos _ hc0⟩
theorem math_bits_Div64_run (Γ : Env) (M : Nat) : DivC (run Γ M math_bits_Div64_f) := by
 intro l c hl0 hl hc0 hc
 obtain ⟨⟨h1, h2⟩, h3, h4⟩ := div_in hl0 hc0
 have hc1 : ¬ c = 0 := by omega
 have hc2 : ¬ c ≤ 0 := by omega
 simp -implicitDefEqProofs (disch := omega) [hc1, hc2]
def NSgC (g : List AV → Option (List AV)) : Prop := ∀ n : Int, 0 ≤ n → n ≤ 9007199254740992 → g [u64 n, bo false] = some [i64 n, i64 0]
theorem nums_signed_run (Γ : Env) (M : Nat) : NSgC (run Γ M nums_signed_f) := by
 intro n h1 h2
 simp -implicitDefEqProofs (disch := omega)
def RSgC (g : List AV → Option (List AV)) : Prop := ∀ n : Int, 0 ≤ n → n ≤ 9007199254740992 → g [u64 n, bo false] = some [i64 n, bo true]
theorem ref01_signed_run (Γ : Env) (M : Nat) : RSgC (run Γ M ref01_signed_f) := by
 intro n h1 h2
 have h3 : ¬ n = 9223372036854775808 := by omega
 simp -implicitDefEqProofs (disch := omega) [h3]
def NMulC (g : List AV → Option (List AV)) : Prop := ∀ a : Int, 0 ≤ a → a ≤ 1099511627776 → g [i64 a, i64 100] = some [i64 (100 * a), i64 0]
def RMulC (g : List AV → Option (List AV)) : Prop := ∀ a : Int, 0 ≤ a → a ≤ 1099511627776 → g [i64 a, i64 100] = some [i64 (100 * a), bo true]
theorem nums_Mul_run {Γ : Env} {M : Nat} (h1 : TimesC (Γ 394)) (h2 : Size (Γ 81)) (h3 : NSgC (Γ 393)) : NMulC (run Γ M nums_Mul_f) := by
 intro a h0 h
 have e1 := h2 a ⟨by omega, by omega⟩
 have e2 := h2 100 ⟨by omega, by omega⟩
 simp only [sizeOfI, show ¬ a < 0 by omega, if_false] at e1
 simp only [sizeOfI, show ¬ (100 : Int) < 0 by omega, if_false] at e2
 have e3 := h1 a h0 h
 have e4 := h3 (100 * a) (by omega) (by omega)
 simp -implicitDefEqProofs (disch := omega) [e1, e2, e3, e4]
theorem ref01_Mul_run {Γ : Env} {M : Nat} (h1 : TimesC (Γ 378)) (h2 : Size (Γ 74)) (h3 : RSgC (Γ 383)) : RMulC (run Γ M ref01_Mul_f) := by
 intro a h0 h
 have e1 := h2 a ⟨by omega, by omega⟩
 have e2 := h2 100 ⟨by omega, by omega⟩
 simp only [sizeOfI, show ¬ a < 0 by omega, if_false] at e1
 simp only [sizeOfI, show ¬ (100 : Int) < 0 by omega, if_false] at e2
 have e3 := h1 a h0 h
 have e4 := h3 (100 * a) (by omega) (by omega)
 simp -implicitDefEqProofs (disch := omega) [e1, e2, e3, e4]
def NAddC (g : List AV → Option (List AV)) : Prop := ∀ a b : Int, 0 ≤ a → a ≤ 1099511627776000 → 0 ≤ b → b ≤ 1099511627776000 → g [i64 a, i64 b] = some [i64 (a + b), i64 0]
def RAddC (g : List AV → Option (List AV)) : Prop := ∀ a b : Int, 0 ≤ a → a ≤ 1099511627776000 → 0 ≤ b → b ≤ 1099511627776000 → g [i64 a, i64 b] = some [i64 (a + b), bo true]
theorem nums_Add_run (Γ : Env) (M : Nat) : NAddC (run Γ M nums_Add_f) := by
 intro a b h1 h2 h3 h4
 obtain ⟨p1, p2⟩ := xor_pos (a := a) (b := a + b) h1 (by omega) (by omega) (by omega)
 obtain ⟨p3, p4⟩ := xor_pos (a := b) (b := a + b) h3 (by omega) (by omega) (by omega)
 have p5 := and_pos p1 p2 p3 p4
 obtain ⟨x, hx⟩ : ∃ x, bitsK .xor .i64 a (a + b) = x := ⟨_, rfl⟩
 obtain ⟨y, hy⟩ : ∃ y, bitsK .xor .i64 b (a + b) = y := ⟨_, rfl⟩
 obtain ⟨z, hz⟩ : ∃ z, bitsK .and .i64 x y = z := ⟨_, rfl⟩
 rw [hx, hy, hz] at p5
 simp -implicitDefEqProofs (disch := omega) [hx, hy, hz]
theorem ref01_Add_run (Γ : Env) (M : Nat) : RAddC (run Γ M ref01_Add_f) := by
 intro a b h1 h2 h3 h4
 simp -implicitDefEqProofs (disch := omega)
def MulDivC (g : List AV → Option (List AV)) : Prop := ∀ r c : Int, 0 ≤ r → r ≤ 1099511627776 → 0 < c → c ≤ 1099511627776 → g [i64 r, i64 100, i64 c] = some [i64 (100 * r / c), i64 0]
theorem nums_MulDiv_run {Γ : Env} {M : Nat} (h1 : TimesC (Γ 394)) (h2 : DivC (Γ 395)) (h3 : NSgC (Γ 393)) : MulDivC (run Γ M nums_MulDiv_f) := by
 intro r c hr0 hr hc0 hc
 obtain ⟨⟨p1, p2⟩, p3, p4⟩ := div_in (l := 100 * r) (c := c) (by omega) hc0
 have e1 := h1 r hr0 hr
 have e2 := h2 (100 * r) c (by omega) (by omega) hc0 hc
 have e3 := h3 (100 * r / c) (by omega) (by omega)
 have hc1 : ¬ c = 0 := by omega
 have hc2 : ¬ c ≤ 0 := by omega
 simp -implicitDefEqProofs (disch := omega) [e1, e2, e3, hc1, hc2]
def fracD (w r b : Int) : List D := [.int .i64 w, .int .i64 r, .int .i64 b]
abbrev RightC (g : List AV → Option (List AV)) : Prop := ∀ w r b : Int, 0 ≤ w → 0 ≤ r → r < b → g [.agg (fracD w r b)] = some [bo true]
theorem frac_Right_run (Γ : Env) (M : Nat) : RightC (run Γ M frac_Right_f) := by
 intro w r b h1 h2 h3
 simp -implicitDefEqProofs (disch := omega) [fracD]
theorem ref08_Right_run (Γ : Env) (M : Nat) : RightC (run Γ M ref08_Right_f) := by
 intro w r b h1 h2 h3
 simp -implicitDefEqProofs (disch := omega) [fracD]
def HundC (g : List AV → Option (List AV)) : Prop := ∀ w r b : Int, 0 ≤ w → w ≤ 1099511627776 → 0 ≤ r → r < b → b ≤ 1099511627776 → g [.agg (fracD w r b)] = some [i64 (100 * w + 100 * r / b), i64 0]
theorem hund_in {r b : Int} (h0 : 0 ≤ r) (h : r < b) : 0 ≤ 100 * r / b ∧ 100 * r / b < 100 := ⟨Int.ediv_nonneg (by omega) (by omega), Int.ediv_lt_of_lt_mul (by omega) (by omega)⟩
theorem frac_Hundredths_run {Γ : Env} {M : Nat} (h1 : RightC (Γ 392)) (h2 : NMulC (Γ 391)) (h3 : MulDivC (Γ 390)) (h4 : NAddC (Γ 389)) : HundC (run Γ M frac_Hundredths_f) := by
 intro w r b hw0 hw hr0 hr hb
 obtain ⟨p1, p2⟩ := hund_in hr0 hr
 have e1 := h1 w r b hw0 hr0 hr
 have e2 := h2 w hw0 hw
 have e3 := h3 r b hr0 (by omega) (by omega) hb
 have e4 := h4 (100 * w) (100 * r / b) (by omega) (by omega) p1 (by omega)
 simp only [fracD] at e1
 generalize 100 * r / b = q at *
 simp -implicitDefEqProofs (disch := omega) [fracD, e1, e2, e3, e4]
theorem ref08_Hundredths_run {Γ : Env} {M : Nat} (h1 : RightC (Γ 379)) (h2 : TimesC (Γ 378)) (h3 : OverC (Γ 377)) (h4 : RMulC (Γ 376)) (h5 : RAddC (Γ 375)) : HundC (run Γ M ref08_Hundredths_f) := by
 intro w r b hw0 hw hr0 hr hb
 obtain ⟨p1, p2⟩ := hund_in hr0 hr
 have e1 := h1 w r b hw0 hr0 hr
 have e2 := h2 r hr0 (by omega)
 have e3 := h3 (100 * r) b (by omega) (by omega) (by omega) hb
 have e4 := h4 w hw0 hw
 have e5 := h5 (100 * w) (100 * r / b) (by omega) (by omega) p1 (by omega)
 simp only [fracD] at e1
 generalize 100 * r / b = q at *
 generalize 100 * r % b = q2 at *
 simp -implicitDefEqProofs (disch := omega) [fracD, e1, e2, e3, e4, e5]
def FracOfC (g : List AV → Option (List AV)) : Prop := ∀ n b : Int, 0 ≤ n → n ≤ 1099511627776 → 0 ≤ b → b ≤ 1099511627776 → g [i64 n, i64 b] = some (if b = 0 then [.agg (fracD 0 0 0), i64 11] else [.agg (fracD (n / b) (n % b) b), i64 0])
theorem frac_Of_run (Γ : Env) (M : Nat) : FracOfC (run Γ M frac_Of_f) := by
 intro n b h1 h2 h3 h4
 by_cases hb : b = 0
 ·simp -implicitDefEqProofs (disch := omega) [fracD, hb]
 ·obtain ⟨⟨p1, p2⟩, p3, p4⟩ := div_in (l := n) (c := b) h1 (by omega)
  simp -implicitDefEqProofs (disch := omega) [fracD, hb]
def FixC (g : List AV → Option (List AV)) : Prop := ∀ n : Int, 0 ≤ n → n ≤ 1099511627776000 → g [i64 n, i64 2] = some [st (fixT n)]
theorem dig_reps {n : Int} (h0 : 0 ≤ n) (h : n ≤ 1099511627776000) : List.replicate (3 - (dig n).length) 48 ++ dig n = pad3 n := by
 by_cases h1 : n < 10
 ·rw [← pad3_nine h0 h1]; rw [dig_small h0 h1]; rfl
 ·by_cases h2 : n < 100
  ·rw [← pad3_two (by omega) h2, dig_two (by omega) h2]; rfl
  ·have e := pad3_hund (n := n) (by omega) (by omega)
   have hl : 3 ≤ (dig n).length := by
    have := dig_pos (n / 100) (by omega) (by omega)
    rw [e]; unfold pad3 dig2; simp; omega
   rw [show 3 - (dig n).length = 0 by omega]
   simpa using e
theorem digits_Fixed_run {Γ : Env} {M : Nat} (hM : 100 < M) (h1 : Digits_plain (Γ 80)) (h2 : Size (Γ 81)) : FixC (run Γ M digits_Fixed_f) := by
 intro n h0 h
 have e1 := h2 n ⟨by omega, by omega⟩
 simp only [sizeOfI, show ¬ n < 0 by omega, if_false] at e1
 have e2 := h1 n ⟨by omega, by omega⟩
 have hrep := dig_reps h0 h
 have hlen := dig_len n
 have hms : (1000 : Nat) ≤ maxStr := by decide
 obtain ⟨D, hD⟩ : ∃ D, dig n = D := ⟨_, rfl⟩
 rw [hD] at hrep hlen e2
 obtain ⟨ax, s', ⟨rfl, rfl⟩, hin⟩ : ∃ ax s', (ax = .ex 0 ∧ s' = ⟨[(0, i64 n), (1, i64 2), (5, st (pad3 n))], []⟩) ∧ ∀ t, nrm [0, 1, 5] [] t = ⟨[(0, i64 n), (1, i64 2), (5, st (List.replicate 0 48 ++ D))], []⟩ → lp (exec Γ M digits_Fixed_l1) M t = some (ax, s') := by
  refine lp_all (fun k : Nat => ⟨[(0, i64 n), (1, i64 2), (5, st (List.replicate k 48 ++ D))], []⟩) (fun k => k ≤ 3 - D.length) (fun k => 3 - D.length - k) _ 0 M (by simp) (by omega) (by omega) ?_
  intro k hk
  by_cases hlt : k < 3 - D.length
  ·have hs : List.replicate (k + 1) (48 : UInt8) ++ D = 48 :: (List.replicate k 48 ++ D) := by rw [List.replicate_succ]; rfl
   have hlk : (List.replicate k (48 : UInt8) ++ D).length = k + D.length := by simp
   generalize List.replicate k (48 : UInt8) ++ D = R at *
   simp -implicitDefEqProofs (disch := first | omega | ((try simp only [List.length_append, List.length_cons, List.length_nil, maxStr_eq]); omega) | assumption) [binS_add, hlk]
   exact ⟨k + 1, hs.symm, by omega, by omega⟩
  ·obtain rfl : k = 3 - D.length := by omega
   have hlk : (List.replicate (3 - D.length) (48 : UInt8) ++ D).length = (3 - D.length) + D.length := by simp
   rw [hrep] at hlk ⊢
   generalize pad3 n = R at *
   simp -implicitDefEqProofs (disch := first | omega | assumption) [hlk]
 have hlp := hin ⟨[(0, i64 n), (1, i64 2), (5, st D)], []⟩ (by simp)
 have hp : (pad3 n).length = (dig (n / 100)).length + 2 := by unfold pad3 dig2; simp
 have hl2 := dig_len (n / 100)
 have ht : (pad3 n).take (dig (n / 100)).length = dig (n / 100) := by unfold pad3; exact List.take_left
 have hd : (pad3 n).drop (dig (n / 100)).length = dig2 (n % 100) := by unfold pad3; exact List.drop_left
 have hl3 : (dig2 (n % 100)).length = 2 := rfl
 have hB : (dig2 (n % 100)).take 2 = dig2 (n % 100) := rfl
 unfold fixT
 generalize pad3 n = P at *
 generalize dig (n / 100) = A at *
 generalize dig2 (n % 100) = B at *
 simp -implicitDefEqProofs (disch := first | omega | ((try simp only [List.length_append, List.length_cons, List.length_nil, maxStr_eq]); omega) | assumption) [e1, e2, hlp, binS_add, hp, ht, hd, hB]
theorem ref02_Fixed_run {Γ : Env} {M : Nat} (hM : 100 < M) (h1 : Ref02_plain 20 (Γ 73)) (h2 : Size (Γ 74)) : FixC (run Γ M ref02_Fixed_f) := by
 intro n h0 h
 have e1 := h2 n ⟨by omega, by omega⟩
 simp only [sizeOfI, show ¬ n < 0 by omega, if_false] at e1
 have e2 := h1 (n / 100) (InU64.dec ⟨by omega, by omega⟩)
 have e3 := h1 (n % 100) (InU64.dec ⟨by omega, by omega⟩)
 simp only [show ∀ x, digF 20 x = dig x from fun _ => rfl] at e2 e3
 have hlen := dig_len (n / 100)
 have hms : (1000 : Nat) ≤ maxStr := by decide
 have hlp1 : lp (exec Γ M ref02_Fixed_l2) M ⟨[(0, i64 n), (1, i64 2), (5, u64 1), (6, i64 0)], []⟩ = some (.ex 0, ⟨[(0, i64 n), (1, i64 2), (5, u64 100)], []⟩) := by
  obtain ⟨ax, s', ⟨rfl, rfl⟩, hin⟩ : ∃ ax s', (ax = .ex 0 ∧ s' = ⟨[(0, i64 n), (1, i64 2), (5, u64 100)], []⟩) ∧ ∀ t, nrm [0, 1, 5, 6] [] t = ⟨[(0, i64 n), (1, i64 2), (5, u64 (10 ^ 0)), (6, i64 (0 : Nat))], []⟩ → lp (exec Γ M ref02_Fixed_l2) M t = some (ax, s') := by
   refine lp_all (fun k : Nat => ⟨[(0, i64 n), (1, i64 2), (5, u64 (10 ^ k)), (6, i64 k)], []⟩) (fun k => k ≤ 2) (fun k => 2 - k) _ 0 M (by simp) (by omega) (by omega) ?_
   intro k hk
   rcases k with _ | _ | k
   ·simp -implicitDefEqProofs (disch := omega)
    exact ⟨1, by simp, by omega, by omega⟩
   ·simp -implicitDefEqProofs (disch := omega)
    exact ⟨2, by simp, by omega, by omega⟩
   ·obtain rfl : k = 0 := by omega
    simp -implicitDefEqProofs (disch := omega)
  exact hin _ (by simp)
 have hrep : List.replicate (2 - (dig (n % 100)).length) 48 ++ dig (n % 100) = dig2 (n % 100) := by
  by_cases h10 : n % 100 < 10
  ·rw [← dig_nine (by omega) h10, dig_small (by omega) h10]; rfl
  ·rw [dig_two (by omega) (by omega)]; rfl
 obtain ⟨D, hD⟩ : ∃ D, dig (n % 100) = D := ⟨_, rfl⟩
 obtain ⟨A, hA⟩ : ∃ A, dig (n / 100) = A := ⟨_, rfl⟩
 have hl3 : (dig2 (n % 100)).length = 2 := rfl
 unfold fixT
 rw [hD] at e3 hrep
 rw [hA] at e2 hlen ⊢
 generalize dig2 (n % 100) = B at *
 obtain ⟨ax, s', ⟨rfl, rfl⟩, hin⟩ : ∃ ax s', (ax = .ex 2 ∧ s' = ⟨[(0, i64 n), (8, st A), (9, st B)], []⟩) ∧ ∀ t, nrm [0, 1, 8, 9] [] t = ⟨[(0, i64 n), (1, i64 2), (8, st A), (9, st (List.replicate 0 48 ++ D))], []⟩ → lp (exec Γ M ref02_Fixed_l1) M t = some (ax, s') := by
  refine lp_all (fun k : Nat => ⟨[(0, i64 n), (1, i64 2), (8, st A), (9, st (List.replicate k 48 ++ D))], []⟩) (fun k => k ≤ 2 - D.length) (fun k => 2 - D.length - k) _ 0 M (by simp) (by omega) (by omega) ?_
  intro k hk
  by_cases hlt : k < 2 - D.length
  ·have hs : List.replicate (k + 1) (48 : UInt8) ++ D = 48 :: (List.replicate k 48 ++ D) := by rw [List.replicate_succ]; rfl
   have hlk : (List.replicate k (48 : UInt8) ++ D).length = k + D.length := by simp
   generalize List.replicate k (48 : UInt8) ++ D = R at *
   simp -implicitDefEqProofs (disch := first | omega | ((try simp only [List.length_append, List.length_cons, List.length_nil, maxStr_eq]); omega) | assumption) [binS_add, hlk]
   exact ⟨k + 1, hs.symm, by omega, by omega⟩
  ·obtain rfl : k = 2 - D.length := by omega
   have hlk : (List.replicate (2 - D.length) (48 : UInt8) ++ D).length = (2 - D.length) + D.length := by simp
   rw [hrep] at hlk ⊢
   simp -implicitDefEqProofs (disch := first | omega | assumption) [hlk]
 have hlp := hin ⟨[(0, i64 n), (1, i64 2), (8, st A), (9, st D)], []⟩ (by simp)
 simp -implicitDefEqProofs (disch := first | omega | ((try simp only [List.length_append, List.length_cons, List.length_nil, maxStr_eq]); omega) | assumption) [e1, e2, e3, hlp1, hlp, binS_add]
end Go.Am
namespace Go.Am
open Go.Proofs Go.Shelf Go.RowKit
def insI (x : Int) : List Int → List Int
 | [] => [x]
 | y :: l => if x ≤ y then x :: y :: l else y :: insI x l
def srt : List Int → List Int
 | [] => []
 | x :: l => insI x (srt l)
theorem insI_perm (x : Int) : ∀ l, (insI x l).Perm (x :: l)
 | [] => .refl _
 | y :: l => by
  unfold insI
  split
  ·exact .refl _
  ·exact ((insI_perm x l).cons y).trans (.swap x y l)
theorem srt_perm : ∀ l, (srt l).Perm l
 | [] => .refl _
 | x :: l => (insI_perm x _).trans ((srt_perm l).cons x)
theorem insI_sorted (x : Int) : ∀ {l : List Int}, l.Pairwise (· ≤ ·) → (insI x l).Pairwise (· ≤ ·)
 | [], _ => by simp [insI]
 | y :: l, h => by
  have h' := List.pairwise_cons.1 h
  unfold insI
  split
  ·refine List.pairwise_cons.2 ⟨fun z hz => ?_, h⟩
   simp only [List.mem_cons] at hz
   rcases hz with rfl | hz
   ·assumption
   ·have := h'.1 z hz; omega
  ·refine List.pairwise_cons.2 ⟨fun z hz => ?_, insI_sorted x h'.2⟩
   have hz' := (insI_perm x l).mem_iff.1 hz
   simp only [List.mem_cons] at hz'
   rcases hz' with rfl | hz'
   ·omega
   ·exact h'.1 z hz'
theorem srt_sorted : ∀ l, (srt l).Pairwise (· ≤ ·)
 | [] => .nil
 | x :: l => insI_sorted x (srt_sorted l)
theorem sorted_unique : ∀ {a b : List Int}, a.Pairwise (· ≤ ·) → b.Pairwise (· ≤ ·) → a.Perm b → a = b
 | [], b, _, _, h => (List.nil_perm.1 h).symm
 | x :: a, [], _, _, h => by have := h.length_eq; simp at this
 | x :: a, y :: b, ha, hb, h => by
  have ha' := List.pairwise_cons.1 ha
  have hb' := List.pairwise_cons.1 hb
  have h1 : x ∈ y :: b := h.mem_iff.1 (by simp)
  have h2 : y ∈ x :: a := h.mem_iff.2 (by simp)
  have hxy : x = y := by
   simp only [List.mem_cons] at h1 h2
   rcases h1 with h1 | h1
   ·exact h1
   ·rcases h2 with h2 | h2
    ·exact h2.symm
    ·have := ha'.1 y h2
     have := hb'.1 x h1
     omega
  subst hxy
  rw [sorted_unique ha'.2 hb'.2 ((List.perm_cons x).1 h)]
theorem merge_srt (l : List Int) : (l.mergeSort fun x y => decide (x ≤ y)) = srt l := by
 refine sorted_unique ?_ (srt_sorted l) ((List.mergeSort_perm l _).trans (srt_perm l).symm)
 have := List.pairwise_mergeSort (le := fun x y : Int => decide (x ≤ y)) (fun a b c h1 h2 => by simp only [decide_eq_true_eq] at *; omega) (fun a b => by simp only [Bool.or_eq_true, decide_eq_true_eq]; omega) l
 exact this.imp fun h => by simpa using h
theorem srt_length (l : List Int) : (srt l).length = l.length := (srt_perm l).length_eq
def intRows (l : List Int) : Rows := l.map fun z => [.c (.int .i64 z)]
def intsOf : Rows → Option (List Int)
 | [] => some []
 | [.c (.int .i64 z)] :: r => (intsOf r).map (z :: ·)
 | _ :: _ => none
theorem intsOf_rows : ∀ l, intsOf (intRows l) = some l
 | [] => rfl
 | z :: l => by
  have := intsOf_rows l
  simp only [intRows, List.map_cons, intsOf] at this ⊢
  rw [this]; rfl
theorem intsOf_some : ∀ {r : Rows} {l : List Int}, intsOf r = some l → r = intRows l
 | [], l, h => by simp only [intsOf, Option.some.injEq] at h; subst h; rfl
 | x :: r, l, h => by
  unfold intsOf at h
  split at h
  ·simp at *
  ·rename_i z r' heq
   simp only [List.cons.injEq] at heq
   obtain ⟨rfl, rfl⟩ := heq
   cases hr : intsOf r with
   | none => rw [hr] at h; simp at h
   | some l' =>
    rw [hr] at h
    simp only [Option.map_some, Option.some.injEq] at h
    subst h
    rw [intsOf_some hr]; rfl
  ·simp at h
def sortPt (s : St) : Option (List AV × List (Nat × Obj)) :=
 match get s.fr 0, get s.fr 1 with
 | some (.sl key ver start len), none => match get s.ob key with
  | some o => if o.sz = 1 ∧ o.rows.length = ver ∧ start = 0 ∧ len = ver ∧ ver < 4611686018427387904 then (match intsOf o.rows with
    | some l => some ([], (key, ⟨1, intRows (srt l)⟩) :: del s.ob key)
    | none => none)
   else none
  | none => none
 | _, _ => none
theorem intRows_length (l : List Int) : (intRows l).length = l.length := by simp [intRows]
theorem intRows_get {l : List Int} {i j : Nat} {r : List AV} {x : AV} (h : (intRows l)[i]? = some r) (hj : r[j]? = some x) : j = 0 ∧ ∃ z, l[i]? = some z ∧ x = .c (.int .i64 z) := by
 simp only [intRows, List.getElem?_map] at h
 cases hl : l[i]? with
 | none => rw [hl] at h; simp at h
 | some z =>
  rw [hl] at h
  simp only [Option.map_some, Option.some.injEq] at h
  subst h
  cases j with
  | zero => simp only [List.getElem?_cons_zero, Option.some.injEq] at hj; exact ⟨rfl, z, rfl, hj.symm⟩
  | succ j => simp at hj
theorem sort_specP {P : Program} {τ : Ren} (L : Lays.n189 P τ) : SpecP P (τ.f 189) sortPt := by
 intro γ B F ρ fr ob w us rs ob' hn hal hm hf h
 unfold sortPt at h
 split at h
 case h_2 => simp at h
 rename_i key ver start len h0 h1
 split at h
 case h_2 => simp at h
 rename_i o ho
 simp only at h0 h1 ho
 split at h
 case isFalse => simp at h
 rename_i hc
 obtain ⟨c1, c2, rfl, rfl, c5⟩ := hc
 split at h
 case h_2 => simp at h
 rename_i l hl
 simp only [Option.some.injEq, Prod.mk.injEq] at h
 obtain ⟨rfl, rfl⟩ := h
 have hrows := intsOf_some hl
 have hG : (0 : Nat) < GB := by decide
 have hv := hf 0 _ h0
 rw [if_pos hG] at hv
 obtain ⟨hK, hv⟩ := hv
 obtain ⟨_, hv⟩ := hv o ho
 have hv := hv c2 (by omega)
 have hlen : l.length = len := by rw [← c2, hrows, intRows_length]
 have hu : ∃ u, us = [u] ∧ us.getD 0 undef = u := by
  match us, hal, hv with
  | [], _, hv =>
   exfalso
   unfold SlR at hv
   split at hv
   ·obtain ⟨_, hv⟩ := hv; simp [undef] at hv
   ·obtain ⟨_, a, hv, _⟩ := hv; simp [undef] at hv
  | [u], _, _ => exact ⟨u, rfl, rfl⟩
  | u :: u2 :: r, hal, _ =>
   obtain ⟨v, hv⟩ := hal 1 (by simp)
   rw [h1] at hv; simp at hv
 obtain ⟨u, rfl, hu⟩ := hu
 rw [hu] at hv
 unfold SlR at hv
 cases hρ : ρ key with
 | none =>
  rw [hρ] at hv
  obtain ⟨hz, rfl⟩ := hv
  have hl0 : l = [] := List.eq_nil_of_length_eq_zero (by omega)
  subst hl0
  have hg : ∀ k o', get ((key, (⟨1, intRows (srt [])⟩ : Obj)) :: del ob key) k = some o' → ∃ o, get ob k = some o ∧ (k < MK → o.rows.length = o'.rows.length) := fun k o' h => by
   by_cases hk : key = k
   ·subst hk
    simp only [get, if_true, Option.some.injEq] at h; subst h
    exact ⟨o, ho, fun _ => by rw [hrows]; rfl⟩
   ·simp only [get, if_neg hk] at h
    rw [get_del, if_neg (Ne.symm hk)] at h
    exact ⟨o', h, fun _ => rfl⟩
  have he : ∀ k, get ((key, (⟨1, intRows (srt [])⟩ : Obj)) :: del ob key) k = get ob k := fun k => by
   by_cases hk : key = k
   ·subst hk
    simp only [get, if_true, ho]
    cases o; simp only at c1 hrows; subst c1; subst hrows; rfl
   ·simp only [get, if_neg hk]; rw [get_del, if_neg (Ne.symm hk)]
  refine (Any.slices_Sort_int_none L none 0 w).mono ?_
  rintro e w' ⟨rfl, rfl⟩
  refine ⟨[], rfl, F, ρ, hm.congr he, fun i v hi hv => ?_, .nil, .refl _ _ _⟩
  have := hf i v hv
  rw [if_neg (by omega)] at this
  exact this.same hg
 | some p =>
  rw [hρ] at hv
  obtain ⟨hcap, a, rfl, ha⟩ := hv
  have ha := ha (.inr rfl)
  subst ha
  obtain ⟨g1, g2, g3, g4, cur, et, hh, g5, g6⟩ := hm.cells hK ho hρ
  have hp1 : p.sz = 1 := by rw [g3, c1]
  have hblt : p.g < w.heap.size := by
   rcases Nat.lt_or_ge p.g w.heap.size with h | h
   ·exact h
   ·rw [Array.getElem?_eq_none h] at hh; simp at hh
  have hcur : ∀ (j : Nat) (z : Int), l[j]? = some z → cur[j]? = some (.int .i64 z) := by
   intro j z hz
   obtain ⟨_, u, hu, hr⟩ := g6 j [.c (.int .i64 z)] 0 (.c (.int .i64 z)) (by rw [hrows]; simp [intRows, hz]) (by simp)
   rw [hp1] at hu
   simp only [Nat.mul_one, Nat.add_zero] at hu
   rw [hu]
   cases hr; rfl
  have hH : Go.Sort.Holds (Value.int .i64) w p.g (0 * p.sz) l.toArray := by
   intro j hj
   simp only [List.size_toArray] at hj
   obtain ⟨z, hz⟩ : ∃ z, l[j]? = some z := ⟨l[j], List.getElem?_eq_getElem hj⟩
   have hzz : l.toArray[j]! = z := by
    have : l.toArray[j]? = some z := by simpa using hz
    simp [Array.getElem!_eq_getD, Array.getD_eq_getD_getElem?, this]
   simp only [World.cell?, World.frozen?, hh, Nat.zero_mul, Nat.zero_add, Option.isSome_none, hzz]
   exact ⟨by simpa using hcur j z hz, by simp⟩
  have hsl : (srt l).length = len := by rw [srt_length, hlen]
  have hC := Any.slices_Sort_int L p.g (0 * p.sz) (p.cap - 0) l w hH hblt (by omega)
  rw [hlen] at hC
  refine hC.mono ?_
  rintro e w' ⟨rfl, n, os, rfl⟩
  rw [merge_srt]
  have hw' : (Go.Sort.grow (Go.Sort.putRow (Value.int .i64) (Go.Sort.ahead w n) p.g (0 * p.sz) (srt l).toArray) os).heap[p.g]? = some (.cells (Go.Sort.putCells (Value.int .i64) (0 * p.sz) (srt l).toArray cur) et (0, 0)) := by
   simp only [Go.Sort.grow, Go.Sort.putRow, Go.Sort.mapBlock, Go.Sort.ahead]
   rw [Array.getElem?_append_left (by simpa using hblt), Array.getElem?_modify, if_pos rfl, hh]
   rfl
  have hoth : ∀ k, k < w.heap.size → k ≠ p.g → (Go.Sort.grow (Go.Sort.putRow (Value.int .i64) (Go.Sort.ahead w n) p.g (0 * p.sz) (srt l).toArray) os).heap[k]? = w.heap[k]? := by
   intro k hk hne
   simp only [Go.Sort.grow, Go.Sort.putRow, Go.Sort.mapBlock, Go.Sort.ahead]
   rw [Array.getElem?_append_left (by simpa using hk), Array.getElem?_modify, if_neg (Ne.symm hne)]
  have hsz : w.heap.size ≤ (Go.Sort.grow (Go.Sort.putRow (Value.int .i64) (Go.Sort.ahead w n) p.g (0 * p.sz) (srt l).toArray) os).heap.size := by
   simp only [Go.Sort.grow, Go.Sort.putRow, Go.Sort.mapBlock, Go.Sort.ahead, Array.size_append, Array.size_modify]
   omega
  generalize hW : Go.Sort.grow (Go.Sort.putRow (Value.int .i64) (Go.Sort.ahead w n) p.g (0 * p.sz) (srt l).toArray) os = W at hw' hoth hsz
  have hkeep : ∀ {x : AV} {v : Value}, AR F ρ ob x v → AR F (updM ρ key (some p)) ((⟨fr, ob⟩ : St).obj key ⟨1, intRows (srt l)⟩).ob x v := by
   intro x v hx
   have he : updM ρ key (some p) = ρ := by
    funext k; unfold updM; split
    ·rename_i hk; subst hk; exact hρ.symm
    ·rfl
   rw [he]
   refine hx.same fun k o' ho' => ?_
   by_cases hk : k = key
   ·subst hk
    rw [obj_same] at ho'; simp only [Option.some.injEq] at ho'; subst ho'
    exact ⟨o, ho, fun _ => by rw [intRows_length, hsl]; exact c2⟩
   ·rw [obj_other hk] at ho'; exact ⟨o', ho', fun _ => rfl⟩
  have hty : KT ≤ key → et + 1 = key / KT := fun h => hm.typed hK ho hρ h _ _ _ hh
  have hMem := Mem.change (s := ⟨fr, ob⟩) (o' := ⟨1, intRows (srt l)⟩) (p' := p) (et := et) (w' := W) hK hty hm g1 (.inl ⟨o, p, ho, hρ, rfl⟩) hsz hoth hw'
   (by rw [← g5]; simp [Go.Sort.putCells]) (by rw [intRows_length, hsl]; omega) hp1 (fun r hr => by
    simp only [intRows, List.mem_map] at hr
    obtain ⟨z, _, rfl⟩ := hr; rw [hp1]; rfl) (fun k o hk ho r hr x hx v hv => hkeep hv) (fun i r j x hi hj => by
    obtain ⟨rfl, z, hz, rfl⟩ := intRows_get hi hj
    refine ⟨rfl, .int .i64 z, ?_, DR.int _ _⟩
    have hi := (List.getElem?_eq_some_iff.1 hz).1
    rw [hp1]
    simp only [Nat.mul_one, Nat.add_zero, Go.Sort.putCells, Array.getElem?_mapIdx, Nat.zero_mul, Nat.zero_add, List.size_toArray, Nat.zero_le, true_and, Nat.sub_zero]
    have hic : i < cur.size := by rw [g5, hp1]; omega
    rw [Array.getElem?_eq_getElem hic, Option.map_some, if_pos hi]
    have : (srt l).toArray[i]? = some z := by simpa using hz
    simp [Array.getElem!_eq_getD, Array.getD_eq_getD_getElem?, this])
  refine ⟨[], rfl, F, updM ρ key (some p), hMem, fun i v hi hv => ?_, .nil, .refl F, ?_, fun _ _ h => .inl h⟩
  ·have := hf i v hv
   rw [if_neg (by omega)] at this
   exact hkeep this
  ·have hb := hm.big
   exact ⟨by rw [← hW]; rfl, by rw [← hW]; rfl, by rw [← hW]; rfl, hsz, fun k hk => hoth k (by omega) (by omega)⟩
theorem sort_mono (s : St) (rs : List AV) (ob : List (Nat × Obj)) (R : List Nat) (hR : ∀ r ∈ R, GB ≤ r) (h : sortPt s = some (rs, ob)) : sortPt ⟨dels R s.fr, s.ob⟩ = some (rs, ob) := by
 have hG : (1 : Nat) < GB := by decide
 have e0 : get (dels R s.fr) 0 = get s.fr 0 := by rw [get_dels, if_neg fun h => by have := hR _ h; omega]
 have e1 : get (dels R s.fr) 1 = get s.fr 1 := by rw [get_dels, if_neg fun h => by have := hR _ h; omega]
 unfold sortPt at h ⊢
 simp only [e0, e1]
 exact h
end Go.Am
namespace Go.Am
def cntI (n : Int) (l : List Int) : Nat := (l.filter fun x => decide (x ≤ n)).length
theorem cnt_perm {n : Int} {a b : List Int} (h : a.Perm b) : cntI n a = cntI n b := (h.filter _).length_eq
theorem cnt_le (n : Int) (l : List Int) : cntI n l ≤ l.length := List.length_filter_le _ _
theorem cnt_app (n : Int) (a b : List Int) : cntI n (a ++ b) = cntI n a + cntI n b := by simp [cntI]
theorem cnt_snoc (n : Int) (a : List Int) (x : Int) : cntI n (a ++ [x]) = cntI n a + if x ≤ n then 1 else 0 := by
 rw [cnt_app]; congr 1; unfold cntI; by_cases h : x ≤ n <;> simp [h]
theorem cnt_all {n : Int} {l : List Int} (h : ∀ x ∈ l, x ≤ n) : cntI n l = l.length := by
 unfold cntI; rw [List.filter_eq_self.2 fun x hx => by simpa using h x hx]
theorem cnt_none {n : Int} {l : List Int} (h : ∀ x ∈ l, n < x) : cntI n l = 0 := by
 unfold cntI
 rw [List.length_eq_zero_iff, List.filter_eq_nil_iff]
 intro x hx
 have := h x hx
 simp only [decide_eq_true_eq]; omega
theorem sorted_get {l : List Int} (h : l.Pairwise (· ≤ ·)) {i j : Nat} (hij : i ≤ j) (hj : j < l.length) : l[i]'(by omega) ≤ l[j] := by
 rcases Nat.lt_or_ge i j with h1 | h1
 ·exact List.pairwise_iff_getElem.1 h i j (by omega) hj h1
 ·obtain rfl : i = j := by omega
  omega
theorem cnI_ge {s : List Int} (hs : s.Pairwise (· ≤ ·)) {k : Nat} (hk : k < s.length) {n : Int} (hn : s[k] ≤ n) : k + 1 ≤ cntI n s := by
 have e : cntI n s = cntI n (s.take (k + 1)) + cntI n (s.drop (k + 1)) := by rw [← cnt_app, List.take_append_drop]
 have h1 : cntI n (s.take (k + 1)) = k + 1 := by
  rw [cnt_all, List.length_take]
  ·omega
  ·intro x hx
   obtain ⟨i, hi, rfl⟩ := List.getElem_of_mem hx
   rw [List.getElem_take]
   rw [List.length_take] at hi
   have := sorted_get hs (i := i) (j := k) (by omega) hk
   omega
 omega
theorem cnI_lt {s : List Int} (hs : s.Pairwise (· ≤ ·)) {k : Nat} (hk : k < s.length) {n : Int} (hn : n < s[k]) : cntI n s ≤ k := by
 have e : cntI n s = cntI n (s.take k) + cntI n (s.drop k) := by rw [← cnt_app, List.take_append_drop]
 have h1 : cntI n (s.drop k) = 0 := cnt_none fun x hx => by
  obtain ⟨i, hi, rfl⟩ := List.getElem_of_mem hx
  rw [List.getElem_drop]
  rw [List.length_drop] at hi
  have := sorted_get hs (i := k) (j := k + i) (by omega) (by omega)
  omega
 have h2 := cnt_le n (s.take k)
 rw [List.length_take] at h2
 omega
def plK (p m : Int) : Int := m / 100 * p + (m % 100 * p + 99) / 100
theorem mul_split (p m : Int) : p * m = 100 * (m / 100 * p) + m % 100 * p := by
 have hm := Int.mul_ediv_add_emod m 100
 have e : p * (100 * (m / 100) + m % 100) = 100 * (m / 100 * p) + m % 100 * p := by
  rw [Int.mul_add, Int.mul_comm p (m % 100), Int.mul_comm p (100 * (m / 100)), Int.mul_assoc]
 rw [hm] at e; exact e
theorem mul_le100 {p r : Int} (hp : 1 ≤ p ∧ p ≤ 100) (hr : 0 ≤ r) : r ≤ r * p ∧ r * p ≤ 100 * r := by
 constructor
 ·have := Int.mul_le_mul_of_nonneg_left hp.1 hr
  omega
 ·have := Int.mul_le_mul_of_nonneg_left hp.2 hr
  omega
theorem plK_bounds {p m : Int} (hp : 1 ≤ p ∧ p ≤ 100) (hm : 1 ≤ m) : 1 ≤ plK p m ∧ plK p m ≤ m := by
 have h1 := mul_le100 hp (r := m / 100) (by omega)
 have h2 := mul_le100 hp (r := m % 100) (by omega)
 unfold plK
 omega
theorem plK_near {p m : Int} : p * m ≤ 100 * plK p m ∧ 100 * (plK p m - 1) < p * m := by
 rw [mul_split]; unfold plK; omega
theorem plK_mono {p q m : Int} (hpq : p ≤ q) (hm : 0 ≤ m) : plK p m ≤ plK q m := by
 have h1 := Int.mul_le_mul_of_nonneg_left hpq (show 0 ≤ m / 100 by omega)
 have h2 := Int.mul_le_mul_of_nonneg_left hpq (show 0 ≤ m % 100 by omega)
 unfold plK; omega
def ofP (p : Int) (l : List Int) : Int := (srt l).getD (plK p l.length - 1).toNat 0
theorem ofP_get {p : Int} {l : List Int} (hp : 1 ≤ p ∧ p ≤ 100) (hl : l ≠ []) : ∃ k : Nat, ∃ hk : k < (srt l).length, plK p l.length = k + 1 ∧ ofP p l = (srt l)[k] := by
 have hm : 1 ≤ (l.length : Int) := by
  have := List.length_pos_iff.2 hl
  omega
 have h := plK_bounds hp hm
 have hk : (plK p l.length - 1).toNat < (srt l).length := by rw [srt_length]; omega
 refine ⟨(plK p l.length - 1).toNat, hk, by omega, ?_⟩
 unfold ofP
 rw [List.getD_eq_getElem?_getD, List.getElem?_eq_getElem hk]; rfl
theorem ofP_mem {p : Int} {l : List Int} (hp : 1 ≤ p ∧ p ≤ 100) (hl : l ≠ []) : ofP p l ∈ l := by
 obtain ⟨k, hk, _, e⟩ := ofP_get hp hl
 rw [e]
 exact (srt_perm l).mem_iff.1 (List.getElem_mem hk)
theorem ofP_enough {p : Int} {l : List Int} (hp : 1 ≤ p ∧ p ≤ 100) (hl : l ≠ []) : p * l.length ≤ 100 * (cntI (ofP p l) l : Int) := by
 obtain ⟨k, hk, h1, e⟩ := ofP_get hp hl
 have h2 := cnI_ge (srt_sorted l) hk (n := ofP p l) (by rw [e]; omega)
 rw [cnt_perm (srt_perm l)] at h2
 have h3 := (plK_near (p := p) (m := l.length)).1
 omega
theorem ofP_least {p : Int} {l : List Int} (hp : 1 ≤ p ∧ p ≤ 100) (hl : l ≠ []) {y : Int} (hy : y < ofP p l) : 100 * (cntI y l : Int) < p * l.length := by
 obtain ⟨k, hk, h1, e⟩ := ofP_get hp hl
 have h2 := cnI_lt (srt_sorted l) hk (n := y) (by rw [← e]; exact hy)
 rw [cnt_perm (srt_perm l)] at h2
 have h3 := (plK_near (p := p) (m := l.length)).2
 omega
theorem ofP_mono {p q : Int} {l : List Int} (hp : 1 ≤ p ∧ p ≤ 100) (hq : 1 ≤ q ∧ q ≤ 100) (hl : l ≠ []) (hpq : p ≤ q) : ofP p l ≤ ofP q l := by
 obtain ⟨k, hk, h1, e⟩ := ofP_get hp hl
 obtain ⟨j, hj, h2, f⟩ := ofP_get hq hl
 have := plK_mono (m := l.length) hpq (by omega)
 rw [e, f]
 exact sorted_get (srt_sorted l) (by omega) hj
end Go.Am
namespace Go.Am
def intD (z : Int) : List D := [.int .i64 z]
abbrev vI (l : List Int) : AV := .c (.vs 1 (l.map intD))
def AllI (l : List Int) : Prop := ∀ z ∈ l, InI64 z
def PlaceC15 (g : List AV → Option (List AV)) : Prop := ∀ p m, InI64 p → InI64 m → g [i64 p, i64 m] = some (if 1 ≤ p ∧ p ≤ 100 ∧ 1 ≤ m then [i64 (plK p m), i64 0] else [i64 0, i64 22])
theorem rank_Place_run (Γ : Env) (M : Nat) : PlaceC15 (run Γ M rank_Place_f) := by
 intro p m hp hm
 obtain ⟨h1, h2⟩ := hp
 obtain ⟨h3, h4⟩ := hm
 by_cases c1 : p < 1
 ·rw [if_neg (by omega)]
  simp -implicitDefEqProofs (disch := first | omega | assumption) [c1]
 by_cases c2 : 100 < p
 ·rw [if_neg (by omega)]
  simp -implicitDefEqProofs (disch := first | omega | assumption) [c1, c2]
 by_cases c3 : m < 1
 ·rw [if_neg (by omega)]
  simp -implicitDefEqProofs (disch := first | omega | assumption) [c1, c2, c3]
 rw [if_pos (by omega)]
 have b1 := mul_le100 (p := p) (by omega) (r := m / 100) (by omega)
 have b2 := mul_le100 (p := p) (by omega) (r := m % 100) (by omega)
 have b3 := plK_bounds (p := p) (m := m) (by omega) (by omega)
 unfold plK at *
 simp -implicitDefEqProofs (disch := first | omega | assumption) [c1, c2, c3]
def CloneP (g : St → Option (List AV × List (Nat × Obj))) : Prop := ∀ (l : List Int) (k : Int), l ≠ [] → l.length ≤ 60000 → g ⟨[(0, vI l), (100019, vI l), (100001, vI l), (100006, i64 k)], []⟩ = some ([.sl 367005 l.length 0 l.length], [(367005, ⟨1, intRows l⟩)])
theorem clone_run (Γ : Env) (M : Nat) : CloneP (runP Γ M slices_Clone_Sint_int_P_f) := by
 intro l k hl hn
 obtain ⟨z, r, rfl⟩ := List.exists_cons_of_ne_nil hl
 simp only [List.length_cons] at hn
 simp -implicitDefEqProofs (disch := first | omega | assumption) [vI, intD, intRows]
def OfC15 (g : List AV → Option (List AV)) : Prop := ∀ p l, InI64 p → l.length ≤ 60000 → g [i64 p, vI l] = some (if 1 ≤ p ∧ p ≤ 100 ∧ l ≠ [] then [i64 (ofP p l), i64 0] else [i64 0, i64 22])
theorem rank_Of_run (Γ : Env) (M : Nat) (h248 : PlaceC15 (Γ 248)) (h367 : CloneP (Γ.pt 367)) (h290 : Γ.pt 290 = sortPt) : OfC15 (run Γ M rank_Of_f) := by
 intro p l hp hl
 have e := h248 p l.length hp ⟨by omega, by omega⟩
 by_cases c : 1 ≤ p ∧ p ≤ 100 ∧ l ≠ []
 ·have hlen : 1 ≤ (l.length : Int) := by have := List.length_pos_iff.2 c.2.2; omega
  rw [if_pos ⟨c.1, c.2.1, hlen⟩] at e
  rw [if_pos c]
  obtain ⟨k, hk, hk1, hk2⟩ := ofP_get ⟨c.1, c.2.1⟩ c.2.2
  rw [hk1] at e
  have e2 := h367 l (k + 1) c.2.2 hl
  have hq : l.length < 4611686018427387904 := by omega
  have hget : (intRows (srt l))[k]? = some [i64 ((srt l)[k])] := by simp [intRows, hk]
  have hkl : k < l.length := by rw [srt_length] at hk; exact hk
  simp -implicitDefEqProofs (disch := first | omega | assumption) [e, e2, h290, sortPt, intsOf_rows, intRows_length, srt_length, hq, hk2, hkl, hget]
 ·rw [if_neg c]
  have : ¬ (1 ≤ p ∧ p ≤ 100 ∧ 1 ≤ (l.length : Int)) := by
   rintro ⟨h1, h2, h3⟩
   exact c ⟨h1, h2, fun h => by subst h; simp at h3⟩
  rw [if_neg this] at e
  simp -implicitDefEqProofs (disch := first | omega | assumption) [e]
def srtEnv : Env := ⟨fun _ _ => none, fun f s => if f = 290 then sortPt s else none, fun _ _ => none⟩
theorem srtEnv_pt : srtEnv.pt 290 = sortPt := by funext s; simp [srtEnv]
theorem srtEnv_ok {P : Program} {nm : Nat → Option Nat} {T : Tab} {τ : Go.Shelf.Ren} (L : Go.Proofs.Lays.n189 P τ) (h : nm 290 = some (τ.f 189)) : XOk P nm T srtEnv where
 fn := fun f g _ _ F w ds vs rs _ _ h => by simp [srtEnv] at h
 pt := fun f g hg _ => by
  by_cases hf : f = 290
  ·subst hf
   rw [h] at hg
   simp only [Option.some.injEq] at hg
   subst hg
   rw [srtEnv_pt]; exact sort_specP L
  ·have : srtEnv.pt f = fun _ => none := by funext s; simp [srtEnv, hf]
   rw [this]; exact SpecP.none
 mono := fun f s rs ob R hR h => by
  by_cases hf : f = 290
  ·subst hf
   rw [srtEnv_pt] at h ⊢
   exact sort_mono s rs ob R hR h
  ·simp [srtEnv, hf] at h
theorem env_srt {T : Tab} {V : List (Nat × Nat)} {M n : Nat} (h : get T 290 = none) : (env T V srtEnv M n).pt 290 = sortPt := by
 rw [← srtEnv_pt]
 funext s
 cases n <;> simp [env, envPt, h]
end Go.Am
namespace Go.Am
abbrev vT (l : List Trip) : AV := .c (.vs 7 (l.map Trip.cells))
structure Tm (t : Trip) : Prop where
 arr : -1 ≤ t.arrive ∧ t.arrive ≤ 1073741824
 brd : -1 ≤ t.board ∧ t.board ≤ 1073741824
 alt : -1 ≤ t.alight ∧ t.alight ≤ 1073741824
structure Gd (l : List Trip) : Prop where
 n : l.length ≤ 100
 all : ∀ t ∈ l, Tm t
def dn (t : Trip) : Bool := decide (0 ≤ t.alight)
def doneL (l : List Trip) : List Trip := l.filter dn
def wv (w : Bool) (t : Trip) : Int := if w then t.board - t.arrive else t.alight - t.board
def wt (w : Bool) (l : List Trip) : List Int := (doneL l).map (wv w)
def phs (t : Trip) : Int := if 0 ≤ t.alight then 2 else if 0 ≤ t.board then 1 else 0
def cntP (p : Int) (l : List Trip) : Nat := (l.filter fun t => decide (phs t = p)).length
theorem doneL_snoc (l : List Trip) (k : Nat) (h : k < l.length) : doneL (l.take (k + 1)) = doneL (l.take k) ++ if dn l[k] then [l[k]] else [] := by
 unfold doneL; rw [List.take_succ_eq_append_getElem h, List.filter_append]; congr 1; cases c : dn l[k] <;> simp [c]
theorem doneL_mem {l : List Trip} {t : Trip} (h : t ∈ doneL l) : t ∈ l := (List.mem_filter.1 h).1
theorem doneL_len (l : List Trip) : (doneL l).length ≤ l.length := List.length_filter_le _ _
theorem wt_len (w : Bool) (l : List Trip) : (wt w l).length ≤ l.length := by unfold wt; rw [List.length_map]; exact doneL_len l
theorem wt_snoc (w : Bool) (l : List Trip) (k : Nat) (h : k < l.length) : wt w (l.take (k + 1)) = wt w (l.take k) ++ if dn l[k] then [wv w l[k]] else [] := by
 unfold wt; rw [doneL_snoc l k h, List.map_append]; split <;> rfl
theorem cntP_snoc (p : Int) (l : List Trip) (k : Nat) (h : k < l.length) : cntP p (l.take (k + 1)) = cntP p (l.take k) + if phs l[k] = p then 1 else 0 := by
 unfold cntP; rw [List.take_succ_eq_append_getElem h, List.filter_append, List.length_append]; congr 1
 by_cases c : phs l[k] = p <;> simp [c]
theorem cntP_le (p : Int) (l : List Trip) : cntP p l ≤ l.length := List.length_filter_le _ _
theorem wv_in {t : Trip} (h : Tm t) (w : Bool) : -1073741825 ≤ wv w t ∧ wv w t ≤ 1073741825 := by
 obtain ⟨h1, h2, h3⟩ := h
 unfold wv; split <;> omega
theorem wt_in {l : List Trip} (h : Gd l) (w : Bool) : ∀ x ∈ wt w l, -1073741825 ≤ x ∧ x ≤ 1073741825 := by
 intro x hx
 unfold wt at hx
 rw [List.mem_map] at hx
 obtain ⟨t, ht, rfl⟩ := hx
 exact wv_in (h.all t (doneL_mem ht)) w
theorem mxL_spec : ∀ (xs : List Int) (a : Int), ∃ m, maxL .i64 a (xs.map fun x => i64 x) = some m ∧ ∀ z, m ≤ z ↔ (a ≤ z ∧ ∀ x ∈ xs, x ≤ z)
 | [], a => ⟨a, rfl, fun z => by simp⟩
 | b :: xs, a => by
  obtain ⟨m, h1, h2⟩ := mxL_spec xs (if a < b then b else a)
  refine ⟨m, by simpa [maxL] using h1, fun z => ?_⟩
  rw [h2, List.forall_mem_cons]
  constructor
  ·rintro ⟨h3, h4⟩
   split at h3
   ·exact ⟨by omega, h3, h4⟩
   ·exact ⟨h3, by omega, h4⟩
  ·rintro ⟨h3, h4, h5⟩
   refine ⟨?_, h5⟩
   split <;> assumption
theorem trip_get {l : List Trip} {k : Nat} (hlt : k < l.length) {t : Trip} (h : l[k]'hlt = t) : (l.map Trip.cells)[k]? = some t.cells := by
 rw [List.getElem?_map, List.getElem?_eq_getElem hlt, h]; rfl
def TAtC (g : List AV → Option (List AV)) : Prop := ∀ t : Trip, g [.agg t.cells] = some [i64 (phs t)]
theorem trip_At_run (Γ : Env) (M : Nat) : TAtC (run Γ M trip_At_f) := by
 intro t
 unfold phs
 by_cases c1 : 0 ≤ t.alight
 ·simp -implicitDefEqProofs (disch := omega) [c1]
 ·by_cases c2 : 0 ≤ t.board
  ·simp -implicitDefEqProofs (disch := omega) [c1, c2]
  ·simp -implicitDefEqProofs (disch := omega) [c1, c2]
theorem ref24_At_run (Γ : Env) (M : Nat) : TAtC (run Γ M ref24_At_f) := by
 intro t
 unfold phs
 by_cases c1 : 0 ≤ t.alight
 ·simp -implicitDefEqProofs (disch := omega) [c1]
 ·by_cases c2 : 0 ≤ t.board
  ·simp -implicitDefEqProofs (disch := omega) [c1, c2]
  ·simp -implicitDefEqProofs (disch := omega) [c1, c2]
theorem phs_in (t : Trip) : phs t = 0 ∨ phs t = 1 ∨ phs t = 2 := by unfold phs; split; simp; split <;> simp
theorem phs_dn (t : Trip) : dn t = decide (phs t = 2) := by
 unfold phs dn
 by_cases c1 : 0 ≤ t.alight
 ·simp [c1]
 ·by_cases c2 : 0 ≤ t.board <;> simp [c1, c2]
def tRows (l : List Trip) : Rows := l.map (toAV ∘ Trip.cells)
theorem tRows_len (l : List Trip) : (tRows l).length = l.length := by simp [tRows]
def DoneC (g : List AV → Option (List AV)) : Prop := ∀ l : List Trip, l.length ≤ 100 → g [vT l] = some [vT (doneL l)]
theorem trip_done_run (Γ : Env) (M : Nat) (hM : 1000 < M) (hA : TAtC (Γ 51)) : DoneC (run Γ M trip_done_f) := by
 intro l hl
 obtain ⟨ax, s', ⟨rfl, rfl⟩, hin⟩ : ∃ ax s', (ax = .ex 0 ∧ s' = ⟨[(3, .sl 3 (doneL l).length 0 (doneL l).length)], [(3, ⟨7, tRows (doneL l)⟩)]⟩) ∧ ∀ s0, nrm [3, 6, 7, 8] [3, 18] s0 = ⟨[(3, .sl 3 (doneL (l.take 0)).length 0 (doneL (l.take 0)).length), (6, vT l), (7, i64 l.length), (8, i64 (0 : Nat))], [(3, ⟨7, tRows (doneL (l.take 0))⟩)]⟩ → lp (exec Γ M trip_done_l1) M s0 = some (ax, s') := by
  refine lp_all (fun q : Nat => ⟨[(3, .sl 3 (doneL (l.take q)).length 0 (doneL (l.take q)).length), (6, vT l), (7, i64 l.length), (8, i64 q)], [(3, ⟨7, tRows (doneL (l.take q))⟩)]⟩) (fun q => q ≤ l.length) (fun q => l.length - q) _ 0 M (by simp) (by simp) (by omega) ?_
  intro k hk
  by_cases hlt : k < l.length
  ·obtain ⟨t, ht⟩ : ∃ w, l[k]'hlt = w := ⟨_, rfl⟩
   have hrow := trip_get hlt ht
   have e := hA t
   have hs := doneL_snoc l k hlt
   have hle := doneL_len (l.take k)
   rw [List.length_take] at hle
   rw [ht, phs_dn] at hs
   have hrl := tRows_len (doneL (l.take k))
   have hrn : ∀ z, nmRows z (tRows (doneL (l.take k))) = true := fun z => nmRows_comp z Trip.cells _
   have hrc : ∀ z, lcRows z (tRows (doneL (l.take k))) = true := fun z => lcRows_comp z Trip.cells _
   have hsn : tRows (doneL (l.take k) ++ [t]) = tRows (doneL (l.take k)) ++ [toAV t.cells] := by simp [tRows]
   simp only [Trip.cells] at e hrow
   simp only [Trip.cells, toAV, List.map_cons, List.map_nil] at hsn
   have hgo : ∀ X : List Trip, doneL (l.take (k + 1)) = X → ∃ q', ((⟨[(3, .sl 3 X.length 0 X.length), (6, vT l), (7, i64 l.length), (8, i64 ((k : Int) + 1))], [(3, ⟨7, tRows X⟩)]⟩ : St) = ⟨[(3, .sl 3 (doneL (l.take q')).length 0 (doneL (l.take q')).length), (6, vT l), (7, i64 l.length), (8, i64 q')], [(3, ⟨7, tRows (doneL (l.take q'))⟩)]⟩) ∧ q' ≤ l.length ∧ l.length - q' < l.length - k := by
    rintro X rfl; exact ⟨k + 1, by simp, by omega, by omega⟩
   by_cases d : phs t = 2
   ·simp only [d, decide_true, if_true] at hs
    obtain ⟨q', h1, h2, h3⟩ := hgo _ hs
    rw [hsn, List.length_append, List.length_singleton] at h1
    generalize tRows (doneL (l.take k)) = G at *
    generalize (doneL (l.take k)).length = n at *
    rw [d] at e
    simp -implicitDefEqProofs (disch := first | omega | (simp [hrl, hrc, hrn] <;> fail) | assumption) [hlt, hrow, e, hrl, hrc, hrn]
    exact ⟨q', by simpa using h1, h2, h3⟩
   ·simp only [d, decide_false, Bool.false_eq_true, if_false, List.append_nil] at hs
    obtain ⟨q', h1, h2, h3⟩ := hgo _ hs
    generalize tRows (doneL (l.take k)) = G at *
    generalize (doneL (l.take k)).length = n at *
    simp -implicitDefEqProofs (disch := first | omega | (simp [hrl, hrc, hrn] <;> fail) | assumption) [hlt, hrow, e, hrl, hrc, hrn, d]
    exact ⟨q', by simpa using h1, h2, h3⟩
  ·obtain rfl : k = l.length := by omega
   rw [List.take_length]
   simp -implicitDefEqProofs (disch := first | omega | assumption)
 have hlp := hin ⟨[(3, .sl 3 0 0 0), (6, vT l), (7, i64 l.length), (8, i64 0)], [(3, ⟨7, []⟩)]⟩ (by simp [doneL, tRows])
 have ha := allRows_comp Trip.cells (doneL l)
 have hle := doneL_len l
 have hrl := tRows_len (doneL l)
 have hF2 : ((doneL l).map Trip.cells).take (doneL l).length = (doneL l).map Trip.cells := by rw [List.take_of_length_le]; simp
 rw [show (doneL l).map (toAV ∘ Trip.cells) = tRows (doneL l) from rfl] at ha
 generalize tRows (doneL l) = G at *
 generalize hX : (doneL l).map Trip.cells = X at *
 generalize (doneL l).length = n at *
 simp -implicitDefEqProofs (disch := first | omega | assumption) [hlp, ha, hrl, hF2, hX]
end Go.Am
namespace Go.Am
theorem done_get {l : List Trip} {k : Nat} (hlt : k < l.length) {t : Trip} (h : l[k]'hlt = t) : (l.map Trip.cells)[k]? = some t.cells := trip_get hlt h
theorem iRows_len (l : List Int) : (intRows l).length = l.length := by simp [intRows]
theorem iRows_snoc (l : List Int) (x : Int) : intRows (l ++ [x]) = intRows l ++ [[i64 x]] := by simp [intRows]
def WaitsC (w : Bool) (g : List AV → Option (List AV)) : Prop := ∀ l : List Trip, Gd l → g [vT l] = some [vI (wt w l)]
def WaitsT (g : List AV → Option (List AV)) : Prop := ∀ l : List Trip, Gd l → g [vT l] = some [vI (wt true l)]
def WaitsF (g : List AV → Option (List AV)) : Prop := ∀ l : List Trip, Gd l → g [vT l] = some [vI (wt false l)]
theorem trip_Waits_run (Γ : Env) (M : Nat) (hM : 1000 < M) (hD : DoneC (Γ 408)) : WaitsT (run Γ M trip_Waits_f) := by
 intro l hg
 have eD := hD l hg.n
 have hdl := doneL_len l
 have hgn := hg.n
 have htm : ∀ t ∈ doneL l, Tm t := fun t ht => hg.all t (doneL_mem ht)
 unfold wt
 generalize doneL l = L at *
 obtain ⟨W, hW⟩ : ∃ W, L.map (wv true) = W := ⟨_, rfl⟩
 have hWl : W.length = L.length := by rw [← hW]; simp
 have hWg : ∀ k (h : k < L.length), W[k]'(by omega) = wv true (L[k]'h) := by subst hW; intro k h; simp
 rw [hW]
 obtain ⟨ax, s', ⟨rfl, rfl⟩, hin⟩ : ∃ ax s', (ax = .ex 0 ∧ s' = ⟨[(3, .sl 3 L.length 0 L.length)], [(3, ⟨1, intRows W⟩)]⟩) ∧ ∀ s0, nrm [3, 7, 8, 9] [3, 20] s0 = ⟨[(3, .sl 3 0 0 0), (7, vT L), (8, i64 L.length), (9, i64 (0 : Nat))], [(3, ⟨1, intRows (W.take 0)⟩)]⟩ → lp (exec Γ M trip_Waits_l1) M s0 = some (ax, s') := by
  refine lp_all (fun q : Nat => ⟨[(3, .sl 3 q 0 q), (7, vT L), (8, i64 L.length), (9, i64 q)], [(3, ⟨1, intRows (W.take q)⟩)]⟩) (fun q => q ≤ L.length) (fun q => L.length - q) _ 0 M (by simp) (by simp) (by omega) ?_
  intro k hk
  by_cases hlt : k < L.length
  ·obtain ⟨t, ht⟩ : ∃ w, L[k]'hlt = w := ⟨_, rfl⟩
   have hrow := trip_get hlt ht
   obtain ⟨b1, b2, b3⟩ := htm t (ht ▸ List.getElem_mem hlt)
   have hrl : (intRows (W.take k)).length = k := by rw [iRows_len, List.length_take]; omega
   have hrc : ∀ z, lcRows z (intRows (W.take k)) = true := fun z => lcRows_comp z intD _
   have hrn : ∀ z, nmRows z (intRows (W.take k)) = true := fun z => nmRows_comp z intD _
   have hsn : intRows (W.take (k + 1)) = intRows (W.take k) ++ [[i64 (t.board - t.arrive)]] := by
    rw [List.take_succ_eq_append_getElem (by omega), hWg k hlt, ht, iRows_snoc]; rfl
   simp only [Trip.cells] at hrow
   generalize intRows (W.take k) = G at *
   simp -implicitDefEqProofs (disch := first | omega | (simp [hrl, hrc, hrn] <;> fail) | assumption) [hlt, hrow, hrl, hrc, hrn]
   exact ⟨k + 1, ⟨⟨by omega, by omega⟩, hsn.symm⟩, by omega, by omega⟩
  ·obtain rfl : k = L.length := by omega
   rw [← hWl, List.take_length]
   simp -implicitDefEqProofs (disch := first | omega | assumption) [hWl]
 have hlp := hin ⟨[(3, .sl 3 0 0 0), (7, vT L), (8, i64 L.length), (9, i64 0)], [(3, ⟨1, []⟩)]⟩ (by simp [intRows])
 have ha := allRows_comp intD W
 have hrl := iRows_len W
 rw [hWl] at hrl
 have hF2 : (W.map intD).take L.length = W.map intD := by rw [List.take_of_length_le]; simp [hWl]
 rw [show W.map (toAV ∘ intD) = intRows W from rfl] at ha
 generalize intRows W = G at *
 simp only [vI]
 generalize W.map intD = X at *
 simp -implicitDefEqProofs (disch := first | omega | assumption) [eD, hlp, ha, hrl, hF2]
def RWaitsC (g : List AV → Option (List AV)) : Prop := ∀ (l : List Trip) (w : Bool), Gd l → g [vT l, bo w] = some [vI (wt w l)]
theorem ref24_Waits_run (Γ : Env) (M : Nat) (hM : 1000 < M) (hA : TAtC (Γ 407)) : RWaitsC (run Γ M ref24_Waits_f) := by
 intro l w hg
 have hgn := hg.n
 obtain ⟨ax, s', ⟨rfl, rfl⟩, hin⟩ : ∃ ax s', (ax = .ex 0 ∧ s' = ⟨[(5, .sl 5 (wt w l).length 0 (wt w l).length)], [(5, ⟨1, intRows (wt w l)⟩)]⟩) ∧ ∀ s0, nrm [0, 1, 5, 6] [5, 33, 47] s0 = ⟨[(0, vT l), (1, bo w), (5, .sl 5 (wt w (l.take 0)).length 0 (wt w (l.take 0)).length), (6, i64 (0 : Nat))], [(5, ⟨1, intRows (wt w (l.take 0))⟩)]⟩ → lp (exec Γ M ref24_Waits_l1) M s0 = some (ax, s') := by
  refine lp_all (fun q : Nat => ⟨[(0, vT l), (1, bo w), (5, .sl 5 (wt w (l.take q)).length 0 (wt w (l.take q)).length), (6, i64 q)], [(5, ⟨1, intRows (wt w (l.take q))⟩)]⟩) (fun q => q ≤ l.length) (fun q => l.length - q) _ 0 M (by simp) (by simp) (by omega) ?_
  intro k hk
  by_cases hlt : k < l.length
  ·obtain ⟨t, ht⟩ : ∃ w, l[k]'hlt = w := ⟨_, rfl⟩
   have hrow := trip_get hlt ht
   obtain ⟨b1, b2, b3⟩ := hg.all t (ht ▸ List.getElem_mem hlt)
   have e := hA t
   have hs := wt_snoc w l k hlt
   have hle := wt_len w (l.take k)
   rw [List.length_take] at hle
   rw [ht, phs_dn] at hs
   have hrl := iRows_len (wt w (l.take k))
   have hrn : ∀ z, nmRows z (intRows (wt w (l.take k))) = true := fun z => nmRows_comp z intD _
   have hrc : ∀ z, lcRows z (intRows (wt w (l.take k))) = true := fun z => lcRows_comp z intD _
   have hsn := iRows_snoc (wt w (l.take k)) (wv w t)
   simp only [Trip.cells] at e hrow
   have hgo : ∀ X : List Int, wt w (l.take (k + 1)) = X → ∃ q', ((⟨[(0, vT l), (1, bo w), (5, .sl 5 X.length 0 X.length), (6, i64 ((k : Int) + 1))], [(5, ⟨1, intRows X⟩)]⟩ : St) = ⟨[(0, vT l), (1, bo w), (5, .sl 5 (wt w (l.take q')).length 0 (wt w (l.take q')).length), (6, i64 q')], [(5, ⟨1, intRows (wt w (l.take q'))⟩)]⟩) ∧ q' ≤ l.length ∧ l.length - q' < l.length - k := by
    rintro X rfl; exact ⟨k + 1, by simp, by omega, by omega⟩
   by_cases d : phs t = 2
   ·simp only [d, decide_true, if_true] at hs
    obtain ⟨q', h1, h2, h3⟩ := hgo _ hs
    rw [hsn, List.length_append, List.length_singleton] at h1
    generalize intRows (wt w (l.take k)) = G at *
    generalize (wt w (l.take k)).length = n at *
    rw [d] at e
    cases w with
    | true =>
     rw [show wv true t = t.board - t.arrive from rfl] at h1
     simp -implicitDefEqProofs (disch := first | omega | (simp [hrl, hrc, hrn] <;> fail) | assumption) [hlt, ht, hrow, e, hrl, hrc, hrn]
     exact ⟨q', by simpa using h1, h2, h3⟩
    | false =>
     rw [show wv false t = t.alight - t.board from rfl] at h1
     simp -implicitDefEqProofs (disch := first | omega | (simp [hrl, hrc, hrn] <;> fail) | assumption) [hlt, ht, hrow, e, hrl, hrc, hrn]
     exact ⟨q', by simpa using h1, h2, h3⟩
   ·simp only [d, decide_false, Bool.false_eq_true, if_false, List.append_nil] at hs
    obtain ⟨q', h1, h2, h3⟩ := hgo _ hs
    generalize intRows (wt w (l.take k)) = G at *
    generalize (wt w (l.take k)).length = n at *
    simp -implicitDefEqProofs (disch := first | omega | (simp [hrl, hrc, hrn] <;> fail) | assumption) [hlt, ht, hrow, e, hrl, hrc, hrn, d]
    exact ⟨q', by simpa using h1, h2, h3⟩
  ·obtain rfl : k = l.length := by omega
   rw [List.take_length]
   simp -implicitDefEqProofs (disch := first | omega | assumption)
 have hlp := hin ⟨[(0, vT l), (1, bo w), (5, .sl 5 0 0 0), (6, i64 0)], [(5, ⟨1, []⟩)]⟩ (by simp [wt, doneL, intRows])
 have ha := allRows_comp intD (wt w l)
 have hrl := iRows_len (wt w l)
 have hle := wt_len w l
 have hF2 : ((wt w l).map intD).take (wt w l).length = (wt w l).map intD := by rw [List.take_of_length_le]; simp
 rw [show (wt w l).map (toAV ∘ intD) = intRows (wt w l) from rfl] at ha
 generalize intRows (wt w l) = G at *
 simp only [vI]
 generalize (wt w l).map intD = X at *
 generalize (wt w l).length = n at *
 simp -implicitDefEqProofs (disch := first | omega | assumption) [hlp, ha, hrl, hF2]
end Go.Am
namespace Go.Am
def Great24 (g : List AV → Option (List AV)) : Prop := ∀ l : List Trip, ∃ b, g [vT l] = some [bo b] ∧ (b = false → Gd l)
theorem law24_Great_run (Γ : Env) (M : Nat) (hM : 1000 < M) : Great24 (run Γ M law24_Great_f) := by
 intro l
 by_cases c : 100 < l.length
 ·have c' : 100 < (l.length : Int) := by omega
  exact ⟨true, by simp -implicitDefEqProofs (disch := first | omega | assumption) [c, c'], by simp⟩
 have c' : ¬ 100 < (l.length : Int) := by omega
 obtain ⟨ax, s', hR, hin⟩ : ∃ ax s', ((ax = .ex 0 ∧ s' = ⟨[], []⟩ ∧ ∀ t ∈ l, Tm t) ∨ (ax = .ret ∧ s' = ⟨[(2, bo true)], []⟩)) ∧ ∀ s0, nrm [0, 3] [] s0 = ⟨[(0, vT l), (3, i64 (0 : Nat))], []⟩ → lp (exec Γ M law24_Great_l1) M s0 = some (ax, s') := by
  refine lp_all (fun q : Nat => ⟨[(0, vT l), (3, i64 q)], []⟩) (fun q => q ≤ l.length ∧ ∀ t ∈ l.take q, Tm t) (fun q => l.length - q) _ 0 M (by simp) ⟨by simp, by simp⟩ (by omega) ?_
  rintro k ⟨hk, hq⟩
  by_cases hlt : k < l.length
  ·obtain ⟨t, ht⟩ : ∃ w, l[k]'hlt = w := ⟨_, rfl⟩
   have hrow := trip_get hlt ht
   obtain ⟨m, hm, hm2⟩ := mxL_spec [t.board, t.alight] t.arrive
   have hm3 := hm2 1073741824
   simp only [List.map_cons, List.map_nil, List.forall_mem_cons, Trip.cells] at hm hm3 hrow
   have hnext : Tm t → ∀ x ∈ l.take (k + 1), Tm x := by
    intro h x hx
    rw [List.take_succ_eq_append_getElem hlt, ht, List.mem_append] at hx
    rcases hx with hx | hx
    ·exact hq x hx
    ·rw [List.mem_singleton] at hx; exact hx ▸ h
   by_cases c1 : t.arrive < -1
   ·simp -implicitDefEqProofs (disch := first | omega | assumption) [-maxL, hlt, hrow, hm, c1]
   by_cases c2 : t.board < -1
   ·simp -implicitDefEqProofs (disch := first | omega | assumption) [-maxL, hlt, hrow, hm, c1, c2]
   by_cases c3 : t.alight < -1
   ·simp -implicitDefEqProofs (disch := first | omega | assumption) [-maxL, hlt, hrow, hm, c1, c2, c3]
   by_cases c4 : 1073741824 < m
   ·simp -implicitDefEqProofs (disch := first | omega | assumption) [-maxL, hlt, hrow, hm, c1, c2, c3, c4]
   ·obtain ⟨d1, d2, d3, -⟩ := hm3.1 (by omega)
    have hn := hnext ⟨⟨by omega, d1⟩, ⟨by omega, d2⟩, ⟨by omega, d3⟩⟩
    simp -implicitDefEqProofs (disch := first | omega | assumption) [-maxL, hlt, hrow, hm, c1, c2, c3, c4]
    exact ⟨k + 1, by omega, ⟨by omega, hn⟩, by omega⟩
  ·obtain rfl : k = l.length := by omega
   rw [List.take_length] at hq
   simp -implicitDefEqProofs (disch := first | omega | assumption)
   exact hq
 rcases hR with ⟨rfl, rfl, hok⟩ | ⟨rfl, rfl⟩
 ·exact ⟨false, by simp -implicitDefEqProofs (disch := first | omega | (simp <;> fail) | assumption) [c, c', hin], fun _ => ⟨by omega, hok⟩⟩
 ·exact ⟨true, by simp -implicitDefEqProofs (disch := first | omega | (simp <;> fail) | assumption) [c, c', hin], by simp⟩
def ManyC24 (g : List AV → Option (List AV)) : Prop := ∀ (l : List Trip) (p : Int), l.length ≤ 100 → g [vT l, i64 p] = some [i64 (cntP p l)]
theorem ref24_Many_run (Γ : Env) (M : Nat) (hM : 1000 < M) (hA : TAtC (Γ 407)) : ManyC24 (run Γ M ref24_Many_f) := by
 intro l p hl
 obtain ⟨ax, s', ⟨rfl, rfl⟩, hin⟩ : ∃ ax s', (ax = .ex 0 ∧ s' = ⟨[(5, i64 (cntP p l))], []⟩) ∧ ∀ s0, nrm [0, 1, 5, 6] [] s0 = ⟨[(0, vT l), (1, i64 p), (5, i64 (cntP p (l.take 0))), (6, i64 (0 : Nat))], []⟩ → lp (exec Γ M ref24_Many_l1) M s0 = some (ax, s') := by
  refine lp_all (fun q : Nat => ⟨[(0, vT l), (1, i64 p), (5, i64 (cntP p (l.take q))), (6, i64 q)], []⟩) (fun q => q ≤ l.length) (fun q => l.length - q) _ 0 M (by simp) (by simp) (by omega) ?_
  intro k hk
  by_cases hlt : k < l.length
  ·obtain ⟨t, ht⟩ : ∃ w, l[k]'hlt = w := ⟨_, rfl⟩
   have hrow := trip_get hlt ht
   have e := hA t
   have hs := cntP_snoc p l k hlt
   have hle := cntP_le p (l.take k)
   rw [List.length_take] at hle
   rw [ht] at hs
   simp only [Trip.cells] at e hrow
   generalize cntP p (l.take k) = c at *
   by_cases d : phs t = p
   ·rw [if_pos d] at hs
    simp -implicitDefEqProofs (disch := first | omega | assumption) [hlt, ht, hrow, e, d]
    exact ⟨k + 1, by omega, by omega, by omega⟩
   ·rw [if_neg d] at hs
    simp -implicitDefEqProofs (disch := first | omega | assumption) [hlt, ht, hrow, e, d]
    exact ⟨k + 1, by omega, by omega, by omega⟩
  ·obtain rfl : k = l.length := by omega
   rw [List.take_length]
   simp -implicitDefEqProofs (disch := first | omega | assumption)
 have hlp : lp (exec Γ M ref24_Many_l1) M ⟨[(0, vT l), (1, i64 p), (5, i64 0), (6, i64 0)], []⟩ = some (.ex 0, ⟨[(5, i64 (cntP p l))], []⟩) := hin _ (by simp [cntP])
 simp -implicitDefEqProofs (disch := first | omega | assumption) [hlp]
def CountsC (g : List AV → Option (List AV)) : Prop := ∀ l : List Trip, l.length ≤ 100 → g [vT l] = some [i64 (cntP 2 l), i64 (cntP 1 l), i64 (cntP 0 l)]
theorem trip_Counts_run (Γ : Env) (M : Nat) (hM : 1000 < M) (hA : TAtC (Γ 51)) : CountsC (run Γ M trip_Counts_f) := by
 intro l hl
 obtain ⟨ax, s', ⟨rfl, rfl⟩, hin⟩ : ∃ ax s', (ax = .ex 0 ∧ s' = ⟨[(5, .loc 5 0 0)], [(5, ⟨3, [[i64 (cntP 0 l), i64 (cntP 1 l), i64 (cntP 2 l)]]⟩)]⟩) ∧ ∀ s0, nrm [5, 8, 9, 10] [5] s0 = ⟨[(5, .loc 5 0 0), (8, vT l), (9, i64 l.length), (10, i64 (0 : Nat))], [(5, ⟨3, [[i64 (cntP 0 (l.take 0)), i64 (cntP 1 (l.take 0)), i64 (cntP 2 (l.take 0))]]⟩)]⟩ → lp (exec Γ M trip_Counts_l1) M s0 = some (ax, s') := by
  refine lp_all (fun q : Nat => ⟨[(5, .loc 5 0 0), (8, vT l), (9, i64 l.length), (10, i64 q)], [(5, ⟨3, [[i64 (cntP 0 (l.take q)), i64 (cntP 1 (l.take q)), i64 (cntP 2 (l.take q))]]⟩)]⟩) (fun q => q ≤ l.length) (fun q => l.length - q) _ 0 M (by simp) (by simp) (by omega) ?_
  intro k hk
  by_cases hlt : k < l.length
  ·obtain ⟨t, ht⟩ : ∃ w, l[k]'hlt = w := ⟨_, rfl⟩
   have hrow := trip_get hlt ht
   have e := hA t
   have hs0 := cntP_snoc 0 l k hlt
   have hs1 := cntP_snoc 1 l k hlt
   have hs2 := cntP_snoc 2 l k hlt
   have hle0 := cntP_le 0 (l.take k)
   have hle1 := cntP_le 1 (l.take k)
   have hle2 := cntP_le 2 (l.take k)
   rw [List.length_take] at hle0 hle1 hle2
   rw [ht] at hs0 hs1 hs2
   simp only [Trip.cells] at e hrow
   generalize cntP 0 (l.take k) = c0 at *
   generalize cntP 1 (l.take k) = c1 at *
   generalize cntP 2 (l.take k) = c2 at *
   rcases phs_in t with d | d | d
   ·rw [d] at e hs0 hs1 hs2
    simp at hs0 hs1 hs2
    simp -implicitDefEqProofs (disch := first | omega | assumption) [hlt, ht, hrow, e]
    exact ⟨k + 1, ⟨by omega, by omega, by omega, by omega⟩, by omega, by omega⟩
   ·rw [d] at e hs0 hs1 hs2
    simp at hs0 hs1 hs2
    simp -implicitDefEqProofs (disch := first | omega | assumption) [hlt, ht, hrow, e]
    exact ⟨k + 1, ⟨by omega, by omega, by omega, by omega⟩, by omega, by omega⟩
   ·rw [d] at e hs0 hs1 hs2
    simp at hs0 hs1 hs2
    simp -implicitDefEqProofs (disch := first | omega | assumption) [hlt, ht, hrow, e]
    exact ⟨k + 1, ⟨by omega, by omega, by omega, by omega⟩, by omega, by omega⟩
  ·obtain rfl : k = l.length := by omega
   rw [List.take_length]
   simp -implicitDefEqProofs (disch := first | omega | assumption)
 have hlp := hin ⟨[(5, .loc 5 0 0), (8, vT l), (9, i64 l.length), (10, i64 0)], [(5, ⟨3, [[i64 0, i64 0, i64 0]]⟩)]⟩ (by simp [cntP])
 simp -implicitDefEqProofs (disch := first | omega | assumption) [hlp]
theorem trip_Transits_run (Γ : Env) (M : Nat) (hM : 1000 < M) (hD : DoneC (Γ 408)) : WaitsF (run Γ M trip_Transits_f) := by
 intro l hg
 have eD := hD l hg.n
 have hdl := doneL_len l
 have hgn := hg.n
 have htm : ∀ t ∈ doneL l, Tm t := fun t ht => hg.all t (doneL_mem ht)
 unfold wt
 generalize doneL l = L at *
 obtain ⟨W, hW⟩ : ∃ W, L.map (wv false) = W := ⟨_, rfl⟩
 have hWl : W.length = L.length := by rw [← hW]; simp
 have hWg : ∀ k (h : k < L.length), W[k]'(by omega) = wv false (L[k]'h) := by subst hW; intro k h; simp
 rw [hW]
 obtain ⟨ax, s', ⟨rfl, rfl⟩, hin⟩ : ∃ ax s', (ax = .ex 0 ∧ s' = ⟨[(3, .sl 3 L.length 0 L.length)], [(3, ⟨1, intRows W⟩)]⟩) ∧ ∀ s0, nrm [3, 7, 8, 9] [3, 20] s0 = ⟨[(3, .sl 3 0 0 0), (7, vT L), (8, i64 L.length), (9, i64 (0 : Nat))], [(3, ⟨1, intRows (W.take 0)⟩)]⟩ → lp (exec Γ M trip_Transits_l1) M s0 = some (ax, s') := by
  refine lp_all (fun q : Nat => ⟨[(3, .sl 3 q 0 q), (7, vT L), (8, i64 L.length), (9, i64 q)], [(3, ⟨1, intRows (W.take q)⟩)]⟩) (fun q => q ≤ L.length) (fun q => L.length - q) _ 0 M (by simp) (by simp) (by omega) ?_
  intro k hk
  by_cases hlt : k < L.length
  ·obtain ⟨t, ht⟩ : ∃ w, L[k]'hlt = w := ⟨_, rfl⟩
   have hrow := trip_get hlt ht
   obtain ⟨b1, b2, b3⟩ := htm t (ht ▸ List.getElem_mem hlt)
   have hrl : (intRows (W.take k)).length = k := by rw [iRows_len, List.length_take]; omega
   have hrc : ∀ z, lcRows z (intRows (W.take k)) = true := fun z => lcRows_comp z intD _
   have hrn : ∀ z, nmRows z (intRows (W.take k)) = true := fun z => nmRows_comp z intD _
   have hsn : intRows (W.take (k + 1)) = intRows (W.take k) ++ [[i64 (t.alight - t.board)]] := by
    rw [List.take_succ_eq_append_getElem (by omega), hWg k hlt, ht, iRows_snoc]; rfl
   simp only [Trip.cells] at hrow
   generalize intRows (W.take k) = G at *
   simp -implicitDefEqProofs (disch := first | omega | (simp [hrl, hrc, hrn] <;> fail) | assumption) [hlt, hrow, hrl, hrc, hrn]
   exact ⟨k + 1, ⟨⟨by omega, by omega⟩, hsn.symm⟩, by omega, by omega⟩
  ·obtain rfl : k = L.length := by omega
   rw [← hWl, List.take_length]
   simp -implicitDefEqProofs (disch := first | omega | assumption) [hWl]
 have hlp := hin ⟨[(3, .sl 3 0 0 0), (7, vT L), (8, i64 L.length), (9, i64 0)], [(3, ⟨1, []⟩)]⟩ (by simp [intRows])
 have ha := allRows_comp intD W
 have hrl := iRows_len W
 rw [hWl] at hrl
 have hF2 : (W.map intD).take L.length = W.map intD := by rw [List.take_of_length_le]; simp [hWl]
 rw [show W.map (toAV ∘ intD) = intRows W from rfl] at ha
 generalize intRows W = G at *
 simp only [vI]
 generalize W.map intD = X at *
 simp -implicitDefEqProofs (disch := first | omega | assumption) [eD, hlp, ha, hrl, hF2]
end Go.Am
namespace Go.Am
theorem dg_in {d : Int} (h0 : 0 ≤ d) (h : d ≤ 9) : 48 ≤ (dg d).toNat ∧ (dg d).toNat ≤ 57 := by
 have := dg_toNat h0 h; omega
theorem digF_in : ∀ (k : Nat) (n : Int), 0 ≤ n → ∀ b ∈ digF k n, 48 ≤ b.toNat ∧ b.toNat ≤ 57
 | 0, n, _, b, h => by simp [digF] at h
 | k + 1, n, h0, b, h => by
  simp only [digF] at h
  split at h
  ·rw [List.mem_singleton] at h; subst h; exact dg_in h0 (by omega)
  ·rw [List.mem_append] at h
   rcases h with h | h
   ·exact digF_in k (n / 10) (by omega) b h
   ·rw [List.mem_singleton] at h; subst h; exact dg_in (by omega) (by omega)
theorem digF_ne : ∀ (k : Nat) (n : Int), 0 < k → digF k n ≠ []
 | 0, n, h => by omega
 | k + 1, n, _ => by simp only [digF]; split <;> simp
theorem txt_word {n : Int} (h : 0 ≤ n) : txt n ≠ [] ∧ (32 : UInt8) ∉ txt n := by
 unfold txt; rw [if_neg (by omega)]
 refine ⟨digF_ne 20 n (by omega), fun hm => ?_⟩
 have := digF_in 20 n h _ hm
 simp at this
theorem txtL {n : Int} (h : 0 ≤ n) : (txt n).length ≤ 20 := by unfold txt; rw [if_neg (by omega)]; exact dig_len n
def valD (l : List UInt8) : Int := l.foldl (fun a b => 10 * a + ((b.toNat : Int) - 48)) 0
theorem valD_snoc (l : List UInt8) (b : UInt8) : valD (l ++ [b]) = 10 * valD l + ((b.toNat : Int) - 48) := by unfold valD; simp
theorem valD_take (l : List UInt8) (k : Nat) (h : k < l.length) : valD (l.take (k + 1)) = 10 * valD (l.take k) + ((l[k].toNat : Int) - 48) := by
 rw [List.take_succ_eq_append_getElem h, valD_snoc]
def goodD (n : Nat) : Bool := (dig n).length ≤ 3 && decide (valD (dig n) = n) && (decide ((dig n).length = 1) || decide ((dig n).head? ≠ some 48)) && (List.range 4).all fun k => decide (0 ≤ valD ((dig n).take k)) && decide (valD ((dig n).take k) ≤ 100)
theorem goodD_all : ∀ n, n < 101 → goodD n = true := by
 intro n h
 have : (List.range 101).all goodD = true := by decide +kernel
 exact List.all_eq_true.1 this n (List.mem_range.2 h)
def binOf (b w x : Int) : Int := min (x / w) (b - 1)
def binC (b w : Int) (l : List Int) (i : Nat) : Nat := (l.filter fun x => decide (binOf b w x = i)).length
def binsL (b w : Int) (l : List Int) : List Int := (List.range b.toNat).map fun i => (binC b w l i : Int)
theorem binsL_len (b w : Int) (l : List Int) : (binsL b w l).length = b.toNat := by simp [binsL]
theorem binC_le (b w : Int) (l : List Int) (i : Nat) : binC b w l i ≤ l.length := List.length_filter_le _ _
theorem binOf_in {b w x : Int} (hb : 1 ≤ b) (hw : 1 ≤ w) (hx : 0 ≤ x) : 0 ≤ binOf b w x ∧ binOf b w x < b := by
 have h : 0 ≤ x / w := Int.ediv_nonneg hx (by omega)
 unfold binOf; omega
theorem binC_snoc (b w : Int) (l : List Int) (x : Int) (i : Nat) : binC b w (l ++ [x]) i = binC b w l i + if binOf b w x = i then 1 else 0 := by
 unfold binC; rw [List.filter_append, List.length_append]; congr 1
 by_cases c : binOf b w x = i <;> simp [c]
theorem binsL_snoc {b w : Int} (l : List Int) {x : Int} {j : Nat} (hj : binOf b w x = j) (hjb : j < b.toNat) : binsL b w (l ++ [x]) = (binsL b w l).set j ((binC b w l j : Int) + 1) := by
 apply List.ext_getElem
 ·simp [binsL]
 ·intro i h1 h2
  rw [List.getElem_set]
  simp only [binsL, List.getElem_map, List.getElem_range, binC_snoc, hj]
  by_cases c : j = i
  ·subst c; simp
  ·have : ¬ (j : Int) = i := by omega
   simp [c, this]
theorem binsL_nil (b w : Int) : binsL b w [] = List.replicate b.toNat 0 := by
 apply List.ext_getElem
 ·simp [binsL]
 ·intro i h1 h2; simp [binsL, binC]
theorem binsL_get (b w : Int) (l : List Int) {i : Nat} (h : i < b.toNat) : (binsL b w l)[i]'(by rw [binsL_len]; exact h) = binC b w l i := by simp [binsL]
def sumB (b w : Int) (l : List Int) : Nat → Int
 | 0 => 0
 | k + 1 => sumB b w l k + binC b w l k
theorem sumB_snoc (b w : Int) (l : List Int) (x : Int) : ∀ k : Nat, sumB b w (l ++ [x]) k = sumB b w l k + if 0 ≤ binOf b w x ∧ binOf b w x < k then 1 else 0
 | 0 => by simp [sumB]
 | k + 1 => by
  simp only [sumB, sumB_snoc b w l x k, binC_snoc]
  by_cases c : binOf b w x = k
  ·rw [if_neg (by omega), if_pos c, if_pos (by omega)]; omega
  ·rw [if_neg c]
   by_cases d : 0 ≤ binOf b w x ∧ binOf b w x < k
   ·rw [if_pos d, if_pos (by omega)]; omega
   ·rw [if_neg d, if_neg (by omega)]; omega
theorem sumB_nil (b w : Int) : ∀ k : Nat, sumB b w [] k = 0
 | 0 => rfl
 | k + 1 => by simp [sumB, sumB_nil b w k, binC]
theorem sumB_all {b w : Int} (hb : 1 ≤ b) (hw : 1 ≤ w) : ∀ l : List Int, (∀ x ∈ l, 0 ≤ x) → sumB b w l b.toNat = l.length := by
 intro l hl
 have key : ∀ k, k ≤ l.length → sumB b w (l.take k) b.toNat = k := by
  intro k
  induction k with
  | zero => intro _; simp [sumB_nil]
  | succ k ih =>
   intro hk
   rw [List.take_succ_eq_append_getElem (by omega), sumB_snoc, ih (by omega)]
   have := binOf_in hb hw (hl _ (List.getElem_mem (by omega : k < l.length)))
   rw [if_pos ⟨this.1, by omega⟩]; omega
 have := key l.length (Nat.le_refl _)
 rwa [List.take_length] at this
theorem sumB_in (b w : Int) (l : List Int) : ∀ k : Nat, 0 ≤ sumB b w l k ∧ sumB b w l k ≤ k * l.length
 | 0 => by simp [sumB]
 | k + 1 => by
  have h1 := sumB_in b w l k
  have h2 := binC_le b w l k
  simp only [sumB]
  have h3 : ((k + 1 : Nat) : Int) * l.length = k * l.length + l.length := by rw [Int.natCast_add, Int.add_mul]; simp
  omega
end Go.Am
namespace Go.Am
abbrev vZ (l : List Int) : AV := .c (.vs 1 (l.map numQ))
def iR (l : List Int) : Rows := l.map (toAV ∘ numQ)
theorem iR_len (l : List Int) : (iR l).length = l.length := by simp [iR]
theorem iR_set (l : List Int) (j : Nat) (z : Int) : iR (l.set j z) = (iR l).set j [i64 z] := by
 unfold iR; rw [List.map_set]; rfl
structure Ns (l : List Int) : Prop where
 n : l.length ≤ 100
 all : ∀ x ∈ l, 0 ≤ x ∧ x ≤ 1073741824
structure Bw (b w : Int) : Prop where
 b : 1 ≤ b ∧ b ≤ 64
 w : 1 ≤ w ∧ w ≤ 4096
def HRightC (g : List AV → Option (List AV)) : Prop := ∀ b w : Int, Bw b w → g [i64 b, i64 w] = some [bo true]
theorem hist_Right_run (Γ : Env) (M : Nat) : HRightC (run Γ M hist_Right_f) := by
 rintro b w ⟨⟨h1, h2⟩, h3, h4⟩
 simp -implicitDefEqProofs (disch := omega)
def HBinC (g : List AV → Option (List AV)) : Prop := ∀ b w x : Int, Bw b w → 0 ≤ x → x ≤ 1073741824 → g [i64 b, i64 w, i64 x] = some [i64 (binOf b w x), i64 0]
theorem hist_Bin_run {Γ : Env} {M : Nat} (h1 : HRightC (Γ 443)) : HBinC (run Γ M hist_Bin_f) := by
 intro b w x hbw hx0 hx
 have e1 := h1 b w hbw
 obtain ⟨⟨b1, b2⟩, w1, w2⟩ := hbw
 have p1 : 0 ≤ x / w := Int.ediv_nonneg hx0 (by omega)
 have p2 : x / w ≤ x := Int.ediv_le_self _ hx0
 have hx1 : ¬ x < 0 := by omega
 have hw0 : ¬ w = 0 := by omega
 unfold binOf
 by_cases c : b - 1 < x / w
 ·simp -implicitDefEqProofs (disch := omega) [e1, hx1, hw0, c]
  omega
 ·simp -implicitDefEqProofs (disch := omega) [e1, hx1, hw0, c]
  omega
def HEdgeC (g : List AV → Option (List AV)) : Prop := ∀ (b w : Int) (i : Nat), Bw b w → (i : Int) < b → g [i64 b, i64 w, i64 i] = some (if (i : Int) = b - 1 then [i64 (i * w), i64 0, bo false] else [i64 (i * w), i64 ((i + 1) * w), bo true])
theorem edge_in {b w : Int} {i : Nat} (h : Bw b w) (hi : (i : Int) < b) : (0 ≤ (i : Int) * w ∧ (i : Int) * w ≤ 300000) ∧ (1 ≤ ((i : Int) + 1) * w ∧ ((i : Int) + 1) * w ≤ 300000) := by
 obtain ⟨⟨b1, b2⟩, w1, w2⟩ := h
 have h1 : 0 ≤ (i : Int) * w := Int.mul_nonneg (by omega) (by omega)
 have h2 : (i : Int) * w ≤ 64 * w := Int.mul_le_mul_of_nonneg_right (by omega) (by omega)
 have h3 : ((i : Int) + 1) * w = i * w + w := by rw [Int.add_mul]; simp
 omega
theorem hist_Edge_run {Γ : Env} {M : Nat} (h1 : HRightC (Γ 443)) : HEdgeC (run Γ M hist_Edge_f) := by
 intro b w i hbw hi
 have e1 := h1 b w hbw
 obtain ⟨⟨m1, m2⟩, m3, m4⟩ := edge_in hbw hi
 obtain ⟨⟨b1, b2⟩, w1, w2⟩ := hbw
 by_cases c : (i : Int) = b - 1
 ·simp only [if_pos c]
  simp -implicitDefEqProofs (disch := omega) [e1, c]
  rw [← c]
  exact wrapK_i64 (by omega) (by omega)
 ·simp only [if_neg c]
  simp -implicitDefEqProofs (disch := omega) [e1, c]
def edgeT (b w : Int) (i : Nat) : List UInt8 := if (i : Int) = b - 1 then txt (i * w) ++ [43] else txt (i * w) ++ 45 :: txt ((i + 1) * w - 1)
def EdgeC (g : List AV → Option (List AV)) : Prop := ∀ (b w : Int) (i : Nat), Bw b w → (i : Int) < b → g [i64 b, i64 w, i64 i] = some [st (edgeT b w i)]
theorem report_edge_run {Γ : Env} {M : Nat} (h1 : HEdgeC (Γ 444)) (h2 : Of (Γ 50)) : EdgeC (run Γ M report_edge_f) := by
 intro b w i hbw hi
 have e1 := h1 b w i hbw hi
 obtain ⟨⟨m1, m2⟩, m3, m4⟩ := edge_in hbw hi
 have e2 := h2 (i * w) ⟨by omega, by omega⟩
 have e3 := h2 ((i + 1) * w - 1) ⟨by omega, by omega⟩
 have l2 := txtL m1
 have l3 := txtL (n := ((i : Int) + 1) * w - 1) (by omega)
 have hms : (1000 : Nat) ≤ maxStr := by decide
 unfold edgeT
 generalize ((i : Int) + 1) * w = B at *
 generalize (i : Int) * w = A at *
 by_cases c : (i : Int) = b - 1
 ·rw [if_pos c] at e1 ⊢
  generalize txt A = T at *
  simp -implicitDefEqProofs (disch := first | omega | ((try simp only [List.length_append, List.length_cons, List.length_nil, maxStr_eq]); omega) | assumption) [e1, e2, binS_add]
 ·rw [if_neg c] at e1 ⊢
  generalize txt A = T at *
  generalize txt (B - 1) = T2 at *
  simp -implicitDefEqProofs (disch := first | omega | ((try simp only [List.length_append, List.length_cons, List.length_nil, maxStr_eq]); omega) | assumption) [e1, e2, e3, binS_add]
def HOfC (g : List AV → Option (List AV)) : Prop := ∀ (b w : Int) (l : List Int), Bw b w → Ns l → g [i64 b, i64 w, vZ l] = some [vZ (binsL b w l), i64 0]
theorem hist_Of_run {Γ : Env} {M : Nat} (hM : 1000 < M) (h1 : HRightC (Γ 443)) (h2 : HBinC (Γ 442)) : HOfC (run Γ M hist_Of_f) := by
 intro b w l hbw hl
 have e1 := h1 b w hbw
 have hn := hl.n
 have hb := hbw.b
 obtain ⟨N, hN⟩ : ∃ N, b.toNat = N := ⟨_, rfl⟩
 have hbN : b = (N : Int) := by omega
 have hz := binsL_nil b w
 rw [hN] at hz
 obtain ⟨ax, s', ⟨rfl, rfl⟩, hin⟩ : ∃ ax s', (ax = .ex 0 ∧ s' = ⟨[(8, .sl 18 N 0 N)], [(18, ⟨1, iR (binsL b w l)⟩)]⟩) ∧ ∀ s0, nrm [0, 1, 8, 19, 20, 21] [18] s0 = ⟨[(0, i64 b), (1, i64 w), (8, .sl 18 N 0 N), (19, vZ l), (20, i64 l.length), (21, i64 (0 : Nat))], [(18, ⟨1, iR (binsL b w (l.take 0))⟩)]⟩ → lp (exec Γ M hist_Of_l1) M s0 = some (ax, s') := by
  refine lp_all (fun q : Nat => ⟨[(0, i64 b), (1, i64 w), (8, .sl 18 N 0 N), (19, vZ l), (20, i64 l.length), (21, i64 q)], [(18, ⟨1, iR (binsL b w (l.take q))⟩)]⟩) (fun q => q ≤ l.length) (fun q => l.length - q) _ 0 M (by simp) (by simp) (by omega) ?_
  intro k hk
  by_cases hlt : k < l.length
  ·obtain ⟨x, hx⟩ : ∃ z, l[k]'hlt = z := ⟨_, rfl⟩
   have hxb := hl.all x (hx ▸ List.getElem_mem hlt)
   have e2 := h2 b w x hbw hxb.1 hxb.2
   have hbi := binOf_in (x := x) hb.1 hbw.w.1 hxb.1
   obtain ⟨j, hj⟩ : ∃ j : Nat, binOf b w x = j := ⟨(binOf b w x).toNat, by omega⟩
   have hjN : j < N := by omega
   have hs := binsL_snoc (l.take k) hj (by omega)
   rw [← hx, ← List.take_succ_eq_append_getElem hlt] at hs
   have hc := binC_le b w (l.take k) j
   rw [List.length_take] at hc
   have hg : ∀ h, (iR (binsL b w (l.take k)))[j]'h = [i64 (binC b w (l.take k) j)] := by
    intro h; simp only [iR, List.getElem_map]; rw [binsL_get b w _ (by omega)]; rfl
   have hrl : (iR (binsL b w (l.take k))).length = N := by rw [iR_len, binsL_len]; omega
   have hgoal : iR (binsL b w (l.take (k + 1))) = (iR (binsL b w (l.take k))).set j [i64 ((binC b w (l.take k) j : Int) + 1)] := by rw [hs, iR_set]
   rw [hj] at e2
   generalize iR (binsL b w (l.take k)) = G at *
   generalize binC b w (l.take k) j = C at *
   simp -implicitDefEqProofs (disch := first | omega | (simp [hrl] <;> fail) | assumption) [hlt, hx, numQ, e2, hjN, hg, hrl]
   rw [List.set_eq_take_append_cons_drop, if_pos (by omega)] at hgoal
   exact ⟨k + 1, ⟨by omega, hgoal.symm⟩, by omega, by omega⟩
  ·obtain rfl : k = l.length := by omega
   rw [List.take_length]
   simp -implicitDefEqProofs (disch := first | omega | assumption)
 have hlp := hin ⟨[(0, i64 b), (1, i64 w), (8, .sl 18 N 0 N), (19, vZ l), (20, i64 l.length), (21, i64 0)], [(18, ⟨1, iR (List.replicate N 0)⟩)]⟩ (by simp [hz])
 have ha := allRows_comp numQ (binsL b w l)
 have hrl : (iR (binsL b w l)).length = N := by rw [iR_len, binsL_len]; omega
 have hF2 : ((binsL b w l).map numQ).take N = (binsL b w l).map numQ := by rw [List.take_of_length_le]; rw [List.length_map, binsL_len]; omega
 have hir : iR (List.replicate N 0) = List.replicate N [i64 0] := by simp [iR, numQ, toAV]
 rw [hir] at hlp
 rw [show (binsL b w l).map (toAV ∘ numQ) = iR (binsL b w l) from rfl] at ha
 generalize iR (binsL b w l) = G at *
 simp only [vZ]
 generalize (binsL b w l).map numQ = X at *
 subst hbN
 simp -implicitDefEqProofs (disch := first | omega | assumption) [e1, hlp, ha, hrl, hF2]
def rowRb (b w : Int) (l m : List Int) (i : Nat) : TRow := [edgeT b w i, txt (binC b w l i), txt (binC b w m i)]
def headRb : TRow := [[116, 105, 99, 107, 115], [119, 97, 105, 116], [116, 114, 97, 110, 115, 105, 116]]
def tabRb (b w : Int) (l m : List Int) (k : Nat) : List TRow := headRb :: (List.range k).map (rowRb b w l m)
theorem tabRb_snoc (b w : Int) (l m : List Int) (k : Nat) : tabRb b w l m (k + 1) = tabRb b w l m k ++ [rowRb b w l m k] := by
 unfold tabRb; rw [List.range_succ, List.map_append]; rfl
theorem tabRb_len (b w : Int) (l m : List Int) (k : Nat) : (tabRb b w l m k).length = k + 1 := by simp [tabRb]
def trM (rs : List TRow) : Rows := rs.map (toAV ∘ rowQ)
theorem trM_len (rs : List TRow) : (trM rs).length = rs.length := by simp [trM]
theorem trM_snoc (rs : List TRow) (r : TRow) : trM (rs ++ [r]) = trM rs ++ [[vR r]] := by simp [trM, rowQ, toAV]
def BinsC (g : List AV → Option (List AV)) : Prop := ∀ (b w : Int) (l m : List Int), Bw b w → Ns l → Ns m → g [i64 b, i64 w, vZ l, vZ m] = some [vRs (tabRb b w l m b.toNat)]
theorem report_Bins_run {Γ : Env} {M : Nat} (hM : 1000 < M) (h1 : HOfC (Γ 440)) (h2 : EdgeC (Γ 439)) (h3 : Of (Γ 50)) : BinsC (run Γ M report_Bins_f) := by
 intro b w l m hbw hl hm
 have e1 := h1 b w l hbw hl
 have e2 := h1 b w m hbw hm
 obtain ⟨N, hN⟩ : ∃ N, b.toNat = N := ⟨_, rfl⟩
 have hb := hbw.b
 have hbN : b = (N : Int) := by omega
 obtain ⟨A, hAe⟩ : ∃ A, A = binsL b w l := ⟨_, rfl⟩
 obtain ⟨B, hBe⟩ : ∃ B, B = binsL b w m := ⟨_, rfl⟩
 have hA : A.length = N := by rw [hAe, binsL_len, hN]
 have hB : B.length = N := by rw [hBe, binsL_len, hN]
 have hAg : ∀ i (h : i < N) (h2 : i < A.length), A[i]'h2 = binC b w l i := fun i h h2 => by subst hAe; exact binsL_get b w l (by omega)
 have hBg : ∀ i (h : i < N) (h2 : i < B.length), B[i]'h2 = binC b w m i := fun i h h2 => by subst hBe; exact binsL_get b w m (by omega)
 rw [← hAe] at e1
 rw [← hBe] at e2
 rw [hN]
 have hln := hl.n
 have hmn := hm.n
 obtain ⟨ax, s', ⟨rfl, rfl⟩, hin⟩ : ∃ ax s', (ax = .ex 0 ∧ s' = ⟨[(13, .sl 30 (N + 1) 0 (N + 1))], [(30, ⟨1, trM (tabRb b w l m N)⟩)]⟩) ∧ ∀ s0, nrm [0, 1, 9, 11, 13, 32, 33] [13, 30, 53] s0 = ⟨[(0, i64 b), (1, i64 w), (9, vZ A), (11, vZ B), (13, .sl 30 (0 + 1) 0 (0 + 1)), (32, i64 N), (33, i64 (0 : Nat))], [(30, ⟨1, trM (tabRb b w l m 0)⟩)]⟩ → lp (exec Γ M report_Bins_l1) M s0 = some (ax, s') := by
  refine lp_all (fun q : Nat => ⟨[(0, i64 b), (1, i64 w), (9, vZ A), (11, vZ B), (13, .sl 30 (q + 1) 0 (q + 1)), (32, i64 N), (33, i64 q)], [(30, ⟨1, trM (tabRb b w l m q)⟩)]⟩) (fun q => q ≤ N) (fun q => N - q) _ 0 M (by simp) (by simp) (by omega) ?_
  intro k hk
  by_cases hlt : k < N
  ·have hlA : k < A.length := by omega
   have hlB : k < B.length := by omega
   have ga := hAg k hlt
   have gb := hBg k hlt
   have a1 := h2 b w k hbw (by omega)
   have c1 := binC_le b w l k
   have c2 := binC_le b w m k
   have a2 := h3 (binC b w l k) ⟨by omega, by omega⟩
   have a3 := h3 (binC b w m k) ⟨by omega, by omega⟩
   have hrl := trM_len (tabRb b w l m k)
   rw [tabRb_len] at hrl
   have hrn : ∀ z, nmRows z (trM (tabRb b w l m k)) = true := fun z => nmRows_comp z rowQ _
   have hrc : ∀ z, lcRows z (trM (tabRb b w l m k)) = true := fun z => lcRows_comp z rowQ _
   have hgoal : trM (tabRb b w l m (k + 1)) = trM (tabRb b w l m k) ++ [[vR [edgeT b w k, txt (binC b w l k), txt (binC b w m k)]]] := by rw [tabRb_snoc, trM_snoc]; rfl
   generalize trM (tabRb b w l m k) = G at *
   generalize edgeT b w k = E at *
   generalize binC b w l k = c3 at *
   generalize binC b w m k = c4 at *
   simp -implicitDefEqProofs (disch := first | omega | (simp [hrl, hrc, hrn] <;> fail) | assumption) [hlt, hlA, hlB, ga, gb, numQ, a1, a2, a3, hrl, hrc, hrn]
   exact ⟨k + 1, ⟨⟨by omega, by omega⟩, hgoal.symm⟩, by omega, by omega⟩
  ·obtain rfl : k = N := by omega
   simp -implicitDefEqProofs (disch := first | omega | assumption)
 have hlp := hin ⟨[(0, i64 b), (1, i64 w), (9, vZ A), (11, vZ B), (13, .sl 30 1 0 1), (32, i64 N), (33, i64 0)], [(30, ⟨1, [[vR headRb]]⟩)]⟩ (by simp [tabRb, trM, rowQ, toAV])
 simp only [vR, headRb, List.map_cons, List.map_nil, txQ] at hlp
 have ha := allRows_comp rowQ (tabRb b w l m N)
 have hrl := trM_len (tabRb b w l m N)
 rw [tabRb_len] at hrl
 have hF2 : ((tabRb b w l m N).map rowQ).take (N + 1) = (tabRb b w l m N).map rowQ := by rw [List.take_of_length_le]; rw [List.length_map, tabRb_len]; omega
 rw [show (tabRb b w l m N).map (toAV ∘ rowQ) = trM (tabRb b w l m N) from rfl] at ha
 generalize trM (tabRb b w l m N) = G at *
 simp only [vRs]
 generalize (tabRb b w l m N).map rowQ = K at *
 simp -implicitDefEqProofs (disch := first | omega | assumption) [e1, e2, hlp, ha, hrl, hF2, hA]
theorem zs_row (r : List D) (h : All2 WT [ctI] r) : ∃ z : Int, r = numQ z ∧ True := by
 simp only [all2_cons, all2_nil, wt_i64] at h
 obtain ⟨_, _, rfl, ⟨a, rfl, ha⟩, rfl⟩ := h
 exact ⟨a, rfl, trivial⟩
theorem wt_zs {d : D} (h : WT (.sl [ctI]) d) : ∃ l : List Int, AV.c d = vZ l := by
 rw [wt_sl] at h
 obtain ⟨rows, rfl, hl, h⟩ := h
 obtain ⟨ts, rfl, -⟩ := rows_map zs_row rows h
 exact ⟨ts, rfl⟩
theorem edgeT_word {b w : Int} {i : Nat} (h : Bw b w) (hi : (i : Int) < b) : edgeT b w i ≠ [] ∧ (32 : UInt8) ∉ edgeT b w i ∧ (edgeT b w i).length ≤ 41 := by
 obtain ⟨⟨m1, m2⟩, m3, m4⟩ := edge_in h hi
 have h1 := txt_word m1
 have h2 := txt_word (n := ((i : Int) + 1) * w - 1) (by omega)
 have l1 := txtL m1
 have l2 := txtL (n := ((i : Int) + 1) * w - 1) (by omega)
 unfold edgeT
 split
 ·refine ⟨by simp, by simp [h1.2], by simp; omega⟩
 ·refine ⟨by simp, by simp [h1.2, h2.2], by simp; omega⟩
theorem tab_get {b w : Int} {l m : List Int} {n i : Nat} (h : i < n) : ((tabRb b w l m n).map rowQ)[i + 1]? = some (rowQ (rowRb b w l m i)) := by
 unfold tabRb
 rw [List.map_cons, List.getElem?_cons_succ, List.getElem?_map, List.getElem?_map, List.getElem?_range h]; rfl
end Go.Am
namespace Go.Am
structure Wg (w : List Int) : Prop where
 n : w.length ≤ 100
 all : ∀ x ∈ w, 0 ≤ x ∧ x ≤ 1073741825
theorem sumW_in {b : Int} (hb : 0 ≤ b) : ∀ l : List Int, (∀ x ∈ l, 0 ≤ x ∧ x ≤ b) → 0 ≤ l.sum ∧ l.sum ≤ b * l.length
 | [], _ => by simp
 | x :: l, h => by
  have h1 := h x (by simp)
  have h2 := sumW_in hb l fun y hy => h y (by simp [hy])
  simp only [List.sum_cons, List.length_cons]
  have h3 : b * ((l.length + 1 : Nat) : Int) = b * l.length + b := by rw [Int.natCast_add, Int.mul_add]; simp
  omega
theorem Wg.sum {w : List Int} (h : Wg w) (k : Nat) : 0 ≤ (w.take k).sum ∧ (w.take k).sum ≤ 107374182500 := by
 have h1 := sumW_in (b := 1073741825) (by omega) (w.take k) fun x hx => h.all x (List.mem_of_mem_take hx)
 have h2 : (w.take k).length ≤ 100 := by have := h.n; rw [List.length_take]; omega
 generalize (w.take k).length = n at *
 omega
theorem Wg.sumA {w : List Int} (h : Wg w) : 0 ≤ w.sum ∧ w.sum ≤ 107374182500 := by
 have := h.sum w.length
 rwa [List.take_length] at this
theorem sumk (l : List Int) (k : Nat) (h : k < l.length) : (l.take (k + 1)).sum = (l.take k).sum + l[k] := by
 rw [List.take_succ_eq_append_getElem h, List.sum_append]; simp
def MeanC8 (g : List AV → Option (List AV)) : Prop := ∀ w : List Int, Wg w → w ≠ [] → g [vI w] = some [.agg (fracD (w.sum / w.length) (w.sum % w.length) w.length), i64 0]
theorem frac_Mean_run {Γ : Env} {M : Nat} (hM : 1000 < M) (h1 : NAddC (Γ 389)) (h2 : FracOfC (Γ 387)) : MeanC8 (run Γ M frac_Mean_f) := by
 intro w hw hne
 have hn := hw.n
 have hpos := List.length_pos_iff.2 hne
 obtain ⟨ax, s', ⟨rfl, rfl⟩, hin⟩ : ∃ ax s', (ax = .ex 0 ∧ s' = ⟨[(0, vI w), (2, .loc 2 0 0), (4, i64 w.sum), (5, i64 0)], [(2, ⟨3, [[i64 0, i64 0, i64 0]]⟩)]⟩) ∧ ∀ s0, nrm [0, 2, 4, 5, 8, 9, 10] [2] s0 = ⟨[(0, vI w), (2, .loc 2 0 0), (4, i64 (w.take 0).sum), (5, i64 0), (8, vI w), (9, i64 w.length), (10, i64 (0 : Nat))], [(2, ⟨3, [[i64 0, i64 0, i64 0]]⟩)]⟩ → lp (exec Γ M frac_Mean_l1) M s0 = some (ax, s') := by
  refine lp_all (fun q : Nat => ⟨[(0, vI w), (2, .loc 2 0 0), (4, i64 (w.take q).sum), (5, i64 0), (8, vI w), (9, i64 w.length), (10, i64 q)], [(2, ⟨3, [[i64 0, i64 0, i64 0]]⟩)]⟩) (fun q => q ≤ w.length) (fun q => w.length - q) _ 0 M (by simp) (by simp) (by omega) ?_
  intro k hk
  by_cases hlt : k < w.length
  ·obtain ⟨z, hz⟩ : ∃ z, w[k]'hlt = z := ⟨_, rfl⟩
   have hs := sumk w k hlt
   rw [hz] at hs
   have hb := hw.sum k
   have hzb := hw.all z (hz ▸ List.getElem_mem hlt)
   have e := h1 (w.take k).sum z (by omega) (by omega) (by omega) (by omega)
   generalize (w.take k).sum = S at *
   have hz0 : ¬ z < 0 := by omega
   simp -implicitDefEqProofs (disch := first | omega | assumption) [hlt, hz, intD, e, hz0]
   exact ⟨k + 1, ⟨by omega, by omega⟩, by omega, by omega⟩
  ·obtain rfl : k = w.length := by omega
   rw [List.take_length]
   simp -implicitDefEqProofs (disch := first | omega | assumption)
 have hlp := hin ⟨[(0, vI w), (2, .loc 2 0 0), (4, i64 0), (5, i64 0), (8, vI w), (9, i64 w.length), (10, i64 0)], [(2, ⟨3, [[i64 0, i64 0, i64 0]]⟩)]⟩ (by simp)
 have hS := hw.sumA
 have e := h2 w.sum w.length (by omega) (by omega) (by omega) (by omega)
 rw [if_neg (by omega)] at e
 simp only [fracD] at e ⊢
 generalize w.sum = S at *
 simp -implicitDefEqProofs (disch := first | omega | assumption) [hlp, e]
theorem ref08_Mean_run {Γ : Env} {M : Nat} (hM : 1000 < M) (h1 : RAddC (Γ 375)) : MeanC8 (run Γ M ref08_Mean_f) := by
 intro w hw hne
 have hn := hw.n
 have hpos := List.length_pos_iff.2 hne
 obtain ⟨ax, s', ⟨rfl, rfl⟩, hin⟩ : ∃ ax s', (ax = .ex 0 ∧ s' = ⟨[(0, vI w), (2, .loc 2 0 0), (4, i64 w.sum), (5, bo true)], [(2, ⟨3, [[i64 0, i64 0, i64 0]]⟩)]⟩) ∧ ∀ s0, nrm [0, 2, 4, 5, 6] [2] s0 = ⟨[(0, vI w), (2, .loc 2 0 0), (4, i64 (w.take 0).sum), (5, bo true), (6, i64 (0 : Nat))], [(2, ⟨3, [[i64 0, i64 0, i64 0]]⟩)]⟩ → lp (exec Γ M ref08_Mean_l1) M s0 = some (ax, s') := by
  refine lp_all (fun q : Nat => ⟨[(0, vI w), (2, .loc 2 0 0), (4, i64 (w.take q).sum), (5, bo true), (6, i64 q)], [(2, ⟨3, [[i64 0, i64 0, i64 0]]⟩)]⟩) (fun q => q ≤ w.length) (fun q => w.length - q) _ 0 M (by simp) (by simp) (by omega) ?_
  intro k hk
  by_cases hlt : k < w.length
  ·obtain ⟨z, hz⟩ : ∃ z, w[k]'hlt = z := ⟨_, rfl⟩
   have hs := sumk w k hlt
   rw [hz] at hs
   have hb := hw.sum k
   have hzb := hw.all z (hz ▸ List.getElem_mem hlt)
   have e := h1 (w.take k).sum z (by omega) (by omega) (by omega) (by omega)
   generalize (w.take k).sum = S at *
   have hz0 : ¬ z < 0 := by omega
   simp -implicitDefEqProofs (disch := first | omega | assumption) [hlt, hz, intD, e, hz0]
   exact ⟨k + 1, ⟨by omega, by omega⟩, by omega, by omega⟩
  ·obtain rfl : k = w.length := by omega
   rw [List.take_length]
   simp -implicitDefEqProofs (disch := first | omega | assumption)
 have hlp := hin ⟨[(0, vI w), (2, .loc 2 0 0), (4, i64 0), (5, bo true), (6, i64 0)], [(2, ⟨3, [[i64 0, i64 0, i64 0]]⟩)]⟩ (by simp)
 have hS := hw.sumA
 have hd := div_in (l := w.sum) (c := w.length) hS.1 (by omega)
 have hn0 : ¬ (w.length : Int) = 0 := by omega
 simp only [fracD]
 generalize w.sum = S at *
 generalize hN : w.length = n at *
 have hn1 : ¬ n = 0 := by omega
 simp -implicitDefEqProofs (disch := first | omega | assumption) [hlp, hne, hn0, hn1, hN]
theorem pct_best {w : List Int} (hne : w ≠ []) {p z : Int} (hp : 1 ≤ p ∧ p ≤ 100) (hz : z ∈ w) (h1 : p * w.length ≤ 100 * (cntI z w : Int)) (h2 : ∀ y ∈ w, p * w.length ≤ 100 * (cntI y w : Int) → z ≤ y) : z = ofP p w := by
 have a := h2 _ (ofP_mem hp hne) (ofP_enough hp hne)
 by_cases c : z < ofP p w
 ·have := ofP_least hp hne c
  omega
 ·omega
def PctC (g : List AV → Option (List AV)) : Prop := ∀ w : List Int, Wg w → w ≠ [] → ∀ p : Int, 1 ≤ p → p ≤ 100 → g [i64 p, vI w] = some [i64 (ofP p w)]
structure PcI (p : Int) (w : List Int) (k : Nat) (best : Int) (some_ : Bool) : Prop where
 kl : k ≤ w.length
 yes : some_ = true → best ∈ w ∧ p * w.length ≤ 100 * (cntI best w : Int)
 least : ∀ y ∈ w.take k, p * w.length ≤ 100 * (cntI y w : Int) → some_ = true ∧ best ≤ y
theorem ref42_Percentile_run (Γ : Env) (M : Nat) (hM : 1000 < M) : PctC (run Γ M ref42_Percentile_f) := by
 intro w hw hne p hp1 hp2
 have hn := hw.n
 have hmul : 0 ≤ p * (w.length : Int) ∧ p * (w.length : Int) ≤ 10000 := by
  have h1 : 0 ≤ p * (w.length : Int) := Int.mul_nonneg (by omega) (by omega)
  have h2 : p * (w.length : Int) ≤ 100 * (w.length : Int) := Int.mul_le_mul_of_nonneg_right hp2 (by omega)
  omega
 have inner : ∀ (b : Int) (sm : Bool) (i : Nat) (hi : i < w.length) (z : Int), w[i]'hi = z → ∀ s0, nrm [0, 1, 5, 6, 7, 8, 9] [] s0 = ⟨[(0, i64 p), (1, vI w), (5, i64 b), (6, bo sm), (7, i64 i), (8, i64 (cntI z (w.take 0))), (9, i64 (0 : Nat))], []⟩ → lp (exec Γ M ref42_Percentile_l1) M s0 = some (.ex 2, ⟨[(0, i64 p), (1, vI w), (5, i64 b), (6, bo sm), (7, i64 i), (8, i64 (cntI z w))], []⟩) := by
  intro b sm i hi z hz
  obtain ⟨ax, s', ⟨rfl, rfl⟩, hin⟩ : ∃ ax s', (ax = .ex 2 ∧ s' = ⟨[(0, i64 p), (1, vI w), (5, i64 b), (6, bo sm), (7, i64 i), (8, i64 (cntI z w))], []⟩) ∧ ∀ s0, nrm [0, 1, 5, 6, 7, 8, 9] [] s0 = ⟨[(0, i64 p), (1, vI w), (5, i64 b), (6, bo sm), (7, i64 i), (8, i64 (cntI z (w.take 0))), (9, i64 (0 : Nat))], []⟩ → lp (exec Γ M ref42_Percentile_l1) M s0 = some (ax, s') := by
   refine lp_all (fun q : Nat => ⟨[(0, i64 p), (1, vI w), (5, i64 b), (6, bo sm), (7, i64 i), (8, i64 (cntI z (w.take q))), (9, i64 q)], []⟩) (fun q => q ≤ w.length) (fun q => w.length - q) _ 0 M (by simp) (by simp) (by omega) ?_
   intro k hk
   by_cases hlt : k < w.length
   ·obtain ⟨y, hy⟩ : ∃ z, w[k]'hlt = z := ⟨_, rfl⟩
    have hs := cnt_snoc z (w.take k) w[k]
    rw [← List.take_succ_eq_append_getElem hlt] at hs
    have hcl := cnt_le z (w.take k)
    rw [List.length_take] at hcl
    rw [hy] at hs
    generalize cntI z (w.take k) = C at *
    by_cases c : y ≤ z
    ·rw [if_pos c] at hs
     simp -implicitDefEqProofs (disch := first | omega | assumption) [hlt, hi, hz, hy, intD, c]
     exact ⟨k + 1, ⟨by omega, by omega⟩, by omega, by omega⟩
    ·rw [if_neg c] at hs
     simp -implicitDefEqProofs (disch := first | omega | assumption) [hlt, hi, hz, hy, intD, c]
     exact ⟨k + 1, ⟨by omega, by omega⟩, by omega, by omega⟩
   ·obtain rfl : k = w.length := by omega
    rw [List.take_length]
    simp -implicitDefEqProofs (disch := first | omega | assumption)
  exact hin
 obtain ⟨ax, s', hR, hin⟩ : ∃ ax s', (∃ b sm, ax = .ex 0 ∧ s' = ⟨[(5, i64 b)], []⟩ ∧ PcI p w w.length b sm) ∧ ∀ s0, nrm [0, 1, 5, 6, 7] [] s0 = ⟨[(0, i64 p), (1, vI w), (5, i64 0), (6, bo false), (7, i64 (0 : Nat))], []⟩ → lp (exec Γ M ref42_Percentile_l2) M s0 = some (ax, s') := by
  refine lp_all (fun q : Nat × Int × Bool => ⟨[(0, i64 p), (1, vI w), (5, i64 q.2.1), (6, bo q.2.2), (7, i64 q.1)], []⟩) (fun q => PcI p w q.1 q.2.1 q.2.2) (fun q => w.length - q.1) _ (0, 0, false) M (by simp) ⟨by simp, by simp, fun y hy => by simp at hy⟩ (by simp only; omega) ?_
  rintro ⟨k, b, sm⟩ ⟨hk, hy, hl⟩
  simp only at hk hy hl
  by_cases hlt : k < w.length
  ·obtain ⟨z, hz⟩ : ∃ z, w[k]'hlt = z := ⟨_, rfl⟩
   have hlp := inner b sm k hlt z hz ⟨[(0, i64 p), (1, vI w), (5, i64 b), (6, bo sm), (7, i64 k), (8, i64 0), (9, i64 0)], []⟩ (by simp [cntI])
   have hc := cnt_le z w
   have hzm : z ∈ w := hz ▸ List.getElem_mem hlt
   have hnext : ∀ b' sm', (sm' = true → b' ∈ w ∧ p * w.length ≤ 100 * (cntI b' w : Int)) → (sm = true → sm' = true ∧ b' ≤ b) → (p * w.length ≤ 100 * (cntI z w : Int) → sm' = true ∧ b' ≤ z) → PcI p w (k + 1) b' sm' := by
    intro b' sm' h1 h2 h3
    refine ⟨by omega, h1, fun y hy' hh => ?_⟩
    rw [List.take_succ_eq_append_getElem hlt, hz, List.mem_append] at hy'
    rcases hy' with hy' | hy'
    ·obtain ⟨q1, q2⟩ := hl y hy' hh
     obtain ⟨q3, q4⟩ := h2 q1
     exact ⟨q3, by omega⟩
    ·rw [List.mem_singleton] at hy'
     subst hy'
     exact h3 hh
   generalize hC : cntI z w = C at *
   by_cases c1 : p * (w.length : Int) ≤ 100 * (C : Int)
   ·cases sm with
    | false =>
     simp -implicitDefEqProofs (disch := first | omega | assumption) [hlt, hz, intD, hlp, c1]
     exact ⟨k + 1, z, by simp, hnext z true (fun _ => ⟨hzm, by rw [hC]; exact c1⟩) (by simp) (fun _ => ⟨rfl, by omega⟩), by omega⟩
    | true =>
     obtain ⟨hb1, hb2⟩ := hy rfl
     by_cases c2 : z < b
     ·simp -implicitDefEqProofs (disch := first | omega | assumption) [hlt, hz, intD, hlp, c1, c2]
      exact ⟨k + 1, z, by simp, hnext z true (fun _ => ⟨hzm, by rw [hC]; exact c1⟩) (fun _ => ⟨rfl, by omega⟩) (fun _ => ⟨rfl, by omega⟩), by omega⟩
     ·simp -implicitDefEqProofs (disch := first | omega | assumption) [hlt, hz, intD, hlp, c1, c2]
      exact ⟨k + 1, b, by simp, hnext b true (fun _ => ⟨hb1, hb2⟩) (fun _ => ⟨rfl, by omega⟩) (fun _ => ⟨rfl, by omega⟩), by omega⟩
   ·have hn2 := hnext b sm hy (fun h => ⟨h, by omega⟩) (fun h => absurd h (by omega))
    cases sm with
    | false =>
     simp -implicitDefEqProofs (disch := first | omega | assumption) [hlt, hz, intD, hlp, c1]
     exact ⟨k + 1, b, by simp, hn2, by omega⟩
    | true =>
     simp -implicitDefEqProofs (disch := first | omega | assumption) [hlt, hz, intD, hlp, c1]
     exact ⟨k + 1, b, by simp, hn2, by omega⟩
  ·obtain rfl : k = w.length := by omega
   simp -implicitDefEqProofs (disch := first | omega | assumption)
   cases sm with
   | false => exact .inl ⟨hk, hy, hl⟩
   | true => exact .inr ⟨hk, hy, hl⟩
 obtain ⟨b, sm, rfl, rfl, hk, hy, hl⟩ := hR
 have hlp := hin ⟨[(0, i64 p), (1, vI w), (5, i64 0), (6, bo false), (7, i64 0)], []⟩ (by simp)
 rw [List.take_length] at hl
 obtain ⟨s1, s2⟩ := hl _ (ofP_mem ⟨hp1, hp2⟩ hne) (ofP_enough ⟨hp1, hp2⟩ hne)
 obtain ⟨s3, s4⟩ := hy s1
 have := pct_best hne ⟨hp1, hp2⟩ s3 s4 fun y hy hh => (hl y hy hh).2
 simp -implicitDefEqProofs (disch := first | omega | assumption) [hlp, this]
def goodP (ps l : List Int) : Prop := ∀ p ∈ ps, 1 ≤ p ∧ p ≤ 100 ∧ l ≠ []
def ManyC (g : List AV → Option (List AV)) : Prop := ∀ ps l : List Int, AllI ps → ps.length ≤ 60 → l.length ≤ 60000 → ((goodP ps l ∧ g [vI ps, vI l] = some [vI (ps.map (ofP · l)), i64 0]) ∨ (¬ goodP ps l ∧ g [vI ps, vI l] = some [vI [], i64 22]))
theorem intRows_eq (l : List Int) : intRows l = l.map (toAV ∘ intD) := rfl
theorem intRows_snoc (l : List Int) (k : Nat) (h : k < l.length) : intRows (l.take k) ++ [[.c (.int .i64 l[k])]] = intRows (l.take (k + 1)) := by
 rw [List.take_succ_eq_append_getElem h]; simp only [intRows, List.map_append, List.map_cons, List.map_nil]
theorem rank_Many_run (Γ : Env) (M : Nat) (hM : 100 < M) (h252 : OfC15 (Γ 252)) : ManyC (run Γ M rank_Many_f) := by
 intro ps l hI hps hl
 obtain ⟨F, hF⟩ : ∃ F, ps.map (ofP · l) = F := ⟨_, rfl⟩
 have hFl : F.length = ps.length := by rw [← hF]; simp
 have hFg : ∀ (k : Nat) (h : k < ps.length), F[k]'(by omega) = ofP ps[k] l := fun k h => by simp [← hF]
 rw [hF]
 obtain ⟨ax, s', hR, hin⟩ : ∃ ax s', ((goodP ps l ∧ ax = .ex 0 ∧ s' = ⟨[(6, .sl 6 ps.length 0 ps.length)], [(6, ⟨1, intRows F⟩)]⟩) ∨ (¬ goodP ps l ∧ ax = .ret ∧ ∃ ob, s' = ⟨[(4, .nil 1), (5, i64 22)], ob⟩)) ∧ ∀ s0, nrm [1, 6, 11, 12, 13] [6, 29] s0 = ⟨[(1, vI l), (6, .sl 6 0 0 0), (11, vI ps), (12, i64 ps.length), (13, i64 (0 : Nat))], [(6, ⟨1, intRows (F.take 0)⟩)]⟩ → lp (exec Γ M rank_Many_l1) M s0 = some (ax, s') := by
  refine lp_all (fun q : Nat => ⟨[(1, vI l), (6, .sl 6 q 0 q), (11, vI ps), (12, i64 ps.length), (13, i64 q)], [(6, ⟨1, intRows (F.take q)⟩)]⟩) (fun q => q ≤ ps.length ∧ goodP (ps.take q) l) (fun q => ps.length - q) _ 0 M (by simp) ⟨by simp, by simp [goodP]⟩ (by omega) ?_
  rintro k ⟨h1, h2⟩
  have hrl : (intRows (F.take k)).length = k := by rw [intRows_length, List.length_take]; omega
  have hrc : lcRows 6 (intRows (F.take k)) = true := lcRows_comp 6 intD _
  by_cases hlt : k < ps.length
  ·obtain ⟨z, hz⟩ : ∃ z, ps[k]'hlt = z := ⟨_, rfl⟩
   have hzm : z ∈ ps := by rw [← hz]; exact List.getElem_mem hlt
   have hzI : InI64 z := hI z hzm
   have e := h252 z l hzI hl
   have hs := intRows_snoc F k (by omega)
   rw [hFg k hlt, hz] at hs
   generalize hG : intRows (F.take k) = G at *
   by_cases c : 1 ≤ z ∧ z ≤ 100 ∧ l ≠ []
   ·rw [if_pos c] at e
    have hg2 : goodP (ps.take (k + 1)) l := by
     rw [List.take_succ_eq_append_getElem hlt, hz]
     intro p hp
     simp only [List.mem_append, List.mem_singleton] at hp
     rcases hp with hp | rfl
     ·exact h2 p hp
     ·exact c
    simp -implicitDefEqProofs (disch := first | omega | assumption) [hlt, hz, intD, e, hrl, hrc, hs]
    exact ⟨k + 1, by simp, ⟨by omega, hg2⟩, by omega⟩
   ·rw [if_neg c] at e
    have hng : ¬ goodP ps l := fun h => c (h z hzm)
    simp -implicitDefEqProofs (disch := first | omega | assumption) [hlt, hz, intD, e, hrl, hrc, hs]
    exact hng
  ·obtain rfl : k = ps.length := by omega
   rw [List.take_length] at h2
   have hF2 : F.take ps.length = F := by rw [← hFl, List.take_length]
   rw [hF2]
   simp -implicitDefEqProofs (disch := first | omega | assumption) [h2]
 rcases hR with ⟨hg, rfl, rfl⟩ | ⟨hg, rfl, ob, rfl⟩
 ·left
  refine ⟨hg, ?_⟩
  have h0 : F.take 0 = [] := rfl
  have hin := hin ⟨[(1, vI l), (6, .sl 6 0 0 0), (11, vI ps), (12, i64 ps.length), (13, i64 (0 : Nat))], [(6, ⟨1, []⟩)]⟩ (by simp [intRows])
  simp at hin
  have ha := allRows_comp intD F
  rw [← intRows_eq] at ha
  have hF2 : (F.map intD).take ps.length = F.map intD := by rw [← hFl, ← List.length_map (f := intD), List.take_length]
  have hrl : (intRows F).length = ps.length := by rw [intRows_length, hFl]
  generalize intRows F = G at *
  simp -implicitDefEqProofs (disch := first | omega | (simp <;> fail) | assumption) [hin, hFl, ha, hF2, hrl]
 ·right
  refine ⟨hg, ?_⟩
  have hin := hin ⟨[(1, vI l), (6, .sl 6 0 0 0), (11, vI ps), (12, i64 ps.length), (13, i64 (0 : Nat))], [(6, ⟨1, []⟩)]⟩ (by simp [intRows])
  simp at hin
  simp -implicitDefEqProofs (disch := first | omega | (simp <;> fail) | assumption) [hin]
def EqR (g : List AV → Option (List AV)) : Prop := ∀ r : TRow, r.length ≤ 100000 → g [vR r, vR r] = some [bo true]
theorem slices_Equal_R_run (Γ : Env) (M : Nat) (hM : 100000 < M) : EqR (run Γ M slices_Equal_Sstring_string_f) := by
 intro ts hl
 obtain ⟨ax, s', ⟨rfl, rfl⟩, hin⟩ : ∃ ax s', (ax = .ex 0 ∧ s' = ⟨[], []⟩) ∧ ∀ s0, nrm [0, 1, 12, 13] [] s0 = ⟨[(0, vR ts), (1, vR ts), (12, i64 ts.length), (13, i64 (0 : Nat))], []⟩ → lp (exec Γ M slices_Equal_Sstring_string_l1) M s0 = some (ax, s') := by
  refine lp_all (fun q : Nat => ⟨[(0, vR ts), (1, vR ts), (12, i64 ts.length), (13, i64 q)], []⟩) (fun q => q ≤ ts.length) (fun q => ts.length - q) _ 0 M (by simp) (by omega) (by omega) ?_
  intro k hk
  by_cases hlt : k < ts.length
  ·simp -implicitDefEqProofs (disch := first | omega | assumption) [hlt, txQ]
   exact ⟨k + 1, by omega, by omega, by omega⟩
  ·obtain rfl : k = ts.length := by omega
   simp -implicitDefEqProofs (disch := first | omega | assumption)
 simp -implicitDefEqProofs (disch := first | omega | (simp <;> fail) | assumption) [hin]
end Go.Am
namespace Go.Proofs
open Go.Shelf
def Tryz.lays155_ren : Go.Shelf.Ren := ⟨fun | 155 => 36 | 154 => 75 | 138 => 99 | 165 => 40 | 143 => 100 | 166 => 41 | 197 => 101 | 169 => 32 | 195 => 124 | 218 => 125 | 240 => 78 | 241 => 79 | 219 => 126 | 260 => 127 | 276 => 107 | 277 => 108 | 217 => 138 | 225 => 139 | 224 => 140 | 267 => 141 | 266 => 156 | 314 => 157 | n => n, fun | 9 => 9 | 3 => 3 | 4 => 4 | 72 => 67 | 0 => 0 | 76 => 86 | 105 => 156 | 21 => 21 | 5 => 5 | 70 => 64 | 20 => 20 | 37 => 65 | 75 => 85 | 127 => 124 | 164 => 164 | 46 => 185 | 119 => 191 | 139 => 194 | 138 => 193 | 146 => 207 | 51 => 204 | 80 => 71 | n => n, fun | 1 => 0 | 3 => 1 | 4 => 2 | n => n⟩
theorem Tryz.lays155 : Go.Proofs.LaysM.n155 Tryz.prog Tryz.lays155_ren := {
 mixed := by kernel_rfl
 f138 := Tryz.func99.trans (congrArg some (by kernel_rfl))
 f143 := Tryz.func100.trans (congrArg some (by kernel_rfl))
 f154 := Tryz.func75.trans (congrArg some (by kernel_rfl))
 f155 := Tryz.func36.trans (congrArg some (by kernel_rfl))
 f165 := Tryz.func40.trans (congrArg some (by kernel_rfl))
 f166 := Tryz.func41.trans (congrArg some (by kernel_rfl))
 f169 := Tryz.func32.trans (congrArg some (by kernel_rfl))
 f195 := Tryz.func124.trans (congrArg some (by kernel_rfl))
 f197 := Tryz.func101.trans (congrArg some (by kernel_rfl))
 f217 := Tryz.func138.trans (congrArg some (by kernel_rfl))
 f218 := Tryz.func125.trans (congrArg some (by kernel_rfl))
 f219 := Tryz.func126.trans (congrArg some (by kernel_rfl))
 f224 := Tryz.func140.trans (congrArg some (by kernel_rfl))
 f225 := Tryz.func139.trans (congrArg some (by kernel_rfl))
 f240 := Tryz.func78.trans (congrArg some (by kernel_rfl))
 f241 := Tryz.func79.trans (congrArg some (by kernel_rfl))
 f260 := Tryz.func127.trans (congrArg some (by kernel_rfl))
 f266 := Tryz.func156.trans (congrArg some (by kernel_rfl))
 f267 := Tryz.func141.trans (congrArg some (by kernel_rfl))
 f276 := Tryz.func107.trans (congrArg some (by kernel_rfl))
 f277 := Tryz.func108.trans (congrArg some (by kernel_rfl))
 f314 := Tryz.func157.trans (congrArg some (by kernel_rfl))
 t0 := Tryz.underlying0
 a0 := Tryz.isAgg0
 z0 := Tryz.sizeOf0
 v0 := Tryz.zeroValue0
 t3 := Tryz.underlying3
 a3 := Tryz.isAgg3
 z3 := Tryz.sizeOf3
 v3 := Tryz.zeroValue3
 t4 := Tryz.underlying4
 a4 := Tryz.isAgg4
 z4 := Tryz.sizeOf4
 v4 := Tryz.zeroValue4
 t5 := Tryz.underlying5
 a5 := Tryz.isAgg5
 z5 := Tryz.sizeOf5
 v5 := Tryz.zeroValue5
 t9 := Tryz.underlying9
 a9 := Tryz.isAgg9
 z9 := Tryz.sizeOf9
 v9 := Tryz.zeroValue9
 t20 := Tryz.underlying20
 a20 := Tryz.isAgg20
 z20 := Tryz.sizeOf20
 v20 := Tryz.zeroValue20
 t21 := Tryz.underlying21
 a21 := Tryz.isAgg21
 z21 := Tryz.sizeOf21
 v21 := Tryz.zeroValue21
 t37 := Tryz.underlying65
 a37 := Tryz.isAgg65
 z37 := Tryz.sizeOf65
 v37 := Tryz.zeroValue65
 t46 := Tryz.underlying185
 a46 := Tryz.isAgg185
 z46 := Tryz.sizeOf185
 v46 := Tryz.zeroValue185
 t51 := Tryz.underlying204
 a51 := Tryz.isAgg204
 z51 := Tryz.sizeOf204
 v51 := Tryz.zeroValue204
 t70 := Tryz.underlying64
 a70 := Tryz.isAgg64
 z70 := Tryz.sizeOf64
 v70 := Tryz.zeroValue64
 t72 := Tryz.underlying67
 a72 := Tryz.isAgg67
 z72 := Tryz.sizeOf67
 v72 := Tryz.zeroValue67
 t75 := Tryz.underlying85
 a75 := Tryz.isAgg85
 z75 := Tryz.sizeOf85
 v75 := Tryz.zeroValue85
 t76 := Tryz.underlying86
 a76 := Tryz.isAgg86
 z76 := Tryz.sizeOf86
 v76 := Tryz.zeroValue86
 t105 := Tryz.underlying156
 a105 := Tryz.isAgg156
 z105 := Tryz.sizeOf156
 v105 := Tryz.zeroValue156
 t119 := Tryz.underlying191
 a119 := Tryz.isAgg191
 z119 := Tryz.sizeOf191
 t127 := Tryz.underlying124
 a127 := Tryz.isAgg124
 z127 := Tryz.sizeOf124
 v127 := Tryz.zeroValue124
 t138 := Tryz.underlying193
 a138 := Tryz.isAgg193
 z138 := Tryz.sizeOf193
 v138 := Tryz.zeroValue193
 t139 := Tryz.underlying194
 a139 := Tryz.isAgg194
 z139 := Tryz.sizeOf194
 v139 := Tryz.zeroValue194
 t146 := Tryz.underlying207
 a146 := Tryz.isAgg207
 z146 := Tryz.sizeOf207
 v146 := Tryz.zeroValue207
 t164 := Tryz.underlying164
 a164 := Tryz.isAgg164
 z164 := Tryz.sizeOf164
 v164 := Tryz.zeroValue164
 g1 := by kernel_rfl
 g3 := by kernel_rfl
 g4 := by kernel_rfl
 t80 := Tryz.underlying71
 a80 := Tryz.isAgg71
 z80 := Tryz.sizeOf71
 v80 := Tryz.zeroValue71
 i0 := by kernel_rfl
 i3 := by kernel_rfl
 i4 := by kernel_rfl
 i5 := by kernel_rfl
 i9 := by kernel_rfl
 i20 := by kernel_rfl
 i21 := by kernel_rfl
 i37 := by kernel_rfl
 i46 := by kernel_rfl
 i51 := by kernel_rfl
 i70 := by kernel_rfl
 i72 := by kernel_rfl
 i75 := by kernel_rfl
 i76 := by kernel_rfl
 i80 := by kernel_rfl
 i105 := by kernel_rfl
 i127 := by kernel_rfl
 i138 := by kernel_rfl
 i139 := by kernel_rfl
 i146 := by kernel_rfl
 i164 := by kernel_rfl
 m1 := by kernel_rfl
 s1_3 := fun w h => Go.Proofs.cell_of_shapedOpen_int (zero := #[.int .i64 0]) (t := 3) h (of_decide_eq_true (by kernel_rfl)) (by kernel_rfl) rfl (by kernel_rfl) (by kernel_rfl) Tryz.underlying3
 m3 := by kernel_rfl
 m4 := by kernel_rfl }
def Tryz.lays156_ren : Go.Shelf.Ren := ⟨fun | 156 => 14 | 165 => 40 | 166 => 41 | 169 => 32 | 240 => 78 | 241 => 79 | 276 => 107 | 277 => 108 | n => n, fun | 31 => 47 | 9 => 9 | 3 => 3 | 4 => 4 | 0 => 0 | 20 => 20 | 72 => 67 | 76 => 86 | 70 => 64 | 37 => 65 | 75 => 85 | 127 => 124 | 164 => 164 | 5 => 5 | 80 => 71 | n => n, fun | n => n⟩
theorem Tryz.lays156 : Go.Proofs.Lays.n156 Tryz.prog Tryz.lays156_ren := {
 mixed := by kernel_rfl
 f156 := Tryz.func14.trans (congrArg some (by kernel_rfl))
 f165 := Tryz.func40.trans (congrArg some (by kernel_rfl))
 f166 := Tryz.func41.trans (congrArg some (by kernel_rfl))
 f169 := Tryz.func32.trans (congrArg some (by kernel_rfl))
 f240 := Tryz.func78.trans (congrArg some (by kernel_rfl))
 f241 := Tryz.func79.trans (congrArg some (by kernel_rfl))
 f276 := Tryz.func107.trans (congrArg some (by kernel_rfl))
 f277 := Tryz.func108.trans (congrArg some (by kernel_rfl))
 t0 := Tryz.underlying0
 a0 := Tryz.isAgg0
 z0 := Tryz.sizeOf0
 v0 := Tryz.zeroValue0
 t3 := Tryz.underlying3
 a3 := Tryz.isAgg3
 z3 := Tryz.sizeOf3
 v3 := Tryz.zeroValue3
 t4 := Tryz.underlying4
 a4 := Tryz.isAgg4
 z4 := Tryz.sizeOf4
 v4 := Tryz.zeroValue4
 t9 := Tryz.underlying9
 a9 := Tryz.isAgg9
 z9 := Tryz.sizeOf9
 v9 := Tryz.zeroValue9
 t20 := Tryz.underlying20
 a20 := Tryz.isAgg20
 z20 := Tryz.sizeOf20
 v20 := Tryz.zeroValue20
 t31 := Tryz.underlying47
 a31 := Tryz.isAgg47
 z31 := Tryz.sizeOf47
 v31 := Tryz.zeroValue47
 t37 := Tryz.underlying65
 a37 := Tryz.isAgg65
 z37 := Tryz.sizeOf65
 v37 := Tryz.zeroValue65
 t70 := Tryz.underlying64
 a70 := Tryz.isAgg64
 z70 := Tryz.sizeOf64
 v70 := Tryz.zeroValue64
 t72 := Tryz.underlying67
 a72 := Tryz.isAgg67
 z72 := Tryz.sizeOf67
 v72 := Tryz.zeroValue67
 t75 := Tryz.underlying85
 a75 := Tryz.isAgg85
 z75 := Tryz.sizeOf85
 v75 := Tryz.zeroValue85
 t76 := Tryz.underlying86
 a76 := Tryz.isAgg86
 z76 := Tryz.sizeOf86
 v76 := Tryz.zeroValue86
 t127 := Tryz.underlying124
 a127 := Tryz.isAgg124
 z127 := Tryz.sizeOf124
 v127 := Tryz.zeroValue124
 t164 := Tryz.underlying164
 a164 := Tryz.isAgg164
 z164 := Tryz.sizeOf164
 v164 := Tryz.zeroValue164 }
def Tryz.lays189_ren : Go.Shelf.Ren := ⟨fun | 189 => 104 | 125 => 129 | 257 => 128 | 128 => 151 | 129 => 152 | 294 => 142 | 295 => 143 | 296 => 144 | 297 => 145 | 298 => 146 | 299 => 147 | 216 => 148 | 300 => 149 | 301 => 150 | 328 => 158 | 329 => 159 | 330 => 160 | 331 => 161 | 332 => 162 | 215 => 163 | 343 => 166 | n => n, fun | 28 => 45 | 3 => 3 | 46 => 185 | 0 => 0 | 51 => 204 | 53 => 162 | 4 => 4 | 183 => 197 | 182 => 196 | 131 => 201 | 5 => 5 | 9 => 9 | 218 => 209 | 222 => 213 | 228 => 217 | 229 => 218 | n => n, fun | n => n⟩
theorem Tryz.lays189 : Go.Proofs.Lays.n189 Tryz.prog Tryz.lays189_ren := {
 mixed := by kernel_rfl
 f125 := Tryz.func129.trans (congrArg some (by kernel_rfl))
 f128 := Tryz.func151.trans (congrArg some (by kernel_rfl))
 f129 := Tryz.func152.trans (congrArg some (by kernel_rfl))
 f189 := Tryz.func104.trans (congrArg some (by kernel_rfl))
 f215 := Tryz.func163.trans (congrArg some (by kernel_rfl))
 f216 := Tryz.func148.trans (congrArg some (by kernel_rfl))
 f257 := Tryz.func128.trans (congrArg some (by kernel_rfl))
 f294 := Tryz.func142.trans (congrArg some (by kernel_rfl))
 f295 := Tryz.func143.trans (congrArg some (by kernel_rfl))
 f296 := Tryz.func144.trans (congrArg some (by kernel_rfl))
 f297 := Tryz.func145.trans (congrArg some (by kernel_rfl))
 f298 := Tryz.func146.trans (congrArg some (by kernel_rfl))
 f299 := Tryz.func147.trans (congrArg some (by kernel_rfl))
 f300 := Tryz.func149.trans (congrArg some (by kernel_rfl))
 f301 := Tryz.func150.trans (congrArg some (by kernel_rfl))
 f328 := Tryz.func158.trans (congrArg some (by kernel_rfl))
 f329 := Tryz.func159.trans (congrArg some (by kernel_rfl))
 f330 := Tryz.func160.trans (congrArg some (by kernel_rfl))
 f331 := Tryz.func161.trans (congrArg some (by kernel_rfl))
 f332 := Tryz.func162.trans (congrArg some (by kernel_rfl))
 f343 := Tryz.func166.trans (congrArg some (by kernel_rfl))
 t0 := Tryz.underlying0
 a0 := Tryz.isAgg0
 z0 := Tryz.sizeOf0
 v0 := Tryz.zeroValue0
 t3 := Tryz.underlying3
 a3 := Tryz.isAgg3
 z3 := Tryz.sizeOf3
 v3 := Tryz.zeroValue3
 t4 := Tryz.underlying4
 a4 := Tryz.isAgg4
 z4 := Tryz.sizeOf4
 v4 := Tryz.zeroValue4
 t5 := Tryz.underlying5
 a5 := Tryz.isAgg5
 z5 := Tryz.sizeOf5
 v5 := Tryz.zeroValue5
 t9 := Tryz.underlying9
 a9 := Tryz.isAgg9
 z9 := Tryz.sizeOf9
 v9 := Tryz.zeroValue9
 t28 := Tryz.underlying45
 a28 := Tryz.isAgg45
 z28 := Tryz.sizeOf45
 v28 := Tryz.zeroValue45
 t46 := Tryz.underlying185
 a46 := Tryz.isAgg185
 z46 := Tryz.sizeOf185
 v46 := Tryz.zeroValue185
 t51 := Tryz.underlying204
 a51 := Tryz.isAgg204
 z51 := Tryz.sizeOf204
 v51 := Tryz.zeroValue204
 t53 := Tryz.underlying162
 a53 := Tryz.isAgg162
 z53 := Tryz.sizeOf162
 v53 := Tryz.zeroValue162
 t131 := Tryz.underlying201
 a131 := Tryz.isAgg201
 z131 := Tryz.sizeOf201
 v131 := Tryz.zeroValue201
 t182 := Tryz.underlying196
 a182 := Tryz.isAgg196
 z182 := Tryz.sizeOf196
 v182 := Tryz.zeroValue196
 t183 := Tryz.underlying197
 a183 := Tryz.isAgg197
 z183 := Tryz.sizeOf197
 v183 := Tryz.zeroValue197
 t218 := Tryz.underlying209
 a218 := Tryz.isAgg209
 z218 := Tryz.sizeOf209
 v218 := Tryz.zeroValue209
 t222 := Tryz.underlying213
 a222 := Tryz.isAgg213
 z222 := Tryz.sizeOf213
 v222 := Tryz.zeroValue213
 t228 := Tryz.underlying217
 a228 := Tryz.isAgg217
 z228 := Tryz.sizeOf217
 v228 := Tryz.zeroValue217
 t229 := Tryz.underlying218
 a229 := Tryz.isAgg218
 z229 := Tryz.sizeOf218
 v229 := Tryz.zeroValue218 }
end Go.Proofs
namespace Go.Am
open Go.Proofs Go.Shelf Go.RowKit
theorem rpExtra : Builder.Extra Tryz.prog Tryz.lays155_ren where
 sizeBuilder := by kernel_rfl
 liesBuilder := by kernel_rfl
 t5 := Tryz.underlying5
 a5 := Tryz.isAgg5
 z5 := Tryz.sizeOf5
 v5 := Tryz.zeroValue5
 infoByte := by kernel_rfl
 cellsByte := by kernel_rfl
 sizeByte := by kernel_rfl
 neB5 := by decide
def repS : List AV → Option (List AV)
 | [.c (.str s), .c (.str [32]), .c (.str [43])] => if s.length ≤ 1000 then some [.c (.str (Lib.replaceAll s [32] [43]))] else none
 | _ => none
theorem rep_spec (hg : 0 ∈ gBlocks) : Spec Tryz.prog 36 repS := by
 intro F w ds vs rs hok hall h
 unfold repS at h
 split at h
 case h_2 => simp at h
 rename_i s
 split at h
 case isFalse => simp at h
 rename_i hs
 simp only [Option.some.injEq] at h
 subst h
 cases hall with
 | cons h1 h2 =>
 cases h2 with
 | cons h2 h3 =>
 cases h3 with
 | cons h3 h4 =>
 cases h4
 cases h1
 cases h2
 cases h3
 obtain ⟨m, hm⟩ := hok.glob 0 hg
 have hcell := hok.at_ _ _ hm
 have hcb := Lib.countB_mul_le (⟨#[32]⟩ : ByteArray) (by decide) (⟨s.toArray⟩ : ByteArray).size ⟨s.toArray⟩ (Nat.le_refl _)
 have hsz : (⟨s.toArray⟩ : ByteArray).size = s.length := by simp [ByteArray.size]
 have hz : (⟨#[32]⟩ : ByteArray).size = 1 := rfl
 have hz2 : (⟨#[43]⟩ : ByteArray).size = 1 := rfl
 rw [hz, hsz] at hcb
 have hc := Any.strings_ReplaceAll (P := Tryz.prog) (ρ := Tryz.lays155_ren) { Tryz.lays155 with } rpExtra ⟨s.toArray⟩ ⟨#[32]⟩ ⟨#[43]⟩ m w (by rw [hsz]; omega) hcell (by decide) (by rw [hz2, hsz]; omega)
 refine hc.mono ?_
 rintro e w' ⟨rfl, hb⟩
 refine ⟨_, rfl, F, hok.below hb, Facts.le.refl F, hb, fun a v hv => .inl hv, ?_⟩
 simpa [RetR, RR] using DR.str (F := F) (Lib.replaceAll s [32] [43])
theorem index_none : ∀ l : List UInt8, (32 : UInt8) ∉ l → Lib.index l [32] = -1
 | [], _ => rfl
 | b :: l, h => by
  have hb : ¬ b = 32 := fun e => h (by simp [e])
  have ih := index_none l fun hm => h (by simp [hm])
  have hp : ([32] : List UInt8).isPrefixOf (b :: l) = false := by simp [List.isPrefixOf, Ne.symm hb]
  rw [Lib.index, hp, ih]; rfl
theorem index_some : ∀ (a b : List UInt8), (32 : UInt8) ∉ a → Lib.index (a ++ 32 :: b) [32] = a.length
 | [], b, _ => by simp [Lib.index, List.isPrefixOf]
 | c :: a, b, h => by
  have hc : ¬ c = 32 := fun e => h (by simp [e])
  have ih := index_some a b fun hm => h (by simp [hm])
  have hp : ([32] : List UInt8).isPrefixOf (c :: (a ++ 32 :: b)) = false := by simp [List.isPrefixOf, Ne.symm hc]
  have hm : ¬ ((a.length : Int) == -1) = true := fun e => by have := beq_iff_eq.1 e; omega
  rw [List.cons_append, Lib.index, hp, ih]
  simp only [Bool.false_eq_true, if_false, if_neg hm, List.length_cons]
  omega
theorem rep_none {l : List UInt8} (h : (32 : UInt8) ∉ l) : Lib.replaceAll l [32] [43] = l := by
 have hi := index_none l h
 unfold Lib.replaceAll Lib.replace
 rw [if_neg (by decide)]
 cases hk : Lib.replaceNum l [32] (-1) with
 | zero => rfl
 | succ k => rw [Lib.replaceK, hi]; rfl
theorem rep_one {a b : List UInt8} (ha : (32 : UInt8) ∉ a) (hb : (32 : UInt8) ∉ b) : Lib.replaceAll (a ++ 32 :: b) [32] [43] = a ++ 43 :: b := by
 have hi := index_some a b ha
 have hi2 := index_none b hb
 unfold Lib.replaceAll Lib.replace
 rw [if_neg (by decide)]
 have hk : Lib.replaceNum (a ++ 32 :: b) [32] (-1) ≠ 0 := by
  unfold Lib.replaceNum
  rw [if_pos (.inl (by decide))]
  intro h0
  rw [Lib.count_hit (by decide) hi] at h0
  omega
 obtain ⟨k, hk⟩ := Nat.exists_eq_succ_of_ne_zero hk
 rw [hk, Lib.replaceK_hit _ _ _ _ a.length hi]
 have hd : (a ++ 32 :: b).drop (a.length + ([32] : List UInt8).length) = b := by
  rw [← List.drop_drop, List.drop_left]; rfl
 rw [hd, List.take_left]
 have : Lib.replaceK [32] [43] k b = b := by
  cases k with
  | zero => rfl
  | succ k => rw [Lib.replaceK, hi2]; rfl
 rw [this]; simp
end Go.Am
namespace Go.Am
def nA : List UInt8 := [110, 47, 97]
def fracT (sep : UInt8) (w r b : Int) : List UInt8 := if r = 0 then txt w else txt w ++ sep :: (txt r ++ 47 :: txt b)
def FTxtC (g : List AV → Option (List AV)) : Prop := ∀ w r b : Int, 0 ≤ w → w ≤ 1099511627776 → 0 ≤ r → r ≤ 1099511627776 → 0 ≤ b → b ≤ 1099511627776 → g [.agg (fracD w r b)] = some [st (fracT 32 w r b)]
theorem frac_Text_run {Γ : Env} {M : Nat} (h : Of (Γ 50)) : FTxtC (run Γ M frac_Text_f) := by
 intro w r b hw0 hw hr0 hr hb0 hb
 have e1 := h w ⟨by omega, by omega⟩
 have e2 := h r ⟨by omega, by omega⟩
 have e3 := h b ⟨by omega, by omega⟩
 have l1 := txtL hw0
 have l2 := txtL hr0
 have l3 := txtL hb0
 have hms : (1000 : Nat) ≤ maxStr := by decide
 unfold fracT
 generalize txt w = A at *
 generalize txt r = B at *
 generalize txt b = C at *
 by_cases c : r = 0
 ·simp -implicitDefEqProofs (disch := first | omega | ((try simp only [List.length_append, List.length_cons, List.length_nil, maxStr_eq]); omega) | assumption) [fracD, e1, c]
 ·simp -implicitDefEqProofs (disch := first | omega | ((try simp only [List.length_append, List.length_cons, List.length_nil, maxStr_eq]); omega) | assumption) [fracD, e1, e2, e3, c, binS_add]
def RanksC (g : List AV → Option (List AV)) : Prop := g [] = some [vI [50, 90, 95, 100]]
theorem report_ranks_run (Γ : Env) (M : Nat) : RanksC (run Γ M report_ranks_f) := by
 unfold RanksC
 simp -implicitDefEqProofs (disch := omega) [vI, intD]
def RepC (g : List AV → Option (List AV)) : Prop := ∀ s : List UInt8, s.length ≤ 1000 → g [st s, st [32], st [43]] = some [st (Go.Lib.replaceAll s [32] [43])]
theorem repS_C : RepC repS := fun s hs => by simp only [repS, hs, if_true]
theorem rep_frac {w r b : Int} (hw : 0 ≤ w) (hr : 0 ≤ r) (hb : 0 ≤ b) : Go.Lib.replaceAll (fracT 32 w r b) [32] [43] = fracT 43 w r b := by
 have h1 := (txt_word hw).2
 have h2 := (txt_word hr).2
 have h3 := (txt_word hb).2
 unfold fracT
 split
 ·exact rep_none h1
 ·exact rep_one h1 (by simp [h2, h3])
def pcts : List Int := [50, 90, 95, 100]
def statsT (name : List UInt8) (l : List Int) : TRow := if l = [] then [name, nA, nA, nA, nA, nA] else name :: fracT 43 (l.sum / l.length) (l.sum % l.length) l.length :: pcts.map fun p => txt (ofP p l)
def StatsC (g : List AV → Option (List AV)) : Prop := ∀ (name : List UInt8) (l : List Int), Wg l → g [st name, vI l] = some [vR (statsT name l)]
def txR (r : TRow) : Rows := r.map (toAV ∘ txQ)
theorem txR_len (r : TRow) : (txR r).length = r.length := by simp [txR]
theorem txR_snoc (r : TRow) (s : List UInt8) : txR (r ++ [s]) = txR r ++ [[st s]] := by simp [txR, txQ, toAV]
theorem report_Stats_run {Γ : Env} {M : Nat} (hM : 1000 < M) (h1 : RanksC (Γ 436)) (h2 : MeanC8 (Γ 420)) (h3 : FTxtC (Γ 437)) (h4 : RepC (Γ 438)) (h5 : ManyC (Γ 259)) (h6 : Of (Γ 50)) : StatsC (run Γ M report_Stats_f) := by
 intro name l hl
 have hn := hl.n
 unfold RanksC at h1
 by_cases h0 : l = []
 ·subst h0
  have hst : statsT name [] = [name] ++ List.replicate 5 nA := rfl
  obtain ⟨ax, s', ⟨rfl, rfl⟩, hin⟩ : ∃ ax s', (ax = .ex 0 ∧ s' = ⟨[(5, .sl 13 6 0 6)], [(13, ⟨1, txR ([name] ++ List.replicate 5 nA)⟩)]⟩) ∧ ∀ s0, nrm [5, 19, 20] [5, 13, 24, 37, 54] s0 = ⟨[(5, .sl 13 (0 + 1) 0 (0 + 1)), (19, i64 5), (20, i64 (0 : Nat))], [(13, ⟨1, txR ([name] ++ List.replicate 0 nA)⟩)]⟩ → lp (exec Γ M report_Stats_l2) M s0 = some (ax, s') := by
   refine lp_all (fun q : Nat => ⟨[(5, .sl 13 (q + 1) 0 (q + 1)), (19, i64 5), (20, i64 q)], [(13, ⟨1, txR ([name] ++ List.replicate q nA)⟩)]⟩) (fun q => q ≤ 5) (fun q => 5 - q) _ 0 M (by simp) (by simp) (by omega) ?_
   intro k hk
   by_cases hlt : k < 5
   ·have hlt' : (k : Int) < 5 := by omega
    have hrl : (txR ([name] ++ List.replicate k nA)).length = k + 1 := by rw [txR_len]; simp
    have hrc : ∀ z, lcRows z (txR ([name] ++ List.replicate k nA)) = true := fun z => lcRows_comp z txQ _
    have hrn : ∀ z, nmRows z (txR ([name] ++ List.replicate k nA)) = true := fun z => nmRows_comp z txQ _
    have hgoal : txR ([name] ++ List.replicate (k + 1) nA) = txR ([name] ++ List.replicate k nA) ++ [[st nA]] := by rw [List.replicate_succ', ← List.append_assoc, txR_snoc]
    rw [show nA = [110, 47, 97] from rfl] at hgoal hrl hrc hrn ⊢
    generalize txR ([name] ++ List.replicate k [110, 47, 97]) = G at *
    simp -implicitDefEqProofs (disch := first | omega | (simp [hrl, hrc, hrn] <;> fail) | assumption) [hlt', hrl, hrc, hrn]
    exact ⟨k + 1, ⟨⟨by omega, by omega⟩, by rw [← hgoal]; simp⟩, by omega, by omega⟩
   ·obtain rfl : k = 5 := by omega
    generalize txR ([name] ++ List.replicate 5 nA) = G at *
    simp -implicitDefEqProofs (disch := first | omega | assumption)
  have hlp := hin ⟨[(5, .sl 13 1 0 1), (19, i64 5), (20, i64 0)], [(13, ⟨1, [[st name]]⟩)]⟩ (by simp [txR, txQ, toAV])
  rw [hst]
  have ha := allRows_comp txQ ([name] ++ List.replicate 5 nA)
  rw [show ([name] ++ List.replicate 5 nA).map (toAV ∘ txQ) = txR ([name] ++ List.replicate 5 nA) from rfl] at ha
  have hrl : (txR ([name] ++ List.replicate 5 nA)).length = 6 := rfl
  have hF2 : (([name] ++ List.replicate 5 nA).map txQ).take 6 = ([name] ++ List.replicate 5 nA).map txQ := rfl
  simp only [vR]
  generalize txR ([name] ++ List.replicate 5 nA) = G at *
  generalize ([name] ++ List.replicate 5 nA).map txQ = X at *
  simp only [vI, List.map_cons, List.map_nil, intD] at h1
  simp -implicitDefEqProofs (disch := first | omega | assumption) [vI, h1, hlp, ha, hrl, hF2]
 ·have hS := hl.sumA
  have hpos := List.length_pos_iff.2 h0
  have hd := div_in (l := l.sum) (c := l.length) hS.1 (by omega)
  obtain ⟨⟨d1, d2⟩, d3, d4⟩ := hd
  have e2 := h2 l hl h0
  have e3 := h3 (l.sum / l.length) (l.sum % l.length) l.length d1 (by omega) d3 (by omega) (by omega) (by omega)
  have hlen : (fracT 32 (l.sum / l.length) (l.sum % l.length) l.length).length ≤ 1000 := by
   have l1 := txtL d1
   have l2 := txtL d3
   have l3 := txtL (n := (l.length : Int)) (by omega)
   unfold fracT
   split
   ·omega
   ·simp only [List.length_append, List.length_cons]; omega
  have e4 := h4 _ hlen
  rw [rep_frac d1 d3 (by omega)] at e4
  have hI : AllI [50, 90, 95, 100] := by intro z hz; simp at hz; rcases hz with rfl | rfl | rfl | rfl <;> exact ⟨by omega, by omega⟩
  have hgp : goodP [50, 90, 95, 100] l := by intro p hp; simp at hp; rcases hp with rfl | rfl | rfl | rfl <;> exact ⟨by omega, by omega, h0⟩
  have e5 : Γ 259 [vI [50, 90, 95, 100], vI l] = some [vI (pcts.map (ofP · l)), i64 0] := by
   rcases h5 [50, 90, 95, 100] l hI (by simp) (by omega) with ⟨-, h⟩ | ⟨h, -⟩
   ·exact h
   ·exact absurd hgp h
  have hst : statsT name l = [name, fracT 43 (l.sum / l.length) (l.sum % l.length) l.length] ++ (pcts.map (ofP · l)).map txt := by
   unfold statsT; rw [if_neg h0]; simp [List.map_map]
  have hin0 : ∀ x ∈ pcts.map (ofP · l), 0 ≤ x ∧ x ≤ 1073741825 := by
   intro x hx
   obtain ⟨p, hp, rfl⟩ := List.mem_map.1 hx
   obtain ⟨p1, p2, -⟩ := hgp p (by simpa [pcts] using hp)
   exact hl.all _ (ofP_mem ⟨p1, p2⟩ h0)
  have hQl : (pcts.map (ofP · l)).length = 4 := rfl
  rw [hst]
  generalize fracT 43 (l.sum / l.length) (l.sum % l.length) l.length = F43 at *
  generalize fracT 32 (l.sum / l.length) (l.sum % l.length) l.length = F32 at *
  generalize pcts.map (ofP · l) = Q at *
  obtain ⟨ax, s', ⟨rfl, rfl⟩, hin⟩ : ∃ ax s', (ax = .ex 2 ∧ s' = ⟨[(5, .sl 13 6 0 6)], [(13, ⟨1, txR ([name, F43] ++ Q.map txt)⟩)]⟩) ∧ ∀ s0, nrm [5, 44, 45, 46] [5, 13, 24, 37, 54] s0 = ⟨[(5, .sl 13 (0 + 2) 0 (0 + 2)), (44, vI Q), (45, i64 4), (46, i64 (0 : Nat))], [(13, ⟨1, txR ([name, F43] ++ (Q.take 0).map txt)⟩)]⟩ → lp (exec Γ M report_Stats_l1) M s0 = some (ax, s') := by
   refine lp_all (fun q : Nat => ⟨[(5, .sl 13 (q + 2) 0 (q + 2)), (44, vI Q), (45, i64 4), (46, i64 q)], [(13, ⟨1, txR ([name, F43] ++ (Q.take q).map txt)⟩)]⟩) (fun q => q ≤ 4) (fun q => 4 - q) _ 0 M (by simp) (by simp) (by omega) ?_
   intro k hk
   by_cases hlt : k < 4
   ·have hlt' : (k : Int) < 4 := by omega
    have hkQ : k < Q.length := by omega
    obtain ⟨x, hx⟩ : ∃ z, Q[k]'hkQ = z := ⟨_, rfl⟩
    have hxb := hin0 x (hx ▸ List.getElem_mem hkQ)
    have a1 := h6 x ⟨by omega, by omega⟩
    have hrl : (txR ([name, F43] ++ (Q.take k).map txt)).length = k + 2 := by rw [txR_len]; simp; omega
    have hrc : ∀ z, lcRows z (txR ([name, F43] ++ (Q.take k).map txt)) = true := fun z => lcRows_comp z txQ _
    have hrn : ∀ z, nmRows z (txR ([name, F43] ++ (Q.take k).map txt)) = true := fun z => nmRows_comp z txQ _
    have hgoal : txR ([name, F43] ++ (Q.take (k + 1)).map txt) = txR ([name, F43] ++ (Q.take k).map txt) ++ [[st (txt x)]] := by rw [List.take_succ_eq_append_getElem hkQ, hx, List.map_append, ← List.append_assoc, List.map_singleton, txR_snoc]
    have hgo : ∃ q' : Nat, (⟨[(5, .sl 13 (k + 3) 0 (k + 3)), (44, vI Q), (45, i64 4), (46, i64 ((k : Int) + 1))], [(13, ⟨1, txR ([name, F43] ++ (Q.take k).map txt) ++ [[st (txt x)]]⟩)]⟩ : St) = ⟨[(5, .sl 13 (q' + 2) 0 (q' + 2)), (44, vI Q), (45, i64 4), (46, i64 q')], [(13, ⟨1, txR ([name, F43] ++ (Q.take q').map txt)⟩)]⟩ ∧ q' ≤ 4 ∧ 4 - q' < 4 - k := ⟨k + 1, by rw [← hgoal]; simp, by omega, by omega⟩
    obtain ⟨q', q1, q2, q3⟩ := hgo
    generalize txR ([name, F43] ++ (Q.take k).map txt) = G at *
    simp -implicitDefEqProofs (disch := first | omega | (simp [hrl, hrc, hrn] <;> fail) | assumption) [hlt', hkQ, hx, intD, a1, hrl, hrc, hrn]
    exact ⟨q', by first | (simp at q1 ⊢; exact q1) | simpa using q1, q2, q3⟩
   ·obtain rfl : k = 4 := by omega
    rw [show Q.take 4 = Q by rw [← hQl, List.take_length]]
    generalize txR ([name, F43] ++ Q.map txt) = G at *
    simp -implicitDefEqProofs (disch := first | omega | assumption)
  have hlp := hin ⟨[(5, .sl 13 2 0 2), (44, vI Q), (45, i64 4), (46, i64 0)], [(13, ⟨1, [[st name], [st F43]]⟩)]⟩ (by simp [txR, txQ, toAV])
  have ha := allRows_comp txQ ([name, F43] ++ Q.map txt)
  rw [show ([name, F43] ++ Q.map txt).map (toAV ∘ txQ) = txR ([name, F43] ++ Q.map txt) from rfl] at ha
  have hrl : (txR ([name, F43] ++ Q.map txt)).length = 6 := by rw [txR_len]; simp [hQl]
  have hF2 : (([name, F43] ++ Q.map txt).map txQ).take 6 = ([name, F43] ++ Q.map txt).map txQ := by rw [List.take_of_length_le]; simp [hQl]
  simp only [vR]
  generalize txR ([name, F43] ++ Q.map txt) = G at *
  generalize ([name, F43] ++ Q.map txt).map txQ = X at *
  simp only [fracD] at e2 e3
  have hln : ¬ (l.length : Int) = 0 := by omega
  have e5' : Γ 259 [.c (.vs 1 [[.int .i64 50], [.int .i64 90], [.int .i64 95], [.int .i64 100]]), vI l] = some [vI Q, i64 0] := e5
  have h1' : Γ 436 [] = some [.c (.vs 1 [[.int .i64 50], [.int .i64 90], [.int .i64 95], [.int .i64 100]])] := h1
  have hQl' : (Q.map intD).length = 4 := by rw [List.length_map, hQl]
  simp -implicitDefEqProofs (disch := first | omega | assumption) [h0, hln, e2, e3, e4, h1', e5', hQl, hQl', hlp, ha, hrl, hF2]
end Go.Am
namespace Go.Am
theorem ref42_Stats_run {Γ : Env} {M : Nat} (hM : 1000 < M) (h2 : MeanC8 (Γ 422)) (h5 : PctC (Γ 421)) (h6 : Of (Γ 6)) : StatsC (run Γ M ref42_Stats_f) := by
 intro name l hl
 have hn := hl.n
 by_cases h0 : l = []
 ·subst h0
  have hst : statsT name [] = [name, [110, 47, 97], [110, 47, 97], [110, 47, 97], [110, 47, 97], [110, 47, 97]] := rfl
  rw [hst]
  simp -implicitDefEqProofs (disch := first | omega | assumption) [vR, txQ]
 ·have hS := hl.sumA
  have hpos := List.length_pos_iff.2 h0
  have hd := div_in (l := l.sum) (c := l.length) hS.1 (by omega)
  obtain ⟨⟨d1, d2⟩, d3, d4⟩ := hd
  have e2 := h2 l hl h0
  have a1 := h6 (l.sum / l.length) ⟨by omega, by omega⟩
  have a2 := h6 (l.sum % l.length) ⟨by omega, by omega⟩
  have a3 := h6 l.length ⟨by omega, by omega⟩
  have l1 := txtL d1
  have l2 := txtL d3
  have l3 := txtL (n := (l.length : Int)) (by omega)
  have hms : (1000 : Nat) ≤ maxStr := by decide
  have hst : statsT name l = [name, fracT 43 (l.sum / l.length) (l.sum % l.length) l.length] ++ (pcts.map (ofP · l)).map txt := by
   unfold statsT; rw [if_neg h0]; simp [List.map_map]
  have hin0 : ∀ p ∈ pcts, 0 ≤ ofP p l ∧ ofP p l ≤ 1073741825 ∧ Γ 421 [i64 p, vI l] = some [i64 (ofP p l)] := by
   intro p hp
   have p12 : 1 ≤ p ∧ p ≤ 100 := by simp [pcts] at hp; omega
   have := hl.all _ (ofP_mem p12 h0)
   exact ⟨this.1, this.2, h5 l hl h0 p p12.1 p12.2⟩
  rw [hst]
  obtain ⟨F43, hF43⟩ : ∃ F, fracT 43 (l.sum / l.length) (l.sum % l.length) l.length = F := ⟨_, rfl⟩
  rw [hF43]
  obtain ⟨ax, s', ⟨rfl, rfl⟩, hin⟩ : ∃ ax s', (ax = .ex 0 ∧ s' = ⟨[(5, .sl 12 6 0 6)], [(12, ⟨1, txR ([name, F43] ++ (pcts.map (ofP · l)).map txt)⟩)]⟩) ∧ ∀ s0, nrm [1, 5, 9, 10] [5, 9, 12, 44, 58] s0 = ⟨[(1, vI l), (5, .sl 12 (0 + 2) 0 (0 + 2)), (9, .loc 9 0 0), (10, i64 (0 : Nat))], [(9, ⟨4, [[i64 50, i64 90, i64 95, i64 100]]⟩), (12, ⟨1, txR ([name, F43] ++ ((pcts.take 0).map (ofP · l)).map txt)⟩)]⟩ → lp (exec Γ M ref42_Stats_l1) M s0 = some (ax, s') := by
   refine lp_all (fun q : Nat => ⟨[(1, vI l), (5, .sl 12 (q + 2) 0 (q + 2)), (9, .loc 9 0 0), (10, i64 q)], [(9, ⟨4, [[i64 50, i64 90, i64 95, i64 100]]⟩), (12, ⟨1, txR ([name, F43] ++ ((pcts.take q).map (ofP · l)).map txt)⟩)]⟩) (fun q => q ≤ 4) (fun q => 4 - q) _ 0 M (by simp) (by simp) (by omega) ?_
   intro k hk
   by_cases hlt : k < 4
   ·have hlt' : (k : Int) < 4 := by omega
    have hkp : k < pcts.length := hlt
    obtain ⟨p, hp⟩ : ∃ z, pcts[k]'hkp = z := ⟨_, rfl⟩
    obtain ⟨b1, b2, b3⟩ := hin0 p (hp ▸ List.getElem_mem hkp)
    have c1 := h6 (ofP p l) ⟨by omega, by omega⟩
    have hrl : (txR ([name, F43] ++ ((pcts.take k).map (ofP · l)).map txt)).length = k + 2 := by rw [txR_len]; simp [pcts]; omega
    have hrc : ∀ z, lcRows z (txR ([name, F43] ++ ((pcts.take k).map (ofP · l)).map txt)) = true := fun z => lcRows_comp z txQ _
    have hrn : ∀ z, nmRows z (txR ([name, F43] ++ ((pcts.take k).map (ofP · l)).map txt)) = true := fun z => nmRows_comp z txQ _
    have hgoal : txR ([name, F43] ++ ((pcts.take (k + 1)).map (ofP · l)).map txt) = txR ([name, F43] ++ ((pcts.take k).map (ofP · l)).map txt) ++ [[st (txt (ofP p l))]] := by rw [List.take_succ_eq_append_getElem hkp, hp, List.map_append, List.map_append, ← List.append_assoc, List.map_singleton, List.map_singleton, txR_snoc]
    have hgo : ∃ q' : Nat, (⟨[(1, vI l), (5, .sl 12 (k + 3) 0 (k + 3)), (9, .loc 9 0 0), (10, i64 ((k : Int) + 1))], [(9, ⟨4, [[i64 50, i64 90, i64 95, i64 100]]⟩), (12, ⟨1, txR ([name, F43] ++ ((pcts.take k).map (ofP · l)).map txt) ++ [[st (txt (ofP p l))]]⟩)]⟩ : St) = ⟨[(1, vI l), (5, .sl 12 (q' + 2) 0 (q' + 2)), (9, .loc 9 0 0), (10, i64 q')], [(9, ⟨4, [[i64 50, i64 90, i64 95, i64 100]]⟩), (12, ⟨1, txR ([name, F43] ++ ((pcts.take q').map (ofP · l)).map txt)⟩)]⟩ ∧ q' ≤ 4 ∧ 4 - q' < 4 - k := ⟨k + 1, by rw [← hgoal]; simp, by omega, by omega⟩
    obtain ⟨q', q1, q2, q3⟩ := hgo
    generalize txR ([name, F43] ++ ((pcts.take k).map (ofP · l)).map txt) = G at *
    have hpk : ∀ X : List AV, X = [i64 50, i64 90, i64 95, i64 100] → X[k]? = some (i64 p) := by
     rintro X rfl
     rcases k with _ | _ | _ | _ | k
     ·simp [pcts] at hp; subst hp; rfl
     ·simp [pcts] at hp; subst hp; rfl
     ·simp [pcts] at hp; subst hp; rfl
     ·simp [pcts] at hp; subst hp; rfl
     ·omega
    have hpk1 := hpk _ rfl
    have hpk2 : ∀ h, ([i64 50, i64 90, i64 95, i64 100] : List AV)[k]'h = i64 p := fun h => by
     rw [List.getElem?_eq_getElem h] at hpk1; exact Option.some.inj hpk1
    simp -implicitDefEqProofs (disch := first | omega | (simp [hrl, hrc, hrn] <;> fail) | assumption) [hlt, hlt', show k ≤ 3 by omega, hpk1, hpk2, b3, c1, hrl, hrc, hrn]
    exact ⟨q', by first | (simp at q1 ⊢; exact q1) | simpa using q1, q2, q3⟩
   ·obtain rfl : k = 4 := by omega
    rw [show pcts.take 4 = pcts from rfl]
    generalize txR ([name, F43] ++ (pcts.map (ofP · l)).map txt) = G at *
    simp -implicitDefEqProofs (disch := first | omega | assumption)
  have hlp := hin ⟨[(1, vI l), (5, .sl 12 2 0 2), (9, .loc 9 0 0), (10, i64 0)], [(9, ⟨4, [[i64 50, i64 90, i64 95, i64 100]]⟩), (12, ⟨1, [[st name], [st F43]]⟩)]⟩ (by simp [txR, txQ, toAV])
  have ha := allRows_comp txQ ([name, F43] ++ (pcts.map (ofP · l)).map txt)
  rw [show ([name, F43] ++ (pcts.map (ofP · l)).map txt).map (toAV ∘ txQ) = txR ([name, F43] ++ (pcts.map (ofP · l)).map txt) from rfl] at ha
  have hrl : (txR ([name, F43] ++ (pcts.map (ofP · l)).map txt)).length = 6 := by rw [txR_len]; rfl
  have hF2 : (([name, F43] ++ (pcts.map (ofP · l)).map txt).map txQ).take 6 = ([name, F43] ++ (pcts.map (ofP · l)).map txt).map txQ := by rw [List.take_of_length_le]; simp [pcts]
  simp only [vR]
  generalize txR ([name, F43] ++ (pcts.map (ofP · l)).map txt) = G at *
  generalize ([name, F43] ++ (pcts.map (ofP · l)).map txt).map txQ = X at *
  simp only [fracD] at e2
  have hln : ¬ (l.length : Int) = 0 := by omega
  unfold fracT at hF43
  by_cases c : l.sum % l.length = 0
  ·rw [if_pos c] at hF43
   have c' : ¬ 0 < l.sum % l.length := by omega
   generalize l.sum / l.length = W at *
   generalize l.sum % l.length = R at *
   simp -implicitDefEqProofs (disch := first | omega | ((try simp only [List.length_append, List.length_cons, List.length_nil, maxStr_eq]); omega) | assumption) [h0, hln, e2, a1, hF43, c', hlp, ha, hrl, hF2]
  ·rw [if_neg c] at hF43
   have c' : 0 < l.sum % l.length := by omega
   generalize l.sum / l.length = W at *
   generalize l.sum % l.length = R at *
   have hF44 : txt W ++ 43 :: (txt R ++ 47 :: txt (l.length : Int)) = F43 := hF43
   simp -implicitDefEqProofs (disch := first | omega | ((try simp only [List.length_append, List.length_cons, List.length_nil, maxStr_eq]); omega) | assumption) [h0, hln, e2, a1, a2, a3, hF44, c', hlp, ha, hrl, hF2, binS_add]
def WithinC (g : List AV → Option (List AV)) : Prop := ∀ (b w : Int) (i : Nat) (l : List Int), Bw b w → (i : Int) < b → Ns l → g [i64 b, i64 w, i64 i, vZ l] = some [i64 (binC b w l i)]
theorem bin_iff {b w x : Int} {i : Nat} (hbw : Bw b w) (hi : (i : Int) < b) (hx : 0 ≤ x) : binOf b w x = i ↔ ((i : Int) * w ≤ x ∧ (x < (i : Int) * w + w ∨ (i : Int) = b - 1)) := by
 obtain ⟨⟨b1, b2⟩, w1, w2⟩ := hbw
 have hq : w * (x / w) + x % w = x := Int.mul_ediv_add_emod x w
 have hr0 : 0 ≤ x % w := Int.emod_nonneg _ (by omega)
 have hr1 : x % w < w := Int.emod_lt_of_pos _ (by omega)
 have key : ∀ j : Int, j * w ≤ x ↔ j ≤ x / w := fun j => by rw [Int.le_ediv_iff_mul_le (by omega)]
 have k1 := key i
 have k2 := key (i + 1)
 rw [Int.add_mul, Int.one_mul] at k2
 unfold binOf
 constructor
 ·intro h
  have h1 : (i : Int) ≤ x / w := by omega
  refine ⟨k1.2 h1, ?_⟩
  by_cases c : (i : Int) = b - 1
  ·exact .inr c
  ·left
   have : ¬ (i : Int) + 1 ≤ x / w := by omega
   have := mt k2.1 this
   omega
 ·rintro ⟨h1, h2⟩
  have h3 := k1.1 h1
  rcases h2 with h2 | h2
  ·have : ¬ (i : Int) + 1 ≤ x / w := fun h => by have := k2.2 h; omega
   omega
  ·omega
theorem binC_take (b w : Int) (l : List Int) (k : Nat) (h : k < l.length) (i : Nat) : binC b w (l.take (k + 1)) i = binC b w (l.take k) i + if binOf b w l[k] = i then 1 else 0 := by
 rw [List.take_succ_eq_append_getElem h, binC_snoc]
theorem ref42_within_run (Γ : Env) (M : Nat) (hM : 1000 < M) : WithinC (run Γ M ref42_within_f) := by
 intro b w i l hbw hi hl
 have hn := hl.n
 obtain ⟨⟨m1, m2⟩, m3, m4⟩ := edge_in hbw hi
 have hbd := hbw.b
 have hwd := hbw.w
 obtain ⟨ax, s', ⟨rfl, rfl⟩, hin⟩ : ∃ ax s', (ax = .ex 0 ∧ s' = ⟨[(9, i64 (binC b w l i))], []⟩) ∧ ∀ s0, nrm [0, 1, 2, 3, 9, 10] [] s0 = ⟨[(0, i64 b), (1, i64 w), (2, i64 i), (3, vZ l), (9, i64 (binC b w (l.take 0) i)), (10, i64 (0 : Nat))], []⟩ → lp (exec Γ M ref42_within_l1) M s0 = some (ax, s') := by
  refine lp_all (fun q : Nat => ⟨[(0, i64 b), (1, i64 w), (2, i64 i), (3, vZ l), (9, i64 (binC b w (l.take q) i)), (10, i64 q)], []⟩) (fun q => q ≤ l.length) (fun q => l.length - q) _ 0 M (by simp) (by simp) (by omega) ?_
  intro k hk
  by_cases hlt : k < l.length
  ·obtain ⟨x, hx⟩ : ∃ z, l[k]'hlt = z := ⟨_, rfl⟩
   have hxb := hl.all x (hx ▸ List.getElem_mem hlt)
   have hs := binC_take b w l k hlt i
   rw [hx] at hs
   have hiff := bin_iff hbw hi hxb.1
   have hc := binC_le b w (l.take k) i
   rw [List.length_take] at hc
   generalize binC b w (l.take k) i = C at *
   obtain ⟨P, hP⟩ : ∃ P, (i : Int) * w = P := ⟨_, rfl⟩
   rw [hP] at m1 m2 hiff
   by_cases c1 : P ≤ x
   ·by_cases c2 : x < P + w
    ·rw [if_pos (hiff.2 ⟨c1, .inl c2⟩)] at hs
     simp -implicitDefEqProofs (disch := first | omega | assumption) [hlt, hx, numQ, hP, c1, c2]
     exact ⟨k + 1, by omega, by omega, by omega⟩
    ·by_cases c3 : (i : Int) = b - 1
     ·rw [if_pos (hiff.2 ⟨c1, .inr c3⟩)] at hs
      have c3' : (decide ((i : Int) = b - 1)) = true := decide_eq_true c3
      simp -implicitDefEqProofs (disch := first | omega | assumption) [hlt, hx, numQ, hP, c1, c2, c3']
      exact ⟨k + 1, by omega, by omega, by omega⟩
     ·rw [if_neg fun h => by rcases (hiff.1 h).2 with h | h; exact c2 h; exact c3 h] at hs
      simp -implicitDefEqProofs (disch := first | omega | assumption) [hlt, hx, numQ, hP, c1, c2, c3]
      exact ⟨k + 1, by omega, by omega, by omega⟩
   ·rw [if_neg fun h => c1 (hiff.1 h).1] at hs
    simp -implicitDefEqProofs (disch := first | omega | assumption) [hlt, hx, numQ, hP, c1]
    exact ⟨k + 1, by omega, by omega, by omega⟩
  ·obtain rfl : k = l.length := by omega
   rw [List.take_length]
   simp -implicitDefEqProofs (disch := first | omega | assumption)
 have hlp := hin ⟨[(0, i64 b), (1, i64 w), (2, i64 i), (3, vZ l), (9, i64 0), (10, i64 0)], []⟩ (by simp [binC])
 simp -implicitDefEqProofs (disch := first | omega | assumption) [hlp]
theorem ref42_Bins_run {Γ : Env} {M : Nat} (hM : 1000 < M) (h1 : WithinC (Γ 441)) (h3 : Of (Γ 6)) : BinsC (run Γ M ref42_Bins_f) := by
 intro b w l m hbw hl hm
 obtain ⟨N, hN⟩ : ∃ N, b.toNat = N := ⟨_, rfl⟩
 have hb := hbw.b
 have hbN : b = (N : Int) := by omega
 have hln := hl.n
 have hmn := hm.n
 rw [hN]
 obtain ⟨ax, s', ⟨rfl, rfl⟩, hin⟩ : ∃ ax s', (ax = .ex 0 ∧ s' = ⟨[(9, .sl 13 (N + 1) 0 (N + 1))], [(13, ⟨1, trM (tabRb b w l m N)⟩)]⟩) ∧ ∀ s0, nrm [0, 1, 2, 3, 9, 10] [9, 13, 55] s0 = ⟨[(0, i64 b), (1, i64 w), (2, vZ l), (3, vZ m), (9, .sl 13 (0 + 1) 0 (0 + 1)), (10, i64 (0 : Nat))], [(13, ⟨1, trM (tabRb b w l m 0)⟩)]⟩ → lp (exec Γ M ref42_Bins_l1) M s0 = some (ax, s') := by
  refine lp_all (fun q : Nat => ⟨[(0, i64 b), (1, i64 w), (2, vZ l), (3, vZ m), (9, .sl 13 (q + 1) 0 (q + 1)), (10, i64 q)], [(13, ⟨1, trM (tabRb b w l m q)⟩)]⟩) (fun q => q ≤ N) (fun q => N - q) _ 0 M (by simp) (by simp) (by omega) ?_
  intro k hk
  by_cases hlt : k < N
  ·have hkb : (k : Int) < b := by omega
   obtain ⟨⟨m1, m2⟩, m3, m4⟩ := edge_in hbw hkb
   have h3w : ((k : Int) + 1) * w = k * w + w := by rw [Int.add_mul]; simp
   have a0 := h3 ((k : Int) * w) ⟨by omega, by omega⟩
   have a00 := h3 ((k : Int) * w + w - 1) ⟨by omega, by omega⟩
   have b1 := h1 b w k l hbw hkb hl
   have b2 := h1 b w k m hbw hkb hm
   have c1 := binC_le b w l k
   have c2 := binC_le b w m k
   have a2 := h3 (binC b w l k) ⟨by omega, by omega⟩
   have a3 := h3 (binC b w m k) ⟨by omega, by omega⟩
   have l0 := txtL m1
   have l00 := txtL (n := (k : Int) * w + w - 1) (by omega)
   have hms : (1000 : Nat) ≤ maxStr := by decide
   have hrl := trM_len (tabRb b w l m k)
   rw [tabRb_len] at hrl
   have hrn : ∀ z, nmRows z (trM (tabRb b w l m k)) = true := fun z => nmRows_comp z rowQ _
   have hrc : ∀ z, lcRows z (trM (tabRb b w l m k)) = true := fun z => lcRows_comp z rowQ _
   have hgoal : trM (tabRb b w l m (k + 1)) = trM (tabRb b w l m k) ++ [[vR [edgeT b w k, txt (binC b w l k), txt (binC b w m k)]]] := by rw [tabRb_snoc, trM_snoc]; rfl
   unfold edgeT at hgoal
   rw [h3w] at hgoal
   generalize trM (tabRb b w l m k) = G at *
   generalize binC b w l k = c3 at *
   generalize binC b w m k = c4 at *
   have hbw0 := hbw.w
   obtain ⟨P, hP⟩ : ∃ P, (k : Int) * w = P := ⟨_, rfl⟩
   rw [hP] at m1 m2 a0 a00 l0 l00 hgoal
   by_cases c : (k : Int) = b - 1
   ·rw [if_pos c] at hgoal
    have c' : (decide ((k : Int) = b - 1)) = true := decide_eq_true c
    generalize txt P = T at *
    simp -implicitDefEqProofs (disch := first | omega | (simp [hrl, hrc, hrn] <;> fail) | ((try simp only [List.length_append, List.length_cons, List.length_nil, maxStr_eq]); omega) | assumption) [hkb, hP, c', a0, b1, b2, a2, a3, hrl, hrc, hrn, binS_add]
    exact ⟨k + 1, ⟨⟨by omega, by omega⟩, hgoal.symm⟩, by omega, by omega⟩
   ·rw [if_neg c] at hgoal
    generalize txt P = T at *
    generalize txt (P + w - 1) = T2 at *
    simp -implicitDefEqProofs (disch := first | omega | (simp [hrl, hrc, hrn] <;> fail) | ((try simp only [List.length_append, List.length_cons, List.length_nil, maxStr_eq]); omega) | assumption) [hkb, hP, c, a0, a00, b1, b2, a2, a3, hrl, hrc, hrn, binS_add]
    exact ⟨k + 1, ⟨⟨by omega, by omega⟩, hgoal.symm⟩, by omega, by omega⟩
  ·obtain rfl : N = k := by omega
   have hkb : ¬ (N : Int) < b := by omega
   simp -implicitDefEqProofs (disch := first | omega | assumption) [hkb]
 have hlp := hin ⟨[(0, i64 b), (1, i64 w), (2, vZ l), (3, vZ m), (9, .sl 13 1 0 1), (10, i64 0)], [(13, ⟨1, [[vR headRb]]⟩)]⟩ (by simp [tabRb, trM, rowQ, toAV])
 simp only [vR, headRb, List.map_cons, List.map_nil, txQ] at hlp
 have ha := allRows_comp rowQ (tabRb b w l m N)
 have hrl := trM_len (tabRb b w l m N)
 rw [tabRb_len] at hrl
 have hF2 : ((tabRb b w l m N).map rowQ).take (N + 1) = (tabRb b w l m N).map rowQ := by rw [List.take_of_length_le]; rw [List.length_map, tabRb_len]; omega
 rw [show (tabRb b w l m N).map (toAV ∘ rowQ) = trM (tabRb b w l m N) from rfl] at ha
 generalize trM (tabRb b w l m N) = G at *
 simp only [vRs]
 generalize (tabRb b w l m N).map rowQ = K at *
 simp -implicitDefEqProofs (disch := first | omega | assumption) [hlp, ha, hrl, hF2]
def rpX : Env := ⟨fun f ds => if f = 438 then repS ds else none, fun f s => if f = 290 then sortPt s else none, fun _ _ => none⟩
theorem rpX_fn : rpX 438 = repS := by funext s; simp [rpX]
theorem rpX_pt : rpX.pt 290 = sortPt := by funext s; simp [rpX]
theorem rpX_ok {P : Go.Program} {nm : Nat → Option Nat} {T : Tab} {τ : Go.Shelf.Ren} {g : Nat} (L : Go.Proofs.Lays.n189 P τ) (h : nm 290 = some (τ.f 189)) (hr : nm 438 = some g) (hS : Spec P g repS) : XOk P nm T rpX where
 fn := fun f k hg _ => by
  by_cases hf : f = 438
  ·subst hf
   rw [hr] at hg; simp only [Option.some.injEq] at hg; subst hg
   rw [rpX_fn]; exact hS
  ·intro F w ds vs rs _ _ h
   simp [rpX, hf] at h
 pt := fun f g hg _ => by
  by_cases hf : f = 290
  ·subst hf
   rw [h] at hg
   simp only [Option.some.injEq] at hg
   subst hg
   rw [rpX_pt]; exact sort_specP L
  ·have : rpX.pt f = fun _ => none := by funext s; simp [rpX, hf]
   rw [this]; exact SpecP.none
 mono := fun f s rs ob R hR h => by
  by_cases hf : f = 290
  ·subst hf
   rw [rpX_pt] at h ⊢
   exact sort_mono s rs ob R hR h
  ·simp [rpX, hf] at h
theorem env_rp {T : Tab} {V : List (Nat × Nat)} {M n : Nat} (h : get T 438 = none) : RepC (env T V rpX M n 438) := by
 have : env T V rpX M n 438 = repS := by
  rw [← rpX_fn]
  funext s
  cases n <;> simp [env, envFn, h]
 rw [this]; exact repS_C
theorem env_rs {T : Tab} {V : List (Nat × Nat)} {M n : Nat} (h : get T 290 = none) : (env T V rpX M n).pt 290 = sortPt := by
 rw [← rpX_pt]
 funext s
 cases n <;> simp [env, envPt, h]
end Go.Am
