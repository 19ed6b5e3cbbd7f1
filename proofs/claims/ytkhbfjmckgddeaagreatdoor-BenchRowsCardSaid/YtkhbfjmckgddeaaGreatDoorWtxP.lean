/- Law 72's table, plain part: digits of small numbers, numbers with a point, times of day. -/
import Derived.Test.YtkhbfjmckgddeaaGreatDoorDigits
set_option linter.unusedVariables false
set_option linter.unusedSimpArgs false
namespace Go.Am
def dig2 (m : Int) : List UInt8 := [dg (m / 10), dg (m % 10)]
theorem dig_small {n : Int} (h0 : 0 ≤ n) (h : n < 10) : dig n = [dg n] := by
  unfold dig; rw [show (20 : Nat) = 19 + 1 from rfl, digF, if_pos h]
theorem dig_step {n : Int} (h : 10 ≤ n) (h2 : n ≤ 9223372036854775807) : dig n = dig (n / 10) ++ [dg (n % 10)] := by
  have e : digF 20 (n / 10) = digF 19 (n / 10) := digF_more 19 1 (n / 10) ⟨by omega, by omega, by omega⟩ (by omega)
  have e2 : dig n = digF 19 (n / 10) ++ [dg (n % 10)] := by
    unfold dig; rw [show (20 : Nat) = 19 + 1 from rfl, digF, if_neg (by omega)]
  rw [e2, ← e]; rfl
theorem dig_two {n : Int} (h0 : 10 ≤ n) (h : n < 100) : dig n = dig2 n := by
  rw [dig_step h0 (by omega), dig_small (by omega) (by omega)]; rfl
theorem dig_pos (n : Int) (h0 : 0 ≤ n) (h2 : n ≤ 9223372036854775807) : 1 ≤ (dig n).length := by
  by_cases h : n < 10
  · rw [dig_small h0 h]; simp
  · rw [dig_step (by omega) h2]; simp
theorem dig_hund {n : Int} (h : 100 ≤ n) (h2 : n ≤ 9223372036854775807) : dig n = dig (n / 100) ++ dig2 (n % 100) := by
  rw [dig_step (by omega) h2, dig_step (n := n / 10) (by omega) (by omega)]
  unfold dig2
  rw [show n / 10 / 10 = n / 100 by omega, show n / 10 % 10 = n % 100 / 10 by omega, show n % 10 = n % 100 % 10 by omega]
  simp
/-- The text of a number below 10 with a nought ahead. -/
theorem dig_nine {n : Int} (h0 : 0 ≤ n) (h : n < 10) : 48 :: dig n = dig2 n := by
  rw [dig_small h0 h]; unfold dig2; rw [show n / 10 = 0 by omega, show n % 10 = n by omega]; rfl
theorem dig_len_le {n : Int} {k : Nat} (h0 : 0 ≤ n) (h : n < 10 ^ k) (hk : 0 < k) (hk2 : k ≤ 18) (hm : n ≤ 9223372036854775807) : (dig n).length ≤ k := by
  have e : digF (k + (20 - k)) n = digF k n := digF_more k (20 - k) n ⟨h0, h, by omega⟩ hk
  rw [show k + (20 - k) = 20 by omega] at e
  unfold dig
  rw [e]
  exact digF_len k n
def fixT (n : Int) : List UInt8 := dig (n / 100) ++ [46] ++ dig2 (n % 100)
/-- The number with noughts ahead, so that it has three digits. -/
def pad3 (n : Int) : List UInt8 := dig (n / 100) ++ dig2 (n % 100)
theorem pad3_hund {n : Int} (h : 100 ≤ n) (h2 : n ≤ 9223372036854775807) : dig n = pad3 n := dig_hund h h2
theorem pad3_two {n : Int} (h0 : 10 ≤ n) (h : n < 100) : 48 :: dig n = pad3 n := by
  rw [dig_two h0 h]; unfold pad3; rw [show n / 100 = 0 by omega, show n % 100 = n by omega, dig_small (by omega) (by omega)]; rfl
theorem pad3_nine {n : Int} (h0 : 0 ≤ n) (h : n < 10) : 48 :: 48 :: dig n = pad3 n := by
  rw [dig_nine h0 h]; unfold pad3; rw [show n / 100 = 0 by omega, show n % 100 = n by omega, dig_small (by omega) (by omega)]; rfl
def dayT (t : Int) : List UInt8 := dig2 (t / 3600 % 24) ++ [58] ++ dig2 (t / 60 % 60) ++ [58] ++ dig2 (t % 60)
def clkT (t : Int) : List UInt8 := if 86400 ≤ t then dig (t / 86400) ++ [100] ++ dayT t else dayT t
def hundT (w i : Int) : Int := 100 * (w / i) + 100 * (w % i) / i
def meanT (w i : Int) : List UInt8 := if 0 < i then fixT (hundT w i) else [45]
theorem hundT_in {w i : Int} (hw0 : 0 ≤ w) (hi0 : 0 < i) : 0 ≤ hundT w i ∧ hundT w i ≤ 100 * w + 100 := by
  unfold hundT
  have h1 : 0 ≤ w / i := Int.ediv_nonneg hw0 (by omega)
  have h2 : 0 ≤ w % i := Int.emod_nonneg _ (by omega)
  have h3 : w % i < i := Int.emod_lt_of_pos _ hi0
  have h4 : 0 ≤ 100 * (w % i) / i := Int.ediv_nonneg (by omega) (by omega)
  have h5 : 100 * (w % i) / i < 100 := Int.ediv_lt_of_lt_mul hi0 (by omega)
  have h6 : w / i ≤ w := Int.ediv_le_self _ hw0
  omega
/-- One step of a division bit by bit. -/
theorem over_step {v b c : Int} (hc : 0 < c) (hb0 : 0 ≤ b) (hb1 : b < 2) :
    (2 * (v % c) + b < c → (2 * v + b) / c = 2 * (v / c) ∧ (2 * v + b) % c = 2 * (v % c) + b) ∧
    (c ≤ 2 * (v % c) + b → (2 * v + b) / c = 2 * (v / c) + 1 ∧ (2 * v + b) % c = 2 * (v % c) + b - c) := by
  have h2 : 0 ≤ v % c := Int.emod_nonneg _ (by omega)
  have h3 : v % c < c := Int.emod_lt_of_pos _ hc
  have h4 : c * (v / c) + v % c = v := Int.mul_ediv_add_emod v c
  constructor
  · intro h
    have e : 2 * v + b = (2 * (v % c) + b) + c * (2 * (v / c)) := by
      rw [show c * (2 * (v / c)) = 2 * (c * (v / c)) by rw [Int.mul_left_comm]]; omega
    rw [e, Int.add_mul_ediv_left _ _ (by omega), Int.add_mul_emod_self_left]
    rw [Int.ediv_eq_zero_of_lt (by omega) h, Int.emod_eq_of_lt (by omega) h]
    omega
  · intro h
    have e : 2 * v + b = (2 * (v % c) + b - c) + c * (2 * (v / c) + 1) := by
      rw [Int.mul_add, show c * (2 * (v / c)) = 2 * (c * (v / c)) by rw [Int.mul_left_comm]]; omega
    rw [e, Int.add_mul_ediv_left _ _ (by omega), Int.add_mul_emod_self_left]
    rw [Int.ediv_eq_zero_of_lt (by omega) (by omega), Int.emod_eq_of_lt (by omega) (by omega)]
    omega
end Go.Am
