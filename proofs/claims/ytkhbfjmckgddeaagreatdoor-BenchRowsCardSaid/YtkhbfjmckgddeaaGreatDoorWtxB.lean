/- Law 72's table: hundredths of a quotient; numbers with a point. -/
import Derived.Test.YtkhbfjmckgddeaaGreatDoorWtx
set_option linter.unusedVariables false
set_option linter.unusedSimpArgs false
set_option maxRecDepth 10000
set_option maxHeartbeats 1000000
namespace Go.Am
def DivC (g : List AV → Option (List AV)) : Prop := ∀ l c : Int, 0 ≤ l → l ≤ 1099511627776000 → 0 < c → c ≤ 1099511627776 → g [u64 0, u64 l, u64 c] = some [u64 (l / c), u64 (l % c)]
theorem div_in {l c : Int} (hl0 : 0 ≤ l) (hc0 : 0 < c) : (0 ≤ l / c ∧ l / c ≤ l) ∧ 0 ≤ l % c ∧ l % c < c := ⟨⟨Int.ediv_nonneg hl0 (by omega), Int.ediv_le_self _ hl0⟩, Int.emod_nonneg _ (by omega), Int.emod_lt_of_pos _ hc0⟩
theorem math_bits_Div64_run (Γ : Env) (M : Nat) : DivC (run Γ M math_bits_Div64_f) := by
  intro l c hl0 hl hc0 hc
  obtain ⟨⟨h1, h2⟩, h3, h4⟩ := div_in hl0 hc0
  have hc1 : ¬ c = 0 := by omega
  have hc2 : ¬ c ≤ 0 := by omega
  simp -implicitDefEqProofs (disch := omega) [hc1, hc2]
def NSgC (g : List AV → Option (List AV)) : Prop := ∀ n : Int, 0 ≤ n → n ≤ 9007199254740992 → g [u64 n, bo false] = some [i64 n, i64 0]
theorem nums_signed_run (Γ : Env) (M : Nat) : NSgC (run Γ M nums_signed_f) := by
  intro n h1 h2
  simp -implicitDefEqProofs (disch := omega)
def RSgC (g : List AV → Option (List AV)) : Prop := ∀ n : Int, 0 ≤ n → n ≤ 9007199254740992 → g [u64 n, bo false] = some [i64 n, bo true]
theorem ref01_signed_run (Γ : Env) (M : Nat) : RSgC (run Γ M ref01_signed_f) := by
  intro n h1 h2
  have h3 : ¬ n = 9223372036854775808 := by omega
  simp -implicitDefEqProofs (disch := omega) [h3]
def NMulC (g : List AV → Option (List AV)) : Prop := ∀ a : Int, 0 ≤ a → a ≤ 1099511627776 → g [i64 a, i64 100] = some [i64 (100 * a), i64 0]
def RMulC (g : List AV → Option (List AV)) : Prop := ∀ a : Int, 0 ≤ a → a ≤ 1099511627776 → g [i64 a, i64 100] = some [i64 (100 * a), bo true]
theorem nums_Mul_run {Γ : Env} {M : Nat} (h1 : TimesC (Γ 394)) (h2 : Size (Γ 81)) (h3 : NSgC (Γ 393)) : NMulC (run Γ M nums_Mul_f) := by
  intro a h0 h
  have e1 := h2 a ⟨by omega, by omega⟩
  have e2 := h2 100 ⟨by omega, by omega⟩
  simp only [sizeOfI, show ¬ a < 0 by omega, if_false] at e1
  simp only [sizeOfI, show ¬ (100 : Int) < 0 by omega, if_false] at e2
  have e3 := h1 a h0 h
  have e4 := h3 (100 * a) (by omega) (by omega)
  simp -implicitDefEqProofs (disch := omega) [e1, e2, e3, e4]
theorem ref01_Mul_run {Γ : Env} {M : Nat} (h1 : TimesC (Γ 378)) (h2 : Size (Γ 74)) (h3 : RSgC (Γ 383)) : RMulC (run Γ M ref01_Mul_f) := by
  intro a h0 h
  have e1 := h2 a ⟨by omega, by omega⟩
  have e2 := h2 100 ⟨by omega, by omega⟩
  simp only [sizeOfI, show ¬ a < 0 by omega, if_false] at e1
  simp only [sizeOfI, show ¬ (100 : Int) < 0 by omega, if_false] at e2
  have e3 := h1 a h0 h
  have e4 := h3 (100 * a) (by omega) (by omega)
  simp -implicitDefEqProofs (disch := omega) [e1, e2, e3, e4]
def NAddC (g : List AV → Option (List AV)) : Prop := ∀ a b : Int, 0 ≤ a → a ≤ 1099511627776000 → 0 ≤ b → b ≤ 1099511627776000 → g [i64 a, i64 b] = some [i64 (a + b), i64 0]
def RAddC (g : List AV → Option (List AV)) : Prop := ∀ a b : Int, 0 ≤ a → a ≤ 1099511627776000 → 0 ≤ b → b ≤ 1099511627776000 → g [i64 a, i64 b] = some [i64 (a + b), bo true]
theorem nums_Add_run (Γ : Env) (M : Nat) : NAddC (run Γ M nums_Add_f) := by
  intro a b h1 h2 h3 h4
  obtain ⟨p1, p2⟩ := xor_pos (a := a) (b := a + b) h1 (by omega) (by omega) (by omega)
  obtain ⟨p3, p4⟩ := xor_pos (a := b) (b := a + b) h3 (by omega) (by omega) (by omega)
  have p5 := and_pos p1 p2 p3 p4
  obtain ⟨x, hx⟩ : ∃ x, bitsK .xor .i64 a (a + b) = x := ⟨_, rfl⟩
  obtain ⟨y, hy⟩ : ∃ y, bitsK .xor .i64 b (a + b) = y := ⟨_, rfl⟩
  obtain ⟨z, hz⟩ : ∃ z, bitsK .and .i64 x y = z := ⟨_, rfl⟩
  rw [hx, hy, hz] at p5
  simp -implicitDefEqProofs (disch := omega) [hx, hy, hz]
theorem ref01_Add_run (Γ : Env) (M : Nat) : RAddC (run Γ M ref01_Add_f) := by
  intro a b h1 h2 h3 h4
  simp -implicitDefEqProofs (disch := omega)
def MulDivC (g : List AV → Option (List AV)) : Prop := ∀ r c : Int, 0 ≤ r → r ≤ 1099511627776 → 0 < c → c ≤ 1099511627776 → g [i64 r, i64 100, i64 c] = some [i64 (100 * r / c), i64 0]
theorem nums_MulDiv_run {Γ : Env} {M : Nat} (h1 : TimesC (Γ 394)) (h2 : DivC (Γ 395)) (h3 : NSgC (Γ 393)) : MulDivC (run Γ M nums_MulDiv_f) := by
  intro r c hr0 hr hc0 hc
  obtain ⟨⟨p1, p2⟩, p3, p4⟩ := div_in (l := 100 * r) (c := c) (by omega) hc0
  have e1 := h1 r hr0 hr
  have e2 := h2 (100 * r) c (by omega) (by omega) hc0 hc
  have e3 := h3 (100 * r / c) (by omega) (by omega)
  have hc1 : ¬ c = 0 := by omega
  have hc2 : ¬ c ≤ 0 := by omega
  simp -implicitDefEqProofs (disch := omega) [e1, e2, e3, hc1, hc2]
def fracD (w r b : Int) : List D := [.int .i64 w, .int .i64 r, .int .i64 b]
abbrev RightC (g : List AV → Option (List AV)) : Prop := ∀ w r b : Int, 0 ≤ w → 0 ≤ r → r < b → g [.agg (fracD w r b)] = some [bo true]
theorem frac_Right_run (Γ : Env) (M : Nat) : RightC (run Γ M frac_Right_f) := by
  intro w r b h1 h2 h3
  simp -implicitDefEqProofs (disch := omega) [fracD]
theorem ref08_Right_run (Γ : Env) (M : Nat) : RightC (run Γ M ref08_Right_f) := by
  intro w r b h1 h2 h3
  simp -implicitDefEqProofs (disch := omega) [fracD]
def HundC (g : List AV → Option (List AV)) : Prop := ∀ w r b : Int, 0 ≤ w → w ≤ 1099511627776 → 0 ≤ r → r < b → b ≤ 1099511627776 → g [.agg (fracD w r b)] = some [i64 (100 * w + 100 * r / b), i64 0]
theorem hund_in {r b : Int} (h0 : 0 ≤ r) (h : r < b) : 0 ≤ 100 * r / b ∧ 100 * r / b < 100 := ⟨Int.ediv_nonneg (by omega) (by omega), Int.ediv_lt_of_lt_mul (by omega) (by omega)⟩
theorem frac_Hundredths_run {Γ : Env} {M : Nat} (h1 : RightC (Γ 392)) (h2 : NMulC (Γ 391)) (h3 : MulDivC (Γ 390)) (h4 : NAddC (Γ 389)) : HundC (run Γ M frac_Hundredths_f) := by
  intro w r b hw0 hw hr0 hr hb
  obtain ⟨p1, p2⟩ := hund_in hr0 hr
  have e1 := h1 w r b hw0 hr0 hr
  have e2 := h2 w hw0 hw
  have e3 := h3 r b hr0 (by omega) (by omega) hb
  have e4 := h4 (100 * w) (100 * r / b) (by omega) (by omega) p1 (by omega)
  simp only [fracD] at e1
  generalize 100 * r / b = q at *
  simp -implicitDefEqProofs (disch := omega) [fracD, e1, e2, e3, e4]
theorem ref08_Hundredths_run {Γ : Env} {M : Nat} (h1 : RightC (Γ 379)) (h2 : TimesC (Γ 378)) (h3 : OverC (Γ 377)) (h4 : RMulC (Γ 376)) (h5 : RAddC (Γ 375)) : HundC (run Γ M ref08_Hundredths_f) := by
  intro w r b hw0 hw hr0 hr hb
  obtain ⟨p1, p2⟩ := hund_in hr0 hr
  have e1 := h1 w r b hw0 hr0 hr
  have e2 := h2 r hr0 (by omega)
  have e3 := h3 (100 * r) b (by omega) (by omega) (by omega) hb
  have e4 := h4 w hw0 hw
  have e5 := h5 (100 * w) (100 * r / b) (by omega) (by omega) p1 (by omega)
  simp only [fracD] at e1
  generalize 100 * r / b = q at *
  generalize 100 * r % b = q2 at *
  simp -implicitDefEqProofs (disch := omega) [fracD, e1, e2, e3, e4, e5]
def FracOfC (g : List AV → Option (List AV)) : Prop := ∀ n b : Int, 0 ≤ n → n ≤ 1099511627776 → 0 ≤ b → b ≤ 1099511627776 → g [i64 n, i64 b] = some (if b = 0 then [.agg (fracD 0 0 0), i64 11] else [.agg (fracD (n / b) (n % b) b), i64 0])
theorem frac_Of_run (Γ : Env) (M : Nat) : FracOfC (run Γ M frac_Of_f) := by
  intro n b h1 h2 h3 h4
  by_cases hb : b = 0
  · simp -implicitDefEqProofs (disch := omega) [fracD, hb]
  · obtain ⟨⟨p1, p2⟩, p3, p4⟩ := div_in (l := n) (c := b) h1 (by omega)
    simp -implicitDefEqProofs (disch := omega) [fracD, hb]
/-! ### A number with a point -/
def FixC (g : List AV → Option (List AV)) : Prop := ∀ n : Int, 0 ≤ n → n ≤ 1099511627776000 → g [i64 n, i64 2] = some [st (fixT n)]
theorem dig_reps {n : Int} (h0 : 0 ≤ n) (h : n ≤ 1099511627776000) : List.replicate (3 - (dig n).length) 48 ++ dig n = pad3 n := by
  by_cases h1 : n < 10
  · rw [← pad3_nine h0 h1]; rw [dig_small h0 h1]; rfl
  · by_cases h2 : n < 100
    · rw [← pad3_two (by omega) h2, dig_two (by omega) h2]; rfl
    · have e := pad3_hund (n := n) (by omega) (by omega)
      have hl : 3 ≤ (dig n).length := by
        have := dig_pos (n / 100) (by omega) (by omega)
        rw [e]; unfold pad3 dig2; simp; omega
      rw [show 3 - (dig n).length = 0 by omega]
      simpa using e
theorem digits_Fixed_run {Γ : Env} {M : Nat} (hM : 100 < M) (h1 : Digits_plain (Γ 80)) (h2 : Size (Γ 81)) : FixC (run Γ M digits_Fixed_f) := by
  intro n h0 h
  have e1 := h2 n ⟨by omega, by omega⟩
  simp only [sizeOfI, show ¬ n < 0 by omega, if_false] at e1
  have e2 := h1 n ⟨by omega, by omega⟩
  have hrep := dig_reps h0 h
  have hlen := dig_len n
  have hms : (1000 : Nat) ≤ maxStr := by decide
  obtain ⟨D, hD⟩ : ∃ D, dig n = D := ⟨_, rfl⟩
  rw [hD] at hrep hlen e2
  obtain ⟨ax, s', ⟨rfl, rfl⟩, hin⟩ : ∃ ax s', (ax = .ex 0 ∧ s' = ⟨[(0, i64 n), (1, i64 2), (5, st (pad3 n))], []⟩) ∧ ∀ t, nrm [0, 1, 5] [] t = ⟨[(0, i64 n), (1, i64 2), (5, st (List.replicate 0 48 ++ D))], []⟩ → lp (exec Γ M digits_Fixed_l1) M t = some (ax, s') := by
    refine lp_all (fun k : Nat => ⟨[(0, i64 n), (1, i64 2), (5, st (List.replicate k 48 ++ D))], []⟩) (fun k => k ≤ 3 - D.length) (fun k => 3 - D.length - k) _ 0 M (by simp) (by omega) (by omega) ?_
    intro k hk
    by_cases hlt : k < 3 - D.length
    · have hs : List.replicate (k + 1) (48 : UInt8) ++ D = 48 :: (List.replicate k 48 ++ D) := by rw [List.replicate_succ]; rfl
      have hlk : (List.replicate k (48 : UInt8) ++ D).length = k + D.length := by simp
      generalize List.replicate k (48 : UInt8) ++ D = R at *
      simp -implicitDefEqProofs (disch := first | omega | ((try simp only [List.length_append, List.length_cons, List.length_nil, maxStr_eq]); omega) | assumption) [binS_add, hlk]
      exact ⟨k + 1, hs.symm, by omega, by omega⟩
    · obtain rfl : k = 3 - D.length := by omega
      have hlk : (List.replicate (3 - D.length) (48 : UInt8) ++ D).length = (3 - D.length) + D.length := by simp
      rw [hrep] at hlk ⊢
      generalize pad3 n = R at *
      simp -implicitDefEqProofs (disch := first | omega | assumption) [hlk]
  have hlp := hin ⟨[(0, i64 n), (1, i64 2), (5, st D)], []⟩ (by simp)
  have hp : (pad3 n).length = (dig (n / 100)).length + 2 := by unfold pad3 dig2; simp
  have hl2 := dig_len (n / 100)
  have ht : (pad3 n).take (dig (n / 100)).length = dig (n / 100) := by unfold pad3; exact List.take_left
  have hd : (pad3 n).drop (dig (n / 100)).length = dig2 (n % 100) := by unfold pad3; exact List.drop_left
  have hl3 : (dig2 (n % 100)).length = 2 := rfl
  have hB : (dig2 (n % 100)).take 2 = dig2 (n % 100) := rfl
  unfold fixT
  generalize pad3 n = P at *
  generalize dig (n / 100) = A at *
  generalize dig2 (n % 100) = B at *
  simp -implicitDefEqProofs (disch := first | omega | ((try simp only [List.length_append, List.length_cons, List.length_nil, maxStr_eq]); omega) | assumption) [e1, e2, hlp, binS_add, hp, ht, hd, hB]
theorem ref02_Fixed_run {Γ : Env} {M : Nat} (hM : 100 < M) (h1 : Ref02_plain 20 (Γ 73)) (h2 : Size (Γ 74)) : FixC (run Γ M ref02_Fixed_f) := by
  intro n h0 h
  have e1 := h2 n ⟨by omega, by omega⟩
  simp only [sizeOfI, show ¬ n < 0 by omega, if_false] at e1
  have e2 := h1 (n / 100) (InU64.dec ⟨by omega, by omega⟩)
  have e3 := h1 (n % 100) (InU64.dec ⟨by omega, by omega⟩)
  simp only [show ∀ x, digF 20 x = dig x from fun _ => rfl] at e2 e3
  have hlen := dig_len (n / 100)
  have hms : (1000 : Nat) ≤ maxStr := by decide
  have hlp1 : lp (exec Γ M ref02_Fixed_l2) M ⟨[(0, i64 n), (1, i64 2), (5, u64 1), (6, i64 0)], []⟩ = some (.ex 0, ⟨[(0, i64 n), (1, i64 2), (5, u64 100)], []⟩) := by
    obtain ⟨ax, s', ⟨rfl, rfl⟩, hin⟩ : ∃ ax s', (ax = .ex 0 ∧ s' = ⟨[(0, i64 n), (1, i64 2), (5, u64 100)], []⟩) ∧ ∀ t, nrm [0, 1, 5, 6] [] t = ⟨[(0, i64 n), (1, i64 2), (5, u64 (10 ^ 0)), (6, i64 (0 : Nat))], []⟩ → lp (exec Γ M ref02_Fixed_l2) M t = some (ax, s') := by
      refine lp_all (fun k : Nat => ⟨[(0, i64 n), (1, i64 2), (5, u64 (10 ^ k)), (6, i64 k)], []⟩) (fun k => k ≤ 2) (fun k => 2 - k) _ 0 M (by simp) (by omega) (by omega) ?_
      intro k hk
      rcases k with _ | _ | k
      · simp -implicitDefEqProofs (disch := omega)
        exact ⟨1, by simp, by omega, by omega⟩
      · simp -implicitDefEqProofs (disch := omega)
        exact ⟨2, by simp, by omega, by omega⟩
      · obtain rfl : k = 0 := by omega
        simp -implicitDefEqProofs (disch := omega)
    exact hin _ (by simp)
  have hrep : List.replicate (2 - (dig (n % 100)).length) 48 ++ dig (n % 100) = dig2 (n % 100) := by
    by_cases h10 : n % 100 < 10
    · rw [← dig_nine (by omega) h10, dig_small (by omega) h10]; rfl
    · rw [dig_two (by omega) (by omega)]; rfl
  obtain ⟨D, hD⟩ : ∃ D, dig (n % 100) = D := ⟨_, rfl⟩
  obtain ⟨A, hA⟩ : ∃ A, dig (n / 100) = A := ⟨_, rfl⟩
  have hl3 : (dig2 (n % 100)).length = 2 := rfl
  unfold fixT
  rw [hD] at e3 hrep
  rw [hA] at e2 hlen ⊢
  generalize dig2 (n % 100) = B at *
  obtain ⟨ax, s', ⟨rfl, rfl⟩, hin⟩ : ∃ ax s', (ax = .ex 2 ∧ s' = ⟨[(0, i64 n), (8, st A), (9, st B)], []⟩) ∧ ∀ t, nrm [0, 1, 8, 9] [] t = ⟨[(0, i64 n), (1, i64 2), (8, st A), (9, st (List.replicate 0 48 ++ D))], []⟩ → lp (exec Γ M ref02_Fixed_l1) M t = some (ax, s') := by
    refine lp_all (fun k : Nat => ⟨[(0, i64 n), (1, i64 2), (8, st A), (9, st (List.replicate k 48 ++ D))], []⟩) (fun k => k ≤ 2 - D.length) (fun k => 2 - D.length - k) _ 0 M (by simp) (by omega) (by omega) ?_
    intro k hk
    by_cases hlt : k < 2 - D.length
    · have hs : List.replicate (k + 1) (48 : UInt8) ++ D = 48 :: (List.replicate k 48 ++ D) := by rw [List.replicate_succ]; rfl
      have hlk : (List.replicate k (48 : UInt8) ++ D).length = k + D.length := by simp
      generalize List.replicate k (48 : UInt8) ++ D = R at *
      simp -implicitDefEqProofs (disch := first | omega | ((try simp only [List.length_append, List.length_cons, List.length_nil, maxStr_eq]); omega) | assumption) [binS_add, hlk]
      exact ⟨k + 1, hs.symm, by omega, by omega⟩
    · obtain rfl : k = 2 - D.length := by omega
      have hlk : (List.replicate (2 - D.length) (48 : UInt8) ++ D).length = (2 - D.length) + D.length := by simp
      rw [hrep] at hlk ⊢
      simp -implicitDefEqProofs (disch := first | omega | assumption) [hlk]
  have hlp := hin ⟨[(0, i64 n), (1, i64 2), (8, st A), (9, st D)], []⟩ (by simp)
  simp -implicitDefEqProofs (disch := first | omega | ((try simp only [List.length_append, List.length_cons, List.length_nil, maxStr_eq]); omega) | assumption) [e1, e2, e3, hlp1, hlp, binS_add]
end Go.Am
