import Derived.Test.YtkdnbfmlpklkhaaGreatDoorK
import Derived.Test.YtkdnbfmlpklkhaaGreatDoorData
set_option maxHeartbeats 2000000
set_option maxRecDepth 10000
set_option linter.unusedVariables false
set_option linter.unusedSimpArgs false
namespace Go.Am
def dg (n : Int) : UInt8 := UInt8.ofNat (48 + n).toNat
def digF : Nat → Int → List UInt8
 | 0, _ => []
 | k + 1, n => if n < 10 then [dg n] else digF k (n / 10) ++ [dg (n % 10)]
def dig (n : Int) : List UInt8 := digF 20 n
def Dec (k : Nat) (n : Int) : Prop := 0 ≤ n ∧ n < 10 ^ k ∧ n ≤ 18446744073709551615
theorem digF_more : ∀ (k j : Nat) (n : Int), Dec k n → 0 < k → digF (k + j) n = digF k n
 | 0, j, n, h, hk => by omega
 | k + 1, j, n, h, _ => by
  obtain ⟨h1, h2, h3⟩ := h
  rw [show k + 1 + j = (k + j) + 1 by omega]
  simp only [digF]
  split
  ·rfl
  ·rename_i h10
   rcases Nat.eq_zero_or_pos k with rfl | hk
   ·simp at h2; omega
   ·rw [digF_more k j (n / 10) ⟨by omega, by rw [Int.pow_succ] at h2; omega, by omega⟩ hk]
theorem digF_len : ∀ (k : Nat) (n : Int), (digF k n).length ≤ k
 | 0, n => by simp [digF]
 | k + 1, n => by
  simp only [digF]
  split
  ·simp
  ·have := digF_len k (n / 10); simp; omega
def Ref02_plain (k : Nat) (g : List AV → Option (List AV)) : Prop := ∀ n, Dec k n → g [u64 n] = some [st (digF k n)]
theorem ref02_plain_run {Γ : Env} {M k : Nat} (hk : k < 20) (h : 0 < k → Ref02_plain k (Γ 73)) : Ref02_plain (k + 1) (run Γ M ref02_plain_f) := by
 intro n hn
 obtain ⟨h1, h2, h3⟩ := hn
 by_cases h10 : n < 10
 ·simp (disch := omega) [ref02_plain_f, ref02_plain_c, r73_0, r73_1, r73_2, h10, digF, wrapK_u8, wrapK_u64, St.parts, AV.dcells, putParts, repl, splice, rowsOf, St.conv, St.view, isU8, u8of, dg]
 ·have hk0 : 0 < k := by
   rcases Nat.eq_zero_or_pos k with rfl | hk
   ·simp at h2; omega
   ·exact hk
  have e := h hk0 (n / 10) ⟨by omega, by rw [Int.pow_succ] at h2; omega, by omega⟩
  have hl := digF_len k (n / 10)
  have hm : (digF k (n / 10)).length + 1 ≤ maxStr := by unfold maxStr; omega
  simp (disch := omega) [ref02_plain_f, ref02_plain_c, r73_0, r73_1, r73_3, r73_3q, h10, digF, wrapK_u8, wrapK_u64, tdivK_pos, tmodK_pos, e, St.parts, AV.dcells, putParts, repl, splice, rowsOf, St.conv, St.view, isU8, u8of, dg, hm]
def accV : Option (List UInt8) → AV
 | none => .nil 1
 | some l => .c (.vs 1 (l.map u8row))
theorem dg_toNat {d : Int} (h1 : 0 ≤ d) (h2 : d ≤ 9) : ((dg d).toNat : Int) = 48 + d := by
 unfold dg
 rw [UInt8.toNat_ofNat_of_lt' (by simp [UInt8.size]; omega)]
 omega
theorem u8row_all (l : List UInt8) : (l.map u8row).all isU8 = true := by
 induction l with
 | nil => rfl
 | cons b l ih => simp [u8row, isU8, ih]
theorem u8row_of (l : List UInt8) : (l.map u8row).map u8of = l := by
 induction l with
 | nil => rfl
 | cons b l ih => simp only [List.map_cons, ih]; simp [u8row, u8of]
theorem digits_loop {Γ : Env} {N M : Nat} (hM : 100 ≤ M) {n : Int} (hn : Dec 20 n) {s : St} (hs : nrm [0, 3, 4] [] s = ⟨[(0, u64 n), (3, .nil 1), (4, bo true)], []⟩) :
  ∃ ax s', lp (exec Γ N digits_plain_l1) M s = some (ax, s') ∧ ax = .ex 0 ∧ s' = ⟨[(3, accV (some (dig n)))], []⟩ := by
 refine lp_keep (fun q : Nat × Int × Option (List UInt8) => ⟨[(0, u64 q.2.1), (3, accV q.2.2), (4, bo (decide (0 < q.1)))], []⟩)
  (fun q => (0 < q.1 ∧ Dec q.1 q.2.1 ∧ (q.2.2.getD []).length + q.1 ≤ 20 ∧ digF q.1 q.2.1 ++ q.2.2.getD [] = dig n) ∨ (q.1 = 0 ∧ q.2.2 = some (dig n))) (fun q => q.1)
  (fun ax s' => ax = .ex 0 ∧ s' = ⟨[(3, accV (some (dig n)))], []⟩) ?_ (20, n, none) M s (.inl ⟨by omega, hn, by simp, by simp [dig]⟩) (by simpa [accV] using hs) (by simp; omega)
 rintro ⟨k, m, acc⟩ (⟨hk, ⟨h1, h2, h3⟩, hl, he⟩ | ⟨hk, rfl⟩)
 ·simp only at hk h1 h2 h3 hl he
  obtain ⟨k, rfl⟩ : ∃ j, k = j + 1 := ⟨k - 1, by omega⟩
  have hd := dg_toNat (d := m % 10) (by omega) (by omega)
  have hroom : room (1 + (acc.getD []).length) 1 = true := by unfold room; simp; omega
  have hnext : ∀ j : Nat, (j = 0 ∧ m < 10 ∨ 0 < j ∧ j = k ∧ ¬ m < 10) → ∃ q' : Nat × Int × Option (List UInt8), q' = (j, m / 10, some (dg (m % 10) :: acc.getD [])) ∧
    ((0 < q'.1 ∧ Dec q'.1 q'.2.1 ∧ (q'.2.2.getD []).length + q'.1 ≤ 20 ∧ digF q'.1 q'.2.1 ++ q'.2.2.getD [] = dig n) ∨ (q'.1 = 0 ∧ q'.2.2 = some (dig n))) := by
   rintro j (⟨rfl, h10⟩ | ⟨hj, rfl, h10⟩)
   ·refine ⟨_, rfl, .inr ⟨rfl, ?_⟩⟩
    simp only [digF, h10, if_true] at he
    rw [← he, show m % 10 = m by omega]; rfl
   ·refine ⟨_, rfl, .inl ⟨hj, ⟨by simp; omega, by rw [Int.pow_succ] at h2; simp; omega, by simp; omega⟩, by simp at hl ⊢; omega, ?_⟩⟩
    simp only [digF, h10, if_false] at he
    rw [← he]; simp
  have hw : wrapK .u8 (48 + m % 10) = ((dg (m % 10)).toNat : Int) := by rw [hd, wrapK_u8 (by omega) (by omega)]
  have fin : ∀ b : Bool, b = decide (0 < m / 10) → ∃ q' : Nat × Int × Option (List UInt8), (⟨[(0, u64 (m / 10)), (3, accV (some (dg (m % 10) :: acc.getD []))), (4, bo b)], []⟩ : St) = ⟨[(0, u64 q'.2.1), (3, accV q'.2.2), (4, bo (decide (0 < q'.1)))], []⟩ ∧
    ((0 < q'.1 ∧ Dec q'.1 q'.2.1 ∧ (q'.2.2.getD []).length + q'.1 ≤ 20 ∧ digF q'.1 q'.2.1 ++ q'.2.2.getD [] = dig n) ∨ (q'.1 = 0 ∧ q'.2.2 = some (dig n))) ∧ q'.1 < k + 1 := by
   rintro b rfl
   by_cases h10 : m < 10
   ·obtain ⟨q', rfl, hq⟩ := hnext 0 (.inl ⟨rfl, h10⟩)
    exact ⟨_, by simp; omega, hq, by simp⟩
   ·have hk0 : 0 < k := by
     rcases Nat.eq_zero_or_pos k with rfl | hk
     ·simp at h2; omega
     ·exact hk
    obtain ⟨q', rfl, hq⟩ := hnext k (.inr ⟨hk0, rfl, h10⟩)
    exact ⟨_, by simp [hk0]; omega, hq, by simp⟩
  cases acc with
  | none =>
   simp at hroom
   simp (disch := omega) [digits_plain_l1b, r80_3, r80_4, r80_5, r80_6, accV, tdivK_pos, tmodK_pos, wrapK_u64, hw, LPost, nrm, hroom]
   obtain ⟨q', e, h4, h5⟩ := fin _ rfl
   exact ⟨q'.1, q'.2.1, q'.2.2, by simpa [accV, u8row] using e, h4, h5⟩
  | some l =>
   have hroom : room (1 + l.length) 1 = true := by simpa using hroom
   rw [Nat.add_comm] at hroom
   have hta : (l.map u8row).take l.length = l.map u8row := List.take_of_length_le (by simp)
   simp (disch := omega) [digits_plain_l1b, r80_3, r80_4, r80_5, r80_6, accV, tdivK_pos, tmodK_pos, wrapK_u64, hw, LPost, nrm, hroom, Nat.add_comm 1 l.length, hta]
   obtain ⟨q', e, h4, h5⟩ := fin _ rfl
   exact ⟨q'.1, q'.2.1, q'.2.2, by simpa [accV, u8row] using e, h4, h5⟩
 ·simp only at hk
  subst hk
  simp [digits_plain_l1b, r80_3, LPost]
theorem InU64.dec {n : Int} (h : InU64 n) : Dec 20 n := by
 obtain ⟨h1, h2⟩ := h
 exact ⟨h1, by simp; omega, h2⟩
def Digits_plain (g : List AV → Option (List AV)) : Prop := ∀ n, InU64 n → g [u64 n] = some [st (dig n)]
theorem digits_plain_run (Γ : Env) {M : Nat} (hM : 100 ≤ M) : Digits_plain (run Γ M digits_plain_f) := by
 intro n hn
 have hl : ∀ s, nrm [0, 3, 4] [] s = ⟨[(0, u64 n), (3, .nil 1), (4, bo true)], []⟩ → lp (exec Γ M digits_plain_l1) M s = some (.ex 0, ⟨[(3, accV (some (dig n)))], []⟩) := fun s hs => by
  obtain ⟨ax, s', h1, rfl, rfl⟩ := digits_loop hM hn.dec hs
  exact h1
 have h1 := u8row_all (dig n)
 have h2 := u8row_of (dig n)
 have hc : ∀ s : St, s.conv .toStr (.c (.vs 1 ((dig n).map u8row))) = some (.str (dig n)) := fun s => by
  simp only [St.conv, St.view, h1, h2, if_true]
 simp (disch := first | omega | (simp [nrm] <;> fail) | assumption) [digits_plain_f, digits_plain_c, r80_0, r80_1, r80_2, r80_7, hl, accV, hc]
def sizeOfI (n : Int) : Int := if n < 0 then - n else n
def Size (g : List AV → Option (List AV)) : Prop := ∀ n, InI64 n → g [i64 n] = some [u64 (sizeOfI n)]
theorem notK_i64 {n : Int} (h : InI64 n) : notK .i64 n = -1 - n := by
 obtain ⟨h1, h2⟩ := h
 unfold notK bitsK
 simp only [IntKind.signed, if_true]
 have e : BitVec.ofInt IntKind.i64.bits (-1) = BitVec.allOnes IntKind.i64.bits := by decide
 rw [e, BitVec.allOnes_xor, IntKind.wrap_i64]
 have h64 : IntKind.i64.bits = 64 := rfl
 simp only [BitVec.toNat_not, BitVec.toNat_ofInt, h64]
 omega
theorem nums_Size_run (Γ : Env) {M : Nat} : Size (run Γ M nums_Size_f) := by
 intro n hn
 have hb := notK_i64 hn
 obtain ⟨h1, h2⟩ := hn
 by_cases h : n < 0
 ·simp (disch := omega) [nums_Size_f, nums_Size_c, r81_0, r81_1, r81_2, h, sizeOfI, hb, St.conv, wrapK_u64]
  omega
 ·simp (disch := omega) [nums_Size_f, nums_Size_c, r81_0, r81_1, r81_3, h, sizeOfI, St.conv, wrapK_u64]
theorem ref01_Size_run (Γ : Env) {M : Nat} : Size (run Γ M ref01_Size_f) := by
 intro n hn
 obtain ⟨h1, h2⟩ := hn
 by_cases h0 : n = -9223372036854775808
 ·subst h0
  simp (disch := omega) [ref01_Size_f, ref01_Size_c, r74_0, r74_1, r74_2, sizeOfI]
 by_cases h : n < 0
 ·simp (disch := omega) [ref01_Size_f, ref01_Size_c, r74_0, r74_1, r74_3, r74_4, h0, h, sizeOfI, St.conv, wrapK_u64, wrapK_i64]
 ·simp (disch := omega) [ref01_Size_f, ref01_Size_c, r74_0, r74_1, r74_3, r74_5, h0, h, sizeOfI, St.conv, wrapK_u64]
def txt (n : Int) : List UInt8 := if n < 0 then 45 :: dig (-n) else dig n
def Of (g : List AV → Option (List AV)) : Prop := ∀ n, InI64 n → g [i64 n] = some [st (txt n)]
theorem dig_len (n : Int) : (dig n).length ≤ 20 := digF_len 20 n
theorem digits_Text_run {Γ : Env} {M : Nat} (hp : Digits_plain (Γ 80)) (hs : Size (Γ 81)) : Of (run Γ M digits_Text_f) := by
 intro n hn
 have e := hs n hn
 obtain ⟨h1, h2⟩ := hn
 by_cases h : n < 0
 ·have e2 := hp (-n) ⟨by omega, by omega⟩
  have := dig_len (-n)
  have hm : 1 + (dig (-n)).length ≤ maxStr := by unfold maxStr; omega
  simp only [sizeOfI, h, if_true] at e
  simp (disch := omega) [digits_Text_f, digits_Text_c, r72_0, r72_1, r72_2, h, txt, e, e2, hm]
 ·have e2 := hp n ⟨by omega, by omega⟩
  simp (disch := omega) [digits_Text_f, digits_Text_c, r72_0, r72_1, r72_3, h, txt, e2, St.conv, wrapK_u64]
theorem ref02_Text_run {Γ : Env} {M : Nat} (hp : Ref02_plain 20 (Γ 73)) (hs : Size (Γ 74)) : Of (run Γ M ref02_Text_f) := by
 intro n hn
 have e := hs n hn
 obtain ⟨h1, h2⟩ := hn
 by_cases h : n < 0
 ·have e2 := hp (-n) (InU64.dec ⟨by omega, by omega⟩)
  have := dig_len (-n)
  have hm : 1 + (dig (-n)).length ≤ maxStr := by unfold maxStr; omega
  simp only [sizeOfI, h, if_true] at e
  simp only [show digF 20 (-n) = dig (-n) from rfl] at e2
  simp (disch := omega) [ref02_Text_f, ref02_Text_c, r52_0, r52_1, r52_2, h, txt, e, e2, hm]
 ·have e2 := hp n (InU64.dec ⟨by omega, by omega⟩)
  simp only [show digF 20 n = dig n from rfl] at e2
  simp (disch := omega) [ref02_Text_f, ref02_Text_c, r52_0, r52_1, r52_3, h, txt, e2, St.conv, wrapK_u64]
theorem digits_Of_run {Γ : Env} {M : Nat} (h : Of (Γ 72)) : Of (run Γ M digits_Of_f) := by
 intro n hn
 simp [digits_Of_f, digits_Of_c, r50_0, r50_1, h n hn, St.conv]
theorem ref02_Of_run {Γ : Env} {M : Nat} (h : Of (Γ 52)) : Of (run Γ M ref02_Of_f) := by
 intro n hn
 simp [ref02_Of_f, ref02_Of_c, r6_0, r6_1, h n hn, St.conv]
end Go.Am
namespace Go.Am
def bnd (s : List UInt8) : Int × Int × Bool :=
 if s = [102, 108, 111, 111, 114, 115] then (2, 128, true) else if s = [103, 97, 112] then (1, 16, true) else if s = [99, 97, 114, 115] then (1, 16, true) else if s = [99, 97, 112, 97, 99, 105, 116, 121] then (1, 64, true) else if s = [111, 112, 101, 110] then (1, 64, true) else if s = [100, 119, 101, 108, 108] then (1, 64, true) else if s = [99, 108, 111, 115, 101] then (1, 64, true) else if s = [116, 114, 97, 110, 115, 102, 101, 114] then (1, 64, true) else if s = [116, 105, 99, 107, 115] then (1, 1048576, true) else if s = [104, 111, 114, 105, 122, 111, 110] then (1, 1048576, true) else if s = [114, 97, 116, 101] then (0, 4000, true) else if s = [98, 105, 110, 115] then (1, 64, true) else if s = [119, 105, 100, 116, 104] then (1, 4096, true) else (0, 0, false)
def Bounds (g : List AV → Option (List AV)) : Prop := ∀ x : List UInt8, g [st x] = some [i64 (bnd x).1, i64 (bnd x).2.1, bo (bnd x).2.2]
theorem vet_Bounds_run (Γ : Env) (M : Nat) : Bounds (run Γ M vet_Bounds_f) := by
 intro x
 by_cases c0 : x = [102, 108, 111, 111, 114, 115]
 ·subst c0; simp -implicitDefEqProofs (disch := omega) [bnd]
 by_cases c1 : x = [103, 97, 112]
 ·subst c1; simp -implicitDefEqProofs (disch := omega) [bnd]
 by_cases c2 : x = [99, 97, 114, 115]
 ·subst c2; simp -implicitDefEqProofs (disch := omega) [bnd]
 by_cases c3 : x = [99, 97, 112, 97, 99, 105, 116, 121]
 ·subst c3; simp -implicitDefEqProofs (disch := omega) [bnd]
 by_cases c4 : x = [111, 112, 101, 110]
 ·subst c4; simp -implicitDefEqProofs (disch := omega) [bnd]
 by_cases c5 : x = [100, 119, 101, 108, 108]
 ·subst c5; simp -implicitDefEqProofs (disch := omega) [bnd]
 by_cases c6 : x = [99, 108, 111, 115, 101]
 ·subst c6; simp -implicitDefEqProofs (disch := omega) [bnd]
 by_cases c7 : x = [116, 114, 97, 110, 115, 102, 101, 114]
 ·subst c7; simp -implicitDefEqProofs (disch := omega) [bnd]
 by_cases c8 : x = [116, 105, 99, 107, 115]
 ·subst c8; simp -implicitDefEqProofs (disch := omega) [bnd]
 by_cases c9 : x = [104, 111, 114, 105, 122, 111, 110]
 ·subst c9; simp -implicitDefEqProofs (disch := omega) [bnd]
 by_cases c10 : x = [114, 97, 116, 101]
 ·subst c10; simp -implicitDefEqProofs (disch := omega) [bnd]
 by_cases c11 : x = [98, 105, 110, 115]
 ·subst c11; simp -implicitDefEqProofs (disch := omega) [bnd]
 by_cases c12 : x = [119, 105, 100, 116, 104]
 ·subst c12; simp -implicitDefEqProofs (disch := omega) [bnd]
 simp -implicitDefEqProofs (disch := omega) [bnd, c0, c1, c2, c3, c4, c5, c6, c7, c8, c9, c10, c11, c12]
theorem ref20_Bounds_run (Γ : Env) (M : Nat) : Bounds (run Γ (M + 20) ref20_Bounds_f) := by
 intro x
 by_cases c0 : x = [102, 108, 111, 111, 114, 115]
 ·subst c0; simp -implicitDefEqProofs (disch := omega) [bnd, lp_succ, ref20_Bounds_l1_x]
 by_cases c1 : x = [103, 97, 112]
 ·subst c1; simp -implicitDefEqProofs (disch := omega) [bnd, lp_succ, ref20_Bounds_l1_x]
 by_cases c2 : x = [99, 97, 114, 115]
 ·subst c2; simp -implicitDefEqProofs (disch := omega) [bnd, lp_succ, ref20_Bounds_l1_x]
 by_cases c3 : x = [99, 97, 112, 97, 99, 105, 116, 121]
 ·subst c3; simp -implicitDefEqProofs (disch := omega) [bnd, lp_succ, ref20_Bounds_l1_x]
 by_cases c4 : x = [111, 112, 101, 110]
 ·subst c4; simp -implicitDefEqProofs (disch := omega) [bnd, lp_succ, ref20_Bounds_l1_x]
 by_cases c5 : x = [100, 119, 101, 108, 108]
 ·subst c5; simp -implicitDefEqProofs (disch := omega) [bnd, lp_succ, ref20_Bounds_l1_x]
 by_cases c6 : x = [99, 108, 111, 115, 101]
 ·subst c6; simp -implicitDefEqProofs (disch := omega) [bnd, lp_succ, ref20_Bounds_l1_x]
 by_cases c7 : x = [116, 114, 97, 110, 115, 102, 101, 114]
 ·subst c7; simp -implicitDefEqProofs (disch := omega) [bnd, lp_succ, ref20_Bounds_l1_x]
 by_cases c8 : x = [116, 105, 99, 107, 115]
 ·subst c8; simp -implicitDefEqProofs (disch := omega) [bnd, lp_succ, ref20_Bounds_l1_x]
 by_cases c9 : x = [104, 111, 114, 105, 122, 111, 110]
 ·subst c9; simp -implicitDefEqProofs (disch := omega) [bnd, lp_succ, ref20_Bounds_l1_x]
 by_cases c10 : x = [114, 97, 116, 101]
 ·subst c10; simp -implicitDefEqProofs (disch := omega) [bnd, lp_succ, ref20_Bounds_l1_x]
 by_cases c11 : x = [98, 105, 110, 115]
 ·subst c11; simp -implicitDefEqProofs (disch := omega) [bnd, lp_succ, ref20_Bounds_l1_x]
 by_cases c12 : x = [119, 105, 100, 116, 104]
 ·subst c12; simp -implicitDefEqProofs (disch := omega) [bnd, lp_succ, ref20_Bounds_l1_x]
 simp -implicitDefEqProofs (disch := omega) [bnd, lp_succ, ref20_Bounds_l1_x, c0, Ne.symm c0, c1, Ne.symm c1, c2, Ne.symm c2, c3, Ne.symm c3, c4, Ne.symm c4, c5, Ne.symm c5, c6, Ne.symm c6, c7, Ne.symm c7, c8, Ne.symm c8, c9, Ne.symm c9, c10, Ne.symm c10, c11, Ne.symm c11, c12, Ne.symm c12]
def inB (x : List UInt8) (n : Int) : Bool := (bnd x).2.2 && decide ((bnd x).1 ≤ n) && decide (n ≤ (bnd x).2.1)
def InC (g : List AV → Option (List AV)) : Prop := ∀ (x : List UInt8) (n : Int), g [st x, i64 n] = some [bo (inB x n)]
theorem vet_In_run {Γ : Env} {M : Nat} (h : Bounds (Γ 24)) : InC (run Γ M vet_In_f) := by
 intro x n
 have e := h x
 unfold inB
 generalize bnd x = q at e ⊢
 obtain ⟨lo, hi, is⟩ := q
 cases is
 ·simp -implicitDefEqProofs (disch := omega) [e]
 by_cases c1 : lo ≤ n
 ·simp -implicitDefEqProofs (disch := omega) [e, c1]
 ·simp -implicitDefEqProofs (disch := omega) [e, c1]
theorem ref20_In_run {Γ : Env} {M : Nat} (h : Bounds (Γ 23)) : InC (run Γ M ref20_In_f) := by
 intro x n
 have e := h x
 unfold inB
 generalize bnd x = q at e ⊢
 obtain ⟨lo, hi, is⟩ := q
 cases is
 ·simp -implicitDefEqProofs (disch := omega) [e]
 by_cases c1 : lo ≤ n
 ·simp -implicitDefEqProofs (disch := omega) [e, c1]
 ·simp -implicitDefEqProofs (disch := omega) [e, c1]
def numOk (s : Scn) : Bool := inB [102, 108, 111, 111, 114, 115] s.floors && inB [103, 97, 112] s.gap && inB [99, 97, 114, 115] s.cars && inB [99, 97, 112, 97, 99, 105, 116, 121] s.capacity && inB [111, 112, 101, 110] s.opn && inB [100, 119, 101, 108, 108] s.dwell && inB [99, 108, 111, 115, 101] s.cls && inB [116, 114, 97, 110, 115, 102, 101, 114] s.transfer && inB [104, 111, 114, 105, 122, 111, 110] s.horizon && inB [98, 105, 110, 115] s.bins && inB [119, 105, 100, 116, 104] s.width
def Numbers (g : List AV → Option (List AV)) : Prop := ∀ s : Scn, g [.agg s.cells] = some [bo (numOk s)]
theorem vet_numbers_run {Γ : Env} {M : Nat} (h : InC (Γ 20)) : Numbers (run Γ M vet_numbers_f) := by
 intro s
 unfold numOk
 have e0 := h [102, 108, 111, 111, 114, 115] s.floors
 have e1 := h [103, 97, 112] s.gap
 have e2 := h [99, 97, 114, 115] s.cars
 have e3 := h [99, 97, 112, 97, 99, 105, 116, 121] s.capacity
 have e4 := h [111, 112, 101, 110] s.opn
 have e5 := h [100, 119, 101, 108, 108] s.dwell
 have e6 := h [99, 108, 111, 115, 101] s.cls
 have e7 := h [116, 114, 97, 110, 115, 102, 101, 114] s.transfer
 have e8 := h [104, 111, 114, 105, 122, 111, 110] s.horizon
 have e9 := h [98, 105, 110, 115] s.bins
 have e10 := h [119, 105, 100, 116, 104] s.width
 cases c0 : inB [102, 108, 111, 111, 114, 115] s.floors
 ·rw [c0] at e0; simp -implicitDefEqProofs (disch := omega) [e0]
 rw [c0] at e0
 cases c1 : inB [103, 97, 112] s.gap
 ·rw [c1] at e1; simp -implicitDefEqProofs (disch := omega) [e0, e1]
 rw [c1] at e1
 cases c2 : inB [99, 97, 114, 115] s.cars
 ·rw [c2] at e2; simp -implicitDefEqProofs (disch := omega) [e0, e1, e2]
 rw [c2] at e2
 cases c3 : inB [99, 97, 112, 97, 99, 105, 116, 121] s.capacity
 ·rw [c3] at e3; simp -implicitDefEqProofs (disch := omega) [e0, e1, e2, e3]
 rw [c3] at e3
 cases c4 : inB [111, 112, 101, 110] s.opn
 ·rw [c4] at e4; simp -implicitDefEqProofs (disch := omega) [e0, e1, e2, e3, e4]
 rw [c4] at e4
 cases c5 : inB [100, 119, 101, 108, 108] s.dwell
 ·rw [c5] at e5; simp -implicitDefEqProofs (disch := omega) [e0, e1, e2, e3, e4, e5]
 rw [c5] at e5
 cases c6 : inB [99, 108, 111, 115, 101] s.cls
 ·rw [c6] at e6; simp -implicitDefEqProofs (disch := omega) [e0, e1, e2, e3, e4, e5, e6]
 rw [c6] at e6
 cases c7 : inB [116, 114, 97, 110, 115, 102, 101, 114] s.transfer
 ·rw [c7] at e7; simp -implicitDefEqProofs (disch := omega) [e0, e1, e2, e3, e4, e5, e6, e7]
 rw [c7] at e7
 cases c8 : inB [104, 111, 114, 105, 122, 111, 110] s.horizon
 ·rw [c8] at e8; simp -implicitDefEqProofs (disch := omega) [e0, e1, e2, e3, e4, e5, e6, e7, e8]
 rw [c8] at e8
 cases c9 : inB [98, 105, 110, 115] s.bins
 ·rw [c9] at e9; simp -implicitDefEqProofs (disch := omega) [e0, e1, e2, e3, e4, e5, e6, e7, e8, e9]
 rw [c9] at e9
 cases c10 : inB [119, 105, 100, 116, 104] s.width
 ·rw [c10] at e10; simp -implicitDefEqProofs (disch := omega) [e0, e1, e2, e3, e4, e5, e6, e7, e8, e9, e10]
 rw [c10] at e10
 simp -implicitDefEqProofs (disch := omega) [e0, e1, e2, e3, e4, e5, e6, e7, e8, e9, e10]
def segErr (g : Seg) : Int := if g.kind < 1 ∨ 4 < g.kind then 260 else if inB [116, 105, 99, 107, 115] g.ticks && inB [114, 97, 116, 101] g.rate then 0 else 264
def chkSegs : List Seg → Int
 | [] => 0
 | g :: r => if segErr g = 0 then chkSegs r else segErr g
def SegC (g : List AV → Option (List AV)) : Prop := ∀ x : Seg, g [.agg x.cells] = some [i64 (segErr x)]
theorem vet_segment_run {Γ : Env} {M : Nat} (h : InC (Γ 20)) : SegC (run Γ M vet_segment_f) := by
 intro x
 have e1 := h [116, 105, 99, 107, 115] x.ticks
 have e2 := h [114, 97, 116, 101] x.rate
 unfold segErr
 by_cases c1 : x.kind < 1
 ·simp -implicitDefEqProofs (disch := omega) [c1]
 by_cases c2 : 4 < x.kind
 ·simp -implicitDefEqProofs (disch := omega) [c1, c2]
 cases c3 : inB [116, 105, 99, 107, 115] x.ticks
 ·rw [c3] at e1; simp -implicitDefEqProofs (disch := omega) [c1, c2, e1]
 rw [c3] at e1
 cases c4 : inB [114, 97, 116, 101] x.rate
 ·rw [c4] at e2; simp -implicitDefEqProofs (disch := omega) [c1, c2, e1, e2]
 rw [c4] at e2
 simp -implicitDefEqProofs (disch := omega) [c1, c2, e1, e2]
theorem chkSegs_drop {l : List Seg} {i : Nat} (h : i < l.length) : chkSegs (l.drop i) = if segErr l[i] = 0 then chkSegs (l.drop (i + 1)) else segErr l[i] := by
 rw [List.drop_eq_getElem_cons h, chkSegs]
@[simp] def segR (l : List Seg) (ax : AX) (s' : St) (i : Nat) (s : St) : Prop := (ax = .ex i ∧ s' = s ∧ chkSegs l = 0) ∨ (ax = .ret ∧ s' = ⟨[(2, i64 (chkSegs l))], []⟩ ∧ chkSegs l ≠ 0)
theorem vet_Check_segs {Γ : Env} {N M : Nat} {l : List Seg} (hS : SegC (Γ 63)) (hl : l.length ≤ 8) (hM : l.length < M) :
  ∃ ax s', segR l ax s' 1 ⟨[], []⟩ ∧ ∀ s, nrm [30, 31, 32] [] s = ⟨[(30, .c (.vs 3 (l.map Seg.cells))), (31, i64 l.length), (32, i64 (0 : Nat))], []⟩ → lp (exec Γ N vet_Check_l1) M s = some (ax, s') := by
 refine lp_all (fun i : Nat => ⟨[(30, .c (.vs 3 (l.map Seg.cells))), (31, i64 l.length), (32, i64 i)], []⟩) (fun i => i ≤ l.length ∧ chkSegs (l.drop i) = chkSegs l) (fun i => l.length - i)
  (fun ax s' => segR l ax s' 1 ⟨[], []⟩) 0 M (by simp) ⟨by omega, by simp⟩ (by omega) ?_
 rintro i ⟨hi, hc⟩
 by_cases hlt : i < l.length
 ·obtain ⟨x, hx⟩ : ∃ x, l[i]'hlt = x := ⟨_, rfl⟩
  have e := hS x
  simp only [Seg.cells] at e
  rw [chkSegs_drop hlt, hx] at hc
  by_cases c : segErr x = 0
  ·rw [if_pos c] at hc
   rw [c] at e
   simp -implicitDefEqProofs (disch := omega) [hx, e]
   exact ⟨i + 1, by omega, ⟨by omega, hc⟩, by omega⟩
  ·rw [if_neg c] at hc
   rw [hc] at c e
   simp -implicitDefEqProofs (disch := omega) [hx, e, c]
 ·obtain rfl : i = l.length := by omega
  have hc : chkSegs l = 0 := by rw [← hc]; simp [chkSegs]
  simp -implicitDefEqProofs (disch := omega) [hc]
def chkS (s : Scn) : Int := if numOk s = false then 264 else if s.disp < 1 ∨ 4 < s.disp then 260 else if s.segs.length = 0 then 263 else if 8 < s.segs.length then 21 else chkSegs s.segs
def ChkC (g : List AV → Option (List AV)) : Prop := ∀ s : Scn, s.segs.length ≤ maxLen → g [.agg s.cells] = some [i64 (chkS s)]
theorem vet_Check_run {Γ : Env} {M : Nat} (hM : 100 ≤ M) (hS : SegC (Γ 63)) (hN : Numbers (Γ 64)) : ChkC (run Γ M vet_Check_f) := by
 intro s hs
 have e := hN s
 have hmax := maxLen_eq
 unfold chkS
 simp only [Scn.cells] at e
 cases c0 : numOk s
 ·rw [c0] at e; simp -implicitDefEqProofs (disch := omega) [e]
 rw [c0] at e
 by_cases c1 : s.disp < 1
 ·simp -implicitDefEqProofs (disch := omega) [e, c1]
 by_cases c2 : 4 < s.disp
 ·simp -implicitDefEqProofs (disch := omega) [e, c1, c2]
 by_cases c3 : s.segs.length = 0
 ·simp -implicitDefEqProofs (disch := omega) [e, c1, c2, c3]
 by_cases c4 : 8 < s.segs.length
 ·simp -implicitDefEqProofs (disch := omega) [e, c1, c2, c3, c4]
 have c3' : ¬ s.segs = [] := fun h => c3 (by rw [h]; rfl)
 obtain ⟨ax, s', (⟨rfl, rfl, h4⟩ | ⟨rfl, rfl, h4⟩), h3⟩ := vet_Check_segs (Γ := Γ) (N := M) (M := M) (l := s.segs) hS (by omega) (by omega)
 ·simp -implicitDefEqProofs (disch := first | omega | (simp <;> fail) | assumption) [e, c1, c2, c3, c3', c4, h3, h4]
 ·simp -implicitDefEqProofs (disch := first | omega | (simp <;> fail) | assumption) [e, c1, c2, c3, c3', c4, h3]
theorem ref20_Check_segs {Γ : Env} {N M : Nat} {s : Scn} (hI : InC (Γ 21)) (hl : s.segs.length ≤ 8) (hM : s.segs.length < M) :
  ∃ ax s', segR s.segs ax s' 2 ⟨[], []⟩ ∧ ∀ t, nrm [1, 6] [1] t = ⟨[(1, .loc 1 0 0), (6, i64 (0 : Nat))], [(1, ⟨13, [toAV s.cells]⟩)]⟩ → lp (exec Γ N ref20_Check_l1) M t = some (ax, s') := by
 refine lp_all (fun i : Nat => ⟨[(1, .loc 1 0 0), (6, i64 i)], [(1, ⟨13, [toAV s.cells]⟩)]⟩) (fun i => i ≤ s.segs.length ∧ chkSegs (s.segs.drop i) = chkSegs s.segs) (fun i => s.segs.length - i)
  (fun ax s' => segR s.segs ax s' 2 ⟨[], []⟩) 0 M (by simp) ⟨by omega, by simp⟩ (by omega) ?_
 rintro i ⟨hi, hc⟩
 by_cases hlt : i < s.segs.length
 ·obtain ⟨x, hx⟩ : ∃ x, s.segs[i]'hlt = x := ⟨_, rfl⟩
  have e1 := hI [116, 105, 99, 107, 115] x.ticks
  have e2 := hI [114, 97, 116, 101] x.rate
  rw [chkSegs_drop hlt, hx] at hc
  by_cases c1 : x.kind < 1
  ·simp only [segErr, c1, true_or, if_true] at hc
   have hc : chkSegs s.segs = 260 := by rw [← hc]; rfl
   simp -implicitDefEqProofs (disch := omega) [hx, c1, hc]
  by_cases c2 : 4 < x.kind
  ·simp only [segErr, c2, or_true, if_true] at hc
   have hc : chkSegs s.segs = 260 := by rw [← hc]; rfl
   simp -implicitDefEqProofs (disch := omega) [hx, c1, c2, hc]
  cases c3 : inB [116, 105, 99, 107, 115] x.ticks
  ·simp only [segErr, c1, c2, c3, or_self, if_false, Bool.false_and, Bool.false_eq_true] at hc
   have hc : chkSegs s.segs = 264 := by rw [← hc]; rfl
   rw [c3] at e1
   simp -implicitDefEqProofs (disch := omega) [hx, c1, c2, e1, hc]
  rw [c3] at e1
  cases c4 : inB [114, 97, 116, 101] x.rate
  ·simp only [segErr, c1, c2, c3, c4, or_self, if_false, Bool.and_false, Bool.false_eq_true] at hc
   have hc : chkSegs s.segs = 264 := by rw [← hc]; rfl
   rw [c4] at e2
   simp -implicitDefEqProofs (disch := omega) [hx, c1, c2, e1, e2, hc]
  rw [c4] at e2
  simp only [segErr, c1, c2, c3, c4, or_self, if_false, Bool.and_true, if_true] at hc
  simp -implicitDefEqProofs (disch := omega) [hx, c1, c2, e1, e2]
  exact ⟨i + 1, by omega, ⟨by omega, hc⟩, by omega⟩
 ·obtain rfl : i = s.segs.length := by omega
  have hc : chkSegs s.segs = 0 := by rw [← hc]; simp [chkSegs]
  simp -implicitDefEqProofs (disch := omega) [hc]
theorem ref20_Check_run {Γ : Env} {M : Nat} (hI : InC (Γ 21)) : ChkC (run Γ (M + 100) ref20_Check_f) := by
 intro s hs
 have hmax := maxLen_eq
 unfold chkS numOk
 have e0 := hI [102, 108, 111, 111, 114, 115] s.floors
 have e1 := hI [103, 97, 112] s.gap
 have e2 := hI [99, 97, 114, 115] s.cars
 have e3 := hI [99, 97, 112, 97, 99, 105, 116, 121] s.capacity
 have e4 := hI [111, 112, 101, 110] s.opn
 have e5 := hI [100, 119, 101, 108, 108] s.dwell
 have e6 := hI [99, 108, 111, 115, 101] s.cls
 have e7 := hI [116, 114, 97, 110, 115, 102, 101, 114] s.transfer
 have e8 := hI [104, 111, 114, 105, 122, 111, 110] s.horizon
 have e9 := hI [98, 105, 110, 115] s.bins
 have e10 := hI [119, 105, 100, 116, 104] s.width
 cases c0 : inB [102, 108, 111, 111, 114, 115] s.floors
 ·rw [c0] at e0; simp -implicitDefEqProofs (disch := omega) [lp_succ (exec Γ (M + 100) ref20_Check_l2), ref20_Check_l2_x, e0]
 rw [c0] at e0
 cases c1 : inB [103, 97, 112] s.gap
 ·rw [c1] at e1; simp -implicitDefEqProofs (disch := omega) [lp_succ (exec Γ (M + 100) ref20_Check_l2), ref20_Check_l2_x, e0, e1]
 rw [c1] at e1
 cases c2 : inB [99, 97, 114, 115] s.cars
 ·rw [c2] at e2; simp -implicitDefEqProofs (disch := omega) [lp_succ (exec Γ (M + 100) ref20_Check_l2), ref20_Check_l2_x, e0, e1, e2]
 rw [c2] at e2
 cases c3 : inB [99, 97, 112, 97, 99, 105, 116, 121] s.capacity
 ·rw [c3] at e3; simp -implicitDefEqProofs (disch := omega) [lp_succ (exec Γ (M + 100) ref20_Check_l2), ref20_Check_l2_x, e0, e1, e2, e3]
 rw [c3] at e3
 cases c4 : inB [111, 112, 101, 110] s.opn
 ·rw [c4] at e4; simp -implicitDefEqProofs (disch := omega) [lp_succ (exec Γ (M + 100) ref20_Check_l2), ref20_Check_l2_x, e0, e1, e2, e3, e4]
 rw [c4] at e4
 cases c5 : inB [100, 119, 101, 108, 108] s.dwell
 ·rw [c5] at e5; simp -implicitDefEqProofs (disch := omega) [lp_succ (exec Γ (M + 100) ref20_Check_l2), ref20_Check_l2_x, e0, e1, e2, e3, e4, e5]
 rw [c5] at e5
 cases c6 : inB [99, 108, 111, 115, 101] s.cls
 ·rw [c6] at e6; simp -implicitDefEqProofs (disch := omega) [lp_succ (exec Γ (M + 100) ref20_Check_l2), ref20_Check_l2_x, e0, e1, e2, e3, e4, e5, e6]
 rw [c6] at e6
 cases c7 : inB [116, 114, 97, 110, 115, 102, 101, 114] s.transfer
 ·rw [c7] at e7; simp -implicitDefEqProofs (disch := omega) [lp_succ (exec Γ (M + 100) ref20_Check_l2), ref20_Check_l2_x, e0, e1, e2, e3, e4, e5, e6, e7]
 rw [c7] at e7
 cases c8 : inB [104, 111, 114, 105, 122, 111, 110] s.horizon
 ·rw [c8] at e8; simp -implicitDefEqProofs (disch := omega) [lp_succ (exec Γ (M + 100) ref20_Check_l2), ref20_Check_l2_x, e0, e1, e2, e3, e4, e5, e6, e7, e8]
 rw [c8] at e8
 cases c9 : inB [98, 105, 110, 115] s.bins
 ·rw [c9] at e9; simp -implicitDefEqProofs (disch := omega) [lp_succ (exec Γ (M + 100) ref20_Check_l2), ref20_Check_l2_x, e0, e1, e2, e3, e4, e5, e6, e7, e8, e9]
 rw [c9] at e9
 cases c10 : inB [119, 105, 100, 116, 104] s.width
 ·rw [c10] at e10; simp -implicitDefEqProofs (disch := omega) [lp_succ (exec Γ (M + 100) ref20_Check_l2), ref20_Check_l2_x, e0, e1, e2, e3, e4, e5, e6, e7, e8, e9, e10]
 rw [c10] at e10
 by_cases c1 : s.disp < 1
 ·simp -implicitDefEqProofs (disch := omega) [lp_succ (exec Γ (M + 100) ref20_Check_l2), ref20_Check_l2_x, e0, e1, e2, e3, e4, e5, e6, e7, e8, e9, e10, c1]
 by_cases c2 : 4 < s.disp
 ·simp -implicitDefEqProofs (disch := omega) [lp_succ (exec Γ (M + 100) ref20_Check_l2), ref20_Check_l2_x, e0, e1, e2, e3, e4, e5, e6, e7, e8, e9, e10, c1, c2]
 by_cases c3 : s.segs.length = 0
 ·simp -implicitDefEqProofs (disch := omega) [lp_succ (exec Γ (M + 100) ref20_Check_l2), ref20_Check_l2_x, e0, e1, e2, e3, e4, e5, e6, e7, e8, e9, e10, c1, c2, c3]
 by_cases c4 : 8 < s.segs.length
 ·simp -implicitDefEqProofs (disch := omega) [lp_succ (exec Γ (M + 100) ref20_Check_l2), ref20_Check_l2_x, e0, e1, e2, e3, e4, e5, e6, e7, e8, e9, e10, c1, c2, c3, c4]
 have c3' : ¬ s.segs = [] := fun h => c3 (by rw [h]; rfl)
 obtain ⟨ax, s', (⟨rfl, rfl, h4⟩ | ⟨rfl, rfl, h4⟩), h3⟩ := ref20_Check_segs (Γ := Γ) (N := M + 100) (M := M + 100) (s := s) hI (by omega) (by omega)
 ·simp -implicitDefEqProofs (disch := first | omega | (simp <;> fail) | assumption) [lp_succ (exec Γ (M + 100) ref20_Check_l2), ref20_Check_l2_x, e0, e1, e2, e3, e4, e5, e6, e7, e8, e9, e10, c1, c2, c3, c3', c4, h3, h4]
 ·simp -implicitDefEqProofs (disch := first | omega | (simp <;> fail) | assumption) [lp_succ (exec Γ (M + 100) ref20_Check_l2), ref20_Check_l2_x, e0, e1, e2, e3, e4, e5, e6, e7, e8, e9, e10, c1, c2, c3, c3', c4, h3]
end Go.Am
namespace Go.Am.Sh
@[simp] abbrev kB : Nat := kt_show_Text_5
def bRows (t : List UInt8) : List (List AV) := t.map (toAV ∘ u8row)
def bOb (t : List UInt8) (rest : List (Nat × Obj)) : List (Nat × Obj) := match t with
 | [] => (kB, ⟨2, [[.ot .np, .nil 1]]⟩) :: rest
 | b :: r => (kB, ⟨2, [[.loc kB 0 0, .sl kt_buf (r.length + 1) 0 (r.length + 1)]]⟩) :: (kt_buf, ⟨1, bRows (b :: r)⟩) :: rest
structure RestOk (rest : List (Nat × Obj)) : Prop where
 dK : del rest kB = rest
 dB : del rest kt_buf = rest
 nB : nmOb kt_buf rest = true
 lB : lcOb kt_buf rest = true
structure GsOk (gs : List (Nat × AV)) : Prop where
 g : Gh gs
 nB : nmFr kt_buf gs = true
 lB : lcFr kt_buf gs = true
def CopyC (g : St → Option (List AV × List (Nat × Obj))) : Prop := ∀ gs rest v, Gh gs → del rest kB = rest →
 (g ⟨(0, .loc kB 0 0) :: gs, (kB, ⟨2, [[.ot .np, v]]⟩) :: rest⟩ = some ([], (kB, ⟨2, [[.loc kB 0 0, v]]⟩) :: rest) ∧ g ⟨(0, .loc kB 0 0) :: gs, (kB, ⟨2, [[.loc kB 0 0, v]]⟩) :: rest⟩ = some ([], (kB, ⟨2, [[.loc kB 0 0, v]]⟩) :: rest))
def CopyC7 (g : St → Option (List AV × List (Nat × Obj))) : Prop := ∀ gs ob v, Gh gs → get ob kB = some ⟨2, [[.loc kB 0 0, v]]⟩ → g ⟨(0, .loc kB 0 0) :: gs, ob⟩ = some ([], ob)
theorem copyCheck_run7 (Γ : Env) (M : Nat) : CopyC7 (runP Γ M strings_Builder_copyCheck_f) := by
 intro gs ob v hg hr
 simp only [kB, kt_show_Text_5] at hr
 simp -implicitDefEqProofs (disch := first | omega | (simp [hg] <;> fail) | assumption) [hg, hr]
theorem copyCheck_run (Γ : Env) (M : Nat) : CopyC (runP Γ M strings_Builder_copyCheck_f) := by
 intro gs rest v hg hr
 constructor
 ·simp -implicitDefEqProofs (disch := first | omega | (simp [hg] <;> fail) | assumption) [hg, hr]
 ·simp -implicitDefEqProofs (disch := first | omega | (simp [hg] <;> fail) | assumption) [hg, hr]
theorem lcRow_u8 (k : Nat) (b : UInt8) : lcRow k (List.map AV.c (u8row b)) = true := rfl
def WrC (g : St → Option (List AV × List (Nat × Obj))) : Prop := ∀ gs rest t s, GsOk gs → RestOk rest → (t ≠ [] ∨ s ≠ []) → t.length + s.length ≤ 1000000 →
 g ⟨(0, .loc kB 0 0) :: (1, st s) :: gs, bOb t rest⟩ = some ([i64 s.length, .ot .ni], bOb (t ++ s) rest)
theorem WriteString_run (Γ : Env) (M : Nat) (hc : CopyC (Γ.pt 228)) : WrC (runP Γ M strings_Builder_WriteString_f) := by
 intro gs rest t s ⟨hg, hn, hl⟩ ⟨r1, r2, r3, r4⟩ hne hlen
 cases t with
 | nil =>
  obtain ⟨b, r, rfl⟩ : ∃ b r, s = b :: r := by cases s with | nil => simp at hne | cons b r => exact ⟨b, r, rfl⟩
  have hcc := fun gs h => (hc gs rest (.nil 1) h r1).1
  simp only [List.length_cons, List.length_nil] at hlen
  simp only [bOb, List.nil_append]
  simp -implicitDefEqProofs (disch := first | omega | (simp [hg] <;> fail) | assumption) [hg, hn, hl, r1, r2, r3, r4, hcc, bRows]
 | cons b r =>
  have hcc := fun gs h => (hc gs ((kt_buf, ⟨1, bRows (b :: r)⟩) :: rest) (.sl kt_buf (r.length + 1) 0 (r.length + 1)) h (by simp [r1])).2
  simp [bRows] at hcc
  simp only [List.length_cons] at hlen
  simp only [bOb, List.cons_append]
  have hcm : r.length + s.length + 1 = r.length + 1 + s.length := by omega
  simp -implicitDefEqProofs (disch := first | omega | (simp [hg] <;> fail) | assumption) [hg, hn, hl, r1, r2, r3, r4, hcc, bRows, lcRow_u8, hcm]
def WrC7 (g : St → Option (List AV × List (Nat × Obj))) : Prop := ∀ gs rest t s (o : Obj), GsOk gs → RestOk rest → nmRows kt_buf o.rows = true → lcRows kt_buf o.rows = true → t ≠ [] → t.length + s.length ≤ 1000000 →
 g ⟨(0, .loc kB 0 0) :: (1, st s) :: gs, (7, o) :: bOb t rest⟩ = some ([i64 s.length, .ot .ni], bOb (t ++ s) ((7, o) :: rest))
theorem WriteString_run7 (Γ : Env) (M : Nat) (hc : CopyC7 (Γ.pt 228)) : WrC7 (runP Γ M strings_Builder_WriteString_f) := by
 intro gs rest t s o ⟨hg, hn, hl⟩ ⟨r1, r2, r3, r4⟩ ho1 ho2 hne hlen
 cases t with
 | nil => exact (hne rfl).elim
 | cons b r =>
  have hcc := fun gs h => hc gs ((7, o) :: (kB, ⟨2, [[.loc kB 0 0, .sl kt_buf (r.length + 1) 0 (r.length + 1)]]⟩) :: (kt_buf, ⟨1, bRows (b :: r)⟩) :: rest) (.sl kt_buf (r.length + 1) 0 (r.length + 1)) h (by simp)
  simp [bRows] at hcc
  simp only [List.length_cons] at hlen
  simp only [bOb, List.cons_append]
  have hcm : r.length + s.length + 1 = r.length + 1 + s.length := by omega
  simp -implicitDefEqProofs (disch := first | omega | (simp [hg] <;> fail) | assumption) [hg, hn, hl, r1, r2, r3, r4, ho1, ho2, hcc, bRows, lcRow_u8, hcm]
theorem RestOk.seven {rest : List (Nat × Obj)} {o : Obj} (h : RestOk rest) (h1 : nmRows kt_buf o.rows = true) (h2 : lcRows kt_buf o.rows = true) : RestOk ((7, o) :: rest) :=
 ⟨by simp [h.dK], by simp [h.dB], by simp [h.nB, h1], by simp [h.lB, h2]⟩
def StrC (g : St → Option (List AV × List (Nat × Obj))) : Prop := ∀ gs rest t, GsOk gs → RestOk rest → t ≠ [] → t.length ≤ 1000000 →
 g ⟨(0, .loc kB 0 0) :: gs, bOb t rest⟩ = some ([st t], (kB, ⟨2, [[.loc kB 0 0, .sl kt_buf t.length 0 t.length]]⟩) :: rest)
theorem u8le (a : UInt8) : (a.toNat : Int) ≤ 255 := by have := a.toNat_lt; omega
theorem allD_u8 (b : UInt8) : allD (List.map AV.c (u8row b)) = some (u8row b) := rfl
theorem isU8_all (r : List UInt8) : ∀ x ∈ List.map u8row r, isU8 x = true := by
 intro x hx
 have := u8row_all r
 rw [List.all_eq_true] at this
 exact this x hx
theorem u8comp : u8of ∘ u8row = id := funext fun b => by simp [u8row, u8of]
attribute [-simp] isU8 isByte u8of
theorem isByte_row (b : UInt8) : isByte (u8row b) = true := by
 have := u8le b
 simp [u8row, isByte, this]
theorem isU8_row (b : UInt8) : isU8 (u8row b) = true := by
 have := isU8_all [b] (u8row b) (by simp)
 exact this
theorem u8of_row (b : UInt8) : u8of (u8row b) = b := congrFun u8comp b
theorem BString_run (Γ : Env) (M : Nat) : StrC (runP Γ M strings_Builder_String_f) := by
 intro gs rest t ⟨hg, hn, hl⟩ ⟨r1, r2, r3, r4⟩ hne hlen
 obtain ⟨b, r, rfl⟩ : ∃ b r, t = b :: r := by cases t with | nil => simp at hne | cons b r => exact ⟨b, r, rfl⟩
 simp only [List.length_cons] at hlen
 have hle : (r.length : Int) + 1 ≤ 9223372036854775807 := by omega
 simp only [bOb]
 simp -implicitDefEqProofs (disch := first | omega | (simp [hg] <;> fail) | assumption) [hg, hn, hl, r1, r2, r3, r4, bRows, allD_u8, u8comp, isU8_row, isByte_row, u8of_row, hle]
end Go.Am.Sh
namespace Go.Am.Sh
theorem gsOk_iff (gs : List (Nat × AV)) : GsOk gs ↔ (Gh gs ∧ nmFr kt_buf gs = true ∧ lcFr kt_buf gs = true) := ⟨fun h => ⟨h.1, h.2, h.3⟩, fun h => ⟨h.1, h.2.1, h.2.2⟩⟩
theorem nmFr_gho (k : Nat) : ∀ gs : List (Nat × AV), nmFr k (gho gs) = nmFr k gs
 | [] => rfl
 | (i, v) :: r => by simp only [gho, nmFr, nmFr_gho k r]
theorem lcFr_gho (k : Nat) : ∀ gs : List (Nat × AV), lcFr k (gho gs) = lcFr k gs
 | [] => rfl
 | (i, v) :: r => by simp only [gho, lcFr, lcFr_gho k r]
attribute [simp] nmFr_gho lcFr_gho
def joinW : List (List UInt8) → List UInt8
 | [] => []
 | [w] => w
 | w :: r => w ++ 32 :: joinW r
def numsT : List Int → List UInt8
 | [] => []
 | n :: r => 32 :: txt n ++ numsT r
def shL (ws : List (List UInt8)) (l : List Int) : List UInt8 := joinW ws ++ numsT l ++ [10]
def wV (ws : List (List UInt8)) : AV := .c (.vs 1 (ws.map fun w => [.str w]))
def nV (l : List Int) : AV := .c (.vs 1 (l.map fun n => [.int .i64 n]))
theorem numsT_app (a b : List Int) : numsT (a ++ b) = numsT a ++ numsT b := by
 induction a with
 | nil => rfl
 | cons x a ih => simp [numsT, ih]
theorem numsT_len (l : List Int) : (numsT l).length ≤ 30 * l.length := by
 induction l with
 | nil => simp [numsT]
 | cons x a ih =>
  have : (txt x).length ≤ 21 := by
   unfold txt; split
   ·have := dig_len (-x); simp; omega
   ·have := dig_len x; omega
  simp [numsT]; omega
theorem line_l1 (Γ : Env) (M : Nat) (hM : 100 < M) (hw : WrC (Γ.pt 79)) (hof : Of (Γ 50)) (gs : List (Nat × AV)) (rest : List (Nat × Obj)) (hgs : GsOk gs) (hr : RestOk rest) (l : List Int) (V : AV) (hV : V = nV l ∨ (l = [] ∧ V = .nil 1)) (hl : l.length ≤ 10) (hI : ∀ n ∈ l, InI64 n) (t : List UInt8) (ht : t.length ≤ 900000) (htn : t ≠ []) :
  ∀ s0, nrmP [0, 25, 26, 27] 0 0 [] s0 = ⟨(0, .loc kB 0 0) :: (25, V) :: (26, i64 l.length) :: (27, i64 (0 : Nat)) :: gs, bOb t rest⟩ →
   lp (exec Γ M show_line_l1) M s0 = some (.ex 2, ⟨(0, .loc kB 0 0) :: gs, bOb (t ++ numsT l) rest⟩) := by
 obtain ⟨hg, hn, hlc⟩ := id hgs
 obtain ⟨ax, s', ⟨rfl, rfl⟩, hin⟩ : ∃ ax s', (ax = .ex 2 ∧ s' = ⟨(0, .loc kB 0 0) :: gs, bOb (t ++ numsT l) rest⟩) ∧ ∀ s0, nrmP [0, 25, 26, 27] 0 0 [] s0 = ⟨(0, .loc kB 0 0) :: (25, V) :: (26, i64 l.length) :: (27, i64 (0 : Nat)) :: gs, bOb (t ++ numsT (l.take 0)) rest⟩ → lp (exec Γ M show_line_l1) M s0 = some (ax, s') := by
  refine lp_allP (fun k : Nat => ⟨(0, .loc kB 0 0) :: (25, V) :: (26, i64 l.length) :: (27, i64 k) :: gs, bOb (t ++ numsT (l.take k)) rest⟩) (fun k => k ≤ l.length) (fun k => l.length - k) _ 0 M (by omega) (by omega) ?_
  intro k hk
  by_cases hlt : k < l.length
  ·obtain rfl : V = nV l := by
    rcases hV with h | ⟨h, _⟩
    ·exact h
    ·subst h; simp at hlt
   have e50 := hof l[k] (hI _ (List.getElem_mem hlt))
   have hlen := numsT_len (l.take k)
   have hlk : (l.take k).length ≤ 10 := by simp; omega
   have hT : t ++ numsT (l.take k) ≠ [] := by simp [htn]
   have hTl : (t ++ numsT (l.take k)).length ≤ 990000 := by simp; omega
   have hnext : (t ++ numsT (l.take k)) ++ [32] ++ txt l[k] = t ++ numsT (l.take (k + 1)) := by
    rw [List.take_succ_eq_append_getElem hlt, numsT_app]; simp [numsT]
   obtain ⟨T, hTT⟩ : ∃ T, t ++ numsT (l.take k) = T := ⟨_, rfl⟩
   rw [hTT] at hT hTl hnext ⊢
   have htx : (txt l[k]).length ≤ 21 := by
    unfold txt; split
    ·have := dig_len (-l[k]); simp; omega
    ·have := dig_len l[k]; omega
   obtain ⟨X, hX⟩ : ∃ X, txt l[k] = X := ⟨_, rfl⟩
   rw [hX] at e50 htx hnext
   have hw1 := fun gs h => hw gs rest T [32] h hr (.inl hT) (by simp; omega)
   have hw2 := fun gs h => hw gs rest (T ++ [32]) X h hr (.inl (by simp)) (by simp; omega)
   rw [hnext] at hw2
   simp [gsOk_iff] at hw1 hw2
   simp -implicitDefEqProofs (disch := first | omega | (simp [hg, hn, hlc] <;> fail) | assumption) [hg, hlt, nV, e50, hw1, hw2]
   exact ⟨k + 1, by simp, by omega, by omega⟩
  ·obtain rfl : k = l.length := by omega
   simp -implicitDefEqProofs (disch := first | omega | (simp [hg, hn, hlc] <;> fail) | assumption) [hg, nV]
 have e0 : t ++ numsT (l.take 0) = t := by simp [numsT]
 rw [e0] at hin
 exact hin
theorem joinW_snoc (w : List UInt8) : ∀ ws : List (List UInt8), ws ≠ [] → joinW (ws ++ [w]) = joinW ws ++ [32] ++ w
 | [], h => (h rfl).elim
 | [a], _ => by simp [joinW]
 | a :: b :: r, _ => by
  have := joinW_snoc w (b :: r) (by simp)
  simp only [List.cons_append] at this ⊢
  simp only [joinW, this]; simp
theorem joinW_len : ∀ ws : List (List UInt8), (∀ w ∈ ws, w.length ≤ 20) → (joinW ws).length ≤ 21 * ws.length
 | [], _ => by simp [joinW]
 | [a], h => by have := h a (by simp); simp [joinW]; omega
 | a :: b :: r, h => by
  have h1 := h a (by simp)
  have := joinW_len (b :: r) (fun w hw => h w (by simp [hw]))
  simp only [joinW, List.length_append, List.length_cons] at this ⊢; omega
theorem line_l2 (Γ : Env) (M : Nat) (hM : 100 < M) (hw : WrC (Γ.pt 79)) (gs : List (Nat × AV)) (rest : List (Nat × Obj)) (hgs : GsOk gs) (hr : RestOk rest) (ws : List (List UInt8)) (L : AV) (hL : (∃ l : List Int, L = nV l) ∨ L = .nil 1) (hl : ws.length ≤ 3) (hI : ∀ w ∈ ws, w.length ≤ 20) (t : List UInt8) (ht : t.length ≤ 800000) (htn : t ≠ [] ∨ ∃ w r, ws = w :: r ∧ w ≠ []) :
  ∀ s0, nrmP [0, 2, 10, 11, 12] 0 0 [] s0 = ⟨(0, .loc kB 0 0) :: (2, L) :: (10, wV ws) :: (11, i64 ws.length) :: (12, i64 (0 : Nat)) :: gs, bOb t rest⟩ →
   lp (exec Γ M show_line_l2) M s0 = some (.ex 0, ⟨(0, .loc kB 0 0) :: (2, L) :: gs, bOb (t ++ joinW ws) rest⟩) := by
 obtain ⟨hg, hn, hlc⟩ := id hgs
 have hL3 : L.names kt_buf = false := by rcases hL with ⟨l, rfl⟩ | rfl <;> simp [nV]
 have hL4 : L.isLoc kt_buf = false := by rcases hL with ⟨l, rfl⟩ | rfl <;> simp [nV]
 obtain ⟨ax, s', ⟨rfl, rfl⟩, hin⟩ : ∃ ax s', (ax = .ex 0 ∧ s' = ⟨(0, .loc kB 0 0) :: (2, L) :: gs, bOb (t ++ joinW ws) rest⟩) ∧ ∀ s0, nrmP [0, 2, 10, 11, 12] 0 0 [] s0 = ⟨(0, .loc kB 0 0) :: (2, L) :: (10, wV ws) :: (11, i64 ws.length) :: (12, i64 (0 : Nat)) :: gs, bOb (t ++ joinW (ws.take 0)) rest⟩ → lp (exec Γ M show_line_l2) M s0 = some (ax, s') := by
  refine lp_allP (fun k : Nat => ⟨(0, .loc kB 0 0) :: (2, L) :: (10, wV ws) :: (11, i64 ws.length) :: (12, i64 k) :: gs, bOb (t ++ joinW (ws.take k)) rest⟩) (fun k => k ≤ ws.length) (fun k => ws.length - k) _ 0 M (by omega) (by omega) ?_
  intro k hk
  by_cases hlt : k < ws.length
  ·have hlen := joinW_len (ws.take k) (fun w hw => hI w (List.mem_of_mem_take hw))
   have hlk : (ws.take k).length ≤ 3 := by simp; omega
   have hwk := hI ws[k] (List.getElem_mem hlt)
   obtain ⟨X, hX⟩ : ∃ X, ws[k] = X := ⟨_, rfl⟩
   have hTl : (t ++ joinW (ws.take k)).length ≤ 890000 := by simp; omega
   rcases Nat.eq_zero_or_pos k with rfl | hpos
   ·have hne : t ≠ [] ∨ X ≠ [] := by
     rcases htn with h | ⟨w, r, hh, h⟩
     ·exact .inl h
     ·right; rw [← hX]; subst hh; simpa using h
    have hnext : t ++ X = t ++ joinW (ws.take (0 + 1)) := by
     rw [List.take_succ_eq_append_getElem hlt, hX]; simp [joinW]
    rw [hX] at hwk
    have hw1 := fun gs h => hw gs rest t X h hr hne (by omega)
    rw [hnext] at hw1
    simp [gsOk_iff] at hw1
    have e0 : t ++ joinW (ws.take 0) = t := by simp [joinW]
    rw [e0]
    simp -implicitDefEqProofs (disch := first | omega | (simp [hg, hn, hlc, hL3, hL4] <;> fail) | assumption) [hg, hlt, wV, hX, hw1]
    exact ⟨1, by simp, by omega, by omega⟩
   ·have hne : ws.take k ≠ [] := by
     intro h
     rw [List.take_eq_nil_iff] at h
     rcases h with h | h
     ·omega
     ·subst h; simp at hlt
    have hnext : (t ++ joinW (ws.take k)) ++ [32] ++ X = t ++ joinW (ws.take (k + 1)) := by
     rw [List.take_succ_eq_append_getElem hlt, joinW_snoc _ _ hne, hX]; simp
    obtain ⟨T, hTT⟩ : ∃ T, t ++ joinW (ws.take k) = T := ⟨_, rfl⟩
    rw [hTT] at hTl hnext ⊢
    rw [hX] at hwk
    have hpos' : (0 : Int) < k := by omega
    have hw1 := fun gs h => hw gs rest T [32] h hr (.inr (by simp)) (by simp; omega)
    have hw2 := fun gs h => hw gs rest (T ++ [32]) X h hr (.inl (by simp)) (by simp; omega)
    rw [hnext] at hw2
    simp [gsOk_iff] at hw1 hw2
    simp -implicitDefEqProofs (disch := first | omega | (simp [hg, hn, hlc, hL3, hL4] <;> fail) | assumption) [hg, hlt, wV, hX, hw1, hw2, hpos, hpos']
    exact ⟨k + 1, by simp, by omega, by omega⟩
  ·obtain rfl : k = ws.length := by omega
   simp -implicitDefEqProofs (disch := first | omega | (simp [hg, hn, hlc] <;> fail) | assumption) [hg, wV]
 have e0 : t ++ joinW (ws.take 0) = t := by simp [joinW]
 rw [e0] at hin
 exact hin
def LineC (g : St → Option (List AV × List (Nat × Obj))) : Prop := ∀ gs rest ws l L t, GsOk gs → RestOk rest → (L = nV l ∨ (l = [] ∧ L = .nil 1)) → ws.length ≤ 3 → (∀ w ∈ ws, w.length ≤ 20) → l.length ≤ 10 → (∀ n ∈ l, InI64 n) → t.length ≤ 700000 → (∃ w r, ws = w :: r ∧ (t ≠ [] ∨ w ≠ [])) →
 g ⟨(0, .loc kB 0 0) :: (1, wV ws) :: (2, L) :: gs, bOb t rest⟩ = some ([], bOb (t ++ shL ws l) rest)
theorem show_line_run (Γ : Env) (M : Nat) (hM : 100 < M) (hw : WrC (Γ.pt 79)) (hof : Of (Γ 50)) : LineC (runP Γ M show_line_f) := by
 intro gs rest ws l L t hgs hr hL hl hI hll hlI ht hne
 obtain ⟨hg, hn, hlc⟩ := id hgs
 have hLL : (∃ l : List Int, L = nV l) ∨ L = .nil 1 := by rcases hL with h | ⟨_, h⟩; exact .inl ⟨l, h⟩; exact .inr h
 have hne1 : t ≠ [] ∨ ∃ w r, ws = w :: r ∧ w ≠ [] := by
  obtain ⟨w, r, h1, h2⟩ := hne
  rcases h2 with h2 | h2
  ·exact .inl h2
  ·exact .inr ⟨w, r, h1, h2⟩
 have l2 := line_l2 Γ M hM hw gs rest hgs hr ws L hLL hl hI t (by omega) hne1 ⟨(0, .loc kB 0 0) :: (2, L) :: (10, wV ws) :: (11, i64 ws.length) :: (12, i64 (0 : Nat)) :: gs, bOb t rest⟩ (by simp [hg])
 have hjl := joinW_len ws hI
 have hT : t ++ joinW ws ≠ [] := by
  obtain ⟨w, r, h1, h2⟩ := hne
  rcases h2 with h2 | h2
  ·simp [h2]
  ·subst h1; cases r <;> simp [joinW, h2]
 have hTl : (t ++ joinW ws).length ≤ 800000 := by simp only [List.length_append]; omega
 obtain ⟨T, hTT⟩ : ∃ T, t ++ joinW ws = T := ⟨_, rfl⟩
 have hfin : t ++ shL ws l = T ++ numsT l ++ [10] := by rw [← hTT]; simp [shL]
 rw [hTT] at l2 hT hTl
 rw [hfin]
 have hnl := numsT_len l
 have hw1 := fun gs h => hw gs rest (T ++ numsT l) [10] h hr (.inr (by simp)) (by simp; omega)
 simp [gsOk_iff] at hw1
 have l1 := line_l1 Γ M hM hw hof gs rest hgs hr l L hL hll hlI T (by omega) hT ⟨(0, .loc kB 0 0) :: (25, L) :: (26, i64 l.length) :: (27, i64 (0 : Nat)) :: gs, bOb T rest⟩ (by simp [hg])
 simp [wV] at l2
 rcases hL with rfl | ⟨rfl, rfl⟩
 ·simp [nV] at l1 l2
  simp -implicitDefEqProofs (disch := first | omega | (simp [hg, hn, hlc] <;> fail) | assumption) [hg, wV, nV, l1, l2, hw1]
 ·simp at l1 l2
  simp -implicitDefEqProofs (disch := first | omega | (simp [hg, hn, hlc] <;> fail) | assumption) [hg, wV, l1, l2, hw1]
end Go.Am.Sh
namespace Go.Am.Sh
def ob7 (o : Obj) (rest : List (Nat × Obj)) (t : List UInt8) (ws : List (List UInt8)) (k : Nat) : List (Nat × Obj) := if k = 0 then (7, o) :: bOb t rest else bOb (t ++ joinW (ws.take k)) ((7, o) :: rest)
theorem line_l27 (Γ : Env) (M : Nat) (hM : 100 < M) (hw : WrC (Γ.pt 79)) (hw7 : WrC7 (Γ.pt 79)) (o : Obj) (ho1 : nmRows kt_buf o.rows = true) (ho2 : lcRows kt_buf o.rows = true) (gs : List (Nat × AV)) (rest : List (Nat × Obj)) (hgs : GsOk gs) (hr : RestOk rest) (ws : List (List UInt8)) (L : AV) (hL : (∃ l : List Int, L = nV l) ∨ L = .nil 1) (hl : ws.length ≤ 3) (hI : ∀ w ∈ ws, w.length ≤ 20) (t : List UInt8) (ht : t.length ≤ 800000) (htn : t ≠ []) (hws : ws ≠ []) :
  ∀ s0, nrmP [0, 2, 10, 11, 12] 0 0 [] s0 = ⟨(0, .loc kB 0 0) :: (2, L) :: (10, wV ws) :: (11, i64 ws.length) :: (12, i64 (0 : Nat)) :: gs, (7, o) :: bOb t rest⟩ →
   lp (exec Γ M show_line_l2) M s0 = some (.ex 0, ⟨(0, .loc kB 0 0) :: (2, L) :: gs, bOb (t ++ joinW ws) ((7, o) :: rest)⟩) := by
 obtain ⟨hg, hn, hlc⟩ := id hgs
 have hL3 : L.names kt_buf = false := by rcases hL with ⟨l, rfl⟩ | rfl <;> simp [nV]
 have hL4 : L.isLoc kt_buf = false := by rcases hL with ⟨l, rfl⟩ | rfl <;> simp [nV]
 obtain ⟨ax, s', ⟨rfl, rfl⟩, hin⟩ : ∃ ax s', (ax = .ex 0 ∧ s' = ⟨(0, .loc kB 0 0) :: (2, L) :: gs, bOb (t ++ joinW ws) ((7, o) :: rest)⟩) ∧ ∀ s0, nrmP [0, 2, 10, 11, 12] 0 0 [] s0 = ⟨(0, .loc kB 0 0) :: (2, L) :: (10, wV ws) :: (11, i64 ws.length) :: (12, i64 (0 : Nat)) :: gs, ob7 o rest t ws 0⟩ → lp (exec Γ M show_line_l2) M s0 = some (ax, s') := by
  refine lp_allP (fun k : Nat => ⟨(0, .loc kB 0 0) :: (2, L) :: (10, wV ws) :: (11, i64 ws.length) :: (12, i64 k) :: gs, ob7 o rest t ws k⟩) (fun k => k ≤ ws.length) (fun k => ws.length - k) _ 0 M (by omega) (by omega) ?_
  intro k hk
  by_cases hlt : k < ws.length
  ·have hlen := joinW_len (ws.take k) (fun w hw => hI w (List.mem_of_mem_take hw))
   have hlk : (ws.take k).length ≤ 3 := by simp; omega
   have hwk := hI ws[k] (List.getElem_mem hlt)
   obtain ⟨X, hX⟩ : ∃ X, ws[k] = X := ⟨_, rfl⟩
   have hTl : (t ++ joinW (ws.take k)).length ≤ 890000 := by simp; omega
   rcases Nat.eq_zero_or_pos k with rfl | hpos
   ·have hnext : t ++ X = t ++ joinW (ws.take (0 + 1)) := by
     rw [List.take_succ_eq_append_getElem hlt, hX]; simp [joinW]
    rw [hX] at hwk
    have hw1 := fun gs h => hw7 gs rest t X o h hr ho1 ho2 htn (by omega)
    rw [hnext] at hw1
    simp [gsOk_iff] at hw1
    simp only [ob7, if_true]
    simp -implicitDefEqProofs (disch := first | omega | (simp [hg, hn, hlc, hL3, hL4] <;> fail) | assumption) [hg, hlt, wV, hX, hw1]
    exact ⟨1, by simp, by omega, by omega⟩
   ·have hne : ws.take k ≠ [] := by
     intro h
     rw [List.take_eq_nil_iff] at h
     rcases h with h | h
     ·omega
     ·subst h; simp at hlt
    have hnext : (t ++ joinW (ws.take k)) ++ [32] ++ X = t ++ joinW (ws.take (k + 1)) := by
     rw [List.take_succ_eq_append_getElem hlt, joinW_snoc _ _ hne, hX]; simp
    obtain ⟨T, hTT⟩ : ∃ T, t ++ joinW (ws.take k) = T := ⟨_, rfl⟩
    have hk0 : ¬ k = 0 := by omega
    simp only [ob7, if_neg hk0]
    rw [hTT] at hTl hnext ⊢
    rw [hX] at hwk
    have hpos' : (0 : Int) < k := by omega
    have hw1 := fun gs h => hw gs ((7, o) :: rest) T [32] h (hr.seven ho1 ho2) (.inr (by simp)) (by simp; omega)
    have hw2 := fun gs h => hw gs ((7, o) :: rest) (T ++ [32]) X h (hr.seven ho1 ho2) (.inl (by simp)) (by simp; omega)
    rw [hnext] at hw2
    simp [gsOk_iff] at hw1 hw2
    simp -implicitDefEqProofs (disch := first | omega | (simp [hg, hn, hlc, hL3, hL4] <;> fail) | assumption) [hg, hlt, wV, hX, hw1, hw2, hpos, hpos']
    exact ⟨k + 1, by simp, by omega, by omega⟩
  ·obtain rfl : k = ws.length := by omega
   have hk0 : ¬ ws.length = 0 := by simpa using hws
   simp only [ob7, if_neg hk0]
   simp -implicitDefEqProofs (disch := first | omega | (simp [hg, hn, hlc] <;> fail) | assumption) [hg, wV]
 exact hin
def LineC7 (g : St → Option (List AV × List (Nat × Obj))) : Prop := ∀ gs rest ws l L t (o : Obj), GsOk gs → RestOk rest → nmRows kt_buf o.rows = true → lcRows kt_buf o.rows = true → (L = nV l ∨ (l = [] ∧ L = .nil 1)) → ws.length ≤ 3 → (∀ w ∈ ws, w.length ≤ 20) → l.length ≤ 10 → (∀ n ∈ l, InI64 n) → t.length ≤ 700000 → t ≠ [] → ws ≠ [] →
 g ⟨(0, .loc kB 0 0) :: (1, wV ws) :: (2, L) :: gs, (7, o) :: bOb t rest⟩ = some ([], bOb (t ++ shL ws l) ((7, o) :: rest))
theorem show_line_run7 (Γ : Env) (M : Nat) (hM : 100 < M) (hw : WrC (Γ.pt 79)) (hw7 : WrC7 (Γ.pt 79)) (hof : Of (Γ 50)) : LineC7 (runP Γ M show_line_f) := by
 intro gs rest ws l L t o hgs hr ho1 ho2 hL hl hI hll hlI ht hne hws
 obtain ⟨hg, hn, hlc⟩ := id hgs
 have hLL : (∃ l : List Int, L = nV l) ∨ L = .nil 1 := by rcases hL with h | ⟨_, h⟩; exact .inl ⟨l, h⟩; exact .inr h
 have l2 := line_l27 Γ M hM hw hw7 o ho1 ho2 gs rest hgs hr ws L hLL hl hI t (by omega) hne hws ⟨(0, .loc kB 0 0) :: (2, L) :: (10, wV ws) :: (11, i64 ws.length) :: (12, i64 (0 : Nat)) :: gs, (7, o) :: bOb t rest⟩ (by simp [hg])
 have hjl := joinW_len ws hI
 have hT : t ++ joinW ws ≠ [] := by simp [hne]
 have hTl : (t ++ joinW ws).length ≤ 800000 := by simp only [List.length_append]; omega
 obtain ⟨T, hTT⟩ : ∃ T, t ++ joinW ws = T := ⟨_, rfl⟩
 have hfin : t ++ shL ws l = T ++ numsT l ++ [10] := by rw [← hTT]; simp [shL]
 rw [hTT] at l2 hT hTl
 rw [hfin]
 have hnl := numsT_len l
 have hw1 := fun gs h => hw gs ((7, o) :: rest) (T ++ numsT l) [10] h (hr.seven ho1 ho2) (.inr (by simp)) (by simp; omega)
 simp [gsOk_iff] at hw1
 have l1 := line_l1 Γ M hM hw hof gs ((7, o) :: rest) hgs (hr.seven ho1 ho2) l L hL hll hlI T (by omega) hT ⟨(0, .loc kB 0 0) :: (25, L) :: (26, i64 l.length) :: (27, i64 (0 : Nat)) :: gs, bOb T ((7, o) :: rest)⟩ (by simp [hg])
 simp [wV] at l2
 rcases hL with rfl | ⟨rfl, rfl⟩
 ·simp [nV] at l1 l2
  simp -implicitDefEqProofs (disch := first | omega | (simp [hg, hn, hlc] <;> fail) | assumption) [hg, wV, nV, l1, l2, hw1]
 ·simp at l1 l2
  simp -implicitDefEqProofs (disch := first | omega | (simp [hg, hn, hlc] <;> fail) | assumption) [hg, wV, l1, l2, hw1]
end Go.Am.Sh
namespace Go.Am.Sh
def tplW (k : Int) : List UInt8 := if k = 1 then [117, 112, 112, 101, 97, 107] else if k = 2 then [108, 117, 110, 99, 104] else if k = 3 then [100, 111, 119, 110, 112, 101, 97, 107] else if k = 4 then [105, 110, 116, 101, 114, 102, 108, 111, 111, 114] else []
def disW (k : Int) : List UInt8 := if k = 1 then [99, 111, 108, 108, 101, 99, 116, 105, 118, 101] else if k = 2 then [115, 101, 99, 116, 111, 114, 115] else if k = 3 then [115, 111, 111, 110, 101, 115, 116] else if k = 4 then [100, 101, 115, 116, 105, 110, 97, 116, 105, 111, 110] else []
def TplC (g : List AV → Option (List AV)) : Prop := ∀ k : Int, g [i64 k] = some [st (tplW k)]
def DisC (g : List AV → Option (List AV)) : Prop := ∀ k : Int, g [i64 k] = some [st (disW k)]
theorem show_Template_run (Γ : Env) (M : Nat) : TplC (run Γ M show_Template_f) := by
 intro k
 by_cases h1 : k = 1
 ·subst h1; simp [tplW]
 by_cases h2 : k = 2
 ·subst h2; simp [tplW]
 by_cases h3 : k = 3
 ·subst h3; simp [tplW]
 by_cases h4 : k = 4
 ·subst h4; simp [tplW]
 simp [tplW, h1, h2, h3, h4]
theorem show_Dispatcher_run (Γ : Env) (M : Nat) : DisC (run Γ M show_Dispatcher_f) := by
 intro k
 by_cases h1 : k = 1
 ·subst h1; simp [disW]
 by_cases h2 : k = 2
 ·subst h2; simp [disW]
 by_cases h3 : k = 3
 ·subst h3; simp [disW]
 by_cases h4 : k = 4
 ·subst h4; simp [disW]
 simp [disW, h1, h2, h3, h4]
def whr (c l k : Int) : List UInt8 := if c = 0 then [] else txt l ++ [58] ++ txt k ++ [58, 32, 101, 114, 114, 111, 114, 32] ++ txt c
def WhrC (g : List AV → Option (List AV)) : Prop := ∀ c l k : Int, InI64 c → InI64 l → InI64 k → g [.agg [.int .i64 c, .int .i64 l, .int .i64 k]] = some [st (whr c l k)]
theorem txt_len (n : Int) : (txt n).length ≤ 21 := by
 unfold txt; split
 ·have := dig_len (-n); simp; omega
 ·have := dig_len n; omega
def RLineC (g : List AV → Option (List AV)) : Prop := ∀ (w : List UInt8) (l : List Int) (L : AV), (L = nV l ∨ (l = [] ∧ L = .nil 1)) → w.length ≤ 100 → l.length ≤ 10 → (∀ n ∈ l, InI64 n) → g [st w, L] = some [st (w ++ numsT l ++ [10])]
end Go.Am.Sh
namespace Go.Am.Sh
abbrev wBuilding : List UInt8 := [98, 117, 105, 108, 100, 105, 110, 103]
abbrev wCars : List UInt8 := [99, 97, 114, 115]
abbrev wDoors : List UInt8 := [100, 111, 111, 114, 115]
abbrev wTraffic : List UInt8 := [116, 114, 97, 102, 102, 105, 99]
abbrev wDispatcher : List UInt8 := [100, 105, 115, 112, 97, 116, 99, 104, 101, 114]
abbrev wHorizon : List UInt8 := [104, 111, 114, 105, 122, 111, 110]
abbrev wBins : List UInt8 := [98, 105, 110, 115]
def segsT : List Seg → List UInt8
 | [] => []
 | g :: r => shL [wTraffic, tplW g.kind] [g.ticks, g.rate] ++ segsT r
def headT (s : Scn) : List UInt8 := shL [wBuilding] [s.floors, s.gap] ++ shL [wCars] [s.cars, s.capacity] ++ shL [wDoors] [s.opn, s.dwell, s.cls, s.transfer]
def txtS (s : Scn) : List UInt8 := headT s ++ segsT s.segs ++ shL [wDispatcher, disW s.disp] [] ++ shL [wHorizon] [s.horizon] ++ shL [wBins] [s.bins, s.width]
theorem segsT_app (a b : List Seg) : segsT (a ++ b) = segsT a ++ segsT b := by
 induction a with
 | nil => rfl
 | cons x a ih => simp [segsT, ih]
theorem tplW_len (k : Int) : (tplW k).length ≤ 20 := by
 unfold tplW
 repeat' split
 all_goals simp
theorem disW_len (k : Int) : (disW k).length ≤ 20 := by
 unfold disW
 repeat' split
 all_goals simp
theorem shL_len (ws : List (List UInt8)) (l : List Int) (h1 : ws.length ≤ 3) (h2 : ∀ w ∈ ws, w.length ≤ 20) (h3 : l.length ≤ 10) : (shL ws l).length ≤ 400 := by
 have := joinW_len ws h2
 have := numsT_len l
 simp [shL]; omega
theorem shL_ne (ws : List (List UInt8)) (l : List Int) : shL ws l ≠ [] := by simp [shL]
theorem segsT_len (l : List Seg) : (segsT l).length ≤ 400 * l.length := by
 induction l with
 | nil => simp [segsT]
 | cons g r ih =>
  have := shL_len [wTraffic, tplW g.kind] [g.ticks, g.rate] (by simp) (by simp [tplW_len]) (by simp)
  simp only [segsT, List.length_append, List.length_cons]; omega
theorem headT_len (s : Scn) : (headT s).length ≤ 1200 := by
 have h1 := shL_len [wBuilding] [s.floors, s.gap] (by simp) (by simp) (by simp)
 have h2 := shL_len [wCars] [s.cars, s.capacity] (by simp) (by simp) (by simp)
 have h3 := shL_len [wDoors] [s.opn, s.dwell, s.cls, s.transfer] (by simp) (by simp) (by simp)
 simp only [headT, List.length_append]; omega
theorem headT_ne (s : Scn) : headT s ≠ [] := by simp [headT, shL_ne]
abbrev rS (s : Scn) : List (Nat × Obj) := [(1, ⟨13, [s.cells.map AV.c]⟩)]
theorem rS_ok (s : Scn) : RestOk (rS s) := ⟨by simp, by simp, by simp, by simp⟩
theorem get_bOb1 (t : List UInt8) (rest : List (Nat × Obj)) : get (bOb t rest) 1 = get rest 1 := by cases t <;> simp [bOb]
theorem del_bOb7 (t : List UInt8) (rest : List (Nat × Obj)) : del (bOb t rest) 7 = bOb t (del rest 7) := by cases t <;> simp [bOb]
theorem keep_bOb1 (t : List UInt8) (rest : List (Nat × Obj)) : keepF 0 1000 [1, kB] (bOb t rest) = bOb t (keepF 0 1000 [1, kB] rest) := by cases t <;> simp [bOb]
theorem keep_bOb7 (t : List UInt8) (rest : List (Nat × Obj)) : keepF 0 1000 [1, kB, 7] (bOb t rest) = bOb t (keepF 0 1000 [1, kB, 7] rest) := by cases t <;> simp [bOb]
theorem keep_bOb0 (t : List UInt8) (rest : List (Nat × Obj)) : keepF 0 1000 [kB] (bOb t rest) = bOb t (keepF 0 1000 [kB] rest) := by cases t <;> simp [bOb]
theorem nmRow_u8 (k : Nat) (b : UInt8) : nmRow k (List.map AV.c (u8row b)) = true := rfl
theorem nm_bOb7 (t : List UInt8) (rest : List (Nat × Obj)) : nmOb 7 (bOb t rest) = nmOb 7 rest := by cases t <;> simp [bOb, bRows, nmRow_u8]
theorem text_l1 (Γ : Env) (M : Nat) (hM : 100 < M) (hl7 : LineC7 (Γ.pt 70)) (h42 : TplC (Γ 42)) (s : Scn) (hs : s.Ok) (hn : s.segs.length ≤ 30) (t : List UInt8) (ht : t.length ≤ 2000) (htn : t ≠ []) :
  ∀ s0, nrmP [1, 5, 39, 40, 41] 0 1000 [1, kB] s0 = ⟨[(1, .loc 1 0 0), (5, .loc kB 0 0), (39, .c (.vs 3 (s.segs.map Seg.cells))), (40, i64 s.segs.length), (41, i64 (0 : Nat))], bOb (t ++ segsT (s.segs.take 0)) (rS s)⟩ →
   lp (exec Γ M show_Text_l1) M s0 = some (.ex 0, ⟨[(1, .loc 1 0 0), (5, .loc kB 0 0)], bOb (t ++ segsT s.segs) (rS s)⟩) := by
 obtain ⟨ax, s', ⟨rfl, rfl⟩, hin⟩ : ∃ ax s', (ax = .ex 0 ∧ s' = ⟨[(1, .loc 1 0 0), (5, .loc kB 0 0)], bOb (t ++ segsT s.segs) (rS s)⟩) ∧ ∀ s0, nrmP [1, 5, 39, 40, 41] 0 1000 [1, kB] s0 = ⟨[(1, .loc 1 0 0), (5, .loc kB 0 0), (39, .c (.vs 3 (s.segs.map Seg.cells))), (40, i64 s.segs.length), (41, i64 (0 : Nat))], bOb (t ++ segsT (s.segs.take 0)) (rS s)⟩ → lp (exec Γ M show_Text_l1) M s0 = some (ax, s') := by
  refine lp_allP (fun k : Nat => ⟨[(1, .loc 1 0 0), (5, .loc kB 0 0), (39, .c (.vs 3 (s.segs.map Seg.cells))), (40, i64 s.segs.length), (41, i64 k)], bOb (t ++ segsT (s.segs.take k)) (rS s)⟩) (fun k => k ≤ s.segs.length) (fun k => s.segs.length - k) _ 0 M (by omega) (by omega) ?_
  intro k hk
  by_cases hlt : k < s.segs.length
  ·obtain ⟨g, hg⟩ : ∃ g, s.segs[k]'hlt = g := ⟨_, rfl⟩
   have hgo : g.Ok := hs.segs g (by rw [← hg]; exact List.getElem_mem hlt)
   have hsl := segsT_len (s.segs.take k)
   have hkl : (s.segs.take k).length ≤ 30 := by simp; omega
   have hnext : (t ++ segsT (s.segs.take k)) ++ shL [wTraffic, tplW g.kind] [g.ticks, g.rate] = t ++ segsT (s.segs.take (k + 1)) := by
    rw [List.take_succ_eq_append_getElem hlt, segsT_app, hg]; simp [segsT]
   have hTl : (t ++ segsT (s.segs.take k)).length ≤ 100000 := by simp only [List.length_append]; omega
   have hTn : t ++ segsT (s.segs.take k) ≠ [] := by simp [htn]
   obtain ⟨T, hTT⟩ : ∃ T, t ++ segsT (s.segs.take k) = T := ⟨_, rfl⟩
   rw [hTT] at hnext hTl hTn ⊢
   have e42 := h42 g.kind
   have h7 := fun gs h => hl7 gs (rS s) [wTraffic, tplW g.kind] [g.ticks, g.rate] (nV [g.ticks, g.rate]) T ⟨3, [[i64 g.kind, i64 g.ticks, i64 g.rate]]⟩ h (rS_ok s) (by simp) (by simp) (.inl rfl) (by simp) (by simp [tplW_len]) (by simp) (by simp [hgo.ticks, hgo.rate]) (by omega) hTn (by simp)
   rw [hnext] at h7
   simp [gsOk_iff, wV, nV, rS] at h7
   simp -implicitDefEqProofs (disch := first | omega | (simp <;> fail) | assumption) [rS, hlt, hg, e42, h7, del_bOb7, keep_bOb1, keep_bOb7, get_bOb1, nm_bOb7]
   exact ⟨k + 1, by simp, by omega, by omega⟩
  ·obtain rfl : k = s.segs.length := by omega
   simp -implicitDefEqProofs (disch := first | omega | assumption) [rS, keep_bOb1]
 exact hin
theorem bOb_nil (rest : List (Nat × Obj)) : bOb [] rest = (kB, ⟨2, [[.ot .np, .nil 1]]⟩) :: rest := rfl
def TextC (g : List AV → Option (List AV)) : Prop := ∀ s : Scn, s.Ok → s.segs.length ≤ 30 → g [.agg s.cells] = some (if chkS s = 0 then [st (txtS s), i64 0] else [st [], i64 (chkS s)])
theorem show_Text_run (Γ : Env) (M : Nat) (hM : 100 < M) (hC : ChkC (Γ 25)) (h42 : TplC (Γ 42)) (h44 : DisC (Γ 44)) (hl : LineC (Γ.pt 70)) (hl7 : LineC7 (Γ.pt 70)) (hS : StrC (Γ.pt 69)) : TextC (run Γ M show_Text_f) := by
 intro s hs hn
 have e25 := hC s (by have := hs.nsegs; omega)
 have e44 := h44 s.disp
 simp only [Scn.cells] at e25
 by_cases h0 : chkS s = 0
 ·rw [if_pos h0]
  rw [h0] at e25
  have n1 := shL_len [wBuilding] [s.floors, s.gap] (by simp) (by simp) (by simp)
  have n2 := shL_len [wCars] [s.cars, s.capacity] (by simp) (by simp) (by simp)
  have n3 := shL_len [wDoors] [s.opn, s.dwell, s.cls, s.transfer] (by simp) (by simp) (by simp)
  have n4 := segsT_len s.segs
  have n5 := shL_len [wDispatcher, disW s.disp] [] (by simp) (by simp [disW_len]) (by simp)
  have n6 := shL_len [wHorizon] [s.horizon] (by simp) (by simp) (by simp)
  have n7 := shL_len [wBins] [s.bins, s.width] (by simp) (by simp) (by simp)
  obtain ⟨T1, hT1⟩ : ∃ T, shL [wBuilding] [s.floors, s.gap] = T := ⟨_, rfl⟩
  obtain ⟨T2, hT2⟩ : ∃ T, T1 ++ shL [wCars] [s.cars, s.capacity] = T := ⟨_, rfl⟩
  obtain ⟨T3, hT3⟩ : ∃ T, T2 ++ shL [wDoors] [s.opn, s.dwell, s.cls, s.transfer] = T := ⟨_, rfl⟩
  obtain ⟨T4, hT4⟩ : ∃ T, T3 ++ segsT s.segs = T := ⟨_, rfl⟩
  obtain ⟨T5, hT5⟩ : ∃ T, T4 ++ shL [wDispatcher, disW s.disp] [] = T := ⟨_, rfl⟩
  obtain ⟨T6, hT6⟩ : ∃ T, T5 ++ shL [wHorizon] [s.horizon] = T := ⟨_, rfl⟩
  obtain ⟨T7, hT7⟩ : ∃ T, T6 ++ shL [wBins] [s.bins, s.width] = T := ⟨_, rfl⟩
  have hfin : txtS s = T7 := by rw [← hT7, ← hT6, ← hT5, ← hT4, ← hT3, ← hT2, ← hT1]; simp [txtS, headT]
  have m1 : T1 ≠ [] := by rw [← hT1]; exact shL_ne _ _
  have m2 : T2 ≠ [] := by rw [← hT2]; simp [m1]
  have m3 : T3 ≠ [] := by rw [← hT3]; simp [m2]
  have m4 : T4 ≠ [] := by rw [← hT4]; simp [m3]
  have m5 : T5 ≠ [] := by rw [← hT5]; simp [m4]
  have m6 : T6 ≠ [] := by rw [← hT6]; simp [m5]
  have m7 : T7 ≠ [] := by rw [← hT7]; simp [m6]
  have k1 : T1.length ≤ 400 := by rw [← hT1]; exact n1
  have k2 : T2.length ≤ 800 := by rw [← hT2]; simp only [List.length_append]; omega
  have k3 : T3.length ≤ 1200 := by rw [← hT3]; simp only [List.length_append]; omega
  have k4 : T4.length ≤ 20000 := by rw [← hT4]; simp only [List.length_append]; omega
  have k5 : T5.length ≤ 21000 := by rw [← hT5]; simp only [List.length_append]; omega
  have k6 : T6.length ≤ 22000 := by rw [← hT6]; simp only [List.length_append]; omega
  have k7 : T7.length ≤ 23000 := by rw [← hT7]; simp only [List.length_append]; omega
  have c1 := fun gs h => hl gs (rS s) [wBuilding] [s.floors, s.gap] (nV [s.floors, s.gap]) [] h (rS_ok s) (.inl rfl) (by simp) (by simp) (by simp) (by simp [hs.floors, hs.gap]) (by simp) ⟨_, _, rfl, .inr (by simp)⟩
  have c2 := fun gs h => hl gs (rS s) [wCars] [s.cars, s.capacity] (nV [s.cars, s.capacity]) T1 h (rS_ok s) (.inl rfl) (by simp) (by simp) (by simp) (by simp [hs.cars, hs.capacity]) (by omega) ⟨_, _, rfl, .inl m1⟩
  have c3 := fun gs h => hl gs (rS s) [wDoors] [s.opn, s.dwell, s.cls, s.transfer] (nV [s.opn, s.dwell, s.cls, s.transfer]) T2 h (rS_ok s) (.inl rfl) (by simp) (by simp) (by simp) (by simp [hs.opn, hs.dwell, hs.cls, hs.transfer]) (by omega) ⟨_, _, rfl, .inl m2⟩
  have c5 := fun gs h => hl gs (rS s) [wDispatcher, disW s.disp] [] (.nil 1) T4 h (rS_ok s) (.inr ⟨rfl, rfl⟩) (by simp) (by simp [disW_len]) (by simp) (by simp) (by omega) ⟨_, _, rfl, .inl m4⟩
  have c6 := fun gs h => hl gs (rS s) [wHorizon] [s.horizon] (nV [s.horizon]) T5 h (rS_ok s) (.inl rfl) (by simp) (by simp) (by simp) (by simp [hs.horizon]) (by omega) ⟨_, _, rfl, .inl m5⟩
  have c7 := fun gs h => hl gs (rS s) [wBins] [s.bins, s.width] (nV [s.bins, s.width]) T6 h (rS_ok s) (.inl rfl) (by simp) (by simp) (by simp) (by simp [hs.bins, hs.width]) (by omega) ⟨_, _, rfl, .inl m6⟩
  have c8 := fun gs h => hS gs [] T7 h ⟨rfl, rfl, rfl, rfl⟩ m7 (by omega)
  rw [List.nil_append, hT1] at c1
  rw [hT2] at c2
  rw [hT3] at c3
  rw [hT5] at c5
  rw [hT6] at c6
  rw [hT7] at c7
  have hlp : lp (exec Γ M show_Text_l1) M ⟨[(1, .loc 1 0 0), (5, .loc kB 0 0), (39, .c (.vs 3 (s.segs.map Seg.cells))), (40, .c (.int .i64 s.segs.length)), (41, .c (.int .i64 0))], bOb T3 (rS s)⟩ = some (.ex 0, ⟨[(1, .loc 1 0 0), (5, .loc kB 0 0)], bOb T4 (rS s)⟩) := by
   have := text_l1 Γ M hM hl7 h42 s hs hn T3 (by omega) m3 ⟨[(1, .loc 1 0 0), (5, .loc kB 0 0), (39, .c (.vs 3 (s.segs.map Seg.cells))), (40, .c (.int .i64 s.segs.length)), (41, .c (.int .i64 0))], bOb T3 (rS s)⟩ (by simp [segsT, keep_bOb1, rS])
   rw [hT4] at this
   exact this
  rw [hfin]
  rw [bOb_nil] at c1
  simp [gsOk_iff, wV, nV, rS] at c1 c2 c3 c5 c6 c7 c8
  simp [rS] at hlp
  simp -implicitDefEqProofs (disch := first | omega | (simp <;> fail) | assumption) [rS, e25, e44, hlp, c1, c2, c3, c5, c6, c7, c8, del_bOb7, keep_bOb1, keep_bOb0, get_bOb1]
 ·rw [if_neg h0]
  simp -implicitDefEqProofs (disch := first | omega | (simp <;> fail) | assumption) [e25, h0]
end Go.Am.Sh
namespace Go.Am.Sh
theorem ref27_Template_run (Γ : Env) (M : Nat) : TplC (run Γ M ref27_Template_f) := by
 intro k
 by_cases h1 : k = 1
 ·subst h1; simp [tplW]
 by_cases h2 : k = 2
 ·subst h2; simp [tplW]
 by_cases h3 : k = 3
 ·subst h3; simp [tplW]
 by_cases h4 : k = 4
 ·subst h4; simp [tplW]
 by_cases h5 : k < 1
 ·simp [tplW, h1, h2, h3, h4, h5]
 ·have h6 : 4 < k := by omega
  simp [tplW, h1, h2, h3, h4, h5, h6]
theorem ref27_Dispatcher_run (Γ : Env) (M : Nat) : DisC (run Γ M ref27_Dispatcher_f) := by
 intro k
 by_cases h1 : k = 1
 ·subst h1; simp [disW]
 by_cases h2 : k = 2
 ·subst h2; simp [disW]
 by_cases h3 : k = 3
 ·subst h3; simp [disW]
 by_cases h4 : k = 4
 ·subst h4; simp [disW]
 by_cases h5 : k < 1
 ·simp [disW, h1, h2, h3, h4, h5]
 ·have h6 : 4 < k := by omega
  simp [disW, h1, h2, h3, h4, h5, h6]
theorem ref27_line_run (Γ : Env) (M : Nat) (hM : 100 < M) (h6 : Of (Γ 6)) : RLineC (run Γ M ref27_line_f) := by
 intro w l L hL hw hl hI
 obtain ⟨ax, s', ⟨rfl, rfl⟩, hin⟩ : ∃ ax s', (ax = .ex 0 ∧ s' = ⟨[(0, st (w ++ numsT l))], []⟩) ∧ ∀ s0, nrm [0, 1, 5] [] s0 = ⟨[(0, st (w ++ numsT (l.take 0))), (1, L), (5, i64 (0 : Nat))], []⟩ → lp (exec Γ M ref27_line_l1) M s0 = some (ax, s') := by
  refine lp_all (fun k : Nat => ⟨[(0, st (w ++ numsT (l.take k))), (1, L), (5, i64 k)], []⟩) (fun k => k ≤ l.length) (fun k => l.length - k) _ 0 M (by simp) (by omega) (by omega) ?_
  intro k hk
  by_cases hlt : k < l.length
  ·obtain rfl : L = nV l := by
    rcases hL with h | ⟨h, _⟩
    ·exact h
    ·subst h; simp at hlt
   have e1 := h6 l[k] (hI _ (List.getElem_mem hlt))
   have hx := txt_len l[k]
   have hlen := numsT_len (l.take k)
   have hlk : (l.take k).length ≤ 10 := by simp; omega
   have hnext : w ++ numsT (l.take (k + 1)) = (w ++ numsT (l.take k)) ++ (32 :: txt l[k]) := by
    rw [List.take_succ_eq_append_getElem hlt, numsT_app]; simp [numsT]
   have hTl : (w ++ numsT (l.take k)).length ≤ 1000 := by simp only [List.length_append]; omega
   obtain ⟨T, hTT⟩ : ∃ T, w ++ numsT (l.take k) = T := ⟨_, rfl⟩
   obtain ⟨X, hX⟩ : ∃ X, txt l[k] = X := ⟨_, rfl⟩
   rw [hTT] at hnext hTl ⊢
   rw [hX] at hnext e1 hx
   simp -implicitDefEqProofs (disch := first | omega | ((try simp only [List.length_append, List.length_cons, List.length_nil, maxStr_eq]); omega) | assumption) [binS_add, hlt, nV, e1]
   exact ⟨k + 1, ⟨hnext.symm, by simp⟩, by omega, by omega⟩
  ·obtain rfl : k = l.length := by omega
   rcases hL with rfl | ⟨rfl, rfl⟩
   ·simp -implicitDefEqProofs (disch := first | omega | assumption) [nV]
   ·simp
 have hlp := hin ⟨[(0, st (w ++ numsT (l.take 0))), (1, L), (5, i64 (0 : Nat))], []⟩ (by simp)
 have e0 : w ++ numsT (l.take 0) = w := by simp [numsT]
 rw [e0] at hlp
 simp at hlp
 have hlen := numsT_len l
 have hTl : (w ++ numsT l).length ≤ 1000 := by simp only [List.length_append]; omega
 obtain ⟨T, hTT⟩ : ∃ T, w ++ numsT l = T := ⟨_, rfl⟩
 rw [hTT] at hlp hTl ⊢
 simp -implicitDefEqProofs (disch := first | omega | ((try simp only [List.length_append, List.length_cons, List.length_nil, maxStr_eq]); omega) | assumption) [binS_add, hlp]
theorem ref_text_l1 (Γ : Env) (M : Nat) (hM : 100 < M) (h71 : RLineC (Γ 71)) (h43 : TplC (Γ 43)) (s : Scn) (hs : s.Ok) (hn : s.segs.length ≤ 30) (t : List UInt8) (ht : t.length ≤ 2000) :
  ∀ s0, nrm [1, 5, 6] [1] s0 = ⟨[(1, .loc 1 0 0), (5, st (t ++ segsT (s.segs.take 0))), (6, i64 (0 : Nat))], rS s⟩ →
   lp (exec Γ M ref27_Text_l1) M s0 = some (.ex 0, ⟨[(1, .loc 1 0 0), (5, st (t ++ segsT s.segs))], rS s⟩) := by
 obtain ⟨ax, s', ⟨rfl, rfl⟩, hin⟩ : ∃ ax s', (ax = .ex 0 ∧ s' = ⟨[(1, .loc 1 0 0), (5, st (t ++ segsT s.segs))], rS s⟩) ∧ ∀ s0, nrm [1, 5, 6] [1] s0 = ⟨[(1, .loc 1 0 0), (5, st (t ++ segsT (s.segs.take 0))), (6, i64 (0 : Nat))], rS s⟩ → lp (exec Γ M ref27_Text_l1) M s0 = some (ax, s') := by
  refine lp_all (fun k : Nat => ⟨[(1, .loc 1 0 0), (5, st (t ++ segsT (s.segs.take k))), (6, i64 k)], rS s⟩) (fun k => k ≤ s.segs.length) (fun k => s.segs.length - k) _ 0 M (by simp [rS]) (by omega) (by omega) ?_
  intro k hk
  by_cases hlt : k < s.segs.length
  ·obtain ⟨g, hg⟩ : ∃ g, s.segs[k]'hlt = g := ⟨_, rfl⟩
   have hgo : g.Ok := hs.segs g (by rw [← hg]; exact List.getElem_mem hlt)
   have hsl := segsT_len (s.segs.take k)
   have hkl : (s.segs.take k).length ≤ 30 := by simp; omega
   have hnext : (t ++ segsT (s.segs.take k)) ++ shL [wTraffic, tplW g.kind] [g.ticks, g.rate] = t ++ segsT (s.segs.take (k + 1)) := by
    rw [List.take_succ_eq_append_getElem hlt, segsT_app, hg]; simp [segsT]
   have hTl : (t ++ segsT (s.segs.take k)).length ≤ 100000 := by simp only [List.length_append]; omega
   obtain ⟨T, hTT⟩ : ∃ T, t ++ segsT (s.segs.take k) = T := ⟨_, rfl⟩
   rw [hTT] at hnext hTl ⊢
   have e43 := h43 g.kind
   have hkw := tplW_len g.kind
   have hA := shL_len [wTraffic, tplW g.kind] [g.ticks, g.rate] (by simp) (by simp [tplW_len]) (by simp)
   have e71 : Γ 71 [st (wTraffic ++ 32 :: tplW g.kind), nV [g.ticks, g.rate]] = some [st (shL [wTraffic, tplW g.kind] [g.ticks, g.rate])] := h71 (wTraffic ++ 32 :: tplW g.kind) [g.ticks, g.rate] _ (.inl rfl) (by simp; omega) (by simp) (by simp [hgo.ticks, hgo.rate])
   obtain ⟨A, hAA⟩ : ∃ A, shL [wTraffic, tplW g.kind] [g.ticks, g.rate] = A := ⟨_, rfl⟩
   rw [hAA] at hA hnext e71
   obtain ⟨K, hKK⟩ : ∃ K, tplW g.kind = K := ⟨_, rfl⟩
   rw [hKK] at e43 hkw e71
   simp [nV] at e71
   simp -implicitDefEqProofs (disch := first | omega | ((try simp only [List.length_append, List.length_cons, List.length_nil, maxStr_eq]); omega) | assumption) [rS, hlt, hg, e43, e71, binS_add]
   exact ⟨k + 1, ⟨hnext.symm ▸ rfl, by simp⟩, by omega, by omega⟩
  ·obtain rfl : k = s.segs.length := by omega
   simp -implicitDefEqProofs (disch := first | omega | assumption) [rS]
 exact hin
theorem ref27_Text_run (Γ : Env) (M : Nat) (hM : 100 < M) (hC : ChkC (Γ 26)) (h43 : TplC (Γ 43)) (h45 : DisC (Γ 45)) (h71 : RLineC (Γ 71)) : TextC (run Γ M ref27_Text_f) := by
 intro s hs hn
 have e26 := hC s (by have := hs.nsegs; omega)
 have e45 := h45 s.disp
 simp only [Scn.cells] at e26
 by_cases h0 : chkS s = 0
 ·rw [if_pos h0]
  rw [h0] at e26
  have n1 := shL_len [wBuilding] [s.floors, s.gap] (by simp) (by simp) (by simp)
  have n2 := shL_len [wCars] [s.cars, s.capacity] (by simp) (by simp) (by simp)
  have n3 := shL_len [wDoors] [s.opn, s.dwell, s.cls, s.transfer] (by simp) (by simp) (by simp)
  have n4 := segsT_len s.segs
  have n5 := shL_len [wDispatcher, disW s.disp] [] (by simp) (by simp [disW_len]) (by simp)
  have n6 := shL_len [wHorizon] [s.horizon] (by simp) (by simp) (by simp)
  have n7 := shL_len [wBins] [s.bins, s.width] (by simp) (by simp) (by simp)
  have hdw := disW_len s.disp
  have c1 : Γ 71 [st wBuilding, nV [s.floors, s.gap]] = some [st (shL [wBuilding] [s.floors, s.gap])] := h71 _ _ _ (.inl rfl) (by simp) (by simp) (by simp [hs.floors, hs.gap])
  have c2 : Γ 71 [st wCars, nV [s.cars, s.capacity]] = some [st (shL [wCars] [s.cars, s.capacity])] := h71 _ _ _ (.inl rfl) (by simp) (by simp) (by simp [hs.cars, hs.capacity])
  have c3 : Γ 71 [st wDoors, nV [s.opn, s.dwell, s.cls, s.transfer]] = some [st (shL [wDoors] [s.opn, s.dwell, s.cls, s.transfer])] := h71 _ _ _ (.inl rfl) (by simp) (by simp) (by simp [hs.opn, hs.dwell, hs.cls, hs.transfer])
  have c5 : Γ 71 [st (wDispatcher ++ 32 :: disW s.disp), .nil 1] = some [st (shL [wDispatcher, disW s.disp] [])] := h71 _ [] _ (.inr ⟨rfl, rfl⟩) (by simp; omega) (by simp) (by simp)
  have c5' : Γ 71 [st (wDispatcher ++ 32 :: disW s.disp), nV []] = some [st (shL [wDispatcher, disW s.disp] [])] := h71 _ [] _ (.inl rfl) (by simp; omega) (by simp) (by simp)
  have c6 : Γ 71 [st wHorizon, nV [s.horizon]] = some [st (shL [wHorizon] [s.horizon])] := h71 _ _ _ (.inl rfl) (by simp) (by simp) (by simp [hs.horizon])
  have c7 : Γ 71 [st wBins, nV [s.bins, s.width]] = some [st (shL [wBins] [s.bins, s.width])] := h71 _ _ _ (.inl rfl) (by simp) (by simp) (by simp [hs.bins, hs.width])
  have hl3 : (shL [wBuilding] [s.floors, s.gap] ++ shL [wCars] [s.cars, s.capacity] ++ shL [wDoors] [s.opn, s.dwell, s.cls, s.transfer]).length ≤ 2000 := by simp only [List.length_append]; omega
  have hlp0 := ref_text_l1 Γ M hM h71 h43 s hs hn _ hl3
  have hfin : txtS s = shL [wBuilding] [s.floors, s.gap] ++ shL [wCars] [s.cars, s.capacity] ++ shL [wDoors] [s.opn, s.dwell, s.cls, s.transfer] ++ segsT s.segs ++ shL [wDispatcher, disW s.disp] [] ++ shL [wHorizon] [s.horizon] ++ shL [wBins] [s.bins, s.width] := rfl
  rw [hfin]
  generalize shL [wBuilding] [s.floors, s.gap] = A1 at *
  generalize shL [wCars] [s.cars, s.capacity] = A2 at *
  generalize shL [wDoors] [s.opn, s.dwell, s.cls, s.transfer] = A3 at *
  generalize shL [wDispatcher, disW s.disp] [] = A5 at *
  generalize shL [wHorizon] [s.horizon] = A6 at *
  generalize shL [wBins] [s.bins, s.width] = A7 at *
  have hlp : lp (exec Γ M ref27_Text_l1) M ⟨[(1, .loc 1 0 0), (5, st (A1 ++ (A2 ++ A3))), (6, .c (.int .i64 0))], rS s⟩ = some (.ex 0, ⟨[(1, .loc 1 0 0), (5, st (A1 ++ (A2 ++ (A3 ++ segsT s.segs))))], rS s⟩) := by
   have := hlp0 ⟨[(1, .loc 1 0 0), (5, st (A1 ++ (A2 ++ A3))), (6, .c (.int .i64 0))], rS s⟩ (by simp [segsT, rS])
   rw [this]; simp
  generalize segsT s.segs = S4 at *
  generalize disW s.disp = W at *
  simp [nV] at c1 c2 c3 c5 c5' c6 c7
  simp [rS] at hlp
  simp -implicitDefEqProofs (disch := first | omega | ((try simp only [List.length_append, List.length_cons, List.length_nil, maxStr_eq]); omega) | assumption) [rS, e26, e45, hlp, c1, c2, c3, c5, c5', c6, c7, binS_add]
  done
 ·rw [if_neg h0]
  simp -implicitDefEqProofs (disch := first | omega | (simp <;> fail) | assumption) [e26, h0]
end Go.Am.Sh
namespace Go.Am
abbrev TRow := List (List UInt8)
def txQ (w : List UInt8) : List D := [.str w]
def rowQ (r : TRow) : List D := [.vs 1 (r.map txQ)]
abbrev vR (r : TRow) : AV := .c (.vs 1 (r.map txQ))
abbrev vRs (rs : List TRow) : AV := .c (.vs 1 (rs.map rowQ))
def numQ (z : Int) : List D := [.int .i64 z]
abbrev vN (l : List Int) : AV := .c (.vs 1 (l.map numQ))
structure SmallR (r : TRow) : Prop where
 few : r.length ≤ 20
 short : ∀ w ∈ r, w.length ≤ 60
structure Small (rs : List TRow) : Prop where
 few : rs.length ≤ 120
 rows : ∀ r ∈ rs, SmallR r
def bl (n : Int) : List UInt8 := List.replicate n.toNat 32
def BlanksC (g : List AV → Option (List AV)) : Prop := ∀ n : Int, n ≤ 1000 → g [i64 n] = some [st (bl n)]
theorem ref16_blanks_run (Γ : Env) (M : Nat) (hM : 2000 < M) : BlanksC (run Γ M ref16_blanks_f) := by
 intro n hn
 have hmax : (1000 : Nat) ≤ maxStr := by decide
 obtain ⟨ax, s', ⟨rfl, rfl⟩, hin⟩ : ∃ ax s', (ax = .ex 0 ∧ s' = ⟨[(3, st (bl n))], []⟩) ∧ ∀ s0, nrm [0, 3, 4] [] s0 = ⟨[(0, i64 n), (3, st (List.replicate 0 32)), (4, i64 (0 : Nat))], []⟩ → lp (exec Γ M ref16_blanks_l1) M s0 = some (ax, s') := by
  refine lp_all (fun q : Nat => ⟨[(0, i64 n), (3, st (List.replicate q 32)), (4, i64 q)], []⟩) (fun q => q ≤ n.toNat) (fun q => n.toNat - q) _ 0 M (by simp) (by omega) (by omega) ?_
  intro k hk
  by_cases hlt : (k : Int) < n
  ·have hs : List.replicate (k + 1) (32 : UInt8) = List.replicate k 32 ++ [32] := List.replicate_succ'
   have hlk : (List.replicate k (32 : UInt8)).length = k := List.length_replicate
   generalize List.replicate k (32 : UInt8) = R at *
   simp -implicitDefEqProofs (disch := first | omega | ((try simp only [List.length_append, List.length_cons, List.length_nil, maxStr_eq]); omega) | assumption) [binS_add, hlt]
   exact ⟨k + 1, ⟨hs.symm, by omega⟩, by omega, by omega⟩
  ·obtain rfl : k = n.toNat := by omega
   simp -implicitDefEqProofs (disch := first | omega | assumption) [hlt, bl]
 simp -implicitDefEqProofs (disch := first | omega | (simp <;> fail) | assumption) [hin]
def padL (s : List UInt8) (w : Int) : List UInt8 := bl (min (max w 0) 65536 - s.length) ++ s
def PadC (g : List AV → Option (List AV)) : Prop := ∀ (s : List UInt8) (w : Int), s.length ≤ 1000 → w ≤ 9223372036854775807 → -9223372036854775808 ≤ w → g [st s, i64 w] = some [st (padL s w)]
def bR (k : Nat) : Rows := (List.replicate k (32 : UInt8)).map (toAV ∘ u8row)
theorem bR_succ (k : Nat) : bR (k + 1) = bR k ++ [[.c (.int .u8 32)]] := by unfold bR; rw [List.replicate_succ']; simp [u8row, toAV]
theorem bR_len (k : Nat) : (bR k).length = k := by unfold bR; simp
theorem digits_Pad_run (Γ : Env) (M : Nat) (hM : 66000 < M) : PadC (run Γ M digits_Pad_f) := by
 intro s w hs hw hw2
 obtain ⟨n, hn⟩ : ∃ n, min (max w 0) 65536 - (s.length : Int) = n := ⟨_, rfl⟩
 obtain ⟨N, hN⟩ : ∃ N, n.toNat = N := ⟨_, rfl⟩
 obtain ⟨ax, s', ⟨rfl, rfl⟩, hin⟩ : ∃ ax s', (ax = .ex 0 ∧ s' = ⟨[(0, st s), (5, .sl 11 N 0 N)], [(11, ⟨1, bR N⟩)]⟩) ∧ ∀ s0, nrm [0, 5, 15, 16] [5, 11, 20] s0 = ⟨[(0, st s), (5, .sl 11 0 0 0), (15, i64 n), (16, i64 (0 : Nat))], [(11, ⟨1, bR 0⟩)]⟩ → lp (exec Γ M digits_Pad_l1) M s0 = some (ax, s') := by
  refine lp_all (fun q : Nat => ⟨[(0, st s), (5, .sl 11 q 0 q), (15, i64 n), (16, i64 q)], [(11, ⟨1, bR q⟩)]⟩) (fun q => q ≤ N) (fun q => N - q) _ 0 M (by simp) (by omega) (by omega) ?_
  intro k hk
  by_cases hlt : (k : Int) < n
  ·have hrl := bR_len k
   have hrc : lcRows 11 (bR k) = true := lcRows_comp 11 u8row _
   have hs2 := bR_succ k
   generalize bR k = R at *
   simp -implicitDefEqProofs (disch := first | omega | assumption) [hlt, hrl, hrc]
   exact ⟨k + 1, ⟨by omega, hs2.symm⟩, by omega, by omega⟩
  ·obtain rfl : k = N := by omega
   simp -implicitDefEqProofs (disch := first | omega | assumption) [hlt]
 have hin := hin ⟨[(0, st s), (5, .sl 11 0 0 0), (15, i64 n), (16, i64 (0 : Nat))], [(11, ⟨1, []⟩)]⟩ (by simp [bR])
 simp at hin
 have hrl := bR_len N
 have hrc : lcRows 11 (bR N) = true := lcRows_comp 11 u8row _
 have hE : (if 65536 < (if w < 0 then (0 : Int) else w) then (65536 : Int) else if w < 0 then 0 else w) - (s.length : Int) = n := by
  by_cases w0 : w < 0
  ·rw [if_pos w0]; simp only [if_neg (show ¬ (65536 : Int) < 0 by omega)]; omega
  ·by_cases w1 : 65536 < w
   ·simp only [if_neg w0, if_pos w1]; omega
   ·simp only [if_neg w0, if_neg w1]; omega
 obtain ⟨T, hT⟩ : ∃ T, List.replicate N (32 : UInt8) ++ s = T := ⟨_, rfl⟩
 have hp : padL s w = T := by unfold padL bl; rw [hn, hN, hT]
 have happ : bR N ++ s.map (toAV ∘ u8row) = T.map (toAV ∘ u8row) := by rw [← hT]; unfold bR; simp only [List.map_append]
 have hTl : N + s.length = T.length := by rw [← hT]; simp
 have ha := allRows_comp u8row T
 have h1 := u8row_all T
 have h2 := u8row_of T
 have h3 : (T.map u8row).take T.length = T.map u8row := by rw [List.take_of_length_le]; simp
 have hconv : ∀ fr, (⟨fr, [(11, ⟨1, T.map (toAV ∘ u8row)⟩)]⟩ : St).conv .toStr (.sl 11 T.length 0 T.length) = some (.str T) := fun fr => by
  simp only [St.conv, St.view, get, if_true, List.length_map, Nat.zero_add, Nat.le_refl, and_self, ha, Option.map_some, List.drop_zero, h3, h1, h2]
 rw [hp]
 generalize bR N = G at *
 generalize T.map (toAV ∘ u8row) = G2 at *
 simp -implicitDefEqProofs (disch := first | omega | assumption) [hE, hin, hrl, hrc, happ, hTl, hconv]
end Go.Am
namespace Go.Am
def updW : List Int → TRow → List Int
 | o :: out, s :: r => max o s.length :: updW out r
 | [], s :: r => (s.length : Int) :: updW [] r
 | out, [] => out
theorem updW_nil : ∀ out : List Int, updW out [] = out
 | [] => rfl
 | _ :: _ => rfl
theorem updW_len : ∀ (out : List Int) (r : TRow), (updW out r).length = max out.length r.length
 | [], [] => rfl
 | o :: out, [] => by rw [updW_nil]; simp
 | [], s :: r => by simp only [updW, List.length_cons, updW_len [] r, List.length_nil]; omega
 | o :: out, s :: r => by simp only [updW, List.length_cons, updW_len out r]; omega
theorem updW_get : ∀ (out : List Int) (r : TRow) (k : Nat), (updW out r)[k]? = match out[k]?, r[k]? with
  | some o, some s => some (max o s.length)
  | some o, none => some o
  | none, some s => some (s.length : Int)
  | none, none => none
 | [], [], k => by simp [updW]
 | o :: out, [], k => by
  rw [updW_nil]; simp only [List.getElem?_nil]
  cases (o :: out)[k]? <;> rfl
 | [], s :: r, 0 => by simp [updW]
 | [], s :: r, k + 1 => by
  rw [updW, List.getElem?_cons_succ, updW_get [] r k]; simp
 | o :: out, s :: r, 0 => by simp [updW]
 | o :: out, s :: r, k + 1 => by
  rw [updW, List.getElem?_cons_succ, updW_get out r k]; simp
theorem updW_snoc_old (out : List Int) (r : TRow) (i : Nat) (hi : i < r.length) (hc : i < (updW out (r.take i)).length) :
  updW out (r.take (i + 1)) = (updW out (r.take i)).set i (max (updW out (r.take i))[i] (r[i].length : Int)) := by
 have hl := updW_len out (r.take i)
 rw [List.length_take] at hl
 have hio : i < out.length := by omega
 have hg : (updW out (r.take i))[i] = out[i] := by
  have := updW_get out (r.take i) i
  rw [List.getElem?_take, if_neg (by omega), List.getElem?_eq_getElem hio, List.getElem?_eq_getElem hc] at this
  simpa using this
 rw [hg]
 apply List.ext_getElem?
 intro k
 rw [List.getElem?_set, updW_get, updW_get, List.getElem?_take, List.getElem?_take]
 by_cases hk : i = k
 ·subst hk
  rw [if_pos rfl, if_pos (by omega), if_pos hc, List.getElem?_eq_getElem hio, List.getElem?_eq_getElem hi]
 ·rw [if_neg hk]
  by_cases h1 : k < i
  ·rw [if_pos (by omega), if_pos h1]
  ·rw [if_neg (by omega), if_neg h1]
theorem updW_snoc_new (out : List Int) (r : TRow) (i : Nat) (hi : i < r.length) (hc : ¬ i < (updW out (r.take i)).length) :
  (updW out (r.take i)).length = i ∧ updW out (r.take (i + 1)) = updW out (r.take i) ++ [(r[i].length : Int)] := by
 have hl := updW_len out (r.take i)
 rw [List.length_take] at hl
 have hio : out.length ≤ i := by omega
 have hli : (updW out (r.take i)).length = i := by omega
 refine ⟨hli, ?_⟩
 apply List.ext_getElem?
 intro k
 rw [updW_get, List.getElem?_take]
 by_cases h1 : k < i
 ·rw [if_pos (by omega), List.getElem?_append_left (by omega), updW_get, List.getElem?_take, if_pos h1]
 ·rw [List.getElem?_append_right (by omega), hli]
  by_cases h2 : k = i
  ·subst h2
   rw [if_pos (by omega), Nat.sub_self, List.getElem?_eq_none hio, List.getElem?_eq_getElem hi]; rfl
  ·rw [if_neg (by omega), List.getElem?_eq_none (by omega)]
   simp; omega
def wid (rs : List TRow) : List Int := rs.foldl updW []
def colF (k : Nat) (w : Int) (r : TRow) : Int := match r[k]? with
 | some s => max w s.length
 | none => w
def colW (rs : List TRow) (k : Nat) : Int := rs.foldl (colF k) 0
def nCols (rs : List TRow) : Nat := rs.foldl (fun n r => max n r.length) 0
theorem wid_len_aux : ∀ (rs : List TRow) (out : List Int) (n : Nat), out.length = n → (rs.foldl updW out).length = rs.foldl (fun n r => max n r.length) n
 | [], out, n, h => h
 | r :: rs, out, n, h => by
  rw [List.foldl_cons, List.foldl_cons]
  exact wid_len_aux rs _ _ (by rw [updW_len, h])
theorem wid_len (rs : List TRow) : (wid rs).length = nCols rs := wid_len_aux rs [] 0 rfl
theorem wid_get_aux : ∀ (rs : List TRow) (out : List Int) (k : Nat), (∀ x ∈ out, 0 ≤ x) → (rs.foldl updW out).getD k 0 = rs.foldl (colF k) (out.getD k 0)
 | [], out, k, h => rfl
 | r :: rs, out, k, h => by
  rw [List.foldl_cons, List.foldl_cons, wid_get_aux rs (updW out r) k ?_]
  ·congr 1
   rw [List.getD_eq_getElem?_getD, updW_get, List.getD_eq_getElem?_getD]
   unfold colF
   cases out[k]? <;> cases r[k]? <;> simp
  ·intro x hx
   obtain ⟨i, hi, rfl⟩ := List.getElem_of_mem hx
   have := updW_get out r i
   rw [List.getElem?_eq_getElem hi] at this
   cases ho : out[i]? with
   | none =>
    rw [ho] at this
    cases hr : r[i]? with
    | none => rw [hr] at this; simp at this
    | some s => rw [hr] at this; simp only [Option.some.injEq] at this; omega
   | some o =>
    have h0 := h o (List.mem_of_getElem? ho)
    rw [ho] at this
    cases hr : r[i]? with
    | none => rw [hr] at this; simp only [Option.some.injEq] at this; omega
    | some s => rw [hr] at this; simp only [Option.some.injEq] at this; omega
theorem wid_cols (rs : List TRow) : wid rs = (List.range (nCols rs)).map (colW rs) := by
 apply List.ext_getElem
 ·rw [wid_len]; simp
 ·intro k h1 h2
  have := wid_get_aux rs [] k (by simp)
  rw [List.getD_eq_getElem?_getD, show rs.foldl updW [] = wid rs from rfl, List.getElem?_eq_getElem h1] at this
  simp only [Option.getD_some, List.getD_nil] at this
  rw [this]; simp [colW]
theorem nCols_aux : ∀ (rs : List TRow) (n k : Nat), (k < rs.foldl (fun n r => max n r.length) n ↔ k < n ∨ ∃ r ∈ rs, k < r.length)
 | [], n, k => by simp
 | r :: rs, n, k => by
  rw [List.foldl_cons, nCols_aux rs (max n r.length) k]
  simp only [List.mem_cons, exists_eq_or_imp]
  constructor
  ·rintro (h | h)
   ·by_cases h2 : k < n
    ·exact .inl h2
    ·exact .inr (.inl (by omega))
   ·exact .inr (.inr h)
  ·rintro (h | h | h)
   ·exact .inl (by omega)
   ·exact .inl (by omega)
   ·exact .inr h
theorem nCols_iff (rs : List TRow) (k : Nat) : k < nCols rs ↔ ∃ r ∈ rs, k < r.length := by
 rw [nCols, nCols_aux]; simp
theorem nCols_small {rs : List TRow} (h : Small rs) : nCols rs ≤ 20 := by
 rcases Nat.lt_or_ge 20 (nCols rs) with h1 | h1
 ·obtain ⟨r, hr, h2⟩ := (nCols_iff rs 20).1 h1
  have := (h.rows r hr).few; omega
 ·exact h1
theorem colF_bound {k : Nat} : ∀ (rs : List TRow) (w : Int), (0 ≤ w ∧ w ≤ 60) → (∀ r ∈ rs, SmallR r) → 0 ≤ rs.foldl (colF k) w ∧ rs.foldl (colF k) w ≤ 60
 | [], w, h, _ => h
 | r :: rs, w, h, hs => by
  rw [List.foldl_cons]
  refine colF_bound rs _ ?_ fun x hx => hs x (by simp [hx])
  unfold colF
  cases hr : r[k]? with
  | none => exact h
  | some s =>
   have := (hs r (by simp)).short s (List.mem_of_getElem? hr)
   simp only; omega
def WidthsC (g : List AV → Option (List AV)) : Prop := ∀ rs : List TRow, Small rs → g [vRs rs] = some [vN (wid rs)]
def nR (l : List Int) : Rows := l.map (toAV ∘ numQ)
theorem nR_len (l : List Int) : (nR l).length = l.length := List.length_map _
theorem widths_in (Γ : Env) (M : Nat) (hM : 130 < M) (rs : List TRow) (out : List Int) (i : Nat) (r : TRow) (hr : SmallR r) (ho : out.length ≤ 20) :
  ∀ s0, nrm [3, 8, 9, 10, 14, 15, 16] [3, 27] s0 = ⟨[(3, .sl 3 out.length 0 out.length), (8, vRs rs), (9, i64 rs.length), (10, i64 i), (14, vR r), (15, i64 r.length), (16, i64 (0 : Nat))], [(3, ⟨1, nR out⟩)]⟩ →
   lp (exec Γ M cols_Widths_l1) M s0 = some (.ex 2, ⟨[(3, .sl 3 (updW out r).length 0 (updW out r).length), (8, vRs rs), (9, i64 rs.length), (10, i64 i)], [(3, ⟨1, nR (updW out r)⟩)]⟩) := by
 have hfew := hr.few
 have h00 : updW out (r.take 0) = out := updW_nil out
 obtain ⟨ax, s', ⟨rfl, rfl⟩, hin⟩ : ∃ ax s', (ax = .ex 2 ∧ s' = ⟨[(3, .sl 3 (updW out r).length 0 (updW out r).length), (8, vRs rs), (9, i64 rs.length), (10, i64 i)], [(3, ⟨1, nR (updW out r)⟩)]⟩) ∧ ∀ s0, nrm [3, 8, 9, 10, 14, 15, 16] [3, 27] s0 = ⟨[(3, .sl 3 (updW out (r.take 0)).length 0 (updW out (r.take 0)).length), (8, vRs rs), (9, i64 rs.length), (10, i64 i), (14, vR r), (15, i64 r.length), (16, i64 (0 : Nat))], [(3, ⟨1, nR (updW out (r.take 0))⟩)]⟩ → lp (exec Γ M cols_Widths_l1) M s0 = some (ax, s') := by
  refine lp_all (fun q : Nat => ⟨[(3, .sl 3 (updW out (r.take q)).length 0 (updW out (r.take q)).length), (8, vRs rs), (9, i64 rs.length), (10, i64 i), (14, vR r), (15, i64 r.length), (16, i64 q)], [(3, ⟨1, nR (updW out (r.take q))⟩)]⟩) (fun q => q ≤ r.length) (fun q => r.length - q) _ 0 M (by simp) (by omega) (by omega) ?_
  intro k hk
  by_cases hlt : k < r.length
  ·obtain ⟨w, hw⟩ : ∃ w, r[k]'hlt = w := ⟨_, rfl⟩
   have hws := hr.short w (by rw [← hw]; exact List.getElem_mem hlt)
   have hlen := updW_len out (r.take k)
   rw [List.length_take] at hlen
   by_cases c : k < (updW out (r.take k)).length
   ·have hs := updW_snoc_old out r k hlt c
    rw [hw] at hs
    obtain ⟨U, hU⟩ : ∃ U, updW out (r.take k) = U := ⟨_, rfl⟩
    simp only [hU] at hs hlen c ⊢
    obtain ⟨o, hok⟩ : ∃ o, U[k]'c = o := ⟨_, rfl⟩
    rw [hok] at hs
    have hrl := nR_len U
    have hget : (nR U)[k]? = some [i64 o] := by unfold nR; rw [List.getElem?_map, List.getElem?_eq_getElem c, hok]; rfl
    have hne : ¬ k = U.length := by omega
    have hget2 := (List.getElem?_eq_some_iff.1 hget).2
    simp -implicitDefEqProofs (disch := first | omega | assumption) [hlt, hw, txQ, c, hne, hrl, hget, hget2]
    refine ⟨k + 1, ⟨⟨by rw [hs, List.length_set], by omega⟩, ?_⟩, by omega, by omega⟩
    rw [hs, List.set_eq_take_append_cons_drop, if_pos c, show (if o < (w.length : Int) then (w.length : Int) else o) = max o w.length by omega]
    simp [nR, List.map_take, List.map_drop, numQ, toAV]
   ·obtain ⟨hli, hs⟩ := updW_snoc_new out r k hlt c
    rw [hw] at hs
    obtain ⟨U, hU⟩ : ∃ U, updW out (r.take k) = U := ⟨_, rfl⟩
    simp only [hU] at hs hlen c hli ⊢
    have hrl := nR_len U
    have hrc : lcRows 3 (nR U) = true := lcRows_comp 3 numQ _
    have hgn : (nR U ++ [[i64 0]])[k]? = some [i64 0] := by rw [List.getElem?_append_right (by omega), hrl, hli, Nat.sub_self]; rfl
    simp -implicitDefEqProofs (disch := first | omega | assumption) [hlt, hw, txQ, c, hli, hrl, hrc, hgn]
    refine ⟨k + 1, ⟨⟨by rw [hs]; simp; omega, by omega⟩, ?_⟩, by omega, by omega⟩
    rw [hs, List.drop_eq_nil_of_le (by simp [hrl]; omega), show (if 0 < w.length then (w.length : Int) else 0) = w.length by split <;> omega]
    simp [nR, numQ, toAV]
  ·obtain rfl : k = r.length := by omega
   simp only [List.take_length]
   simp -implicitDefEqProofs (disch := first | omega | assumption)
 rw [h00] at hin
 exact hin
theorem foldl_take_succ {α β : Type} (f : β → α → β) (b : β) (l : List α) (k : Nat) (h : k < l.length) : (l.take (k + 1)).foldl f b = f ((l.take k).foldl f b) l[k] := by
 rw [List.take_succ_eq_append_getElem h, List.foldl_append]; rfl
theorem wid_take_len {rs : List TRow} (h : Small rs) (k : Nat) : (wid (rs.take k)).length ≤ 20 := by
 rw [wid_len]
 refine nCols_small ⟨?_, fun r hr => h.rows r (List.mem_of_mem_take hr)⟩
 have := h.few
 rw [List.length_take]; omega
theorem cols_Widths_run (Γ : Env) (M : Nat) (hM : 130 < M) : WidthsC (run Γ M cols_Widths_f) := by
 intro rs hs
 have hfew := hs.few
 obtain ⟨ax, s', ⟨rfl, rfl⟩, hin⟩ : ∃ ax s', (ax = .ex 0 ∧ s' = ⟨[(3, .sl 3 (wid rs).length 0 (wid rs).length)], [(3, ⟨1, nR (wid rs)⟩)]⟩) ∧ ∀ s0, nrm [3, 8, 9, 10] [3, 27] s0 = ⟨[(3, .sl 3 (wid (rs.take 0)).length 0 (wid (rs.take 0)).length), (8, vRs rs), (9, i64 rs.length), (10, i64 (0 : Nat))], [(3, ⟨1, nR (wid (rs.take 0))⟩)]⟩ → lp (exec Γ M cols_Widths_l2) M s0 = some (ax, s') := by
  refine lp_all (fun q : Nat => ⟨[(3, .sl 3 (wid (rs.take q)).length 0 (wid (rs.take q)).length), (8, vRs rs), (9, i64 rs.length), (10, i64 q)], [(3, ⟨1, nR (wid (rs.take q))⟩)]⟩) (fun q => q ≤ rs.length) (fun q => rs.length - q) _ 0 M (by simp) (by omega) (by omega) ?_
  intro k hk
  by_cases hlt : k < rs.length
  ·obtain ⟨r, hr⟩ : ∃ w, rs[k]'hlt = w := ⟨_, rfl⟩
   have hrs := hs.rows r (by rw [← hr]; exact List.getElem_mem hlt)
   have hsn : wid (rs.take (k + 1)) = updW (wid (rs.take k)) r := by unfold wid; rw [foldl_take_succ _ _ _ _ hlt, hr]
   have hol := wid_take_len hs k
   generalize wid (rs.take k) = U at *
   have hlp := widths_in Γ M hM rs U k r hrs hol
   simp -implicitDefEqProofs (disch := first | omega | (simp <;> fail) | assumption) [hlt, hr, rowQ, hlp]
   exact ⟨k + 1, ⟨⟨by rw [hsn], by omega⟩, by rw [hsn]⟩, by omega, by omega⟩
  ·obtain rfl : k = rs.length := by omega
   rw [List.take_length]
   simp -implicitDefEqProofs (disch := first | omega | assumption)
 have hin := hin ⟨[(3, .sl 3 0 0 0), (8, vRs rs), (9, i64 rs.length), (10, i64 (0 : Nat))], [(3, ⟨1, []⟩)]⟩ (by simp [wid, nR])
 simp at hin
 have ha := allRows_comp numQ (wid rs)
 have hF2 : ((wid rs).map numQ).take (wid rs).length = (wid rs).map numQ := by rw [List.take_of_length_le]; simp
 have hrl := nR_len (wid rs)
 rw [show (wid rs).map (toAV ∘ numQ) = nR (wid rs) from rfl] at ha
 generalize nR (wid rs) = G at *
 obtain ⟨K, hK⟩ : ∃ K, (wid rs).map numQ = K := ⟨_, rfl⟩
 simp only [hK] at ha hF2 ⊢
 generalize (wid rs).length = N at *
 simp -implicitDefEqProofs (disch := first | omega | assumption) [hin, ha, hF2, hrl, hK]
theorem rwidths_in (Γ : Env) (M : Nat) (hM : 130 < M) (rs : List TRow) (hs : Small rs) (k : Nat) (A : AV) (O : Obj) :
  ∀ s0, nrm [0, 3, 4, 5, 6, 7] [3, 47] s0 = ⟨[(0, vRs rs), (3, A), (4, i64 k), (5, i64 0), (6, bo false), (7, i64 (0 : Nat))], [(3, O)]⟩ →
   lp (exec Γ M ref16_Widths_l1) M s0 = some (.ex 2, ⟨[(0, vRs rs), (3, A), (4, i64 k), (5, i64 (colW rs k)), (6, bo (decide (k < nCols rs)))], [(3, O)]⟩) := by
 have hfew := hs.few
 obtain ⟨ax, s', ⟨rfl, rfl⟩, hin⟩ : ∃ ax s', (ax = .ex 2 ∧ s' = ⟨[(0, vRs rs), (3, A), (4, i64 k), (5, i64 (colW rs k)), (6, bo (decide (k < nCols rs)))], [(3, O)]⟩) ∧ ∀ s0, nrm [0, 3, 4, 5, 6, 7] [3, 47] s0 = ⟨[(0, vRs rs), (3, A), (4, i64 k), (5, i64 0), (6, bo false), (7, i64 (0 : Nat))], [(3, O)]⟩ → lp (exec Γ M ref16_Widths_l1) M s0 = some (ax, s') := by
  refine lp_all (fun q : Int × Bool × Nat => ⟨[(0, vRs rs), (3, A), (4, i64 k), (5, i64 q.1), (6, bo q.2.1), (7, i64 q.2.2)], [(3, O)]⟩) (fun q => q.2.2 ≤ rs.length ∧ q.1 = (rs.take q.2.2).foldl (colF k) 0 ∧ (q.2.1 = true ↔ ∃ r ∈ rs.take q.2.2, k < r.length)) (fun q => rs.length - q.2.2) _ (0, false, 0) M (by simp) ⟨by simp, by simp, by simp⟩ (by dsimp only; omega) ?_
  rintro ⟨c, b, i⟩ ⟨h1, h2, h3⟩
  dsimp only at h1 h2 h3 ⊢
  by_cases hlt : i < rs.length
  ·obtain ⟨r, hr⟩ : ∃ w, rs[i]'hlt = w := ⟨_, rfl⟩
   have hrs := hs.rows r (by rw [← hr]; exact List.getElem_mem hlt)
   have hsn := foldl_take_succ (colF k) 0 rs i hlt
   rw [hr, ← h2] at hsn
   have hts : rs.take (i + 1) = rs.take i ++ [r] := by rw [List.take_succ_eq_append_getElem hlt, hr]
   have hcb := colF_bound (k := k) (rs.take i) 0 (by omega) fun x hx => hs.rows x (List.mem_of_mem_take hx)
   rw [← h2] at hcb
   by_cases d : k < r.length
   ·obtain ⟨w, hw⟩ : ∃ w, r[k]'d = w := ⟨_, rfl⟩
    have hwl := hrs.short w (by rw [← hw]; exact List.getElem_mem d)
    have hcf : colF k c r = max c w.length := by unfold colF; rw [List.getElem?_eq_getElem d, hw]
    rw [hcf] at hsn
    have hb : ∃ x ∈ rs.take (i + 1), k < x.length := ⟨r, by rw [hts]; simp, d⟩
    by_cases e : c < (w.length : Int)
    ·simp -implicitDefEqProofs (disch := first | omega | assumption) [-Bool.exists_bool, hlt, hr, rowQ, d, hw, txQ, e]
     exact ⟨_, true, i + 1, ⟨rfl, rfl, by omega⟩, ⟨by omega, by rw [hsn]; omega, ⟨fun _ => hb, fun _ => rfl⟩⟩, by omega⟩
    ·simp -implicitDefEqProofs (disch := first | omega | assumption) [-Bool.exists_bool, hlt, hr, rowQ, d, hw, txQ, e]
     exact ⟨_, true, i + 1, ⟨rfl, rfl, by omega⟩, ⟨by omega, by rw [hsn]; omega, ⟨fun _ => hb, fun _ => rfl⟩⟩, by omega⟩
   ·have hcf : colF k c r = c := by unfold colF; rw [List.getElem?_eq_none (by omega)]
    rw [hcf] at hsn
    have hb : (∃ x ∈ rs.take (i + 1), k < x.length) ↔ ∃ x ∈ rs.take i, k < x.length := by
     rw [hts]
     constructor
     ·rintro ⟨x, hx, h⟩
      simp only [List.mem_append, List.mem_singleton] at hx
      rcases hx with hx | rfl
      ·exact ⟨x, hx, h⟩
      ·omega
     ·rintro ⟨x, hx, h⟩; exact ⟨x, by simp [hx], h⟩
    simp -implicitDefEqProofs (disch := first | omega | assumption) [-Bool.exists_bool, hlt, hr, rowQ, d]
    exact ⟨c, b, i + 1, ⟨rfl, rfl, by omega⟩, ⟨by omega, hsn.symm, h3.trans hb.symm⟩, by omega⟩
  ·obtain rfl : i = rs.length := by omega
   rw [List.take_length] at h2 h3
   have hb : decide (k < nCols rs) = b := by
    cases b with
    | true => exact decide_eq_true ((nCols_iff rs k).2 (h3.1 rfl))
    | false => exact decide_eq_false fun h => by have := h3.2 ((nCols_iff rs k).1 h); simp at this
   have hc : colW rs k = c := h2.symm
   simp -implicitDefEqProofs (disch := first | omega | assumption) [hb, hc]
 exact hin
end Go.Am
namespace Go.Am
theorem ref16_Widths_run (Γ : Env) (M : Nat) (hM : 130 < M) : WidthsC (run Γ M ref16_Widths_f) := by
 intro rs hs
 have hfew := hs.few
 have hnc := nCols_small hs
 have hcl := wid_cols rs
 have hloop : ∃ ax s', (ax = .ret ∧ s' = ⟨[(2, .sl 3 (nCols rs) 0 (nCols rs))], [(3, ⟨1, nR (wid rs)⟩)]⟩) ∧ ∀ s0, nrm [0, 3, 4] [3, 47] s0 = ⟨[(0, vRs rs), (3, .sl 3 0 0 0), (4, i64 (0 : Nat))], [(3, ⟨1, nR ((List.range 0).map (colW rs))⟩)]⟩ → lp (exec Γ M ref16_Widths_l2) M s0 = some (ax, s') := by
  refine lp_all (fun q : Nat => ⟨[(0, vRs rs), (3, .sl 3 q 0 q), (4, i64 q)], [(3, ⟨1, nR ((List.range q).map (colW rs))⟩)]⟩) (fun q => q ≤ nCols rs) (fun q => nCols rs - q) _ 0 M (by simp) (by omega) (by omega) ?_
  intro k hk
  have hlp := rwidths_in Γ M hM rs hs k (.sl 3 k 0 k) ⟨1, nR ((List.range k).map (colW rs))⟩
  by_cases hlt : k < nCols rs
  ·have hd : decide (k < nCols rs) = true := decide_eq_true hlt
   rw [hd] at hlp
   have hrl : (nR ((List.range k).map (colW rs))).length = k := by rw [nR_len]; simp
   have hrc : lcRows 3 (nR ((List.range k).map (colW rs))) = true := lcRows_comp 3 numQ _
   have hsn : nR ((List.range (k + 1)).map (colW rs)) = nR ((List.range k).map (colW rs)) ++ [[i64 (colW rs k)]] := by
    rw [List.range_succ]; simp [nR, numQ, toAV]
   generalize nR ((List.range k).map (colW rs)) = G at *
   generalize colW rs k = c at *
   simp -implicitDefEqProofs (disch := first | omega | (simp <;> fail) | assumption) [hlp, hrl, hrc]
   exact ⟨k + 1, ⟨by omega, hsn.symm⟩, by omega, by omega⟩
  ·have hd : decide (k < nCols rs) = false := decide_eq_false hlt
   rw [hd] at hlp
   obtain rfl : k = nCols rs := by omega
   rw [← hcl] at hlp ⊢
   generalize nR (wid rs) = G at *
   generalize colW rs (nCols rs) = c at *
   generalize nCols rs = N at *
   simp -implicitDefEqProofs (disch := first | omega | (simp <;> fail) | assumption) [hlp]
 obtain ⟨ax, s', ⟨rfl, rfl⟩, hin⟩ := hloop
 have hin := hin ⟨[(0, vRs rs), (3, .sl 3 0 0 0), (4, i64 (0 : Nat))], [(3, ⟨1, []⟩)]⟩ (by simp [nR])
 simp at hin
 have ha := allRows_comp numQ (wid rs)
 have hwl := wid_len rs
 have hF2 : ((wid rs).map numQ).take (nCols rs) = (wid rs).map numQ := by rw [List.take_of_length_le]; simp [hwl]
 have hrl := nR_len (wid rs)
 rw [hwl] at hrl
 rw [show (wid rs).map (toAV ∘ numQ) = nR (wid rs) from rfl] at ha
 generalize nR (wid rs) = G at *
 obtain ⟨K, hK⟩ : ∃ K, (wid rs).map numQ = K := ⟨_, rfl⟩
 simp only [hK] at ha hF2 ⊢
 generalize nCols rs = N at *
 simp -implicitDefEqProofs (disch := first | omega | assumption) [hin, ha, hF2, hrl, hK]
def trimR (l : List UInt8) : List UInt8 := (l.reverse.dropWhile (· == 32)).reverse
theorem trimR_nil : trimR [] = [] := rfl
theorem trimR_snoc (l : List UInt8) (b : UInt8) : trimR (l ++ [b]) = if b = 32 then trimR l else l ++ [b] := by
 unfold trimR
 rw [List.reverse_append]
 simp only [List.reverse_cons, List.reverse_nil, List.nil_append, List.singleton_append, List.dropWhile_cons, beq_iff_eq]
 split <;> simp
theorem trimR_len (l : List UInt8) : (trimR l).length ≤ l.length := by
 unfold trimR
 have := (List.dropWhile_suffix (l := l.reverse) (· == (32 : UInt8))).length_le
 simp only [List.length_reverse] at this ⊢
 exact this
def cellT (ws : List Int) (k : Nat) (s : List UInt8) : List UInt8 :=
 if k = 0 then s ++ bl (ws.getD k 0 - s.length) else [32, 32] ++ bl (ws.getD k 0 - s.length) ++ s
def accT (ws : List Int) (r : TRow) : Nat → List UInt8
 | 0 => []
 | k + 1 => accT ws r k ++ cellT ws k (r.getD k [])
def lineW (ws : List Int) (r : TRow) : List UInt8 := trimR (accT ws r r.length)
def cellG (ws : List Int) (k : Nat) (s : List UInt8) : List UInt8 :=
 if k = 0 then s ++ padL [] (wrapK .i64 (ws.getD k 0 - s.length)) else [32, 32] ++ padL s (ws.getD k 0)
def accG (ws : List Int) (r : TRow) : Nat → List UInt8
 | 0 => []
 | k + 1 => accG ws r k ++ cellG ws k (r.getD k [])
def lineG (ws : List Int) (r : TRow) : List UInt8 := trimR (accG ws r r.length)
theorem bl_len (n : Int) : (bl n).length = n.toNat := List.length_replicate ..
theorem getD_in {ws : List Int} {P : Int → Prop} (hw : ∀ x ∈ ws, P x) (h0 : P 0) (k : Nat) : P (ws.getD k 0) := by
 rw [List.getD_eq_getElem?_getD]
 cases h : ws[k]? with
 | none => exact h0
 | some x => exact hw x (List.mem_of_getElem? h)
theorem cellT_len (ws : List Int) (hw : ∀ x ∈ ws, x ≤ 100) (k : Nat) (s : List UInt8) (hs : s.length ≤ 60) : (cellT ws k s).length ≤ 162 := by
 have : ws.getD k 0 ≤ 100 := getD_in (P := fun x => x ≤ 100) hw (by omega) k
 unfold cellT
 split <;> simp only [List.length_append, bl_len, List.length_cons, List.length_nil] <;> omega
theorem getD_le {r : TRow} (hr : SmallR r) (k : Nat) : (r.getD k []).length ≤ 60 := by
 rw [List.getD_eq_getElem?_getD]
 cases h : r[k]? with
 | none => simp
 | some x => exact hr.short x (List.mem_of_getElem? h)
theorem accT_len (ws : List Int) (hw : ∀ x ∈ ws, x ≤ 100) (r : TRow) (hr : SmallR r) : ∀ k, (accT ws r k).length ≤ 162 * k
 | 0 => by simp [accT]
 | k + 1 => by
  have := accT_len ws hw r hr k
  have := cellT_len ws hw k (r.getD k []) (getD_le hr k)
  simp only [accT, List.length_append]; omega
theorem padL_len (s : List UInt8) (w : Int) : (padL s w).length ≤ 65536 + s.length := by
 unfold padL; simp only [List.length_append, bl_len]; omega
theorem cellG_len0 (ws : List Int) (s : List UInt8) (hs : s.length ≤ 60) : (cellG ws 0 s).length ≤ 65600 := by
 unfold cellG
 have := padL_len [] (wrapK .i64 (ws.getD 0 0 - s.length))
 rw [if_pos rfl]
 simp only [List.length_append, List.length_nil] at this ⊢; omega
theorem cellG_len (ws : List Int) (hw : ∀ x ∈ ws, x ≤ 100) (k : Nat) (s : List UInt8) (hs : s.length ≤ 60) : (cellG ws (k + 1) s).length ≤ 162 := by
 have : ws.getD (k + 1) 0 ≤ 100 := getD_in (P := fun x => x ≤ 100) hw (by omega) _
 unfold cellG padL
 rw [if_neg (by omega)]
 simp only [List.length_append, bl_len, List.length_cons, List.length_nil]; omega
theorem accG_len (ws : List Int) (hw : ∀ x ∈ ws, x ≤ 100) (r : TRow) (hr : SmallR r) : ∀ k, (accG ws r k).length ≤ 65600 + 162 * k
 | 0 => by simp [accG]
 | 1 => by
  have := cellG_len0 ws (r.getD 0 []) (getD_le hr 0)
  simp only [accG, List.length_append, List.length_nil]; omega
 | k + 2 => by
  have := accG_len ws hw r hr (k + 1)
  have := cellG_len ws hw k (r.getD (k + 1) []) (getD_le hr (k + 1))
  rw [accG]; simp only [List.length_append]; omega
theorem accG_eq (ws : List Int) (hw : ∀ x ∈ ws, 0 ≤ x ∧ x ≤ 100) (r : TRow) (hr : SmallR r) : ∀ k, accG ws r k = accT ws r k
 | 0 => rfl
 | k + 1 => by
  rw [accG, accT, accG_eq ws hw r hr k]
  congr 1
  have h1 := getD_in (P := fun x => 0 ≤ x ∧ x ≤ 100) hw (by omega) k
  have h2 := getD_le hr k
  unfold cellG cellT padL
  split
  ·rename_i h; subst h
   rw [List.append_nil, wrapK_i64 (by omega) (by omega)]
   have : min (max (ws.getD 0 0 - ((r.getD 0 []).length : Int)) 0) 65536 - ((([] : List UInt8)).length : Int) = max (ws.getD 0 0 - ((r.getD 0 []).length : Int)) 0 := by simp only [List.length_nil]; omega
   rw [this]
   congr 1
   unfold bl
   congr 1
   omega
  ·rw [List.append_assoc]
   congr 2
   unfold bl
   congr 1
   omega
theorem lineG_eq (ws : List Int) (hw : ∀ x ∈ ws, 0 ≤ x ∧ x ≤ 100) (r : TRow) (hr : SmallR r) : lineG ws r = lineW ws r := by
 unfold lineG lineW; rw [accG_eq ws hw r hr]
theorem lineW_len (ws : List Int) (hw : ∀ x ∈ ws, x ≤ 100) (r : TRow) (hr : SmallR r) : (lineW ws r).length ≤ 3240 := by
 have h1 := trimR_len (accT ws r r.length)
 have h2 := accT_len ws hw r hr r.length
 have := hr.few
 unfold lineW; omega
def TrimC (g : List AV → Option (List AV)) : Prop := ∀ t : List UInt8, t.length ≤ 69000 → g [st t, .c (.int .u8 32)] = some [st (trimR t)]
def TrimC2 (g : List AV → Option (List AV)) : Prop := ∀ t : List UInt8, t.length ≤ 69000 → g [st t, st [32]] = some [st (trimR t)]
theorem snoc_take (l : List UInt8) (b : UInt8) : (l ++ [b]).take l.length = l := by simp
theorem rtrim_lp (Γ : Env) (M : Nat) (hM : 3300 < M) (t : List UInt8) (ht : t.length ≤ 3240) :
  ∀ s0, nrm [5] [] s0 = ⟨[(5, st t)], []⟩ → lp (exec Γ M ref16_Line_l1) M s0 = some (.ex 2, ⟨[(5, st (trimR t))], []⟩) := by
 obtain ⟨ax, s', ⟨rfl, rfl⟩, hin⟩ : ∃ ax s', (ax = .ex 2 ∧ s' = ⟨[(5, st (trimR t))], []⟩) ∧ ∀ s0, nrm [5] [] s0 = ⟨[(5, st t)], []⟩ → lp (exec Γ M ref16_Line_l1) M s0 = some (ax, s') := by
  refine lp_all (fun q : List UInt8 => ⟨[(5, st q)], []⟩) (fun q => q.length ≤ 3240 ∧ trimR q = trimR t) (fun q => q.length) _ t M (by simp) ⟨ht, rfl⟩ (by omega) ?_
  rintro q ⟨hq, he⟩
  rcases List.eq_nil_or_concat q with rfl | ⟨l, b, rfl⟩
  ·rw [← he, trimR_nil]
   simp -implicitDefEqProofs (disch := first | omega | assumption)
  ·rw [List.concat_eq_append] at *
   rw [trimR_snoc] at he
   simp only [List.length_append, List.length_cons, List.length_nil] at hq
   have hg : (l ++ [b])[l.length]? = some b := by simp
   by_cases hb : b = 32
   ·subst hb
    rw [if_pos rfl] at he
    simp -implicitDefEqProofs (disch := first | omega | assumption) [hg]
    exact ⟨by omega, he⟩
   ·rw [if_neg hb] at he
    rw [← he]
    have hb' : ¬ (b.toNat : Int) = 32 := fun h => hb (UInt8.toNat_inj.1 (by simp only [UInt8.reduceToNat]; omega))
    simp -implicitDefEqProofs (disch := first | omega | assumption) [hb, hb', hg]
 exact hin
theorem trimRightByte_run (Γ : Env) (M : Nat) (hM : 70000 < M) : TrimC (run Γ M strings_trimRightByte_f) := by
 intro t ht
 obtain ⟨ax, s', ⟨rfl, rfl⟩, hin⟩ : ∃ ax s', (ax = .ex 0 ∧ s' = ⟨[(0, st (trimR t))], []⟩) ∧ ∀ s0, nrm [0, 1] [] s0 = ⟨[(0, st t), (1, .c (.int .u8 32))], []⟩ → lp (exec Γ M strings_trimRightByte_l1) M s0 = some (ax, s') := by
  refine lp_all (fun q : List UInt8 => ⟨[(0, st q), (1, .c (.int .u8 32))], []⟩) (fun q => q.length ≤ 69000 ∧ trimR q = trimR t) (fun q => q.length) _ t M (by simp) ⟨ht, rfl⟩ (by omega) ?_
  rintro q ⟨hq, he⟩
  rcases List.eq_nil_or_concat q with rfl | ⟨l, b, rfl⟩
  ·rw [← he, trimR_nil]
   simp -implicitDefEqProofs (disch := first | omega | assumption)
  ·rw [List.concat_eq_append] at *
   rw [trimR_snoc] at he
   simp only [List.length_append, List.length_cons, List.length_nil] at hq
   have hg : (l ++ [b])[l.length]? = some b := by simp
   by_cases hb : b = 32
   ·subst hb
    rw [if_pos rfl] at he
    simp -implicitDefEqProofs (disch := first | omega | assumption) [hg]
    exact ⟨by omega, he⟩
   ·rw [if_neg hb] at he
    rw [← he]
    have hb' : ¬ (b.toNat : Int) = 32 := fun h => hb (UInt8.toNat_inj.1 (by simp only [UInt8.reduceToNat]; omega))
    simp -implicitDefEqProofs (disch := first | omega | assumption) [hb, hb', hg]
 have hlp : lp (exec Γ M strings_trimRightByte_l1) M ⟨[(0, st t), (1, .c (.int .u8 32))], []⟩ = some (.ex 0, ⟨[(0, st (trimR t))], []⟩) := hin _ (by simp)
 simp -implicitDefEqProofs (disch := first | omega | assumption) [hlp]
theorem TrimRight_run (Γ : Env) (M : Nat) (hT : TrimC (Γ 197)) : TrimC2 (run Γ M strings_TrimRight_f) := by
 intro t ht
 have h := hT t ht
 by_cases h0 : t = []
 ·subst h0
  simp -implicitDefEqProofs (disch := first | omega | assumption) [trimR_nil]
 ·have hd := decide_eq_false h0
  simp -implicitDefEqProofs (disch := first | omega | assumption) [h, h0, hd]
end Go.Am
namespace Go.Am.Cl
@[simp] abbrev kB : Nat := kt_cols_Line_5
def bRows (t : List UInt8) : List (List AV) := t.map (toAV ∘ u8row)
def bOb (t : List UInt8) (rest : List (Nat × Obj)) : List (Nat × Obj) := match t with
 | [] => (kB, ⟨2, [[.ot .np, .nil 1]]⟩) :: rest
 | b :: r => (kB, ⟨2, [[.loc kB 0 0, .sl kt_buf (r.length + 1) 0 (r.length + 1)]]⟩) :: (kt_buf, ⟨1, bRows (b :: r)⟩) :: rest
structure RestOk (rest : List (Nat × Obj)) : Prop where
 dK : del rest kB = rest
 dB : del rest kt_buf = rest
 nB : nmOb kt_buf rest = true
 lB : lcOb kt_buf rest = true
structure GsOk (gs : List (Nat × AV)) : Prop where
 g : Gh gs
 nB : nmFr kt_buf gs = true
 lB : lcFr kt_buf gs = true
def CopyC (g : St → Option (List AV × List (Nat × Obj))) : Prop := ∀ gs rest v, Gh gs → del rest kB = rest →
 (g ⟨(0, .loc kB 0 0) :: gs, (kB, ⟨2, [[.ot .np, v]]⟩) :: rest⟩ = some ([], (kB, ⟨2, [[.loc kB 0 0, v]]⟩) :: rest) ∧ g ⟨(0, .loc kB 0 0) :: gs, (kB, ⟨2, [[.loc kB 0 0, v]]⟩) :: rest⟩ = some ([], (kB, ⟨2, [[.loc kB 0 0, v]]⟩) :: rest))
def CopyC7 (g : St → Option (List AV × List (Nat × Obj))) : Prop := ∀ gs ob v, Gh gs → get ob kB = some ⟨2, [[.loc kB 0 0, v]]⟩ → g ⟨(0, .loc kB 0 0) :: gs, ob⟩ = some ([], ob)
theorem copyCheck_run7 (Γ : Env) (M : Nat) : CopyC7 (runP Γ M strings_Builder_copyCheck_f) := by
 intro gs ob v hg hr
 simp only [kB, kt_cols_Line_5] at hr
 simp -implicitDefEqProofs (disch := first | omega | (simp [hg] <;> fail) | assumption) [hg, hr]
theorem copyCheck_run (Γ : Env) (M : Nat) : CopyC (runP Γ M strings_Builder_copyCheck_f) := by
 intro gs rest v hg hr
 constructor
 ·simp -implicitDefEqProofs (disch := first | omega | (simp [hg] <;> fail) | assumption) [hg, hr]
 ·simp -implicitDefEqProofs (disch := first | omega | (simp [hg] <;> fail) | assumption) [hg, hr]
theorem lcRow_u8 (k : Nat) (b : UInt8) : lcRow k (List.map AV.c (u8row b)) = true := rfl
def WrC (g : St → Option (List AV × List (Nat × Obj))) : Prop := ∀ gs rest t s, GsOk gs → RestOk rest → (t ≠ [] ∨ s ≠ []) → t.length + s.length ≤ 1000000 →
 g ⟨(0, .loc kB 0 0) :: (1, st s) :: gs, bOb t rest⟩ = some ([i64 s.length, .ot .ni], bOb (t ++ s) rest)
theorem WriteString_run (Γ : Env) (M : Nat) (hc : CopyC (Γ.pt 228)) : WrC (runP Γ M strings_Builder_WriteString_f) := by
 intro gs rest t s ⟨hg, hn, hl⟩ ⟨r1, r2, r3, r4⟩ hne hlen
 cases t with
 | nil =>
  obtain ⟨b, r, rfl⟩ : ∃ b r, s = b :: r := by cases s with | nil => simp at hne | cons b r => exact ⟨b, r, rfl⟩
  have hcc := fun gs h => (hc gs rest (.nil 1) h r1).1
  simp only [List.length_cons, List.length_nil] at hlen
  simp only [bOb, List.nil_append]
  simp -implicitDefEqProofs (disch := first | omega | (simp [hg] <;> fail) | assumption) [hg, hn, hl, r1, r2, r3, r4, hcc, bRows]
 | cons b r =>
  have hcc := fun gs h => (hc gs ((kt_buf, ⟨1, bRows (b :: r)⟩) :: rest) (.sl kt_buf (r.length + 1) 0 (r.length + 1)) h (by simp [r1])).2
  simp [bRows] at hcc
  simp only [List.length_cons] at hlen
  simp only [bOb, List.cons_append]
  have hcm : r.length + s.length + 1 = r.length + 1 + s.length := by omega
  simp -implicitDefEqProofs (disch := first | omega | (simp [hg] <;> fail) | assumption) [hg, hn, hl, r1, r2, r3, r4, hcc, bRows, lcRow_u8, hcm]
def WrC7 (g : St → Option (List AV × List (Nat × Obj))) : Prop := ∀ gs rest t s (o : Obj), GsOk gs → RestOk rest → nmRows kt_buf o.rows = true → lcRows kt_buf o.rows = true → t ≠ [] → t.length + s.length ≤ 1000000 →
 g ⟨(0, .loc kB 0 0) :: (1, st s) :: gs, (7, o) :: bOb t rest⟩ = some ([i64 s.length, .ot .ni], bOb (t ++ s) ((7, o) :: rest))
theorem WriteString_run7 (Γ : Env) (M : Nat) (hc : CopyC7 (Γ.pt 228)) : WrC7 (runP Γ M strings_Builder_WriteString_f) := by
 intro gs rest t s o ⟨hg, hn, hl⟩ ⟨r1, r2, r3, r4⟩ ho1 ho2 hne hlen
 cases t with
 | nil => exact (hne rfl).elim
 | cons b r =>
  have hcc := fun gs h => hc gs ((7, o) :: (kB, ⟨2, [[.loc kB 0 0, .sl kt_buf (r.length + 1) 0 (r.length + 1)]]⟩) :: (kt_buf, ⟨1, bRows (b :: r)⟩) :: rest) (.sl kt_buf (r.length + 1) 0 (r.length + 1)) h (by simp)
  simp [bRows] at hcc
  simp only [List.length_cons] at hlen
  simp only [bOb, List.cons_append]
  have hcm : r.length + s.length + 1 = r.length + 1 + s.length := by omega
  simp -implicitDefEqProofs (disch := first | omega | (simp [hg] <;> fail) | assumption) [hg, hn, hl, r1, r2, r3, r4, ho1, ho2, hcc, bRows, lcRow_u8, hcm]
theorem RestOk.seven {rest : List (Nat × Obj)} {o : Obj} (h : RestOk rest) (h1 : nmRows kt_buf o.rows = true) (h2 : lcRows kt_buf o.rows = true) : RestOk ((7, o) :: rest) :=
 ⟨by simp [h.dK], by simp [h.dB], by simp [h.nB, h1], by simp [h.lB, h2]⟩
def StrC (g : St → Option (List AV × List (Nat × Obj))) : Prop := ∀ gs rest t, GsOk gs → RestOk rest → t ≠ [] → t.length ≤ 1000000 →
 g ⟨(0, .loc kB 0 0) :: gs, bOb t rest⟩ = some ([st t], (kB, ⟨2, [[.loc kB 0 0, .sl kt_buf t.length 0 t.length]]⟩) :: rest)
attribute [-simp] isU8 isByte u8of
theorem u8le (a : UInt8) : (a.toNat : Int) ≤ 255 := by have := a.toNat_lt; omega
theorem allD_u8 (b : UInt8) : allD (List.map AV.c (u8row b)) = some (u8row b) := rfl
theorem isU8_all (r : List UInt8) : ∀ x ∈ List.map u8row r, isU8 x = true := by
 intro x hx
 have := u8row_all r
 rw [List.all_eq_true] at this
 exact this x hx
theorem u8comp : u8of ∘ u8row = id := funext fun b => by simp [u8row, u8of]
theorem isByte_row (b : UInt8) : isByte (u8row b) = true := by
 have := u8le b
 simp [u8row, isByte, this]
theorem isU8_row (b : UInt8) : isU8 (u8row b) = true := by
 have := isU8_all [b] (u8row b) (by simp)
 exact this
theorem u8of_row (b : UInt8) : u8of (u8row b) = b := congrFun u8comp b
theorem BString_run (Γ : Env) (M : Nat) : StrC (runP Γ M strings_Builder_String_f) := by
 intro gs rest t ⟨hg, hn, hl⟩ ⟨r1, r2, r3, r4⟩ hne hlen
 obtain ⟨b, r, rfl⟩ : ∃ b r, t = b :: r := by cases t with | nil => simp at hne | cons b r => exact ⟨b, r, rfl⟩
 simp only [List.length_cons] at hlen
 have hle : (r.length : Int) + 1 ≤ 9223372036854775807 := by omega
 simp only [bOb]
 simp -implicitDefEqProofs (disch := first | omega | (simp [hg] <;> fail) | assumption) [hg, hn, hl, r1, r2, r3, r4, bRows, allD_u8, u8comp, isU8_row, isByte_row, u8of_row, hle]
def CopyK (g : St → Option (List AV × List (Nat × Obj))) : Prop := ∀ gs rest v (K : Nat) (o : Obj), Gh gs → del rest kB = rest → K < 1000 →
 g ⟨(0, .loc kB 0 0) :: gs, (K, o) :: (kB, ⟨2, [[.ot .np, v]]⟩) :: rest⟩ = some ([], (kB, ⟨2, [[.loc kB 0 0, v]]⟩) :: (K, o) :: rest)
theorem copyCheck_runK (Γ : Env) (M : Nat) : CopyK (runP Γ M strings_Builder_copyCheck_f) := by
 intro gs rest v K o hg hr hK
 have n1 : ¬ K = kB := by simp only [kB, kt_cols_Line_5]; omega
 simp only [kB, kt_cols_Line_5] at n1
 simp -implicitDefEqProofs (disch := first | omega | (simp [hg] <;> fail) | assumption) [hg, hr, n1]
def WrK (g : St → Option (List AV × List (Nat × Obj))) : Prop := ∀ gs rest t s (K : Nat) (o : Obj), GsOk gs → RestOk rest → K < 1000 → nmRows kt_buf o.rows = true → lcRows kt_buf o.rows = true → (t ≠ [] ∨ s ≠ []) → t.length + s.length ≤ 1000000 →
 g ⟨(0, .loc kB 0 0) :: (1, st s) :: gs, (K, o) :: bOb t rest⟩ = some ([i64 s.length, .ot .ni], bOb (t ++ s) ((K, o) :: rest))
theorem WriteString_runK (Γ : Env) (M : Nat) (hc : CopyC7 (Γ.pt 228)) (hk : CopyK (Γ.pt 228)) : WrK (runP Γ M strings_Builder_WriteString_f) := by
 intro gs rest t s K o ⟨hg, hn, hl⟩ ⟨r1, r2, r3, r4⟩ hK ho1 ho2 hne hlen
 have n1 : ¬ K = kB := by simp only [kB, kt_cols_Line_5]; omega
 have n2 : ¬ K = kt_buf := by simp only [kt_buf]; omega
 simp only [kB, kt_cols_Line_5, kt_buf] at n1 n2
 have n2' : ¬ kt_buf = K := by simp only [kt_buf]; omega
 cases t with
 | nil =>
  obtain ⟨b, r, rfl⟩ : ∃ b r, s = b :: r := by cases s with | nil => simp at hne | cons b r => exact ⟨b, r, rfl⟩
  have hcc := fun gs h => hk gs rest (.nil 1) K o h r1 hK
  simp only [List.length_cons, List.length_nil] at hlen
  simp only [bOb, List.nil_append]
  simp -implicitDefEqProofs (disch := first | omega | (simp [hg] <;> fail) | assumption) [hg, hn, hl, r1, r2, r3, r4, ho1, ho2, hcc, bRows, n1, n2]
 | cons b r =>
  have hcc := fun gs h => hc gs ((K, o) :: (kB, ⟨2, [[.loc kB 0 0, .sl kt_buf (r.length + 1) 0 (r.length + 1)]]⟩) :: (kt_buf, ⟨1, bRows (b :: r)⟩) :: rest) (.sl kt_buf (r.length + 1) 0 (r.length + 1)) h (by simp [n1])
  simp [bRows] at hcc
  simp only [List.length_cons] at hlen
  simp only [bOb, List.cons_append]
  have hcm : r.length + s.length + 1 = r.length + 1 + s.length := by omega
  simp -implicitDefEqProofs (disch := first | omega | (simp [hg] <;> fail) | assumption) [hg, hn, hl, r1, r2, r3, r4, ho1, ho2, hcc, bRows, lcRow_u8, hcm, n1, n2]
def StrC0 (g : St → Option (List AV × List (Nat × Obj))) : Prop := ∀ gs rest, Gh gs → g ⟨(0, .loc kB 0 0) :: gs, bOb [] rest⟩ = some ([st []], bOb [] rest)
theorem BString_run0 (Γ : Env) (M : Nat) : StrC0 (runP Γ M strings_Builder_String_f) := by
 intro gs rest hg
 simp only [bOb]
 simp -implicitDefEqProofs (disch := first | omega | (simp [hg] <;> fail) | assumption) [hg]
end Go.Am.Cl
namespace Go.Am.Cl
def bT (t : List UInt8) (rest : List (Nat × Obj)) : List (Nat × Obj) := (kB, ⟨2, [[.loc kB 0 0, .sl kt_buf t.length 0 t.length]]⟩) :: (kt_buf, ⟨1, bRows t⟩) :: rest
def bN (rest : List (Nat × Obj)) : List (Nat × Obj) := (kB, ⟨2, [[.ot .np, .nil 1]]⟩) :: rest
theorem bOb_bT {t : List UInt8} (h : t ≠ []) (rest : List (Nat × Obj)) : bOb t rest = bT t rest := by
 cases t with
 | nil => exact (h rfl).elim
 | cons b r => rfl
def WrA (g : St → Option (List AV × List (Nat × Obj))) : Prop := ∀ gs rest t s, GsOk gs → RestOk rest → t.length + s.length ≤ 1000000 →
 g ⟨(0, .loc kB 0 0) :: (1, st s) :: gs, bT t rest⟩ = some ([i64 s.length, .ot .ni], bT (t ++ s) rest)
theorem WriteString_runA (Γ : Env) (M : Nat) (hc : CopyC (Γ.pt 228)) : WrA (runP Γ M strings_Builder_WriteString_f) := by
 intro gs rest t s h r hl
 by_cases ht : t = []
 ·subst ht
  have hcc := fun gs h => (hc gs ((kt_buf, ⟨1, []⟩) :: rest) (.sl kt_buf 0 0 0) h (by simp [r.dK])).2
  obtain ⟨hg, hn, hl'⟩ := h
  obtain ⟨r1, r2, r3, r4⟩ := r
  have h0 : 0 + s.length = s.length := by omega
  simp only [bT, List.nil_append, List.length_nil]
  simp -implicitDefEqProofs (disch := first | omega | (simp [hg] <;> fail) | assumption) [hg, hn, hl', r1, r2, r3, r4, hcc, bRows]
 ·rw [← bOb_bT ht, ← bOb_bT (by simp [ht])]
  exact WriteString_run Γ M hc gs rest t s h r (.inl ht) hl
def WrN (g : St → Option (List AV × List (Nat × Obj))) : Prop := ∀ gs rest s, GsOk gs → RestOk rest → s.length ≤ 1000000 →
 g ⟨(0, .loc kB 0 0) :: (1, st s) :: gs, bN rest⟩ = some ([i64 s.length, .ot .ni], bT s rest)
theorem WriteString_runN (Γ : Env) (M : Nat) (hc : CopyC (Γ.pt 228)) : WrN (runP Γ M strings_Builder_WriteString_f) := by
 intro gs rest s h r hl
 by_cases hs : s = []
 ·subst hs
  have hcc := fun gs h => (hc gs rest (.nil 1) h r.dK).1
  obtain ⟨hg, hn, hl'⟩ := h
  obtain ⟨r1, r2, r3, r4⟩ := r
  simp only [bT, bN, List.length_nil]
  simp -implicitDefEqProofs (disch := first | omega | (simp [hg] <;> fail) | assumption) [hg, hn, hl', r1, r2, r3, r4, hcc, bRows]
 ·rw [← bOb_bT hs]
  exact WriteString_run Γ M hc gs rest [] s h r (.inr hs) (by simp; omega)
def StrA (g : St → Option (List AV × List (Nat × Obj))) : Prop := ∀ gs rest t, GsOk gs → RestOk rest → t.length ≤ 1000000 →
 g ⟨(0, .loc kB 0 0) :: gs, bT t rest⟩ = some ([st t], if t = [] then bT t rest else (kB, ⟨2, [[.loc kB 0 0, .sl kt_buf t.length 0 t.length]]⟩) :: rest)
theorem BString_runA (Γ : Env) (M : Nat) : StrA (runP Γ M strings_Builder_String_f) := by
 intro gs rest t h r hl
 by_cases ht : t = []
 ·subst ht
  obtain ⟨hg, hn, hl'⟩ := h
  obtain ⟨r1, r2, r3, r4⟩ := r
  simp only [bT, List.length_nil, if_true]
  simp -implicitDefEqProofs (disch := first | omega | (simp [hg] <;> fail) | assumption) [hg, hn, hl', r1, r2, r3, r4, bRows]
 ·rw [← bOb_bT ht, if_neg ht]
  exact BString_run Γ M gs rest t h r ht hl
end Go.Am.Cl
namespace Go.Am.Ct
@[simp] abbrev kB : Nat := kt_cols_Text_4
def bRows (t : List UInt8) : List (List AV) := t.map (toAV ∘ u8row)
def bOb (t : List UInt8) (rest : List (Nat × Obj)) : List (Nat × Obj) := match t with
 | [] => (kB, ⟨2, [[.ot .np, .nil 1]]⟩) :: rest
 | b :: r => (kB, ⟨2, [[.loc kB 0 0, .sl kt_buf (r.length + 1) 0 (r.length + 1)]]⟩) :: (kt_buf, ⟨1, bRows (b :: r)⟩) :: rest
structure RestOk (rest : List (Nat × Obj)) : Prop where
 dK : del rest kB = rest
 dB : del rest kt_buf = rest
 nB : nmOb kt_buf rest = true
 lB : lcOb kt_buf rest = true
structure GsOk (gs : List (Nat × AV)) : Prop where
 g : Gh gs
 nB : nmFr kt_buf gs = true
 lB : lcFr kt_buf gs = true
def CopyC (g : St → Option (List AV × List (Nat × Obj))) : Prop := ∀ gs rest v, Gh gs → del rest kB = rest →
 (g ⟨(0, .loc kB 0 0) :: gs, (kB, ⟨2, [[.ot .np, v]]⟩) :: rest⟩ = some ([], (kB, ⟨2, [[.loc kB 0 0, v]]⟩) :: rest) ∧ g ⟨(0, .loc kB 0 0) :: gs, (kB, ⟨2, [[.loc kB 0 0, v]]⟩) :: rest⟩ = some ([], (kB, ⟨2, [[.loc kB 0 0, v]]⟩) :: rest))
def CopyC7 (g : St → Option (List AV × List (Nat × Obj))) : Prop := ∀ gs ob v, Gh gs → get ob kB = some ⟨2, [[.loc kB 0 0, v]]⟩ → g ⟨(0, .loc kB 0 0) :: gs, ob⟩ = some ([], ob)
theorem copyCheck_run7 (Γ : Env) (M : Nat) : CopyC7 (runP Γ M strings_Builder_copyCheck_f) := by
 intro gs ob v hg hr
 simp only [kB, kt_cols_Text_4] at hr
 simp -implicitDefEqProofs (disch := first | omega | (simp [hg] <;> fail) | assumption) [hg, hr]
theorem copyCheck_run (Γ : Env) (M : Nat) : CopyC (runP Γ M strings_Builder_copyCheck_f) := by
 intro gs rest v hg hr
 constructor
 ·simp -implicitDefEqProofs (disch := first | omega | (simp [hg] <;> fail) | assumption) [hg, hr]
 ·simp -implicitDefEqProofs (disch := first | omega | (simp [hg] <;> fail) | assumption) [hg, hr]
theorem lcRow_u8 (k : Nat) (b : UInt8) : lcRow k (List.map AV.c (u8row b)) = true := rfl
def WrC (g : St → Option (List AV × List (Nat × Obj))) : Prop := ∀ gs rest t s, GsOk gs → RestOk rest → (t ≠ [] ∨ s ≠ []) → t.length + s.length ≤ 1000000 →
 g ⟨(0, .loc kB 0 0) :: (1, st s) :: gs, bOb t rest⟩ = some ([i64 s.length, .ot .ni], bOb (t ++ s) rest)
theorem WriteString_run (Γ : Env) (M : Nat) (hc : CopyC (Γ.pt 228)) : WrC (runP Γ M strings_Builder_WriteString_f) := by
 intro gs rest t s ⟨hg, hn, hl⟩ ⟨r1, r2, r3, r4⟩ hne hlen
 cases t with
 | nil =>
  obtain ⟨b, r, rfl⟩ : ∃ b r, s = b :: r := by cases s with | nil => simp at hne | cons b r => exact ⟨b, r, rfl⟩
  have hcc := fun gs h => (hc gs rest (.nil 1) h r1).1
  simp only [List.length_cons, List.length_nil] at hlen
  simp only [bOb, List.nil_append]
  simp -implicitDefEqProofs (disch := first | omega | (simp [hg] <;> fail) | assumption) [hg, hn, hl, r1, r2, r3, r4, hcc, bRows]
 | cons b r =>
  have hcc := fun gs h => (hc gs ((kt_buf, ⟨1, bRows (b :: r)⟩) :: rest) (.sl kt_buf (r.length + 1) 0 (r.length + 1)) h (by simp [r1])).2
  simp [bRows] at hcc
  simp only [List.length_cons] at hlen
  simp only [bOb, List.cons_append]
  have hcm : r.length + s.length + 1 = r.length + 1 + s.length := by omega
  simp -implicitDefEqProofs (disch := first | omega | (simp [hg] <;> fail) | assumption) [hg, hn, hl, r1, r2, r3, r4, hcc, bRows, lcRow_u8, hcm]
def WrC7 (g : St → Option (List AV × List (Nat × Obj))) : Prop := ∀ gs rest t s (o : Obj), GsOk gs → RestOk rest → nmRows kt_buf o.rows = true → lcRows kt_buf o.rows = true → t ≠ [] → t.length + s.length ≤ 1000000 →
 g ⟨(0, .loc kB 0 0) :: (1, st s) :: gs, (7, o) :: bOb t rest⟩ = some ([i64 s.length, .ot .ni], bOb (t ++ s) ((7, o) :: rest))
theorem WriteString_run7 (Γ : Env) (M : Nat) (hc : CopyC7 (Γ.pt 228)) : WrC7 (runP Γ M strings_Builder_WriteString_f) := by
 intro gs rest t s o ⟨hg, hn, hl⟩ ⟨r1, r2, r3, r4⟩ ho1 ho2 hne hlen
 cases t with
 | nil => exact (hne rfl).elim
 | cons b r =>
  have hcc := fun gs h => hc gs ((7, o) :: (kB, ⟨2, [[.loc kB 0 0, .sl kt_buf (r.length + 1) 0 (r.length + 1)]]⟩) :: (kt_buf, ⟨1, bRows (b :: r)⟩) :: rest) (.sl kt_buf (r.length + 1) 0 (r.length + 1)) h (by simp)
  simp [bRows] at hcc
  simp only [List.length_cons] at hlen
  simp only [bOb, List.cons_append]
  have hcm : r.length + s.length + 1 = r.length + 1 + s.length := by omega
  simp -implicitDefEqProofs (disch := first | omega | (simp [hg] <;> fail) | assumption) [hg, hn, hl, r1, r2, r3, r4, ho1, ho2, hcc, bRows, lcRow_u8, hcm]
theorem RestOk.seven {rest : List (Nat × Obj)} {o : Obj} (h : RestOk rest) (h1 : nmRows kt_buf o.rows = true) (h2 : lcRows kt_buf o.rows = true) : RestOk ((7, o) :: rest) :=
 ⟨by simp [h.dK], by simp [h.dB], by simp [h.nB, h1], by simp [h.lB, h2]⟩
def StrC (g : St → Option (List AV × List (Nat × Obj))) : Prop := ∀ gs rest t, GsOk gs → RestOk rest → t ≠ [] → t.length ≤ 1000000 →
 g ⟨(0, .loc kB 0 0) :: gs, bOb t rest⟩ = some ([st t], (kB, ⟨2, [[.loc kB 0 0, .sl kt_buf t.length 0 t.length]]⟩) :: rest)
attribute [-simp] isU8 isByte u8of
theorem u8le (a : UInt8) : (a.toNat : Int) ≤ 255 := by have := a.toNat_lt; omega
theorem allD_u8 (b : UInt8) : allD (List.map AV.c (u8row b)) = some (u8row b) := rfl
theorem isU8_all (r : List UInt8) : ∀ x ∈ List.map u8row r, isU8 x = true := by
 intro x hx
 have := u8row_all r
 rw [List.all_eq_true] at this
 exact this x hx
theorem u8comp : u8of ∘ u8row = id := funext fun b => by simp [u8row, u8of]
theorem isByte_row (b : UInt8) : isByte (u8row b) = true := by
 have := u8le b
 simp [u8row, isByte, this]
theorem isU8_row (b : UInt8) : isU8 (u8row b) = true := by
 have := isU8_all [b] (u8row b) (by simp)
 exact this
theorem u8of_row (b : UInt8) : u8of (u8row b) = b := congrFun u8comp b
theorem BString_run (Γ : Env) (M : Nat) : StrC (runP Γ M strings_Builder_String_f) := by
 intro gs rest t ⟨hg, hn, hl⟩ ⟨r1, r2, r3, r4⟩ hne hlen
 obtain ⟨b, r, rfl⟩ : ∃ b r, t = b :: r := by cases t with | nil => simp at hne | cons b r => exact ⟨b, r, rfl⟩
 simp only [List.length_cons] at hlen
 have hle : (r.length : Int) + 1 ≤ 9223372036854775807 := by omega
 simp only [bOb]
 simp -implicitDefEqProofs (disch := first | omega | (simp [hg] <;> fail) | assumption) [hg, hn, hl, r1, r2, r3, r4, bRows, allD_u8, u8comp, isU8_row, isByte_row, u8of_row, hle]
def CopyK (g : St → Option (List AV × List (Nat × Obj))) : Prop := ∀ gs rest v (K : Nat) (o : Obj), Gh gs → del rest kB = rest → K < 1000 →
 g ⟨(0, .loc kB 0 0) :: gs, (K, o) :: (kB, ⟨2, [[.ot .np, v]]⟩) :: rest⟩ = some ([], (kB, ⟨2, [[.loc kB 0 0, v]]⟩) :: (K, o) :: rest)
theorem copyCheck_runK (Γ : Env) (M : Nat) : CopyK (runP Γ M strings_Builder_copyCheck_f) := by
 intro gs rest v K o hg hr hK
 have n1 : ¬ K = kB := by simp only [kB, kt_cols_Text_4]; omega
 simp only [kB, kt_cols_Text_4] at n1
 simp -implicitDefEqProofs (disch := first | omega | (simp [hg] <;> fail) | assumption) [hg, hr, n1]
def WrK (g : St → Option (List AV × List (Nat × Obj))) : Prop := ∀ gs rest t s (K : Nat) (o : Obj), GsOk gs → RestOk rest → K < 1000 → nmRows kt_buf o.rows = true → lcRows kt_buf o.rows = true → (t ≠ [] ∨ s ≠ []) → t.length + s.length ≤ 1000000 →
 g ⟨(0, .loc kB 0 0) :: (1, st s) :: gs, (K, o) :: bOb t rest⟩ = some ([i64 s.length, .ot .ni], bOb (t ++ s) ((K, o) :: rest))
theorem WriteString_runK (Γ : Env) (M : Nat) (hc : CopyC7 (Γ.pt 228)) (hk : CopyK (Γ.pt 228)) : WrK (runP Γ M strings_Builder_WriteString_f) := by
 intro gs rest t s K o ⟨hg, hn, hl⟩ ⟨r1, r2, r3, r4⟩ hK ho1 ho2 hne hlen
 have n1 : ¬ K = kB := by simp only [kB, kt_cols_Text_4]; omega
 have n2 : ¬ K = kt_buf := by simp only [kt_buf]; omega
 simp only [kB, kt_cols_Text_4, kt_buf] at n1 n2
 have n2' : ¬ kt_buf = K := by simp only [kt_buf]; omega
 cases t with
 | nil =>
  obtain ⟨b, r, rfl⟩ : ∃ b r, s = b :: r := by cases s with | nil => simp at hne | cons b r => exact ⟨b, r, rfl⟩
  have hcc := fun gs h => hk gs rest (.nil 1) K o h r1 hK
  simp only [List.length_cons, List.length_nil] at hlen
  simp only [bOb, List.nil_append]
  simp -implicitDefEqProofs (disch := first | omega | (simp [hg] <;> fail) | assumption) [hg, hn, hl, r1, r2, r3, r4, ho1, ho2, hcc, bRows, n1, n2]
 | cons b r =>
  have hcc := fun gs h => hc gs ((K, o) :: (kB, ⟨2, [[.loc kB 0 0, .sl kt_buf (r.length + 1) 0 (r.length + 1)]]⟩) :: (kt_buf, ⟨1, bRows (b :: r)⟩) :: rest) (.sl kt_buf (r.length + 1) 0 (r.length + 1)) h (by simp [n1])
  simp [bRows] at hcc
  simp only [List.length_cons] at hlen
  simp only [bOb, List.cons_append]
  have hcm : r.length + s.length + 1 = r.length + 1 + s.length := by omega
  simp -implicitDefEqProofs (disch := first | omega | (simp [hg] <;> fail) | assumption) [hg, hn, hl, r1, r2, r3, r4, ho1, ho2, hcc, bRows, lcRow_u8, hcm, n1, n2]
def StrC0 (g : St → Option (List AV × List (Nat × Obj))) : Prop := ∀ gs rest, Gh gs → g ⟨(0, .loc kB 0 0) :: gs, bOb [] rest⟩ = some ([st []], bOb [] rest)
theorem BString_run0 (Γ : Env) (M : Nat) : StrC0 (runP Γ M strings_Builder_String_f) := by
 intro gs rest hg
 simp only [bOb]
 simp -implicitDefEqProofs (disch := first | omega | (simp [hg] <;> fail) | assumption) [hg]
end Go.Am.Ct
namespace Go.Am.Ct
def bT (t : List UInt8) (rest : List (Nat × Obj)) : List (Nat × Obj) := (kB, ⟨2, [[.loc kB 0 0, .sl kt_buf t.length 0 t.length]]⟩) :: (kt_buf, ⟨1, bRows t⟩) :: rest
def bN (rest : List (Nat × Obj)) : List (Nat × Obj) := (kB, ⟨2, [[.ot .np, .nil 1]]⟩) :: rest
theorem bOb_bT {t : List UInt8} (h : t ≠ []) (rest : List (Nat × Obj)) : bOb t rest = bT t rest := by
 cases t with
 | nil => exact (h rfl).elim
 | cons b r => rfl
def WrA (g : St → Option (List AV × List (Nat × Obj))) : Prop := ∀ gs rest t s, GsOk gs → RestOk rest → t.length + s.length ≤ 1000000 →
 g ⟨(0, .loc kB 0 0) :: (1, st s) :: gs, bT t rest⟩ = some ([i64 s.length, .ot .ni], bT (t ++ s) rest)
theorem WriteString_runA (Γ : Env) (M : Nat) (hc : CopyC (Γ.pt 228)) : WrA (runP Γ M strings_Builder_WriteString_f) := by
 intro gs rest t s h r hl
 by_cases ht : t = []
 ·subst ht
  have hcc := fun gs h => (hc gs ((kt_buf, ⟨1, []⟩) :: rest) (.sl kt_buf 0 0 0) h (by simp [r.dK])).2
  obtain ⟨hg, hn, hl'⟩ := h
  obtain ⟨r1, r2, r3, r4⟩ := r
  have h0 : 0 + s.length = s.length := by omega
  simp only [bT, List.nil_append, List.length_nil]
  simp -implicitDefEqProofs (disch := first | omega | (simp [hg] <;> fail) | assumption) [hg, hn, hl', r1, r2, r3, r4, hcc, bRows]
 ·rw [← bOb_bT ht, ← bOb_bT (by simp [ht])]
  exact WriteString_run Γ M hc gs rest t s h r (.inl ht) hl
def WrN (g : St → Option (List AV × List (Nat × Obj))) : Prop := ∀ gs rest s, GsOk gs → RestOk rest → s.length ≤ 1000000 →
 g ⟨(0, .loc kB 0 0) :: (1, st s) :: gs, bN rest⟩ = some ([i64 s.length, .ot .ni], bT s rest)
theorem WriteString_runN (Γ : Env) (M : Nat) (hc : CopyC (Γ.pt 228)) : WrN (runP Γ M strings_Builder_WriteString_f) := by
 intro gs rest s h r hl
 by_cases hs : s = []
 ·subst hs
  have hcc := fun gs h => (hc gs rest (.nil 1) h r.dK).1
  obtain ⟨hg, hn, hl'⟩ := h
  obtain ⟨r1, r2, r3, r4⟩ := r
  simp only [bT, bN, List.length_nil]
  simp -implicitDefEqProofs (disch := first | omega | (simp [hg] <;> fail) | assumption) [hg, hn, hl', r1, r2, r3, r4, hcc, bRows]
 ·rw [← bOb_bT hs]
  exact WriteString_run Γ M hc gs rest [] s h r (.inr hs) (by simp; omega)
def StrA (g : St → Option (List AV × List (Nat × Obj))) : Prop := ∀ gs rest t, GsOk gs → RestOk rest → t.length ≤ 1000000 →
 g ⟨(0, .loc kB 0 0) :: gs, bT t rest⟩ = some ([st t], if t = [] then bT t rest else (kB, ⟨2, [[.loc kB 0 0, .sl kt_buf t.length 0 t.length]]⟩) :: rest)
theorem BString_runA (Γ : Env) (M : Nat) : StrA (runP Γ M strings_Builder_String_f) := by
 intro gs rest t h r hl
 by_cases ht : t = []
 ·subst ht
  obtain ⟨hg, hn, hl'⟩ := h
  obtain ⟨r1, r2, r3, r4⟩ := r
  simp only [bT, List.length_nil, if_true]
  simp -implicitDefEqProofs (disch := first | omega | (simp [hg] <;> fail) | assumption) [hg, hn, hl', r1, r2, r3, r4, bRows]
 ·rw [← bOb_bT ht, if_neg ht]
  exact BString_run Γ M gs rest t h r ht hl
end Go.Am.Ct
namespace Go.Am
open Cl in
theorem Cl.kfT (t : List UInt8) (os : List Nat) (h : kt_cols_Line_5 ∈ os) : keepF 0 1000 os (bT t []) = bT t [] := by
 simp only [kt_cols_Line_5] at h
 simp [bT, h]
open Cl in
theorem Cl.kfN (os : List Nat) (h : kt_cols_Line_5 ∈ os) : keepF 0 1000 os (bN []) = bN [] := by
 simp only [kt_cols_Line_5] at h
 simp [bN, h]
open Ct in
theorem Ct.kfT (t : List UInt8) (os : List Nat) (h : kt_cols_Text_4 ∈ os) : keepF 0 1000 os (bT t []) = bT t [] := by
 simp only [kt_cols_Text_4] at h
 simp [bT, h]
open Ct in
theorem Ct.kfN (os : List Nat) (h : kt_cols_Text_4 ∈ os) : keepF 0 1000 os (bN []) = bN [] := by
 simp only [kt_cols_Text_4] at h
 simp [bN, h]
def LineC16 (g : List AV → Option (List AV)) : Prop := ∀ (ws : List Int) (r : TRow), ws.length ≤ 20 → (∀ x ∈ ws, -9223372036854775808 ≤ x ∧ x ≤ 100) → SmallR r → g [vN ws, vR r] = some [st (lineG ws r)]
section
open Cl
def bSL (ws : List Int) (r : TRow) : Nat → List (Nat × Obj)
 | 0 => bN []
 | k + 1 => bT (accG ws r (k + 1)) []
theorem kfS (ws : List Int) (r : TRow) (k : Nat) (os : List Nat) (h : kt_cols_Line_5 ∈ os) : keepF 0 1000 os (bSL ws r k) = bSL ws r k := by
 cases k with
 | zero => exact kfN os h
 | succ k => exact kfT _ os h
theorem cols_Line_run (Γ : Env) (M : Nat) (hM : 130 < M) (hW : WrA (Γ.pt 79)) (hWN : WrN (Γ.pt 79)) (hS : StrA (Γ.pt 69)) (hS0 : StrC0 (Γ.pt 69)) (hP : PadC (Γ 192)) (hT : TrimC2 (Γ 191)) : LineC16 (run Γ M cols_Line_f) := by
 intro ws r hwl hws hr
 have hfew := hr.few
 have hw100 : ∀ x ∈ ws, x ≤ 100 := fun x hx => (hws x hx).2
 have k0 := fun k => kfS ws r k [kt_cols_Line_5] (by simp)
 have k1 := fun t => kfT t [kt_cols_Line_5] (by simp)
 simp only [kt_cols_Line_5] at k0 k1
 obtain ⟨ax, s', ⟨rfl, rfl⟩, hin⟩ : ∃ ax s', (ax = .ex 0 ∧ s' = ⟨[(5, .loc kB 0 0)], bSL ws r r.length⟩) ∧ ∀ t, nrmP [0, 5, 9, 10, 11] 0 1000 [kt_cols_Line_5] t = ⟨[(0, vN ws), (5, .loc kB 0 0), (9, vR r), (10, i64 r.length), (11, i64 (0 : Nat))], bSL ws r 0⟩ → lp (exec Γ M cols_Line_l1) M t = some (ax, s') := by
  refine lp_allP (fun k : Nat => ⟨[(0, vN ws), (5, .loc kB 0 0), (9, vR r), (10, i64 r.length), (11, i64 k)], bSL ws r k⟩) (fun k => k ≤ r.length) (fun k => r.length - k) _ 0 M (by omega) (by omega) ?_
  intro k hk
  by_cases hlt : k < r.length
  ·obtain ⟨s, hs⟩ : ∃ t, r[k]'hlt = t := ⟨_, rfl⟩
   have hsl := hr.short s (hs ▸ List.getElem_mem hlt)
   have hgd : r.getD k [] = s := by rw [List.getD_eq_getElem?_getD, List.getElem?_eq_getElem hlt, hs]; rfl
   have hal := accG_len ws hw100 r hr k
   obtain ⟨w, hw⟩ : ∃ w, ws.getD k 0 = w := ⟨_, rfl⟩
   have hwb := getD_in (P := fun x => -9223372036854775808 ≤ x ∧ x ≤ 100) hws (by omega) k
   rw [hw] at hwb
   have hg : ∀ hh : k < ws.length, ws[k]'hh = w := fun hh => by rw [← hw, List.getD_eq_getElem?_getD, List.getElem?_eq_getElem hh]; rfl
   have hz : ¬ k < ws.length → w = 0 := fun hh => by rw [← hw, List.getD_eq_getElem?_getD, List.getElem?_eq_none (by omega)]; rfl
   cases k with
   | zero =>
    have hacc : accG ws r 1 = s ++ padL [] (wrapK .i64 (w - s.length)) := by
     rw [accG, accG, hgd]; unfold cellG; rw [if_pos rfl, hw]; simp
    obtain ⟨z, hzz⟩ : ∃ z, wrapK .i64 (w - s.length) = z := ⟨_, rfl⟩
    have hzb : -9223372036854775808 ≤ z ∧ z ≤ 9223372036854775807 := by
     rw [← hzz]; unfold wrapK; rw [IntKind.wrap_i64]; omega
    have hp := hP [] z (by simp) hzb.2 hzb.1
    have hpl := padL_len [] z
    rw [hzz] at hacc
    have h1 := fun gs h1 h2 h3 => hWN gs [] s ⟨h1, h2, h3⟩ ⟨rfl, rfl, rfl, rfl⟩ (by omega)
    have h2 := fun gs h1 h2 h3 => hW gs [] s (padL [] z) ⟨h1, h2, h3⟩ ⟨rfl, rfl, rfl, rfl⟩ (by simp at hpl; omega)
    have hb0 : bSL ws r 0 = bN [] := rfl
    have hb1 : bT (s ++ padL [] z) [] = bSL ws r 1 := by rw [← hacc]; rfl
    rw [hb1] at h2
    rw [hb0]
    simp only [kB, kt_cols_Line_5, kt_buf] at h1 h2
    have kn := kfN [kt_cols_Line_5] (by simp)
    simp only [kt_cols_Line_5] at kn
    generalize padL [] z = P at *
    by_cases c : 0 < ws.length
    ·have hgc := hg c
     simp -implicitDefEqProofs (disch := first | omega | (simp <;> fail) | assumption) [hlt, hs, txQ, c, hgc, numQ, h1, h2, hp, k0, k1, kn, hzz]
     exact ⟨1, ⟨by simp, rfl⟩, by omega, by omega⟩
    ·obtain rfl := hz c
     have hz2 : z = -(s.length : Int) := by rw [← hzz, wrapK_i64 (by omega) (by omega)]; omega
     subst hz2
     simp -implicitDefEqProofs (disch := first | omega | (simp <;> fail) | assumption) [hlt, hs, txQ, c, h1, h2, hp, k0, k1, kn]
     exact ⟨1, ⟨by simp, rfl⟩, by omega, by omega⟩
   | succ k =>
    have hacc : accG ws r (k + 2) = accG ws r (k + 1) ++ [32, 32] ++ padL s w := by
     rw [accG, hgd]; unfold cellG; rw [if_neg (by omega), hw, List.append_assoc]
    have hp := hP s w (by omega) (by omega) (by omega)
    have hpl := padL_len s w
    have h1 := fun gs h1 h2 h3 => hW gs [] (accG ws r (k + 1)) [32, 32] ⟨h1, h2, h3⟩ ⟨rfl, rfl, rfl, rfl⟩ (by simp; omega)
    have h2 := fun gs h1 h2 h3 => hW gs [] (accG ws r (k + 1) ++ [32, 32]) (padL s w) ⟨h1, h2, h3⟩ ⟨rfl, rfl, rfl, rfl⟩ (by simp; omega)
    have hb0 : bSL ws r (k + 1) = bT (accG ws r (k + 1)) [] := rfl
    have hb1 : bT (accG ws r (k + 1) ++ [32, 32] ++ padL s w) [] = bSL ws r (k + 2) := by rw [← hacc]; rfl
    rw [hb1] at h2
    rw [hb0]
    simp only [kB, kt_cols_Line_5, kt_buf] at h1 h2
    generalize padL s w = P at *
    generalize accG ws r (k + 1) = A at *
    by_cases c : k + 1 < ws.length
    ·have hgc := hg c
     simp -implicitDefEqProofs (disch := first | omega | (simp <;> fail) | assumption) [hlt, hs, txQ, c, hgc, numQ, h1, h2, hp, k0, k1]
     exact ⟨k + 2, ⟨by omega, rfl⟩, by omega, by omega⟩
    ·obtain rfl := hz c
     simp -implicitDefEqProofs (disch := first | omega | (simp <;> fail) | assumption) [hlt, hs, txQ, c, h1, h2, hp, k0, k1]
     exact ⟨k + 2, ⟨by omega, rfl⟩, by omega, by omega⟩
  ·obtain rfl : k = r.length := by omega
   simp -implicitDefEqProofs (disch := first | omega | assumption) [k0]
 have hlp := hin ⟨[(0, vN ws), (5, .loc kB 0 0), (9, vR r), (10, i64 r.length), (11, i64 (0 : Nat))], bN []⟩ (by
  have kn := kfN [kt_cols_Line_5] (by simp)
  simp only [kt_cols_Line_5] at kn
  simp [kn, bSL])
 simp only [bN, kB, kt_cols_Line_5] at hlp
 have hal := accG_len ws hw100 r hr r.length
 have hT1 := hT (accG ws r r.length) (by omega)
 unfold lineG
 rcases Nat.eq_zero_or_pos r.length with h0 | h0
 ·have hs0 := fun gs h1 => hS0 gs [] h1
  have ha : accG ws r r.length = [] := by rw [h0]; rfl
  have hb : bSL ws r r.length = bOb [] [] := by rw [h0]; rfl
  rw [ha] at hT1 ⊢
  rw [hb] at hlp
  simp only [bOb, kB, kt_cols_Line_5] at hs0 hlp
  simp at hlp
  simp -implicitDefEqProofs (disch := first | omega | (simp <;> fail) | assumption) [hlp, hs0, hT1]
 ·obtain ⟨n, hn⟩ : ∃ n, r.length = n + 1 := ⟨r.length - 1, by omega⟩
  have hs0 := fun gs h1 h2 h3 => hS gs [] (accG ws r r.length) ⟨h1, h2, h3⟩ ⟨rfl, rfl, rfl, rfl⟩ (by omega)
  have hb : bSL ws r r.length = bT (accG ws r r.length) [] := by rw [hn]; rfl
  rw [hb] at hlp
  simp only [kB, kt_cols_Line_5, kt_buf] at hs0 hlp
  generalize accG ws r r.length = A at *
  simp at hlp
  by_cases hA : A = []
  ·rw [if_pos hA] at hs0
   simp -implicitDefEqProofs (disch := first | omega | (simp <;> fail) | assumption) [hlp, hs0, hT1, k1]
  ·simp only [if_neg hA] at hs0
   simp -implicitDefEqProofs (disch := first | omega | (simp <;> fail) | assumption) [hlp, hs0, hT1, k1]
end
def linesG (ws : List Int) (rs : List TRow) : List UInt8 := rs.flatMap fun r => lineG ws r ++ [10]
def TextC16 (g : List AV → Option (List AV)) : Prop := ∀ rs : List TRow, Small rs → g [vRs rs] = some [st (linesG (wid rs) rs)]
theorem wid_in {rs : List TRow} (h : Small rs) : ∀ x ∈ wid rs, 0 ≤ x ∧ x ≤ 60 := by
 intro x hx
 rw [wid_cols] at hx
 obtain ⟨k, -, rfl⟩ := List.mem_map.1 hx
 exact colF_bound rs 0 (by omega) h.rows
theorem linesG_len (ws : List Int) (hw : ∀ x ∈ ws, 0 ≤ x ∧ x ≤ 60) : ∀ rs : List TRow, (∀ r ∈ rs, SmallR r) → (linesG ws rs).length ≤ 3241 * rs.length
 | [], _ => by simp [linesG]
 | r :: rs, h => by
  have h1 := linesG_len ws hw rs fun x hx => h x (by simp [hx])
  have h2 := lineW_len ws (fun x hx => by have := hw x hx; omega) r (h r (by simp))
  rw [← lineG_eq ws (fun x hx => by have := hw x hx; omega) r (h r (by simp))] at h2
  have : linesG ws (r :: rs) = (lineG ws r ++ [10]) ++ linesG ws rs := by unfold linesG; rw [List.flatMap_cons]
  rw [this]; simp only [List.length_append, List.length_cons, List.length_nil]; omega
theorem linesG_snoc (ws : List Int) (l : List TRow) (r : TRow) : linesG ws (l ++ [r]) = linesG ws l ++ lineG ws r ++ [10] := by
 unfold linesG; simp [List.flatMap_append]
section
open Ct
def bST (ws : List Int) (rs : List TRow) : Nat → List (Nat × Obj)
 | 0 => bN []
 | k + 1 => bT (linesG ws (rs.take (k + 1))) []
theorem kfST (ws : List Int) (r : List TRow) (k : Nat) (os : List Nat) (h : kt_cols_Text_4 ∈ os) : keepF 0 1000 os (bST ws r k) = bST ws r k := by
 cases k with
 | zero => exact kfN os h
 | succ k => exact kfT _ os h
theorem cols_Text_run (Γ : Env) (M : Nat) (hM : 130 < M) (hW : WrA (Γ.pt 79)) (hWN : WrN (Γ.pt 79)) (hS : StrA (Γ.pt 69)) (hS0 : StrC0 (Γ.pt 69)) (hL : LineC16 (Γ 187)) (hD : WidthsC (Γ 181)) : TextC16 (run Γ M cols_Text_f) := by
 intro rs hrs
 have hfew := hrs.few
 have hwi := wid_in hrs
 have hwl : (wid rs).length ≤ 20 := by rw [wid_len]; exact nCols_small hrs
 have hwd := hD rs hrs
 obtain ⟨ws, hws⟩ : ∃ ws, wid rs = ws := ⟨_, rfl⟩
 rw [hws] at hwi hwl hwd ⊢
 have k0 := fun k => kfST ws rs k [kt_cols_Text_4] (by simp)
 have k1 := fun t => kfT t [kt_cols_Text_4] (by simp)
 simp only [kt_cols_Text_4] at k0 k1
 obtain ⟨ax, s', ⟨rfl, rfl⟩, hin⟩ : ∃ ax s', (ax = .ex 0 ∧ s' = ⟨[(4, .loc kB 0 0)], bST ws rs rs.length⟩) ∧ ∀ t, nrmP [3, 4, 9, 10, 11] 0 1000 [kt_cols_Text_4] t = ⟨[(3, vN ws), (4, .loc kB 0 0), (9, vRs rs), (10, i64 rs.length), (11, i64 (0 : Nat))], bST ws rs 0⟩ → lp (exec Γ M cols_Text_l1) M t = some (ax, s') := by
  refine lp_allP (fun k : Nat => ⟨[(3, vN ws), (4, .loc kB 0 0), (9, vRs rs), (10, i64 rs.length), (11, i64 k)], bST ws rs k⟩) (fun k => k ≤ rs.length) (fun k => rs.length - k) _ 0 M (by omega) (by omega) ?_
  intro k hk
  by_cases hlt : k < rs.length
  ·obtain ⟨r, hr⟩ : ∃ t, rs[k]'hlt = t := ⟨_, rfl⟩
   have hrr := hrs.rows r (hr ▸ List.getElem_mem hlt)
   have hl := hL ws r hwl (fun x hx => by have := hwi x hx; omega) hrr
   have hll := lineW_len ws (fun x hx => by have := hwi x hx; omega) r hrr
   rw [← lineG_eq ws (fun x hx => by have := hwi x hx; omega) r hrr] at hll
   have hal := linesG_len ws hwi (rs.take k) fun x hx => hrs.rows x (List.mem_of_mem_take hx)
   have htk : linesG ws (rs.take (k + 1)) = linesG ws (rs.take k) ++ lineG ws r ++ [10] := by rw [List.take_succ_eq_append_getElem hlt, hr, linesG_snoc]
   rw [List.length_take] at hal
   have hb1 : bT (linesG ws (rs.take k) ++ lineG ws r ++ [10]) [] = bST ws rs (k + 1) := by rw [← htk]; rfl
   have h2 := fun gs h1 h2 h3 => hW gs [] (linesG ws (rs.take k) ++ lineG ws r) [10] ⟨h1, h2, h3⟩ ⟨rfl, rfl, rfl, rfl⟩ (by simp; omega)
   rw [hb1] at h2
   cases k with
   | zero =>
    have hl0 : linesG ws (rs.take 0) = [] := rfl
    rw [hl0, List.nil_append] at h2
    have h1 := fun gs h1 h2 h3 => hWN gs [] (lineG ws r) ⟨h1, h2, h3⟩ ⟨rfl, rfl, rfl, rfl⟩ (by omega)
    have hb0 : bST ws rs 0 = bN [] := rfl
    rw [hb0]
    have kn := kfN [kt_cols_Text_4] (by simp)
    simp only [kB, kt_cols_Text_4, kt_buf] at h1 h2 kn
    generalize lineG ws r = L at *
    simp -implicitDefEqProofs (disch := first | omega | (simp <;> fail) | assumption) [hlt, hr, rowQ, h1, h2, hl, k0, k1, kn]
    exact ⟨1, ⟨by simp, rfl⟩, by omega, by omega⟩
   | succ k =>
    have h1 := fun gs h1 h2 h3 => hW gs [] (linesG ws (rs.take (k + 1))) (lineG ws r) ⟨h1, h2, h3⟩ ⟨rfl, rfl, rfl, rfl⟩ (by omega)
    have hb0 : bST ws rs (k + 1) = bT (linesG ws (rs.take (k + 1))) [] := rfl
    rw [hb0]
    simp only [kB, kt_cols_Text_4, kt_buf] at h1 h2
    generalize lineG ws r = L at *
    generalize linesG ws (rs.take (k + 1)) = A at *
    simp -implicitDefEqProofs (disch := first | omega | (simp <;> fail) | assumption) [hlt, hr, rowQ, h1, h2, hl, k0, k1]
    exact ⟨k + 2, ⟨by omega, rfl⟩, by omega, by omega⟩
  ·obtain rfl : k = rs.length := by omega
   simp -implicitDefEqProofs (disch := first | omega | assumption) [k0]
 have hlp := hin ⟨[(3, vN ws), (4, .loc kB 0 0), (9, vRs rs), (10, i64 rs.length), (11, i64 (0 : Nat))], bN []⟩ (by
  have kn := kfN [kt_cols_Text_4] (by simp)
  simp only [kt_cols_Text_4] at kn
  simp [kn, bST])
 simp only [bN, kB, kt_cols_Text_4] at hlp
 have hal := linesG_len ws hwi rs hrs.rows
 rcases Nat.eq_zero_or_pos rs.length with h0 | h0
 ·have hs0 := fun gs h1 => hS0 gs [] h1
  obtain rfl := List.eq_nil_of_length_eq_zero h0
  have hb : bST ws [] 0 = bOb [] [] := rfl
  rw [List.length_nil, hb] at hlp
  simp only [bOb, kB, kt_cols_Text_4] at hs0 hlp
  simp at hlp
  have hwd2 : Γ 181 [.c (.vs 1 [])] = some [vN ws] := hwd
  simp -implicitDefEqProofs (disch := first | omega | (simp <;> fail) | assumption) [hlp, hs0, hwd2, linesG]
 ·obtain ⟨n, hn⟩ : ∃ n, rs.length = n + 1 := ⟨rs.length - 1, by omega⟩
  have hs0 := fun gs h1 h2 h3 => hS gs [] (linesG ws rs) ⟨h1, h2, h3⟩ ⟨rfl, rfl, rfl, rfl⟩ (by omega)
  have hb : bST ws rs rs.length = bT (linesG ws rs) [] := by rw [hn, bST, ← hn, List.take_length]
  rw [hb] at hlp
  simp only [kB, kt_cols_Text_4, kt_buf] at hs0 hlp
  generalize linesG ws rs = A at *
  simp at hlp
  by_cases hA : A = []
  ·rw [if_pos hA] at hs0
   simp -implicitDefEqProofs (disch := first | omega | (simp <;> fail) | assumption) [hlp, hs0, hwd, k1]
  ·simp only [if_neg hA] at hs0
   simp -implicitDefEqProofs (disch := first | omega | (simp <;> fail) | assumption) [hlp, hs0, hwd, k1]
end
end Go.Am
namespace Go.Am
def RLineC16 (g : List AV → Option (List AV)) : Prop := ∀ (ws : List Int) (r : TRow), ws.length ≤ 20 → (∀ x ∈ ws, 0 ≤ x ∧ x ≤ 100) → SmallR r → g [vN ws, vR r] = some [st (lineW ws r)]
theorem ref16_Line_run (Γ : Env) (M : Nat) (hM : 3300 < M) (hB : BlanksC (Γ 193)) : RLineC16 (run Γ M ref16_Line_f) := by
 intro ws r hwl hws hr
 have hfew := hr.few
 have hw100 : ∀ x ∈ ws, x ≤ 100 := fun x hx => (hws x hx).2
 obtain ⟨ax, s', ⟨rfl, rfl⟩, hin⟩ : ∃ ax s', (ax = .ex 0 ∧ s' = ⟨[(5, st (accT ws r r.length))], []⟩) ∧ ∀ t, nrm [0, 1, 5, 6] [] t = ⟨[(0, vN ws), (1, vR r), (5, st (accT ws r 0)), (6, i64 (0 : Nat))], []⟩ → lp (exec Γ M ref16_Line_l2) M t = some (ax, s') := by
  refine lp_all (fun k : Nat => ⟨[(0, vN ws), (1, vR r), (5, st (accT ws r k)), (6, i64 k)], []⟩) (fun k => k ≤ r.length) (fun k => r.length - k) _ 0 M (by simp) (by omega) (by omega) ?_
  intro k hk
  by_cases hlt : k < r.length
  ·obtain ⟨s, hs⟩ : ∃ t, r[k]'hlt = t := ⟨_, rfl⟩
   have hsl := hr.short s (hs ▸ List.getElem_mem hlt)
   have hgd : r.getD k [] = s := by rw [List.getD_eq_getElem?_getD, List.getElem?_eq_getElem hlt, hs]; rfl
   have hal := accT_len ws hw100 r hr k
   obtain ⟨w, hw⟩ : ∃ w, ws.getD k 0 = w := ⟨_, rfl⟩
   have hwb := getD_in (P := fun x => 0 ≤ x ∧ x ≤ 100) hws (by omega) k
   rw [hw] at hwb
   have hg : ∀ hh : k < ws.length, ws[k]'hh = w := fun hh => by rw [← hw, List.getD_eq_getElem?_getD, List.getElem?_eq_getElem hh]; rfl
   have hz : ¬ k < ws.length → w = 0 := fun hh => by rw [← hw, List.getD_eq_getElem?_getD, List.getElem?_eq_none (by omega)]; rfl
   have hb := hB (w - s.length) (by omega)
   have hbl := bl_len (w - s.length)
   have hacc : accT ws r (k + 1) = accT ws r k ++ if k = 0 then s ++ bl (w - s.length) else [32, 32] ++ bl (w - s.length) ++ s := by
    rw [accT, hgd]; unfold cellT; rw [hw]
   generalize accT ws r k = A at *
   generalize hBB : bl (w - s.length) = B at *
   by_cases k0 : k = 0
   ·rw [if_pos k0] at hacc
    subst k0
    by_cases c : 0 < ws.length
    ·have hgc := hg c
     simp -implicitDefEqProofs (disch := first | omega | ((try simp only [List.length_append, List.length_cons, List.length_nil, maxStr_eq]); omega) | (simp <;> fail) | assumption) [hlt, hs, txQ, c, hgc, numQ, hb, binS_add]
     exact ⟨1, ⟨by rw [hacc], by simp⟩, by omega, by omega⟩
    ·obtain rfl := hz c
     have hb2 : Γ 193 [i64 (-(s.length : Int))] = some [st B] := by rw [← hb]; congr 4; omega
     simp -implicitDefEqProofs (disch := first | omega | ((try simp only [List.length_append, List.length_cons, List.length_nil, maxStr_eq]); omega) | (simp <;> fail) | assumption) [hlt, hs, txQ, c, hb2, binS_add]
     exact ⟨1, ⟨by rw [hacc], by simp⟩, by omega, by omega⟩
   ·rw [if_neg k0] at hacc
    have k0' : ¬ (k : Int) = 0 := by omega
    by_cases c : k < ws.length
    ·have hgc := hg c
     simp -implicitDefEqProofs (disch := first | omega | ((try simp only [List.length_append, List.length_cons, List.length_nil, maxStr_eq]); omega) | (simp <;> fail) | assumption) [hlt, hs, txQ, c, hgc, numQ, hb, k0, k0', binS_add]
     exact ⟨k + 1, ⟨by rw [hacc]; simp, by omega⟩, by omega, by omega⟩
    ·obtain rfl := hz c
     have hb2 : Γ 193 [i64 (-(s.length : Int))] = some [st B] := by rw [← hb]; congr 4; omega
     simp -implicitDefEqProofs (disch := first | omega | ((try simp only [List.length_append, List.length_cons, List.length_nil, maxStr_eq]); omega) | (simp <;> fail) | assumption) [hlt, hs, txQ, c, hb2, k0, k0', binS_add]
     exact ⟨k + 1, ⟨by rw [hacc]; simp, by omega⟩, by omega, by omega⟩
  ·obtain rfl : k = r.length := by omega
   simp -implicitDefEqProofs (disch := first | omega | assumption)
 have hlp : lp (exec Γ M ref16_Line_l2) M ⟨[(0, vN ws), (1, vR r), (5, st []), (6, .c (.int .i64 0))], []⟩ = some (.ex 0, ⟨[(5, st (accT ws r r.length))], []⟩) := hin _ (by simp [accT])
 have hal := accT_len ws hw100 r hr r.length
 have hlp2 : lp (exec Γ M ref16_Line_l1) M ⟨[(5, st (accT ws r r.length))], []⟩ = some (.ex 2, ⟨[(5, st (trimR (accT ws r r.length)))], []⟩) := rtrim_lp Γ M hM (accT ws r r.length) (by omega) _ (by simp)
 unfold lineW
 generalize accT ws r r.length = A at *
 simp -implicitDefEqProofs (disch := first | omega | assumption) [hlp, hlp2]
def linesW (ws : List Int) (rs : List TRow) : List UInt8 := rs.flatMap fun r => lineW ws r ++ [10]
theorem linesW_snoc (ws : List Int) (l : List TRow) (r : TRow) : linesW ws (l ++ [r]) = linesW ws l ++ (lineW ws r ++ [10]) := by
 unfold linesW; simp [List.flatMap_append]
theorem linesG_eq (ws : List Int) (hw : ∀ x ∈ ws, 0 ≤ x ∧ x ≤ 60) (rs : List TRow) (h : ∀ r ∈ rs, SmallR r) : linesG ws rs = linesW ws rs := by
 unfold linesG linesW
 rw [List.flatMap_def, List.flatMap_def]
 congr 1
 exact List.map_congr_left fun r hr => by rw [lineG_eq ws (fun x hx => by have := hw x hx; omega) r (h r hr)]
theorem ref16_Text_run (Γ : Env) (M : Nat) (hM : 130 < M) (hL : RLineC16 (Γ 189)) (hD : WidthsC (Γ 182)) : TextC16 (run Γ M ref16_Text_f) := by
 intro rs hrs
 have hfew := hrs.few
 have hwi := wid_in hrs
 have hwl : (wid rs).length ≤ 20 := by rw [wid_len]; exact nCols_small hrs
 have hwd := hD rs hrs
 have hle := linesG_len (wid rs) hwi
 rw [linesG_eq _ hwi rs hrs.rows]
 obtain ⟨ws, hws⟩ : ∃ ws, wid rs = ws := ⟨_, rfl⟩
 rw [hws] at hwi hwl hwd hle ⊢
 obtain ⟨ax, s', ⟨rfl, rfl⟩, hin⟩ : ∃ ax s', (ax = .ex 0 ∧ s' = ⟨[(4, st (linesW ws rs))], []⟩) ∧ ∀ t, nrm [0, 3, 4, 5] [] t = ⟨[(0, vRs rs), (3, vN ws), (4, st (linesW ws (rs.take 0))), (5, i64 (0 : Nat))], []⟩ → lp (exec Γ M ref16_Text_l1) M t = some (ax, s') := by
  refine lp_all (fun k : Nat => ⟨[(0, vRs rs), (3, vN ws), (4, st (linesW ws (rs.take k))), (5, i64 k)], []⟩) (fun k => k ≤ rs.length) (fun k => rs.length - k) _ 0 M (by simp) (by omega) (by omega) ?_
  intro k hk
  by_cases hlt : k < rs.length
  ·obtain ⟨r, hr⟩ : ∃ t, rs[k]'hlt = t := ⟨_, rfl⟩
   have hrr := hrs.rows r (hr ▸ List.getElem_mem hlt)
   have hl := hL ws r hwl (fun x hx => by have := hwi x hx; omega) hrr
   have hll := lineW_len ws (fun x hx => by have := hwi x hx; omega) r hrr
   have htk : linesW ws (rs.take (k + 1)) = linesW ws (rs.take k) ++ (lineW ws r ++ [10]) := by rw [List.take_succ_eq_append_getElem hlt, hr, linesW_snoc]
   have hal := hle (rs.take k) fun x hx => hrs.rows x (List.mem_of_mem_take hx)
   rw [linesG_eq ws hwi _ (fun x hx => hrs.rows x (List.mem_of_mem_take hx)), List.length_take] at hal
   generalize lineW ws r = L at *
   generalize linesW ws (rs.take k) = A at *
   simp -implicitDefEqProofs (disch := first | omega | ((try simp only [List.length_append, List.length_cons, List.length_nil, maxStr_eq]); omega) | (simp <;> fail) | assumption) [hlt, hr, rowQ, hl, binS_add]
   exact ⟨k + 1, ⟨htk.symm, by omega⟩, by omega, by omega⟩
  ·obtain rfl : k = rs.length := by omega
   rw [List.take_length]
   simp -implicitDefEqProofs (disch := first | omega | assumption)
 have hlp : lp (exec Γ M ref16_Text_l1) M ⟨[(0, vRs rs), (3, vN ws), (4, st []), (5, .c (.int .i64 0))], []⟩ = some (.ex 0, ⟨[(4, st (linesW ws rs))], []⟩) := hin _ (by simp [linesW])
 simp -implicitDefEqProofs (disch := first | omega | assumption) [hwd, hlp]
theorem txq_row (r : List D) (h : All2 WT [.str] r) : ∃ t : List UInt8, r = txQ t ∧ True := by
 simp only [all2_cons, all2_nil, wt_str] at h
 obtain ⟨_, _, rfl, ⟨a, rfl, ha⟩, rfl⟩ := h
 exact ⟨a, rfl, trivial⟩
theorem rowq_row (r : List D) (h : All2 WT [.sl [.str]] r) : ∃ t : TRow, r = rowQ t ∧ True := by
 rw [all2_cons] at h
 obtain ⟨_, _, rfl, h1, h2⟩ := h
 rw [all2_nil] at h2
 rw [wt_sl] at h1
 subst h2
 obtain ⟨rows, rfl, hl, h⟩ := h1
 obtain ⟨ts, rfl, -⟩ := rows_map txq_row rows h
 exact ⟨ts, rfl, trivial⟩
theorem wt_rows {d : D} (h : WT (.sl [.sl [.str]]) d) : ∃ rs : List TRow, AV.c d = vRs rs := by
 rw [wt_sl] at h
 obtain ⟨rows, rfl, hl, h⟩ := h
 obtain ⟨ts, rfl, -⟩ := rows_map rowq_row rows h
 exact ⟨ts, rfl⟩
end Go.Am
