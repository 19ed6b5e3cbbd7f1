/- Digits: the text of a number, by the program and by the reference. -/
import Derived.Test.YtkhbfjmckgddeaaDoorDigitsCode
set_option linter.unusedVariables false
set_option linter.unusedSimpArgs false
namespace Go.Am
def dg (n : Int) : UInt8 := UInt8.ofNat (48 + n).toNat
/-- The digits of a number, at most k. -/
def digF : Nat → Int → List UInt8
  | 0, _ => []
  | k + 1, n => if n < 10 then [dg n] else digF k (n / 10) ++ [dg (n % 10)]
def dig (n : Int) : List UInt8 := digF 20 n
def Dec (k : Nat) (n : Int) : Prop := 0 ≤ n ∧ n < 10 ^ k ∧ n ≤ 18446744073709551615
theorem digF_more : ∀ (k j : Nat) (n : Int), Dec k n → 0 < k → digF (k + j) n = digF k n
  | 0, j, n, h, hk => by omega
  | k + 1, j, n, h, _ => by
    obtain ⟨h1, h2, h3⟩ := h
    rw [show k + 1 + j = (k + j) + 1 by omega]
    simp only [digF]
    split
    · rfl
    · rename_i h10
      rcases Nat.eq_zero_or_pos k with rfl | hk
      · simp at h2; omega
      · rw [digF_more k j (n / 10) ⟨by omega, by rw [Int.pow_succ] at h2; omega, by omega⟩ hk]
theorem digF_len : ∀ (k : Nat) (n : Int), (digF k n).length ≤ k
  | 0, n => by simp [digF]
  | k + 1, n => by
    simp only [digF]
    split
    · simp
    · have := digF_len k (n / 10); simp; omega

def Ref02_plain (k : Nat) (g : List AV → Option (List AV)) : Prop := ∀ n, Dec k n → g [u64 n] = some [st (digF k n)]
theorem ref02_plain_run {Γ : Env} {M k : Nat} (hk : k < 20) (h : 0 < k → Ref02_plain k (Γ 73)) : Ref02_plain (k + 1) (run Γ M ref02_plain_f) := by
  intro n hn
  obtain ⟨h1, h2, h3⟩ := hn
  by_cases h10 : n < 10
  · simp (disch := omega) [ref02_plain_f, ref02_plain_c, ref02_plain_r0, ref02_plain_r1, ref02_plain_r2, h10, digF, wrapK_u8, wrapK_u64, St.parts, AV.dcells, putParts, repl, splice, rowsOf, St.conv, St.view, isU8, u8of, dg]
  · have hk0 : 0 < k := by
      rcases Nat.eq_zero_or_pos k with rfl | hk
      · simp at h2; omega
      · exact hk
    have e := h hk0 (n / 10) ⟨by omega, by rw [Int.pow_succ] at h2; omega, by omega⟩
    have hl := digF_len k (n / 10)
    have hm : (digF k (n / 10)).length + 1 ≤ maxStr := by unfold maxStr; omega
    simp (disch := omega) [ref02_plain_f, ref02_plain_c, ref02_plain_r0, ref02_plain_r1, ref02_plain_r3, ref02_plain_r3q, h10, digF, wrapK_u8, wrapK_u64, tdivK_pos, tmodK_pos, e, St.parts, AV.dcells, putParts, repl, splice, rowsOf, St.conv, St.view, isU8, u8of, dg, hm]

def accV : Option (List UInt8) → AV
  | none => .nil 1
  | some l => .c (.vs 1 (l.map u8row))
theorem dg_toNat {d : Int} (h1 : 0 ≤ d) (h2 : d ≤ 9) : ((dg d).toNat : Int) = 48 + d := by
  unfold dg
  rw [UInt8.toNat_ofNat_of_lt' (by simp [UInt8.size]; omega)]
  omega
theorem u8row_all (l : List UInt8) : (l.map u8row).all isU8 = true := by
  induction l with
  | nil => rfl
  | cons b l ih => simp [u8row, isU8, ih]
theorem u8row_of (l : List UInt8) : (l.map u8row).map u8of = l := by
  induction l with
  | nil => rfl
  | cons b l ih => simp only [List.map_cons, ih]; simp [u8row, u8of]
theorem digits_loop {Γ : Env} {N M : Nat} (hM : 100 ≤ M) {n : Int} (hn : Dec 20 n) {s : St} (hs : nrm [0, 3, 4] [] s = ⟨[(0, u64 n), (3, .nil 1), (4, bo true)], []⟩) :
    ∃ ax s', lp (exec Γ N digits_plain_l1) M s = some (ax, s') ∧ ax = .ex 0 ∧ s' = ⟨[(3, accV (some (dig n)))], []⟩ := by
  refine lp_keep (fun q : Nat × Int × Option (List UInt8) => ⟨[(0, u64 q.2.1), (3, accV q.2.2), (4, bo (decide (0 < q.1)))], []⟩)
    (fun q => (0 < q.1 ∧ Dec q.1 q.2.1 ∧ (q.2.2.getD []).length + q.1 ≤ 20 ∧ digF q.1 q.2.1 ++ q.2.2.getD [] = dig n) ∨ (q.1 = 0 ∧ q.2.2 = some (dig n))) (fun q => q.1)
    (fun ax s' => ax = .ex 0 ∧ s' = ⟨[(3, accV (some (dig n)))], []⟩) ?_ (20, n, none) M s (.inl ⟨by omega, hn, by simp, by simp [dig]⟩) (by simpa [accV] using hs) (by simp; omega)
  rintro ⟨k, m, acc⟩ (⟨hk, ⟨h1, h2, h3⟩, hl, he⟩ | ⟨hk, rfl⟩)
  · simp only at hk h1 h2 h3 hl he
    obtain ⟨k, rfl⟩ : ∃ j, k = j + 1 := ⟨k - 1, by omega⟩
    have hd := dg_toNat (d := m % 10) (by omega) (by omega)
    have hroom : room (1 + (acc.getD []).length) 1 = true := by unfold room; simp; omega
    have hnext : ∀ j : Nat, (j = 0 ∧ m < 10 ∨ 0 < j ∧ j = k ∧ ¬ m < 10) → ∃ q' : Nat × Int × Option (List UInt8), q' = (j, m / 10, some (dg (m % 10) :: acc.getD [])) ∧
        ((0 < q'.1 ∧ Dec q'.1 q'.2.1 ∧ (q'.2.2.getD []).length + q'.1 ≤ 20 ∧ digF q'.1 q'.2.1 ++ q'.2.2.getD [] = dig n) ∨ (q'.1 = 0 ∧ q'.2.2 = some (dig n))) := by
      rintro j (⟨rfl, h10⟩ | ⟨hj, rfl, h10⟩)
      · refine ⟨_, rfl, .inr ⟨rfl, ?_⟩⟩
        simp only [digF, h10, if_true] at he
        rw [← he, show m % 10 = m by omega]; rfl
      · refine ⟨_, rfl, .inl ⟨hj, ⟨by simp; omega, by rw [Int.pow_succ] at h2; simp; omega, by simp; omega⟩, by simp at hl ⊢; omega, ?_⟩⟩
        simp only [digF, h10, if_false] at he
        rw [← he]; simp
    have hw : wrapK .u8 (48 + m % 10) = ((dg (m % 10)).toNat : Int) := by rw [hd, wrapK_u8 (by omega) (by omega)]
    have fin : ∀ b : Bool, b = decide (0 < m / 10) → ∃ q' : Nat × Int × Option (List UInt8), (⟨[(0, u64 (m / 10)), (3, accV (some (dg (m % 10) :: acc.getD []))), (4, bo b)], []⟩ : St) = ⟨[(0, u64 q'.2.1), (3, accV q'.2.2), (4, bo (decide (0 < q'.1)))], []⟩ ∧
        ((0 < q'.1 ∧ Dec q'.1 q'.2.1 ∧ (q'.2.2.getD []).length + q'.1 ≤ 20 ∧ digF q'.1 q'.2.1 ++ q'.2.2.getD [] = dig n) ∨ (q'.1 = 0 ∧ q'.2.2 = some (dig n))) ∧ q'.1 < k + 1 := by
      rintro b rfl
      by_cases h10 : m < 10
      · obtain ⟨q', rfl, hq⟩ := hnext 0 (.inl ⟨rfl, h10⟩)
        exact ⟨_, by simp; omega, hq, by simp⟩
      · have hk0 : 0 < k := by
          rcases Nat.eq_zero_or_pos k with rfl | hk
          · simp at h2; omega
          · exact hk
        obtain ⟨q', rfl, hq⟩ := hnext k (.inr ⟨hk0, rfl, h10⟩)
        exact ⟨_, by simp [hk0]; omega, hq, by simp⟩
    cases acc with
    | none =>
      simp at hroom
      simp (disch := omega) [digits_plain_l1b, digits_plain_r3, digits_plain_r4, digits_plain_r5, digits_plain_r6, accV, tdivK_pos, tmodK_pos, wrapK_u64, hw, LPost, nrm, hroom]
      obtain ⟨q', e, h4, h5⟩ := fin _ rfl
      exact ⟨q'.1, q'.2.1, q'.2.2, by simpa [accV, u8row] using e, h4, h5⟩
    | some l =>
      have hroom : room (1 + l.length) 1 = true := by simpa using hroom
      rw [Nat.add_comm] at hroom
      have hta : (l.map u8row).take l.length = l.map u8row := List.take_of_length_le (by simp)
      simp (disch := omega) [digits_plain_l1b, digits_plain_r3, digits_plain_r4, digits_plain_r5, digits_plain_r6, accV, tdivK_pos, tmodK_pos, wrapK_u64, hw, LPost, nrm, hroom, Nat.add_comm 1 l.length, hta]
      obtain ⟨q', e, h4, h5⟩ := fin _ rfl
      exact ⟨q'.1, q'.2.1, q'.2.2, by simpa [accV, u8row] using e, h4, h5⟩
  · simp only at hk
    subst hk
    simp [digits_plain_l1b, digits_plain_r3, LPost]

theorem InU64.dec {n : Int} (h : InU64 n) : Dec 20 n := by
  obtain ⟨h1, h2⟩ := h
  exact ⟨h1, by simp; omega, h2⟩
def Digits_plain (g : List AV → Option (List AV)) : Prop := ∀ n, InU64 n → g [u64 n] = some [st (dig n)]
theorem digits_plain_run (Γ : Env) {M : Nat} (hM : 100 ≤ M) : Digits_plain (run Γ M digits_plain_f) := by
  intro n hn
  have hl : ∀ s, nrm [0, 3, 4] [] s = ⟨[(0, u64 n), (3, .nil 1), (4, bo true)], []⟩ → lp (exec Γ M digits_plain_l1) M s = some (.ex 0, ⟨[(3, accV (some (dig n)))], []⟩) := fun s hs => by
    obtain ⟨ax, s', h1, rfl, rfl⟩ := digits_loop hM hn.dec hs
    exact h1
  have h1 := u8row_all (dig n)
  have h2 := u8row_of (dig n)
  have hc : ∀ s : St, s.conv .toStr (.c (.vs 1 ((dig n).map u8row))) = some (.str (dig n)) := fun s => by
    simp only [St.conv, St.view, h1, h2, if_true]
  simp (disch := first | omega | (simp [nrm] <;> fail) | assumption) [digits_plain_f, digits_plain_c, digits_plain_r0, digits_plain_r1, digits_plain_r2, digits_plain_r7, hl, accV, hc]
def sizeOfI (n : Int) : Int := if n < 0 then - n else n
def Size (g : List AV → Option (List AV)) : Prop := ∀ n, InI64 n → g [i64 n] = some [u64 (sizeOfI n)]
theorem notK_i64 {n : Int} (h : InI64 n) : notK .i64 n = -1 - n := by
  obtain ⟨h1, h2⟩ := h
  unfold notK bitsK
  simp only [IntKind.signed, if_true]
  have e : BitVec.ofInt IntKind.i64.bits (-1) = BitVec.allOnes IntKind.i64.bits := by decide
  rw [e, BitVec.allOnes_xor, IntKind.wrap_i64]
  have h64 : IntKind.i64.bits = 64 := rfl
  simp only [BitVec.toNat_not, BitVec.toNat_ofInt, h64]
  omega
theorem nums_Size_run (Γ : Env) {M : Nat} : Size (run Γ M nums_Size_f) := by
  intro n hn
  have hb := notK_i64 hn
  obtain ⟨h1, h2⟩ := hn
  by_cases h : n < 0
  · simp (disch := omega) [nums_Size_f, nums_Size_c, nums_Size_r0, nums_Size_r1, nums_Size_r2, h, sizeOfI, hb, St.conv, wrapK_u64]
    omega
  · simp (disch := omega) [nums_Size_f, nums_Size_c, nums_Size_r0, nums_Size_r1, nums_Size_r3, h, sizeOfI, St.conv, wrapK_u64]
theorem ref01_Size_run (Γ : Env) {M : Nat} : Size (run Γ M ref01_Size_f) := by
  intro n hn
  obtain ⟨h1, h2⟩ := hn
  by_cases h0 : n = -9223372036854775808
  · subst h0
    simp (disch := omega) [ref01_Size_f, ref01_Size_c, ref01_Size_r0, ref01_Size_r1, ref01_Size_r2, sizeOfI]
  by_cases h : n < 0
  · simp (disch := omega) [ref01_Size_f, ref01_Size_c, ref01_Size_r0, ref01_Size_r1, ref01_Size_r3, ref01_Size_r4, h0, h, sizeOfI, St.conv, wrapK_u64, wrapK_i64]
  · simp (disch := omega) [ref01_Size_f, ref01_Size_c, ref01_Size_r0, ref01_Size_r1, ref01_Size_r3, ref01_Size_r5, h0, h, sizeOfI, St.conv, wrapK_u64]
def txt (n : Int) : List UInt8 := if n < 0 then 45 :: dig (-n) else dig n
def Of (g : List AV → Option (List AV)) : Prop := ∀ n, InI64 n → g [i64 n] = some [st (txt n)]
theorem dig_len (n : Int) : (dig n).length ≤ 20 := digF_len 20 n
theorem digits_Text_run {Γ : Env} {M : Nat} (hp : Digits_plain (Γ 80)) (hs : Size (Γ 81)) : Of (run Γ M digits_Text_f) := by
  intro n hn
  have e := hs n hn
  obtain ⟨h1, h2⟩ := hn
  by_cases h : n < 0
  · have e2 := hp (-n) ⟨by omega, by omega⟩
    have := dig_len (-n)
    have hm : 1 + (dig (-n)).length ≤ maxStr := by unfold maxStr; omega
    simp only [sizeOfI, h, if_true] at e
    simp (disch := omega) [digits_Text_f, digits_Text_c, digits_Text_r0, digits_Text_r1, digits_Text_r2, h, txt, e, e2, hm]
  · have e2 := hp n ⟨by omega, by omega⟩
    simp (disch := omega) [digits_Text_f, digits_Text_c, digits_Text_r0, digits_Text_r1, digits_Text_r3, h, txt, e2, St.conv, wrapK_u64]
theorem ref02_Text_run {Γ : Env} {M : Nat} (hp : Ref02_plain 20 (Γ 73)) (hs : Size (Γ 74)) : Of (run Γ M ref02_Text_f) := by
  intro n hn
  have e := hs n hn
  obtain ⟨h1, h2⟩ := hn
  by_cases h : n < 0
  · have e2 := hp (-n) (InU64.dec ⟨by omega, by omega⟩)
    have := dig_len (-n)
    have hm : 1 + (dig (-n)).length ≤ maxStr := by unfold maxStr; omega
    simp only [sizeOfI, h, if_true] at e
    simp only [show digF 20 (-n) = dig (-n) from rfl] at e2
    simp (disch := omega) [ref02_Text_f, ref02_Text_c, ref02_Text_r0, ref02_Text_r1, ref02_Text_r2, h, txt, e, e2, hm]
  · have e2 := hp n (InU64.dec ⟨by omega, by omega⟩)
    simp only [show digF 20 n = dig n from rfl] at e2
    simp (disch := omega) [ref02_Text_f, ref02_Text_c, ref02_Text_r0, ref02_Text_r1, ref02_Text_r3, h, txt, e2, St.conv, wrapK_u64]
theorem digits_Of_run {Γ : Env} {M : Nat} (h : Of (Γ 72)) : Of (run Γ M digits_Of_f) := by
  intro n hn
  simp [digits_Of_f, digits_Of_c, digits_Of_r0, digits_Of_r1, h n hn, St.conv]
theorem ref02_Of_run {Γ : Env} {M : Nat} (h : Of (Γ 52)) : Of (run Γ M ref02_Of_f) := by
  intro n hn
  simp [ref02_Of_f, ref02_Of_c, ref02_Of_r0, ref02_Of_r1, h n hn, St.conv]
end Go.Am
