/- Law 42: bins, plain: how many are in each; numbers' texts are words, and are read back. -/
import Derived.Test.YtkhbfjmckgddeaaDoorDigits
import Derived.Test.YtkhbfjmckgddeaaDoorColsC
set_option linter.unusedVariables false
set_option linter.unusedSimpArgs false
set_option maxRecDepth 10000
set_option maxHeartbeats 1000000
namespace Go.Am
theorem dg_in {d : Int} (h0 : 0 ≤ d) (h : d ≤ 9) : 48 ≤ (dg d).toNat ∧ (dg d).toNat ≤ 57 := by
  have := dg_toNat h0 h; omega
theorem digF_in : ∀ (k : Nat) (n : Int), 0 ≤ n → ∀ b ∈ digF k n, 48 ≤ b.toNat ∧ b.toNat ≤ 57
  | 0, n, _, b, h => by simp [digF] at h
  | k + 1, n, h0, b, h => by
    simp only [digF] at h
    split at h
    · rw [List.mem_singleton] at h; subst h; exact dg_in h0 (by omega)
    · rw [List.mem_append] at h
      rcases h with h | h
      · exact digF_in k (n / 10) (by omega) b h
      · rw [List.mem_singleton] at h; subst h; exact dg_in (by omega) (by omega)
theorem digF_ne : ∀ (k : Nat) (n : Int), 0 < k → digF k n ≠ []
  | 0, n, h => by omega
  | k + 1, n, _ => by simp only [digF]; split <;> simp
theorem txt_word {n : Int} (h : 0 ≤ n) : txt n ≠ [] ∧ (32 : UInt8) ∉ txt n := by
  unfold txt; rw [if_neg (by omega)]
  refine ⟨digF_ne 20 n (by omega), fun hm => ?_⟩
  have := digF_in 20 n h _ hm
  simp at this
theorem txtL {n : Int} (h : 0 ≤ n) : (txt n).length ≤ 20 := by unfold txt; rw [if_neg (by omega)]; exact dig_len n
/-- The value of digits. -/
def valD (l : List UInt8) : Int := l.foldl (fun a b => 10 * a + ((b.toNat : Int) - 48)) 0
theorem valD_snoc (l : List UInt8) (b : UInt8) : valD (l ++ [b]) = 10 * valD l + ((b.toNat : Int) - 48) := by unfold valD; simp
theorem valD_take (l : List UInt8) (k : Nat) (h : k < l.length) : valD (l.take (k + 1)) = 10 * valD (l.take k) + ((l[k].toNat : Int) - 48) := by
  rw [List.take_succ_eq_append_getElem h, valD_snoc]
def goodD (n : Nat) : Bool := (dig n).length ≤ 3 && decide (valD (dig n) = n) && (decide ((dig n).length = 1) || decide ((dig n).head? ≠ some 48)) && (List.range 4).all fun k => decide (0 ≤ valD ((dig n).take k)) && decide (valD ((dig n).take k) ≤ 100)
theorem goodD_all : ∀ n, n < 101 → goodD n = true := by
  intro n h
  have : (List.range 101).all goodD = true := by decide +kernel
  exact List.all_eq_true.1 this n (List.mem_range.2 h)
/-- The bin of a number. -/
def binOf (b w x : Int) : Int := min (x / w) (b - 1)
def binC (b w : Int) (l : List Int) (i : Nat) : Nat := (l.filter fun x => decide (binOf b w x = i)).length
def binsL (b w : Int) (l : List Int) : List Int := (List.range b.toNat).map fun i => (binC b w l i : Int)
theorem binsL_len (b w : Int) (l : List Int) : (binsL b w l).length = b.toNat := by simp [binsL]
theorem binC_le (b w : Int) (l : List Int) (i : Nat) : binC b w l i ≤ l.length := List.length_filter_le _ _
theorem binOf_in {b w x : Int} (hb : 1 ≤ b) (hw : 1 ≤ w) (hx : 0 ≤ x) : 0 ≤ binOf b w x ∧ binOf b w x < b := by
  have h : 0 ≤ x / w := Int.ediv_nonneg hx (by omega)
  unfold binOf; omega
theorem binC_snoc (b w : Int) (l : List Int) (x : Int) (i : Nat) : binC b w (l ++ [x]) i = binC b w l i + if binOf b w x = i then 1 else 0 := by
  unfold binC; rw [List.filter_append, List.length_append]; congr 1
  by_cases c : binOf b w x = i <;> simp [c]
theorem binsL_snoc {b w : Int} (l : List Int) {x : Int} {j : Nat} (hj : binOf b w x = j) (hjb : j < b.toNat) : binsL b w (l ++ [x]) = (binsL b w l).set j ((binC b w l j : Int) + 1) := by
  apply List.ext_getElem
  · simp [binsL]
  · intro i h1 h2
    rw [List.getElem_set]
    simp only [binsL, List.getElem_map, List.getElem_range, binC_snoc, hj]
    by_cases c : j = i
    · subst c; simp
    · have : ¬ (j : Int) = i := by omega
      simp [c, this]
theorem binsL_nil (b w : Int) : binsL b w [] = List.replicate b.toNat 0 := by
  apply List.ext_getElem
  · simp [binsL]
  · intro i h1 h2; simp [binsL, binC]
theorem binsL_get (b w : Int) (l : List Int) {i : Nat} (h : i < b.toNat) : (binsL b w l)[i]'(by rw [binsL_len]; exact h) = binC b w l i := by simp [binsL]
/-- All bins have, together, as many as there are numbers. -/
def sumB (b w : Int) (l : List Int) : Nat → Int
  | 0 => 0
  | k + 1 => sumB b w l k + binC b w l k
theorem sumB_snoc (b w : Int) (l : List Int) (x : Int) : ∀ k : Nat, sumB b w (l ++ [x]) k = sumB b w l k + if 0 ≤ binOf b w x ∧ binOf b w x < k then 1 else 0
  | 0 => by simp [sumB]
  | k + 1 => by
    simp only [sumB, sumB_snoc b w l x k, binC_snoc]
    by_cases c : binOf b w x = k
    · rw [if_neg (by omega), if_pos c, if_pos (by omega)]; omega
    · rw [if_neg c]
      by_cases d : 0 ≤ binOf b w x ∧ binOf b w x < k
      · rw [if_pos d, if_pos (by omega)]; omega
      · rw [if_neg d, if_neg (by omega)]; omega
theorem sumB_nil (b w : Int) : ∀ k : Nat, sumB b w [] k = 0
  | 0 => rfl
  | k + 1 => by simp [sumB, sumB_nil b w k, binC]
theorem sumB_all {b w : Int} (hb : 1 ≤ b) (hw : 1 ≤ w) : ∀ l : List Int, (∀ x ∈ l, 0 ≤ x) → sumB b w l b.toNat = l.length := by
  intro l hl
  have key : ∀ k, k ≤ l.length → sumB b w (l.take k) b.toNat = k := by
    intro k
    induction k with
    | zero => intro _; simp [sumB_nil]
    | succ k ih =>
      intro hk
      rw [List.take_succ_eq_append_getElem (by omega), sumB_snoc, ih (by omega)]
      have := binOf_in hb hw (hl _ (List.getElem_mem (by omega : k < l.length)))
      rw [if_pos ⟨this.1, by omega⟩]; omega
  have := key l.length (Nat.le_refl _)
  rwa [List.take_length] at this
theorem sumB_in (b w : Int) (l : List Int) : ∀ k : Nat, 0 ≤ sumB b w l k ∧ sumB b w l k ≤ k * l.length
  | 0 => by simp [sumB]
  | k + 1 => by
    have h1 := sumB_in b w l k
    have h2 := binC_le b w l k
    simp only [sumB]
    have h3 : ((k + 1 : Nat) : Int) * l.length = k * l.length + l.length := by rw [Int.natCast_add, Int.add_mul]; simp
    omega
end Go.Am
