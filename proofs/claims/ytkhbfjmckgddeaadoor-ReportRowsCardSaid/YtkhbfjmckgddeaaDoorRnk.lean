/- Law 15: percentiles of sorted numbers, as a plain law. -/
import Derived.Test.YtkhbfjmckgddeaaDoorSrt
set_option linter.unusedVariables false
set_option linter.unusedSimpArgs false
namespace Go.Am
def cntI (n : Int) (l : List Int) : Nat := (l.filter fun x => decide (x ≤ n)).length
theorem cnt_perm {n : Int} {a b : List Int} (h : a.Perm b) : cntI n a = cntI n b := (h.filter _).length_eq
theorem cnt_le (n : Int) (l : List Int) : cntI n l ≤ l.length := List.length_filter_le _ _
theorem cnt_app (n : Int) (a b : List Int) : cntI n (a ++ b) = cntI n a + cntI n b := by simp [cntI]
theorem cnt_snoc (n : Int) (a : List Int) (x : Int) : cntI n (a ++ [x]) = cntI n a + if x ≤ n then 1 else 0 := by
  rw [cnt_app]; congr 1; unfold cntI; by_cases h : x ≤ n <;> simp [h]
theorem cnt_all {n : Int} {l : List Int} (h : ∀ x ∈ l, x ≤ n) : cntI n l = l.length := by
  unfold cntI; rw [List.filter_eq_self.2 fun x hx => by simpa using h x hx]
theorem cnt_none {n : Int} {l : List Int} (h : ∀ x ∈ l, n < x) : cntI n l = 0 := by
  unfold cntI
  rw [List.length_eq_zero_iff, List.filter_eq_nil_iff]
  intro x hx
  have := h x hx
  simp only [decide_eq_true_eq]; omega
theorem sorted_get {l : List Int} (h : l.Pairwise (· ≤ ·)) {i j : Nat} (hij : i ≤ j) (hj : j < l.length) : l[i]'(by omega) ≤ l[j] := by
  rcases Nat.lt_or_ge i j with h1 | h1
  · exact List.pairwise_iff_getElem.1 h i j (by omega) hj h1
  · obtain rfl : i = j := by omega
    omega
theorem cnI_ge {s : List Int} (hs : s.Pairwise (· ≤ ·)) {k : Nat} (hk : k < s.length) {n : Int} (hn : s[k] ≤ n) : k + 1 ≤ cntI n s := by
  have e : cntI n s = cntI n (s.take (k + 1)) + cntI n (s.drop (k + 1)) := by rw [← cnt_app, List.take_append_drop]
  have h1 : cntI n (s.take (k + 1)) = k + 1 := by
    rw [cnt_all, List.length_take]
    · omega
    · intro x hx
      obtain ⟨i, hi, rfl⟩ := List.getElem_of_mem hx
      rw [List.getElem_take]
      rw [List.length_take] at hi
      have := sorted_get hs (i := i) (j := k) (by omega) hk
      omega
  omega
theorem cnI_lt {s : List Int} (hs : s.Pairwise (· ≤ ·)) {k : Nat} (hk : k < s.length) {n : Int} (hn : n < s[k]) : cntI n s ≤ k := by
  have e : cntI n s = cntI n (s.take k) + cntI n (s.drop k) := by rw [← cnt_app, List.take_append_drop]
  have h1 : cntI n (s.drop k) = 0 := cnt_none fun x hx => by
    obtain ⟨i, hi, rfl⟩ := List.getElem_of_mem hx
    rw [List.getElem_drop]
    rw [List.length_drop] at hi
    have := sorted_get hs (i := k) (j := k + i) (by omega) (by omega)
    omega
  have h2 := cnt_le n (s.take k)
  rw [List.length_take] at h2
  omega
/-- How many there must be at or below a percentile. -/
def plK (p m : Int) : Int := m / 100 * p + (m % 100 * p + 99) / 100
theorem mul_split (p m : Int) : p * m = 100 * (m / 100 * p) + m % 100 * p := by
  have hm := Int.mul_ediv_add_emod m 100
  have e : p * (100 * (m / 100) + m % 100) = 100 * (m / 100 * p) + m % 100 * p := by
    rw [Int.mul_add, Int.mul_comm p (m % 100), Int.mul_comm p (100 * (m / 100)), Int.mul_assoc]
  rw [hm] at e; exact e
theorem mul_le100 {p r : Int} (hp : 1 ≤ p ∧ p ≤ 100) (hr : 0 ≤ r) : r ≤ r * p ∧ r * p ≤ 100 * r := by
  constructor
  · have := Int.mul_le_mul_of_nonneg_left hp.1 hr
    omega
  · have := Int.mul_le_mul_of_nonneg_left hp.2 hr
    omega
theorem plK_bounds {p m : Int} (hp : 1 ≤ p ∧ p ≤ 100) (hm : 1 ≤ m) : 1 ≤ plK p m ∧ plK p m ≤ m := by
  have h1 := mul_le100 hp (r := m / 100) (by omega)
  have h2 := mul_le100 hp (r := m % 100) (by omega)
  unfold plK
  omega
theorem plK_near {p m : Int} : p * m ≤ 100 * plK p m ∧ 100 * (plK p m - 1) < p * m := by
  rw [mul_split]; unfold plK; omega
theorem plK_mono {p q m : Int} (hpq : p ≤ q) (hm : 0 ≤ m) : plK p m ≤ plK q m := by
  have h1 := Int.mul_le_mul_of_nonneg_left hpq (show 0 ≤ m / 100 by omega)
  have h2 := Int.mul_le_mul_of_nonneg_left hpq (show 0 ≤ m % 100 by omega)
  unfold plK; omega
/-- A percentile. -/
def ofP (p : Int) (l : List Int) : Int := (srt l).getD (plK p l.length - 1).toNat 0
theorem ofP_get {p : Int} {l : List Int} (hp : 1 ≤ p ∧ p ≤ 100) (hl : l ≠ []) : ∃ k : Nat, ∃ hk : k < (srt l).length, plK p l.length = k + 1 ∧ ofP p l = (srt l)[k] := by
  have hm : 1 ≤ (l.length : Int) := by
    have := List.length_pos_iff.2 hl
    omega
  have h := plK_bounds hp hm
  have hk : (plK p l.length - 1).toNat < (srt l).length := by rw [srt_length]; omega
  refine ⟨(plK p l.length - 1).toNat, hk, by omega, ?_⟩
  unfold ofP
  rw [List.getD_eq_getElem?_getD, List.getElem?_eq_getElem hk]; rfl
theorem ofP_mem {p : Int} {l : List Int} (hp : 1 ≤ p ∧ p ≤ 100) (hl : l ≠ []) : ofP p l ∈ l := by
  obtain ⟨k, hk, _, e⟩ := ofP_get hp hl
  rw [e]
  exact (srt_perm l).mem_iff.1 (List.getElem_mem hk)
theorem ofP_enough {p : Int} {l : List Int} (hp : 1 ≤ p ∧ p ≤ 100) (hl : l ≠ []) : p * l.length ≤ 100 * (cntI (ofP p l) l : Int) := by
  obtain ⟨k, hk, h1, e⟩ := ofP_get hp hl
  have h2 := cnI_ge (srt_sorted l) hk (n := ofP p l) (by rw [e]; omega)
  rw [cnt_perm (srt_perm l)] at h2
  have h3 := (plK_near (p := p) (m := l.length)).1
  omega
theorem ofP_least {p : Int} {l : List Int} (hp : 1 ≤ p ∧ p ≤ 100) (hl : l ≠ []) {y : Int} (hy : y < ofP p l) : 100 * (cntI y l : Int) < p * l.length := by
  obtain ⟨k, hk, h1, e⟩ := ofP_get hp hl
  have h2 := cnI_lt (srt_sorted l) hk (n := y) (by rw [← e]; exact hy)
  rw [cnt_perm (srt_perm l)] at h2
  have h3 := (plK_near (p := p) (m := l.length)).2
  omega
theorem ofP_mono {p q : Int} {l : List Int} (hp : 1 ≤ p ∧ p ≤ 100) (hq : 1 ≤ q ∧ q ≤ 100) (hl : l ≠ []) (hpq : p ≤ q) : ofP p l ≤ ofP q l := by
  obtain ⟨k, hk, h1, e⟩ := ofP_get hp hl
  obtain ⟨j, hj, h2, f⟩ := ofP_get hq hl
  have := plK_mono (m := l.length) hpq (by omega)
  rw [e, f]
  exact sorted_get (srt_sorted l) (by omega) hj
end Go.Am
