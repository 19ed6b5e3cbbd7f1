/- Law 19: the document's scan, whole. -/
import Derived.Test.YtdhlplgkpgbpjaaLexRefA
set_option linter.unusedVariables false
set_option linter.unusedSimpArgs false
set_option maxRecDepth 10000
set_option maxHeartbeats 1000000
namespace Go.Am
theorem kd4 (b : UInt8) : decide (kd b = 4) = isLt b := by
  rw [Bool.eq_iff_iff, decide_eq_true_eq]
  unfold kd isBl isLt isDg
  simp only [Bool.or_eq_true, Bool.and_eq_true, decide_eq_true_eq]
  repeat' split
  all_goals constructor <;> intro h <;> omega
theorem kd5 (b : UInt8) : decide (kd b = 5) = isDg b := by
  rw [Bool.eq_iff_iff, decide_eq_true_eq]
  unfold kd isBl isLt isDg
  simp only [Bool.or_eq_true, Bool.and_eq_true, decide_eq_true_eq]
  repeat' split
  all_goals constructor <;> intro h <;> omega
theorem pk4 : pk 4 = isLt := funext fun b => by simp [pk, kd4]
theorem pk5 : pk 5 = isDg := funext fun b => by simp [pk, kd5]
theorem pk2 : pk 2 = noNl := funext fun b => by simp [pk, noNl]
theorem pk0 (k : Int) (h4 : k ≠ 4) (h5 : k ≠ 5) (h2 : k ≠ 2) (s : List UInt8) (a : Nat) : twl (pk k) s a = 0 := by
  have : pk k = fun _ => false := funext fun b => by simp [pk, h4, h5, h2]
  rw [this]; unfold twl
  cases s.drop a <;> simp
/-- How far the token at a goes, and what it is. -/
theorem nx_kd (s : List UInt8) (a : Nat) (l c : Int) (ha : a < s.length) : ∃ E, a + 1 + twl (pk (kd s[a])) s (a + 1) = E ∧ a < E ∧ E ≤ s.length ∧
    ((kd s[a] = 0 ∧ nx s a l c = .err 190) ∨ (kd s[a] = 1 ∧ nx s a l c = .go [] E l (c + (E - a))) ∨ (kd s[a] = 2 ∧ nx s a l c = .go [] E l (c + (E - a))) ∨ (kd s[a] = 3 ∧ nx s a l c = .go [⟨3, [], 0, l, c⟩] E (l + 1) 1)
    ∨ (kd s[a] = 4 ∧ ∃ W, (s.drop a).take (E - a) = W ∧ nx s a l c = .go [⟨1, W, 0, l, c⟩] E l (c + (E - a)))
    ∨ (kd s[a] = 5 ∧ ∃ W, (s.drop a).take (E - a) = W ∧ W.length ≤ s.length ∧ W ≠ [] ∧ (∀ d ∈ W, 48 ≤ d.toNat ∧ d.toNat ≤ 57) ∧ nx s a l c = if numBad W then .err 191 else .go [⟨2, W, numG W 0, l, c⟩] E l (c + (E - a)))) := by
  refine ⟨_, rfl, by omega, ?_, ?_⟩
  · have := twl_le (pk (kd s[a])) s (a + 1) (by omega); omega
  have hb : s[a]? = some s[a] := List.getElem?_eq_getElem ha
  obtain ⟨b, hbb⟩ : ∃ b, s[a]'ha = b := ⟨_, rfl⟩
  have key : ∀ p : UInt8 → Bool, p b = true → a + 1 + twl p s (a + 1) = a + (tw p s a).length := by
    intro p hp
    have := twl_step p s a ha
    rw [hbb, hp] at this
    simp only [if_true] at this
    have h2 : twl p s a = (tw p s a).length := rfl
    omega
  simp only [nx, hb, hbb]
  by_cases h1 : isBl b = true
  · have hk : kd b = 1 := by simp [kd, h1]
    rw [if_pos h1, hk, pk0 1 (by omega) (by omega) (by omega)]
    refine .inr (.inl ⟨rfl, ?_⟩)
    congr 1; omega
  rw [if_neg h1]
  by_cases h2 : (b.toNat : Int) = 35
  · have hk : kd b = 2 := by simp [kd, h1, h2]
    rw [if_pos h2, hk, pk2, key noNl (by simp [noNl, h2])]
    refine .inr (.inr (.inl ⟨rfl, ?_⟩))
    congr 1; omega
  rw [if_neg h2]
  by_cases h3 : (b.toNat : Int) = 10
  · have hk : kd b = 3 := by simp [kd, h1, h2, h3]
    rw [if_pos h3, hk, pk0 3 (by omega) (by omega) (by omega)]
    exact .inr (.inr (.inr (.inl ⟨rfl, rfl⟩)))
  rw [if_neg h3]
  by_cases h4 : isLt b = true
  · have hk : kd b = 4 := by have := kd4 b; rw [h4] at this; simpa using this
    rw [if_pos h4, hk, pk4, key isLt h4]
    refine .inr (.inr (.inr (.inr (.inl ⟨rfl, tw isLt s a, ?_, ?_⟩))))
    · rw [show a + (tw isLt s a).length - a = (tw isLt s a).length by omega]; exact tw_take _ _ _
    · congr 1; omega
  rw [if_neg h4]
  by_cases h5 : isDg b = true
  · have hk : kd b = 5 := by have := kd5 b; rw [h5] at this; simpa using this
    rw [if_pos h5, hk, pk5, key isDg h5]
    refine .inr (.inr (.inr (.inr (.inr ⟨rfl, tw isDg s a, ?_, ?_, ?_, ?_, ?_⟩))))
    · rw [show a + (tw isDg s a).length - a = (tw isDg s a).length by omega]; exact tw_take _ _ _
    · have := twl_le isDg s a (by omega); have h2 : twl isDg s a = (tw isDg s a).length := rfl; omega
    · unfold tw
      rw [List.drop_eq_getElem_cons ha, List.takeWhile_cons, hbb, h5]; simp
    · intro d hd
      have := mem_tw hd
      simp only [isDg, Bool.and_eq_true, decide_eq_true_eq] at this
      omega
    · split
      · rfl
      · congr 1; omega
  rw [if_neg h5]
  have hk : kd b = 0 := by simp [kd, h1, h2, h3, h4, h5]
  rw [hk]
  exact .inl ⟨rfl, rfl⟩
end Go.Am
