/- Law 21: DemandPairs. -/
import Derived.Test.YtiabedphaioidaaDemL
set_option linter.unusedVariables false
set_option linter.unusedSimpArgs false
set_option maxRecDepth 10000
set_option maxHeartbeats 1000000
namespace Go.Am
theorem sumCap_some : ∀ {l : List Int} {a : Int}, (∀ n ∈ l, 0 ≤ n) → a + l.sum ≤ 2147483648 → sumCap a l = some (a + l.sum)
  | [], a, _, _ => by simp [sumCap]
  | n :: l, a, hn, h => by
    have h0 : ∀ l : List Int, (∀ n ∈ l, 0 ≤ n) → 0 ≤ l.sum := by
      intro l
      induction l with
      | nil => simp
      | cons m l ih => intro hm; have := hm m (by simp); have := ih fun x hx => hm x (by simp [hx]); simp only [List.sum_cons]; omega
    have h1 := h0 l fun x hx => hn x (by simp [hx])
    simp only [List.sum_cons] at h ⊢
    rw [sumCap, if_neg (by omega), sumCap_some (fun x hx => hn x (by simp [hx])) (by omega)]
    simp only [Option.some.injEq]; omega
theorem findR_found : ∀ {l : List Int} {r : Int} {i : Nat}, (∀ n ∈ l, 0 ≤ n) → r < l.sum → 0 ≤ r → (findR r l i).2 = 0
  | [], r, i, _, h, h0 => by simp at h; omega
  | n :: l, r, i, hn, h, h0 => by
    simp only [findR]
    split
    · rfl
    · simp only [List.sum_cons] at h
      exact findR_found (fun x hx => hn x (by simp [hx])) (by omega) (by omega)
theorem pick_fine {L : List W3} (hL : ∀ m ∈ L, 0 ≤ m.2.2 ∧ m.2.2 ≤ 10) (hl : L.length ≤ 16384) (hpos : 0 < sumM L) {w : Int} (hw1 : 0 ≤ w) (hw2 : w ≤ 4294967295) : (pickF w (L.map (·.2.2))).2 = 0 := by
  have hn : ∀ n ∈ L.map (·.2.2), 0 ≤ n := fun n hn => by
    obtain ⟨m, hm, rfl⟩ := List.mem_map.1 hn
    exact (hL m hm).1
  have hb := sumM_bound hL
  have hs : sumCap 0 (L.map (·.2.2)) = some (sumM L) := by
    have := sumCap_some (a := 0) hn (by unfold sumM at hb; omega)
    rw [this]; simp [sumM]
  have ht : totF (L.map (·.2.2)) = (sumM L, 0) := by
    unfold totF
    rw [if_neg (by
      simp only [List.any_eq_true, decide_eq_true_eq, not_exists, not_and]
      intro n hx; have := hn n hx; omega), hs]
    simp only
    rw [if_neg (by omega)]
  unfold pickF
  rw [ht, if_neg (by simp)]
  have h0 : 0 ≤ w * sumM L := Int.mul_nonneg hw1 (by omega)
  have h1 : w * sumM L ≤ 4294967295 * sumM L := Int.mul_le_mul_of_nonneg_right hw2 (by omega)
  have e : (L.map (·.2.2)).sum = sumM L := rfl
  refine findR_found hn ?_ ?_
  · rw [e]
    simp only
    generalize w * sumM L = p at *
    omega
  · simp only
    generalize w * sumM L = p at *
    omega
theorem sumM_mem {L : List W3} (hL : ∀ m ∈ L, 0 ≤ m.2.2 ∧ m.2.2 ≤ 10) {m : W3} (hm : m ∈ L) (hp : 0 < m.2.2) : 0 < sumM L := by
  induction L with
  | nil => simp at hm
  | cons a L ih =>
    have hb := sumM_bound fun x hx => hL x (List.mem_cons_of_mem a hx)
    have ha := hL a (by simp)
    have e : sumM (a :: L) = a.2.2 + sumM L := rfl
    rw [e]
    rcases List.mem_cons.1 hm with rfl | hm
    · omega
    · have := ih (fun x hx => hL x (List.mem_cons_of_mem a hx)) hm
      omega
theorem allW_pos {t : Int} {f : Nat} (h1 : 1 ≤ t) (h4 : t ≤ 4) (hf : 2 ≤ f) : 0 < sumM (allW t f f) := by
  have hw : 0 < wD t 0 1 := by
    have ht : t = 1 ∨ t = 2 ∨ t = 3 ∨ t = 4 := by omega
    rcases ht with rfl | rfl | rfl | rfl <;> decide
  refine sumM_mem (m := (0, 1, wD t 0 1)) allW_vals ?_ hw
  refine List.mem_flatMap.2 ⟨0, List.mem_range.2 (by omega), List.mem_flatMap.2 ⟨1, List.mem_range.2 (by omega), ?_⟩⟩
  have : ¬ wD t 0 1 = 0 := by omega
  simp [cellW, this]
theorem ansP_in {w : Int} {L : List W3} (h : (pickF w (L.map (·.2.2))).2 = 0) : ∃ m ∈ L, ansP w L = ([.int .i64 m.1, .int .i64 m.2.1], 0) := by
  obtain ⟨k, hk, hlt⟩ := pickF_lt h
  rw [List.length_map] at hlt
  refine ⟨L[k], List.getElem_mem hlt, ?_⟩
  unfold ansP
  rw [if_neg (by simp [h]), hk, Int.toNat_natCast, List.getElem?_eq_getElem hlt]
theorem DemandPairs_run (Γ : Env) (M : Nat) (hal : Γ 278 [] = some [bo true]) (hRA : RAllC (Γ 279)) (hRO : ROfC (Γ 285)) (hW : WhyC (Γ 280)) (hP : PairC (Γ 288)) (t f w : Int) (hw1 : 0 ≤ w) (hw2 : w ≤ 4294967295) : run Γ M law21_DemandPairs_f [i64 t, i64 f, u32 w] = some [bo true] := by
  by_cases h30 : 30 < f ∧ f ≤ 128
  · obtain ⟨h1, h2⟩ := h30
    simp -implicitDefEqProofs (disch := first | omega | (simp <;> fail) | assumption) [h1, h2]
  have hw := hW t f
  by_cases hwh : whyF t f = 0
  · obtain ⟨h1, h4, hf2, hf⟩ := why_ok hwh
    have hf3 : ¬ 30 < f := by omega
    obtain ⟨F, rfl⟩ : ∃ F : Nat, f = F := ⟨f.toNat, by omega⟩
    rw [hwh] at hw
    have eP := hP.2 t F w h1 h4 (by omega) (by omega) hw1 hw2
    have eR := hRA t F h1 h4 (by omega) (by omega)
    have hll : (allW t F F).length ≤ 16384 := Nat.le_trans (allW_length t F F) (by have := Nat.mul_le_mul (show F ≤ 128 by omega) (show F ≤ 128 by omega); omega)
    have hi : Int64s ((allW t F F).map (·.2.2)) := by
      intro n hn
      obtain ⟨m, hm, rfl⟩ := List.mem_map.1 hn
      have := allW_vals m hm
      omega
    have eO := hRO w (allW t F F) (by omega) hi hw1 hw2
    obtain ⟨m, hm, ha⟩ := ansP_in (pick_fine allW_vals hll (allW_pos h1 h4 (by omega)) hw1 hw2)
    obtain ⟨x, hx, y, hy, hxy, rfl, _⟩ := mem_allW hm
    rw [ha] at eP eO
    simp only at eP eO
    have e1 : ¬ (x : Int) = y := by omega
    have e2 : 0 ≤ (x : Int) := by omega
    have e3 : 0 ≤ (y : Int) := by omega
    have e4 : (x : Int) < F := by omega
    have e5 : (y : Int) < F := by omega
    generalize allW t F F = L at *
    simp -implicitDefEqProofs (disch := first | omega | (simp <;> fail) | assumption) [hf3, hw, eP, eR, eO, hal, hxy, hx, hy]
  · have eP := hP.1 t f w hwh
    generalize whyF t f = z at *
    by_cases hf3 : 30 < f
    · have hf4 : ¬ f ≤ 128 := by omega
      simp -implicitDefEqProofs (disch := first | omega | (simp <;> fail) | assumption) [hf3, hf4, eP, hw, hwh, hal]
    · simp -implicitDefEqProofs (disch := first | omega | (simp <;> fail) | assumption) [hf3, eP, hw, hwh, hal]
end Go.Am
