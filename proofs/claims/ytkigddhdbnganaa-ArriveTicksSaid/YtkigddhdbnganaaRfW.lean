/- The document's weights, and the pair that a word means. -/
import Derived.Test.YtkigddhdbnganaaGrW
set_option linter.unusedVariables false
set_option linter.unusedSimpArgs false
set_option maxRecDepth 10000
set_option maxHeartbeats 1000000
namespace Go.Am
abbrev dW (L : List W3) : AV := .c (.vs 3 (L.map d3))
def RWeightC (g : List AV → Option (List AV)) : Prop := ∀ t x y : Int, 1 ≤ t → t ≤ 4 → g [i64 t, i64 x, i64 y] = some [i64 (if x = y then 0 else wD t x y)]
theorem ref21_weight_run (Γ : Env) (M : Nat) : RWeightC (run Γ M ref21_weight_f) := by
  intro t x y h1 h4
  by_cases hxy : x = y
  · subst hxy
    simp -implicitDefEqProofs (disch := first | omega | (simp <;> fail) | assumption)
  · rw [if_neg hxy]
    have ht : t = 1 ∨ t = 2 ∨ t = 3 ∨ t = 4 := by omega
    rcases ht with rfl | rfl | rfl | rfl <;> by_cases hx : x = 0 <;> by_cases hy : y = 0 <;> first
      | (exfalso; omega)
      | (try subst hx
         try subst hy
         simp -implicitDefEqProofs (disch := first | omega | (simp <;> fail) | assumption) [wD, hxy, *])
def cellI (t : Int) (f i : Nat) : List W3 := cellW t (i / f) (i % f)
theorem range_nest {α : Type} (g : Nat → Nat → List α) (f : Nat) (hf : 0 < f) : ∀ k : Nat, (List.range (k * f)).flatMap (fun i => g (i / f) (i % f)) = (List.range k).flatMap fun x => (List.range f).flatMap (g x)
  | 0 => by simp
  | k + 1 => by
    rw [Nat.add_mul, Nat.one_mul, List.range_add, List.flatMap_append, range_nest g f hf k, List.range_succ, List.flatMap_append]
    congr 1
    rw [List.flatMap_map]
    simp only [List.flatMap_cons, List.flatMap_nil, List.append_nil]
    rw [List.flatMap_def, List.flatMap_def]
    refine congrArg List.flatten (List.map_congr_left fun i hi => ?_)
    have hi := List.mem_range.1 hi
    rw [Nat.mul_comm k f, Nat.mul_add_div hf, Nat.div_eq_of_lt hi, Nat.mul_add_mod, Nat.mod_eq_of_lt hi, Nat.add_zero]
theorem allW_flat (t : Int) (f : Nat) (hf : 0 < f) : (List.range (f * f)).flatMap (cellI t f) = allW t f f := range_nest (cellW t) f hf f
def takeI (t : Int) (f k : Nat) : List W3 := (List.range k).flatMap (cellI t f)
theorem takeI_succ (t : Int) (f k : Nat) : takeI t f (k + 1) = takeI t f k ++ cellI t f k := by simp [takeI, List.range_succ]
theorem wD_nonneg (t x y : Int) : 0 ≤ wD t x y ∧ wD t x y ≤ 10 := by
  unfold wD; repeat' split
  all_goals omega
theorem cellI_length (t : Int) (f i : Nat) : (cellI t f i).length ≤ 1 := by
  unfold cellI cellW; split
  · simp
  · split <;> simp
theorem takeI_length (t : Int) (f : Nat) : ∀ k, (takeI t f k).length ≤ k
  | 0 => by simp [takeI]
  | k + 1 => by rw [takeI_succ, List.length_append]; have := takeI_length t f k; have := cellI_length t f k; omega
def RAllC (g : List AV → Option (List AV)) : Prop := ∀ (t : Int) (f : Nat), 1 ≤ t → t ≤ 4 → 2 ≤ f → f ≤ 30 → g [i64 t, i64 f] = some [dW (allW t f f)]
theorem ref21_All_run (Γ : Env) (M : Nat) (hM : 1000 < M) (hW : RWeightC (Γ 305)) : RAllC (run Γ M ref21_All_f) := by
  intro t f h1 h4 hf2 hf
  have hN : f * f ≤ 900 := Nat.mul_le_mul hf hf
  have hNi : (f : Int) * (f : Int) = ((f * f : Nat) : Int) := by push_cast; rfl
  have hmI : 0 ≤ (f : Int) * (f : Int) ∧ (f : Int) * (f : Int) ≤ 900 := by rw [hNi]; omega
  obtain ⟨ax, s', ⟨rfl, rfl⟩, hin⟩ : ∃ ax s', (ax = .ex 0 ∧ s' = ⟨[(5, .sl 5 (allW t f f).length 0 (allW t f f).length)], [(5, ⟨3, (allW t f f).map (toAV ∘ d3)⟩)]⟩) ∧ ∀ s0, nrm [0, 1, 5, 6] [5, 36] s0 = ⟨[(0, i64 t), (1, i64 f), (5, .sl 5 (takeI t f 0).length 0 (takeI t f 0).length), (6, i64 (0 : Nat))], [(5, ⟨3, (takeI t f 0).map (toAV ∘ d3)⟩)]⟩ → lp (exec Γ M ref21_All_l1) M s0 = some (ax, s') := by
    refine lp_all (fun q : Nat => ⟨[(0, i64 t), (1, i64 f), (5, .sl 5 (takeI t f q).length 0 (takeI t f q).length), (6, i64 q)], [(5, ⟨3, (takeI t f q).map (toAV ∘ d3)⟩)]⟩) (fun q => q ≤ f * f) (fun q => f * f - q) _ 0 M (by simp) (by omega) (by omega) ?_
    intro k hk
    by_cases hlt : k < f * f
    · have hltI : (k : Int) < (f : Int) * (f : Int) := by rw [hNi]; omega
      have hw := hW t ((k : Int) / (f : Int)) ((k : Int) % (f : Int)) h1 h4
      have hdiv : (k : Int) / (f : Int) = ((k / f : Nat) : Int) := by simp
      have hmod : (k : Int) % (f : Int) = ((k % f : Nat) : Int) := by simp
      have hb := wD_nonneg t ((k : Int) / (f : Int)) ((k : Int) % (f : Int))
      have hkl := takeI_length t f k
      have hs := takeI_succ t f k
      generalize hT : takeI t f k = T at *
      have hne : (k : Int) / (f : Int) = (k : Int) % (f : Int) ↔ k / f = k % f := by rw [hdiv, hmod]; omega
      have hfp : 0 < (f : Int) := by omega
      have hqb : k / f ≤ k := Nat.div_le_self k f
      have hrb : k % f < f := Nat.mod_lt _ (by omega)
      have hdq : cellI t f k = if k / f = k % f then [] else if wD t ((k : Int) / (f : Int)) ((k : Int) % (f : Int)) = 0 then [] else [((k : Int) / (f : Int), (k : Int) % (f : Int), wD t ((k : Int) / (f : Int)) ((k : Int) % (f : Int)))] := by unfold cellI cellW; rw [hdiv, hmod]
      obtain ⟨a, ha⟩ : ∃ a, (k : Int) / (f : Int) = a := ⟨_, rfl⟩
      obtain ⟨b, hb'⟩ : ∃ b, (k : Int) % (f : Int) = b := ⟨_, rfl⟩
      rw [ha] at hw hb hne hdq hdiv
      rw [hb'] at hw hb hne hdq hmod
      have ha0 : 0 ≤ a := by rw [hdiv]; exact Int.natCast_nonneg _
      have hwa : wrapK .i64 a = a := wrapK_i64 (by omega) (by omega)
      by_cases hxy : k / f = k % f
      · rw [if_pos hxy] at hdq
        rw [hdq, List.append_nil] at hs
        rw [if_pos (hne.2 hxy)] at hw
        simp -implicitDefEqProofs (disch := first | omega | (simp <;> fail) | assumption) [hltI, hw, ha, hb', hwa]
        exact ⟨k + 1, by rw [hs]; simp, by omega, by omega⟩
      · rw [if_neg fun h => hxy (hne.1 h)] at hw
        rw [if_neg hxy] at hdq
        by_cases h0 : wD t a b = 0
        · rw [if_pos h0] at hdq
          rw [hdq, List.append_nil] at hs
          rw [h0] at hw
          simp -implicitDefEqProofs (disch := first | omega | (simp <;> fail) | assumption) [hltI, hw, ha, hb', hwa]
          exact ⟨k + 1, by rw [hs]; simp, by omega, by omega⟩
        · rw [if_neg h0] at hdq
          rw [hdq] at hs
          have hpos : 0 < wD t a b := by omega
          generalize wD t a b = n at *
          simp -implicitDefEqProofs (disch := first | omega | (simp <;> fail) | assumption) [hltI, hw, ha, hb', hwa, hpos]
          exact ⟨k + 1, by rw [hs]; simp [d3], by omega, by omega⟩
    · obtain rfl : k = f * f := by omega
      have hltI : ¬ ((f * f : Nat) : Int) < (f : Int) * (f : Int) := by rw [hNi]; omega
      have hall := allW_flat t f (by omega)
      have hall : takeI t f (f * f) = allW t f f := hall
      rw [hall]
      simp -implicitDefEqProofs (disch := first | omega | (simp <;> fail) | assumption)
  have hin2 := hin ⟨[(0, i64 t), (1, i64 f), (5, .sl 5 0 0 0), (6, .c (.int .i64 0))], [(5, ⟨3, []⟩)]⟩ (by simp [takeI])
  have htc : List.take (allW t f f).length ((allW t f f).map d3) = (allW t f f).map d3 := List.take_of_length_le (by simp)
  simp -implicitDefEqProofs (disch := first | omega | (simp <;> fail) | assumption) [hin2, htc]
def ROfC (g : List AV → Option (List AV)) : Prop := ∀ (w : Int) (L : List W3), L.length ≤ 100000 → Int64s (L.map (·.2.2)) → 0 ≤ w → w ≤ 4294967295 → g [dW L, u32 w] = some [.agg (ansP w L).1, i64 (ansP w L).2]
theorem ref21_Of_run (Γ : Env) (M : Nat) (hM : 100000 < M) (hP : PickC (Γ 308)) : ROfC (run Γ M ref21_Of_f) := by
  intro w L hlen hi hw1 hw2
  have hpk := hP w _ hw1 hw2 hi (by rw [List.length_map]; exact hlen)
  rw [nsV_map] at hpk
  have y1 := fun k => nmRows_comp k cN L
  obtain ⟨ax, s', ⟨rfl, rfl⟩, hin⟩ : ∃ ax s', (ax = .ex 0 ∧ s' = ⟨[(0, dW L), (1, u32 w), (4, .loc 4 0 0), (6, .sl 6 L.length 0 L.length)], [(4, ⟨2, [[.c (.int .i64 0), .c (.int .i64 0)]]⟩), (6, ⟨1, L.map (toAV ∘ cN)⟩)]⟩) ∧ ∀ s0, nrm [0, 1, 4, 6, 7] [4, 6, 23] s0 = ⟨[(0, dW L), (1, u32 w), (4, .loc 4 0 0), (6, .sl 6 0 0 0), (7, i64 (0 : Nat))], [(4, ⟨2, [[.c (.int .i64 0), .c (.int .i64 0)]]⟩), (6, ⟨1, (L.take 0).map (toAV ∘ cN)⟩)]⟩ → lp (exec Γ M ref21_Of_l1) M s0 = some (ax, s') := by
    refine lp_all (fun q : Nat => ⟨[(0, dW L), (1, u32 w), (4, .loc 4 0 0), (6, .sl 6 q 0 q), (7, i64 q)], [(4, ⟨2, [[.c (.int .i64 0), .c (.int .i64 0)]]⟩), (6, ⟨1, (L.take q).map (toAV ∘ cN)⟩)]⟩) (fun q => q ≤ L.length) (fun q => L.length - q) _ 0 M (by simp) (by omega) (by omega) ?_
    intro k hk
    by_cases hlt : k < L.length
    · obtain ⟨⟨a, b, n⟩, hm⟩ : ∃ m, L[k] = m := ⟨_, rfl⟩
      have hrow : (L.map d3)[k]? = some [.int .i64 a, .int .i64 b, .int .i64 n] := by simp [hlt, hm, d3]
      have htl : (L.take k).length = k := by rw [List.length_take]; omega
      have htk : (L.take (k + 1)).map (toAV ∘ cN) = (L.take k).map (toAV ∘ cN) ++ [[i64 n]] := by
        rw [List.take_succ_eq_append_getElem hlt, List.map_append, hm]; rfl
      generalize hT : L.take k = T at *
      simp -implicitDefEqProofs (disch := first | omega | (simp <;> fail) | assumption) [hlt, hrow, d3, hm, htl]
      exact ⟨k + 1, by rw [← List.map_take, htk]; simp, by omega, by omega⟩
    · obtain rfl : k = L.length := by omega
      simp -implicitDefEqProofs (disch := first | omega | (simp <;> fail) | assumption)
  have hin2 := hin ⟨[(0, dW L), (1, u32 w), (4, .loc 4 0 0), (6, .sl 6 0 0 0), (7, .c (.int .i64 0))], [(4, ⟨2, [[.c (.int .i64 0), .c (.int .i64 0)]]⟩), (6, ⟨1, []⟩)]⟩ (by simp)
  have htc : List.take L.length (L.map cN) = L.map cN := List.take_of_length_le (by simp)
  by_cases he : (pickF w (L.map (·.2.2))).2 = 0
  · obtain ⟨k, hk, hlt⟩ := pickF_lt he
    rw [List.length_map] at hlt
    obtain ⟨⟨a, b, n⟩, hm⟩ : ∃ m, L[k] = m := ⟨_, rfl⟩
    have ha : ansP w L = ([.int .i64 a, .int .i64 b], 0) := by
      unfold ansP
      rw [if_neg (by simp [he]), hk, Int.toNat_natCast, List.getElem?_eq_getElem hlt, hm]
    have hrow : (L.map d3)[k]? = some [.int .i64 a, .int .i64 b, .int .i64 n] := by simp [hlt, hm, d3]
    rw [hk, he] at hpk
    rw [ha]
    simp -implicitDefEqProofs (disch := first | omega | (simp [y1] <;> fail) | assumption) [hin2, hpk, htc, hrow, hlt, hm, d3, y1]
  · have ha : ansP w L = ([.int .i64 0, .int .i64 0], (pickF w (L.map (·.2.2))).2) := by
      unfold ansP
      rw [if_pos he]
    rw [ha]
    generalize (pickF w (L.map (·.2.2))).1 = p1 at *
    generalize (pickF w (L.map (·.2.2))).2 = p2 at *
    simp -implicitDefEqProofs (disch := first | omega | (simp [y1] <;> fail) | assumption) [hin2, hpk, htc, he, y1]
/-! ### Facts of the weights -/
theorem allW_vals {t : Int} {f k : Nat} : ∀ m ∈ allW t f k, 0 ≤ m.2.2 ∧ m.2.2 ≤ 10 := by
  intro m hm
  obtain ⟨x, _, y, _, _, rfl, _⟩ := mem_allW hm
  exact wD_nonneg t x y
theorem rowW_length (t : Int) (x : Nat) : ∀ k, (rowW t x k).length ≤ k
  | 0 => by simp [rowW]
  | k + 1 => by
    rw [rowW_succ, List.length_append]
    have := rowW_length t x k
    have : (cellW t x k).length ≤ 1 := by
      unfold cellW; split
      · simp
      · split <;> simp
    omega
theorem allW_length (t : Int) (f : Nat) : ∀ k, (allW t f k).length ≤ k * f
  | 0 => by simp [allW]
  | k + 1 => by
    rw [allW_succ, List.length_append, Nat.add_mul, Nat.one_mul]
    have := allW_length t f k
    have := rowW_length t k f
    omega
theorem ansP_two (w : Int) (L : List W3) : ∃ a b : Int, (ansP w L).1 = [.int .i64 a, .int .i64 b] := by
  unfold ansP
  split
  · exact ⟨0, 0, rfl⟩
  · split
    · exact ⟨_, _, rfl⟩
    · exact ⟨0, 0, rfl⟩
end Go.Am
