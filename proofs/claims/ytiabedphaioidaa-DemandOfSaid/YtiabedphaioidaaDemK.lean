/- Law 21: totals, pairs, the laws. -/
import Derived.Test.YtiabedphaioidaaDemJ
set_option linter.unusedVariables false
set_option linter.unusedSimpArgs false
set_option maxRecDepth 10000
set_option maxHeartbeats 1000000
namespace Go.Am
def ROfC (g : List AV → Option (List AV)) : Prop := ∀ (w : Int) (L : List W3), L.length ≤ 100000 → Int64s (L.map (·.2.2)) → 0 ≤ w → w ≤ 4294967295 → g [dW L, u32 w] = some [.agg (ansP w L).1, i64 (ansP w L).2]
theorem ref21_Of_run (Γ : Env) (M : Nat) (hM : 100000 < M) (hP : PickC (Γ 308)) : ROfC (run Γ M ref21_Of_f) := by
  intro w L hlen hi hw1 hw2
  have hpk := hP w _ hw1 hw2 hi (by rw [List.length_map]; exact hlen)
  rw [nsV_map] at hpk
  have y1 := fun k => nmRows_comp k cN L
  obtain ⟨ax, s', ⟨rfl, rfl⟩, hin⟩ : ∃ ax s', (ax = .ex 0 ∧ s' = ⟨[(0, dW L), (1, u32 w), (4, .loc 4 0 0), (6, .sl 6 L.length 0 L.length)], [(4, ⟨2, [[.c (.int .i64 0), .c (.int .i64 0)]]⟩), (6, ⟨1, L.map (toAV ∘ cN)⟩)]⟩) ∧ ∀ s0, nrm [0, 1, 4, 6, 7] [4, 6, 23] s0 = ⟨[(0, dW L), (1, u32 w), (4, .loc 4 0 0), (6, .sl 6 0 0 0), (7, i64 (0 : Nat))], [(4, ⟨2, [[.c (.int .i64 0), .c (.int .i64 0)]]⟩), (6, ⟨1, (L.take 0).map (toAV ∘ cN)⟩)]⟩ → lp (exec Γ M ref21_Of_l1) M s0 = some (ax, s') := by
    refine lp_all (fun q : Nat => ⟨[(0, dW L), (1, u32 w), (4, .loc 4 0 0), (6, .sl 6 q 0 q), (7, i64 q)], [(4, ⟨2, [[.c (.int .i64 0), .c (.int .i64 0)]]⟩), (6, ⟨1, (L.take q).map (toAV ∘ cN)⟩)]⟩) (fun q => q ≤ L.length) (fun q => L.length - q) _ 0 M (by simp) (by omega) (by omega) ?_
    intro k hk
    by_cases hlt : k < L.length
    · obtain ⟨⟨a, b, n⟩, hm⟩ : ∃ m, L[k] = m := ⟨_, rfl⟩
      have hrow : (L.map d3)[k]? = some [.int .i64 a, .int .i64 b, .int .i64 n] := by simp [hlt, hm, d3]
      have htl : (L.take k).length = k := by rw [List.length_take]; omega
      have htk : (L.take (k + 1)).map (toAV ∘ cN) = (L.take k).map (toAV ∘ cN) ++ [[i64 n]] := by
        rw [List.take_succ_eq_append_getElem hlt, List.map_append, hm]; rfl
      generalize hT : L.take k = T at *
      simp -implicitDefEqProofs (disch := first | omega | (simp <;> fail) | assumption) [hlt, hrow, d3, hm, htl]
      exact ⟨k + 1, by rw [← List.map_take, htk]; simp, by omega, by omega⟩
    · obtain rfl : k = L.length := by omega
      simp -implicitDefEqProofs (disch := first | omega | (simp <;> fail) | assumption)
  have hin2 := hin ⟨[(0, dW L), (1, u32 w), (4, .loc 4 0 0), (6, .sl 6 0 0 0), (7, .c (.int .i64 0))], [(4, ⟨2, [[.c (.int .i64 0), .c (.int .i64 0)]]⟩), (6, ⟨1, []⟩)]⟩ (by simp)
  have htc : List.take L.length (L.map cN) = L.map cN := List.take_of_length_le (by simp)
  by_cases he : (pickF w (L.map (·.2.2))).2 = 0
  · obtain ⟨k, hk, hlt⟩ := pickF_lt he
    rw [List.length_map] at hlt
    obtain ⟨⟨a, b, n⟩, hm⟩ : ∃ m, L[k] = m := ⟨_, rfl⟩
    have ha : ansP w L = ([.int .i64 a, .int .i64 b], 0) := by
      unfold ansP
      rw [if_neg (by simp [he]), hk, Int.toNat_natCast, List.getElem?_eq_getElem hlt, hm]
    have hrow : (L.map d3)[k]? = some [.int .i64 a, .int .i64 b, .int .i64 n] := by simp [hlt, hm, d3]
    rw [hk, he] at hpk
    rw [ha]
    simp -implicitDefEqProofs (disch := first | omega | (simp [y1] <;> fail) | assumption) [hin2, hpk, htc, hrow, hlt, hm, d3, y1]
  · have ha : ansP w L = ([.int .i64 0, .int .i64 0], (pickF w (L.map (·.2.2))).2) := by
      unfold ansP
      rw [if_pos he]
    rw [ha]
    generalize (pickF w (L.map (·.2.2))).1 = p1 at *
    generalize (pickF w (L.map (·.2.2))).2 = p2 at *
    simp -implicitDefEqProofs (disch := first | omega | (simp [y1] <;> fail) | assumption) [hin2, hpk, htc, he, y1]
/-! ### Facts of the weights -/
theorem allW_vals {t : Int} {f k : Nat} : ∀ m ∈ allW t f k, 0 ≤ m.2.2 ∧ m.2.2 ≤ 10 := by
  intro m hm
  obtain ⟨x, _, y, _, _, rfl, _⟩ := mem_allW hm
  exact wD_nonneg t x y
theorem rowW_length (t : Int) (x : Nat) : ∀ k, (rowW t x k).length ≤ k
  | 0 => by simp [rowW]
  | k + 1 => by
    rw [rowW_succ, List.length_append]
    have := rowW_length t x k
    have : (cellW t x k).length ≤ 1 := by
      unfold cellW; split
      · simp
      · split <;> simp
    omega
theorem allW_length (t : Int) (f : Nat) : ∀ k, (allW t f k).length ≤ k * f
  | 0 => by simp [allW]
  | k + 1 => by
    rw [allW_succ, List.length_append, Nat.add_mul, Nat.one_mul]
    have := allW_length t f k
    have := rowW_length t k f
    omega
theorem qr_nil (gk : Nat) (h1 : gk < 10000000) (h2 : gk < 56000 ∨ 57000 ≤ gk) (h3 : gk < 276000 ∨ 277000 ≤ gk) (h4 : gk < 286000 ∨ 287000 ≤ gk) (h5 : gk < 304000 ∨ 305000 ≤ gk) : QrOk gk [] :=
  ⟨h1, h2, h3, h4, h5, kf_nil _ _, kf_nil _ _, kf_nil _ _, rfl, rfl, rfl, rfl, rfl, rfl, rfl, rfl, rfl, rfl, rfl, rfl, rfl, rfl⟩
theorem rd_nil : RdOk [] := ⟨rsOk_nil _, kf_nil _ _, rfl⟩
def whyF (t f : Int) : Int := if t < 1 ∨ 4 < t then 260 else if f < 2 ∨ 128 < f then 22 else 0
def WhyC (g : List AV → Option (List AV)) : Prop := ∀ t f : Int, g [i64 t, i64 f] = some [i64 (whyF t f)]
theorem law21_why_run (Γ : Env) (M : Nat) : WhyC (run Γ M law21_why_f) := by
  intro t f
  unfold whyF
  by_cases h1 : t < 1
  · simp -implicitDefEqProofs (disch := first | omega | (simp <;> fail) | assumption) [h1]
  · by_cases h2 : 4 < t
    · simp -implicitDefEqProofs (disch := first | omega | (simp <;> fail) | assumption) [h1, h2]
    · by_cases h3 : f < 2
      · simp -implicitDefEqProofs (disch := first | omega | (simp <;> fail) | assumption) [h1, h2, h3]
      · by_cases h4 : 128 < f
        · simp -implicitDefEqProofs (disch := first | omega | (simp <;> fail) | assumption) [h1, h2, h3, h4]
        · simp -implicitDefEqProofs (disch := first | omega | (simp <;> fail) | assumption) [h1, h2, h3, h4]
/-- Totals, pairs. -/
def TotalC (g : List AV → Option (List AV)) : Prop := (∀ t f : Int, whyF t f ≠ 0 → g [i64 t, i64 f] = some [i64 0, i64 (whyF t f)]) ∧ ∀ (t : Int) (f : Nat), 1 ≤ t → t ≤ 4 → 2 ≤ f → f ≤ 128 → g [i64 t, i64 f] = some [i64 (sumM (allW t f f)), i64 0]
theorem gridC_why {g : St → Option (List AV × List (Nat × Obj))} (h : GridC g) {t f : Int} (hw : whyF t f ≠ 0) {gs : List (Nat × AV)} {rest : List (Nat × Obj)} (h1 : GdOk gs) (h2 : RdOk rest) : g ⟨(0, i64 t) :: (1, i64 f) :: gs, rest⟩ = some ([.ot .np, i64 (whyF t f)], rest) := by
  unfold whyF at hw ⊢
  by_cases ht : t < 1 ∨ 4 < t
  · rw [if_pos ht]; exact h.1 t f gs rest h1 h2 ht
  · rw [if_neg ht] at hw ⊢
    by_cases hf : f < 2 ∨ 128 < f
    · rw [if_pos hf]; exact h.2.1 t f gs rest h1 h2 (by omega) (by omega) hf
    · rw [if_neg hf] at hw; exact absurd rfl hw
theorem demand_Total_run (Γ : Env) (M : Nat) (hG : GridC (Γ.pt 282)) (hS : SumC (Γ.pt 304)) : TotalC (run Γ M demand_Total_f) := by
  constructor
  · intro t f hw
    have e := fun gs a b c d => gridC_why hG (gs := gs) hw ⟨a, b, c, d⟩ rd_nil
    generalize whyF t f = y at *
    simp -implicitDefEqProofs (disch := first | omega | (simp <;> fail) | assumption) [e, hw]
  · intro t f h1 h4 hf2 hf
    have e := fun gs a b c d => hG.2.2 t f gs [] ⟨a, b, c, d⟩ rd_nil h1 h4 hf2 hf
    have hlx := lex_allW t f f
    have hll : (allW t f f).length ≤ 16384 := Nat.le_trans (allW_length t f f) (by have := Nat.mul_le_mul hf hf; omega)
    have hs := fun gs g n3 n4 ni l3 o4 o7 o9 l7 s5 => hS 282022 (growG (allW t f f)) gs [] (gok_grow hlx (by omega)) ⟨g, n3, n4, ni, l3, o4, o7, o9, l7, s5⟩ (qr_nil _ (by omega) (by omega) (by omega) (by omega) (by omega)) (by rw [entsG_grow, enL_length]; omega) (by rw [allM_grow hlx]; exact allW_vals)
    rw [allM_grow hlx] at hs
    simp only [List.append_nil] at e hs
    generalize grOb 282022 (growG (allW t f f)) = ob at *
    generalize sumM (allW t f f) = y at *
    simp -implicitDefEqProofs (disch := first | omega | (simp <;> fail) | assumption) [e, hs]
def PairC (g : List AV → Option (List AV)) : Prop := (∀ t f w : Int, whyF t f ≠ 0 → g [i64 t, i64 f, u32 w] = some [.agg [.int .i64 0, .int .i64 0], i64 (whyF t f)]) ∧ ∀ (t : Int) (f : Nat) (w : Int), 1 ≤ t → t ≤ 4 → 2 ≤ f → f ≤ 128 → 0 ≤ w → w ≤ 4294967295 → g [i64 t, i64 f, u32 w] = some [.agg (ansP w (allW t f f)).1, i64 (ansP w (allW t f f)).2]
theorem rd_six (o : Obj) (h : ∀ k, nmRows k o.rows = true) : RdOk [(6, o)] := ⟨⟨by simp, by simp [h], rfl, by simp [h], rfl, rfl⟩, by simp, by simp [h]⟩
theorem ansP_two (w : Int) (L : List W3) : ∃ a b : Int, (ansP w L).1 = [.int .i64 a, .int .i64 b] := by
  unfold ansP
  split
  · exact ⟨0, 0, rfl⟩
  · split
    · exact ⟨_, _, rfl⟩
    · exact ⟨0, 0, rfl⟩
theorem demand_Pair_run (Γ : Env) (M : Nat) (hG : GridC (Γ.pt 282)) (hO : OfC (Γ.pt 286)) : PairC (run Γ M demand_Pair_f) := by
  have h6 : RdOk [(6, ⟨2, [[.c (.int .i64 0), .c (.int .i64 0)]]⟩)] := rd_six _ fun k => rfl
  constructor
  · intro t f w hw
    have e := fun gs a b c d => gridC_why hG (gs := gs) hw ⟨a, b, c, d⟩ h6
    generalize whyF t f = y at *
    simp -implicitDefEqProofs (disch := first | omega | (simp <;> fail) | assumption) [e, hw]
  · intro t f w h1 h4 hf2 hf hw1 hw2
    have e := fun gs a b c d => hG.2.2 t f gs [(6, ⟨2, [[.c (.int .i64 0), .c (.int .i64 0)]]⟩)] ⟨a, b, c, d⟩ h6 h1 h4 hf2 hf
    have hlx := lex_allW t f f
    have hll : (allW t f f).length ≤ 16384 := Nat.le_trans (allW_length t f f) (by have := Nat.mul_le_mul hf hf; omega)
    have hq : QrOk 282022 [(6, ⟨2, [[.c (.int .i64 0), .c (.int .i64 0)]]⟩)] := ⟨by omega, by omega, by omega, by omega, by omega, by simp, by simp, by simp, rfl, rfl, rfl, rfl, rfl, rfl, rfl, rfl, rfl, rfl, rfl, rfl, rfl, rfl⟩
    have hi : Int64s ((allM (growG (allW t f f))).map (·.2.2)) := by
      rw [allM_grow hlx]
      intro n hn
      obtain ⟨m, hm, rfl⟩ := List.mem_map.1 hn
      have := allW_vals m hm
      omega
    have hs := fun gs g n3 n4 ni l3 o4 o7 o9 l7 s5 => hO 282022 (growG (allW t f f)) w gs _ (gok_grow hlx (by omega)) ⟨g, n3, n4, ni, l3, o4, o7, o9, l7, s5⟩ hq (by rw [entsG_grow, enL_length]; omega) hi hw1 hw2
    rw [allM_grow hlx] at hs
    generalize hob : grOb 282022 (growG (allW t f f)) ++ [(6, ⟨2, [[.c (.int .i64 0), .c (.int .i64 0)]]⟩)] = ob at *
    have hg6 : get ob 6 = some ⟨2, [[.c (.int .i64 0), .c (.int .i64 0)]]⟩ := by
      rw [← hob]
      cases growG (allW t f f) with
      | none => rfl
      | some p => rfl
    have hk6 : keepF 0 1000 [6] ob = ob := by
      rw [← hob]
      cases growG (allW t f f) with
      | none => rfl
      | some p => rfl
    obtain ⟨a, b, hab⟩ := ansP_two w (allW t f f)
    generalize ansP w (allW t f f) = y at *
    simp -implicitDefEqProofs (disch := first | omega | (simp <;> fail) | assumption) [e, hs, hk6, hg6, hab]
end Go.Am
