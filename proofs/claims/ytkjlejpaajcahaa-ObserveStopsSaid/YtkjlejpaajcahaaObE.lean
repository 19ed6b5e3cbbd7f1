/- Law 58: counts; is something in a row? -/
import Derived.Test.YtkjlejpaajcahaaObD
set_option linter.unusedVariables false
set_option linter.unusedSimpArgs false
set_option maxRecDepth 10000
set_option maxHeartbeats 2000000
namespace Go.Am
def AtC58 (g : List AV → Option (List AV)) : Prop := ∀ (l : List Trip) (c f : Int), l.length ≤ 100 → g [vT l, i64 c, i64 f] = some [i64 ((evO l).count (c, f) : Int)]
theorem observe_At_run (Γ : Env) (M : Nat) (hS : StopsC (Γ.pt 76)) : AtC58 (run Γ M observe_At_f) := by
  intro l c f hl
  have eS : ∀ gs, Gh gs → nmFr 76005 gs = true → nmFr 1461501637330902918203684832716283019655932618982 gs = true → Γ.pt 76 ⟨(0, vT l) :: gs, []⟩ = some ([.mp 1461501637330902918203684832716283019655932618982], [(1461501637330902918203684832716283019655932618982, ⟨(cntE (evO l)).1, roE (cntE (evO l)).2⟩)]) := fun gs a b c => hS l gs [] hl ⟨a, fun _ => rfl, b, c, rfl, rfl, rfl, rfl⟩
  rcases mfind_cnt (evO l) (c, f) with ⟨i, hf⟩ | ⟨hf, h0⟩
  · simp only [kkP] at hf
    generalize roE (cntE (evO l)).2 = R at *
    simp -implicitDefEqProofs (disch := first | omega | (simp <;> fail) | assumption) [eS, hf]
  · simp only [kkP] at hf
    generalize roE (cntE (evO l)).2 = R at *
    simp -implicitDefEqProofs (disch := first | omega | (simp <;> fail) | assumption) [eS, hf, h0]
theorem count_evO1 (t : Trip) (c f : Int) : (((evO1 t).count (c, f) : Nat) : Int) = (if t.car = c ∧ 0 ≤ t.board ∧ t.frm = f then 1 else 0) + (if t.car = c ∧ 0 ≤ t.alight ∧ t.to = f then 1 else 0) := by
  have key : ∀ (x y : Int) (p : Prop) [Decidable p], ((List.count (c, f) (if p then [(x, y)] else []) : Nat) : Int) = if x = c ∧ p ∧ y = f then 1 else 0 := by
    intro x y p _
    by_cases hp : p
    · by_cases h1 : x = c
      · by_cases h2 : y = f
        · simp [hp, h1, h2]
        · simp [hp, h1, h2]
      · simp [hp, h1]
    · simp [hp]
  unfold evO1
  rw [List.count_append, Int.natCast_add, key, key]
def CntC58 (g : List AV → Option (List AV)) : Prop := ∀ (l : List Trip) (c f : Int), l.length ≤ 100 → g [vT l, .agg [.int .i64 c, .int .i64 f]] = some [i64 ((evO l).count (c, f) : Int)]
theorem law58_count_run (Γ : Env) (M : Nat) (hM : 1000 < M) : CntC58 (run Γ M law58_count_f) := by
  intro l c f hl
  obtain ⟨ax, s', ⟨rfl, rfl⟩, hin⟩ : ∃ ax s', (ax = .ex 0 ∧ s' = ⟨[(5, i64 ((evO l).count (c, f) : Int))], []⟩) ∧ ∀ s0, nrm [0, 3, 5, 6] [3] s0 = ⟨[(0, vT l), (3, .loc 3 0 0), (5, i64 ((evO (l.take 0)).count (c, f) : Int)), (6, i64 (0 : Nat))], [(3, ⟨2, [[i64 c, i64 f]]⟩)]⟩ → lp (exec Γ M law58_count_l1) M s0 = some (ax, s') := by
    refine lp_all (fun q : Nat => ⟨[(0, vT l), (3, .loc 3 0 0), (5, i64 ((evO (l.take q)).count (c, f) : Int)), (6, i64 q)], [(3, ⟨2, [[i64 c, i64 f]]⟩)]⟩) (fun q => q ≤ l.length) (fun q => l.length - q) _ 0 M (by simp) (by omega) (by omega) ?_
    intro q hq
    by_cases hlt : q < l.length
    · obtain ⟨t, ht⟩ : ∃ w, l[q]'hlt = w := ⟨_, rfl⟩
      have hrow : (l.map Trip.cells)[q]? = some t.cells := by simp [hlt, ht]
      have hev := evO_take hlt
      rw [ht] at hev
      have hle : ((evO (l.take q)).count (c, f) : Int) ≤ 1000 := by
        have h1 := List.count_le_length (a := (c, f)) (l := evO (l.take q))
        have h2 := evO_len (l.take q)
        rw [List.length_take] at h2
        omega
      have h0 : (0 : Int) ≤ ((evO (l.take q)).count (c, f) : Int) := by omega
      have fin : ∀ n : Int, n = ((evO (l.take q)).count (c, f) : Int) + ((evO1 t).count (c, f) : Int) → ∃ q' : Nat, (⟨[(0, vT l), (3, .loc 3 0 0), (5, i64 n), (6, i64 ((q : Int) + 1))], [(3, ⟨2, [[i64 c, i64 f]]⟩)]⟩ : St) = ⟨[(0, vT l), (3, .loc 3 0 0), (5, i64 ((evO (l.take q')).count (c, f) : Int)), (6, i64 q')], [(3, ⟨2, [[i64 c, i64 f]]⟩)]⟩ ∧ q' ≤ l.length ∧ l.length - q' < l.length - q := by
        rintro n rfl
        exact ⟨q + 1, by rw [hev, List.count_append]; simp, by omega, by omega⟩
      have hc1 := count_evO1 t c f
      generalize ((evO1 t).count (c, f) : Int) = d at *
      generalize ((evO (l.take q)).count (c, f) : Int) = n at *
      simp only [Trip.cells] at hrow
      obtain ⟨q', fq⟩ := fin _ rfl
      by_cases k1 : t.car = c
      · by_cases k2 : 0 ≤ t.board <;> by_cases k3 : t.frm = f <;> by_cases k4 : 0 ≤ t.alight <;> by_cases k5 : t.to = f <;> (
        simp only [k1, k2, k3, k4, k5, and_self, and_true, true_and, and_false, false_and, if_true, if_false] at hc1
        subst hc1
        simp -implicitDefEqProofs (disch := first | omega | (simp <;> fail) | assumption) [hlt, hrow, k1, k2, k3, k4, k5]
        exact ⟨q', by simpa [Int.add_assoc] using fq⟩)
      · simp only [k1, false_and, if_false] at hc1
        subst hc1
        simp -implicitDefEqProofs (disch := first | omega | (simp <;> fail) | assumption) [hlt, hrow, k1]
        exact ⟨q', by simpa using fq⟩
    · obtain rfl : q = l.length := by omega
      simp -implicitDefEqProofs (disch := first | omega | (simp <;> fail) | assumption) []
  have hin2 := hin ⟨[(0, vT l), (3, .loc 3 0 0), (5, .c (.int .i64 0)), (6, .c (.int .i64 0))], [(3, ⟨2, [[i64 c, i64 f]]⟩)]⟩ (by simp [evO])
  simp -implicitDefEqProofs (disch := first | omega | (simp <;> fail) | assumption) [hin2]
def AtF58 (g : List AV → Option (List AV)) : Prop := ∀ (l : List Trip) (f : Int), l.length ≤ 100 → g [vT l, i64 f] = some [i64 ((flO l).count f : Int)]
theorem flO_take {l : List Trip} {k : Nat} (h : k < l.length) : flO (l.take (k + 1)) = flO (l.take k) ++ (evO1 l[k]).map (·.2) := by
  unfold flO; rw [evO_take h, List.map_append]
theorem flO_len (l : List Trip) : (flO l).length ≤ 2 * l.length := by unfold flO; rw [List.length_map]; exact evO_len l
theorem count_fl1 (t : Trip) (f : Int) : ((((evO1 t).map (·.2)).count f : Nat) : Int) = (if 0 ≤ t.board ∧ t.frm = f then 1 else 0) + (if 0 ≤ t.alight ∧ t.to = f then 1 else 0) := by
  unfold evO1
  by_cases k2 : 0 ≤ t.board <;> by_cases k3 : t.frm = f <;> by_cases k4 : 0 ≤ t.alight <;> by_cases k5 : t.to = f <;> simp [k2, k3, k4, k5]
theorem law58_at_run (Γ : Env) (M : Nat) (hM : 1000 < M) : AtF58 (run Γ M law58_at_f) := by
  intro l f hl
  obtain ⟨ax, s', ⟨rfl, rfl⟩, hin⟩ : ∃ ax s', (ax = .ex 0 ∧ s' = ⟨[(5, i64 ((flO l).count f : Int))], []⟩) ∧ ∀ s0, nrm [0, 1, 5, 6] [] s0 = ⟨[(0, vT l), (1, i64 f), (5, i64 ((flO (l.take 0)).count f : Int)), (6, i64 (0 : Nat))], []⟩ → lp (exec Γ M law58_at_l1) M s0 = some (ax, s') := by
    refine lp_all (fun q : Nat => ⟨[(0, vT l), (1, i64 f), (5, i64 ((flO (l.take q)).count f : Int)), (6, i64 q)], []⟩) (fun q => q ≤ l.length) (fun q => l.length - q) _ 0 M (by simp) (by omega) (by omega) ?_
    intro q hq
    by_cases hlt : q < l.length
    · obtain ⟨t, ht⟩ : ∃ w, l[q]'hlt = w := ⟨_, rfl⟩
      have hrow : (l.map Trip.cells)[q]? = some t.cells := by simp [hlt, ht]
      have hev := flO_take hlt
      rw [ht] at hev
      have hle : ((flO (l.take q)).count f : Int) ≤ 1000 := by
        have h1 := List.count_le_length (a := f) (l := flO (l.take q))
        have h2 := flO_len (l.take q)
        rw [List.length_take] at h2
        omega
      have h0 : (0 : Int) ≤ ((flO (l.take q)).count f : Int) := by omega
      have fin : ∀ n : Int, n = ((flO (l.take q)).count f : Int) + (((evO1 t).map (·.2)).count f : Int) → ∃ q' : Nat, (⟨[(0, vT l), (1, i64 f), (5, i64 n), (6, i64 ((q : Int) + 1))], []⟩ : St) = ⟨[(0, vT l), (1, i64 f), (5, i64 ((flO (l.take q')).count f : Int)), (6, i64 q')], []⟩ ∧ q' ≤ l.length ∧ l.length - q' < l.length - q := by
        rintro n rfl
        exact ⟨q + 1, by rw [hev, List.count_append]; simp, by omega, by omega⟩
      have hc1 := count_fl1 t f
      generalize (((evO1 t).map (·.2)).count f : Int) = d at *
      generalize ((flO (l.take q)).count f : Int) = n at *
      simp only [Trip.cells] at hrow
      obtain ⟨q', fq⟩ := fin _ rfl
      by_cases k2 : 0 ≤ t.board <;> by_cases k3 : t.frm = f <;> by_cases k4 : 0 ≤ t.alight <;> by_cases k5 : t.to = f <;> (
        simp only [k2, k3, k4, k5, and_self, and_true, true_and, and_false, false_and, if_true, if_false] at hc1
        subst hc1
        simp -implicitDefEqProofs (disch := first | omega | (simp <;> fail) | assumption) [hlt, hrow, k2, k3, k4, k5]
        exact ⟨q', by simpa [Int.add_assoc] using fq⟩)
    · obtain rfl : q = l.length := by omega
      simp -implicitDefEqProofs (disch := first | omega | (simp <;> fail) | assumption) []
  have hin2 := hin ⟨[(0, vT l), (1, i64 f), (5, .c (.int .i64 0)), (6, .c (.int .i64 0))], []⟩ (by simp [evO, flO])
  simp -implicitDefEqProofs (disch := first | omega | (simp <;> fail) | assumption) [hin2]
/-! ### Is something in a row? -/
def c2O (k : P2) : List D := [.int .i64 k.1, .int .i64 k.2]
def IdxC58 (g : List AV → Option (List AV)) : Prop := ∀ (S : List P2) (k : P2), S.length ≤ 1000 → ∃ n : Int, g [.c (.vs 2 (S.map c2O)), .agg (c2O k)] = some [i64 n] ∧ (0 ≤ n ↔ k ∈ S)
theorem slices_Index58_run (Γ : Env) (M : Nat) (hM : 2000 < M) : IdxC58 (run Γ M slices_Index_Sobserve_Stop_observe_Stop_f) := by
  intro S k hl
  obtain ⟨ax, s', hR, hin⟩ : ∃ ax s', ((ax = .ex 0 ∧ s' = ⟨[], []⟩ ∧ k ∉ S) ∨ (ax = .ret ∧ ∃ j : Nat, s' = ⟨[(4, i64 j)], []⟩ ∧ k ∈ S)) ∧ ∀ s0, nrm [0, 3, 7, 8] [3] s0 = ⟨[(0, .c (.vs 2 (S.map c2O))), (3, .loc 3 0 0), (7, i64 S.length), (8, i64 (0 : Nat))], [(3, ⟨2, [[i64 k.1, i64 k.2]]⟩)]⟩ → lp (exec Γ M slices_Index_Sobserve_Stop_observe_Stop_l1) M s0 = some (ax, s') := by
    refine lp_all (fun q : Nat => ⟨[(0, .c (.vs 2 (S.map c2O))), (3, .loc 3 0 0), (7, i64 S.length), (8, i64 q)], [(3, ⟨2, [[i64 k.1, i64 k.2]]⟩)]⟩) (fun q => q ≤ S.length ∧ k ∉ S.take q) (fun q => S.length - q) _ 0 M (by simp) (by simp) (by omega) ?_
    rintro q ⟨hq, hno⟩
    by_cases hlt : q < S.length
    · obtain ⟨⟨x, y⟩, hx⟩ : ∃ w, S[q]'hlt = w := ⟨_, rfl⟩
      have hrow : (S.map c2O)[q]? = some [.int .i64 x, .int .i64 y] := by simp [hlt, hx, c2O]
      by_cases hk : k.1 = x ∧ k.2 = y
      · have hm : k ∈ S := by
          have : k = (x, y) := Prod.ext hk.1 hk.2
          rw [this, ← hx]; exact List.getElem_mem hlt
        simp -implicitDefEqProofs (disch := first | omega | (simp <;> fail) | assumption) [hlt, hrow, hk.1, hk.2, hm]
        exact ⟨q, rfl⟩
      · have hn : k ∉ S.take (q + 1) := by
          rw [List.take_succ_eq_append_getElem hlt, hx, List.mem_append, List.mem_singleton]
          rintro (h | h)
          · exact hno h
          · exact hk (by rw [h]; exact ⟨rfl, rfl⟩)
        have hk' : k.1 = x → ¬ k.2 = y := fun a b => hk ⟨a, b⟩
        by_cases h1 : k.1 = x
        · have h2 := hk' h1
          simp -implicitDefEqProofs (disch := first | omega | (simp <;> fail) | assumption) [hlt, hrow, h1, h2]
          exact ⟨q + 1, by omega, ⟨by omega, hn⟩, by omega⟩
        · simp -implicitDefEqProofs (disch := first | omega | (simp <;> fail) | assumption) [hlt, hrow, h1]
          exact ⟨q + 1, by omega, ⟨by omega, hn⟩, by omega⟩
    · obtain rfl : q = S.length := by omega
      rw [List.take_length] at hno
      simp -implicitDefEqProofs (disch := first | omega | (simp <;> fail) | assumption) []
      exact hno
  have hin2 := hin ⟨[(0, .c (.vs 2 (S.map c2O))), (3, .loc 3 0 0), (7, i64 S.length), (8, .c (.int .i64 0))], [(3, ⟨2, [[i64 k.1, i64 k.2]]⟩)]⟩ (by simp)
  rcases hR with ⟨rfl, rfl, hm⟩ | ⟨rfl, j, rfl, hm⟩
  · exact ⟨-1, by simp -implicitDefEqProofs (disch := first | omega | (simp <;> fail) | assumption) [hin2, c2O], by simp [hm]⟩
  · exact ⟨j, by simp -implicitDefEqProofs (disch := first | omega | (simp <;> fail) | assumption) [hin2, c2O], by simp [hm]⟩
def ConC58 (g : List AV → Option (List AV)) : Prop := ∀ (S : List P2) (k : P2), S.length ≤ 1000 → g [.c (.vs 2 (S.map c2O)), .agg (c2O k)] = some [bo (decide (k ∈ S))]
theorem slices_Contains58_run (Γ : Env) (M : Nat) (hI : IdxC58 (Γ 461)) : ConC58 (run Γ M slices_Contains_Sobserve_Stop_observe_Stop_f) := by
  intro S k hl
  obtain ⟨n, h1, h2⟩ := hI S k hl
  simp only [c2O] at h1
  by_cases hk : k ∈ S
  · have := h2.2 hk
    simp -implicitDefEqProofs (disch := first | omega | (simp <;> fail) | assumption) [h1, hk, this, c2O]
  · have : ¬ 0 ≤ n := fun h => hk (h2.1 h)
    simp -implicitDefEqProofs (disch := first | omega | (simp <;> fail) | assumption) [h1, hk, this, c2O]
end Go.Am
