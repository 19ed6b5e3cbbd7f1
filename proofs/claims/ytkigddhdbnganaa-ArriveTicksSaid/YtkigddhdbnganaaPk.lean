/- A choice by weights, and the reference's. -/
import Derived.Test.YtkigddhdbnganaaGrG

set_option linter.unusedVariables false
set_option linter.unusedSimpArgs false
set_option maxRecDepth 10000
set_option maxHeartbeats 1000000
namespace Go.Am
abbrev u32 (n : Int) : AV := .c (.int .u32 n)
theorem wrapK_u32 {n : Int} (h1 : 0 ≤ n) (h2 : n ≤ 4294967295) : wrapK .u32 n = n := by
  unfold wrapK; rw [IntKind.wrap_u32]; omega
abbrev nsV (ns : List Int) : AV := .c (.vs 1 (ns.map fun n => [.int .i64 n]))
/-! ### Plain -/
def sumCap : Int → List Int → Option Int
  | a, [] => some a
  | a, n :: l => if n > 2147483648 - a then none else sumCap (a + n) l
def totF (ns : List Int) : Int × Int := if ns.any (fun n => decide (n < 0)) then (0, 22) else match sumCap 0 ns with
  | none => (0, 21)
  | some t => if t = 0 then (0, 22) else (t, 0)
def findR : Int → List Int → Nat → Int × Int
  | r, [], _ => (0, 22)
  | r, n :: l, i => if r < n then ((i : Int), 0) else findR (r - n) l (i + 1)
def pickF (w : Int) (ns : List Int) : Int × Int := if (totF ns).2 ≠ 0 then (0, (totF ns).2) else findR (w * (totF ns).1 / 4294967296) ns 0
theorem sumCap_bound : ∀ {l : List Int} {a t : Int}, (∀ n ∈ l, 0 ≤ n) → 0 ≤ a → a ≤ 2147483648 → sumCap a l = some t → a ≤ t ∧ t ≤ 2147483648
  | [], a, t, _, h1, h2, h => by simp only [sumCap, Option.some.injEq] at h; omega
  | n :: l, a, t, hn, h1, h2, h => by
    simp only [sumCap] at h
    split at h
    · simp at h
    · have := hn n (by simp)
      have := sumCap_bound (fun m hm => hn m (by simp [hm])) (by omega) (by omega) h
      omega
theorem totF_bound {ns : List Int} : 0 ≤ (totF ns).1 ∧ (totF ns).1 ≤ 2147483648 := by
  unfold totF
  split
  · simp
  · rename_i hneg
    have hn : ∀ n ∈ ns, 0 ≤ n := fun n hn => by
      simp only [List.any_eq_true, decide_eq_true_eq, not_exists, not_and] at hneg
      have := hneg n hn; omega
    split
    · simp
    · rename_i t ht
      have := sumCap_bound hn (by omega) (by omega) ht
      split <;> simp <;> omega
theorem any_drop_step {ns : List Int} {k : Nat} (h : k < ns.length) {t : Int} (ht : ns[k] = t) : ns.drop k = t :: ns.drop (k + 1) := by rw [List.drop_eq_getElem_cons h, ht]
abbrev Int64s (ns : List Int) : Prop := ∀ n ∈ ns, -9223372036854775808 ≤ n ∧ n ≤ 9223372036854775807
def TotC (g : List AV → Option (List AV)) : Prop := ∀ ns : List Int, Int64s ns → ns.length ≤ 100000 → g [nsV ns] = some [i64 (totF ns).1, i64 (totF ns).2]
def ScaleC (g : List AV → Option (List AV)) : Prop := ∀ w n : Int, 0 ≤ w → w ≤ 4294967295 → 0 ≤ n → n ≤ 4294967295 → g [u32 w, u32 n] = some [u32 (w * n / 4294967296)]
def PickC (g : List AV → Option (List AV)) : Prop := ∀ (w : Int) (ns : List Int), 0 ≤ w → w ≤ 4294967295 → Int64s ns → ns.length ≤ 100000 → g [u32 w, nsV ns] = some [i64 (pickF w ns).1, i64 (pickF w ns).2]
theorem mul_u32 {w n : Int} (h1 : 0 ≤ w) (h2 : w ≤ 4294967295) (h3 : 0 ≤ n) (h4 : n ≤ 4294967295) : 0 ≤ w * n ∧ w * n ≤ 18446744065119617025 := by
  refine ⟨Int.mul_nonneg h1 h3, ?_⟩
  calc w * n ≤ 4294967295 * n := Int.mul_le_mul_of_nonneg_right h2 h3
    _ ≤ 4294967295 * 4294967295 := Int.mul_le_mul_of_nonneg_left h4 (by omega)
theorem words_Scale_run (Γ : Env) (M : Nat) : ScaleC (run Γ M words_Scale_f) := by
  intro w n h1 h2 h3 h4
  obtain ⟨a1, a2⟩ := mul_u32 h1 h2 h3 h4
  generalize hp : w * n = p at *
  have e : p.fdiv (2 ^ min 32 IntKind.u64.bits) = p / 4294967296 := Int.fdiv_eq_ediv_of_nonneg p (by decide)
  have e2 : wrapK .u32 (p / 4294967296) = p / 4294967296 := wrapK_u32 (by omega) (by omega)
  simp -implicitDefEqProofs (disch := first | omega | assumption) [hp, e, e2]
theorem pick_Total_run (Γ : Env) (M : Nat) (hM : 100000 < M) : TotC (run Γ M pick_Total_f) := by
  intro ns hw hl
  obtain ⟨ax, s', hR, hin⟩ : ∃ ax s', (ax = (if ns.any (fun n => decide (n < 0)) = true then .ret else .ex 0) ∧ s' = (if ns.any (fun n => decide (n < 0)) = true then ⟨[(2, i64 0), (3, i64 22)], []⟩ else ⟨[(0, nsV ns), (4, i64 0)], []⟩)) ∧ ∀ s0, nrm [0, 4, 9, 10, 11] [] s0 = ⟨[(0, nsV ns), (4, i64 0), (9, nsV ns), (10, i64 ns.length), (11, i64 (0 : Nat))], []⟩ → lp (exec Γ M pick_Total_l2) M s0 = some (ax, s') := by
    refine lp_all (fun q : Nat => ⟨[(0, nsV ns), (4, i64 0), (9, nsV ns), (10, i64 ns.length), (11, i64 q)], []⟩) (fun q => q ≤ ns.length ∧ ns.any (fun n => decide (n < 0)) = (ns.drop q).any (fun n => decide (n < 0))) (fun q => ns.length - q) _ 0 M (by simp) (by simp) (by omega) ?_
    intro k ⟨hk, hd⟩
    by_cases hlt : k < ns.length
    · obtain ⟨t, ht⟩ : ∃ t, ns[k] = t := ⟨_, rfl⟩
      rw [any_drop_step hlt ht, List.any_cons] at hd
      have hw' := hw t (by rw [← ht]; exact List.getElem_mem hlt)
      by_cases hneg : t < 0
      · rw [hd]
        simp -implicitDefEqProofs (disch := first | omega | (simp <;> fail) | assumption) [hlt, ht, hneg]
      · simp only [hneg, decide_false, Bool.false_or] at hd
        rw [hd]
        simp -implicitDefEqProofs (disch := first | omega | (simp <;> fail) | assumption) [hlt, ht, hneg]
        exact ⟨k + 1, by omega, ⟨by omega, rfl⟩, by omega⟩
    · obtain rfl : k = ns.length := by omega
      rw [hd]
      simp -implicitDefEqProofs (disch := first | omega | (simp <;> fail) | assumption)
  by_cases hneg : ns.any (fun n => decide (n < 0)) = true
  · rw [if_pos hneg, if_pos hneg] at hR
    obtain ⟨rfl, rfl⟩ := hR
    have ht : totF ns = (0, 22) := by unfold totF; rw [if_pos hneg]
    simp -implicitDefEqProofs (disch := first | omega | (simp <;> fail) | assumption) [hin, ht]
  · rw [if_neg hneg, if_neg hneg] at hR
    obtain ⟨rfl, rfl⟩ := hR
    obtain ⟨ax, s', hR, hin2⟩ : ∃ ax s', (match sumCap 0 ns with | none => ax = .ret ∧ s' = ⟨[(2, i64 0), (3, i64 21)], []⟩ | some t => ax = .ex 2 ∧ s' = ⟨[(4, i64 t)], []⟩) ∧ ∀ s0, nrm [4, 18, 19, 20] [] s0 = ⟨[(4, i64 0), (18, nsV ns), (19, i64 ns.length), (20, i64 (0 : Nat))], []⟩ → lp (exec Γ M pick_Total_l1) M s0 = some (ax, s') := by
      refine lp_all (fun q : Nat × Int => ⟨[(4, i64 q.2), (18, nsV ns), (19, i64 ns.length), (20, i64 q.1)], []⟩) (fun q => q.1 ≤ ns.length ∧ 0 ≤ q.2 ∧ q.2 ≤ 2147483648 ∧ sumCap 0 ns = sumCap q.2 (ns.drop q.1)) (fun q => ns.length - q.1) _ (0, 0) M (by simp) (by simp) (by simp; omega) ?_
      rintro ⟨k, a⟩ ⟨hk, h1, h2, hd⟩
      simp only at hk h1 h2 hd ⊢
      by_cases hlt : k < ns.length
      · obtain ⟨t, ht⟩ : ∃ t, ns[k] = t := ⟨_, rfl⟩
        have hw' := hw t (by rw [← ht]; exact List.getElem_mem hlt)
        have ht0 : 0 ≤ t := by
          simp only [List.any_eq_true, decide_eq_true_eq, not_exists, not_and] at hneg
          have := hneg t (by rw [← ht]; exact List.getElem_mem hlt); omega
        rw [any_drop_step hlt ht, sumCap] at hd
        rw [hd]
        by_cases hgt : t > 2147483648 - a
        · rw [if_pos hgt]
          simp -implicitDefEqProofs (disch := first | omega | (simp <;> fail) | assumption) [hlt, ht, hgt]
        · rw [if_neg hgt] at hd ⊢
          have hgt' : ¬ 2147483648 - a < t := hgt
          simp -implicitDefEqProofs (disch := first | omega | (simp <;> fail) | assumption) [hlt, ht, hgt']
          exact ⟨k + 1, a + t, by simp, ⟨by omega, by omega, by omega, rfl⟩, by omega⟩
      · obtain rfl : k = ns.length := by omega
        rw [hd]
        simp -implicitDefEqProofs (disch := first | omega | (simp <;> fail) | assumption) [sumCap]
    have htf : totF ns = match sumCap 0 ns with | none => (0, 21) | some t => if t = 0 then (0, 22) else (t, 0) := by unfold totF; rw [if_neg hneg]
    cases hs : sumCap 0 ns with
    | none =>
      rw [hs] at hR htf
      obtain ⟨rfl, rfl⟩ := hR
      simp -implicitDefEqProofs (disch := first | omega | (simp <;> fail) | assumption) [hin, hin2, htf]
    | some t =>
      rw [hs] at hR htf
      obtain ⟨rfl, rfl⟩ := hR
      by_cases h0 : t = 0
      · subst h0
        simp -implicitDefEqProofs (disch := first | omega | (simp <;> fail) | assumption) [hin, hin2, htf]
      · simp -implicitDefEqProofs (disch := first | omega | (simp <;> fail) | assumption) [hin, hin2, htf, h0]
theorem sumCap_le : ∀ {l : List Int} {a t : Int}, (∀ n ∈ l, 0 ≤ n) → 0 ≤ a → sumCap a l = some t → ∀ n ∈ l, n ≤ 2147483648
  | n :: l, a, t, hn, h1, h, m, hm => by
    simp only [sumCap] at h
    split at h
    · simp at h
    · have := hn n (by simp)
      rcases List.mem_cons.1 hm with rfl | hm
      · omega
      · exact sumCap_le (fun m hm => hn m (by simp [hm])) (by omega) h m hm
theorem totF_ok {ns : List Int} (h : (totF ns).2 = 0) : ∀ n ∈ ns, 0 ≤ n ∧ n ≤ 2147483648 := by
  unfold totF at h
  split at h
  · simp at h
  · rename_i hneg
    have hn : ∀ n ∈ ns, 0 ≤ n := fun n hn => by
      simp only [List.any_eq_true, decide_eq_true_eq, not_exists, not_and] at hneg
      have := hneg n hn; omega
    split at h
    · simp at h
    · rename_i t ht
      exact fun n hm => ⟨hn n hm, sumCap_le hn (by omega) ht n hm⟩
theorem scale_bound {w n : Int} (h1 : 0 ≤ w) (h2 : w ≤ 4294967295) (h3 : 0 ≤ n) (h4 : n ≤ 2147483648) : 0 ≤ w * n / 4294967296 ∧ w * n / 4294967296 ≤ 2147483648 := by
  have a : 0 ≤ w * n := Int.mul_nonneg h1 h3
  have b : w * n ≤ 4294967295 * 2147483648 := Int.le_trans (Int.mul_le_mul_of_nonneg_right h2 h3) (Int.mul_le_mul_of_nonneg_left h4 (by omega))
  generalize w * n = p at *
  omega
theorem pick_Of_run (Γ : Env) (M : Nat) (hM : 100000 < M) (hT : TotC (Γ 318)) (hS : ScaleC (Γ 317)) : PickC (run Γ M pick_Of_f) := by
  intro w ns h1 h2 hw hl
  have e1 := hT ns hw hl
  by_cases h0 : (totF ns).2 = 0
  · have hb := totF_bound (ns := ns)
    have hok := totF_ok h0
    have hsb := scale_bound h1 h2 hb.1 hb.2
    have e2 := hS w (totF ns).1 h1 h2 hb.1 (by omega)
    have hpf : pickF w ns = findR (w * (totF ns).1 / 4294967296) ns 0 := by unfold pickF; rw [if_neg (by simp [h0])]
    rw [h0] at e1
    generalize (totF ns).1 = T at *
    have e3 : wrapK .u32 T = T := wrapK_u32 (by omega) (by omega)
    generalize hr0 : w * T / 4294967296 = r0 at *
    obtain ⟨ax, s', hR, hin⟩ : ∃ ax s', ((∃ i : Int, findR r0 ns 0 = (i, 0) ∧ ax = .ret ∧ s' = ⟨[(4, i64 i), (5, i64 0)], []⟩) ∨ (findR r0 ns 0 = (0, 22) ∧ ax = .ex 0 ∧ s' = ⟨[], []⟩)) ∧ ∀ s0, nrm [8, 24, 25, 26] [] s0 = ⟨[(8, i64 r0), (24, nsV ns), (25, i64 ns.length), (26, i64 (0 : Nat))], []⟩ → lp (exec Γ M pick_Of_l1) M s0 = some (ax, s') := by
      refine lp_all (fun q : Nat × Int => ⟨[(8, i64 q.2), (24, nsV ns), (25, i64 ns.length), (26, i64 q.1)], []⟩) (fun q => q.1 ≤ ns.length ∧ 0 ≤ q.2 ∧ q.2 ≤ 2147483648 ∧ findR r0 ns 0 = findR q.2 (ns.drop q.1) q.1) (fun q => ns.length - q.1) _ (0, r0) M (by simp) (by simp; omega) (by simp; omega) ?_
      rintro ⟨k, r⟩ ⟨hk, h1, h2, hd⟩
      simp only at hk h1 h2 hd ⊢
      by_cases hlt : k < ns.length
      · obtain ⟨t, ht⟩ : ∃ t, ns[k] = t := ⟨_, rfl⟩
        have hw' := hok t (by rw [← ht]; exact List.getElem_mem hlt)
        rw [any_drop_step hlt ht, findR] at hd
        rw [hd]
        by_cases hgt : r < t
        · rw [if_pos hgt]
          simp -implicitDefEqProofs (disch := first | omega | (simp <;> fail) | assumption) [hlt, ht, hgt]
        · rw [if_neg hgt] at hd ⊢
          simp -implicitDefEqProofs (disch := first | omega | (simp <;> fail) | assumption) [hlt, ht, hgt]
          exact ⟨k + 1, r - t, by simp, ⟨by omega, by omega, by omega, rfl⟩, by omega⟩
      · obtain rfl : k = ns.length := by omega
        rw [hd]
        simp -implicitDefEqProofs (disch := first | omega | (simp <;> fail) | assumption) [findR]
    rcases hR with ⟨i, hf, rfl, rfl⟩ | ⟨hf, rfl, rfl⟩
    · rw [hpf, hf]
      simp -implicitDefEqProofs (disch := first | omega | (simp <;> fail) | assumption) [hin, e1, e2, e3]
    · rw [hpf, hf]
      simp -implicitDefEqProofs (disch := first | omega | (simp <;> fail) | assumption) [hin, e1, e2, e3]
  · have hpf : pickF w ns = (0, (totF ns).2) := by unfold pickF; rw [if_pos h0]
    rw [hpf]
    generalize (totF ns).1 = T at *
    generalize (totF ns).2 = E at *
    simp -implicitDefEqProofs (disch := first | omega | (simp <;> fail) | assumption) [e1, h0]
/-! ### The reference's -/
theorem ref13_Total_run (Γ : Env) (M : Nat) (hM : 100000 < M) : TotC (run Γ M ref13_Total_f) := by
  intro ns hw hl
  obtain ⟨ax, s', hR, hin⟩ : ∃ ax s', (ax = (if ns.any (fun n => decide (n < 0)) = true then .ret else .ex 0) ∧ s' = (if ns.any (fun n => decide (n < 0)) = true then ⟨[(2, i64 0), (3, i64 22)], []⟩ else ⟨[(0, nsV ns), (4, u64 0)], []⟩)) ∧ ∀ s0, nrm [0, 4, 5] [] s0 = ⟨[(0, nsV ns), (4, u64 0), (5, i64 (0 : Nat))], []⟩ → lp (exec Γ M ref13_Total_l2) M s0 = some (ax, s') := by
    refine lp_all (fun q : Nat => ⟨[(0, nsV ns), (4, u64 0), (5, i64 q)], []⟩) (fun q => q ≤ ns.length ∧ ns.any (fun n => decide (n < 0)) = (ns.drop q).any (fun n => decide (n < 0))) (fun q => ns.length - q) _ 0 M (by simp) (by simp) (by omega) ?_
    intro k ⟨hk, hd⟩
    by_cases hlt : k < ns.length
    · obtain ⟨t, ht⟩ : ∃ t, ns[k] = t := ⟨_, rfl⟩
      rw [any_drop_step hlt ht, List.any_cons] at hd
      have hw' := hw t (by rw [← ht]; exact List.getElem_mem hlt)
      by_cases hneg : t < 0
      · rw [hd]
        simp -implicitDefEqProofs (disch := first | omega | (simp <;> fail) | assumption) [hlt, ht, hneg]
      · simp only [hneg, decide_false, Bool.false_or] at hd
        rw [hd]
        simp -implicitDefEqProofs (disch := first | omega | (simp <;> fail) | assumption) [hlt, ht, hneg]
        exact ⟨k + 1, by omega, ⟨by omega, rfl⟩, by omega⟩
    · obtain rfl : k = ns.length := by omega
      rw [hd]
      simp -implicitDefEqProofs (disch := first | omega | (simp <;> fail) | assumption)
  by_cases hneg : ns.any (fun n => decide (n < 0)) = true
  · rw [if_pos hneg, if_pos hneg] at hR
    obtain ⟨rfl, rfl⟩ := hR
    have ht : totF ns = (0, 22) := by unfold totF; rw [if_pos hneg]
    simp -implicitDefEqProofs (disch := first | omega | (simp <;> fail) | assumption) [hin, ht]
  · rw [if_neg hneg, if_neg hneg] at hR
    obtain ⟨rfl, rfl⟩ := hR
    obtain ⟨ax, s', ⟨a, ha, rfl, rfl⟩, hin2⟩ : ∃ ax s', (∃ a : Int, (0 ≤ a ∧ a ≤ 18446744073709551615 ∧ ((sumCap 0 ns = none ∧ 2147483648 < a) ∨ (sumCap 0 ns = some a ∧ a ≤ 2147483648))) ∧ ax = .ex 2 ∧ s' = ⟨[(4, u64 a)], []⟩) ∧ ∀ s0, nrm [0, 4, 6] [] s0 = ⟨[(0, nsV ns), (4, u64 0), (6, i64 (0 : Nat))], []⟩ → lp (exec Γ M ref13_Total_l1) M s0 = some (ax, s') := by
      refine lp_all (fun q : Nat × Int => ⟨[(0, nsV ns), (4, u64 q.2), (6, i64 q.1)], []⟩) (fun q => q.1 ≤ ns.length ∧ 0 ≤ q.2 ∧ q.2 ≤ 18446744073709551615 ∧ ((sumCap 0 ns = none ∧ 2147483648 < q.2) ∨ (sumCap 0 ns = sumCap q.2 (ns.drop q.1) ∧ q.2 ≤ 2147483648))) (fun q => ns.length - q.1) _ (0, 0) M (by simp) (by simp) (by simp; omega) ?_
      rintro ⟨k, a⟩ ⟨hk, h1, h2, hd⟩
      simp only at hk h1 h2 hd ⊢
      rcases hd with ⟨hd, hgt⟩ | ⟨hd, hle⟩
      · by_cases hlt : k < ns.length
        · have hgt' : ¬ a ≤ 2147483648 := by omega
          simp -implicitDefEqProofs (disch := first | omega | (simp <;> fail) | assumption) [hlt, hgt']
          first | exact ⟨by omega, by omega, .inl ⟨hd, by omega⟩⟩ | exact ⟨by omega, by omega, hd, by omega⟩ | exact ⟨by omega, by omega, hd⟩
        · obtain rfl : k = ns.length := by omega
          simp -implicitDefEqProofs (disch := first | omega | (simp <;> fail) | assumption)
          first | exact ⟨by omega, by omega, .inl ⟨hd, by omega⟩⟩ | exact ⟨by omega, by omega, hd, by omega⟩ | exact ⟨by omega, by omega, hd⟩
      · by_cases hlt : k < ns.length
        · obtain ⟨t, ht⟩ : ∃ t, ns[k] = t := ⟨_, rfl⟩
          have hw' := hw t (by rw [← ht]; exact List.getElem_mem hlt)
          have ht0 : 0 ≤ t := by
            simp only [List.any_eq_true, decide_eq_true_eq, not_exists, not_and] at hneg
            have := hneg t (by rw [← ht]; exact List.getElem_mem hlt); omega
          rw [any_drop_step hlt ht, sumCap] at hd
          simp -implicitDefEqProofs (disch := first | omega | (simp <;> fail) | assumption) [hlt, ht, hle]
          refine ⟨k + 1, a + t, by simp, ⟨by omega, by omega, by omega, ?_⟩, by omega⟩
          by_cases hgt : t > 2147483648 - a
          · rw [if_pos hgt] at hd
            exact .inl ⟨hd, by omega⟩
          · rw [if_neg hgt] at hd
            exact .inr ⟨hd, by omega⟩
        · obtain rfl : k = ns.length := by omega
          simp -implicitDefEqProofs (disch := first | omega | (simp <;> fail) | assumption)
          rw [List.drop_length, sumCap] at hd
          first | exact ⟨by omega, by omega, .inr ⟨hd, by omega⟩⟩ | exact ⟨by omega, by omega, hd, by omega⟩ | exact ⟨by omega, by omega, hd⟩
    have htf : totF ns = match sumCap 0 ns with | none => (0, 21) | some t => if t = 0 then (0, 22) else (t, 0) := by unfold totF; rw [if_neg hneg]
    obtain ⟨b1, b2, ha⟩ := ha
    rcases ha with ⟨hs, ha⟩ | ⟨hs, ha⟩
    · rw [hs] at htf
      simp -implicitDefEqProofs (disch := first | omega | (simp <;> fail) | assumption) [hin, hin2, htf, ha]
    · rw [hs] at htf
      by_cases h0 : a = 0
      · subst h0
        simp -implicitDefEqProofs (disch := first | omega | (simp <;> fail) | assumption) [hin, hin2, htf]
      · have ha' : ¬ 2147483648 < a := by omega
        simp -implicitDefEqProofs (disch := first | omega | (simp <;> fail) | assumption) [hin, hin2, htf, h0, ha']
theorem ref13_Of_run (Γ : Env) (M : Nat) (hM : 100000 < M) (hT : TotC (Γ 319)) : PickC (run Γ M ref13_Of_f) := by
  intro w ns h1 h2 hw hl
  have e1 := hT ns hw hl
  by_cases h0 : (totF ns).2 = 0
  · have hb := totF_bound (ns := ns)
    have hok := totF_ok h0
    have hsb := scale_bound h1 h2 hb.1 hb.2
    have hmb := mul_u32 h1 h2 hb.1 (by omega)
    have hpf : pickF w ns = findR (w * (totF ns).1 / 4294967296) ns 0 := by unfold pickF; rw [if_neg (by simp [h0])]
    rw [h0] at e1
    generalize (totF ns).1 = T at *
    have hp2 : ∃ p, p = w * T := ⟨_, rfl⟩
    obtain ⟨p, hp⟩ := hp2
    rw [← hp] at hmb hsb hpf
    generalize hr0 : p / 4294967296 = r0 at *
    obtain ⟨ax, s', hR, hin⟩ : ∃ ax s', ((∃ i : Int, findR r0 ns 0 = (i, 0) ∧ ax = .ret ∧ s' = ⟨[(4, i64 i), (5, i64 0)], []⟩) ∨ (findR r0 ns 0 = (0, 22) ∧ ax = .ex 0 ∧ s' = ⟨[], []⟩)) ∧ ∀ s0, nrm [1, 8, 9, 10] [] s0 = ⟨[(1, nsV ns), (8, i64 r0), (9, i64 0), (10, i64 (0 : Nat))], []⟩ → lp (exec Γ M ref13_Of_l1) M s0 = some (ax, s') := by
      refine lp_all (fun q : Nat × Int => ⟨[(1, nsV ns), (8, i64 r0), (9, i64 q.2), (10, i64 q.1)], []⟩) (fun q => q.1 ≤ ns.length ∧ 0 ≤ q.2 ∧ q.2 ≤ r0 ∧ findR r0 ns 0 = findR (r0 - q.2) (ns.drop q.1) q.1) (fun q => ns.length - q.1) _ (0, 0) M (by simp) (by simp; omega) (by simp; omega) ?_
      rintro ⟨k, a⟩ ⟨hk, h1, h2, hd⟩
      simp only at hk h1 h2 hd ⊢
      by_cases hlt : k < ns.length
      · obtain ⟨t, ht⟩ : ∃ t, ns[k] = t := ⟨_, rfl⟩
        have hw' := hok t (by rw [← ht]; exact List.getElem_mem hlt)
        rw [any_drop_step hlt ht, findR] at hd
        rw [hd]
        by_cases hgt : r0 - a < t
        · have hgt' : r0 < a + t := by omega
          rw [if_pos hgt]
          simp -implicitDefEqProofs (disch := first | omega | (simp <;> fail) | assumption) [hlt, ht, hgt']
        · have hgt' : ¬ r0 < a + t := by omega
          rw [if_neg hgt] at hd ⊢
          simp -implicitDefEqProofs (disch := first | omega | (simp <;> fail) | assumption) [hlt, ht, hgt']
          exact ⟨k + 1, a + t, by simp, ⟨by omega, by omega, by omega, by rw [show r0 - a - t = r0 - (a + t) by omega]⟩, by omega⟩
      · obtain rfl : k = ns.length := by omega
        rw [hd]
        simp -implicitDefEqProofs (disch := first | omega | (simp <;> fail) | assumption) [findR]
    rcases hR with ⟨i, hf, rfl, rfl⟩ | ⟨hf, rfl, rfl⟩
    · rw [hpf, hf]
      simp -implicitDefEqProofs (disch := first | omega | (simp <;> fail) | assumption) [hin, e1, ← hp, hr0]
    · rw [hpf, hf]
      simp -implicitDefEqProofs (disch := first | omega | (simp <;> fail) | assumption) [hin, e1, ← hp, hr0]
  · have hpf : pickF w ns = (0, (totF ns).2) := by unfold pickF; rw [if_pos h0]
    rw [hpf]
    generalize (totF ns).1 = T at *
    generalize (totF ns).2 = E at *
    simp -implicitDefEqProofs (disch := first | omega | (simp <;> fail) | assumption) [e1, h0]
end Go.Am
