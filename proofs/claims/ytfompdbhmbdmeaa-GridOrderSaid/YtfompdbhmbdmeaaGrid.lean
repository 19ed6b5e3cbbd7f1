/- Law 7: GridOrder. -/
import Derived.Test.YtfompdbhmbdmeaaGridCode
set_option linter.unusedVariables false
set_option linter.unusedSimpArgs false
set_option maxRecDepth 10000
set_option maxHeartbeats 1000000
namespace Go.Am
def cmp3 (a b : Int) : Int := if a < b then -1 else if b < a then 1 else 0
def NanC (g : List AV → Option (List AV)) : Prop := ∀ a : Int, g [i64 a] = some [bo false]
theorem cmp_isNaN_run (Γ : Env) (M : Nat) : NanC (run Γ M cmp_isNaN_int_f) := by
  intro a
  simp -implicitDefEqProofs (disch := omega)
def CmpC (g : List AV → Option (List AV)) : Prop := ∀ a b : Int, g [i64 a, i64 b] = some [i64 (cmp3 a b)]
theorem cmp_Compare_run (Γ : Env) (M : Nat) (hN : NanC (Γ 75)) : CmpC (run Γ M cmp_Compare_int_f) := by
  intro a b
  have e1 := hN a
  have e2 := hN b
  by_cases h1 : a < b
  · simp -implicitDefEqProofs (disch := omega) [e1, e2, h1, cmp3]
  · by_cases h2 : b < a
    · simp -implicitDefEqProofs (disch := omega) [e1, e2, h1, h2, cmp3]
    · simp -implicitDefEqProofs (disch := omega) [e1, e2, h1, h2, cmp3]
def OrC (g : List AV → Option (List AV)) : Prop := ∀ a b : Int, g [.c (.vs 1 [[.int .i64 a], [.int .i64 b]])] = some [i64 (if a ≠ 0 then a else b)]
theorem cmp_Or_run (Γ : Env) (M : Nat) : OrC (run Γ (M + 20) cmp_Or_int_f) := by
  intro a b
  by_cases h1 : a = 0
  · subst h1
    by_cases h2 : b = 0
    · subst h2
      simp -implicitDefEqProofs (disch := omega) [lp_succ, cmp_Or_int_l1_x]
    · simp -implicitDefEqProofs (disch := omega) [lp_succ, cmp_Or_int_l1_x, h2]
  · simp -implicitDefEqProofs (disch := omega) [lp_succ, cmp_Or_int_l1_x, h1]
def gcmp (a b c d : Int) : Int := if cmp3 a c ≠ 0 then cmp3 a c else cmp3 b d
def GCmpC (g : List AV → Option (List AV)) : Prop := ∀ a b c d : Int, g [.agg [.int .i64 a, .int .i64 b], .agg [.int .i64 c, .int .i64 d]] = some [i64 (gcmp a b c d)]
theorem grid_Compare_run (Γ : Env) (M : Nat) (hC : CmpC (Γ 53)) (hO : OrC (Γ 54)) : GCmpC (run Γ M grid_Compare_f) := by
  intro a b c d
  have e1 := hC a c
  have e2 := hC b d
  have e3 := hO (cmp3 a c) (cmp3 b d)
  simp only [gcmp]
  generalize cmp3 a c = u at *
  generalize cmp3 b d = v at *
  simp -implicitDefEqProofs (disch := omega) [e1, e2, e3]
def BefC (g : List AV → Option (List AV)) : Prop := ∀ a b c d : Int, g [.agg [.int .i64 a, .int .i64 b], .agg [.int .i64 c, .int .i64 d]] = some [bo (decide (a < c) || (decide (a = c) && decide (b < d)))]
theorem law07_before_run (Γ : Env) (M : Nat) : BefC (run Γ M law07_before_f) := by
  intro a b c d
  simp -implicitDefEqProofs (disch := omega)
theorem law07_GridOrder_run {Γ : Env} (M : Nat) (h9 : GCmpC (Γ 9)) (h10 : Γ 10 [] = some [bo true]) (h11 : BefC (Γ 11)) (a b c d : Int) :
    run Γ M law07_GridOrder_f [.agg [.int .i64 a, .int .i64 b], .agg [.int .i64 c, .int .i64 d]] = some [bo true] := by
  have e9 := h9 a b c d
  have e11 := h11 a b c d
  by_cases h1 : a < c
  · have hg : gcmp a b c d = -1 := by simp [gcmp, cmp3, h1]
    rw [hg] at e9
    simp -implicitDefEqProofs (disch := omega) [e9, e11, h10, h1]
  · by_cases h2 : a = c
    · subst h2
      by_cases h3 : b < d
      · have hg : gcmp a b a d = -1 := by simp [gcmp, cmp3, h3]
        rw [hg] at e9
        simp -implicitDefEqProofs (disch := omega) [e9, e11, h10, h3]
      · by_cases h4 : b = d
        · subst h4
          have hg : gcmp a b a b = 0 := by simp [gcmp, cmp3]
          rw [hg] at e9
          simp -implicitDefEqProofs (disch := omega) [e9, e11, h10]
        · have h5 : d < b := by omega
          have hg : gcmp a b a d = 1 := by simp [gcmp, cmp3, h3, h5]
          rw [hg] at e9
          simp -implicitDefEqProofs (disch := omega) [e9, e11, h10, h3, h4]
    · have h5 : c < a := by omega
      have hg : gcmp a b c d = 1 := by simp [gcmp, cmp3, h1, h5]
      rw [hg] at e9
      simp -implicitDefEqProofs (disch := omega) [e9, e11, h10, h1, h2]
def yes7 : Option (List AV) → Bool
  | some [.c (.bool b)] => b
  | _ => false
theorem yes7_eq {o : Option (List AV)} (h : yes7 o = true) : o = some [bo true] := by
  unfold yes7 at h
  split at h
  · subst h; rfl
  · simp at h
abbrev gridTab : Tab := [(0, law07_GridOrder_f, 2), (9, grid_Compare_f, 2), (10, law07_alive_f, 0), (11, law07_before_f, 2), (53, cmp_Compare_int_f, 2), (54, cmp_Or_int_f, 1), (55, grid_Grid_Len_f, 1), (56, grid_Grid_Set_f, 3), (57, grid_Grid_Get_f, 2), (58, grid_Grid_Add_f, 3), (75, cmp_isNaN_int_f, 1)]
abbrev noVals : List (Nat × Nat) := []
theorem grid_alive : env gridTab noVals noEnv 1000 9 10 [] = some [bo true] := yes7_eq (by decide +kernel)
theorem grid_law (a b c d : Int) : env gridTab noVals noEnv 1000 10 0 [.agg [.int .i64 a, .int .i64 b], .agg [.int .i64 c, .int .i64 d]] = some [bo true] := by
  rw [env_run rfl rfl]
  refine law07_GridOrder_run _ ?_ grid_alive ?_ a b c d
  · intro a b c d
    rw [env_run rfl rfl]
    refine grid_Compare_run _ _ ?_ ?_ a b c d
    · intro a b; rw [env_run rfl rfl]; exact cmp_Compare_run _ _ (fun a => by rw [env_run rfl rfl]; exact cmp_isNaN_run _ _ a) a b
    · intro a b; rw [env_run rfl rfl]; exact cmp_Or_run _ 980 a b
  · intro a b c d; rw [env_run rfl rfl]; exact law07_before_run _ _ a b c d
end Go.Am
