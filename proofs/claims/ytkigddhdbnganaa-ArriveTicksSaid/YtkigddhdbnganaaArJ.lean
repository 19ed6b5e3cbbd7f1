/- Law 28: the functions from outside of the table; words. -/
import Derived.Test.YtkigddhdbnganaaArI
set_option linter.unusedVariables false
namespace Go.Am
def arvEnv : Env := ⟨fun _ _ => none, fun f s => if f = 276 then allPt s else none, fun _ _ => none⟩
theorem arvEnv_pt : arvEnv.pt 276 = allPt := by funext s; simp [arvEnv]
open Go.Proofs in
theorem arvEnv_ok {nm : Nat → Option Nat} {T : Tab} (h : nm 276 = some 86) : XOk Try.prog nm T arvEnv where
  fn := fun f g _ _ F w ds vs rs _ _ h => by simp [arvEnv] at h
  pt := fun f g hg _ => by
    by_cases hf : f = 276
    · subst hf
      rw [h] at hg; simp only [Option.some.injEq] at hg; subst hg
      rw [arvEnv_pt]; exact all_specP
    · have : arvEnv.pt f = fun _ => none := by funext s; simp [arvEnv, hf]
      rw [this]; exact SpecP.none
  mono := fun f s rs ob R hR h => by
    by_cases hf : f = 276
    · subst hf
      rw [arvEnv_pt] at h ⊢
      exact allPt_mono s rs ob R hR h
    · simp [arvEnv, hf] at h
theorem env_arv276 (T : Tab) (I : List (Nat × Nat)) (M n : Nat) (h : get T 276 = none) : (env T I arvEnv M n).pt 276 = allPt := by
  funext s
  cases n <;> simp [env, envPt, h, arvEnv_pt]
theorem w3_rowU (r : List D) (h : All2 WT [.int .u32] r) : ∃ n : Nat, r = w3D n ∧ n < 4294967296 := by
  cases h with
  | cons h1 h2 =>
    cases h2
    obtain ⟨n, rfl, h3, h4⟩ := wt_int.1 h1
    have h3 : 0 ≤ n := h3
    have h4 : n ≤ 4294967295 := h4
    exact ⟨n.toNat, by simp [w3D, Int.toNat_of_nonneg h3], by omega⟩
theorem wt_words {d : D} (h : WT (.sl [.int .u32]) d) : ∃ ws : List Nat, AV.c d = wV ws ∧ (∀ w ∈ ws, w < 4294967296) ∧ ws.length ≤ maxLen := by
  rw [wt_sl] at h
  obtain ⟨rows, rfl, hl, h⟩ := h
  obtain ⟨ts, rfl, hts⟩ := rows_map w3_rowU rows h
  exact ⟨ts, rfl, hts, by simpa using hl⟩
end Go.Am
