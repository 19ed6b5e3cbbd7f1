/- Percentiles: place, percentile (as in law 15); the sort from outside. -/
import Derived.Test.YtkhbfjmckgddeaaDoorTrpCode
import Derived.Test.YtkhbfjmckgddeaaDoorRnk
set_option linter.unusedVariables false
set_option linter.unusedSimpArgs false
set_option maxRecDepth 10000
set_option maxHeartbeats 2000000
namespace Go.Am
def intD (z : Int) : List D := [.int .i64 z]
abbrev vI (l : List Int) : AV := .c (.vs 1 (l.map intD))
def AllI (l : List Int) : Prop := ∀ z ∈ l, InI64 z
def PlaceC15 (g : List AV → Option (List AV)) : Prop := ∀ p m, InI64 p → InI64 m → g [i64 p, i64 m] = some (if 1 ≤ p ∧ p ≤ 100 ∧ 1 ≤ m then [i64 (plK p m), i64 0] else [i64 0, i64 22])
theorem rank_Place_run (Γ : Env) (M : Nat) : PlaceC15 (run Γ M rank_Place_f) := by
  intro p m hp hm
  obtain ⟨h1, h2⟩ := hp
  obtain ⟨h3, h4⟩ := hm
  by_cases c1 : p < 1
  · rw [if_neg (by omega)]
    simp -implicitDefEqProofs (disch := first | omega | assumption) [c1]
  by_cases c2 : 100 < p
  · rw [if_neg (by omega)]
    simp -implicitDefEqProofs (disch := first | omega | assumption) [c1, c2]
  by_cases c3 : m < 1
  · rw [if_neg (by omega)]
    simp -implicitDefEqProofs (disch := first | omega | assumption) [c1, c2, c3]
  rw [if_pos (by omega)]
  have b1 := mul_le100 (p := p) (by omega) (r := m / 100) (by omega)
  have b2 := mul_le100 (p := p) (by omega) (r := m % 100) (by omega)
  have b3 := plK_bounds (p := p) (m := m) (by omega) (by omega)
  unfold plK at *
  simp -implicitDefEqProofs (disch := first | omega | assumption) [c1, c2, c3]
def CloneP (g : St → Option (List AV × List (Nat × Obj))) : Prop := ∀ (l : List Int) (k : Int), l ≠ [] → l.length ≤ 60000 → g ⟨[(0, vI l), (100019, vI l), (100001, vI l), (100006, i64 k)], []⟩ = some ([.sl 367005 l.length 0 l.length], [(367005, ⟨1, intRows l⟩)])
theorem clone_run (Γ : Env) (M : Nat) : CloneP (runP Γ M slices_Clone_Sint_int_P_f) := by
  intro l k hl hn
  obtain ⟨z, r, rfl⟩ := List.exists_cons_of_ne_nil hl
  simp only [List.length_cons] at hn
  simp -implicitDefEqProofs (disch := first | omega | assumption) [vI, intD, intRows]
def OfC15 (g : List AV → Option (List AV)) : Prop := ∀ p l, InI64 p → l.length ≤ 60000 → g [i64 p, vI l] = some (if 1 ≤ p ∧ p ≤ 100 ∧ l ≠ [] then [i64 (ofP p l), i64 0] else [i64 0, i64 22])
theorem rank_Of_run (Γ : Env) (M : Nat) (h248 : PlaceC15 (Γ 248)) (h367 : CloneP (Γ.pt 367)) (h290 : Γ.pt 290 = sortPt) : OfC15 (run Γ M rank_Of_f) := by
  intro p l hp hl
  have e := h248 p l.length hp ⟨by omega, by omega⟩
  by_cases c : 1 ≤ p ∧ p ≤ 100 ∧ l ≠ []
  · have hlen : 1 ≤ (l.length : Int) := by have := List.length_pos_iff.2 c.2.2; omega
    rw [if_pos ⟨c.1, c.2.1, hlen⟩] at e
    rw [if_pos c]
    obtain ⟨k, hk, hk1, hk2⟩ := ofP_get ⟨c.1, c.2.1⟩ c.2.2
    rw [hk1] at e
    have e2 := h367 l (k + 1) c.2.2 hl
    have hq : l.length < 4611686018427387904 := by omega
    have hget : (intRows (srt l))[k]? = some [i64 ((srt l)[k])] := by simp [intRows, hk]
    have hkl : k < l.length := by rw [srt_length] at hk; exact hk
    simp -implicitDefEqProofs (disch := first | omega | assumption) [e, e2, h290, sortPt, intsOf_rows, intRows_length, srt_length, hq, hk2, hkl, hget]
  · rw [if_neg c]
    have : ¬ (1 ≤ p ∧ p ≤ 100 ∧ 1 ≤ (l.length : Int)) := by
      rintro ⟨h1, h2, h3⟩
      exact c ⟨h1, h2, fun h => by subst h; simp at h3⟩
    rw [if_neg this] at e
    simp -implicitDefEqProofs (disch := first | omega | assumption) [e]
/-- The sort of numbers alone is from outside. -/
def srtEnv : Env := ⟨fun _ _ => none, fun f s => if f = 290 then sortPt s else none, fun _ _ => none⟩
theorem srtEnv_pt : srtEnv.pt 290 = sortPt := by funext s; simp [srtEnv]
theorem srtEnv_ok {P : Program} {nm : Nat → Option Nat} {T : Tab} {τ : Go.Shelf.Ren} (L : Go.Proofs.Lays.n189 P τ) (h : nm 290 = some (τ.f 189)) : XOk P nm T srtEnv where
  fn := fun f g _ _ F w ds vs rs _ _ h => by simp [srtEnv] at h
  pt := fun f g hg _ => by
    by_cases hf : f = 290
    · subst hf
      rw [h] at hg
      simp only [Option.some.injEq] at hg
      subst hg
      rw [srtEnv_pt]; exact sort_specP L
    · have : srtEnv.pt f = fun _ => none := by funext s; simp [srtEnv, hf]
      rw [this]; exact SpecP.none
  mono := fun f s rs ob R hR h => by
    by_cases hf : f = 290
    · subst hf
      rw [srtEnv_pt] at h ⊢
      exact sort_mono s rs ob R hR h
    · simp [srtEnv, hf] at h
theorem env_srt {T : Tab} {V : List (Nat × Nat)} {M n : Nat} (h : get T 290 = none) : (env T V srtEnv M n).pt 290 = sortPt := by
  rw [← srtEnv_pt]
  funext s
  cases n <;> simp [env, envPt, h]
end Go.Am
