/- Law 21: DemandWeighs. -/
import Derived.Test.YtiabedphaioidaaDemK
set_option linter.unusedVariables false
set_option linter.unusedSimpArgs false
set_option maxRecDepth 10000
set_option maxHeartbeats 1000000
namespace Go.Am
theorem why_ok {t f : Int} (h : whyF t f = 0) : 1 ≤ t ∧ t ≤ 4 ∧ 2 ≤ f ∧ f ≤ 128 := by
  unfold whyF at h
  split at h
  · simp at h
  · split at h
    · simp at h
    · omega
theorem get_gr (gk : Nat) (G : GSt) (h : ¬ 1461501637330902918203684832716283019655932598995 = gk) : ∃ o, get (grOb gk G) gk = some o := by
  cases G with
  | none => exact ⟨⟨1, [[.ot .nm]]⟩, by simp [grOb]⟩
  | some p => obtain ⟨z, es⟩ := p; exact ⟨⟨1, [[.mp 1461501637330902918203684832716283019655932598995]]⟩, by simp [grOb, h]⟩
theorem DemandWeighs_run (Γ : Env) (M : Nat) (hM : 100000 < M) (hA : Γ.pt 276 = allPt) (hE : EqWC (Γ 277)) (hal : Γ 278 [] = some [bo true]) (hRA : RAllC (Γ 279)) (hW : WhyC (Γ 280)) (hT : TotalC (Γ 281)) (hG : GridC (Γ.pt 282)) (t f : Int) : run Γ M law21_DemandWeighs_f [i64 t, i64 f] = some [bo true] := by
  by_cases h30 : 30 < f ∧ f ≤ 128
  · obtain ⟨h1, h2⟩ := h30
    simp -implicitDefEqProofs (disch := first | omega | (simp <;> fail) | assumption) [h1, h2]
  have hw := hW t f
  by_cases hwh : whyF t f = 0
  · obtain ⟨h1, h4, hf2, hf⟩ := why_ok hwh
    have hf3 : ¬ 30 < f := by omega
    obtain ⟨F, rfl⟩ : ∃ F : Nat, f = F := ⟨f.toNat, by omega⟩
    rw [hwh] at hw
    have eT := hT.2 t F h1 h4 (by omega) (by omega)
    have eR := hRA t F h1 h4 (by omega) (by omega)
    have eG := fun gs a b c d => hG.2.2 t F gs [] ⟨a, b, c, d⟩ rd_nil h1 h4 (by omega) (by omega)
    have hlx := lex_allW t F F
    have hll : (allW t F F).length ≤ 16384 := Nat.le_trans (allW_length t F F) (by have := Nat.mul_le_mul (show F ≤ 128 by omega) (show F ≤ 128 by omega); omega)
    have eA := all_at (pre := []) (rest := []) (gk := 282022) (gok_grow hlx (by omega)) (qr_nil _ (by omega) (by omega) (by omega) (by omega) (by omega)) (by simpa using keepF_grOb (G := growG (allW t F F)) (rest := []) (by omega) (by omega) (kf_nil _ _)) rfl rfl rfl rfl rfl rfl
    rw [allM_grow hlx] at eA
    simp only [List.nil_append, List.append_nil] at eA eG
    obtain ⟨o, ho⟩ := get_gr 282022 (growG (allW t F F)) (by decide)
    have hb := allW_vals (t := t) (f := F) (k := F)
    generalize grOb 282022 (growG (allW t F F)) = ob at *
    generalize allW t F F = L at *
    have eE := hE L (by omega)
    have hall : allRows (L.map out3) = some (L.map d3) := by rw [out3_d3, allRows_comp]
    have htc : List.take L.length (L.map d3) = L.map d3 := List.take_of_length_le (by simp)
    obtain ⟨ax, s', ⟨rfl, rfl⟩, hin⟩ : ∃ ax s', (ax = .ex 0 ∧ s' = ⟨[(5, .loc 282022 0 0), (6, i64 0), (7, i64 (sumM L)), (8, i64 0), (9, dW L), (10, i64 (sumM L))], ob⟩) ∧ ∀ s0, nrmP [5, 6, 7, 8, 9, 10, 11] 0 0 [] s0 = ⟨[(5, .loc 282022 0 0), (6, i64 0), (7, i64 (sumM L)), (8, i64 0), (9, dW L), (10, i64 (sumM (L.take 0))), (11, i64 (0 : Nat))], ob⟩ → lp (exec Γ M law21_DemandWeighs_l1) M s0 = some (ax, s') := by
      refine lp_allP (fun q : Nat => ⟨[(5, .loc 282022 0 0), (6, i64 0), (7, i64 (sumM L)), (8, i64 0), (9, dW L), (10, i64 (sumM (L.take q))), (11, i64 q)], ob⟩) (fun q => q ≤ L.length) (fun q => L.length - q) _ 0 M (by omega) (by omega) ?_
      intro k hk
      by_cases hlt : k < L.length
      · have ht := sumM_take hlt
        have hbk := hb L[k] (List.getElem_mem hlt)
        have hsb := sumM_bound (l := L.take k) fun m hm => hb m (List.mem_of_mem_take hm)
        have hsl : (L.take k).length ≤ 16384 := by rw [List.length_take]; omega
        obtain ⟨⟨a, b, n⟩, hm⟩ : ∃ m, L[k] = m := ⟨_, rfl⟩
        have hrow : (L.map d3)[k]? = some [.int .i64 a, .int .i64 b, .int .i64 n] := by simp [hlt, hm, d3]
        rw [hm] at ht hbk
        simp only at ht hbk
        generalize sumM (L.take k) = S at *
        simp -implicitDefEqProofs (disch := first | omega | (simp <;> fail) | assumption) [hlt, hrow, d3, hm]
        exact ⟨k + 1, by rw [ht]; simp, by omega, by omega⟩
      · obtain rfl : k = L.length := by omega
        simp -implicitDefEqProofs (disch := first | omega | (simp <;> fail) | assumption)
    have hin2 := hin ⟨[(5, .loc 282022 0 0), (6, i64 0), (7, i64 (sumM L)), (8, i64 0), (9, dW L), (10, i64 0), (11, .c (.int .i64 0))], ob⟩ (by
      have h0 : sumM (L.take 0) = 0 := rfl
      rw [h0]
      simp -implicitDefEqProofs (disch := first | omega | (simp <;> fail) | assumption))
    generalize sumM L = S at *
    simp -implicitDefEqProofs (disch := first | omega | (simp <;> fail) | assumption) [hf3, hA, eG, eT, eR, hw, hin2, eA, ho, hall, htc, eE, hal]
  · have hnb : ¬ (30 < f ∧ f ≤ 128) := h30
    have eT := hT.1 t f hwh
    have eG := fun gs a b c d => gridC_why hG (gs := gs) hwh ⟨a, b, c, d⟩ rd_nil
    generalize whyF t f = y at *
    by_cases hf3 : 30 < f
    · have hf4 : ¬ f ≤ 128 := by omega
      simp -implicitDefEqProofs (disch := first | omega | (simp <;> fail) | assumption) [hf3, hf4, eG, eT, hw, hwh, hal]
    · simp -implicitDefEqProofs (disch := first | omega | (simp <;> fail) | assumption) [hf3, eG, eT, hw, hwh, hal]
/-! ### The functions from outside of the table -/
def demEnv : Env := ⟨fun _ _ => none, fun f s => if f = 276 then allPt s else none, fun _ _ => none⟩
theorem demEnv_pt : demEnv.pt 276 = allPt := by funext s; simp [demEnv]
open Go.Proofs in
theorem demEnv_ok {nm : Nat → Option Nat} {T : Tab} (h : nm 276 = some 26) : XOk Try.prog nm T demEnv where
  fn := fun f g _ _ F w ds vs rs _ _ h => by simp [demEnv] at h
  pt := fun f g hg _ => by
    by_cases hf : f = 276
    · subst hf
      rw [h] at hg; simp only [Option.some.injEq] at hg; subst hg
      rw [demEnv_pt]; exact all_specP
    · have : demEnv.pt f = fun _ => none := by funext s; simp [demEnv, hf]
      rw [this]; exact SpecP.none
  mono := fun f s rs ob R hR h => by
    by_cases hf : f = 276
    · subst hf
      rw [demEnv_pt] at h ⊢
      exact allPt_mono s rs ob R hR h
    · simp [demEnv, hf] at h
theorem env_pt276 (T : Tab) (I : List (Nat × Nat)) (M n : Nat) (h : get T 276 = none) : (env T I demEnv M n).pt 276 = allPt := by
  funext s
  cases n <;> simp [env, envPt, h, demEnv_pt]
end Go.Am
