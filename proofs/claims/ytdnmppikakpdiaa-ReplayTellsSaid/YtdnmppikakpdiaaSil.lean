/- The stable sort of numbers by a closure: from the outside. -/
import Derived.Test.YtdnmppikakpdiaaSik
set_option linter.unusedVariables false
set_option linter.unusedSimpArgs false
set_option maxRecDepth 10000
set_option maxHeartbeats 4000000
namespace Go.Am.Si
open Go.Am
def SsfC (U : Ev → Prop) (cmp : St → Option (List AV × List (Nat × Obj))) (g : St → Option (List AV × List (Nat × Obj))) : Prop := ∀ (K : Nat) (L : List Ev) (n : Nat) (gs : List (Nat × AV)) (rest : List (Nat × Obj)), Gh gs → del rest K = rest → L.length = n → n ≤ 4096 → CmpC U K rest cmp → (∀ x ∈ L, U x) → L.Pairwise Tie → (L.map (·.i)).Nodup →
  g ⟨(0, .sl K n 0 n) :: (1, .clo fv_replay_Riders_1 [.loc 8 0 0]) :: gs, (K, ⟨1, evR L⟩) :: rest⟩ = some ([], (K, ⟨1, evR (srtE L)⟩) :: rest)
theorem sortStable_run (Γ : Env) (M : Nat) (U : Ev → Prop) (hS : StbC U (Γ.pt 709) (Γ.pt 166)) : SsfC U (Γ.pt 709) (runP Γ M slices_SortStableFunc_Sint_int_f) := by
  intro K L n gs rest hg hd hL hn hC hU hT hN
  have e := fun gs h => hS K L n gs rest h hd hL hn hC hU hT hN
  have hl := evR_len L
  rw [hL] at hl
  simp -implicitDefEqProofs (disch := first | omega | (simp <;> fail) | assumption) [hg, hd, e, hl]
/-- The closure: what the two cars' map says of both, one less the other. -/
theorem riders1_run (Γ : Env) (M : Nat) (K mk z : Nat) (rows : Rows) (bd : Int → Int) (P : Int → Prop) (rest : List (Nat × Obj)) (h8 : get rest 8 = some ⟨1, [[.mp mk]]⟩) (hm : get rest mk = some ⟨z, rows⟩) (hK8 : ¬ K = 8) (hKm : ¬ K = mk)
    (hf : ∀ x, P x → ∃ i, mfind (false, [.int .i64]) (i64 x) rows 0 = some (some (i, i64 (bd x)))) (hb : ∀ x, -1073741825 ≤ bd x ∧ bd x ≤ 1073741825) :
    CmpC (fun e => e.b = bd e.i ∧ P e.i) K rest (runP Γ M replay_Riders_1_f) := by
  rintro x y R gs ⟨hx, hx2⟩ ⟨hy, hy2⟩ hg
  obtain ⟨i, hi⟩ := hf x.i hx2
  obtain ⟨j, hj⟩ := hf y.i hy2
  have k0 : keepF 0 0 [] ((K, (⟨1, R⟩ : Obj)) :: rest) = (K, ⟨1, R⟩) :: rest := by
    have key : ∀ ob : List (Nat × Obj), keepF 0 0 [] ob = ob := fun ob => by
      induction ob with
      | nil => rfl
      | cons p ob ih => obtain ⟨k, o⟩ := p; simp only [keepF]; rw [if_pos (.inr (.inl (Nat.zero_le _))), ih]
    exact key _
  have b1 := hb x.i
  have b2 := hb y.i
  rw [hx, hy]
  generalize bd x.i = p at *
  generalize bd y.i = q at *
  have g8 : get ((K, (⟨1, R⟩ : Obj)) :: rest) 8 = some ⟨1, [[.mp mk]]⟩ := by simp only [Go.Am.get]; rw [if_neg hK8]; exact h8
  have gm : get ((K, (⟨1, R⟩ : Obj)) :: rest) mk = some ⟨z, rows⟩ := by simp only [Go.Am.get]; rw [if_neg hKm]; exact hm
  generalize (K, (⟨1, R⟩ : Obj)) :: rest = ob at *
  simp -implicitDefEqProofs (disch := first | omega | (simp <;> fail) | assumption) [hg, k0, g8, gm, hi, hj]
end Go.Am.Si
