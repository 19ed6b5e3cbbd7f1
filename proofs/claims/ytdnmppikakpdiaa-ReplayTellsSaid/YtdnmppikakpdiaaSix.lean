/- What law 51's functions ask of functions from outside: who rides, as a slice beside; the stable sort. -/
import Derived.Test.YtdnmppikakpdiaaSiw
import Derived.Test.YtdnmppikakpdiaaUt
set_option linter.unusedVariables false
set_option linter.unusedSimpArgs false
set_option maxRecDepth 20000
set_option maxHeartbeats 4000000
namespace Go.Am.Si
open Go.Am
open Go.RowKit
abbrev rpS : Tab := [(739, trip_Load_P_f, 3), (241, slices_SortStableFunc_Sint_int_f, 2), (166, slices_stableCmpFunc_int_f, 3), (175, slices_insertionSortCmpFunc_int_f, 4), (174, slices_symMergeCmpFunc_int_f, 5), (179, slices_rotateCmpFunc_int_f, 5), (180, slices_swapRangeCmpFunc_int_f, 5), (709, replay_Riders_1_f, 3)]
abbrev rpE (n : Nat) : Env := env rpS [] noEnv 100100 n
def cmp0 : St → Option (List AV × List (Nat × Obj)) := runP noEnv 100100 replay_Riders_1_f
theorem rp_cmp (n : Nat) : (rpE (n + 1)).pt 709 = cmp0 := by
  funext s
  rw [show (rpE (n + 1)).pt 709 s = runP (rpE n) 100100 replay_Riders_1_f s from env_runP (k := 3) rfl (by decide +kernel)]
  rfl
theorem rp_load : LoadP_C ((rpE 30).pt 739) := by
  rw [show (rpE 30).pt 739 = runP (rpE 29) 100100 trip_Load_P_f from funext fun s => env_runP (k := 3) rfl (by decide +kernel)]
  exact trip_Load_P_run _ _ (by omega)
theorem rp_swap (n : Nat) : SwapC ((rpE (n + 1)).pt 180) := by
  rw [show (rpE (n + 1)).pt 180 = runP (rpE n) 100100 slices_swapRangeCmpFunc_int_f from funext fun s => env_runP (k := 5) rfl (by decide +kernel)]
  exact swapRange_run _ _ (by omega)
theorem rp_rot (n : Nat) : RotC ((rpE (n + 2)).pt 179) := by
  rw [show (rpE (n + 2)).pt 179 = runP (rpE (n + 1)) 100100 slices_rotateCmpFunc_int_f from funext fun s => env_runP (k := 5) rfl (by decide +kernel)]
  exact rotate_run _ _ (by omega) (rp_swap n)
theorem rp_ins (n : Nat) (U : Ev → Prop) : InsC U cmp0 ((rpE (n + 2)).pt 175) := by
  rw [show (rpE (n + 2)).pt 175 = runP (rpE (n + 1)) 100100 slices_insertionSortCmpFunc_int_f from funext fun s => env_runP (k := 4) rfl (by decide +kernel), ← rp_cmp n]
  exact insSort_run _ _ (by omega) U
theorem symC_zero (U : Ev → Prop) (cmp g : St → Option (List AV × List (Nat × Obj))) : SymC U cmp 0 g := by
  intro K P A B S a m b n gs rest _ _ _ _ _ _ _ hA hB hl; exfalso; simp at hl; omega
theorem rp_sym (U : Ev → Prop) : ∀ (d n : Nat), SymC U cmp0 d ((rpE (n + 3 + d)).pt 174)
  | 0, n => symC_zero _ _ _
  | d + 1, n => by
    have ih := rp_sym U d n
    have h := symMerge_run (rpE (n + 3 + d)) 100100 d (by omega) U (by rw [show n + 3 + d = (n + d + 1) + 2 by omega]; exact rp_rot _) (by rw [show n + 3 + d = (n + d + 2) + 1 by omega, rp_cmp, show (n + d + 2) + 1 = n + 3 + d by omega]; exact ih)
    rw [show n + 3 + d = (n + d + 2) + 1 by omega, rp_cmp, show (n + d + 2) + 1 = n + 3 + d by omega] at h
    rw [show n + 3 + (d + 1) = n + 3 + d + 1 by omega, show (rpE (n + 3 + d + 1)).pt 174 = runP (rpE (n + 3 + d)) 100100 slices_symMergeCmpFunc_int_f from funext fun s => env_runP (k := 5) rfl (by decide +kernel)]
    exact h
theorem rp_stable (U : Ev → Prop) : StbC U cmp0 ((rpE 29).pt 166) := by
  rw [show (rpE 29).pt 166 = runP (rpE 28) 100100 slices_stableCmpFunc_int_f from funext fun s => env_runP (k := 3) rfl (by decide +kernel)]
  have h := stable_run (rpE 28) 100100 (by omega) U (by rw [rp_cmp 27]; exact rp_ins 26 U) (by rw [rp_cmp 27]; exact rp_sym U 12 13)
  rw [rp_cmp 27] at h
  exact h
theorem rp_sort (U : Ev → Prop) : SsfC U cmp0 ((rpE 30).pt 241) := by
  rw [show (rpE 30).pt 241 = runP (rpE 29) 100100 slices_SortStableFunc_Sint_int_f from funext fun s => env_runP (k := 2) rfl (by decide +kernel)]
  have h := sortStable_run (rpE 29) 100100 U (by rw [rp_cmp 28]; exact rp_stable U)
  rw [rp_cmp 28] at h
  exact h
def rpX : Env := ⟨fun _ _ => none, fun f s => if f = 739 then ownPt 3 [739007] ((rpE 30).pt 739) s else if f = 241 then frontPt ((rpE 30).pt 241) s else none, fun _ _ => none⟩
theorem rpX_l : rpX.pt 739 = ownPt 3 [739007] ((rpE 30).pt 739) := by funext s; simp [rpX]
theorem rpX_s : rpX.pt 241 = frontPt ((rpE 30).pt 241) := by funext s; simp [rpX]
theorem rpX_ok {P : Program} {nm : Nat → Option Nat} {T : Tab} (hmix : P.follows .mixedOrders = true) (hR : chkTab P nm rpS = true) : XOk P nm T rpX := by
  have hE := env_ok hmix (noEnv_ok (T := rpS)) hR (I := []) rfl 100100 30
  refine ⟨fun f g _ _ F w ds vs rs _ _ h => by simp [rpX] at h, fun f g hg _ => ?_, fun f s rs ob R hR' h => ?_⟩
  · by_cases hf : f = 739
    · subst hf; rw [rpX_l]; exact (hE.pt _ g hg).own
    by_cases hf2 : f = 241
    · subst hf2; rw [rpX_s]; exact (hE.pt _ g hg).front
    · have : rpX.pt f = fun _ => none := by funext s; simp [rpX, hf, hf2]
      rw [this]; exact SpecP.none
  · by_cases hf : f = 739
    · subst hf
      rw [rpX_l] at h ⊢
      exact ownPt_mono s rs ob R hR' h
    by_cases hf2 : f = 241
    · subst hf2
      rw [rpX_s] at h ⊢
      exact frontPt_mono (fun s rs ob R hR h => hE.mono _ s rs ob R hR h) s rs ob R hR' h
    · simp [rpX, hf, hf2] at h
theorem env_rp {T : Tab} {I : List (Nat × Nat)} {M n f : Nat} (h : get T f = none) : (env T I rpX M n).pt f = rpX.pt f := by
  funext s
  cases n <;> simp [env, envPt, h]
theorem load_rp {T : Tab} {I : List (Nat × Nat)} {M n : Nat} (h : get T 739 = none) : LoadO ((env T I rpX M n).pt 739) := by rw [env_rp h, rpX_l]; exact load_own rp_load
theorem sort_rp {T : Tab} {I : List (Nat × Nat)} {M n : Nat} (h : get T 241 = none) : SrtC ((env T I rpX M n).pt 241) := by rw [env_rp h, rpX_s]; exact srt_front (Γ := noEnv) (M := 100100) fun U => rp_sort U
end Go.Am.Si
