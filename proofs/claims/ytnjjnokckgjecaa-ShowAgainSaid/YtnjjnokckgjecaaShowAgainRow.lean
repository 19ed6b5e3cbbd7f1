/- The row of the law ShowAgain: it answers true, whatever the input. -/
import Derived.Test.YtnjjnokckgjecaaRows
import Derived.Test.YtnjjnokckgjecaaSbL
set_option linter.unusedVariables false
namespace Go.Proofs.Ytnjjnokckgjecaa.showAgain
open Go.ChangeShapes Go.WideShapes Go.ChangeAt Go.RowKit Go.Am

theorem own : ownKnob Try.prog.godebug = none := by kernel_rfl
theorem laid : laidOutB Try.prog = true := by kernel_rfl
def nums : Nat → Option Nat := get [(0, 8), (46, 33), (28, 32), (26, 29), (21, 68), (23, 105), (25, 69), (63, 107), (64, 106), (48, 30), (69, 73), (70, 70), (79, 103), (228, 135), (40, 78), (42, 71), (44, 72), (50, 104), (72, 136), (80, 172), (81, 173), (366, 109), (117, 109), (119, 146), (121, 147), (122, 77), (365, 74), (116, 31), (170, 75), (169, 110), (176, 145), (177, 148), (171, 112), (172, 111), (168, 113), (239, 76), (20, 137), (24, 174), (31, 142), (32, 143), (33, 138), (66, 108), (77, 139), (78, 140), (213, 144), (218, 141)]
theorem spec : Go.Am.Spec Try.prog 8 (env againTab lexVals noEnv 70000 20 0) :=
  env_spec (nm := nums) (T := againTab) (I := lexVals) (X := noEnv) Try.checked.mixed noEnv_ok (by decide +kernel) (by decide +kernel) _ _ 0 8 (by decide)

set_option maxRecDepth 100000 in
theorem lifted (os : Os) (started : os.Started) (H : Type) (enc : TypeId × Value → H) :
    ReturnsInHanded {} Try.checked os 8 .any (Rows.showAgainSpec.pre6 enc Try.prog Try.f8 Rows.showAgainRow.domain false) (Rows.showAgainSpec.post enc Try.prog Try.f8 false true false false) := by
  refine returnsInHanded_of_change (C := Try.checked) own started (by kernel_rfl) Try.func8
    (ChangeSpec.witness6 (enc := enc) (C := Try.checked) false ⟨#[], #[.string ⟨#[]⟩], []⟩ 8 (by kernel_rfl) (by kernel_rfl) (by kernel_rfl) (by kernel_rfl)) ?_
  intro W base args ds gs before hval0 hW hcnd _
  have hval : ∀ (j : Nat) t v, Try.f8.params[j]? = some t → args[j]? = some v → Value.okWide Try.prog W .any base t v := hval0
  obtain ⟨p, q, hA, hV, hpq, _⟩ := id hW
  have hA : DataW.TrodAll enc Try.prog W 0 (fun _ => true) true Try.f8.params.toList args.toList ds p := hA
  rw [Try.params8] at hA
  obtain ⟨v0, vs0, d0, ds0, p0, q0, -, rfl, rfl, -, r0⟩ := trodAll_cons hA
  obtain ⟨-, rfl, rfl⟩ := trodAll_nil r0
  obtain ⟨rfl, rfl⟩ := trodVars_none hV
  exact law_calls (ks := [(false, [.str])]) spec hW hval rfl rfl rfl rfl laid (by kernel_rfl) rfl Try.underlying4 (by kernel_rfl) fun xs has => by
    cases has with
    | cons h1 h2 =>
      cases h2
      obtain ⟨d, rfl, hd⟩ := warg_c h1
      obtain ⟨x, rfl, hx⟩ := wt_str.1 hd
      exact showAgain_law x hx

theorem over : Rows.showAgainRow.holds Try.pinned (OpenSpec.ofChange Rows.showAgainSpec) :=
  OpenClaim.holds_of_wide 8 Try.f8 rfl rfl rfl rfl rfl rfl rfl ⟨rfl, rfl, rfl, rfl, rfl⟩ rfl rfl rfl rfl rfl (by kernel_rfl) Try.func8 (by kernel_rfl)
    (of_decide_eq_true (by kernel_rfl)) (by unfold Func.isWrapper; first | (rw [if_pos (by decide +kernel)]; kernel_rfl) | (rw [if_neg (by decide +kernel)]; exact ⟨rfl, rfl⟩))
    (fun os started H enc _ => lifted os started H enc)
theorem proved : Rows.ShowAgainSaid := over
end Go.Proofs.Ytnjjnokckgjecaa.showAgain
