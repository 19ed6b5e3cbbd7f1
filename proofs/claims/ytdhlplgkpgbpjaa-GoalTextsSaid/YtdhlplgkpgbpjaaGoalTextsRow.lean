/- The row of the law GoalTexts: it answers true, whatever the input. -/
import Derived.Test.YtdhlplgkpgbpjaaRows
import Derived.Test.YtdhlplgkpgbpjaaGtxLaw
set_option linter.unusedVariables false
namespace Go.Proofs.Ytdhlplgkpgbpjaa.goalTexts
open Go.ChangeShapes Go.WideShapes Go.ChangeAt Go.RowKit Go.Am

theorem own : ownKnob Try.prog.godebug = none := by kernel_rfl
theorem laid : laidOutB Try.prog = true := by kernel_rfl
def nums : Nat → Option Nat := get [(0, 6), (95, 33), (102, 27), (101, 28), (99, 31), (96, 34), (97, 32), (145, 90), (143, 86), (98, 29), (103, 26), (144, 89), (100, 30), (6, 94), (52, 125), (73, 147), (74, 148), (50, 87), (72, 124), (80, 145), (81, 146), (69, 88), (79, 85), (228, 123), (31, 140), (32, 141), (33, 136), (35, 63), (36, 56), (66, 111), (77, 137), (78, 138), (213, 142), (218, 139)]
theorem spec : Go.Am.Spec Try.prog 6 (env gtxTab lexVals noEnv 70000 40 0) :=
  env_spec (nm := nums) (T := gtxTab) (I := lexVals) (X := noEnv) Try.checked.mixed noEnv_ok (by decide +kernel) (by decide +kernel) _ _ 0 6 (by decide)

set_option maxRecDepth 100000 in
theorem lifted (os : Os) (started : os.Started) (H : Type) (enc : TypeId × Value → H) :
    ReturnsInHanded {} Try.checked os 6 .any (Rows.goalTextsSpec.pre6 enc Try.prog Try.f6 Rows.goalTextsRow.domain false) (Rows.goalTextsSpec.post enc Try.prog Try.f6 false true false false) := by
  refine returnsInHanded_of_change (C := Try.checked) own started (by kernel_rfl) Try.func6
    (ChangeSpec.witness6 (enc := enc) (C := Try.checked) false ⟨#[], #[.slice none 0 0], []⟩ 8 (by kernel_rfl) (by kernel_rfl) (by kernel_rfl) (by kernel_rfl)) ?_
  intro W base args ds gs before hval0 hW hcnd _
  have hval : ∀ (j : Nat) t v, Try.f6.params[j]? = some t → args[j]? = some v → Value.okWide Try.prog W .any base t v := hval0
  obtain ⟨p, q, hA, hV, hpq, _⟩ := id hW
  have hA : DataW.TrodAll enc Try.prog W 0 (fun _ => true) true Try.f6.params.toList args.toList ds p := hA
  rw [Try.params6] at hA
  obtain ⟨v0, vs0, d0, ds0, p0, q0, -, rfl, rfl, -, r0⟩ := trodAll_cons hA
  obtain ⟨-, rfl, rfl⟩ := trodAll_nil r0
  obtain ⟨rfl, rfl⟩ := trodVars_none hV
  exact law_calls (ks := [(false, [.sl ctGl])]) spec hW hval rfl rfl rfl rfl laid (by kernel_rfl) rfl Try.underlying4 (by kernel_rfl) fun xs has => by
    cases has with
    | cons h1 h2 =>
      cases h2
      obtain ⟨d, rfl, hd⟩ := warg_c h1
      obtain ⟨rows, rfl, _, hr⟩ := wt_sl.1 hd
      obtain ⟨l, rfl, hl⟩ := rows_map gl_row rows hr
      exact goalTexts_law l hl

theorem over : Rows.goalTextsRow.holds Try.pinned (OpenSpec.ofChange Rows.goalTextsSpec) :=
  OpenClaim.holds_of_wide 6 Try.f6 rfl rfl rfl rfl rfl rfl rfl ⟨rfl, rfl, rfl, rfl, rfl⟩ rfl rfl rfl rfl rfl (by kernel_rfl) Try.func6 (by kernel_rfl)
    (of_decide_eq_true (by kernel_rfl)) (by unfold Func.isWrapper; first | (rw [if_pos (by decide +kernel)]; kernel_rfl) | (rw [if_neg (by decide +kernel)]; exact ⟨rfl, rfl⟩))
    (fun os started H enc _ => lifted os started H enc)
theorem proved : Rows.GoalTextsSaid := over
end Go.Proofs.Ytdhlplgkpgbpjaa.goalTexts
