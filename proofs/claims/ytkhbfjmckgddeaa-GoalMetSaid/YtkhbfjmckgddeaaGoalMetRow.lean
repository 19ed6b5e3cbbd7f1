/- The row of the law GoalMet: it answers true, whatever the input. -/
import Derived.Test.YtkhbfjmckgddeaaRows
import Derived.Test.YtkhbfjmckgddeaaGmLaw
import Derived.Test.YtkhbfjmckgddeaaLay
set_option linter.unusedVariables false
namespace Go.Proofs.Ytkhbfjmckgddeaa.goalMet
open Go.ChangeShapes Go.WideShapes Go.ChangeAt Go.RowKit Go.Am

theorem own : ownKnob Try.prog.godebug = none := by kernel_rfl
theorem laid : laidOutB Try.prog = true := by kernel_rfl
def nums : Nat → Option Nat := get [(0, 3), (248, 77), (367, 78), (252, 51), (60, 7), (51, 53), (407, 50), (402, 28), (403, 33), (408, 52), (405, 31), (406, 32), (401, 29), (404, 30), (398, 11), (399, 10), (397, 13), (100, 8), (99, 9), (109, 12), (96, 14), (97, 34), (103, 35), (145, 55), (98, 56), (143, 58), (35, 54), (66, 80), (33, 90), (77, 91), (78, 92), (218, 93), (31, 94), (32, 95), (213, 96), (228, 81), (79, 57), (69, 60), (50, 59), (72, 82), (80, 98), (81, 99), (290, 79)]
theorem spec : Go.Am.Spec Try.prog 3 (env metTab metTabV srtEnv 70000 13 0) :=
  env_spec (nm := nums) (T := metTab) (I := metTabV) (X := srtEnv) Try.checked.mixed (srtEnv_ok Go.Proofs.Try.lays189 (by decide)) (by decide +kernel) (by decide +kernel) _ _ 0 3 (by decide)

set_option maxRecDepth 100000 in
theorem lifted (os : Os) (started : os.Started) (H : Type) (enc : TypeId × Value → H) :
    ReturnsInHanded {} Try.checked os 3 .any (Rows.goalMetSpec.pre6 enc Try.prog Try.f3 Rows.goalMetRow.domain false) (Rows.goalMetSpec.post enc Try.prog Try.f3 false true false false) := by
  refine returnsInHanded_of_change (C := Try.checked) own started (by kernel_rfl) Try.func3
    (ChangeSpec.witness6 (enc := enc) (C := Try.checked) false ⟨#[], #[.slice none 0 0, .slice none 0 0], []⟩ 8 (by kernel_rfl) (by kernel_rfl) (by kernel_rfl) (by kernel_rfl)) ?_
  intro W base args ds gs before hval0 hW hcnd _
  have hval : ∀ (j : Nat) t v, Try.f3.params[j]? = some t → args[j]? = some v → Value.okWide Try.prog W .any base t v := hval0
  obtain ⟨p, q, hA, hV, hpq, _⟩ := id hW
  have hA : DataW.TrodAll enc Try.prog W 0 (fun _ => true) true Try.f3.params.toList args.toList ds p := hA
  rw [Try.params3] at hA
  obtain ⟨v0, vs0, d0, ds0, p0, q0, -, rfl, rfl, -, r0⟩ := trodAll_cons hA
  obtain ⟨v1, vs1, d1, ds1, p1, q1, -, rfl, rfl, -, r1⟩ := trodAll_cons r0
  obtain ⟨-, rfl, rfl⟩ := trodAll_nil r1
  obtain ⟨rfl, rfl⟩ := trodVars_none hV
  exact law_calls (ks := [(false, [.sl ctGl]), (false, [.sl ctTrip])]) spec hW hval rfl rfl rfl rfl laid (by kernel_rfl) rfl Try.underlying4 (by kernel_rfl) fun xs has => by
    cases has with | cons h1 h2 => cases h2 with | cons h3 h4 => cases h4; obtain ⟨d1, rfl, hd1⟩ := warg_c h1; obtain ⟨d2, rfl, hd2⟩ := warg_c h3; obtain ⟨gs, hgs⟩ := wt_gls hd1; obtain ⟨l, hl⟩ := wt_trips hd2; rw [hgs, hl]; exact goalMet_law gs l

theorem over : Rows.goalMetRow.holds Try.pinned (OpenSpec.ofChange Rows.goalMetSpec) :=
  OpenClaim.holds_of_wide 3 Try.f3 rfl rfl rfl rfl rfl rfl rfl ⟨rfl, rfl, rfl, rfl, rfl⟩ rfl rfl rfl rfl rfl (by kernel_rfl) Try.func3 (by kernel_rfl)
    (of_decide_eq_true (by kernel_rfl)) (by unfold Func.isWrapper; first | (rw [if_pos (by decide +kernel)]; kernel_rfl) | (rw [if_neg (by decide +kernel)]; exact ⟨rfl, rfl⟩))
    (fun os started H enc _ => lifted os started H enc)
theorem proved : Rows.GoalMetSaid := over
end Go.Proofs.Ytkhbfjmckgddeaa.goalMet
