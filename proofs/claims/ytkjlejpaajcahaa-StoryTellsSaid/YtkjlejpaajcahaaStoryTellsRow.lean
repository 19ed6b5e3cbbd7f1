/- The row of the law StoryTells: it answers true, whatever the input. -/
import Derived.Test.YtkjlejpaajcahaaRows
import Derived.Test.YtkjlejpaajcahaaStoLaw
set_option linter.unusedVariables false
namespace Go.Proofs.Ytkjlejpaajcahaa.storyTells
open Go.ChangeShapes Go.WideShapes Go.ChangeAt Go.RowKit Go.Am

theorem own : ownKnob Try.prog.godebug = none := by kernel_rfl
theorem laid : laidOutB Try.prog = true := by kernel_rfl
def nums : Nat → Option Nat := get [(0, 3), (60, 8), (292, 50), (256, 9), (75, 125), (165, 126), (53, 92), (149, 93), (54, 91), (209, 53), (362, 185), (354, 139), (332, 123), (331, 124), (311, 90), (293, 52), (210, 94), (295, 54), (82, 11), (83, 10), (294, 51), (113, 42), (128, 95), (296, 55), (255, 12), (254, 13), (84, 14), (86, 56), (125, 57), (35, 96), (123, 97), (148, 98), (79, 99), (50, 100), (69, 101), (33, 140), (66, 127), (77, 141), (78, 142), (218, 143), (31, 144), (32, 145), (213, 146), (228, 128), (72, 129), (80, 148), (81, 149)]
theorem spec : Go.Am.Spec Try.prog 3 (env stoTab stoTabV noEnv 100100 20 0) :=
  env_spec (nm := nums) (T := stoTab) (I := stoTabV) (X := noEnv) Try.checked.mixed noEnv_ok (by decide +kernel) (by decide +kernel) _ _ 0 3 (by decide)

set_option maxRecDepth 100000 in
theorem lifted (os : Os) (started : os.Started) (H : Type) (enc : TypeId × Value → H) :
    ReturnsInHanded {} Try.checked os 3 .any (Rows.storyTellsSpec.pre6 enc Try.prog Try.f3 Rows.storyTellsRow.domain false) (Rows.storyTellsSpec.post enc Try.prog Try.f3 false true false false) := by
  refine returnsInHanded_of_change (C := Try.checked) own started (by kernel_rfl) Try.func3
    (ChangeSpec.witness6 (enc := enc) (C := Try.checked) false ⟨#[], #[.agg #[.slice none 0 0, .slice none 0 0, .int .i64 0], .int .i64 0], []⟩ 8 (by kernel_rfl) (by kernel_rfl) (by kernel_rfl) (by kernel_rfl)) ?_
  intro W base args ds gs before hval0 hW hcnd _
  have hval : ∀ (j : Nat) t v, Try.f3.params[j]? = some t → args[j]? = some v → Value.okWide Try.prog W .any base t v := hval0
  obtain ⟨p, q, hA, hV, hpq, _⟩ := id hW
  have hA : DataW.TrodAll enc Try.prog W 0 (fun _ => true) true Try.f3.params.toList args.toList ds p := hA
  rw [Try.params3] at hA
  obtain ⟨v0, vs0, d0, ds0, p0, q0, -, rfl, rfl, -, r0⟩ := trodAll_cons hA
  obtain ⟨v1, vs1, d1, ds1, p1, q1, -, rfl, rfl, -, r1⟩ := trodAll_cons r0
  obtain ⟨-, rfl, rfl⟩ := trodAll_nil r1
  obtain ⟨rfl, rfl⟩ := trodVars_none hV
  exact law_calls (ks := [(true, ctLog), (false, [ctI])]) spec hW hval (fun b h => by simp [gBlocks] at h) rfl rfl rfl rfl laid (by kernel_rfl) rfl Try.underlying4 (by kernel_rfl) fun xs has => by
    cases has with
    | cons h1 h2 =>
      cases h2 with
      | cons h2 h3 =>
        cases h3
        obtain ⟨ds, rfl, hd⟩ := warg_agg h1
        obtain ⟨d, rfl, hd2⟩ := warg_c h2
        obtain ⟨l, rfl, hl⟩ := log_row _ hd
        obtain ⟨n, rfl, hn⟩ := wt_i64.1 hd2
        exact storyTells_law l.trips l.legs l.used n

theorem over : Rows.storyTellsRow.holds Try.pinned (OpenSpec.ofChange Rows.storyTellsSpec) :=
  OpenClaim.holds_of_wide 3 Try.f3 rfl rfl rfl rfl rfl rfl rfl ⟨rfl, rfl, rfl, rfl, rfl⟩ rfl rfl rfl rfl rfl (by kernel_rfl) Try.func3 (by kernel_rfl)
    (of_decide_eq_true (by kernel_rfl)) (by unfold Func.isWrapper; first | (rw [if_pos (by decide +kernel)]; kernel_rfl) | (rw [if_neg (by decide +kernel)]; exact ⟨rfl, rfl⟩))
    (fun os started H enc _ => lifted os started H enc)
theorem proved : Rows.StoryTellsSaid := over
end Go.Proofs.Ytkjlejpaajcahaa.storyTells
