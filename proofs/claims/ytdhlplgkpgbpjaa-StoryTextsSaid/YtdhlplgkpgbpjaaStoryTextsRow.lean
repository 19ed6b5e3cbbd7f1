/- The row of the law StoryTexts: it answers true, whatever the input. -/
import Derived.Test.YtdhlplgkpgbpjaaRows
import Derived.Test.YtdhlplgkpgbpjaaStxLaw
set_option linter.unusedVariables false
namespace Go.Proofs.Ytdhlplgkpgbpjaa.storyTexts
open Go.ChangeShapes Go.WideShapes Go.ChangeAt Go.RowKit Go.Am

theorem own : ownKnob Try.prog.godebug = none := by kernel_rfl
theorem laid : laidOutB Try.prog = true := by kernel_rfl
def nums : Nat → Option Nat := get [(0, 8), (106, 41), (208, 39), (209, 40), (210, 37), (53, 96), (149, 97), (54, 95), (75, 126), (165, 127), (82, 16), (84, 17), (86, 13), (123, 64), (124, 66), (148, 93), (125, 38), (50, 87), (72, 124), (80, 145), (81, 146), (6, 94), (52, 125), (73, 147), (74, 148), (69, 88), (79, 85), (228, 123), (31, 140), (32, 141), (33, 136), (35, 63), (36, 56), (66, 111), (77, 137), (78, 138), (213, 142), (218, 139)]
theorem spec : Go.Am.Spec Try.prog 8 (env stxTab lexVals noEnv 70000 40 0) :=
  env_spec (nm := nums) (T := stxTab) (I := lexVals) (X := noEnv) Try.checked.mixed noEnv_ok (by decide +kernel) (by decide +kernel) _ _ 0 8 (by decide)

set_option maxRecDepth 100000 in
theorem lifted (os : Os) (started : os.Started) (H : Type) (enc : TypeId × Value → H) :
    ReturnsInHanded {} Try.checked os 8 .any (Rows.storyTextsSpec.pre6 enc Try.prog Try.f8 Rows.storyTextsRow.domain false) (Rows.storyTextsSpec.post enc Try.prog Try.f8 false true false false) := by
  refine returnsInHanded_of_change (C := Try.checked) own started (by kernel_rfl) Try.func8
    (ChangeSpec.witness6 (enc := enc) (C := Try.checked) false ⟨#[], #[.slice none 0 0, .agg #[.int .i64 0, .int .i64 0, .int .i64 0, .int .i64 0], .agg #[.int .i64 0, .int .i64 0, .int .i64 0, .int .i64 0]], []⟩ 8 (by kernel_rfl) (by kernel_rfl) (by kernel_rfl) (by kernel_rfl)) ?_
  intro W base args ds gs before hval0 hW hcnd _
  have hval : ∀ (j : Nat) t v, Try.f8.params[j]? = some t → args[j]? = some v → Value.okWide Try.prog W .any base t v := hval0
  obtain ⟨p, q, hA, hV, hpq, _⟩ := id hW
  have hA : DataW.TrodAll enc Try.prog W 0 (fun _ => true) true Try.f8.params.toList args.toList ds p := hA
  rw [Try.params8] at hA
  obtain ⟨v0, vs0, d0, ds0, p0, q0, -, rfl, rfl, -, r0⟩ := trodAll_cons hA
  obtain ⟨v1, vs1, d1, ds1, p1, q1, -, rfl, rfl, -, r1⟩ := trodAll_cons r0
  obtain ⟨v2, vs2, d2, ds2, p2, q2, -, rfl, rfl, -, r2⟩ := trodAll_cons r1
  obtain ⟨-, rfl, rfl⟩ := trodAll_nil r2
  obtain ⟨rfl, rfl⟩ := trodVars_none hV
  exact law_calls (ks := [(false, [.sl ctEv]), (true, ctEv), (true, ctEv)]) spec hW hval rfl rfl rfl rfl laid (by kernel_rfl) rfl Try.underlying4 (by kernel_rfl) fun xs has => by
    cases has with
    | cons h1 h2 =>
      cases h2 with
      | cons h2 h3 =>
        cases h3 with
        | cons h3 h4 =>
          cases h4
          obtain ⟨d, rfl, hd⟩ := warg_c h1
          obtain ⟨rows, rfl, _, hr⟩ := wt_sl.1 hd
          obtain ⟨l, rfl, hl⟩ := rows_map ev_row rows hr
          obtain ⟨ds, rfl, hd2⟩ := warg_agg h2
          obtain ⟨es, rfl, hd3⟩ := warg_agg h3
          obtain ⟨a, rfl, _⟩ := ev_row _ hd2
          obtain ⟨b, rfl, _⟩ := ev_row _ hd3
          exact storyTexts_law l hl a b

theorem over : Rows.storyTextsRow.holds Try.pinned (OpenSpec.ofChange Rows.storyTextsSpec) :=
  OpenClaim.holds_of_wide 8 Try.f8 rfl rfl rfl rfl rfl rfl rfl ⟨rfl, rfl, rfl, rfl, rfl⟩ rfl rfl rfl rfl rfl (by kernel_rfl) Try.func8 (by kernel_rfl)
    (of_decide_eq_true (by kernel_rfl)) (by unfold Func.isWrapper; first | (rw [if_pos (by decide +kernel)]; kernel_rfl) | (rw [if_neg (by decide +kernel)]; exact ⟨rfl, rfl⟩))
    (fun os started H enc _ => lifted os started H enc)
theorem proved : Rows.StoryTextsSaid := over
end Go.Proofs.Ytdhlplgkpgbpjaa.storyTexts
