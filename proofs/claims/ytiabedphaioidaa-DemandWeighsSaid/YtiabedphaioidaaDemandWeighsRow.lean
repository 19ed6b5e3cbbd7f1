/- The row of the law DemandWeighs: it answers true, whatever the input. -/
import Derived.Test.YtiabedphaioidaaRows
import Derived.Test.YtiabedphaioidaaDemWeighsLaw
set_option linter.unusedVariables false
namespace Go.Proofs.Ytiabedphaioidaa.demandWeighs
open Go.ChangeShapes Go.WideShapes Go.ChangeAt Go.RowKit Go.Am

theorem own : ownKnob Try.prog.godebug = none := by kernel_rfl
theorem laid : laidOutB Try.prog = true := by kernel_rfl
def nums : Nat → Option Nat := get [(0, 6), (303, 38), (56, 27), (282, 20), (304, 39), (281, 21), (305, 40), (279, 24), (280, 22), (277, 25), (278, 23), (276, 26)]
theorem spec : Go.Am.Spec Try.prog 6 (env weighsTab weighsTabV demEnv 120000 10 0) :=
  env_spec (nm := nums) (T := weighsTab) (I := weighsTabV) (X := demEnv) Try.checked.mixed (demEnv_ok (by decide)) (by decide +kernel) (by decide +kernel) _ _ 0 6 (by decide)

set_option maxRecDepth 100000 in
theorem lifted (os : Os) (started : os.Started) (H : Type) (enc : TypeId × Value → H) :
    ReturnsInHanded {} Try.checked os 6 .any (Rows.demandWeighsSpec.pre6 enc Try.prog Try.f6 Rows.demandWeighsRow.domain false) (Rows.demandWeighsSpec.post enc Try.prog Try.f6 false true false false) := by
  refine returnsInHanded_of_change (C := Try.checked) own started (by kernel_rfl) Try.func6
    (ChangeSpec.witness6 (enc := enc) (C := Try.checked) false ⟨#[], #[.int .i64 0, .int .i64 0], []⟩ 8 (by kernel_rfl) (by kernel_rfl) (by kernel_rfl) (by kernel_rfl)) ?_
  intro W base args ds gs before hval0 hW hcnd _
  have hval : ∀ (j : Nat) t v, Try.f6.params[j]? = some t → args[j]? = some v → Value.okWide Try.prog W .any base t v := hval0
  obtain ⟨p, q, hA, hV, hpq, _⟩ := id hW
  have hA : DataW.TrodAll enc Try.prog W 0 (fun _ => true) true Try.f6.params.toList args.toList ds p := hA
  rw [Try.params6] at hA
  obtain ⟨v0, vs0, d0, ds0, p0, q0, -, rfl, rfl, -, r0⟩ := trodAll_cons hA
  obtain ⟨v1, vs1, d1, ds1, p1, q1, -, rfl, rfl, -, r1⟩ := trodAll_cons r0
  obtain ⟨-, rfl, rfl⟩ := trodAll_nil r1
  obtain ⟨rfl, rfl⟩ := trodVars_none hV
  exact law_calls (ks := [(false, [ctI]), (false, [ctI])]) spec hW hval rfl rfl rfl rfl laid (by kernel_rfl) rfl Try.underlying4 (by kernel_rfl) fun xs has => by
    cases has with
    | cons h1 h2 =>
      cases h2 with
      | cons h2 h3 =>
        cases h3
        obtain ⟨d, rfl, hd⟩ := warg_c h1
        obtain ⟨e, rfl, he⟩ := warg_c h2
        obtain ⟨t, rfl, ht⟩ := wt_i64.1 hd
        obtain ⟨f, rfl, hf⟩ := wt_i64.1 he
        exact weighs_law t f

theorem over : Rows.demandWeighsRow.holds Try.pinned (OpenSpec.ofChange Rows.demandWeighsSpec) :=
  OpenClaim.holds_of_wide 6 Try.f6 rfl rfl rfl rfl rfl rfl rfl ⟨rfl, rfl, rfl, rfl, rfl⟩ rfl rfl rfl rfl rfl (by kernel_rfl) Try.func6 (by kernel_rfl)
    (of_decide_eq_true (by kernel_rfl)) (by unfold Func.isWrapper; first | (rw [if_pos (by decide +kernel)]; kernel_rfl) | (rw [if_neg (by decide +kernel)]; exact ⟨rfl, rfl⟩))
    (fun os started H enc _ => lifted os started H enc)
theorem proved : Rows.DemandWeighsSaid := over
end Go.Proofs.Ytiabedphaioidaa.demandWeighs
