/- The row of the law SpanMerges: it answers true, whatever the input. -/
import Derived.Test.YtiabedphaioidaaRows
import Derived.Test.YtiabedphaioidaaSpanMergesLaw
set_option linter.unusedVariables false
namespace Go.Proofs.Ytiabedphaioidaa.spanMerges
open Go.ChangeShapes Go.WideShapes Go.ChangeAt Go.RowKit Go.Am

theorem own : ownKnob Try.prog.godebug = none := by kernel_rfl
theorem laid : laidOutB Try.prog = true := by kernel_rfl
def nums : Nat → Option Nat := get [(0, 3), (301, 35), (268, 15), (263, 11), (264, 10), (265, 12), (266, 13), (314, 37), (302, 36), (267, 14), (270, 9), (269, 16), (299, 32), (368, 31)]
theorem spec : Go.Am.Spec Try.prog 3 (env mgTab mgTabV mgEnv 30000 10 0) :=
  env_spec (nm := nums) (T := mgTab) (I := mgTabV) (X := mgEnv) Try.checked.mixed (mgEnv_ok (by decide) (by decide)) (by decide +kernel) (by decide +kernel) _ _ 0 3 (by decide)

set_option maxRecDepth 100000 in
theorem lifted (os : Os) (started : os.Started) (H : Type) (enc : TypeId × Value → H) :
    ReturnsInHanded {} Try.checked os 3 .any (Rows.spanMergesSpec.pre6 enc Try.prog Try.f3 Rows.spanMergesRow.domain false) (Rows.spanMergesSpec.post enc Try.prog Try.f3 false true false false) := by
  refine returnsInHanded_of_change (C := Try.checked) own started (by kernel_rfl) Try.func3
    (ChangeSpec.witness6 (enc := enc) (C := Try.checked) false ⟨#[], #[.slice none 0 0, .int .i64 0], []⟩ 8 (by kernel_rfl) (by kernel_rfl) (by kernel_rfl) (by kernel_rfl)) ?_
  intro W base args ds gs before hval0 hW hcnd _
  have hval : ∀ (j : Nat) t v, Try.f3.params[j]? = some t → args[j]? = some v → Value.okWide Try.prog W .any base t v := hval0
  obtain ⟨p, q, hA, hV, hpq, _⟩ := id hW
  have hA : DataW.TrodAll enc Try.prog W 0 (fun _ => true) true Try.f3.params.toList args.toList ds p := hA
  rw [Try.params3] at hA
  obtain ⟨v0, vs0, d0, ds0, p0, q0, -, rfl, rfl, -, r0⟩ := trodAll_cons hA
  obtain ⟨v1, vs1, d1, ds1, p1, q1, -, rfl, rfl, -, r1⟩ := trodAll_cons r0
  obtain ⟨-, rfl, rfl⟩ := trodAll_nil r1
  obtain ⟨rfl, rfl⟩ := trodVars_none hV
  exact law_calls (ks := [(false, [.sl [ctI, ctI]]), (false, [ctI])]) spec hW hval rfl rfl rfl rfl laid (by kernel_rfl) rfl Try.underlying4 (by kernel_rfl) fun xs has => by
    cases has with
    | cons h1 h2 =>
      cases h2 with
      | cons h2 h3 =>
        cases h3
        obtain ⟨d, rfl, hd⟩ := warg_c h1
        obtain ⟨n, rfl, hn⟩ := warg_c h2
        obtain ⟨x, hx, ox⟩ := wt_spans hd
        obtain ⟨n, rfl, hn⟩ := wt_i64.1 hn
        rw [hx]
        exact merges_law x ox n

theorem over : Rows.spanMergesRow.holds Try.pinned (OpenSpec.ofChange Rows.spanMergesSpec) :=
  OpenClaim.holds_of_wide 3 Try.f3 rfl rfl rfl rfl rfl rfl rfl ⟨rfl, rfl, rfl, rfl, rfl⟩ rfl rfl rfl rfl rfl (by kernel_rfl) Try.func3 (by kernel_rfl)
    (of_decide_eq_true (by kernel_rfl)) (by unfold Func.isWrapper; first | (rw [if_pos (by decide +kernel)]; kernel_rfl) | (rw [if_neg (by decide +kernel)]; exact ⟨rfl, rfl⟩))
    (fun os started H enc _ => lifted os started H enc)
theorem proved : Rows.SpanMergesSaid := over
end Go.Proofs.Ytiabedphaioidaa.spanMerges
