/- The row of the law SpanLens: it answers true, whatever the input. -/
import Derived.Test.YtiabedphaioidaaRows
import Derived.Test.YtiabedphaioidaaSpanLensLaw
set_option linter.unusedVariables false
namespace Go.Proofs.Ytiabedphaioidaa.spanLens
open Go.ChangeShapes Go.WideShapes Go.ChangeAt Go.RowKit Go.Am

theorem own : ownKnob Try.prog.godebug = none := by kernel_rfl
theorem laid : laidOutB Try.prog = true := by kernel_rfl
def nums : Nat → Option Nat := get [(0, 4), (301, 35), (268, 15), (263, 11), (273, 18), (274, 19), (272, 17), (269, 16), (270, 9), (368, 31), (264, 10), (299, 32)]
theorem spec : Go.Am.Spec Try.prog 4 (env lensTab lensTabV spEnv 30000 10 0) :=
  env_spec (nm := nums) (T := lensTab) (I := lensTabV) (X := spEnv) Try.checked.mixed (spEnv_ok (by decide)) (by decide +kernel) (by decide +kernel) _ _ 0 4 (by decide)

set_option maxRecDepth 100000 in
theorem lifted (os : Os) (started : os.Started) (H : Type) (enc : TypeId × Value → H) :
    ReturnsInHanded {} Try.checked os 4 .any (Rows.spanLensSpec.pre6 enc Try.prog Try.f4 Rows.spanLensRow.domain false) (Rows.spanLensSpec.post enc Try.prog Try.f4 false true false false) := by
  refine returnsInHanded_of_change (C := Try.checked) own started (by kernel_rfl) Try.func4
    (ChangeSpec.witness6 (enc := enc) (C := Try.checked) false ⟨#[], #[.slice none 0 0, .slice none 0 0], []⟩ 8 (by kernel_rfl) (by kernel_rfl) (by kernel_rfl) (by kernel_rfl)) ?_
  intro W base args ds gs before hval0 hW hcnd _
  have hval : ∀ (j : Nat) t v, Try.f4.params[j]? = some t → args[j]? = some v → Value.okWide Try.prog W .any base t v := hval0
  obtain ⟨p, q, hA, hV, hpq, _⟩ := id hW
  have hA : DataW.TrodAll enc Try.prog W 0 (fun _ => true) true Try.f4.params.toList args.toList ds p := hA
  rw [Try.params4] at hA
  obtain ⟨v0, vs0, d0, ds0, p0, q0, -, rfl, rfl, -, r0⟩ := trodAll_cons hA
  obtain ⟨v1, vs1, d1, ds1, p1, q1, -, rfl, rfl, -, r1⟩ := trodAll_cons r0
  obtain ⟨-, rfl, rfl⟩ := trodAll_nil r1
  obtain ⟨rfl, rfl⟩ := trodVars_none hV
  exact law_calls (ks := [(false, [.sl [ctI, ctI]]), (false, [.sl [ctI, ctI]])]) spec hW hval rfl rfl rfl rfl laid (by kernel_rfl) rfl Try.underlying4 (by kernel_rfl) fun xs has => by
    cases has with
    | cons h1 h2 =>
      cases h2 with
      | cons h2 h3 =>
        cases h3
        obtain ⟨d, rfl, hd⟩ := warg_c h1
        obtain ⟨e, rfl, he⟩ := warg_c h2
        obtain ⟨x, hx, ox⟩ := wt_spans hd
        obtain ⟨y, hy, oy⟩ := wt_spans he
        rw [hx, hy]
        exact lens_law x y ox oy

theorem over : Rows.spanLensRow.holds Try.pinned (OpenSpec.ofChange Rows.spanLensSpec) :=
  OpenClaim.holds_of_wide 4 Try.f4 rfl rfl rfl rfl rfl rfl rfl ⟨rfl, rfl, rfl, rfl, rfl⟩ rfl rfl rfl rfl rfl (by kernel_rfl) Try.func4 (by kernel_rfl)
    (of_decide_eq_true (by kernel_rfl)) (by unfold Func.isWrapper; first | (rw [if_pos (by decide +kernel)]; kernel_rfl) | (rw [if_neg (by decide +kernel)]; exact ⟨rfl, rfl⟩))
    (fun os started H enc _ => lifted os started H enc)
theorem proved : Rows.SpanLensSaid := over
end Go.Proofs.Ytiabedphaioidaa.spanLens
