/- The row of the law DemandOf: it answers true, whatever the input. -/
import Derived.Test.YtiabedphaioidaaRows
import Derived.Test.YtiabedphaioidaaDemOfLaw
set_option linter.unusedVariables false
namespace Go.Proofs.Ytiabedphaioidaa.demandOf
open Go.ChangeShapes Go.WideShapes Go.ChangeAt Go.RowKit Go.Am

theorem own : ownKnob Try.prog.godebug = none := by kernel_rfl
theorem laid : laidOutB Try.prog = true := by kernel_rfl
def nums : Nat → Option Nat := get [(0, 7), (56, 27), (318, 51), (317, 52), (307, 44), (286, 28), (319, 53), (308, 45), (285, 29), (278, 23), (281, 21), (304, 39), (282, 20), (303, 38), (276, 26)]
theorem spec : Go.Am.Spec Try.prog 7 (env ofTab ofTabV demEnv 120000 10 0) :=
  env_spec (nm := nums) (T := ofTab) (I := ofTabV) (X := demEnv) Try.checked.mixed (demEnv_ok (by decide)) (by decide +kernel) (by decide +kernel) _ _ 0 7 (by decide)

set_option maxRecDepth 100000 in
theorem lifted (os : Os) (started : os.Started) (H : Type) (enc : TypeId × Value → H) :
    ReturnsInHanded {} Try.checked os 7 .any (Rows.demandOfSpec.pre6 enc Try.prog Try.f7 Rows.demandOfRow.domain false) (Rows.demandOfSpec.post enc Try.prog Try.f7 false true false false) := by
  refine returnsInHanded_of_change (C := Try.checked) own started (by kernel_rfl) Try.func7
    (ChangeSpec.witness6 (enc := enc) (C := Try.checked) false ⟨#[], #[.slice none 0 0, .int .u32 0], []⟩ 8 (by kernel_rfl) (by kernel_rfl) (by kernel_rfl) (by kernel_rfl)) ?_
  intro W base args ds gs before hval0 hW hcnd _
  have hval : ∀ (j : Nat) t v, Try.f7.params[j]? = some t → args[j]? = some v → Value.okWide Try.prog W .any base t v := hval0
  obtain ⟨p, q, hA, hV, hpq, _⟩ := id hW
  have hA : DataW.TrodAll enc Try.prog W 0 (fun _ => true) true Try.f7.params.toList args.toList ds p := hA
  rw [Try.params7] at hA
  obtain ⟨v0, vs0, d0, ds0, p0, q0, -, rfl, rfl, -, r0⟩ := trodAll_cons hA
  obtain ⟨v1, vs1, d1, ds1, p1, q1, -, rfl, rfl, -, r1⟩ := trodAll_cons r0
  obtain ⟨-, rfl, rfl⟩ := trodAll_nil r1
  obtain ⟨rfl, rfl⟩ := trodVars_none hV
  exact law_calls (ks := [(false, [.sl [ctI, ctI, ctI]]), (false, [.int .u32])]) spec hW hval rfl rfl rfl rfl laid (by kernel_rfl) rfl Try.underlying4 (by kernel_rfl) fun xs has => by
    cases has with
    | cons h1 h2 =>
      cases h2 with
      | cons h2 h3 =>
        cases h3
        obtain ⟨d, rfl, hd⟩ := warg_c h1
        obtain ⟨e, rfl, he⟩ := warg_c h2
        obtain ⟨l, hl, hv⟩ := wt_weights hd
        obtain ⟨w, rfl, hw1, hw2⟩ := wt_int.1 he
        rw [hl]
        exact of_law l hv w hw1 hw2

theorem over : Rows.demandOfRow.holds Try.pinned (OpenSpec.ofChange Rows.demandOfSpec) :=
  OpenClaim.holds_of_wide 7 Try.f7 rfl rfl rfl rfl rfl rfl rfl ⟨rfl, rfl, rfl, rfl, rfl⟩ rfl rfl rfl rfl rfl (by kernel_rfl) Try.func7 (by kernel_rfl)
    (of_decide_eq_true (by kernel_rfl)) (by unfold Func.isWrapper; first | (rw [if_pos (by decide +kernel)]; kernel_rfl) | (rw [if_neg (by decide +kernel)]; exact ⟨rfl, rfl⟩))
    (fun os started H enc _ => lifted os started H enc)
theorem proved : Rows.DemandOfSaid := over
end Go.Proofs.Ytiabedphaioidaa.demandOf
