/- The row of the law AxiomWays: it answers true, whatever the input. -/
import Derived.Test.YtmepibdbnbmapaaRows
import Derived.Test.YtmepibdbnbmapaaAxL
set_option linter.unusedVariables false
namespace Go.Proofs.Ytmepibdbnbmapaa.axiomWays
open Go.ChangeShapes Go.WideShapes Go.ChangeAt Go.RowKit Go.Am

theorem own : ownKnob Try.prog.godebug = none := by kernel_rfl
theorem laid : laidOutB Try.prog = true := by kernel_rfl
def nums : Nat → Option Nat := get [(0, 3), (89, 12), (92, 9), (157, 105), (156, 106), (127, 53), (178, 140), (173, 119), (49, 104), (3, 54), (167, 114), (150, 74), (126, 55), (90, 10), (131, 59), (87, 13), (113, 18), (128, 58), (129, 57), (130, 56), (91, 11), (132, 60), (88, 14), (158, 107), (137, 61), (159, 108), (136, 62), (160, 71), (135, 63), (161, 109), (134, 64), (162, 110), (133, 65), (93, 15), (26, 52), (21, 103), (23, 136)]
theorem spec : Go.Am.Spec Try.prog 3 (env waysTab48 [] noEnv 70000 12 0) :=
  env_spec (nm := nums) (T := waysTab48) (I := []) (X := noEnv) Try.checked.mixed noEnv_ok (by decide +kernel) (by decide +kernel) _ _ 0 3 (by decide)

set_option maxRecDepth 100000 in
theorem lifted (os : Os) (started : os.Started) (H : Type) (enc : TypeId × Value → H) :
    ReturnsInHanded {} Try.checked os 3 .any (Rows.axiomWaysSpec.pre6 enc Try.prog Try.f3 Rows.axiomWaysRow.domain false) (Rows.axiomWaysSpec.post enc Try.prog Try.f3 false true false false) := by
  refine returnsInHanded_of_change (C := Try.checked) own started (by kernel_rfl) Try.func3
    (ChangeSpec.witness6 (enc := enc) (C := Try.checked) false ⟨#[], #[.agg #[.int .i64 0, .int .i64 0, .int .i64 0, .int .i64 0, .int .i64 0, .int .i64 0, .int .i64 0, .int .i64 0, .slice none 0 0, .int .i64 0, .int .i64 0, .int .i64 0, .int .i64 0], .agg #[.slice none 0 0, .slice none 0 0, .int .i64 0]], []⟩ 8 (by kernel_rfl) (by kernel_rfl) (by kernel_rfl) (by kernel_rfl)) ?_
  intro W base args ds gs before hval0 hW hcnd _
  have hval : ∀ (j : Nat) t v, Try.f3.params[j]? = some t → args[j]? = some v → Value.okWide Try.prog W .any base t v := hval0
  obtain ⟨p, q, hA, hV, hpq, _⟩ := id hW
  have hA : DataW.TrodAll enc Try.prog W 0 (fun _ => true) true Try.f3.params.toList args.toList ds p := hA
  rw [Try.params3] at hA
  obtain ⟨v0, vs0, d0, ds0, p0, q0, -, rfl, rfl, -, r0⟩ := trodAll_cons hA
  obtain ⟨v1, vs1, d1, ds1, p1, q1, -, rfl, rfl, -, r1⟩ := trodAll_cons r0
  obtain ⟨-, rfl, rfl⟩ := trodAll_nil r1
  obtain ⟨rfl, rfl⟩ := trodVars_none hV
  exact law_calls (ks := [(true, ctScn), (true, ctLog)]) spec hW hval rfl rfl rfl rfl laid (by kernel_rfl) rfl Try.underlying4 (by kernel_rfl) fun xs has => by
    cases has with
    | cons h1 h2 =>
      cases h2 with
      | cons h2 h3 =>
        cases h3
        obtain ⟨d, rfl, hd⟩ := warg_agg h1
        obtain ⟨e, rfl, he⟩ := warg_agg h2
        obtain ⟨x, rfl, hx⟩ := scn_row _ hd
        obtain ⟨y, rfl, hy⟩ := log_row _ he
        exact axiomWays_law x y hx hy

theorem over : Rows.axiomWaysRow.holds Try.pinned (OpenSpec.ofChange Rows.axiomWaysSpec) :=
  OpenClaim.holds_of_wide 3 Try.f3 rfl rfl rfl rfl rfl rfl rfl ⟨rfl, rfl, rfl, rfl, rfl⟩ rfl rfl rfl rfl rfl (by kernel_rfl) Try.func3 (by kernel_rfl)
    (of_decide_eq_true (by kernel_rfl)) (by unfold Func.isWrapper; first | (rw [if_pos (by decide +kernel)]; kernel_rfl) | (rw [if_neg (by decide +kernel)]; exact ⟨rfl, rfl⟩))
    (fun os started H enc _ => lifted os started H enc)
theorem proved : Rows.AxiomWaysSaid := over
end Go.Proofs.Ytmepibdbnbmapaa.axiomWays
