/- The row of the law ShowTexts: it answers true, whatever the input. -/
import Derived.Test.YtfompdbhmbdmeaaRows
import Derived.Test.YtfompdbhmbdmeaaShowLaw
set_option linter.unusedVariables false
namespace Go.Proofs.Ytfompdbhmbdmeaa.showTexts
open Go.ChangeShapes Go.WideShapes Go.ChangeAt Go.RowKit Go.Am

theorem own : ownKnob Try.prog.godebug = none := by kernel_rfl
theorem laid : laidOutB Try.prog = true := by kernel_rfl
def nums : Nat → Option Nat := get [(0, 14), (6, 22), (52, 66), (73, 87), (74, 88), (50, 64), (72, 86), (80, 96), (81, 97), (20, 36), (21, 37), (23, 35), (24, 34), (25, 39), (26, 40), (63, 78), (64, 77), (40, 56), (41, 57), (42, 58), (43, 59), (44, 60), (45, 61), (46, 62), (47, 55), (48, 54), (69, 84), (70, 83), (71, 85), (79, 95), (228, 98)]
theorem spec : Go.Am.Spec Try.prog 14 (env showTab showVals noEnv 1000 40 0) :=
  env_spec (nm := nums) (T := showTab) (I := showVals) (X := noEnv) Try.checked.mixed (fun f g h1 h2 => by
    intro F w ds vs rs _ _ h; simp [noEnv] at h) (by decide +kernel) (by decide +kernel) _ _ 0 14 (by decide)

set_option maxRecDepth 100000 in
theorem lifted (os : Os) (started : os.Started) (H : Type) (enc : TypeId × Value → H) :
    ReturnsInHanded {} Try.checked os 14 .any (Rows.showTextsSpec.pre6 enc Try.prog Try.f14 Rows.showTextsRow.domain false) (Rows.showTextsSpec.post enc Try.prog Try.f14 false true false false) := by
  refine returnsInHanded_of_change (C := Try.checked) own started (by kernel_rfl) Try.func14
    (ChangeSpec.witness6 (enc := enc) (C := Try.checked) false ⟨#[], #[.agg #[.int .i64 0, .int .i64 0, .int .i64 0, .int .i64 0, .int .i64 0, .int .i64 0, .int .i64 0, .int .i64 0, .slice none 0 0, .int .i64 0, .int .i64 0, .int .i64 0, .int .i64 0], .agg #[.int .i64 0, .int .i64 0, .int .i64 0]], []⟩ 8 (by kernel_rfl) (by kernel_rfl) (by kernel_rfl) (by kernel_rfl)) ?_
  intro W base args ds gs before hval0 hW hcnd _
  have hval : ∀ (j : Nat) t v, Try.f14.params[j]? = some t → args[j]? = some v → Value.okWide Try.prog W .any base t v := hval0
  obtain ⟨p, q, hA, hV, hpq, _⟩ := id hW
  have hA : DataW.TrodAll enc Try.prog W 0 (fun _ => true) true Try.f14.params.toList args.toList ds p := hA
  rw [Try.params14] at hA
  obtain ⟨v0, vs0, d0, ds0, p0, q0, -, rfl, rfl, -, r0⟩ := trodAll_cons hA
  obtain ⟨v1, vs1, d1, ds1, p1, q1, -, rfl, rfl, -, r1⟩ := trodAll_cons r0
  obtain ⟨-, rfl, rfl⟩ := trodAll_nil r1
  obtain ⟨rfl, rfl⟩ := trodVars_none hV
  exact law_calls (ks := [(true, ctScn), (true, [ctI, ctI, ctI])]) spec hW hval rfl rfl rfl rfl laid (by kernel_rfl) rfl Try.underlying4 (by kernel_rfl) fun xs has => by
    cases has with
    | cons h1 h2 =>
      cases h2 with
      | cons h2 h3 =>
        cases h3
        obtain ⟨d, rfl, hd⟩ := warg_agg h1
        obtain ⟨e, rfl, he⟩ := warg_agg h2
        obtain ⟨x, rfl, hx⟩ := scn_row _ hd
        simp only [all2_cons, all2_nil, wt_i64] at he
        obtain ⟨_, _, rfl, ⟨a, rfl, ha⟩, _, _, rfl, ⟨b, rfl, hb⟩, _, _, rfl, ⟨c, rfl, hc⟩, rfl⟩ := he
        exact show_law x hx a b c ha hb hc

theorem over : Rows.showTextsRow.holds Try.pinned (OpenSpec.ofChange Rows.showTextsSpec) :=
  OpenClaim.holds_of_wide 14 Try.f14 rfl rfl rfl rfl rfl rfl rfl ⟨rfl, rfl, rfl, rfl, rfl⟩ rfl rfl rfl rfl rfl (by kernel_rfl) Try.func14 (by kernel_rfl)
    (of_decide_eq_true (by kernel_rfl)) (by unfold Func.isWrapper; first | (rw [if_pos (by decide +kernel)]; kernel_rfl) | (rw [if_neg (by decide +kernel)]; exact ⟨rfl, rfl⟩))
    (fun os started H enc _ => lifted os started H enc)
theorem proved : Rows.ShowTextsSaid := over
end Go.Proofs.Ytfompdbhmbdmeaa.showTexts
