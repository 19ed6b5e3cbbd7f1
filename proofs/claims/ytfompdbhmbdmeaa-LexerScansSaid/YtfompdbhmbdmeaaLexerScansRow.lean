/- The row of the law LexerScans: it answers true, whatever the input. -/
import Derived.Test.YtfompdbhmbdmeaaRows
import Derived.Test.YtfompdbhmbdmeaaLexLawB
set_option linter.unusedVariables false
namespace Go.Proofs.Ytfompdbhmbdmeaa.lexerScans
open Go.ChangeShapes Go.WideShapes Go.ChangeAt Go.RowKit Go.Am

theorem own : ownKnob Try.prog.godebug = none := by kernel_rfl
theorem laid : laidOutB Try.prog = true := by kernel_rfl
def nums : Nat → Option Nat := get [(0, 13), (38, 53), (39, 52), (67, 82), (68, 81), (31, 48), (32, 49), (33, 50), (34, 51), (35, 47), (36, 46), (37, 45), (66, 80), (77, 91), (78, 92), (213, 94), (218, 93)]
theorem spec : Go.Am.Spec Try.prog 13 (env scansTab lexVals noEnv 70000 10 0) :=
  env_spec (nm := nums) (T := scansTab) (I := lexVals) (X := noEnv) Try.checked.mixed (fun f g h1 h2 => by
    intro F w ds vs rs _ _ h; simp [noEnv] at h) (by decide +kernel) (by decide +kernel) _ _ 0 13 (by decide)

set_option maxRecDepth 100000 in
theorem lifted (os : Os) (started : os.Started) (H : Type) (enc : TypeId × Value → H) :
    ReturnsInHanded {} Try.checked os 13 .any (Rows.lexerScansSpec.pre6 enc Try.prog Try.f13 Rows.lexerScansRow.domain false) (Rows.lexerScansSpec.post enc Try.prog Try.f13 false true false false) := by
  refine returnsInHanded_of_change (C := Try.checked) own started (by kernel_rfl) Try.func13
    (ChangeSpec.witness6 (enc := enc) (C := Try.checked) false ⟨#[], #[.string ⟨#[]⟩], []⟩ 8 (by kernel_rfl) (by kernel_rfl) (by kernel_rfl) (by kernel_rfl)) ?_
  intro W base args ds gs before hval0 hW hcnd _
  have hval : ∀ (j : Nat) t v, Try.f13.params[j]? = some t → args[j]? = some v → Value.okWide Try.prog W .any base t v := hval0
  obtain ⟨p, q, hA, hV, hpq, _⟩ := id hW
  have hA : DataW.TrodAll enc Try.prog W 0 (fun _ => true) true Try.f13.params.toList args.toList ds p := hA
  rw [Try.params13] at hA
  obtain ⟨v0, vs0, d0, ds0, p0, q0, -, rfl, rfl, -, r0⟩ := trodAll_cons hA
  obtain ⟨-, rfl, rfl⟩ := trodAll_nil r0
  obtain ⟨rfl, rfl⟩ := trodVars_none hV
  exact law_calls (ks := [(false, [.str])]) spec hW hval rfl rfl rfl rfl laid (by kernel_rfl) rfl Try.underlying4 (by kernel_rfl) fun xs has => by
    cases has with
    | cons h1 h2 =>
      cases h2
      obtain ⟨d, rfl, hd⟩ := warg_c h1
      obtain ⟨x, rfl, hx⟩ := wt_str.1 hd
      exact scans_law x hx

theorem over : Rows.lexerScansRow.holds Try.pinned (OpenSpec.ofChange Rows.lexerScansSpec) :=
  OpenClaim.holds_of_wide 13 Try.f13 rfl rfl rfl rfl rfl rfl rfl ⟨rfl, rfl, rfl, rfl, rfl⟩ rfl rfl rfl rfl rfl (by kernel_rfl) Try.func13 (by kernel_rfl)
    (of_decide_eq_true (by kernel_rfl)) (by unfold Func.isWrapper; first | (rw [if_pos (by decide +kernel)]; kernel_rfl) | (rw [if_neg (by decide +kernel)]; exact ⟨rfl, rfl⟩))
    (fun os started H enc _ => lifted os started H enc)
theorem proved : Rows.LexerScansSaid := over
end Go.Proofs.Ytfompdbhmbdmeaa.lexerScans
