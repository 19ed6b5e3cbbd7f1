/- The row of the law ParseMay: it answers true, whatever the input. -/
import Derived.Test.YtdhlplgkpgbpjaaRows
import Derived.Test.YtdhlplgkpgbpjaaParL
set_option linter.unusedVariables false
namespace Go.Proofs.Ytdhlplgkpgbpjaa.parseMay
open Go.ChangeShapes Go.WideShapes Go.ChangeAt Go.RowKit Go.Am

theorem own : ownKnob Try.prog.godebug = none := by kernel_rfl
theorem laid : laidOutB Try.prog = true := by kernel_rfl
def nums : Nat → Option Nat := get [(0, 11), (365, 63), (366, 59), (114, 54), (117, 59), (118, 57), (119, 60), (120, 61), (121, 62), (122, 58), (116, 51), (170, 103), (169, 131), (176, 151), (177, 152), (171, 133), (172, 132), (168, 134), (239, 104), (20, 155), (24, 157), (31, 140), (32, 141), (33, 136), (35, 63), (36, 56), (66, 111), (77, 137), (78, 138), (213, 142), (218, 139), (115, 52), (151, 106), (152, 107), (153, 109), (154, 108), (155, 105), (28, 53), (26, 55), (21, 110), (23, 135), (39, 65), (67, 113), (68, 112)]
theorem spec : Go.Am.Spec Try.prog 11 (env mayTab lexVals noEnv 70000 20 0) :=
  env_spec (nm := nums) (T := mayTab) (I := lexVals) (X := noEnv) Try.checked.mixed noEnv_ok (by decide +kernel) (by decide +kernel) _ _ 0 11 (by decide)

set_option maxRecDepth 100000 in
theorem lifted (os : Os) (started : os.Started) (H : Type) (enc : TypeId × Value → H) :
    ReturnsInHanded {} Try.checked os 11 .any (Rows.parseMaySpec.pre6 enc Try.prog Try.f11 Rows.parseMayRow.domain false) (Rows.parseMaySpec.post enc Try.prog Try.f11 false true false false) := by
  refine returnsInHanded_of_change (C := Try.checked) own started (by kernel_rfl) Try.func11
    (ChangeSpec.witness6 (enc := enc) (C := Try.checked) false ⟨#[], #[.string ⟨#[]⟩], []⟩ 8 (by kernel_rfl) (by kernel_rfl) (by kernel_rfl) (by kernel_rfl)) ?_
  intro W base args ds gs before hval0 hW hcnd _
  have hval : ∀ (j : Nat) t v, Try.f11.params[j]? = some t → args[j]? = some v → Value.okWide Try.prog W .any base t v := hval0
  obtain ⟨p, q, hA, hV, hpq, _⟩ := id hW
  have hA : DataW.TrodAll enc Try.prog W 0 (fun _ => true) true Try.f11.params.toList args.toList ds p := hA
  rw [Try.params11] at hA
  obtain ⟨v0, vs0, d0, ds0, p0, q0, -, rfl, rfl, -, r0⟩ := trodAll_cons hA
  obtain ⟨-, rfl, rfl⟩ := trodAll_nil r0
  obtain ⟨rfl, rfl⟩ := trodVars_none hV
  exact law_calls (ks := [(false, [.str])]) spec hW hval rfl rfl rfl rfl laid (by kernel_rfl) rfl Try.underlying4 (by kernel_rfl) fun xs has => by
    cases has with
    | cons h1 h2 =>
      cases h2
      obtain ⟨d, rfl, hd⟩ := warg_c h1
      obtain ⟨x, rfl, hx⟩ := wt_str.1 hd
      exact parseMay_law x hx

theorem over : Rows.parseMayRow.holds Try.pinned (OpenSpec.ofChange Rows.parseMaySpec) :=
  OpenClaim.holds_of_wide 11 Try.f11 rfl rfl rfl rfl rfl rfl rfl ⟨rfl, rfl, rfl, rfl, rfl⟩ rfl rfl rfl rfl rfl (by kernel_rfl) Try.func11 (by kernel_rfl)
    (of_decide_eq_true (by kernel_rfl)) (by unfold Func.isWrapper; first | (rw [if_pos (by decide +kernel)]; kernel_rfl) | (rw [if_neg (by decide +kernel)]; exact ⟨rfl, rfl⟩))
    (fun os started H enc _ => lifted os started H enc)
theorem proved : Rows.ParseMaySaid := over
end Go.Proofs.Ytdhlplgkpgbpjaa.parseMay
