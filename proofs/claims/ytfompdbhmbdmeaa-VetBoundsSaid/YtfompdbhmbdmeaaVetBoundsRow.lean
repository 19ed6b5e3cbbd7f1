/- The row of the law VetBounds: it answers true, whatever the input. -/
import Derived.Test.YtfompdbhmbdmeaaRows
import Derived.Test.YtfompdbhmbdmeaaVet
set_option linter.unusedVariables false
namespace Go.Proofs.Ytfompdbhmbdmeaa.vetBounds
open Go.ChangeShapes Go.WideShapes Go.ChangeAt Go.RowKit Go.Am

theorem own : ownKnob Try.prog.godebug = none := by kernel_rfl
theorem laid : laidOutB Try.prog = true := by kernel_rfl
def nums : Nat → Option Nat := get [(0, 8), (20, 36), (21, 37), (22, 38), (23, 35), (24, 34), (25, 39), (26, 40), (27, 41), (28, 42), (63, 78), (64, 77)]
theorem spec : Go.Am.Spec Try.prog 8 (env boundsTab noEnv (maxLen + 200) 11 0) :=
  env_spec (nm := nums) (T := boundsTab) (X := noEnv) Try.checked.mixed (fun f g h1 h2 => by
    intro F w ds vs rs _ _ h; simp [noEnv] at h) (by decide +kernel) _ _ 0 8 (by decide)

set_option maxRecDepth 100000 in
theorem lifted (os : Os) (started : os.Started) (H : Type) (enc : TypeId × Value → H) :
    ReturnsInHanded {} Try.checked os 8 .any (Rows.vetBoundsSpec.pre6 enc Try.prog Try.f8 Rows.vetBoundsRow.domain false) (Rows.vetBoundsSpec.post enc Try.prog Try.f8 false true false false) := by
  refine returnsInHanded_of_change (C := Try.checked) own started (by kernel_rfl) Try.func8
    (ChangeSpec.witness6 (enc := enc) (C := Try.checked) false ⟨#[], #[.string ⟨#[]⟩, .int .i64 0], []⟩ 8 (by kernel_rfl) (by kernel_rfl) (by kernel_rfl) (by kernel_rfl)) ?_
  intro W base args ds gs before hval0 hW hcnd _
  have hval : ∀ (j : Nat) t v, Try.f8.params[j]? = some t → args[j]? = some v → Value.okWide Try.prog W .any base t v := hval0
  obtain ⟨p, q, hA, hV, hpq, _⟩ := id hW
  have hA : DataW.TrodAll enc Try.prog W 0 (fun _ => true) true Try.f8.params.toList args.toList ds p := hA
  rw [Try.params8] at hA
  obtain ⟨v0, vs0, d0, ds0, p0, q0, -, rfl, rfl, -, r0⟩ := trodAll_cons hA
  obtain ⟨v1, vs1, d1, ds1, p1, q1, -, rfl, rfl, -, r1⟩ := trodAll_cons r0
  obtain ⟨-, rfl, rfl⟩ := trodAll_nil r1
  obtain ⟨rfl, rfl⟩ := trodVars_none hV
  exact law_calls (ks := [(false, [.str]), (false, [ctI])]) spec hW hval rfl rfl rfl rfl laid (by kernel_rfl) rfl Try.underlying4 (by kernel_rfl) fun xs has => by
    cases has with
    | cons h1 h2 =>
      cases h2 with
      | cons h2 h3 =>
        cases h3
        obtain ⟨d, rfl, hd⟩ := warg_c h1
        obtain ⟨e, rfl, he⟩ := warg_c h2
        obtain ⟨x, rfl, hx⟩ := wt_str.1 hd
        obtain ⟨n, rfl, hn⟩ := wt_i64.1 he
        exact bounds_law x n hx hn

theorem over : Rows.vetBoundsRow.holds Try.pinned (OpenSpec.ofChange Rows.vetBoundsSpec) :=
  OpenClaim.holds_of_wide 8 Try.f8 rfl rfl rfl rfl rfl rfl rfl ⟨rfl, rfl, rfl, rfl, rfl⟩ rfl rfl rfl rfl rfl (by kernel_rfl) Try.func8 (by kernel_rfl)
    (of_decide_eq_true (by kernel_rfl)) (by unfold Func.isWrapper; first | (rw [if_pos (by decide +kernel)]; kernel_rfl) | (rw [if_neg (by decide +kernel)]; exact ⟨rfl, rfl⟩))
    (fun os started H enc _ => lifted os started H enc)
theorem proved : Rows.VetBoundsSaid := over
end Go.Proofs.Ytfompdbhmbdmeaa.vetBounds
