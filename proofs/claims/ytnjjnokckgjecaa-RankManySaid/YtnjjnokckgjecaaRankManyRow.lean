/- The row of the law RankMany: it answers true, whatever the input. -/
import Derived.Test.YtnjjnokckgjecaaRows
import Derived.Test.YtnjjnokckgjecaaRankN
import Derived.Test.YtnjjnokckgjecaaLay
set_option linter.unusedVariables false
namespace Go.Proofs.Ytnjjnokckgjecaa.rankMany
open Go.ChangeShapes Go.WideShapes Go.ChangeAt Go.RowKit Go.Am

theorem own : ownKnob Try.prog.godebug = none := by kernel_rfl
theorem laid : laidOutB Try.prog = true := by kernel_rfl
def nums : Nat → Option Nat := get [(0, 6), (247, 16), (248, 15), (252, 17), (367, 56), (251, 18), (250, 19), (290, 57), (297, 66), (298, 67), (258, 28), (259, 27)]
theorem spec : Go.Am.Spec Try.prog 6 (env manyTab15 [] srtEnv 70000 8 0) :=
  env_spec (nm := nums) (T := manyTab15) (I := []) (X := srtEnv) Try.checked.mixed (srtEnv_ok Go.Proofs.Try.lays189 (by decide)) (by decide +kernel) (by decide +kernel) _ _ 0 6 (by decide)

set_option maxRecDepth 100000 in
theorem lifted (os : Os) (started : os.Started) (H : Type) (enc : TypeId × Value → H) :
    ReturnsInHanded {} Try.checked os 6 .any (Rows.rankManySpec.pre6 enc Try.prog Try.f6 Rows.rankManyRow.domain false) (Rows.rankManySpec.post enc Try.prog Try.f6 false true false false) := by
  refine returnsInHanded_of_change (C := Try.checked) own started (by kernel_rfl) Try.func6
    (ChangeSpec.witness6 (enc := enc) (C := Try.checked) false ⟨#[], #[.slice none 0 0, .slice none 0 0], []⟩ 8 (by kernel_rfl) (by kernel_rfl) (by kernel_rfl) (by kernel_rfl)) ?_
  intro W base args ds gs before hval0 hW hcnd _
  have hval : ∀ (j : Nat) t v, Try.f6.params[j]? = some t → args[j]? = some v → Value.okWide Try.prog W .any base t v := hval0
  obtain ⟨p, q, hA, hV, hpq, _⟩ := id hW
  have hA : DataW.TrodAll enc Try.prog W 0 (fun _ => true) true Try.f6.params.toList args.toList ds p := hA
  rw [Try.params6] at hA
  obtain ⟨v0, vs0, d0, ds0, p0, q0, -, rfl, rfl, -, r0⟩ := trodAll_cons hA
  obtain ⟨v1, vs1, d1, ds1, p1, q1, -, rfl, rfl, -, r1⟩ := trodAll_cons r0
  obtain ⟨-, rfl, rfl⟩ := trodAll_nil r1
  obtain ⟨rfl, rfl⟩ := trodVars_none hV
  exact law_calls (ks := [(false, [.sl [ctI]]), (false, [.sl [ctI]])]) spec hW hval rfl rfl rfl rfl laid (by kernel_rfl) rfl Try.underlying4 (by kernel_rfl) fun xs has => by
    cases has with
    | cons h1 h2 =>
      cases h2 with
      | cons h2 h3 =>
        cases h3
        obtain ⟨d, rfl, hd⟩ := warg_c h1
        obtain ⟨e, rfl, he⟩ := warg_c h2
        obtain ⟨x, rfl, hx, hix⟩ := wt_ints hd
        obtain ⟨y, rfl, hy, hiy⟩ := wt_ints he
        exact rankMany_law x y hix hiy

theorem over : Rows.rankManyRow.holds Try.pinned (OpenSpec.ofChange Rows.rankManySpec) :=
  OpenClaim.holds_of_wide 6 Try.f6 rfl rfl rfl rfl rfl rfl rfl ⟨rfl, rfl, rfl, rfl, rfl⟩ rfl rfl rfl rfl rfl (by kernel_rfl) Try.func6 (by kernel_rfl)
    (of_decide_eq_true (by kernel_rfl)) (by unfold Func.isWrapper; first | (rw [if_pos (by decide +kernel)]; kernel_rfl) | (rw [if_neg (by decide +kernel)]; exact ⟨rfl, rfl⟩))
    (fun os started H enc _ => lifted os started H enc)
theorem proved : Rows.RankManySaid := over
end Go.Proofs.Ytnjjnokckgjecaa.rankMany
