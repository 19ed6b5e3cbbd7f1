/- The row of the law ReplayTells: it answers true, whatever the input. -/
import Derived.Test.YtdnmppikakpdiaaRows
import Derived.Test.YtdnmppikakpdiaaRplLaw
set_option linter.unusedVariables false
namespace Go.Proofs.Ytdnmppikakpdiaa.replayTells
open Go.ChangeShapes Go.WideShapes Go.ChangeAt Go.RowKit Go.Am

theorem own : ownKnob Try.prog.godebug = none := by kernel_rfl
theorem laid : laidOutB Try.prog = true := by kernel_rfl
def nums : Nat → Option Nat := get [(0, 5), (8, 22), (113, 23), (107, 25), (108, 26), (110, 27), (111, 28), (167, 74), (150, 56), (112, 29), (109, 24), (5, 30), (7, 57), (50, 75), (51, 76), (72, 86), (80, 114), (81, 115), (739, 53), (241, 54), (166, 73), (175, 84), (174, 85), (179, 113), (180, 127), (709, 55)]
theorem spec : Go.Am.Spec Try.prog 5 (env rplT rplTV Si.rpX 100100 31 0) :=
  env_spec (nm := nums) (T := rplT) (I := rplTV) (X := Si.rpX) Try.checked.mixed (Si.rpX_ok Try.checked.mixed (by decide +kernel)) (by decide +kernel) (by decide +kernel) _ _ 0 5 (by decide)

set_option maxRecDepth 100000 in
theorem lifted (os : Os) (started : os.Started) (H : Type) (enc : TypeId × Value → H) :
    ReturnsInHanded {} Try.checked os 5 .any (Rows.replayTellsSpec.pre6 enc Try.prog Try.f5 Rows.replayTellsRow.domain false) (Rows.replayTellsSpec.post enc Try.prog Try.f5 false true false false) := by
  refine returnsInHanded_of_change (C := Try.checked) own started (by kernel_rfl) Try.func5
    (ChangeSpec.witness6 (enc := enc) (C := Try.checked) false ⟨#[], #[.agg #[.slice none 0 0, .slice none 0 0, .int .i64 0], .int .i64 0, .int .i64 0], []⟩ 8 (by kernel_rfl) (by kernel_rfl) (by kernel_rfl) (by kernel_rfl)) ?_
  intro W base args ds gs before hval0 hW hcnd _
  have hval : ∀ (j : Nat) t v, Try.f5.params[j]? = some t → args[j]? = some v → Value.okWide Try.prog W .any base t v := hval0
  obtain ⟨p, q, hA, hV, hpq, _⟩ := id hW
  have hA : DataW.TrodAll enc Try.prog W 0 (fun _ => true) true Try.f5.params.toList args.toList ds p := hA
  rw [Try.params5] at hA
  obtain ⟨v0, vs0, d0, ds0, p0, q0, -, rfl, rfl, -, r0⟩ := trodAll_cons hA
  obtain ⟨v1, vs1, d1, ds1, p1, q1, -, rfl, rfl, -, r1⟩ := trodAll_cons r0
  obtain ⟨v2, vs2, d2, ds2, p2, q2, -, rfl, rfl, -, r2⟩ := trodAll_cons r1
  obtain ⟨-, rfl, rfl⟩ := trodAll_nil r2
  obtain ⟨rfl, rfl⟩ := trodVars_none hV
  exact law_calls (ks := [(true, ctLog), (false, [ctI]), (false, [ctI])]) spec hW hval (fun b h => by simp [gBlocks] at h) rfl rfl rfl rfl laid (by kernel_rfl) rfl Try.underlying4 (by kernel_rfl) fun xs has => by
    cases has with
    | cons h1 h2 =>
      cases h2 with
      | cons h2 h3 =>
        cases h3 with
        | cons h3 h4 =>
          cases h4
          obtain ⟨ds, rfl, hd⟩ := warg_agg h1
          obtain ⟨d, rfl, hd2⟩ := warg_c h2
          obtain ⟨d3, rfl, hd3⟩ := warg_c h3
          obtain ⟨l, rfl, hl⟩ := log_row _ hd
          obtain ⟨n, rfl, hn⟩ := wt_i64.1 hd2
          obtain ⟨m, rfl, hm⟩ := wt_i64.1 hd3
          exact replayTells_law l n m hl

theorem over : Rows.replayTellsRow.holds Try.pinned (OpenSpec.ofChange Rows.replayTellsSpec) :=
  OpenClaim.holds_of_wide 5 Try.f5 rfl rfl rfl rfl rfl rfl rfl ⟨rfl, rfl, rfl, rfl, rfl⟩ rfl rfl rfl rfl rfl (by kernel_rfl) Try.func5 (by kernel_rfl)
    (of_decide_eq_true (by kernel_rfl)) (by unfold Func.isWrapper; first | (rw [if_pos (by decide +kernel)]; kernel_rfl) | (rw [if_neg (by decide +kernel)]; exact ⟨rfl, rfl⟩))
    (fun os started H enc _ => lifted os started H enc)
theorem proved : Rows.ReplayTellsSaid := over
end Go.Proofs.Ytdnmppikakpdiaa.replayTells
