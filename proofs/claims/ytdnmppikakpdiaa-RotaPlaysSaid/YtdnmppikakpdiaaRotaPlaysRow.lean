/- The row of the law RotaPlays: it answers true, whatever the input. -/
import Derived.Test.YtdnmppikakpdiaaRows
import Derived.Test.YtdnmppikakpdiaaRoLaw
set_option linter.unusedVariables false
namespace Go.Proofs.Ytdnmppikakpdiaa.rotaPlays
open Go.ChangeShapes Go.WideShapes Go.ChangeAt Go.RowKit Go.Am

theorem own : ownKnob Try.prog.godebug = none := by kernel_rfl
theorem laid : laidOutB Try.prog = true := by kernel_rfl
def nums : Nat → Option Nat := get [(0, 3), (301, 33), (268, 12), (263, 11), (264, 8), (314, 63), (302, 62), (267, 34), (270, 32), (462, 6), (463, 7), (464, 9), (466, 13), (467, 14), (468, 15), (469, 16), (465, 10), (470, 17), (299, 59), (368, 58), (736, 31), (737, 32), (738, 35)]
theorem spec : Go.Am.Spec Try.prog 3 (env rotT rotTV roX 30000 31 0) :=
  env_spec (nm := nums) (T := rotT) (I := rotTV) (X := roX) Try.checked.mixed (roX_ok Try.checked.mixed (by decide) (by decide) (by decide +kernel)) (by decide +kernel) (by decide +kernel) _ _ 0 3 (by decide)

set_option maxRecDepth 100000 in
theorem lifted (os : Os) (started : os.Started) (H : Type) (enc : TypeId × Value → H) :
    ReturnsInHanded {} Try.checked os 3 .any (Rows.rotaPlaysSpec.pre6 enc Try.prog Try.f3 Rows.rotaPlaysRow.domain false) (Rows.rotaPlaysSpec.post enc Try.prog Try.f3 false true false false) := by
  refine returnsInHanded_of_change (C := Try.checked) own started (by kernel_rfl) Try.func3
    (ChangeSpec.witness6 (enc := enc) (C := Try.checked) false ⟨#[], #[.slice none 0 0, .agg #[.int .i64 0, .int .i64 0, .int .i64 0, .int .i64 0, .int .i64 0]], []⟩ 8 (by kernel_rfl) (by kernel_rfl) (by kernel_rfl) (by kernel_rfl)) ?_
  intro W base args ds gs before hval0 hW hcnd _
  have hval : ∀ (j : Nat) t v, Try.f3.params[j]? = some t → args[j]? = some v → Value.okWide Try.prog W .any base t v := hval0
  obtain ⟨p, q, hA, hV, hpq, _⟩ := id hW
  have hA : DataW.TrodAll enc Try.prog W 0 (fun _ => true) true Try.f3.params.toList args.toList ds p := hA
  rw [Try.params3] at hA
  obtain ⟨v0, vs0, d0, ds0, p0, q0, -, rfl, rfl, -, r0⟩ := trodAll_cons hA
  obtain ⟨v1, vs1, d1, ds1, p1, q1, -, rfl, rfl, -, r1⟩ := trodAll_cons r0
  obtain ⟨-, rfl, rfl⟩ := trodAll_nil r1
  obtain ⟨rfl, rfl⟩ := trodVars_none hV
  exact law_calls (ks := [(false, [.sl ctOpR]), (true, [ctI, ctI, ctI, ctI, ctI])]) spec hW hval (fun b h => by simp [gBlocks] at h) rfl rfl rfl rfl laid (by kernel_rfl) rfl Try.underlying4 (by kernel_rfl) fun xs has => by
    cases has with
    | cons h1 h2 =>
      cases h2 with
      | cons h3 h4 =>
        cases h4
        obtain ⟨d, rfl, hd⟩ := warg_c h1
        obtain ⟨ds, rfl, hds⟩ := warg_agg h3
        obtain ⟨l, rfl, hl⟩ := wt_oprs hd
        obtain ⟨a, rfl, ha⟩ := wt_at hds
        exact rotaPlays_law l a hl ha

theorem over : Rows.rotaPlaysRow.holds Try.pinned (OpenSpec.ofChange Rows.rotaPlaysSpec) :=
  OpenClaim.holds_of_wide 3 Try.f3 rfl rfl rfl rfl rfl rfl rfl ⟨rfl, rfl, rfl, rfl, rfl⟩ rfl rfl rfl rfl rfl (by kernel_rfl) Try.func3 (by kernel_rfl)
    (of_decide_eq_true (by kernel_rfl)) (by unfold Func.isWrapper; first | (rw [if_pos (by decide +kernel)]; kernel_rfl) | (rw [if_neg (by decide +kernel)]; exact ⟨rfl, rfl⟩))
    (fun os started H enc _ => lifted os started H enc)
theorem proved : Rows.RotaPlaysSaid := over
end Go.Proofs.Ytdnmppikakpdiaa.rotaPlays
