/- The row of the law QueuePlays: it answers true, whatever the input. -/
import Derived.Test.YtdnmppikakpdiaaRows
import Derived.Test.YtdnmppikakpdiaaHlLaw
set_option linter.unusedVariables false
namespace Go.Proofs.Ytdnmppikakpdiaa.queuePlays
open Go.ChangeShapes Go.WideShapes Go.ChangeAt Go.RowKit Go.Am

theorem own : ownKnob Try.prog.godebug = none := by kernel_rfl
theorem laid : laidOutB Try.prog = true := by kernel_rfl
def nums : Nat → Option Nat := get [(0, 4), (178, 80), (173, 66), (507, 41), (523, 65), (508, 40), (525, 45), (524, 43), (520, 44), (521, 64), (511, 39), (510, 38), (519, 52), (504, 20), (512, 36), (533, 83), (528, 72), (515, 46), (517, 48), (513, 51), (505, 19), (509, 37), (503, 18), (502, 21), (514, 47), (516, 49), (518, 50), (522, 42)]
theorem spec : Go.Am.Spec Try.prog 4 (env quT quTV qX 3000 31 0) :=
  env_spec (nm := nums) (T := quT) (I := quTV) (X := qX) Try.checked.mixed (qX_ok Try.checked.mixed (by decide) (by decide) (by decide) (by decide +kernel)) (by decide +kernel) (by decide +kernel) _ _ 0 4 (by decide)

set_option maxRecDepth 100000 in
theorem lifted (os : Os) (started : os.Started) (H : Type) (enc : TypeId × Value → H) :
    ReturnsInHanded {} Try.checked os 4 .any (Rows.queuePlaysSpec.pre6 enc Try.prog Try.f4 Rows.queuePlaysRow.domain false) (Rows.queuePlaysSpec.post enc Try.prog Try.f4 false true false false) := by
  refine returnsInHanded_of_change (C := Try.checked) own started (by kernel_rfl) Try.func4
    (ChangeSpec.witness6 (enc := enc) (C := Try.checked) false ⟨#[], #[.slice none 0 0], []⟩ 8 (by kernel_rfl) (by kernel_rfl) (by kernel_rfl) (by kernel_rfl)) ?_
  intro W base args ds gs before hval0 hW hcnd _
  have hval : ∀ (j : Nat) t v, Try.f4.params[j]? = some t → args[j]? = some v → Value.okWide Try.prog W .any base t v := hval0
  obtain ⟨p, q, hA, hV, hpq, _⟩ := id hW
  have hA : DataW.TrodAll enc Try.prog W 0 (fun _ => true) true Try.f4.params.toList args.toList ds p := hA
  rw [Try.params4] at hA
  obtain ⟨v0, vs0, d0, ds0, p0, q0, -, rfl, rfl, -, r0⟩ := trodAll_cons hA
  obtain ⟨-, rfl, rfl⟩ := trodAll_nil r0
  obtain ⟨rfl, rfl⟩ := trodVars_none hV
  exact law_calls (ks := [(false, [.sl ctOp])]) spec hW hval (fun b h => by simp [gBlocks] at h) rfl rfl rfl rfl laid (by kernel_rfl) rfl Try.underlying4 (by kernel_rfl) fun xs has => by
    cases has with
    | cons h1 h2 =>
      cases h2
      obtain ⟨d, rfl, hd⟩ := warg_c h1
      obtain ⟨l, rfl⟩ := wt_ops hd
      exact queuePlays_law l

theorem over : Rows.queuePlaysRow.holds Try.pinned (OpenSpec.ofChange Rows.queuePlaysSpec) :=
  OpenClaim.holds_of_wide 4 Try.f4 rfl rfl rfl rfl rfl rfl rfl ⟨rfl, rfl, rfl, rfl, rfl⟩ rfl rfl rfl rfl rfl (by kernel_rfl) Try.func4 (by kernel_rfl)
    (of_decide_eq_true (by kernel_rfl)) (by unfold Func.isWrapper; first | (rw [if_pos (by decide +kernel)]; kernel_rfl) | (rw [if_neg (by decide +kernel)]; exact ⟨rfl, rfl⟩))
    (fun os started H enc _ => lifted os started H enc)
theorem proved : Rows.QueuePlaysSaid := over
end Go.Proofs.Ytdnmppikakpdiaa.queuePlays
