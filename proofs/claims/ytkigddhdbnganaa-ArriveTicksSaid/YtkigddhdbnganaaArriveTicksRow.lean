/- The row of the law ArriveTicks: it answers true, whatever the input. -/
import Derived.Test.YtkigddhdbnganaaRows
import Derived.Test.YtkigddhdbnganaaArtLaw
set_option linter.unusedVariables false
namespace Go.Proofs.Ytkigddhdbnganaa.arriveTicks
open Go.ChangeShapes Go.WideShapes Go.ChangeAt Go.RowKit Go.Am

theorem own : ownKnob Try.prog.godebug = none := by kernel_rfl
theorem laid : laidOutB Try.prog = true := by kernel_rfl
def nums : Nat → Option Nat := get [(0, 5), (24, 100), (20, 84), (64, 67), (63, 68), (25, 43), (23, 61), (21, 36), (26, 15), (482, 72), (480, 47), (477, 46), (486, 85), (484, 74), (487, 69), (476, 44), (485, 73), (483, 75), (479, 48), (56, 70), (303, 71), (282, 45), (318, 104), (317, 105), (307, 87), (286, 76), (319, 83), (308, 66), (305, 65), (279, 41), (285, 42), (378, 63), (377, 64), (501, 62), (499, 40), (498, 39), (500, 38), (491, 19), (473, 22), (472, 23), (478, 49), (471, 25), (495, 24), (494, 26), (492, 18), (488, 20), (490, 17), (497, 37), (474, 16), (276, 86)]
theorem spec : Go.Am.Spec Try.prog 5 (env artTab artTabV arvEnv 120000 31 0) :=
  env_spec (nm := nums) (T := artTab) (I := artTabV) (X := arvEnv) Try.checked.mixed (arvEnv_ok (by decide)) (by decide +kernel) (by decide +kernel) _ _ 0 5 (by decide)

set_option maxRecDepth 100000 in
theorem lifted (os : Os) (started : os.Started) (H : Type) (enc : TypeId × Value → H) :
    ReturnsInHanded {} Try.checked os 5 .any (Rows.arriveTicksSpec.pre6 enc Try.prog Try.f5 Rows.arriveTicksRow.domain false) (Rows.arriveTicksSpec.post enc Try.prog Try.f5 false true false false) := by
  refine returnsInHanded_of_change (C := Try.checked) own started (by kernel_rfl) Try.func5
    (ChangeSpec.witness6 (enc := enc) (C := Try.checked) false ⟨#[], #[.agg #[.int .i64 0, .int .i64 0, .int .i64 0, .int .i64 0, .int .i64 0, .int .i64 0, .int .i64 0, .int .i64 0, .slice none 0 0, .int .i64 0, .int .i64 0, .int .i64 0, .int .i64 0], .slice none 0 0], []⟩ 8 (by kernel_rfl) (by kernel_rfl) (by kernel_rfl) (by kernel_rfl)) ?_
  intro W base args ds gs before hval0 hW hcnd _
  have hval : ∀ (j : Nat) t v, Try.f5.params[j]? = some t → args[j]? = some v → Value.okWide Try.prog W .any base t v := hval0
  obtain ⟨p, q, hA, hV, hpq, _⟩ := id hW
  have hA : DataW.TrodAll enc Try.prog W 0 (fun _ => true) true Try.f5.params.toList args.toList ds p := hA
  rw [Try.params5] at hA
  obtain ⟨v0, vs0, d0, ds0, p0, q0, -, rfl, rfl, -, r0⟩ := trodAll_cons hA
  obtain ⟨v1, vs1, d1, ds1, p1, q1, -, rfl, rfl, -, r1⟩ := trodAll_cons r0
  obtain ⟨-, rfl, rfl⟩ := trodAll_nil r1
  obtain ⟨rfl, rfl⟩ := trodVars_none hV
  exact law_calls (ks := [(true, ctScn), (false, [.sl [.int .u32]])]) spec hW hval (fun b h => by simp [gBlocks] at h) rfl rfl rfl rfl laid (by kernel_rfl) rfl Try.underlying4 (by kernel_rfl) fun xs has => by
    cases has with
    | cons h1 h2 =>
      cases h2 with
      | cons h2 h3 =>
        cases h3
        obtain ⟨d, rfl, hd⟩ := warg_agg h1
        obtain ⟨e, rfl, he⟩ := warg_c h2
        obtain ⟨x, rfl, hx⟩ := scn_row _ hd
        obtain ⟨ws, hw, hw1, hw2⟩ := wt_words he
        rw [hw]
        exact arriveTicks_law x ws hx.nsegs hw1 hw2

theorem over : Rows.arriveTicksRow.holds Try.pinned (OpenSpec.ofChange Rows.arriveTicksSpec) :=
  OpenClaim.holds_of_wide 5 Try.f5 rfl rfl rfl rfl rfl rfl rfl ⟨rfl, rfl, rfl, rfl, rfl⟩ rfl rfl rfl rfl rfl (by kernel_rfl) Try.func5 (by kernel_rfl)
    (of_decide_eq_true (by kernel_rfl)) (by unfold Func.isWrapper; first | (rw [if_pos (by decide +kernel)]; kernel_rfl) | (rw [if_neg (by decide +kernel)]; exact ⟨rfl, rfl⟩))
    (fun os started H enc _ => lifted os started H enc)
theorem proved : Rows.ArriveTicksSaid := over
end Go.Proofs.Ytkigddhdbnganaa.arriveTicks
