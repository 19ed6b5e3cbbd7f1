/- The row of the law ReportTexts: it answers true, whatever the input. -/
import Derived.Test.YtkdnbfmlpklkhaaGreatDoorRows
import Derived.Test.YtkdnbfmlpklkhaaGreatDoorTie
import Derived.Test.YtkdnbfmlpklkhaaGreatDoorCards
import Derived.ProofKit
import Derived.LaidMore
import Derived.Lay
import Derived.SevenTiedAt
import Derived.Stop.Joined
import Derived.Test.YtkdnbfmlpklkhaaGreatDoorRpLaw
import Derived.Test.YtkdnbfmlpklkhaaGreatDoorHs
set_option linter.unusedVariables false
namespace Go.Proofs.YtkdnbfmlpklkhaaGreatDoor.reportTexts
open Go.ChangeShapes Go.WideShapes Go.ChangeAt Go.RowKit Go.Am

theorem own : ownKnob Tryz.prog.godebug = none := by kernel_rfl
theorem laid : laidOutB Tryz.prog = true := by kernel_rfl
def nums : Nat → Option Nat := get [(0, 3), (81, 106), (80, 105), (72, 77), (50, 39), (74, 118), (73, 117), (52, 92), (6, 59), (24, 123), (20, 98), (64, 70), (63, 71), (25, 28), (23, 27), (21, 9), (26, 4), (228, 78), (79, 41), (69, 32), (42, 30), (44, 31), (70, 29), (48, 10), (43, 55), (45, 56), (71, 54), (47, 21), (192, 80), (197, 109), (191, 81), (181, 42), (182, 61), (187, 43), (183, 15), (193, 93), (189, 62), (184, 24), (378, 120), (394, 134), (377, 121), (395, 136), (393, 135), (383, 137), (391, 115), (376, 122), (389, 73), (375, 91), (390, 116), (392, 114), (379, 119), (386, 84), (373, 96), (387, 74), (385, 85), (372, 97), (420, 35), (422, 58), (421, 60), (248, 102), (367, 103), (252, 76), (259, 38), (437, 37), (436, 34), (429, 13), (430, 23), (443, 88), (442, 89), (444, 90), (439, 52), (440, 51), (431, 17), (441, 69), (428, 26), (51, 72), (407, 57), (408, 33), (405, 11), (406, 12), (403, 44), (401, 22), (402, 65), (60, 19), (292, 53), (256, 20), (294, 87), (113, 95), (128, 94), (296, 64), (167, 133), (150, 113), (735, 86), (732, 63), (734, 83), (730, 68), (725, 49), (726, 50), (733, 82), (728, 45), (727, 46), (723, 47), (724, 48), (729, 67), (731, 66), (721, 16), (722, 25), (717, 5), (716, 8), (718, 7), (426, 6), (118, 18), (396, 155), (194, 112), (195, 111), (196, 110), (329, 152), (290, 104), (438, 36), (720, 14)]
theorem spec : Go.Am.Spec Tryz.prog 3 (env rtTab rtTabV rtX 120000 31 0) :=
  env_spec (nm := nums) (T := rtTab) (I := rtTabV) (X := rtX) Tryz.checked.mixed (rtX_ok Go.Proofs.Tryz.lays189 (by decide) (by decide) (rep_spec (by simp [gBlocks])) (by decide) join_spec) (by decide +kernel) (by decide +kernel) _ _ 0 3 (by decide)

set_option maxRecDepth 100000 in
theorem lifted (os : Os) (started : os.Started) (H : Type) (enc : TypeId × Value → H) :
    ReturnsInHanded {} Tryz.checked os 3 .any (fun w args => (Rows.reportTextsSpec.pre enc Tryz.prog Tryz.f3 Rows.reportTextsRow.domain false w args ∧ laidMetH Tryz.prog Rows.reportTextsRow.laid w) ∧ sizedMet enc Tryz.prog Tryz.f3 (OpenSpec.ofChange Rows.reportTextsSpec) false w args)
      (Rows.reportTextsSpec.post enc Tryz.prog Tryz.f3 false true false false) := by
  refine handed_shaped (C := Tryz.checked) (X := fun w _ => laidMetH Tryz.prog Rows.reportTextsRow.laid w) (fun _ _ _ hh h => h.of_heap hh) own started (by kernel_rfl) Tryz.func3
    (ChangeSpec.witness_shaped (enc := enc) (C := Tryz.checked) (os := os) (X := fun w _ => laidMetH Tryz.prog Rows.reportTextsRow.laid w) false (World.laidAll Tryz.prog os Rows.reportTextsRow.laid) #[.agg #[.int .i64 0, .int .i64 0, .int .i64 0, .int .i64 0, .int .i64 0, .int .i64 0, .int .i64 0, .int .i64 0, .slice none 0 0, .int .i64 0, .int .i64 0, .int .i64 0, .int .i64 0], .agg #[.slice none 0 0, .slice none 0 0, .int .i64 0]] 8 (World.laidAll_os _ _ _)
      (World.shaped_of_ZipB (by kernel_rfl) (by kernel_rfl)) (by kernel_rfl) (by kernel_rfl) (by kernel_rfl)
      (by rw [MakeChecks.laidMetH_plain _ _ _ (by kernel_rfl)]; exact laidMet_laidAll _ (by kernel_rfl) (by kernel_rfl))) ?_
  intro W base args ds gs before hval0 hW hLaid hSh
  have hval : ∀ (j : Nat) t v, Tryz.f3.params[j]? = some t → args[j]? = some v → Value.okWide Tryz.prog W .any base t v := hval0
  obtain ⟨p, q, hA, hV, hpq, _⟩ := id hW
  have hA : DataW.TrodAll enc Tryz.prog W 0 (fun _ => true) true Tryz.f3.params.toList args.toList ds p := hA
  rw [Tryz.params3] at hA
  obtain ⟨v0, vs0, d0, ds0, p0, q0, -, rfl, rfl, -, r0⟩ := trodAll_cons hA
  obtain ⟨v1, vs1, d1, ds1, p1, q1, -, rfl, rfl, -, r1⟩ := trodAll_cons r0
  obtain ⟨-, rfl, rfl⟩ := trodAll_nil r1
  obtain ⟨rfl, rfl⟩ := trodVars_none hV
  exact law_calls (ks := [(true, ctScn), (true, ctLog)]) spec hW hval (fun b h => by simp [gBlocks] at h; subst h; exact Go.Proofs.Tryz.lays155.s1_3 W hSh) rfl rfl rfl rfl laid (by kernel_rfl) rfl Tryz.underlying4 (by kernel_rfl) fun xs has => by
    cases has with
    | cons h1 h2 =>
      cases h2 with
      | cons h2 h3 =>
        cases h3
        obtain ⟨d, rfl, hd⟩ := warg_agg h1
        obtain ⟨e, rfl, he⟩ := warg_agg h2
        obtain ⟨x, rfl, hx⟩ := scn_row _ hd
        obtain ⟨l, rfl, hl⟩ := log_row _ he
        exact reportTexts_law x l.trips l.legs l.used hx hl.used

theorem over : Rows.reportTextsRow.holds Tryz.pinned (OpenSpec.ofChange Rows.reportTextsSpec) :=
  OpenClaim.holds_of_wide 3 Tryz.f3 rfl rfl rfl rfl rfl rfl rfl ⟨rfl, rfl, rfl, rfl, rfl⟩ rfl rfl rfl rfl rfl (by kernel_rfl) Tryz.func3 (by kernel_rfl)
    (of_decide_eq_true (by kernel_rfl)) (by unfold Func.isWrapper; first | (rw [if_pos (by decide +kernel)]; kernel_rfl) | (rw [if_neg (by decide +kernel)]; exact ⟨rfl, rfl⟩))
    (fun os started H enc _ => lifted os started H enc)
theorem proved : Rows.ReportTextsCardSaid :=
  Claim7.holds_tied_plain_at .later [] [.data, .pinned] true (true, "f9afd9bce1f40929ac3e3e5a892ced11816e19cf91ac3ee9eac12b7a2ea733f1") false over (fun _ h => by cases h) (by kernel_rfl) (fun _ h => by cases h) reportTexts_row_tie rfl ⟨rfl, rfl⟩ (by kernel_rfl) rfl
    (fun f fn hf hfn => by
      obtain rfl : f = 3 := Option.some.inj ((show Tryz.prog.funcNamed "hoistway/hoistwaylaw42.ReportTexts" = some 3 by kernel_rfl).symm.trans hf) |>.symm
      obtain rfl : fn = Tryz.f3 := (Option.some.inj (Tryz.func3.symm.trans hfn)).symm
      exact ⟨by kernel_rfl, fun j t ht => by
        rw [Tryz.params3] at ht
        have hm : t ∈ [25, 29] := by simpa using Array.mem_of_getElem? ht
        have hall : ([25, 29].all fun u => !Tryz.prog.wantsStandIn u) = true := by kernel_rfl
        exact (show Tryz.prog.wantsStandIn t = false by simpa using List.all_eq_true.1 hall t hm)⟩)
    (by kernel_rfl)
end Go.Proofs.YtkdnbfmlpklkhaaGreatDoor.reportTexts
