/- The row of the law BenchRows: it answers true, whatever the input. -/
import Derived.Test.YtkhbfjmckgddeaaGreatDoorRows
import Derived.Test.YtkhbfjmckgddeaaGreatDoorTie
import Derived.Test.YtkhbfjmckgddeaaGreatDoorCards
import Derived.ProofKit
import Derived.LaidMore
import Derived.Lay
import Derived.SevenTiedAt
import Derived.Stop.Joined
import Derived.Test.YtkhbfjmckgddeaaGreatDoorBnLaw
import Derived.Test.YtkhbfjmckgddeaaGreatDoorLay
set_option linter.unusedVariables false
namespace Go.Proofs.YtkhbfjmckgddeaaGreatDoor.benchRows
open Go.ChangeShapes Go.WideShapes Go.ChangeAt Go.RowKit Go.Am

theorem own : ownKnob Tryz.prog.godebug = none := by kernel_rfl
theorem laid : laidOutB Tryz.prog = true := by kernel_rfl
def nums : Nat → Option Nat := get [(0, 3), (192, 67), (197, 84), (191, 68), (228, 66), (79, 50), (69, 52), (181, 49), (182, 59), (187, 51), (183, 26), (193, 70), (189, 60), (184, 31), (81, 47), (80, 46), (72, 48), (50, 24), (74, 56), (73, 57), (52, 58), (6, 29), (378, 42), (394, 41), (377, 54), (395, 65), (393, 64), (383, 69), (391, 44), (376, 55), (389, 34), (375, 40), (390, 45), (392, 43), (379, 53), (386, 22), (373, 27), (387, 35), (385, 23), (372, 28), (248, 36), (367, 37), (252, 16), (51, 61), (407, 39), (408, 33), (405, 14), (401, 17), (420, 15), (422, 18), (421, 19), (423, 20), (424, 21), (415, 7), (414, 8), (418, 4), (417, 5), (416, 6), (409, 9), (410, 10), (44, 25), (45, 30), (411, 11), (412, 12), (413, 13), (396, 82), (425, 32), (194, 87), (195, 86), (196, 85), (329, 81), (290, 38)]
theorem spec : Go.Am.Spec Tryz.prog 3 (env bnTab bnTabV srtEnv 80000 24 0) :=
  env_spec (nm := nums) (T := bnTab) (I := bnTabV) (X := srtEnv) Tryz.checked.mixed (srtEnv_ok Go.Proofs.Tryz.lays189 (by decide)) (by decide +kernel) (by decide +kernel) _ _ 0 3 (by decide)

set_option maxRecDepth 100000 in
theorem lifted (os : Os) (started : os.Started) (H : Type) (enc : TypeId × Value → H) :
    ReturnsInHanded {} Tryz.checked os 3 .any (fun w args => (Rows.benchRowsSpec.pre enc Tryz.prog Tryz.f3 Rows.benchRowsRow.domain false w args ∧ laidMetH Tryz.prog Rows.benchRowsRow.laid w) ∧ sizedMet enc Tryz.prog Tryz.f3 (OpenSpec.ofChange Rows.benchRowsSpec) false w args)
      (Rows.benchRowsSpec.post enc Tryz.prog Tryz.f3 false true false false) := by
  refine returnsInHanded_of_change_and (C := Tryz.checked) (X := fun w _ => laidMetH Tryz.prog Rows.benchRowsRow.laid w) (fun _ _ _ hh h => h.of_heap hh) own started (by kernel_rfl) Tryz.func3
    (ChangeSpec.witness_shaped (enc := enc) (C := Tryz.checked) (os := os) (X := fun w _ => laidMetH Tryz.prog Rows.benchRowsRow.laid w) false (World.laidAll Tryz.prog os Rows.benchRowsRow.laid) #[.slice none 0 0] 8 (World.laidAll_os _ _ _)
      (World.shaped_of_ZipB (by kernel_rfl) (by kernel_rfl)) (by kernel_rfl) (by kernel_rfl) (by kernel_rfl)
      (by rw [MakeChecks.laidMetH_plain _ _ _ (by kernel_rfl)]; exact laidMet_laidAll _ (by kernel_rfl) (by kernel_rfl))) ?_
  intro W base args ds gs before hval0 hW hcnd _ hLaid _
  have hval : ∀ (j : Nat) t v, Tryz.f3.params[j]? = some t → args[j]? = some v → Value.okWide Tryz.prog W .any base t v := hval0
  obtain ⟨p, q, hA, hV, hpq, _⟩ := id hW
  have hA : DataW.TrodAll enc Tryz.prog W 0 (fun _ => true) true Tryz.f3.params.toList args.toList ds p := hA
  rw [Tryz.params3] at hA
  obtain ⟨v0, vs0, d0, ds0, p0, q0, -, rfl, rfl, -, r0⟩ := trodAll_cons hA
  obtain ⟨-, rfl, rfl⟩ := trodAll_nil r0
  obtain ⟨rfl, rfl⟩ := trodVars_none hV
  exact law_calls (ks := [(false, [.sl [.sl ctTrip]])]) spec hW hval rfl rfl rfl rfl laid (by kernel_rfl) rfl Tryz.underlying4 (by kernel_rfl) fun xs has => by
    cases has with | cons h1 h2 => cases h2; obtain ⟨d, rfl, hd⟩ := warg_c h1; obtain ⟨l, hl⟩ := wt_logs hd; rw [hl]; exact benchRows_law l

theorem over : Rows.benchRowsRow.holds Tryz.pinned (OpenSpec.ofChange Rows.benchRowsSpec) :=
  OpenClaim.holds_of_wide 3 Tryz.f3 rfl rfl rfl rfl rfl rfl rfl ⟨rfl, rfl, rfl, rfl, rfl⟩ rfl rfl rfl rfl rfl (by kernel_rfl) Tryz.func3 (by kernel_rfl)
    (of_decide_eq_true (by kernel_rfl)) (by unfold Func.isWrapper; first | (rw [if_pos (by decide +kernel)]; kernel_rfl) | (rw [if_neg (by decide +kernel)]; exact ⟨rfl, rfl⟩))
    (fun os started H enc _ => lifted os started H enc)
theorem proved : Rows.BenchRowsCardSaid :=
  Claim7.holds_tied_plain_at .later [] [.data, .pinned] true (true, "d6abff34f100546f0b32789b16354cb9e3e061e5d6855fad0c10fe7244ec1a46") false over (fun _ h => by cases h) (by kernel_rfl) (fun _ h => by cases h) benchRows_row_tie rfl ⟨rfl, rfl⟩ (by kernel_rfl) rfl
    (fun f fn hf hfn => by
      obtain rfl : f = 3 := Option.some.inj ((show Tryz.prog.funcNamed "hoistway/hoistwaylaw50.BenchRows" = some 3 by kernel_rfl).symm.trans hf) |>.symm
      obtain rfl : fn = Tryz.f3 := (Option.some.inj (Tryz.func3.symm.trans hfn)).symm
      exact ⟨by kernel_rfl, fun j t ht => by
        rw [Tryz.params3] at ht
        have hm : t ∈ [22] := by simpa using Array.mem_of_getElem? ht
        have hall : ([22].all fun u => !Tryz.prog.wantsStandIn u) = true := by kernel_rfl
        exact (show Tryz.prog.wantsStandIn t = false by simpa using List.all_eq_true.1 hall t hm)⟩)
    (by kernel_rfl)
end Go.Proofs.YtkhbfjmckgddeaaGreatDoor.benchRows
