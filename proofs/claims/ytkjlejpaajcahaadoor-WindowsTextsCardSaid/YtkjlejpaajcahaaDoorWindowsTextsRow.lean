/- The row of the law WindowsTexts: it answers true, whatever the input. -/
import Derived.Test.YtkjlejpaajcahaaDoorRows
import Derived.Test.YtkjlejpaajcahaaDoorTie
import Derived.Test.YtkjlejpaajcahaaDoorCards
import Derived.ProofKit
import Derived.LaidMore
import Derived.Lay
import Derived.SevenTiedAt
import Derived.Stop.Joined
import Derived.Test.YtkjlejpaajcahaaDoorWtxLaw
set_option linter.unusedVariables false
namespace Go.Proofs.YtkjlejpaajcahaaDoor.windowsTexts
open Go.ChangeShapes Go.WideShapes Go.ChangeAt Go.RowKit Go.Am

theorem own : ownKnob Tryd.prog.godebug = none := by kernel_rfl
theorem laid : laidOutB Tryd.prog = true := by kernel_rfl
def nums : Nat → Option Nat := get [(0, 3), (192, 48), (197, 54), (191, 49), (228, 47), (79, 35), (69, 37), (181, 34), (182, 24), (187, 36), (183, 23), (193, 38), (189, 25), (184, 9), (81, 42), (80, 41), (72, 30), (50, 21), (74, 16), (73, 17), (52, 19), (6, 7), (378, 12), (394, 50), (377, 13), (395, 52), (393, 51), (383, 28), (391, 44), (376, 14), (389, 46), (375, 15), (390, 45), (392, 43), (379, 11), (386, 32), (373, 4), (387, 31), (385, 33), (372, 5), (388, 40), (380, 18), (384, 29), (371, 6), (381, 20), (382, 22), (370, 8), (16, 10), (15, 27), (62, 39), (17, 26), (396, 58), (194, 57), (195, 56), (196, 55), (329, 62)]
theorem spec : Go.Am.Spec Tryd.prog 3 (env wtxTab wtxTabV noEnv 80000 23 0) :=
  env_spec (nm := nums) (T := wtxTab) (I := wtxTabV) (X := noEnv) Tryd.checked.mixed noEnv_ok (by decide +kernel) (by decide +kernel) _ _ 0 3 (by decide)

set_option maxRecDepth 100000 in
theorem lifted (os : Os) (started : os.Started) (H : Type) (enc : TypeId × Value → H) :
    ReturnsInHanded {} Tryd.checked os 3 .any (fun w args => (Rows.windowsTextsSpec.pre enc Tryd.prog Tryd.f3 Rows.windowsTextsRow.domain false w args ∧ laidMetH Tryd.prog Rows.windowsTextsRow.laid w) ∧ sizedMet enc Tryd.prog Tryd.f3 (OpenSpec.ofChange Rows.windowsTextsSpec) false w args)
      (Rows.windowsTextsSpec.post enc Tryd.prog Tryd.f3 false true false false) := by
  refine returnsInHanded_of_change_and (C := Tryd.checked) (X := fun w _ => laidMetH Tryd.prog Rows.windowsTextsRow.laid w) (fun _ _ _ hh h => h.of_heap hh) own started (by kernel_rfl) Tryd.func3
    (ChangeSpec.witness_shaped (enc := enc) (C := Tryd.checked) (os := os) (X := fun w _ => laidMetH Tryd.prog Rows.windowsTextsRow.laid w) false (World.laidAll Tryd.prog os Rows.windowsTextsRow.laid) #[.slice none 0 0] 8 (World.laidAll_os _ _ _)
      (World.shaped_of_ZipB (by kernel_rfl) (by kernel_rfl)) (by kernel_rfl) (by kernel_rfl) (by kernel_rfl)
      (by rw [MakeChecks.laidMetH_plain _ _ _ (by kernel_rfl)]; exact laidMet_laidAll _ (by kernel_rfl) (by kernel_rfl))) ?_
  intro W base args ds gs before hval0 hW hcnd _ hLaid _
  have hval : ∀ (j : Nat) t v, Tryd.f3.params[j]? = some t → args[j]? = some v → Value.okWide Tryd.prog W .any base t v := hval0
  obtain ⟨p, q, hA, hV, hpq, _⟩ := id hW
  have hA : DataW.TrodAll enc Tryd.prog W 0 (fun _ => true) true Tryd.f3.params.toList args.toList ds p := hA
  rw [Tryd.params3] at hA
  obtain ⟨v0, vs0, d0, ds0, p0, q0, -, rfl, rfl, -, r0⟩ := trodAll_cons hA
  obtain ⟨-, rfl, rfl⟩ := trodAll_nil r0
  obtain ⟨rfl, rfl⟩ := trodVars_none hV
  exact law_calls (ks := [(false, [.sl ctWRow])]) spec hW hval rfl rfl rfl rfl laid (by kernel_rfl) rfl Tryd.underlying4 (by kernel_rfl) fun xs has => by
    cases has with | cons h1 h2 => cases h2; obtain ⟨d, rfl, hd⟩ := warg_c h1; obtain ⟨l, hl⟩ := wt_wrows hd; rw [hl]; exact windowsTexts_law l

theorem over : Rows.windowsTextsRow.holds Tryd.pinned (OpenSpec.ofChange Rows.windowsTextsSpec) :=
  OpenClaim.holds_of_wide 3 Tryd.f3 rfl rfl rfl rfl rfl rfl rfl ⟨rfl, rfl, rfl, rfl, rfl⟩ rfl rfl rfl rfl rfl (by kernel_rfl) Tryd.func3 (by kernel_rfl)
    (of_decide_eq_true (by kernel_rfl)) (by unfold Func.isWrapper; first | (rw [if_pos (by decide +kernel)]; kernel_rfl) | (rw [if_neg (by decide +kernel)]; exact ⟨rfl, rfl⟩))
    (fun os started H enc _ => lifted os started H enc)
theorem proved : Rows.WindowsTextsCardSaid :=
  Claim7.holds_tied_plain_at .later [] [.data, .pinned] true (true, "f6559a150b6cd1cc4efeb7bc48fb568e9679a70146b78ebe9b62d0ec60339234") false over (fun _ h => by cases h) (by kernel_rfl) (fun _ h => by cases h) windowsTexts_row_tie rfl ⟨rfl, rfl⟩ (by kernel_rfl) rfl
    (fun f fn hf hfn => by
      obtain rfl : f = 3 := Option.some.inj ((show Tryd.prog.funcNamed "hoistway/hoistwaylaw72.WindowsTexts" = some 3 by kernel_rfl).symm.trans hf) |>.symm
      obtain rfl : fn = Tryd.f3 := (Option.some.inj (Tryd.func3.symm.trans hfn)).symm
      exact ⟨by kernel_rfl, fun j t ht => by
        rw [Tryd.params3] at ht
        have hm : t ∈ [22] := by simpa using Array.mem_of_getElem? ht
        have hall : ([22].all fun u => !Tryd.prog.wantsStandIn u) = true := by kernel_rfl
        exact (show Tryd.prog.wantsStandIn t = false by simpa using List.all_eq_true.1 hall t hm)⟩)
    (by kernel_rfl)
end Go.Proofs.YtkjlejpaajcahaaDoor.windowsTexts
