/- The row of the law ByfloorRows: it answers true, whatever the input. -/
import Derived.Test.YtkhbfjmckgddeaaDoorRows
import Derived.Test.YtkhbfjmckgddeaaDoorTie
import Derived.Test.YtkhbfjmckgddeaaDoorCards
import Derived.ProofKit
import Derived.LaidMore
import Derived.Lay
import Derived.SevenTiedAt
import Derived.Stop.Joined
import Derived.Test.YtkhbfjmckgddeaaDoorBfLaw
set_option linter.unusedVariables false
namespace Go.Proofs.YtkhbfjmckgddeaaDoor.byfloorRows
open Go.ChangeShapes Go.WideShapes Go.ChangeAt Go.RowKit Go.Am

theorem own : ownKnob Tryd.prog.godebug = none := by kernel_rfl
theorem laid : laidOutB Tryd.prog = true := by kernel_rfl
def nums : Nat → Option Nat := get [(0, 3), (192, 49), (197, 71), (191, 50), (228, 70), (79, 48), (69, 51), (181, 61), (182, 36), (187, 25), (183, 35), (193, 62), (189, 37), (184, 14), (81, 76), (80, 88), (72, 60), (50, 34), (74, 55), (73, 54), (52, 28), (6, 8), (60, 6), (453, 27), (449, 7), (451, 9), (450, 10), (446, 11), (447, 13), (448, 15), (194, 74), (195, 73), (196, 72), (454, 30), (173, 29), (178, 56), (445, 12)]
theorem spec : Go.Am.Spec Tryd.prog 3 (env bfTab bfTabV bfF 80000 23 0) :=
  env_spec (nm := nums) (T := bfTab) (I := bfTabV) (X := bfF) Tryd.checked.mixed (bfF_ok (by decide) (all_spec (nm := nums) (by decide) (by decide) (by decide) (by decide +kernel) (by decide +kernel) Tryd.checked.mixed)) (by decide +kernel) (by decide +kernel) _ _ 0 3 (by decide)

set_option maxRecDepth 100000 in
theorem lifted (os : Os) (started : os.Started) (H : Type) (enc : TypeId × Value → H) :
    ReturnsInHanded {} Tryd.checked os 3 .any (fun w args => (Rows.byfloorRowsSpec.pre enc Tryd.prog Tryd.f3 Rows.byfloorRowsRow.domain false w args ∧ laidMetH Tryd.prog Rows.byfloorRowsRow.laid w) ∧ sizedMet enc Tryd.prog Tryd.f3 (OpenSpec.ofChange Rows.byfloorRowsSpec) false w args)
      (Rows.byfloorRowsSpec.post enc Tryd.prog Tryd.f3 false true false false) := by
  refine returnsInHanded_of_change_and (C := Tryd.checked) (X := fun w _ => laidMetH Tryd.prog Rows.byfloorRowsRow.laid w) (fun _ _ _ hh h => h.of_heap hh) own started (by kernel_rfl) Tryd.func3
    (ChangeSpec.witness_shaped (enc := enc) (C := Tryd.checked) (os := os) (X := fun w _ => laidMetH Tryd.prog Rows.byfloorRowsRow.laid w) false (World.laidAll Tryd.prog os Rows.byfloorRowsRow.laid) #[.slice none 0 0, .agg #[.int .i64 0, .int .i64 0]] 8 (World.laidAll_os _ _ _)
      (World.shaped_of_ZipB (by kernel_rfl) (by kernel_rfl)) (by kernel_rfl) (by kernel_rfl) (by kernel_rfl)
      (by rw [MakeChecks.laidMetH_plain _ _ _ (by kernel_rfl)]; exact laidMet_laidAll _ (by kernel_rfl) (by kernel_rfl))) ?_
  intro W base args ds gs before hval0 hW hcnd _ hLaid _
  have hval : ∀ (j : Nat) t v, Tryd.f3.params[j]? = some t → args[j]? = some v → Value.okWide Tryd.prog W .any base t v := hval0
  obtain ⟨p, q, hA, hV, hpq, _⟩ := id hW
  have hA : DataW.TrodAll enc Tryd.prog W 0 (fun _ => true) true Tryd.f3.params.toList args.toList ds p := hA
  rw [Tryd.params3] at hA
  obtain ⟨v0, vs0, d0, ds0, p0, q0, -, rfl, rfl, -, r0⟩ := trodAll_cons hA
  obtain ⟨v1, vs1, d1, ds1, p1, q1, -, rfl, rfl, -, r1⟩ := trodAll_cons r0
  obtain ⟨-, rfl, rfl⟩ := trodAll_nil r1
  obtain ⟨rfl, rfl⟩ := trodVars_none hV
  exact law_calls (ks := [(false, [.sl ctTrip]), (true, [ctI, ctI])]) spec hW hval rfl rfl rfl rfl laid (by kernel_rfl) rfl Tryd.underlying4 (by kernel_rfl) fun xs has => by
    cases has with | cons h1 h2 => cases h2 with | cons h3 h4 => cases h4; obtain ⟨d1, rfl, hd1⟩ := warg_c h1; obtain ⟨f, rfl, hf⟩ := warg_agg h3; obtain ⟨rows, rfl, hr, hrows⟩ := wt_sl.1 hd1; obtain ⟨ts, rfl, hts⟩ := rows_map trip_row rows hrows; simp only [all2_cons, all2_nil, wt_i64] at hf; obtain ⟨_, _, rfl, ⟨b, rfl, hb⟩, _, _, rfl, ⟨w, rfl, hw⟩, rfl⟩ := hf; exact byfloorRows_law ts b w

theorem over : Rows.byfloorRowsRow.holds Tryd.pinned (OpenSpec.ofChange Rows.byfloorRowsSpec) :=
  OpenClaim.holds_of_wide 3 Tryd.f3 rfl rfl rfl rfl rfl rfl rfl ⟨rfl, rfl, rfl, rfl, rfl⟩ rfl rfl rfl rfl rfl (by kernel_rfl) Tryd.func3 (by kernel_rfl)
    (of_decide_eq_true (by kernel_rfl)) (by unfold Func.isWrapper; first | (rw [if_pos (by decide +kernel)]; kernel_rfl) | (rw [if_neg (by decide +kernel)]; exact ⟨rfl, rfl⟩))
    (fun os started H enc _ => lifted os started H enc)
theorem proved : Rows.ByfloorRowsCardSaid :=
  Claim7.holds_tied_plain_at .later [] [.data, .pinned] true (true, "2eea6d51aacd2c9ec424ea4b82cd9f7fec1df137a1dfd36dfa4b77f86d47e3f7") false over (fun _ h => by cases h) (by kernel_rfl) (fun _ h => by cases h) byfloorRows_row_tie rfl ⟨rfl, rfl⟩ (by kernel_rfl) rfl
    (fun f fn hf hfn => by
      obtain rfl : f = 3 := Option.some.inj ((show Tryd.prog.funcNamed "hoistway/hoistwaylaw70.ByfloorRows" = some 3 by kernel_rfl).symm.trans hf) |>.symm
      obtain rfl : fn = Tryd.f3 := (Option.some.inj (Tryd.func3.symm.trans hfn)).symm
      exact ⟨by kernel_rfl, fun j t ht => by
        rw [Tryd.params3] at ht
        have hm : t ∈ [22, 24] := by simpa using Array.mem_of_getElem? ht
        have hall : ([22, 24].all fun u => !Tryd.prog.wantsStandIn u) = true := by kernel_rfl
        exact (show Tryd.prog.wantsStandIn t = false by simpa using List.all_eq_true.1 hall t hm)⟩)
    (by kernel_rfl)
end Go.Proofs.YtkhbfjmckgddeaaDoor.byfloorRows
