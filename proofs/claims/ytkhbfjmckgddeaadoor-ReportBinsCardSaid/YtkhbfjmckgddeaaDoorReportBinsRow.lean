/- The row of the law ReportBins: it answers true, whatever the input. -/
import Derived.Test.YtkhbfjmckgddeaaDoorRows
import Derived.Test.YtkhbfjmckgddeaaDoorTie
import Derived.Test.YtkhbfjmckgddeaaDoorCards
import Derived.ProofKit
import Derived.LaidMore
import Derived.Lay
import Derived.SevenTiedAt
import Derived.Stop.Joined
import Derived.Test.YtkhbfjmckgddeaaDoorRbLaw
set_option linter.unusedVariables false
namespace Go.Proofs.YtkhbfjmckgddeaaDoor.reportBins
open Go.ChangeShapes Go.WideShapes Go.ChangeAt Go.RowKit Go.Am

theorem own : ownKnob Tryd.prog.godebug = none := by kernel_rfl
theorem laid : laidOutB Tryd.prog = true := by kernel_rfl
def nums : Nat → Option Nat := get [(0, 5), (192, 49), (197, 71), (191, 50), (228, 70), (79, 48), (69, 51), (187, 25), (188, 24), (81, 76), (80, 88), (72, 60), (50, 34), (394, 75), (393, 77), (391, 52), (389, 53), (434, 26), (443, 67), (442, 68), (444, 69), (439, 46), (440, 45), (431, 21), (432, 16), (426, 23), (118, 17), (429, 18), (436, 38), (194, 74), (195, 73), (196, 72), (420, 39), (438, 40), (437, 41), (259, 42)]
theorem spec : Go.Am.Spec Tryd.prog 5 (env rbTab rbTabV noEnv 1100000 10 0) :=
  env_spec (nm := nums) (T := rbTab) (I := rbTabV) (X := noEnv) Tryd.checked.mixed noEnv_ok (by decide +kernel) (by decide +kernel) _ _ 0 5 (by decide)

set_option maxRecDepth 100000 in
theorem lifted (os : Os) (started : os.Started) (H : Type) (enc : TypeId × Value → H) :
    ReturnsInHanded {} Tryd.checked os 5 .any (fun w args => (Rows.reportBinsSpec.pre enc Tryd.prog Tryd.f5 Rows.reportBinsRow.domain false w args ∧ laidMetH Tryd.prog Rows.reportBinsRow.laid w) ∧ sizedMet enc Tryd.prog Tryd.f5 (OpenSpec.ofChange Rows.reportBinsSpec) false w args)
      (Rows.reportBinsSpec.post enc Tryd.prog Tryd.f5 false true false false) := by
  refine returnsInHanded_of_change_and (C := Tryd.checked) (X := fun w _ => laidMetH Tryd.prog Rows.reportBinsRow.laid w) (fun _ _ _ hh h => h.of_heap hh) own started (by kernel_rfl) Tryd.func5
    (ChangeSpec.witness_shaped (enc := enc) (C := Tryd.checked) (os := os) (X := fun w _ => laidMetH Tryd.prog Rows.reportBinsRow.laid w) false (World.laidAll Tryd.prog os Rows.reportBinsRow.laid) #[.slice none 0 0, .slice none 0 0, .agg #[.int .i64 0, .int .i64 0]] 8 (World.laidAll_os _ _ _)
      (World.shaped_of_ZipB (by kernel_rfl) (by kernel_rfl)) (by kernel_rfl) (by kernel_rfl) (by kernel_rfl)
      (by rw [MakeChecks.laidMetH_plain _ _ _ (by kernel_rfl)]; exact laidMet_laidAll _ (by kernel_rfl) (by kernel_rfl))) ?_
  intro W base args ds gs before hval0 hW hcnd _ hLaid _
  have hval : ∀ (j : Nat) t v, Tryd.f5.params[j]? = some t → args[j]? = some v → Value.okWide Tryd.prog W .any base t v := hval0
  obtain ⟨p, q, hA, hV, hpq, _⟩ := id hW
  have hA : DataW.TrodAll enc Tryd.prog W 0 (fun _ => true) true Tryd.f5.params.toList args.toList ds p := hA
  rw [Tryd.params5] at hA
  obtain ⟨v0, vs0, d0, ds0, p0, q0, -, rfl, rfl, -, r0⟩ := trodAll_cons hA
  obtain ⟨v1, vs1, d1, ds1, p1, q1, -, rfl, rfl, -, r1⟩ := trodAll_cons r0
  obtain ⟨v2, vs2, d2, ds2, p2, q2, -, rfl, rfl, -, r2⟩ := trodAll_cons r1
  obtain ⟨-, rfl, rfl⟩ := trodAll_nil r2
  obtain ⟨rfl, rfl⟩ := trodVars_none hV
  exact law_calls (ks := [(false, [.sl [ctI]]), (false, [.sl [ctI]]), (true, [ctI, ctI])]) spec hW hval rfl rfl rfl rfl laid (by kernel_rfl) rfl Tryd.underlying4 (by kernel_rfl) fun xs has => by
    cases has with | cons h1 h2 => cases h2 with | cons h2 h3 => cases h3 with | cons h3 h4 => cases h4; obtain ⟨d1, rfl, hd1⟩ := warg_c h1; obtain ⟨d2, rfl, hd2⟩ := warg_c h2; obtain ⟨f, rfl, hf⟩ := warg_agg h3; obtain ⟨l, hl⟩ := wt_zs hd1; obtain ⟨m, hm⟩ := wt_zs hd2; simp only [all2_cons, all2_nil, wt_i64] at hf; obtain ⟨_, _, rfl, ⟨b, rfl, hb⟩, _, _, rfl, ⟨w, rfl, hw⟩, rfl⟩ := hf; rw [hl, hm]; exact reportBins_law l m b w hb hw

theorem over : Rows.reportBinsRow.holds Tryd.pinned (OpenSpec.ofChange Rows.reportBinsSpec) :=
  OpenClaim.holds_of_wide 5 Tryd.f5 rfl rfl rfl rfl rfl rfl rfl ⟨rfl, rfl, rfl, rfl, rfl⟩ rfl rfl rfl rfl rfl (by kernel_rfl) Tryd.func5 (by kernel_rfl)
    (of_decide_eq_true (by kernel_rfl)) (by unfold Func.isWrapper; first | (rw [if_pos (by decide +kernel)]; kernel_rfl) | (rw [if_neg (by decide +kernel)]; exact ⟨rfl, rfl⟩))
    (fun os started H enc _ => lifted os started H enc)
theorem proved : Rows.ReportBinsCardSaid :=
  Claim7.holds_tied_plain_at .later [] [.data, .pinned] true (true, "2eea6d51aacd2c9ec424ea4b82cd9f7fec1df137a1dfd36dfa4b77f86d47e3f7") false over (fun _ h => by cases h) (by kernel_rfl) (fun _ h => by cases h) reportBins_row_tie rfl ⟨rfl, rfl⟩ (by kernel_rfl) rfl
    (fun f fn hf hfn => by
      obtain rfl : f = 5 := Option.some.inj ((show Tryd.prog.funcNamed "hoistway/hoistwaylaw42.ReportBins" = some 5 by kernel_rfl).symm.trans hf) |>.symm
      obtain rfl : fn = Tryd.f5 := (Option.some.inj (Tryd.func5.symm.trans hfn)).symm
      exact ⟨by kernel_rfl, fun j t ht => by
        rw [Tryd.params5] at ht
        have hm : t ∈ [44, 44, 45] := by simpa using Array.mem_of_getElem? ht
        have hall : ([44, 44, 45].all fun u => !Tryd.prog.wantsStandIn u) = true := by kernel_rfl
        exact (show Tryd.prog.wantsStandIn t = false by simpa using List.all_eq_true.1 hall t hm)⟩)
    (by kernel_rfl)
end Go.Proofs.YtkhbfjmckgddeaaDoor.reportBins
