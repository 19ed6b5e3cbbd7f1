/- The row of the law ReportRows: it answers true, whatever the input. -/
import Derived.Test.YtkhbfjmckgddeaaDoorRows
import Derived.Test.YtkhbfjmckgddeaaDoorTie
import Derived.Test.YtkhbfjmckgddeaaDoorCards
import Derived.ProofKit
import Derived.LaidMore
import Derived.Lay
import Derived.SevenTiedAt
import Derived.Stop.Joined
import Derived.Test.YtkhbfjmckgddeaaDoorRrLaw
import Derived.Test.YtkhbfjmckgddeaaDoorLay
import Derived.Test.YtkhbfjmckgddeaaDoorHs
set_option linter.unusedVariables false
namespace Go.Proofs.YtkhbfjmckgddeaaDoor.reportRows
open Go.ChangeShapes Go.WideShapes Go.ChangeAt Go.RowKit Go.Am

theorem own : ownKnob Tryd.prog.godebug = none := by kernel_rfl
theorem laid : laidOutB Tryd.prog = true := by kernel_rfl
def nums : Nat → Option Nat := get [(0, 4), (81, 76), (80, 88), (72, 60), (50, 34), (74, 55), (73, 54), (52, 28), (6, 8), (389, 53), (375, 66), (387, 63), (420, 39), (422, 43), (421, 44), (248, 93), (367, 94), (252, 65), (259, 42), (437, 41), (436, 38), (429, 18), (430, 19), (443, 67), (442, 68), (444, 69), (439, 46), (440, 45), (431, 21), (441, 47), (428, 22), (432, 16), (118, 17), (427, 20), (426, 23), (290, 95), (438, 40)]
theorem spec : Go.Am.Spec Tryd.prog 4 (env rrTab rrTabV rpX 110000 24 0) :=
  env_spec (nm := nums) (T := rrTab) (I := rrTabV) (X := rpX) Tryd.checked.mixed (rpX_ok Go.Proofs.Tryd.lays189 (by decide) (by decide) (rep_spec (by simp [gBlocks]))) (by decide +kernel) (by decide +kernel) _ _ 0 4 (by decide)

set_option maxRecDepth 100000 in
theorem lifted (os : Os) (started : os.Started) (H : Type) (enc : TypeId × Value → H) :
    ReturnsInHanded {} Tryd.checked os 4 .any (fun w args => (Rows.reportRowsSpec.pre enc Tryd.prog Tryd.f4 Rows.reportRowsRow.domain false w args ∧ laidMetH Tryd.prog Rows.reportRowsRow.laid w) ∧ sizedMet enc Tryd.prog Tryd.f4 (OpenSpec.ofChange Rows.reportRowsSpec) false w args)
      (Rows.reportRowsSpec.post enc Tryd.prog Tryd.f4 false true false false) := by
  refine handed_shaped (C := Tryd.checked) (X := fun w _ => laidMetH Tryd.prog Rows.reportRowsRow.laid w) (fun _ _ _ hh h => h.of_heap hh) own started (by kernel_rfl) Tryd.func4
    (ChangeSpec.witness_shaped (enc := enc) (C := Tryd.checked) (os := os) (X := fun w _ => laidMetH Tryd.prog Rows.reportRowsRow.laid w) false (World.laidAll Tryd.prog os Rows.reportRowsRow.laid) #[.slice none 0 0, .slice none 0 0, .agg #[.int .i64 0, .int .i64 0]] 8 (World.laidAll_os _ _ _)
      (World.shaped_of_ZipB (by kernel_rfl) (by kernel_rfl)) (by kernel_rfl) (by kernel_rfl) (by kernel_rfl)
      (by rw [MakeChecks.laidMetH_plain _ _ _ (by kernel_rfl)]; exact laidMet_laidAll _ (by kernel_rfl) (by kernel_rfl))) ?_
  intro W base args ds gs before hval0 hW hLaid hSh
  have hval : ∀ (j : Nat) t v, Tryd.f4.params[j]? = some t → args[j]? = some v → Value.okWide Tryd.prog W .any base t v := hval0
  obtain ⟨p, q, hA, hV, hpq, _⟩ := id hW
  have hA : DataW.TrodAll enc Tryd.prog W 0 (fun _ => true) true Tryd.f4.params.toList args.toList ds p := hA
  rw [Tryd.params4] at hA
  obtain ⟨v0, vs0, d0, ds0, p0, q0, -, rfl, rfl, -, r0⟩ := trodAll_cons hA
  obtain ⟨v1, vs1, d1, ds1, p1, q1, -, rfl, rfl, -, r1⟩ := trodAll_cons r0
  obtain ⟨v2, vs2, d2, ds2, p2, q2, -, rfl, rfl, -, r2⟩ := trodAll_cons r1
  obtain ⟨-, rfl, rfl⟩ := trodAll_nil r2
  obtain ⟨rfl, rfl⟩ := trodVars_none hV
  exact law_calls (ks := [(false, [.sl [ctI]]), (false, [.sl [ctI]]), (true, [ctI, ctI])]) spec hW hval (fun b h => by simp [gBlocks] at h; subst h; exact Go.Proofs.Tryd.lays155.s1_3 W hSh) rfl rfl rfl rfl laid (by kernel_rfl) rfl Tryd.underlying4 (by kernel_rfl) fun xs has => by
    cases has with | cons h1 h2 => cases h2 with | cons h2 h3 => cases h3 with | cons h3 h4 => cases h4; obtain ⟨d1, rfl, hd1⟩ := warg_c h1; obtain ⟨d2, rfl, hd2⟩ := warg_c h2; obtain ⟨f, rfl, hf⟩ := warg_agg h3; obtain ⟨l, hl⟩ := wt_zs hd1; obtain ⟨m, hm⟩ := wt_zs hd2; simp only [all2_cons, all2_nil, wt_i64] at hf; obtain ⟨_, _, rfl, ⟨b, rfl, hb⟩, _, _, rfl, ⟨w, rfl, hw⟩, rfl⟩ := hf; rw [hl, hm]; exact reportRows_law l m b w hb hw

theorem over : Rows.reportRowsRow.holds Tryd.pinned (OpenSpec.ofChange Rows.reportRowsSpec) :=
  OpenClaim.holds_of_wide 4 Tryd.f4 rfl rfl rfl rfl rfl rfl rfl ⟨rfl, rfl, rfl, rfl, rfl⟩ rfl rfl rfl rfl rfl (by kernel_rfl) Tryd.func4 (by kernel_rfl)
    (of_decide_eq_true (by kernel_rfl)) (by unfold Func.isWrapper; first | (rw [if_pos (by decide +kernel)]; kernel_rfl) | (rw [if_neg (by decide +kernel)]; exact ⟨rfl, rfl⟩))
    (fun os started H enc _ => lifted os started H enc)
theorem proved : Rows.ReportRowsCardSaid :=
  Claim7.holds_tied_plain_at .later [] [.data, .pinned] true (true, "2eea6d51aacd2c9ec424ea4b82cd9f7fec1df137a1dfd36dfa4b77f86d47e3f7") false over (fun _ h => by cases h) (by kernel_rfl) (fun _ h => by cases h) reportRows_row_tie rfl ⟨rfl, rfl⟩ (by kernel_rfl) rfl
    (fun f fn hf hfn => by
      obtain rfl : f = 4 := Option.some.inj ((show Tryd.prog.funcNamed "hoistway/hoistwaylaw42.ReportRows" = some 4 by kernel_rfl).symm.trans hf) |>.symm
      obtain rfl : fn = Tryd.f4 := (Option.some.inj (Tryd.func4.symm.trans hfn)).symm
      exact ⟨by kernel_rfl, fun j t ht => by
        rw [Tryd.params4] at ht
        have hm : t ∈ [44, 44, 45] := by simpa using Array.mem_of_getElem? ht
        have hall : ([44, 44, 45].all fun u => !Tryd.prog.wantsStandIn u) = true := by kernel_rfl
        exact (show Tryd.prog.wantsStandIn t = false by simpa using List.all_eq_true.1 hall t hm)⟩)
    (by kernel_rfl)
end Go.Proofs.YtkhbfjmckgddeaaDoor.reportRows
