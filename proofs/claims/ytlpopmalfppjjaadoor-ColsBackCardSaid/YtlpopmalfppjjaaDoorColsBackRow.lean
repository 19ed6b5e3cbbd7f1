/- The row of the law ColsBack: it answers true, whatever the input. -/
import Derived.Test.YtlpopmalfppjjaaDoorRows
import Derived.Test.YtlpopmalfppjjaaDoorTie
import Derived.Test.YtlpopmalfppjjaaDoorCards
import Derived.ProofKit
import Derived.LaidMore
import Derived.Lay
import Derived.SevenTiedAt
import Derived.Stop.Joined
import Derived.Test.YtlpopmalfppjjaaDoorBackLaw
set_option linter.unusedVariables false
namespace Go.Proofs.YtlpopmalfppjjaaDoor.colsBack
open Go.ChangeShapes Go.WideShapes Go.ChangeAt Go.RowKit Go.Am

theorem own : ownKnob Tryd.prog.godebug = none := by kernel_rfl
theorem laid : laidOutB Tryd.prog = true := by kernel_rfl
def nums : Nat → Option Nat := get [(0, 4), (186, 5), (192, 20), (197, 24), (191, 21), (228, 22), (79, 16), (69, 17), (187, 15), (188, 14), (118, 13), (190, 19), (244, 12), (185, 11), (183, 9), (181, 7), (194, 27), (195, 26), (196, 25)]
theorem spec : Go.Am.Spec Tryd.prog 4 (env backTab backTabV noEnv 1100000 10 0) :=
  env_spec (nm := nums) (T := backTab) (I := backTabV) (X := noEnv) Tryd.checked.mixed noEnv_ok (by decide +kernel) (by decide +kernel) _ _ 0 4 (by decide)

set_option maxRecDepth 100000 in
theorem lifted (os : Os) (started : os.Started) (H : Type) (enc : TypeId × Value → H) :
    ReturnsInHanded {} Tryd.checked os 4 .any (fun w args => (Rows.colsBackSpec.pre enc Tryd.prog Tryd.f4 Rows.colsBackRow.domain false w args ∧ laidMetH Tryd.prog Rows.colsBackRow.laid w) ∧ sizedMet enc Tryd.prog Tryd.f4 (OpenSpec.ofChange Rows.colsBackSpec) false w args)
      (Rows.colsBackSpec.post enc Tryd.prog Tryd.f4 false true false false) := by
  refine returnsInHanded_of_change_and (C := Tryd.checked) (X := fun w _ => laidMetH Tryd.prog Rows.colsBackRow.laid w) (fun _ _ _ hh h => h.of_heap hh) own started (by kernel_rfl) Tryd.func4
    (ChangeSpec.witness_shaped (enc := enc) (C := Tryd.checked) (os := os) (X := fun w _ => laidMetH Tryd.prog Rows.colsBackRow.laid w) false (World.laidAll Tryd.prog os Rows.colsBackRow.laid) #[.slice none 0 0, .slice none 0 0] 8 (World.laidAll_os _ _ _)
      (World.shaped_of_ZipB (by kernel_rfl) (by kernel_rfl)) (by kernel_rfl) (by kernel_rfl) (by kernel_rfl)
      (by rw [MakeChecks.laidMetH_plain _ _ _ (by kernel_rfl)]; exact laidMet_laidAll _ (by kernel_rfl) (by kernel_rfl))) ?_
  intro W base args ds gs before hval0 hW hcnd _ hLaid _
  have hval : ∀ (j : Nat) t v, Tryd.f4.params[j]? = some t → args[j]? = some v → Value.okWide Tryd.prog W .any base t v := hval0
  obtain ⟨p, q, hA, hV, hpq, _⟩ := id hW
  have hA : DataW.TrodAll enc Tryd.prog W 0 (fun _ => true) true Tryd.f4.params.toList args.toList ds p := hA
  rw [Tryd.params4] at hA
  obtain ⟨v0, vs0, d0, ds0, p0, q0, -, rfl, rfl, -, r0⟩ := trodAll_cons hA
  obtain ⟨v1, vs1, d1, ds1, p1, q1, -, rfl, rfl, -, r1⟩ := trodAll_cons r0
  obtain ⟨-, rfl, rfl⟩ := trodAll_nil r1
  obtain ⟨rfl, rfl⟩ := trodVars_none hV
  exact law_calls (ks := [(false, [.sl [ctI]]), (false, [.sl [.str]])]) spec hW hval rfl rfl rfl rfl laid (by kernel_rfl) rfl Tryd.underlying4 (by kernel_rfl) fun xs has => by
    cases has with
    | cons h1 h2 =>
      cases h2 with
      | cons h2 h3 =>
        cases h3
        obtain ⟨d, rfl, hd⟩ := warg_c h1
        obtain ⟨e, rfl, he⟩ := warg_c h2
        obtain ⟨ws, hw, hws⟩ := wt_nums hd
        obtain ⟨r, hr⟩ := wt_words he
        rw [hw, hr]
        exact back_law ws hws r

theorem over : Rows.colsBackRow.holds Tryd.pinned (OpenSpec.ofChange Rows.colsBackSpec) :=
  OpenClaim.holds_of_wide 4 Tryd.f4 rfl rfl rfl rfl rfl rfl rfl ⟨rfl, rfl, rfl, rfl, rfl⟩ rfl rfl rfl rfl rfl (by kernel_rfl) Tryd.func4 (by kernel_rfl)
    (of_decide_eq_true (by kernel_rfl)) (by unfold Func.isWrapper; first | (rw [if_pos (by decide +kernel)]; kernel_rfl) | (rw [if_neg (by decide +kernel)]; exact ⟨rfl, rfl⟩))
    (fun os started H enc _ => lifted os started H enc)
theorem proved : Rows.ColsBackCardSaid :=
  Claim7.holds_tied_plain_at .later [] [.data, .pinned] true (true, "abfc6e0b0627d28a3572929fcebce9e29f889093e31db16b8cd8e6a2185ad95f") false over (fun _ h => by cases h) (by kernel_rfl) (fun _ h => by cases h) colsBack_row_tie rfl ⟨rfl, rfl⟩ (by kernel_rfl) rfl
    (fun f fn hf hfn => by
      obtain rfl : f = 4 := Option.some.inj ((show Tryd.prog.funcNamed "hoistway/hoistwaylaw16.ColsBack" = some 4 by kernel_rfl).symm.trans hf) |>.symm
      obtain rfl : fn = Tryd.f4 := (Option.some.inj (Tryd.func4.symm.trans hfn)).symm
      exact ⟨by kernel_rfl, fun j t ht => by
        rw [Tryd.params4] at ht
        have hm : t ∈ [25, 29] := by simpa using Array.mem_of_getElem? ht
        have hall : ([25, 29].all fun u => !Tryd.prog.wantsStandIn u) = true := by kernel_rfl
        exact (show Tryd.prog.wantsStandIn t = false by simpa using List.all_eq_true.1 hall t hm)⟩)
    (by kernel_rfl)
end Go.Proofs.YtlpopmalfppjjaaDoor.colsBack
