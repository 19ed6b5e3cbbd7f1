/- The row of the law ObserveStops: it answers true, whatever the input. -/
import Derived.Test.YtkjlejpaajcahaaRows
import Derived.Test.YtkjlejpaajcahaaObsStLaw
set_option linter.unusedVariables false
namespace Go.Proofs.Ytkjlejpaajcahaa.observeStops
open Go.ChangeShapes Go.WideShapes Go.ChangeAt Go.RowKit Go.Am

theorem own : ownKnob Try.prog.godebug = none := by kernel_rfl
theorem laid : laidOutB Try.prog = true := by kernel_rfl
def nums : Nat → Option Nat := get [(0, 4), (57, 21), (56, 102), (58, 58), (459, 15), (304, 16), (76, 19), (59, 17), (457, 18), (455, 23), (461, 60), (456, 22), (13, 24), (14, 61), (12, 62), (276, 59), (458, 20), (306, 103)]
theorem spec : Go.Am.Spec Try.prog 4 (env obTab obTabV obsX 110000 31 0) :=
  env_spec (nm := nums) (T := obTab) (I := obTabV) (X := obsX) Try.checked.mixed (obsX_ok (by decide) (by decide) (busy_spec (nm := nums) (by decide +kernel) (by decide +kernel) Try.checked.mixed)) (by decide +kernel) (by decide +kernel) _ _ 0 4 (by decide)

set_option maxRecDepth 100000 in
theorem lifted (os : Os) (started : os.Started) (H : Type) (enc : TypeId × Value → H) :
    ReturnsInHanded {} Try.checked os 4 .any (Rows.observeStopsSpec.pre6 enc Try.prog Try.f4 Rows.observeStopsRow.domain false) (Rows.observeStopsSpec.post enc Try.prog Try.f4 false true false false) := by
  refine returnsInHanded_of_change (C := Try.checked) own started (by kernel_rfl) Try.func4
    (ChangeSpec.witness6 (enc := enc) (C := Try.checked) false ⟨#[], #[.slice none 0 0, .int .i64 0, .int .i64 0], []⟩ 8 (by kernel_rfl) (by kernel_rfl) (by kernel_rfl) (by kernel_rfl)) ?_
  intro W base args ds gs before hval0 hW hcnd _
  have hval : ∀ (j : Nat) t v, Try.f4.params[j]? = some t → args[j]? = some v → Value.okWide Try.prog W .any base t v := hval0
  obtain ⟨p, q, hA, hV, hpq, _⟩ := id hW
  have hA : DataW.TrodAll enc Try.prog W 0 (fun _ => true) true Try.f4.params.toList args.toList ds p := hA
  rw [Try.params4] at hA
  obtain ⟨v0, vs0, d0, ds0, p0, q0, -, rfl, rfl, -, r0⟩ := trodAll_cons hA
  obtain ⟨v1, vs1, d1, ds1, p1, q1, -, rfl, rfl, -, r1⟩ := trodAll_cons r0
  obtain ⟨v2, vs2, d2, ds2, p2, q2, -, rfl, rfl, -, r2⟩ := trodAll_cons r1
  obtain ⟨-, rfl, rfl⟩ := trodAll_nil r2
  obtain ⟨rfl, rfl⟩ := trodVars_none hV
  exact law_calls (ks := [(false, [.sl ctTrip]), (false, [ctI]), (false, [ctI])]) spec hW hval (fun b h => by simp [gBlocks] at h) rfl rfl rfl rfl laid (by kernel_rfl) rfl Try.underlying4 (by kernel_rfl) fun xs has => by
    cases has with
    | cons h1 h2 =>
      cases h2 with
      | cons h2 h3 =>
        cases h3 with
        | cons h3 h4 =>
          cases h4
          obtain ⟨d, rfl, hd⟩ := warg_c h1
          obtain ⟨rows, rfl, hl, hrows⟩ := wt_sl.1 hd
          obtain ⟨ts, rfl, hts⟩ := rows_map trip_row rows hrows
          obtain ⟨d, rfl, hd⟩ := warg_c h2
          obtain ⟨a, rfl, ha⟩ := wt_i64.1 hd
          obtain ⟨d, rfl, hd⟩ := warg_c h3
          obtain ⟨b, rfl, hb⟩ := wt_i64.1 hd
          exact observeStops_law ts a b

theorem over : Rows.observeStopsRow.holds Try.pinned (OpenSpec.ofChange Rows.observeStopsSpec) :=
  OpenClaim.holds_of_wide 4 Try.f4 rfl rfl rfl rfl rfl rfl rfl ⟨rfl, rfl, rfl, rfl, rfl⟩ rfl rfl rfl rfl rfl (by kernel_rfl) Try.func4 (by kernel_rfl)
    (of_decide_eq_true (by kernel_rfl)) (by unfold Func.isWrapper; first | (rw [if_pos (by decide +kernel)]; kernel_rfl) | (rw [if_neg (by decide +kernel)]; exact ⟨rfl, rfl⟩))
    (fun os started H enc _ => lifted os started H enc)
theorem proved : Rows.ObserveStopsSaid := over
end Go.Proofs.Ytkjlejpaajcahaa.observeStops
