/- The row of the law AxiomChecks: it answers true, whatever the input. -/
import Derived.Test.YtmepibdbnbmapaaRows
import Derived.Test.YtmepibdbnbmapaaAxK
set_option linter.unusedVariables false
namespace Go.Proofs.Ytmepibdbnbmapaa.axiomChecks
open Go.ChangeShapes Go.WideShapes Go.ChangeAt Go.RowKit Go.Am

theorem own : ownKnob Try.prog.godebug = none := by kernel_rfl
theorem laid : laidOutB Try.prog = true := by kernel_rfl
def nums : Nat → Option Nat := get [(0, 4), (89, 12), (94, 16), (142, 66), (141, 67), (163, 111), (140, 68), (164, 112), (139, 69), (138, 70), (92, 9), (157, 105), (156, 106), (127, 53), (178, 140), (173, 119), (49, 104), (3, 54), (167, 114), (150, 74), (126, 55), (90, 10), (131, 59), (87, 13), (113, 18), (128, 58), (129, 57), (130, 56), (91, 11), (132, 60), (88, 14), (158, 107), (137, 61), (159, 108), (136, 62), (160, 71), (135, 63), (161, 109), (134, 64), (162, 110), (133, 65), (93, 15), (26, 52), (21, 103), (23, 136)]
theorem spec : Go.Am.Spec Try.prog 4 (env checksTab48 [] noEnv 70000 12 0) :=
  env_spec (nm := nums) (T := checksTab48) (I := []) (X := noEnv) Try.checked.mixed noEnv_ok (by decide +kernel) (by decide +kernel) _ _ 0 4 (by decide)

set_option maxRecDepth 100000 in
theorem lifted (os : Os) (started : os.Started) (H : Type) (enc : TypeId × Value → H) :
    ReturnsInHanded {} Try.checked os 4 .any (Rows.axiomChecksSpec.pre6 enc Try.prog Try.f4 Rows.axiomChecksRow.domain false) (Rows.axiomChecksSpec.post enc Try.prog Try.f4 false true false false) := by
  refine returnsInHanded_of_change (C := Try.checked) own started (by kernel_rfl) Try.func4
    (ChangeSpec.witness6 (enc := enc) (C := Try.checked) false ⟨#[], #[.agg #[.int .i64 0, .int .i64 0, .int .i64 0, .int .i64 0, .int .i64 0, .int .i64 0, .int .i64 0, .int .i64 0, .slice none 0 0, .int .i64 0, .int .i64 0, .int .i64 0, .int .i64 0], .slice none 0 0, .agg #[.slice none 0 0, .slice none 0 0, .int .i64 0]], []⟩ 8 (by kernel_rfl) (by kernel_rfl) (by kernel_rfl) (by kernel_rfl)) ?_
  intro W base args ds gs before hval0 hW hcnd _
  have hval : ∀ (j : Nat) t v, Try.f4.params[j]? = some t → args[j]? = some v → Value.okWide Try.prog W .any base t v := hval0
  obtain ⟨p, q, hA, hV, hpq, _⟩ := id hW
  have hA : DataW.TrodAll enc Try.prog W 0 (fun _ => true) true Try.f4.params.toList args.toList ds p := hA
  rw [Try.params4] at hA
  obtain ⟨v0, vs0, d0, ds0, p0, q0, -, rfl, rfl, -, r0⟩ := trodAll_cons hA
  obtain ⟨v1, vs1, d1, ds1, p1, q1, -, rfl, rfl, -, r1⟩ := trodAll_cons r0
  obtain ⟨v2, vs2, d2, ds2, p2, q2, -, rfl, rfl, -, r2⟩ := trodAll_cons r1
  obtain ⟨-, rfl, rfl⟩ := trodAll_nil r2
  obtain ⟨rfl, rfl⟩ := trodVars_none hV
  exact law_calls (ks := [(true, ctScn), (false, [.sl ctPsg]), (true, ctLog)]) spec hW hval rfl rfl rfl rfl laid (by kernel_rfl) rfl Try.underlying4 (by kernel_rfl) fun xs has => by
    cases has with
    | cons h1 h2 =>
      cases h2 with
      | cons h2 h3 =>
        cases h3 with
        | cons h3 h4 =>
          cases h4
          obtain ⟨d, rfl, hd⟩ := warg_agg h1
          obtain ⟨p, rfl, hp⟩ := warg_c h2
          obtain ⟨e, rfl, he⟩ := warg_agg h3
          obtain ⟨x, rfl, hx⟩ := scn_row _ hd
          obtain ⟨rows, rfl, hl, hr⟩ := wt_sl.1 hp
          obtain ⟨ps, rfl, hps⟩ := rows_map psg_row rows hr
          obtain ⟨y, rfl, hy⟩ := log_row _ he
          exact axiomChecks_law x ps y hx hy (by simpa using hl)

theorem over : Rows.axiomChecksRow.holds Try.pinned (OpenSpec.ofChange Rows.axiomChecksSpec) :=
  OpenClaim.holds_of_wide 4 Try.f4 rfl rfl rfl rfl rfl rfl rfl ⟨rfl, rfl, rfl, rfl, rfl⟩ rfl rfl rfl rfl rfl (by kernel_rfl) Try.func4 (by kernel_rfl)
    (of_decide_eq_true (by kernel_rfl)) (by unfold Func.isWrapper; first | (rw [if_pos (by decide +kernel)]; kernel_rfl) | (rw [if_neg (by decide +kernel)]; exact ⟨rfl, rfl⟩))
    (fun os started H enc _ => lifted os started H enc)
theorem proved : Rows.AxiomChecksSaid := over
end Go.Proofs.Ytmepibdbnbmapaa.axiomChecks
