/- The row of the law WindowsRows: it answers true, whatever the input. -/
import Derived.Test.YtfompdbhmbdmeaaRows
import Derived.Test.YtfompdbhmbdmeaaWinRows
set_option linter.unusedVariables false
namespace Go.Proofs.Ytfompdbhmbdmeaa.windowsRows
open Go.ChangeShapes Go.WideShapes Go.ChangeAt Go.RowKit Go.Am

theorem own : ownKnob Try.prog.godebug = none := by kernel_rfl
theorem laid : laidOutB Try.prog = true := by kernel_rfl
def nums : Nat → Option Nat := get [(0, 10), (29, 44), (30, 43), (65, 79), (15, 32), (16, 33), (17, 31), (18, 30), (19, 29), (60, 74), (61, 75), (62, 76)]
theorem spec : Go.Am.Spec Try.prog 10 (env rowsTab noEnv 70002 8 0) :=
  env_spec (nm := nums) (T := rowsTab) (X := noEnv) Try.checked.mixed (fun f g h1 h2 => by
    intro F w ds vs rs _ _ h; simp [noEnv] at h) (by decide +kernel) _ _ 0 10 (by decide)

set_option maxRecDepth 100000 in
theorem lifted (os : Os) (started : os.Started) (H : Type) (enc : TypeId × Value → H) :
    ReturnsInHanded {} Try.checked os 10 .any (Rows.windowsRowsSpec.pre6 enc Try.prog Try.f10 Rows.windowsRowsRow.domain false) (Rows.windowsRowsSpec.post enc Try.prog Try.f10 false true false false) := by
  refine returnsInHanded_of_change (C := Try.checked) own started (by kernel_rfl) Try.func10
    (ChangeSpec.witness6 (enc := enc) (C := Try.checked) false ⟨#[], #[.slice none 0 0, .agg #[.int .i64 0, .int .i64 0], .agg #[.int .i64 0, .int .i64 0]], []⟩ 8 (by kernel_rfl) (by kernel_rfl) (by kernel_rfl) (by kernel_rfl)) ?_
  intro W base args ds gs before hval0 hW hcnd _
  have hval : ∀ (j : Nat) t v, Try.f10.params[j]? = some t → args[j]? = some v → Value.okWide Try.prog W .any base t v := hval0
  obtain ⟨p, q, hA, hV, hpq, _⟩ := id hW
  have hA : DataW.TrodAll enc Try.prog W 0 (fun _ => true) true Try.f10.params.toList args.toList ds p := hA
  rw [Try.params10] at hA
  obtain ⟨v0, vs0, d0, ds0, p0, q0, -, rfl, rfl, -, r0⟩ := trodAll_cons hA
  obtain ⟨v1, vs1, d1, ds1, p1, q1, -, rfl, rfl, -, r1⟩ := trodAll_cons r0
  obtain ⟨v2, vs2, d2, ds2, p2, q2, -, rfl, rfl, -, r2⟩ := trodAll_cons r1
  obtain ⟨-, rfl, rfl⟩ := trodAll_nil r2
  obtain ⟨rfl, rfl⟩ := trodVars_none hV
  exact law_calls (ks := [(false, [.sl ctTrip]), (true, [ctI, ctI]), (true, [ctI, ctI])]) spec hW hval rfl rfl rfl rfl laid (by kernel_rfl) rfl Try.underlying4 (by kernel_rfl) fun xs has => by
    cases has with
    | cons h1 h2 =>
      cases h2 with
      | cons h2 h3 =>
        cases h3 with
        | cons h3 h4 =>
          cases h4
          obtain ⟨d, rfl, hd⟩ := warg_c h1
          obtain ⟨e, rfl, he⟩ := warg_agg h2
          obtain ⟨f, rfl, hf⟩ := warg_agg h3
          obtain ⟨rows, rfl, hr, hrows⟩ := wt_sl.1 hd
          obtain ⟨ts, rfl, hts⟩ := rows_map trip_row rows hrows
          simp only [all2_cons, all2_nil, wt_i64] at he hf
          obtain ⟨_, _, rfl, ⟨a, rfl, ha⟩, _, _, rfl, ⟨b, rfl, hb⟩, rfl⟩ := he
          obtain ⟨_, _, rfl, ⟨w, rfl, hw⟩, _, _, rfl, ⟨h, rfl, hh⟩, rfl⟩ := hf
          exact rows_law ts a b w h (by simpa using hr) hw hh

theorem over : Rows.windowsRowsRow.holds Try.pinned (OpenSpec.ofChange Rows.windowsRowsSpec) :=
  OpenClaim.holds_of_wide 10 Try.f10 rfl rfl rfl rfl rfl rfl rfl ⟨rfl, rfl, rfl, rfl, rfl⟩ rfl rfl rfl rfl rfl (by kernel_rfl) Try.func10 (by kernel_rfl)
    (of_decide_eq_true (by kernel_rfl)) (by unfold Func.isWrapper; first | (rw [if_pos (by decide +kernel)]; kernel_rfl) | (rw [if_neg (by decide +kernel)]; exact ⟨rfl, rfl⟩))
    (fun os started H enc _ => lifted os started H enc)
theorem proved : Rows.WindowsRowsSaid := over
end Go.Proofs.Ytfompdbhmbdmeaa.windowsRows
