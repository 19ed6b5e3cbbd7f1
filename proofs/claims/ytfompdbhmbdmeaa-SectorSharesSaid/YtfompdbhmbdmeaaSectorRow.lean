/- The row of law 33. -/
import Derived.Test.YtfompdbhmbdmeaaRows
import Derived.Test.YtfompdbhmbdmeaaSector
set_option linter.unusedVariables false
namespace Go.Proofs.Ytfompdbhmbdmeaa.sectorShares
open Go.ChangeShapes Go.WideShapes Go.ChangeAt Go.RowKit Go.Am

theorem own : ownKnob Try.prog.godebug = none := by kernel_rfl
theorem laid : laidOutB Try.prog = true := by kernel_rfl
def nums : Nat → Option Nat := get [(0, 3), (1, 18), (2, 17), (3, 16), (4, 15), (49, 63)]
theorem spec : Go.Am.Spec Try.prog 3 (env sectorTab noEnv 1000 4 0) :=
  env_spec (nm := nums) (T := sectorTab) (X := noEnv) (dr := fun _ _ _ => false) Try.checked.mixed (fun N o ops h => by cases h) (fun f g h1 h2 => by
    intro F w ds vs rs _ _ h; simp [noEnv] at h) (by decide +kernel) 1000 4 0 3 (by decide)
theorem two {ks : List (Bool × List CT)} {xs : List AV} (hk : ks = [(false, [.int .i64]), (false, [.int .i64])]) (h : All2 WArg ks xs) : ∃ a b, xs = [i64 a, i64 b] := by
  subst hk
  match xs, h with
  | [a, b], .cons h1 (.cons h2 .nil) =>
    obtain ⟨h1, h1'⟩ := h1
    obtain ⟨h2, h2'⟩ := h2
    cases a <;> simp only [WA] at h1 <;> cases b <;> simp only [WA] at h2
    · obtain ⟨t1, e1, w1⟩ := h1
      obtain ⟨t2, e2, w2⟩ := h2
      simp only [List.cons.injEq, and_true] at e1 e2
      subst e1 e2
      cases w1; cases w2
      exact ⟨_, _, rfl⟩
    all_goals simp at h1' h2'

set_option maxRecDepth 100000 in
theorem lifted (os : Os) (started : os.Started) (H : Type) (enc : TypeId × Value → H) :
    ReturnsInHanded {} Try.checked os 3 .any (Rows.sectorSharesSpec.pre6 enc Try.prog Try.f3 Rows.sectorSharesRow.domain false) (Rows.sectorSharesSpec.post enc Try.prog Try.f3 false true false false) := by
  refine returnsInHanded_of_change (C := Try.checked) own started (by kernel_rfl) Try.func3
    (ChangeSpec.witness6 (enc := enc) (C := Try.checked) false ⟨#[], #[.int .i64 0, .int .i64 0], []⟩ 8 (by kernel_rfl) (by kernel_rfl) (by kernel_rfl) (by kernel_rfl)) ?_
  intro W base args ds gs before hval0 hW hcnd _
  have hval : ∀ (j : Nat) t v, Try.f3.params[j]? = some t → args[j]? = some v → Value.okWide Try.prog W .any base t v := hval0
  obtain ⟨p, q, hA, hV, hpq, _⟩ := id hW
  have hA : DataW.TrodAll enc Try.prog W 0 (fun _ => true) true Try.f3.params.toList args.toList ds p := hA
  rw [Try.params3] at hA
  obtain ⟨v0, vs0, d0, ds0, p0, q0, -, rfl, rfl, -, r0⟩ := trodAll_cons hA
  obtain ⟨v1, vs1, d1, ds1, p1, q1, -, rfl, rfl, -, r1⟩ := trodAll_cons r0
  obtain ⟨-, rfl, rfl⟩ := trodAll_nil r1
  obtain ⟨rfl, rfl⟩ := trodVars_none hV
  exact law_calls (ks := [(false, [.int .i64]), (false, [.int .i64])]) spec hW hval rfl rfl rfl rfl laid (by kernel_rfl) rfl Try.underlying4 rfl fun xs has => by
    obtain ⟨a, b, rfl⟩ := two rfl has
    exact sector_law a b

theorem over : Rows.sectorSharesRow.holds Try.pinned (OpenSpec.ofChange Rows.sectorSharesSpec) :=
  OpenClaim.holds_of_wide 3 Try.f3 rfl rfl rfl rfl rfl rfl rfl ⟨rfl, rfl, rfl, rfl, rfl⟩ rfl rfl rfl rfl rfl (by kernel_rfl) Try.func3 (by kernel_rfl)
    (of_decide_eq_true (by kernel_rfl)) (by unfold Func.isWrapper; first | (rw [if_pos (by decide +kernel)]; kernel_rfl) | (rw [if_neg (by decide +kernel)]; exact ⟨rfl, rfl⟩))
    (fun os started H enc _ => lifted os started H enc)
theorem proved : Rows.SectorSharesSaid := over
end Go.Proofs.Ytfompdbhmbdmeaa.sectorShares
