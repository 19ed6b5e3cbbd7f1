/- Law 9: the sort of spans by their begins, as a function from outside of the table. -/
import Derived.Test.YtiabedphaioidaaLaySp
import Derived.Test.YtiabedphaioidaaSrf
import Derived.Test.YtiabedphaioidaaSpanL
set_option linter.unusedVariables false
set_option linter.unusedSimpArgs false
namespace Go.Am
open Go.Proofs Go.Shelf Go.RowKit Go.Sort
def cfSp (x y : List Int) : Int := Lib.compareInt (x.getD 0 0) (y.getD 0 0)
theorem lt_cfSp (x y : List Int) : ltOf cfSp x y = decide (x.getD 0 0 < y.getD 0 0) := by
  unfold ltOf cfSp Lib.compareInt
  generalize x.getD 0 0 = a
  generalize y.getD 0 0 = b
  by_cases h1 : a < b
  · simp [h1]
  · by_cases h2 : b < a <;> simp [h1, h2]
theorem swo_cfSp : SWO (ltOf cfSp) where
  irrefl x := by rw [lt_cfSp]; simp
  trans x y z h1 h2 := by rw [lt_cfSp] at *; simp only [decide_eq_true_eq] at *; omega
  ntrans x y z h1 h2 := by rw [lt_cfSp] at *; simp only [decide_eq_false_iff_not] at *; omega
set_option maxHeartbeats 1000000 in
theorem cmp_span (x y : List Int) (W : World) : Calls Try.prog fv_span_Merge_1 #[.agg (encK 2 x).toArray, .agg (encK 2 y).toArray] W fun e w' => e = .returned (.int .i64 (cfSp x y)) ∧ ∃ q os', w' = grow (W.drewN q) os' := by
  have ex : (encK 2 x).toArray = #[.int .i64 (x.getD 0 0), .int .i64 (x.getD 1 0)] := rfl
  have ey : (encK 2 y).toArray = #[.int .i64 (y.getD 0 0), .int .i64 (y.getD 1 0)] := rfl
  rw [ex, ey]
  unfold cfSp
  generalize x.getD 0 0 = a
  generalize x.getD 1 0 = b
  generalize y.getD 0 0 = c
  generalize y.getD 1 0 = d
  have hcon := fun W' => AnyG.cmp_Compare_int Try.cmpInt a c W'
  change ∀ W', Calls Try.prog 34 _ _ _ at hcon
  generalize Lib.compareInt a c = r at hcon ⊢
  go_enter Try.func33, Try.ntmps33
  go_wp2_with (go_at_call 34; refine (hcon _).mono ?_; rintro e w' ⟨rfl, rfl⟩)
  go_ret
  exact ⟨rfl, 0, _, by rw [alloc_eq_grow, alloc_eq_grow, grow_grow]; rfl⟩
def spEnv : Env := ⟨fun _ _ => none, fun f s => if f = 299 then sortFPt 2 fv_span_Merge_1 cfSp s else none, fun _ _ => none⟩
theorem spEnv_pt : spEnv.pt 299 = sortFPt 2 fv_span_Merge_1 cfSp := by funext s; simp [spEnv]
theorem sort_span : SpecP Try.prog 32 (sortFPt 2 fv_span_Merge_1 cfSp) :=
  sortF_specP Try.sortSpan 2 fv_span_Merge_1 (by omega) Try.isAgg26 Try.sizeOf26 (enters_of Try.func33 (by kernel_rfl) rfl) cfSp swo_cfSp cmp_span
theorem spEnv_ok {nm : Nat → Option Nat} {T : Tab} (h : nm 299 = some 32) : XOk Try.prog nm T spEnv where
  fn := fun f g _ _ F w ds vs rs _ _ h => by simp [spEnv] at h
  pt := fun f g hg _ => by
    by_cases hf : f = 299
    · subst hf
      rw [h] at hg; simp only [Option.some.injEq] at hg; subst hg
      rw [spEnv_pt]; exact sort_span
    · have : spEnv.pt f = fun _ => none := by funext s; simp [spEnv, hf]
      rw [this]; exact SpecP.none
  mono := fun f s rs ob R hR h => by
    by_cases hf : f = 299
    · subst hf
      rw [spEnv_pt] at h ⊢
      exact sortF_mono _ _ _ s rs ob R hR h
    · simp [spEnv, hf] at h
theorem sp_row (r : List D) (h : All2 WT [ctI, ctI] r) : ∃ t : Sp, r = t.cells ∧ t.Ok := by
  simp only [all2_cons, all2_nil, wt_i64] at h
  obtain ⟨_, _, rfl, ⟨a, rfl, ha⟩, _, _, rfl, ⟨b, rfl, hb⟩, rfl⟩ := h
  exact ⟨⟨a, b⟩, rfl, ⟨ha, hb⟩⟩
theorem wt_spans {d : D} (h : WT (.sl [ctI, ctI]) d) : ∃ l : List Sp, AV.c d = spL l ∧ ∀ s ∈ l, s.Ok := by
  rw [wt_sl] at h
  obtain ⟨rows, rfl, hl, h⟩ := h
  obtain ⟨ts, rfl, hts⟩ := rows_map sp_row rows h
  exact ⟨ts, rfl, hts⟩
end Go.Am
