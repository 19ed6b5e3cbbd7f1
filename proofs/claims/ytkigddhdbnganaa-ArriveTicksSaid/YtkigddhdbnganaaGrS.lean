/- The sort of weights by their pairs, as a function from outside of the table. -/
import Derived.Test.YtkigddhdbnganaaLayWt
import Derived.Test.YtkigddhdbnganaaSrf
import Derived.Test.YtkigddhdbnganaaGrCode
import Derived.LoopN
import Derived.StillTailTactics
set_option linter.unusedVariables false
set_option linter.unusedSimpArgs false
namespace Go.Am
open Go.Proofs Go.Shelf Go.RowKit Go.Sort
def or2 (a b : Int) : Int := if a ≠ 0 then a else b
def cfW (x y : List Int) : Int := or2 (Lib.compareInt (x.getD 0 0) (y.getD 0 0)) (Lib.compareInt (x.getD 1 0) (y.getD 1 0))
def ltW (x y : List Int) : Bool := decide (x.getD 0 0 < y.getD 0 0) || (decide (x.getD 0 0 = y.getD 0 0) && decide (x.getD 1 0 < y.getD 1 0))
theorem lt_cfW : ltOf cfW = ltW := by
  funext x y
  unfold ltOf cfW ltW or2 Lib.compareInt
  generalize x.getD 0 0 = a
  generalize y.getD 0 0 = b
  generalize x.getD 1 0 = c
  generalize y.getD 1 0 = d
  rcases Int.lt_trichotomy a b with h | h | h
  · simp [h]
  · subst h
    rcases Int.lt_trichotomy c d with h | h | h
    · simp [h]
    · subst h; simp
    · simp [h, Int.lt_asymm h]
  · have h2 : ¬ a = b := by omega
    simp [h, h2, Int.lt_asymm h]
theorem swo_cfW : SWO (ltOf cfW) where
  irrefl x := by rw [lt_cfW]; simp [ltW]
  trans x y z h1 h2 := by rw [lt_cfW] at *; simp only [ltW, Bool.or_eq_true, Bool.and_eq_true, decide_eq_true_eq] at *; omega
  ntrans x y z h1 h2 := by rw [lt_cfW] at *; simp only [ltW, Bool.or_eq_false_iff, Bool.and_eq_false_iff, decide_eq_false_iff_not] at *; omega
set_option maxHeartbeats 1000000 in
theorem or_two (a b : Int) (W : World) (bk : Nat) (h0 : W.cell? ⟨bk, 0, none⟩ = some (.int .i64 a)) (h1 : W.cell? ⟨bk, 1, none⟩ = some (.int .i64 b)) : Calls Try.prog 118 #[.slice (some ⟨bk, 0, none⟩) 2 2] W fun e w' => e = .returned (.int .i64 (or2 a b)) ∧ w' = W := by
  unfold or2
  go_enter Try.func118, Try.ntmps118
  go_wp2
  refine wp_loop_rounds 3 ?_
  by_cases ha : a = 0
  · subst ha
    rw [rounds_succ]; go_wp2
    rw [rounds_succ]; go_wp2
    · go_ret
      simp
    · rw [rounds_succ]; go_wp2
      go_ret
      simp_all
  · rw [rounds_succ]; go_wp2
    go_ret
    simp [ha]
set_option maxRecDepth 20000 in
set_option maxHeartbeats 4000000 in
theorem gcmp_w (x y : List Int) (W : World) : Calls Try.prog 103 #[.agg #[.int .i64 (x.getD 0 0), .int .i64 (x.getD 1 0)], .agg #[.int .i64 (y.getD 0 0), .int .i64 (y.getD 1 0)]] W fun e w' => e = .returned (.int .i64 (cfW x y)) ∧ ∃ q os', w' = grow (W.drewN q) os' := by
  unfold cfW
  generalize x.getD 0 0 = a
  generalize x.getD 1 0 = b
  generalize y.getD 0 0 = c
  generalize y.getD 1 0 = d
  have hcon1 := fun W' => AnyG.cmp_Compare_int Try.cmpInt a c W'
  have hcon2 := fun W' => AnyG.cmp_Compare_int Try.cmpInt b d W'
  change ∀ W', Calls Try.prog 119 _ _ _ at hcon1
  change ∀ W', Calls Try.prog 119 _ _ _ at hcon2
  generalize Lib.compareInt a c = r1 at hcon1 ⊢
  generalize Lib.compareInt b d = r2 at hcon2 ⊢
  go_enter Try.func103, Try.ntmps103
  go_wp2
  refine wp_region_still_tail 10 (by kernel_rfl) (by kernel_rfl) ?_
  simp only [List.take_succ_cons, List.take_zero, List.drop_succ_cons, List.drop_zero]
  change wpStill _ _ (World.drew ((W.alloc (Obj.cells #[Value.int IntKind.i64 a, Value.int IntKind.i64 b] 100)).alloc (Obj.cells #[Value.int IntKind.i64 c, Value.int IntKind.i64 d] 100))) _ _ _
  have c1 : (World.drew ((W.alloc (Obj.cells #[Value.int IntKind.i64 a, Value.int IntKind.i64 b] 100)).alloc (Obj.cells #[Value.int IntKind.i64 c, Value.int IntKind.i64 d] 100))).cell? ⟨W.heap.size, 0, none⟩ = some (.int .i64 a) := by go_cell
  have c2 : (World.drew ((W.alloc (Obj.cells #[Value.int IntKind.i64 a, Value.int IntKind.i64 b] 100)).alloc (Obj.cells #[Value.int IntKind.i64 c, Value.int IntKind.i64 d] 100))).cell? ⟨W.heap.size, 1, none⟩ = some (.int .i64 b) := by go_cell
  have c3 : (World.drew ((W.alloc (Obj.cells #[Value.int IntKind.i64 a, Value.int IntKind.i64 b] 100)).alloc (Obj.cells #[Value.int IntKind.i64 c, Value.int IntKind.i64 d] 100))).cell? ⟨W.heap.size + 1, 0, none⟩ = some (.int .i64 c) := by go_cell
  have c4 : (World.drew ((W.alloc (Obj.cells #[Value.int IntKind.i64 a, Value.int IntKind.i64 b] 100)).alloc (Obj.cells #[Value.int IntKind.i64 c, Value.int IntKind.i64 d] 100))).cell? ⟨W.heap.size + 1, 1, none⟩ = some (.int .i64 d) := by go_cell
  have hg : ∃ q os', World.drew ((W.alloc (Obj.cells #[Value.int IntKind.i64 a, Value.int IntKind.i64 b] 100)).alloc (Obj.cells #[Value.int IntKind.i64 c, Value.int IntKind.i64 d] 100)) = grow (W.drewN q) os' := ⟨1, _, by rw [alloc_eq_grow, alloc_eq_grow, grow_grow]; rfl⟩
  change wpStill _ _ _ (fun a' => wpList _ _ _ _ a' (World.drew ((W.alloc (Obj.cells #[Value.int IntKind.i64 a, Value.int IntKind.i64 b] 100)).alloc (Obj.cells #[Value.int IntKind.i64 c, Value.int IntKind.i64 d] 100)))) _ _
  generalize World.drew ((W.alloc (Obj.cells #[Value.int IntKind.i64 a, Value.int IntKind.i64 b] 100)).alloc (Obj.cells #[Value.int IntKind.i64 c, Value.int IntKind.i64 d] 100)) = w2 at *
  still_step
  still_step
  still_step
  still_step
  still_call (hcon1 _)
  still_step
  still_step
  still_step
  still_step
  still_call (hcon2 _)
  refine wpStill_nil ?_
  go_wp2_with (go_at_call 118; refine (or_two r1 r2 _ _ (by go_cell) (by go_cell)).mono ?_; rintro e w' ⟨rfl, rfl⟩)
  go_ret
  obtain ⟨q, os', rfl⟩ := hg
  exact ⟨rfl, q, _, by rw [alloc_eq_grow, grow_grow]⟩
theorem cmp_weight (x y : List Int) (W : World) : Calls Try.prog fv_grid_Grid_All_1 #[.agg (encK 3 x).toArray, .agg (encK 3 y).toArray] W fun e w' => e = .returned (.int .i64 (cfW x y)) ∧ ∃ q os', w' = grow (W.drewN q) os' := by
  have ex : (encK 3 x).toArray = #[.int .i64 (x.getD 0 0), .int .i64 (x.getD 1 0), .int .i64 (x.getD 2 0)] := rfl
  have ey : (encK 3 y).toArray = #[.int .i64 (y.getD 0 0), .int .i64 (y.getD 1 0), .int .i64 (y.getD 2 0)] := rfl
  rw [ex, ey]
  have hcon := fun W' => gcmp_w x y W'
  generalize cfW x y = r at hcon ⊢
  generalize x.getD 0 0 = a at *
  generalize x.getD 1 0 = b at *
  generalize x.getD 2 0 = a' at *
  generalize y.getD 0 0 = c at *
  generalize y.getD 1 0 = d at *
  generalize y.getD 2 0 = c' at *
  go_enter Try.func102, Try.ntmps102
  go_wp2_with (go_at_call 103; refine (hcon _).mono ?_; rintro e w' ⟨rfl, q, os', rfl⟩)
  go_ret
  rw [alloc_eq_grow, alloc_eq_grow, grow_grow]
  exact ⟨rfl, q, _, grow_grow (W.drewN q) _ os'⟩
theorem sort_weight : SpecP Try.prog 101 (sortFPt 3 fv_grid_Grid_All_1 cfW) :=
  sortF_specP Try.sortWt 3 fv_grid_Grid_All_1 (by omega) Try.isAgg153 Try.sizeOf153 (enters_of Try.func102 (by kernel_rfl) rfl) cfW swo_cfW cmp_weight
end Go.Am
