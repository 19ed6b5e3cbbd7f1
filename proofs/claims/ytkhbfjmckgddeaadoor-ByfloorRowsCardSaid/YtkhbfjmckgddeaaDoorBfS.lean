/- Law 70: the sort of rows by their floors and directions, as a function from outside of the table. -/
import Derived.Test.YtkhbfjmckgddeaaDoorLaySf
import Derived.Test.YtkhbfjmckgddeaaDoorSrf
import Derived.Test.YtkhbfjmckgddeaaDoorBfCode
import Derived.LoopN
import Derived.StillTailTactics
set_option linter.unusedVariables false
set_option linter.unusedSimpArgs false
namespace Go.Am
open Go.Proofs Go.Shelf Go.RowKit Go.Sort
def or2 (a b : Int) : Int := if a ≠ 0 then a else b
def cfB (x y : List Int) : Int := or2 (Lib.compareInt (x.getD 0 0) (y.getD 0 0)) (Lib.compareInt (y.getD 1 0) (x.getD 1 0))
def ltB (x y : List Int) : Bool := decide (x.getD 0 0 < y.getD 0 0) || (decide (x.getD 0 0 = y.getD 0 0) && decide (y.getD 1 0 < x.getD 1 0))
theorem lt_cfB : ltOf cfB = ltB := by
  funext x y
  unfold ltOf cfB ltB or2 Lib.compareInt
  generalize x.getD 0 0 = a
  generalize y.getD 0 0 = b
  generalize x.getD 1 0 = c
  generalize y.getD 1 0 = d
  rcases Int.lt_trichotomy a b with h | h | h
  · simp [h]
  · subst h
    rcases Int.lt_trichotomy d c with h | h | h
    · simp [h]
    · subst h; simp
    · simp [h, Int.lt_asymm h]
  · have h2 : ¬ a = b := by omega
    simp [h, h2, Int.lt_asymm h]
theorem swo_cfB : SWO (ltOf cfB) where
  irrefl x := by rw [lt_cfB]; simp [ltB]
  trans x y z h1 h2 := by rw [lt_cfB] at *; simp only [ltB, Bool.or_eq_true, Bool.and_eq_true, decide_eq_true_eq] at *; omega
  ntrans x y z h1 h2 := by rw [lt_cfB] at *; simp only [ltB, Bool.or_eq_false_iff, Bool.and_eq_false_iff, decide_eq_false_iff_not] at *; omega
set_option maxHeartbeats 1000000 in
theorem or_two (a b : Int) (W : World) (bk : Nat) (h0 : W.cell? ⟨bk, 0, none⟩ = some (.int .i64 a)) (h1 : W.cell? ⟨bk, 1, none⟩ = some (.int .i64 b)) : Calls Tryd.prog 32 #[.slice (some ⟨bk, 0, none⟩) 2 2] W fun e w' => e = .returned (.int .i64 (or2 a b)) ∧ w' = W := by
  unfold or2
  go_enter Tryd.func32, Tryd.ntmps32
  go_wp2
  refine wp_loop_rounds 3 ?_
  by_cases ha : a = 0
  · subst ha
    rw [rounds_succ]; go_wp2
    rw [rounds_succ]; go_wp2
    · go_ret
      simp
    · rw [rounds_succ]; go_wp2
      go_ret
      simp_all
  · rw [rounds_succ]; go_wp2
    go_ret
    simp [ha]
set_option maxRecDepth 20000 in
set_option maxHeartbeats 4000000 in
theorem cmp_byf (x y : List Int) (W : World) : Calls Tryd.prog fv_byfloor_All_1 #[.agg (encK 6 x).toArray, .agg (encK 6 y).toArray] W fun e w' => e = .returned (.int .i64 (cfB x y)) ∧ ∃ q os', w' = grow (W.drewN q) os' := by
  have ex : (encK 6 x).toArray = #[.int .i64 (x.getD 0 0), .int .i64 (x.getD 1 0), .int .i64 (x.getD 2 0), .int .i64 (x.getD 3 0), .int .i64 (x.getD 4 0), .int .i64 (x.getD 5 0)] := rfl
  have ey : (encK 6 y).toArray = #[.int .i64 (y.getD 0 0), .int .i64 (y.getD 1 0), .int .i64 (y.getD 2 0), .int .i64 (y.getD 3 0), .int .i64 (y.getD 4 0), .int .i64 (y.getD 5 0)] := rfl
  rw [ex, ey]
  unfold cfB
  generalize x.getD 0 0 = a0
  generalize x.getD 1 0 = a1
  generalize x.getD 2 0 = a2
  generalize x.getD 3 0 = a3
  generalize x.getD 4 0 = a4
  generalize x.getD 5 0 = a5
  generalize y.getD 0 0 = b0
  generalize y.getD 1 0 = b1
  generalize y.getD 2 0 = b2
  generalize y.getD 3 0 = b3
  generalize y.getD 4 0 = b4
  generalize y.getD 5 0 = b5
  have hcon1 := fun W' => AnyG.cmp_Compare_int Tryd.cmpInt a0 b0 W'
  have hcon2 := fun W' => AnyG.cmp_Compare_int Tryd.cmpInt b1 a1 W'
  change ∀ W', Calls Tryd.prog 33 _ _ _ at hcon1
  change ∀ W', Calls Tryd.prog 33 _ _ _ at hcon2
  generalize Lib.compareInt a0 b0 = r1 at hcon1 ⊢
  generalize Lib.compareInt b1 a1 = r2 at hcon2 ⊢
  go_enter Tryd.func31, Tryd.ntmps31
  go_wp2
  refine wp_region_still_tail 14 (by kernel_rfl) (by kernel_rfl) ?_
  simp only [List.take_succ_cons, List.take_zero, List.drop_succ_cons, List.drop_zero]
  change wpStill _ _ (World.drew ((W.alloc (Obj.cells #[Value.int IntKind.i64 a0, Value.int IntKind.i64 a1, Value.int IntKind.i64 a2, Value.int IntKind.i64 a3, Value.int IntKind.i64 a4, Value.int IntKind.i64 a5] 30)).alloc (Obj.cells #[Value.int IntKind.i64 b0, Value.int IntKind.i64 b1, Value.int IntKind.i64 b2, Value.int IntKind.i64 b3, Value.int IntKind.i64 b4, Value.int IntKind.i64 b5] 30))) _ _ _
  have c1 : (World.drew ((W.alloc (Obj.cells #[Value.int IntKind.i64 a0, Value.int IntKind.i64 a1, Value.int IntKind.i64 a2, Value.int IntKind.i64 a3, Value.int IntKind.i64 a4, Value.int IntKind.i64 a5] 30)).alloc (Obj.cells #[Value.int IntKind.i64 b0, Value.int IntKind.i64 b1, Value.int IntKind.i64 b2, Value.int IntKind.i64 b3, Value.int IntKind.i64 b4, Value.int IntKind.i64 b5] 30))).cell? ⟨W.heap.size, 0, none⟩ = some (.int .i64 a0) := by go_cell
  have c2 : (World.drew ((W.alloc (Obj.cells #[Value.int IntKind.i64 a0, Value.int IntKind.i64 a1, Value.int IntKind.i64 a2, Value.int IntKind.i64 a3, Value.int IntKind.i64 a4, Value.int IntKind.i64 a5] 30)).alloc (Obj.cells #[Value.int IntKind.i64 b0, Value.int IntKind.i64 b1, Value.int IntKind.i64 b2, Value.int IntKind.i64 b3, Value.int IntKind.i64 b4, Value.int IntKind.i64 b5] 30))).cell? ⟨W.heap.size, 1, none⟩ = some (.int .i64 a1) := by go_cell
  have c3 : (World.drew ((W.alloc (Obj.cells #[Value.int IntKind.i64 a0, Value.int IntKind.i64 a1, Value.int IntKind.i64 a2, Value.int IntKind.i64 a3, Value.int IntKind.i64 a4, Value.int IntKind.i64 a5] 30)).alloc (Obj.cells #[Value.int IntKind.i64 b0, Value.int IntKind.i64 b1, Value.int IntKind.i64 b2, Value.int IntKind.i64 b3, Value.int IntKind.i64 b4, Value.int IntKind.i64 b5] 30))).cell? ⟨W.heap.size + 1, 0, none⟩ = some (.int .i64 b0) := by go_cell
  have c4 : (World.drew ((W.alloc (Obj.cells #[Value.int IntKind.i64 a0, Value.int IntKind.i64 a1, Value.int IntKind.i64 a2, Value.int IntKind.i64 a3, Value.int IntKind.i64 a4, Value.int IntKind.i64 a5] 30)).alloc (Obj.cells #[Value.int IntKind.i64 b0, Value.int IntKind.i64 b1, Value.int IntKind.i64 b2, Value.int IntKind.i64 b3, Value.int IntKind.i64 b4, Value.int IntKind.i64 b5] 30))).cell? ⟨W.heap.size + 1, 1, none⟩ = some (.int .i64 b1) := by go_cell
  have hg : ∃ q os', World.drew ((W.alloc (Obj.cells #[Value.int IntKind.i64 a0, Value.int IntKind.i64 a1, Value.int IntKind.i64 a2, Value.int IntKind.i64 a3, Value.int IntKind.i64 a4, Value.int IntKind.i64 a5] 30)).alloc (Obj.cells #[Value.int IntKind.i64 b0, Value.int IntKind.i64 b1, Value.int IntKind.i64 b2, Value.int IntKind.i64 b3, Value.int IntKind.i64 b4, Value.int IntKind.i64 b5] 30)) = grow (W.drewN q) os' := ⟨1, _, by rw [alloc_eq_grow, alloc_eq_grow, grow_grow]; rfl⟩
  change wpStill _ _ _ (fun a' => wpList _ _ _ _ a' (World.drew ((W.alloc (Obj.cells #[Value.int IntKind.i64 a0, Value.int IntKind.i64 a1, Value.int IntKind.i64 a2, Value.int IntKind.i64 a3, Value.int IntKind.i64 a4, Value.int IntKind.i64 a5] 30)).alloc (Obj.cells #[Value.int IntKind.i64 b0, Value.int IntKind.i64 b1, Value.int IntKind.i64 b2, Value.int IntKind.i64 b3, Value.int IntKind.i64 b4, Value.int IntKind.i64 b5] 30)))) _ _
  generalize World.drew ((W.alloc (Obj.cells #[Value.int IntKind.i64 a0, Value.int IntKind.i64 a1, Value.int IntKind.i64 a2, Value.int IntKind.i64 a3, Value.int IntKind.i64 a4, Value.int IntKind.i64 a5] 30)).alloc (Obj.cells #[Value.int IntKind.i64 b0, Value.int IntKind.i64 b1, Value.int IntKind.i64 b2, Value.int IntKind.i64 b3, Value.int IntKind.i64 b4, Value.int IntKind.i64 b5] 30)) = w2 at *
  still_step
  still_step
  still_step
  still_step
  still_step
  still_step
  still_call (hcon1 _)
  still_step
  still_step
  still_step
  still_step
  still_step
  still_step
  still_call (hcon2 _)
  refine wpStill_nil ?_
  go_wp2_with (go_at_call 32; refine (or_two r1 r2 _ _ (by go_cell) (by go_cell)).mono ?_; rintro e w' ⟨rfl, rfl⟩)
  go_ret
  obtain ⟨q, os', rfl⟩ := hg
  exact ⟨rfl, q, _, by rw [alloc_eq_grow, grow_grow]⟩
theorem sort_byf : SpecP Tryd.prog 30 (sortFPt 6 fv_byfloor_All_1 cfB) :=
  sortF_specP Tryd.sortBf 6 fv_byfloor_All_1 (by omega) Tryd.isAgg30 Tryd.sizeOf30 (enters_of Tryd.func31 (by kernel_rfl) rfl) cfB swo_cfB cmp_byf
end Go.Am
