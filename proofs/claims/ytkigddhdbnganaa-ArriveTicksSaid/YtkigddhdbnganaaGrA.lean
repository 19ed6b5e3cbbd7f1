/- All weights of a grid: a loop over its map, then a sort. -/
import Derived.Test.YtkigddhdbnganaaGrS
set_option linter.unusedVariables false
set_option linter.unusedSimpArgs false
set_option maxRecDepth 10000
set_option maxHeartbeats 1000000
namespace Go.Am
open Go.Proofs Go.Shelf Go.RowKit Go.Sort
/-! ### Plain -/
/-- An entry of a grid's map: its birth, its pair, its number. -/
structure En where
  b : Int
  x : Int
  y : Int
  n : Int
def En.row (e : En) : List AV := [.c (.int .i64 e.b), .agg [.int .i64 e.x, .int .i64 e.y], .c (.int .i64 e.n)]
def En.w (e : En) : List Int := [e.x, e.y, e.n]
def En.out (e : En) : List AV := [.c (.int .i64 e.x), .c (.int .i64 e.y), .c (.int .i64 e.n)]
def En.born (e : En) : List AV := [.c (.int .i64 e.b)]
def gEnt : List AV → Option En
  | [.c (.int .i64 b), .agg [.int .i64 x, .int .i64 y], .c (.int .i64 n)] => some ⟨b, x, y, n⟩
  | _ => none
def gEnts : Rows → Option (List En)
  | [] => some []
  | r :: rs => match gEnt r, gEnts rs with
    | some e, some l => some (e :: l)
    | _, _ => none
theorem gEnts_map : ∀ l : List En, gEnts (l.map En.row) = some l
  | [] => rfl
  | e :: l => by simp only [List.map_cons, gEnts, gEnts_map l, En.row, gEnt]
theorem gEnts_some : ∀ {r : Rows} {l : List En}, gEnts r = some l → r = l.map En.row
  | [], l, h => by simp only [gEnts, Option.some.injEq] at h; subst h; rfl
  | x :: r, l, h => by
    unfold gEnts at h
    split at h
    · rename_i e l' h1 h2
      simp only [Option.some.injEq] at h; subst h
      rw [gEnts_some h2, List.map_cons]
      congr 1
      unfold gEnt at h1
      split at h1
      · simp only [Option.some.injEq] at h1; subst h1; rfl
      · simp at h1
    · simp at h
def bornB : List En → Bool
  | [] => true
  | e :: l => l.all (fun f => !decide (e.b = f.b)) && bornB l
theorem bornB_nodup : ∀ {l : List En}, bornB l = true → (l.map (·.b)).Nodup
  | [], _ => .nil
  | e :: l, h => by
    simp only [bornB, Bool.and_eq_true, List.all_eq_true, Bool.not_eq_true', decide_eq_false_iff_not] at h
    rw [List.map_cons, List.nodup_cons]
    refine ⟨fun hm => ?_, bornB_nodup h.2⟩
    obtain ⟨f, hf, he⟩ := List.mem_map.1 hm
    exact h.1 f hf he.symm
theorem noTies_perm {lt : List Int → List Int → Bool} {a b : List (List Int)} (hp : a.Perm b) (h : noTies lt b = true) : noTies lt a = true := by
  unfold noTies at *
  rw [List.all_eq_true] at *
  intro x hx
  have := h x (hp.mem_iff.1 hx)
  rw [List.all_eq_true] at *
  intro y hy
  exact this y (hp.mem_iff.1 hy)
theorem resF_eq_perm {lt : List Int → List Int → Bool} (hO : SWO lt) {a b : List (List Int)} (hp : a.Perm b) (h : noTies lt b = true) : resF lt a = resF lt b := by
  have ha := noTies_perm hp h
  unfold resF
  rw [if_pos h, if_pos ha]
  refine sortedL_unique hO (srtL_sorted hO a) (srtL_sorted hO b) ((srtL_perm lt a).trans (hp.trans (srtL_perm lt b).symm)) fun x hx y hy h1 h2 => ?_
  unfold noTies at ha
  have := List.all_eq_true.1 (List.all_eq_true.1 ha x ((srtL_perm lt a).mem_iff.1 hx)) y ((srtL_perm lt a).mem_iff.1 hy)
  simpa [h1, h2] using this
theorem came_born (l : List En) (b : Int) : came (l.map En.born) b = true ↔ ∃ e ∈ l, e.b = b := by
  unfold came
  rw [List.any_map, List.any_eq_true]
  simp [En.born]
theorem find_born {l : List En} (hn : (l.map (·.b)).Nodup) {e : En} (he : e ∈ l) : (l.map En.row).find? (hasBorn e.b) = some e.row := by
  induction l with
  | nil => simp at he
  | cons f l ih =>
    rw [List.map_cons, List.nodup_cons] at hn
    rw [List.map_cons, List.find?_cons]
    rcases List.mem_cons.1 he with rfl | he
    · simp [En.row, hasBorn]
    · have : ¬ f.b = e.b := fun h => hn.1 (h ▸ List.mem_map.2 ⟨e, he, rfl⟩)
      have h0 : hasBorn e.b f.row = false := by simp [En.row, hasBorn, this]
      rw [h0]; exact ih hn.2 he
theorem row_mem {l : List En} {b : Int} {k v : AV} (h : [.c (.int .i64 b), k, v] ∈ l.map En.row) : ∃ e ∈ l, b = e.b ∧ k = .agg [.int .i64 e.x, .int .i64 e.y] ∧ v = .c (.int .i64 e.n) := by
  obtain ⟨e, he, hr⟩ := List.mem_map.1 h
  simp only [En.row, List.cons.injEq, AV.c.injEq, D.int.injEq, true_and, and_true] at hr
  exact ⟨e, he, hr.1.symm, hr.2.1.symm, hr.2.2.symm⟩
theorem nmRows_out (k : Nat) (l : List En) : nmRows k (l.map En.out) = true := by induction l <;> simp_all [En.out]
theorem lcRows_out (k : Nat) (l : List En) : lcRows k (l.map En.out) = true := by induction l <;> simp_all [En.out]
theorem nmRows_born (k : Nat) (l : List En) : nmRows k (l.map En.born) = true := by induction l <;> simp_all [En.born]
theorem lcRows_born (k : Nat) (l : List En) : lcRows k (l.map En.born) = true := by induction l <;> simp_all [En.born]
theorem out_rowI (l : List En) : l.map En.out = (l.map En.w).map rowI := by rw [List.map_map]; rfl
/-! ### Without the own keys -/
theorem keepF_kf (lo hi : Nat) : ∀ ob : List (Nat × Obj), Kf lo hi (keepF lo hi [] ob)
  | [] => kf_nil lo hi
  | (k, o) :: r => by
    simp only [keepF, List.not_mem_nil, or_false]
    split
    · rename_i h; exact (kf_cons h).2 (keepF_kf lo hi r)
    · exact keepF_kf lo hi r
theorem keepF_del (lo hi k : Nat) (h1 : lo ≤ k % KT) (h2 : k % KT < hi) : ∀ ob : List (Nat × Obj), del (keepF lo hi [] ob) k = keepF lo hi [] ob
  | [] => rfl
  | (j, o) :: r => by
    simp only [keepF, List.not_mem_nil, or_false]
    split
    · rename_i h
      simp only [del]
      rw [if_neg (by rintro rfl; omega), keepF_del lo hi k h1 h2 r]
    · exact keepF_del lo hi k h1 h2 r
theorem get_of_del {α : Type} {l : List (Nat × α)} {k j : Nat} {o : α} (hd : del l k = l) (h : get l j = some o) : ¬ k = j := by
  rintro rfl
  rw [← hd, get_del, if_pos rfl] at h; simp at h
theorem nmFr_ghs (k : Nat) : ∀ l : List (Nat × AV), nmFr k l = true → nmFr k (ghs l) = true
  | [], _ => rfl
  | (i, v) :: r, h => by
    simp only [nmFr, Bool.and_eq_true] at h
    simp only [ghs]
    split
    · simp only [nmFr, h.1, nmFr_ghs k r h.2, Bool.and_self]
    · exact nmFr_ghs k r h.2
theorem lcFr_ghs (k : Nat) : ∀ l : List (Nat × AV), lcFr k l = true → lcFr k (ghs l) = true
  | [], _ => rfl
  | (i, v) :: r, h => by
    simp only [lcFr, Bool.and_eq_true] at h
    simp only [ghs]
    split
    · simp only [lcFr, h.1, lcFr_ghs k r h.2, Bool.and_self]
    · exact lcFr_ghs k r h.2
theorem nmFr_del (k j : Nat) : ∀ l : List (Nat × AV), nmFr k l = true → nmFr k (del l j) = true
  | [], _ => rfl
  | (i, v) :: r, h => by
    simp only [nmFr, Bool.and_eq_true] at h
    simp only [del]
    split
    · exact nmFr_del k j r h.2
    · simp only [nmFr, h.1, nmFr_del k j r h.2, Bool.and_self]
theorem nmFr_dels (k : Nat) : ∀ (R : List Nat) (l : List (Nat × AV)), nmFr k l = true → nmFr k (dels R l) = true
  | [], _, h => h
  | j :: R, l, h => nmFr_dels k R _ (nmFr_del k j l h)
theorem lcFr_del (k j : Nat) : ∀ l : List (Nat × AV), lcFr k l = true → lcFr k (del l j) = true
  | [], _ => rfl
  | (i, v) :: r, h => by
    simp only [lcFr, Bool.and_eq_true] at h
    simp only [del]
    split
    · exact lcFr_del k j r h.2
    · simp only [lcFr, h.1, lcFr_del k j r h.2, Bool.and_self]
theorem lcFr_dels (k : Nat) : ∀ (R : List Nat) (l : List (Nat × AV)), lcFr k l = true → lcFr k (dels R l) = true
  | [], _, h => h
  | j :: R, l, h => lcFr_dels k R _ (lcFr_del k j l h)
theorem ghs_gh : ∀ l : List (Nat × AV), Gh (ghs l)
  | [] => rfl
  | (i, v) :: r => by
    have := ghs_gh r
    simp only [Gh, ghs] at this ⊢
    split
    · rename_i h; simp only [ghs]; rw [if_pos h, this]
    · exact this
/-! ### What it answers -/
abbrev obA (s : St) : List (Nat × Obj) := keepF 276000 277000 [] s.ob
def allSide (s : St) : Bool := nmFr 276003 s.fr && nmFr 276004 s.fr && nmFr 2923003274661805836407369665432566039311865361962 s.fr && lcFr 276003 s.fr && nmOb 276003 (obA s) && nmOb 276004 (obA s) && nmOb 2923003274661805836407369665432566039311865361962 (obA s) && lcOb 276003 (obA s)
def allEnts (s : St) : Option (List En) :=
  match get s.fr 0 with
  | some (.loc gk 0 0) => match get (obA s) gk with
    | some ⟨1, [[.ot .nm]]⟩ => some []
    | some ⟨1, [[.mp mk]]⟩ => match get (obA s) mk with
      | some om => gEnts om.rows
      | none => none
    | _ => none
  | _ => none
def allPt (s : St) : Option (List AV × List (Nat × Obj)) :=
  match allEnts s with
  | some l => if (bornB l && decide (l.length ≤ 200000) && noTies ltW (l.map En.w) && allSide s) = true then some ([.sl 276003 l.length 0 l.length], (276003, ⟨3, (resF ltW (l.map En.w)).map rowI⟩) :: obA s) else none
  | none => none
theorem allPt_mono (s : St) (rs : List AV) (ob : List (Nat × Obj)) (R : List Nat) (hR : ∀ r ∈ R, GB ≤ r) (h : allPt s = some (rs, ob)) : allPt ⟨dels R s.fr, s.ob⟩ = some (rs, ob) := by
  have hG : (0 : Nat) < GB := by decide
  have e0 : get (dels R s.fr) 0 = get s.fr 0 := by rw [get_dels, if_neg fun h => by have := hR _ h; omega]
  have e1 : allEnts ⟨dels R s.fr, s.ob⟩ = allEnts s := by simp only [allEnts, e0]
  unfold allPt at h ⊢
  rw [e1]
  split at h
  case h_2 => simp at h
  split at h
  case isFalse => simp at h
  rename_i l hl hc
  simp only [Bool.and_eq_true, allSide] at hc
  obtain ⟨⟨⟨c1, c2⟩, c3⟩, ⟨⟨⟨⟨⟨⟨⟨c4, c5⟩, c6⟩, c7⟩, c8⟩, c9⟩, c10⟩, c11⟩⟩ := hc
  simp only [obA] at c8 c9 c10 c11
  simp only [hl, allSide, obA, c1, c2, c3, nmFr_dels _ R _ c4, nmFr_dels _ R _ c5, nmFr_dels _ R _ c6, lcFr_dels _ R _ c7, c8, c9, c10, c11, Bool.and_self, if_true]
  exact h
/-! ### The walk -/
def wtEnv : Env := ⟨fun _ _ => none, fun f s => if f = 306 then sortFPt 3 fv_grid_Grid_All_1 cfW s else none, fun _ _ => none⟩
theorem wtEnv_pt : wtEnv.pt 306 = sortFPt 3 fv_grid_Grid_All_1 cfW := by funext s; simp [wtEnv]
theorem wtEnv_ok {nm : Nat → Option Nat} (h : nm 306 = some 101) : EnvOk Try.prog nm wtEnv where
  fv := fun g ds rs h => by simp [wtEnv] at h
  fvS := fun g F w ds vs rs _ _ h => by simp [wtEnv] at h
  fn := fun f g _ F w ds vs rs _ _ h => by simp [wtEnv] at h
  pt := fun f g hg => by
    by_cases hf : f = 306
    · subst hf
      rw [h] at hg; simp only [Option.some.injEq] at hg; subst hg
      rw [wtEnv_pt]; exact sort_weight
    · have : wtEnv.pt f = fun _ => none := by funext s; simp [wtEnv, hf]
      rw [this]; exact SpecP.none
  mono := fun f s rs ob R hR h => by
    by_cases hf : f = 306
    · subst hf
      rw [wtEnv_pt] at h ⊢
      exact sortF_mono _ _ _ s rs ob R hR h
    · simp [wtEnv, hf] at h
/-- The state at a round's head. -/
def hdA (b : Bool) (done : List En) (mk : Nat) (z : Nat) (gs : List (Nat × AV)) (ob : List (Nat × Obj)) : St :=
  ⟨(3, .sl 276003 done.length 0 done.length) :: (10, .itr 2923003274661805836407369665432566039311865361962) :: gs,
    if b then (276003, ⟨3, done.map En.out⟩) :: (2923003274661805836407369665432566039311865361962, ⟨z, [.mp mk, .c (.int .i64 z)] :: done.map En.born⟩) :: ob
    else (2923003274661805836407369665432566039311865361962, ⟨z, [.mp mk, .c (.int .i64 z)] :: done.map En.born⟩) :: (276003, ⟨3, done.map En.out⟩) :: ob⟩
section
variable {gs : List (Nat × AV)} {ob : List (Nat × Obj)}
/-- What holds of what is handed over. -/
structure AllH (gs : List (Nat × AV)) (ob : List (Nat × Obj)) : Prop where
  g : Gh gs
  k : Kf 276000 277000 ob
  d3 : del ob 276003 = ob
  d4 : del ob 276004 = ob
  di : del ob 2923003274661805836407369665432566039311865361962 = ob
  n3 : nmFr 276003 gs = true
  n4 : nmFr 276004 gs = true
  ni : nmFr 2923003274661805836407369665432566039311865361962 gs = true
  l3 : lcFr 276003 gs = true
  o3 : nmOb 276003 ob = true
  o4 : nmOb 276004 ob = true
  oi : nmOb 2923003274661805836407369665432566039311865361962 ob = true
  p3 : lcOb 276003 ob = true
/-- What follows the loop. -/
def tailA : AW := .ac (.keepP [3] 276000 277000 [276003, 276021] (.seq (.reg grid_Grid_All_r6) (.keepP [3] 276000 277000 [276003, 276021] (.seq (.reg grid_Grid_All_r7) (.keepP [2] 276000 277000 [276003, 276021] (.ret))))))
theorem all_tail (M : Nat) (done : List En) (hH : AllH gs ob) (hl : done.length ≤ 200000) (K : AX → St → Prop)
    (hK : K .ret ⟨(2, .sl 276003 done.length 0 done.length) :: gs, (276003, ⟨3, (resF ltW (done.map En.w)).map rowI⟩) :: ob⟩) :
    execW wtEnv M tailA ⟨(3, .sl 276003 done.length 0 done.length) :: gs, (276003, ⟨3, done.map En.out⟩) :: ob⟩ K := by
  obtain ⟨g, k, d3, d4, di, n3, n4, ni, l3, o3, o4, oi, p3⟩ := hH
  have hs : ∀ xs : List (Nat × AV), get xs 2 = none → sortFPt 3 102 cfW ⟨(0, .sl 276003 done.length 0 done.length) :: (1, .ot (.fn 102)) :: xs, (276003, ⟨3, done.map En.out⟩) :: ob⟩ = some ([], (276003, ⟨3, (resF ltW (done.map En.w)).map rowI⟩) :: ob) := by
    intro xs h2
    have hr : rowsI 3 (done.map En.out) = some (done.map En.w) := rowsI_map 3 En.w (fun _ => rfl) done
    unfold sortFPt
    simp [h2, hr, lt_cfW, d3, show done.length < 4611686018427387904 by omega]
  unfold tailA
  rw [execW_ac]
  simp -implicitDefEqProofs (disch := first | omega | (simp <;> fail) | assumption) [wtEnv_pt, hs, g, k, acK_some]
  exact hK
theorem all_round (M : Nat) (b : Bool) (l done : List En) (mk z : Nat) (hH : AllH gs ob) (hl : done.length ≤ 200000) (hn : (l.map (·.b)).Nodup) (hmk : get ob mk = some ⟨z, l.map En.row⟩) (K : AX → St → Prop)
    (hEnd : (∀ e ∈ l, ∃ f ∈ done, f.b = e.b) → K (.ex 0) ⟨(3, .sl 276003 done.length 0 done.length) :: gs, (276003, ⟨3, done.map En.out⟩) :: ob⟩)
    (hNext : ∀ e ∈ l, (¬ ∃ f ∈ done, f.b = e.b) → ∀ s', nrmP [3, 10] 276000 277000 [276003, 2923003274661805836407369665432566039311865361962, 276021] s' = hdA true (done ++ [e]) mk z gs ob → K .norm s') :
    execW wtEnv M grid_Grid_All_l1b (hdA b done mk z gs ob) K := by
  obtain ⟨g, k, d3, d4, di, n3, n4, ni, l3, o3, o4, oi, p3⟩ := hH
  have q3 := get_of_del d3 hmk
  have q4 := get_of_del d4 hmk
  have qi := get_of_del di hmk
  have q3' := Ne.symm q3
  have q4' := Ne.symm q4
  have qi' := Ne.symm qi
  have a1 := fun k => nmRows_out k done
  have a2 := fun k => lcRows_out k done
  have a3 := fun k => nmRows_born k done
  have a4 := fun k => lcRows_born k done
  rw [grid_Grid_All_l1b_x, execW_seq]
  have hg1 : get (hdA b done mk z gs ob).fr 10 = some (.itr 2923003274661805836407369665432566039311865361962) := rfl
  have hg2 : get (hdA b done mk z gs ob).ob 2923003274661805836407369665432566039311865361962 = some ⟨z, [.mp mk, .c (.int .i64 z)] :: done.map En.born⟩ := by cases b <;> rfl
  have hg3 : get (hdA b done mk z gs ob).ob mk = some ⟨z, l.map En.row⟩ := by cases b <;> simp [hdA, Go.Am.get, q3, qi, hmk]
  simp only [execW, nextP, hg1, hg2, hg3]
  right
  refine ⟨mk, done.map En.born, ⟨z, l.map En.row⟩, rfl, hg3, rfl, fun hend => ?_, fun bb kk vv hm hc => ?_⟩
  · have hend' : ∀ e ∈ l, ∃ f ∈ done, f.b = e.b := fun e he => (came_born done e.b).1 (hend e.b _ _ (List.mem_map.2 ⟨e, he, rfl⟩))
    have hK := hEnd hend'
    refine ⟨_, rfl, ?_⟩
    rw [seqK_norm, execW_ac]
    cases b <;> simp -implicitDefEqProofs (disch := first | omega | (simp <;> fail) | assumption) [hdA, g, k, acK_some, d3, di] <;> exact hK
  · obtain ⟨e, he, rfl, rfl, rfl⟩ := row_mem hm
    have hf := find_born hn he
    have hno : ¬ ∃ f ∈ done, f.b = e.b := fun h => by rw [(came_born done e.b).2 h] at hc; simp at hc
    have hK := hNext e he hno
    refine ⟨rfl, rfl, _, rfl, ?_⟩
    rw [seqK_norm, execW_ac]
    cases b <;> simp -implicitDefEqProofs (disch := first | omega | (simp <;> fail) | assumption) [hdA, g, k, acK_some, d3, d4, di, hf, a1, a2, a3, a4, En.row, hmk, q3, q4, qi, q3', q4', qi', n3, n4, ni, l3, o3, o4, oi, p3]
    all_goals
      refine hK _ ?_
      simp -implicitDefEqProofs (disch := first | omega | (simp <;> fail) | assumption) [hdA, g, k, En.out, En.born]
/-- A map that is nil: no round. -/
theorem all_round0 (M : Nat) (hH : AllH gs ob) (K : AX → St → Prop) (hEnd : K (.ex 0) ⟨(3, .sl 276003 0 0 0) :: gs, (276003, ⟨3, []⟩) :: ob⟩) :
    execW wtEnv M grid_Grid_All_l1b ⟨(3, .sl 276003 0 0 0) :: (10, .itr 2923003274661805836407369665432566039311865361962) :: gs, (2923003274661805836407369665432566039311865361962, ⟨0, [[.ot .nm]]⟩) :: (276003, ⟨3, []⟩) :: ob⟩ K := by
  obtain ⟨g, k, d3, d4, di, n3, n4, ni, l3, o3, o4, oi, p3⟩ := hH
  rw [grid_Grid_All_l1b_x, execW_seq]
  have hg1 : get ((3, AV.sl 276003 0 0 0) :: (10, .itr 2923003274661805836407369665432566039311865361962) :: gs) 10 = some (.itr 2923003274661805836407369665432566039311865361962) := rfl
  have hg2 : get ((2923003274661805836407369665432566039311865361962, (⟨0, [[.ot .nm]]⟩ : Am.Obj)) :: (276003, ⟨3, []⟩) :: ob) 2923003274661805836407369665432566039311865361962 = some ⟨0, [[.ot .nm]]⟩ := rfl
  simp only [execW, nextP, hg1, hg2]
  left
  refine ⟨trivial, _, rfl, ?_⟩
  rw [seqK_norm, execW_ac]
  simp -implicitDefEqProofs (disch := first | omega | (simp <;> fail) | assumption) [g, k, acK_some, d3, di]
  exact hEnd
/-- The loop. -/
theorem all_loop (M : Nat) (l : List En) (mk z : Nat) (hH : AllH gs ob) (hl : l.length ≤ 200000) (hn : (l.map (·.b)).Nodup) (hmk : get ob mk = some ⟨z, l.map En.row⟩) (K : AX → St → Prop) (hM : 200000 < M)
    (hEnd : ∀ done : List En, done.Perm l → K (.ex 0) ⟨(3, .sl 276003 done.length 0 done.length) :: gs, (276003, ⟨3, done.map En.out⟩) :: ob⟩) (s : St) (hs : nrmP [3, 10] 276000 277000 [276003, 2923003274661805836407369665432566039311865361962, 276021] s = hdA false [] mk z gs ob) :
    lpW (execW wtEnv M grid_Grid_All_l1) M s K := by
  refine lpW_rule (f := execW wtEnv M grid_Grid_All_l1) (I := fun n s => ∃ b done rest, nrmP [3, 10] 276000 277000 [276003, 2923003274661805836407369665432566039311865361962, 276021] s = hdA b done mk z gs ob ∧ (done ++ rest).Perm l ∧ rest.length = n) (fun s K K' h => execW_mono _ h) ?_ l.length M s ⟨false, [], l, hs, .refl _, rfl⟩ (by omega)
  rintro n s ⟨b, done, rest, hs, hp, rfl⟩
  rw [grid_Grid_All_l1_x, execW_keepP, hs]
  have hlen := hp.length_eq
  rw [List.length_append] at hlen
  have hnd : ((done ++ rest).map (·.b)).Nodup := (hp.map (·.b)).nodup_iff.2 hn
  rw [List.map_append, List.nodup_append] at hnd
  refine all_round M b l done mk z hH (by omega) hn hmk _ (fun hend => ?_) (fun e he hno s' hs' => ?_)
  · have hr : rest = [] := by
      cases rest with
      | nil => rfl
      | cons r rest =>
        obtain ⟨f, hf, hb⟩ := hend r (hp.mem_iff.1 (by simp))
        exact absurd hb (hnd.2.2 _ (List.mem_map.2 ⟨f, hf, rfl⟩) _ (List.mem_map.2 ⟨r, by simp, rfl⟩))
    subst hr
    rw [List.append_nil] at hp
    exact hEnd done hp
  · have hm := hp.mem_iff.2 he
    rcases List.mem_append.1 hm with hm | hm
    · exact absurd ⟨e, hm, rfl⟩ hno
    · obtain ⟨r1, r2, rfl⟩ := List.append_of_mem hm
      refine ⟨(r1 ++ r2).length, by simp, true, done ++ [e], r1 ++ r2, hs', ?_, rfl⟩
      refine List.Perm.trans ?_ hp
      rw [List.append_assoc]
      exact List.Perm.append_left _ (by simpa using (List.perm_middle (a := e) (l₁ := r1) (l₂ := r2)).symm)
end
/-- What it answers is what it does. -/
theorem all_specP : SpecP Try.prog 86 allPt := by
  refine runW_sound (nm := fun f => if f = 306 then some 101 else none) (Γ := wtEnv) (fn := grid_Grid_All_f) (M := 200001) (wtEnv_ok rfl) (by decide +kernel) (by decide +kernel) allPt ?_
  intro fr ob rs ob' h
  unfold allPt at h
  split at h
  case h_2 => simp at h
  split at h
  case isFalse => simp at h
  rename_i l hl hc
  simp only [Option.some.injEq, Prod.mk.injEq] at h
  obtain ⟨rfl, rfl⟩ := h
  simp only [Bool.and_eq_true, allSide, decide_eq_true_eq] at hc
  obtain ⟨⟨⟨c1, c2⟩, c3⟩, ⟨⟨⟨⟨⟨⟨⟨c4, c5⟩, c6⟩, c7⟩, c8⟩, c9⟩, c10⟩, c11⟩⟩ := hc
  have hH : AllH (ghs fr) (keepF 276000 277000 [] ob) := ⟨ghs_gh fr, keepF_kf _ _ ob, keepF_del _ _ _ (by decide) (by decide) ob, keepF_del _ _ _ (by decide) (by decide) ob, keepF_del _ _ _ (by decide) (by decide) ob,
    nmFr_ghs _ _ c4, nmFr_ghs _ _ c5, nmFr_ghs _ _ c6, lcFr_ghs _ _ c7, c8, c9, c10, c11⟩
  unfold allEnts at hl
  split at hl
  case h_2 => simp at hl
  rename_i gk h0
  generalize hob : keepF 276000 277000 [] ob = ob0 at *
  have hgs : ∀ i, GB ≤ i → get (ghs fr) i = get fr i := fun i hi => by rw [get_ghs, if_pos hi]
  generalize hgg : ghs fr = gs at *
  have hend : ∀ done : List En, done.Perm l → EndW grid_Grid_All_f fr [.sl 276003 l.length 0 l.length] ((276003, ⟨3, (resF ltW (l.map En.w)).map rowI⟩) :: ob0) .ret ⟨(2, .sl 276003 done.length 0 done.length) :: gs, (276003, ⟨3, (resF ltW (done.map En.w)).map rowI⟩) :: ob0⟩ := by
    intro done hp
    rw [hp.length_eq, resF_eq_perm (by rw [← lt_cfW]; exact swo_cfW) (hp.map En.w) c3]
    refine ⟨.inr rfl, ?_, ?_, fun i hi => ?_⟩
    · simp
    · simp [hH.k]
    · have : ¬ 2 = i := by unfold GB at hi; omega
      simp only [Go.Am.get, if_neg this]; exact hgs i hi
  have hH' := hH
  obtain ⟨g, k, d3, d4, di, n3, n4, ni, l3, o3, o4, oi, p3⟩ := hH
  simp only [obA] at hl ⊢
  rw [hob] at hl ⊢
  generalize hKK : EndW grid_Grid_All_f fr [.sl 276003 l.length 0 l.length] ((276003, ⟨3, (resF ltW (l.map En.w)).map rowI⟩) :: ob0) = K at *
  show execW wtEnv 200001 grid_Grid_All_c _ _
  rw [grid_Grid_All_c_x]
  simp only at h0
  have hgk3 : ∀ {o : Am.Obj}, get ob0 gk = some o → ¬ 276003 = gk := fun h => get_of_del d3 h
  split at hl
  · rename_i hgk
    have q3 := hgk3 hgk
    have q5 := get_of_del di hgk
    have q5' := Ne.symm q5
    simp only [Option.some.injEq] at hl; subst hl
    simp -implicitDefEqProofs (disch := first | omega | (simp <;> fail) | assumption) [execW_seq, execW_ac, execW_keepP, execW_own, execW_block, acK_some, seqK_norm, h0, hgg, hob, g, k, hgk, q3, q5, q5', d3, d4, di, n3, n4, ni, l3, o3, o4, oi, p3]
    rw [execW_own wtEnv _ 3 276003 _ _ _ (sz := 3) rfl (by simp -implicitDefEqProofs (disch := first | omega | (simp <;> fail) | assumption) [n3, o3, d3, q3, Ne.symm q3])]
    simp -implicitDefEqProofs (disch := first | omega | (simp <;> fail) | assumption) [execW_seq, execW_ac, execW_keepP, execW_own, execW_block, acK_some, seqK_norm, h0, hgg, hob, g, k, hgk, q3, q5, q5', d3, d4, di, n3, n4, ni, l3, o3, o4, oi, p3, execW_loop]
    show lpW _ (200000 + 1) _ _
    rw [lpW]
    rw [grid_Grid_All_l1_x, execW_keepP]
    have hs : nrmP [3, 10] 276000 277000 [276003, 2923003274661805836407369665432566039311865361962, 276021] ⟨(3, AV.sl 276003 0 0 0) :: (10, .itr 2923003274661805836407369665432566039311865361962) :: gs, (2923003274661805836407369665432566039311865361962, ⟨0, [[.ot .nm]]⟩) :: (276003, ⟨3, []⟩) :: ob0⟩ = ⟨(3, AV.sl 276003 0 0 0) :: (10, .itr 2923003274661805836407369665432566039311865361962) :: gs, (2923003274661805836407369665432566039311865361962, ⟨0, [[.ot .nm]]⟩) :: (276003, ⟨3, []⟩) :: ob0⟩ := by simp [g, k]
    rw [hs]
    refine all_round0 _ hH' _ ?_
    show blkK 0 _ (.ex 0) _
    rw [blkK_ex, if_pos rfl, seqK_norm]
    exact all_tail _ [] hH' (by simp) K (hend [] (.refl _))
  · rename_i mk hgk
    have q3 := hgk3 hgk
    have q5 := get_of_del di hgk
    have q5' := Ne.symm q5
    split at hl
    · rename_i om hmk
      obtain ⟨z, rows⟩ := om
      have := gEnts_some hl
      simp only at this; subst this
      have qm := get_of_del d3 hmk
      have qi := get_of_del di hmk
      simp -implicitDefEqProofs (disch := first | omega | (simp <;> fail) | assumption) [execW_seq, execW_ac, execW_keepP, execW_own, execW_block, acK_some, seqK_norm, h0, hgg, hob, g, k, hgk, q3, q5, q5', d3, d4, di, n3, n4, ni, l3, o3, o4, oi, p3, hmk]
      rw [execW_own wtEnv _ 3 276003 _ _ _ (sz := 3) rfl (by simp -implicitDefEqProofs (disch := first | omega | (simp <;> fail) | assumption) [n3, o3, d3, q3, Ne.symm q3])]
      simp -implicitDefEqProofs (disch := first | omega | (simp <;> fail) | assumption) [execW_seq, execW_ac, execW_keepP, execW_own, execW_block, acK_some, seqK_norm, h0, hgg, hob, g, k, hgk, q3, q5, q5', d3, d4, di, n3, n4, ni, l3, o3, o4, oi, p3, hmk, qm, qi, Ne.symm qm, Ne.symm qi, execW_loop]
      refine all_loop 200001 l mk z hH' c2 (bornB_nodup c1) hmk _ (by omega) (fun done hp => ?_) _ (by simp [g, k, hdA])
      rw [blkK_ex, if_pos rfl, seqK_norm]
      exact all_tail _ done hH' (by have := hp.length_eq; omega) K (hend done hp)
    · simp at hl
  · simp at hl
end Go.Am
