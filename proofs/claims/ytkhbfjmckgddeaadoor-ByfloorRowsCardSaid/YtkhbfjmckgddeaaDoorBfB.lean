/- Law 70: rows by floors and directions: the loop over the map, the sort, what All answers. -/
import Derived.Test.YtkhbfjmckgddeaaDoorBfA
set_option linter.unusedVariables false
set_option linter.unusedSimpArgs false
set_option maxRecDepth 10000
set_option maxHeartbeats 1000000
namespace Go.Am
open Go.Proofs Go.Shelf Go.RowKit Go.Sort
/-! ### Plain: births and keys -/
structure EInv (q : List BE × Nat) : Prop where
  born : (q.1.map (·.b)).Nodup
  lt : ∀ e ∈ q.1, 0 ≤ e.b ∧ e.b < q.2
  key : (q.1.map fun e => (e.x, e.y)).Nodup
theorem bidx_none {x y : Int} : ∀ {es : List BE} {k : Nat}, bidx x y es k = none → ∀ e ∈ es, ¬ (e.x = x ∧ e.y = y)
  | [], _, _, e, he => by simp at he
  | a :: l, k, h, e, he => by
    simp only [bidx] at h
    split at h
    · simp at h
    · rename_i hh
      rcases List.mem_cons.1 he with rfl | he
      · exact fun hx => hh ⟨hx.1.symm, hx.2.symm⟩
      · exact bidx_none h e he
theorem map_set_same {β : Type} (f : BE → β) {es : List BE} {i : Nat} {e e' : BE} (h : es[i]? = some e) (hf : f e' = f e) : (es.take i ++ e' :: es.drop (i + 1)).map f = es.map f := by
  obtain ⟨hi, he⟩ := List.getElem?_eq_some_iff.1 h
  rw [List.map_append, List.map_cons, hf, ← he, ← List.map_cons, ← List.map_append, List.getElem_cons_drop, List.take_append_drop]
theorem BE.add_b (e : BE) (t : Trip) : (e.add t).b = e.b := by unfold BE.add; split <;> rfl
theorem BE.add_x (e : BE) (t : Trip) : (e.add t).x = e.x := by unfold BE.add; split <;> rfl
theorem BE.add_y (e : BE) (t : Trip) : (e.add t).y = e.y := by unfold BE.add; split <;> rfl
theorem addE_inv {q : List BE × Nat} (h : EInv q) (t : Trip) : EInv (addE q t) := by
  obtain ⟨h1, h2, h3⟩ := h
  unfold addE
  split
  · rename_i i e hi
    obtain ⟨-, -, hg, -⟩ := bidx_lt hi
    simp only [Nat.sub_zero] at hg
    refine ⟨?_, ?_, ?_⟩
    · simp only; rw [map_set_same (fun e : BE => e.b) hg (BE.add_b e t)]; exact h1
    · intro e' he
      simp only [List.mem_append, List.mem_cons] at he
      rcases he with he | rfl | he
      · exact h2 e' (List.mem_of_mem_take he)
      · rw [BE.add_b]; exact h2 e (List.mem_of_getElem? hg)
      · exact h2 e' (List.mem_of_mem_drop he)
    · simp only; rw [map_set_same (fun e : BE => (e.x, e.y)) hg (by rw [BE.add_x, BE.add_y])]; exact h3
  · rename_i hi
    have hn := bidx_none hi
    refine ⟨?_, ?_, ?_⟩
    · simp only [List.map_append, List.map_cons, List.map_nil]
      rw [List.nodup_append]
      refine ⟨h1, by simp, fun a ha b hb => ?_⟩
      rw [List.mem_singleton, BE.add_b] at hb
      obtain ⟨e, he, rfl⟩ := List.mem_map.1 ha
      have := h2 e he
      simp only at hb
      intro hh
      omega
    · intro e' he
      simp only [List.mem_append, List.mem_singleton] at he
      rcases he with he | rfl
      · have := h2 e' he; simp only; omega
      · rw [BE.add_b]; simp only; omega
    · simp only [List.map_append, List.map_cons, List.map_nil]
      rw [List.nodup_append]
      refine ⟨h3, by simp, fun a ha b hb => ?_⟩
      rw [List.mem_singleton, BE.add_x, BE.add_y] at hb
      obtain ⟨e, he, rfl⟩ := List.mem_map.1 ha
      rintro rfl
      have := hn e he
      simp only [Prod.mk.injEq] at hb
      exact this hb
theorem entsB_inv (l : List Trip) : EInv (entsB l) := by
  have key : ∀ k, k ≤ l.length → EInv (entsB (l.take k)) := by
    intro k
    induction k with
    | zero => intro _; simp only [List.take_zero, entsB, List.foldl_nil]; exact ⟨by simp, by simp, by simp⟩
    | succ k ih => intro hk; rw [entsB_snoc l k (by omega)]; exact addE_inv (ih (by omega)) _
  have := key l.length (Nat.le_refl _)
  rwa [List.take_length] at this
theorem nodup_map_inj {α β : Type} {f : α → β} : ∀ {l : List α}, (l.map f).Nodup → ∀ {a b : α}, a ∈ l → b ∈ l → f a = f b → a = b
  | [], _, a, b, ha, _, _ => by simp at ha
  | x :: l, h, a, b, ha, hb, he => by
    rw [List.map_cons, List.nodup_cons] at h
    rcases List.mem_cons.1 ha with h1 | h1
    · rcases List.mem_cons.1 hb with h2 | h2
      · rw [h1, h2]
      · exact absurd (List.mem_map.2 ⟨b, h2, by rw [← he, h1]⟩) h.1
    · rcases List.mem_cons.1 hb with h2 | h2
      · exact absurd (List.mem_map.2 ⟨a, h1, by rw [he, h2]⟩) h.1
      · exact nodup_map_inj h.2 h1 h2 he
theorem bw_noTies {es : List BE} (h : (es.map fun e => (e.x, e.y)).Nodup) : noTies ltB (es.map BE.w) = true := by
  unfold noTies
  rw [List.all_eq_true]
  intro a ha
  rw [List.all_eq_true]
  intro b hb
  obtain ⟨e, he, rfl⟩ := List.mem_map.1 ha
  obtain ⟨f, hf, rfl⟩ := List.mem_map.1 hb
  by_cases hk : e.x = f.x ∧ e.y = f.y
  · have : e = f := nodup_map_inj h he hf (by simp only [hk.1, hk.2])
    subst this
    simp
  · simp only [ltB, BE.w, List.getD_cons_zero, List.getD_cons_succ]
    rcases Int.lt_trichotomy e.x f.x with c | c | c
    · simp [c]
    · rcases Int.lt_trichotomy e.y f.y with d | d | d
      · simp [c, d]
      · exact absurd ⟨c, d⟩ hk
      · simp [c, d]
    · simp [c]
theorem noTies_permB {lt : List Int → List Int → Bool} {a b : List (List Int)} (hp : a.Perm b) (h : noTies lt b = true) : noTies lt a = true := by
  unfold noTies at *
  rw [List.all_eq_true] at *
  intro x hx
  have := h x (hp.mem_iff.1 hx)
  rw [List.all_eq_true] at *
  intro y hy
  exact this y (hp.mem_iff.1 hy)
theorem resF_permB {lt : List Int → List Int → Bool} (hO : SWO lt) {a b : List (List Int)} (hp : a.Perm b) (h : noTies lt b = true) : resF lt a = resF lt b := by
  have ha := noTies_permB hp h
  unfold resF
  rw [if_pos h, if_pos ha]
  refine sortedL_unique hO (srtL_sorted hO a) (srtL_sorted hO b) ((srtL_perm lt a).trans (hp.trans (srtL_perm lt b).symm)) fun x hx y hy h1 h2 => ?_
  unfold noTies at ha
  have := List.all_eq_true.1 (List.all_eq_true.1 ha x ((srtL_perm lt a).mem_iff.1 hx)) y ((srtL_perm lt a).mem_iff.1 hy)
  simpa [h1, h2] using this
theorem cameB (l : List BE) (b : Int) : came (l.map BE.born) b = true ↔ ∃ e ∈ l, e.b = b := by
  unfold came
  rw [List.any_map, List.any_eq_true]
  simp [BE.born]
theorem findB {l : List BE} (hn : (l.map (·.b)).Nodup) {e : BE} (he : e ∈ l) : (l.map BE.row).find? (hasBorn e.b) = some e.row := by
  induction l with
  | nil => simp at he
  | cons f l ih =>
    rw [List.map_cons, List.nodup_cons] at hn
    rw [List.map_cons, List.find?_cons]
    rcases List.mem_cons.1 he with rfl | he
    · simp [BE.row, hasBorn]
    · have : ¬ f.b = e.b := fun h => hn.1 (h ▸ List.mem_map.2 ⟨e, he, rfl⟩)
      have h0 : hasBorn e.b f.row = false := by simp [BE.row, hasBorn, this]
      rw [h0]; exact ih hn.2 he
theorem row_memB {l : List BE} {b : Int} {k v : AV} (h : [.c (.int .i64 b), k, v] ∈ l.map BE.row) : ∃ e ∈ l, b = e.b ∧ k = .agg [.int .i64 e.x, .int .i64 e.y] ∧ v = .agg e.cells := by
  obtain ⟨e, he, hr⟩ := List.mem_map.1 h
  simp only [BE.row, List.cons.injEq, AV.c.injEq, D.int.injEq, true_and, and_true] at hr
  exact ⟨e, he, hr.1.symm, hr.2.1.symm, hr.2.2.symm⟩
/-! ### The sort from outside -/
def bfX : Env := ⟨fun _ _ => none, fun f s => if f = 454 then sortFPt 6 fv_byfloor_All_1 cfB s else none, fun _ _ => none⟩
theorem bfX_pt : bfX.pt 454 = sortFPt 6 fv_byfloor_All_1 cfB := by funext s; simp [bfX]
theorem bfX_ok {nm : Nat → Option Nat} {T : Tab} (h : nm 454 = some 30) : XOk Tryd.prog nm T bfX where
  fn := fun f g _ _ F w ds vs rs _ _ h => by simp [bfX] at h
  pt := fun f g hg _ => by
    by_cases hf : f = 454
    · subst hf
      rw [h] at hg; simp only [Option.some.injEq] at hg; subst hg
      rw [bfX_pt]; exact sort_byf
    · have : bfX.pt f = fun _ => none := by funext s; simp [bfX, hf]
      rw [this]; exact SpecP.none
  mono := fun f s rs ob R hR h => by
    by_cases hf : f = 454
    · subst hf
      rw [bfX_pt] at h ⊢
      exact sortF_mono _ _ _ s rs ob R hR h
    · simp [bfX, hf] at h
/-! ### The walk: the loop over the map -/
/-- The state at a round's head. -/
def hdB (b : Bool) (l done : List BE) (z : Nat) : St :=
  ⟨[(9, .sl 9 done.length 0 done.length), (63, .itr 2923003274661805836407369665432566039311865086015)],
    if b then [(9, ⟨6, done.map BE.out⟩), (2923003274661805836407369665432566039311865086015, ⟨z, [.mp 1461501637330902918203684832716283019655932542988, .c (.int .i64 z)] :: done.map BE.born⟩), (1461501637330902918203684832716283019655932542988, ⟨z, l.map BE.row⟩)] else [(2923003274661805836407369665432566039311865086015, ⟨z, [.mp 1461501637330902918203684832716283019655932542988, .c (.int .i64 z)] :: done.map BE.born⟩), (9, ⟨6, done.map BE.out⟩), (1461501637330902918203684832716283019655932542988, ⟨z, l.map BE.row⟩)]⟩
theorem bf_tail (Γ : Env) (hΓ : Γ.pt 454 = sortFPt 6 fv_byfloor_All_1 cfB) (M : Nat) (done : List BE) (hl : done.length ≤ 1000) (ob : List (Nat × Obj)) (hob : keepF 0 1000 [9, 71] ob = [(9, ⟨6, done.map BE.out⟩)]) (K : AX → St → Prop)
    (hK : K .ret ⟨[(2, .sl 9 done.length 0 done.length)], [(9, ⟨6, (resF ltB (done.map BE.w)).map rowI⟩)]⟩) (fr : List (Nat × AV)) (hfr : get fr 9 = some (.sl 9 done.length 0 done.length)) (hgh : ghs fr = []) :
    execW Γ M (.ac (.keepP [9] 0 1000 [9, 71] (.seq (.reg byfloor_All_r20) (.keepP [9] 0 1000 [9, 71] (.seq (.reg byfloor_All_r21) (.keepP [2] 0 1000 [9, 71] (.ret))))))) ⟨fr, ob⟩ K := by
  have hs : ∀ xs : List (Nat × AV), get xs 2 = none → sortFPt 6 fv_byfloor_All_1 cfB ⟨(0, .sl 9 done.length 0 done.length) :: (1, .ot (.fn fv_byfloor_All_1)) :: xs, [(9, ⟨6, done.map BE.out⟩)]⟩ = some ([], [(9, ⟨6, (resF ltB (done.map BE.w)).map rowI⟩)]) := by
    intro xs h2
    have hr : rowsI 6 (done.map BE.out) = some (done.map BE.w) := rowsI_map 6 BE.w (fun _ => rfl) done
    unfold sortFPt
    simp [h2, hr, lt_cfB, show done.length < 4611686018427387904 by omega]
  rw [execW_ac]
  have hnr : nrmP [9] 0 1000 [9, 71] ⟨fr, ob⟩ = ⟨[(9, .sl 9 done.length 0 done.length)], [(9, ⟨6, done.map BE.out⟩)]⟩ := by
    simp [nrmP, hfr, hgh, hob]
  simp -implicitDefEqProofs (disch := first | omega | (simp <;> fail) | assumption) [exec_keepP, hnr, hΓ, hs, acK_some, hfr, hgh, hob]
  exact hK
theorem bf_round (Γ : Env) (M : Nat) (b : Bool) (l done : List BE) (z : Nat) (hl : done.length ≤ 1000) (hn : (l.map (·.b)).Nodup) (K : AX → St → Prop)
    (hEnd : (∀ e ∈ l, ∃ f ∈ done, f.b = e.b) → ∀ fr ob, get fr 9 = some (.sl 9 done.length 0 done.length) → ghs fr = [] → keepF 0 1000 [9, 71] ob = [(9, ⟨6, done.map BE.out⟩)] → K (.ex 2) ⟨fr, ob⟩)
    (hNext : ∀ e ∈ l, (¬ ∃ f ∈ done, f.b = e.b) → ∀ s', nrmP [9, 63] 0 1000 [9, 1461501637330902918203684832716283019655932542988, 2923003274661805836407369665432566039311865086015, 71] s' = hdB true l (done ++ [e]) z → K .norm s') :
    execW Γ M byfloor_All_l1b (hdB b l done z) K := by
  have a1 := fun k => nmRows_bo k done
  have a2 := fun k => lcRows_bo k done
  have a3 := fun k => nmRows_bb k done
  have a4 := fun k => lcRows_bb k done
  have a5 := fun k => nmRows_b k l
  have a6 := fun k => lcRows_b k l
  rw [byfloor_All_l1b_x, execW_seq]
  have hg1 : get (hdB b l done z).fr 63 = some (.itr 2923003274661805836407369665432566039311865086015) := rfl
  have hg2 : get (hdB b l done z).ob 2923003274661805836407369665432566039311865086015 = some ⟨z, [.mp 1461501637330902918203684832716283019655932542988, .c (.int .i64 z)] :: done.map BE.born⟩ := by cases b <;> rfl
  have hg3 : get (hdB b l done z).ob 1461501637330902918203684832716283019655932542988 = some ⟨z, l.map BE.row⟩ := by cases b <;> rfl
  simp only [execW, nextP, hg1, hg2, hg3]
  right
  refine ⟨1461501637330902918203684832716283019655932542988, done.map BE.born, ⟨z, l.map BE.row⟩, rfl, hg3, rfl, fun hend => ?_, fun bb kk vv hm hc => ?_⟩
  · have hend' : ∀ e ∈ l, ∃ f ∈ done, f.b = e.b := fun e he => (cameB done e.b).1 (hend e.b _ _ (List.mem_map.2 ⟨e, he, rfl⟩))
    have hK := hEnd hend'
    refine ⟨_, rfl, ?_⟩
    rw [seqK_norm, execW_ac]
    cases b <;> simp -implicitDefEqProofs (disch := first | omega | (simp <;> fail) | assumption) [hdB, acK_some] <;> exact hK _ _ (by simp) (by simp) (by simp)
  · obtain ⟨e, he, rfl, rfl, rfl⟩ := row_memB hm
    have hf := findB hn he
    have hno : ¬ ∃ f ∈ done, f.b = e.b := fun h => by rw [(cameB done e.b).2 h] at hc; simp at hc
    have hK := hNext e he hno
    refine ⟨rfl, rfl, _, rfl, ?_⟩
    rw [seqK_norm, execW_ac]
    cases b <;> simp -implicitDefEqProofs (disch := first | omega | (simp [a1, a2, a3, a4, a5, a6] <;> fail) | assumption) [hdB, acK_some, hf, a1, a2, a3, a4, a5, a6, BE.row, BE.cells]
    all_goals
      refine hK _ ?_
      simp -implicitDefEqProofs (disch := first | omega | (simp <;> fail) | assumption) [hdB, BE.out, BE.born, rowI, BE.w]
theorem bf_loop (Γ : Env) (N M : Nat) (l : List BE) (z : Nat) (hl : l.length ≤ 1000) (hn : (l.map (·.b)).Nodup) (K : AX → St → Prop) (hM : 1000 < M)
    (hEnd : ∀ done : List BE, done.Perm l → ∀ fr ob, get fr 9 = some (.sl 9 done.length 0 done.length) → ghs fr = [] → keepF 0 1000 [9, 71] ob = [(9, ⟨6, done.map BE.out⟩)] → K (.ex 2) ⟨fr, ob⟩)
    (s : St) (hs : nrmP [9, 63] 0 1000 [9, 1461501637330902918203684832716283019655932542988, 2923003274661805836407369665432566039311865086015, 71] s = hdB false l [] z) :
    lpW (execW Γ N byfloor_All_l1) M s K := by
  refine lpW_rule (f := execW Γ N byfloor_All_l1) (I := fun n s => ∃ b done rest, nrmP [9, 63] 0 1000 [9, 1461501637330902918203684832716283019655932542988, 2923003274661805836407369665432566039311865086015, 71] s = hdB b l done z ∧ (done ++ rest).Perm l ∧ rest.length = n) (fun s K K' h => execW_mono _ h) ?_ l.length M s ⟨false, [], l, hs, .refl _, rfl⟩ (by omega)
  rintro n s ⟨b, done, rest, hs, hp, rfl⟩
  rw [byfloor_All_l1_x, execW_keepP, hs]
  have hlen := hp.length_eq
  rw [List.length_append] at hlen
  have hnd : ((done ++ rest).map (·.b)).Nodup := (hp.map (·.b)).nodup_iff.2 hn
  rw [List.map_append, List.nodup_append] at hnd
  refine bf_round Γ N b l done z (by omega) hn _ (fun hend fr ob h9 hg hk => ?_) (fun e he hno s' hs' => ?_)
  · have hr : rest = [] := by
      cases rest with
      | nil => rfl
      | cons r rest =>
        obtain ⟨f, hf, hb⟩ := hend r (hp.mem_iff.1 (by simp))
        exact absurd hb (hnd.2.2 _ (List.mem_map.2 ⟨f, hf, rfl⟩) _ (List.mem_map.2 ⟨r, by simp, rfl⟩))
    subst hr
    rw [List.append_nil] at hp
    exact hEnd done hp fr ob h9 hg hk
  · have hm := hp.mem_iff.2 he
    rcases List.mem_append.1 hm with hm | hm
    · exact absurd ⟨e, hm, rfl⟩ hno
    · obtain ⟨r1, r2, rfl⟩ := List.append_of_mem hm
      refine ⟨(r1 ++ r2).length, by simp, true, done ++ [e], r1 ++ r2, hs', ?_, rfl⟩
      refine List.Perm.trans ?_ hp
      rw [List.append_assoc]
      exact List.Perm.append_left _ (by simpa using (List.perm_middle (a := e) (l₁ := r1) (l₂ := r2)).symm)
/-! ### What it answers -/
def rowsA (l : List Trip) : List (List Int) := resF ltB ((entsB l).1.map BE.w)
def zD (z : List Int) : List D := z.map fun n => .int .i64 n
abbrev vRB (rs : List (List Int)) : AV := .c (.vs 6 (rs.map zD))
def tripOf : List D → Option Trip
  | [.int .i64 a, .int .i64 b, .int .i64 c, .int .i64 d, .int .i64 e, .int .i64 f, .int .i64 g] => some ⟨a, b, c, d, e, f, g⟩
  | _ => none
def tripsOf : List (List D) → Option (List Trip)
  | [] => some []
  | r :: rs => match tripOf r, tripsOf rs with
    | some t, some l => some (t :: l)
    | _, _ => none
theorem tripsOf_map : ∀ l : List Trip, tripsOf (l.map Trip.cells) = some l
  | [] => rfl
  | t :: l => by simp only [List.map_cons, tripsOf, tripsOf_map l, Trip.cells, tripOf]
theorem tripsOf_some : ∀ {r : List (List D)} {l : List Trip}, tripsOf r = some l → r = l.map Trip.cells
  | [], l, h => by simp only [tripsOf, Option.some.injEq] at h; subst h; rfl
  | x :: r, l, h => by
    unfold tripsOf at h
    split at h
    · rename_i e l' h1 h2
      simp only [Option.some.injEq] at h; subst h
      rw [tripsOf_some h2, List.map_cons]
      congr 1
      unfold tripOf at h1
      split at h1
      · simp only [Option.some.injEq] at h1; subst h1; rfl
      · simp at h1
    · simp at h
def tbB (t : Trip) : Bool := decide (0 ≤ t.frm) && decide (t.frm ≤ 127) && decide (0 ≤ t.to) && decide (t.to ≤ 127) && decide (-1 ≤ t.arrive) && decide (t.arrive ≤ 1073741824) && decide (-1 ≤ t.board) && decide (t.board ≤ 1073741824) && (decide (t.board < 0) || decide (t.arrive ≤ t.board))
theorem tbB_ok {t : Trip} : tbB t = true ↔ Tb t := by
  unfold tbB
  simp only [Bool.and_eq_true, Bool.or_eq_true, decide_eq_true_eq]
  constructor
  · rintro ⟨⟨⟨⟨⟨⟨⟨⟨h1, h2⟩, h3⟩, h4⟩, h5⟩, h6⟩, h7⟩, h8⟩, h9⟩
    exact ⟨⟨h1, h2⟩, ⟨h3, h4⟩, ⟨h5, h6⟩, ⟨h7, h8⟩, fun h => by omega⟩
  · rintro ⟨⟨h1, h2⟩, ⟨h3, h4⟩, ⟨h5, h6⟩, ⟨h7, h8⟩, h9⟩
    exact ⟨⟨⟨⟨⟨⟨⟨⟨h1, h2⟩, h3⟩, h4⟩, h5⟩, h6⟩, h7⟩, h8⟩, by by_cases h : t.board < 0; exact .inl h; exact .inr (h9 (by omega))⟩
def allS (ds : List AV) : Option (List AV) := match ds with
  | [.c (.vs 7 rows)] => match tripsOf rows with
    | some l => if (decide (l.length ≤ 100) && l.all tbB) = true then some [vRB (rowsA l)] else none
    | none => none
  | _ => none
theorem allS_some {ds rs : List AV} (h : allS ds = some rs) : ∃ l : List Trip, ds = [vTb l] ∧ l.length ≤ 100 ∧ (∀ t ∈ l, Tb t) ∧ rs = [vRB (rowsA l)] := by
  unfold allS at h
  split at h
  case h_2 => simp at h
  split at h
  case h_2 => simp at h
  rename_i l hl
  split at h
  case isFalse => simp at h
  rename_i hc
  simp only [Bool.and_eq_true, decide_eq_true_eq, List.all_eq_true] at hc
  simp only [Option.some.injEq] at h
  rw [tripsOf_some hl]
  exact ⟨l, rfl, hc.1, fun t ht => tbB_ok.1 (hc.2 t ht), h.symm⟩
def AllC (g : List AV → Option (List AV)) : Prop := ∀ l : List Trip, l.length ≤ 100 → (∀ t ∈ l, Tb t) → g [vTb l] = some [vRB (rowsA l)]
theorem allS_C : AllC allS := by
  intro l hl ht
  have : (decide (l.length ≤ 100) && l.all tbB) = true := by
    rw [Bool.and_eq_true, List.all_eq_true]
    exact ⟨decide_eq_true hl, fun t h => tbB_ok.2 (ht t h)⟩
  simp only [allS, vTb, tripsOf_map, this, if_true]
theorem entsB_len (l : List Trip) : (entsB l).1.length ≤ l.length ∧ (entsB l).2 ≤ l.length := by
  have key : ∀ k, k ≤ l.length → (entsB (l.take k)).1.length ≤ k ∧ (entsB (l.take k)).2 ≤ k := by
    intro k
    induction k with
    | zero => intro _; simp [entsB]
    | succ k ih =>
      intro hk
      rw [entsB_snoc l k (by omega)]
      have := ih (by omega)
      unfold addE
      split
      · rename_i i e hi
        obtain ⟨-, h2, -⟩ := bidx_lt hi
        simp only [List.length_append, List.length_take, List.length_cons, List.length_drop]
        omega
      · simp only [List.length_append, List.length_singleton]; omega
  have := key l.length (Nat.le_refl _)
  rwa [List.take_length] at this
theorem all_walk (Γ : Env) (hΓ : Γ.pt 454 = sortFPt 6 fv_byfloor_All_1 cfB) (M : Nat) (hM : 2000 < M) (hD : PDirC (Γ 173)) (l : List Trip) (hn : l.length ≤ 100) (hl : ∀ t ∈ l, Tb t) :
    execW Γ M byfloor_All_f.body ⟨args 0 [vTb l], []⟩ (EndD byfloor_All_f [vRB (rowsA l)]) := by
  obtain ⟨n1, n2⟩ := entsB_len l
  obtain ⟨b1, b2, b3⟩ := entsB_inv l
  have hmap := map_loop Γ M M (by omega) hD l hn hl
  have hend : ∀ done : List BE, done.Perm (entsB l).1 → EndD byfloor_All_f [vRB (rowsA l)] .ret ⟨[(2, .sl 9 done.length 0 done.length)], [(9, ⟨6, (resF ltB (done.map BE.w)).map rowI⟩)]⟩ := by
    intro done hp
    have hr : resF ltB (done.map BE.w) = rowsA l := resF_permB (by rw [← lt_cfB]; exact swo_cfB) (hp.map BE.w) (bw_noTies b3)
    rw [hr]
    have hrl : (rowsA l).length = done.length := by
      rw [← hr, ← (resF_perm (by rw [← lt_cfB]; exact swo_cfB) (done.map BE.w)).length_eq.symm, List.length_map]
    refine ⟨.inr rfl, [.sl 9 done.length 0 done.length], by simp [byfloor_All_f], ?_⟩
    have ha := allRows_comp zD (rowsA l)
    rw [show (rowsA l).map (toAV ∘ zD) = (rowsA l).map rowI from List.map_congr_left fun z _ => by simp [zD, toAV, rowI]] at ha
    have hF2 : ((rowsA l).map zD).take done.length = (rowsA l).map zD := by rw [List.take_of_length_le]; rw [List.length_map]; omega
    have hrl2 : ((rowsA l).map rowI).length = done.length := by rw [List.length_map, hrl]
    simp only [vRB]
    generalize (rowsA l).map rowI = G at *
    generalize (rowsA l).map zD = X at *
    simp -implicitDefEqProofs (disch := first | omega | assumption) [ha, hF2, hrl2]
  obtain ⟨⟨es, z⟩, hq⟩ : ∃ q, entsB l = q := ⟨_, rfl⟩
  rw [hq] at hmap hend n1 n2 b1 b2 b3
  simp only at hmap hend n1 n2 b1 b2 b3
  generalize hKK : EndD byfloor_All_f [vRB (rowsA l)] = K at *
  show execW Γ M byfloor_All_c _ _
  rw [byfloor_All_c_x]
  have hlp := hmap ⟨[(3, .mp 1461501637330902918203684832716283019655932542988), (13, vTb l), (14, i64 l.length), (15, i64 0)], [(1461501637330902918203684832716283019655932542988, ⟨0, []⟩)]⟩ (by simp)
  have a5 := fun k => nmRows_b k es
  have a6 := fun k => lcRows_b k es
  simp -implicitDefEqProofs (disch := first | omega | (simp <;> fail) | assumption) [execW_seq, execW_ac, execW_keepP, execW_own, execW_block, acK_some, seqK_norm, hlp, a5, a6]
  rw [execW_own Γ _ 9 9 _ _ _ (sz := 6) rfl (by simp -implicitDefEqProofs (disch := first | omega | (simp <;> fail) | assumption) [a5, a6])]
  simp -implicitDefEqProofs (disch := first | omega | (simp <;> fail) | assumption) [execW_seq, execW_ac, execW_keepP, execW_own, execW_block, acK_some, seqK_norm, a5, a6, execW_loop]
  refine bf_loop Γ M M es z (by omega) b1 _ (by omega) (fun done hp fr ob h9 hg hk => ?_) _ (by simp [hdB])
  rw [blkK_ex, if_pos rfl, seqK_norm]
  exact bf_tail Γ hΓ M done (by have := hp.length_eq; omega) ob hk K (hend done hp) fr h9 hg
/-! ### As a function from outside -/
abbrev bfT : Tab := [(173, place_Dir_f, 2), (178, place_Sign_f, 1)]
def SignC (g : List AV → Option (List AV)) : Prop := ∀ n : Int, -127 ≤ n → n ≤ 127 → g [i64 n] = some [i64 (if n < 0 then -1 else if 0 < n then 1 else 0)]
theorem place_Sign_run (Γ : Env) (M : Nat) : SignC (run Γ M place_Sign_f) := by
  intro n h1 h2
  by_cases c1 : n < 0
  · simp -implicitDefEqProofs (disch := omega) [c1]
  · by_cases c2 : 0 < n
    · simp -implicitDefEqProofs (disch := omega) [c1, c2]
    · simp -implicitDefEqProofs (disch := omega) [c1, c2]
theorem place_Dir_run {Γ : Env} {M : Nat} (h : SignC (Γ 178)) : PDirC (run Γ M place_Dir_f) := by
  intro a b h1 h2 h3 h4
  have e := h (b - a) (by omega) (by omega)
  by_cases c1 : a < b
  · rw [if_neg (by omega), if_pos (by omega)] at e
    simp -implicitDefEqProofs (disch := omega) [e, c1]
  · by_cases c2 : b < a
    · rw [if_pos (by omega)] at e
      simp -implicitDefEqProofs (disch := omega) [e, c1, c2]
    · rw [if_neg (by omega), if_neg (by omega)] at e
      simp -implicitDefEqProofs (disch := omega) [e, c1, c2]
def bfE : Env := env bfT [] bfX 100 2
theorem bfE_dir : PDirC (bfE 173) := by
  have h1 : SignC (env bfT [] bfX 100 1 178) := by
    intro n h1 h2; rw [env_run rfl rfl]; exact place_Sign_run _ _ n h1 h2
  intro a b h2 h3 h4 h5
  unfold bfE
  rw [env_run rfl rfl]
  exact place_Dir_run h1 a b h2 h3 h4 h5
theorem bfE_pt : bfE.pt 454 = sortFPt 6 fv_byfloor_All_1 cfB := by
  rw [← bfX_pt]
  funext s
  simp [bfE, env, envPt, get]
end Go.Am
