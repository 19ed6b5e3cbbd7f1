/- The pair that a word means, of any grid that is there. -/
import Derived.Test.YtkigddhdbnganaaArY
set_option linter.unusedVariables false
set_option linter.unusedSimpArgs false
set_option maxRecDepth 10000
set_option maxHeartbeats 1000000
namespace Go.Am
abbrev Hi (k : Nat) : Prop := 1000000 ≤ k % KT
theorem hi_ne' {k : Nat} (h : Hi k) {j : Nat} (hj : j % KT < 1000000) : ¬ k = j ∧ ¬ j = k := by
  unfold Hi at h
  exact ⟨fun e => by rw [e] at h; omega, fun e => by rw [← e] at h; omega⟩
theorem hi_ne {k : Nat} (h : Hi k) {j : Nat} (hj : j < 1000000) : ¬ k = j ∧ ¬ j = k := hi_ne' h (Nat.lt_of_le_of_lt (Nat.mod_le j KT) hj)
theorem allPt_at {fr : List (Nat × AV)} {ob : List (Nat × Obj)} {gk mk z : Nat} {es : List En} (h0 : get fr 0 = some (.loc gk 0 0)) (hb : bornB es = true) (hl : es.length ≤ 200000) (ht : noTies ltW (es.map En.w) = true)
    (hg : get (keepF 276000 277000 [] ob) gk = some ⟨1, [[.mp mk]]⟩) (hm : get (keepF 276000 277000 [] ob) mk = some ⟨z, es.map En.row⟩)
    (hs : allSide ⟨fr, ob⟩ = true) : allPt ⟨fr, ob⟩ = some ([.sl 276003 es.length 0 es.length], (276003, ⟨3, (resF ltW (es.map En.w)).map rowI⟩) :: keepF 276000 277000 [] ob) := by
  have he : allEnts ⟨fr, ob⟩ = some es := by
    unfold allEnts
    simp only [h0, obA, hg, hm, gEnts_map]
  unfold allPt
  rw [he]
  simp only [hb, ht, hs, hl, decide_true, Bool.and_self, if_true, obA]
structure GrAt (gk mk : Nat) (L : List W3) (ob : List (Nat × Obj)) : Prop where
  g : get ob gk = some ⟨1, [[.mp mk]]⟩
  m : get ob mk = some ⟨L.length, (enL 0 L).map En.row⟩
  hg : Hi gk
  hm : Hi mk
theorem grAt_cons {gk mk k : Nat} {o : Obj} {L : List W3} {ob : List (Nat × Obj)} (h : GrAt gk mk L ob) (hk : k < 1000000) : GrAt gk mk L ((k, o) :: ob) := by
  have h1 := hi_ne h.hg hk
  have h2 := hi_ne h.hm hk
  exact ⟨by simp only [Go.Am.get, if_neg h1.2]; exact h.g, by simp only [Go.Am.get, if_neg h2.2]; exact h.m, h.hg, h.hm⟩
theorem grAt_keep {gk mk lo hi : Nat} {os : List Nat} {L : List W3} {ob : List (Nat × Obj)} (h : GrAt gk mk L ob) (hh : hi ≤ 1000000) : GrAt gk mk L (keepF lo hi os ob) :=
  ⟨by rw [get_keepO (.inr (by have := h.hg; unfold Hi at this; omega))]; exact h.g, by rw [get_keepO (.inr (by have := h.hm; unfold Hi at this; omega))]; exact h.m, h.hg, h.hm⟩
theorem grAt_del {gk mk k : Nat} {L : List W3} {ob : List (Nat × Obj)} (h : GrAt gk mk L ob) (hk : k < 1000000) : GrAt gk mk L (del ob k) := by
  have h1 := hi_ne h.hg hk
  have h2 := hi_ne h.hm hk
  exact ⟨by rw [get_del, if_neg h1.1]; exact h.g, by rw [get_del, if_neg h2.1]; exact h.m, h.hg, h.hm⟩
structure OfF (gs : List (Nat × AV)) : Prop where
  g : Gh gs
  n3 : nmFr 276003 gs = true
  n4 : nmFr 276004 gs = true
  ni : nmFr 2923003274661805836407369665432566039311865361962 gs = true
  o4 : nmFr 286004 gs = true
  o7 : nmFr 286007 gs = true
  o9 : nmFr 286009 gs = true
structure OfB (ob : List (Nat × Obj)) : Prop where
  k : Kf 286000 287000 ob
  n3 : nmOb 276003 ob = true
  n4 : nmOb 276004 ob = true
  ni : nmOb 2923003274661805836407369665432566039311865361962 ob = true
  o4 : nmOb 286004 ob = true
  o7 : nmOb 286007 ob = true
  o9 : nmOb 286009 ob = true
def OfG (g : St → Option (List AV × List (Nat × Obj))) : Prop := ∀ gk mk (L : List W3) (w : Int) gs ob, Lex L → L.length ≤ 20000 → Int64s (L.map (·.2.2)) → 0 ≤ w → w ≤ 4294967295 → OfF gs → OfB ob → GrAt gk mk L ob →
  g ⟨(0, .loc gk 0 0) :: (1, u32 w) :: gs, ob⟩ = some ([.agg (ansP w L).1, i64 (ansP w L).2], (276003, ⟨3, L.map out3⟩) :: keepF 276000 277000 [] ob)
theorem demand_OfG_run (Γ : Env) (M : Nat) (hM : 100000 < M) (hA : Γ.pt 276 = allPt) (hP : PickC (Γ 307)) : OfG (runP Γ M demand_Of_f) := by
  intro gk mk L w gs ob hLx hLl hi hw1 hw2 hF hB hG
  have hpk := hP w _ hw1 hw2 hi (by rw [List.length_map]; omega)
  rw [nsV_map] at hpk
  obtain ⟨hgk5, hgk5'⟩ := hi_ne hG.hg (j := 286004) (by decide)
  obtain ⟨hgk3, _⟩ := hi_ne hG.hg (j := 276003) (by decide)
  obtain ⟨hgk4, _⟩ := hi_ne hG.hg (j := 276004) (by decide)
  obtain ⟨hgki, _⟩ := hi_ne' hG.hg (j := 2923003274661805836407369665432566039311865361962) (by decide)
  have hG1 := grAt_keep (lo := 276000) (hi := 277000) (os := []) hG (by decide)
  obtain ⟨g, n3, n4, ni, o4, o7, o9⟩ := hF
  have l3 := lcFr_nm n3
  have l7 := lcFr_nm o7
  obtain ⟨k2, b3, b4, bi, c4, c7, c9⟩ := hB
  have kk := kf_kept 276000 277000 ob
  have d0 := del_kf (k := 286004) k2 (by decide) (by decide)
  have k2' := kf_keep (a := 276000) (b := 277000) (os := []) k2
  have z1 := del_kf (k := 286004) k2' (by decide) (by decide)
  have z2 := del_kf (k := 286007) k2' (by decide) (by decide)
  have z3 := del_kf (k := 286009) k2' (by decide) (by decide)
  have z4 := del_kf (k := 276003) kk (by decide) (by decide)
  have b3' := nmOb_keep (lo := 276000) (hi := 277000) (os := []) b3
  have b4' := nmOb_keep (lo := 276000) (hi := 277000) (os := []) b4
  have bi' := nmOb_keep (lo := 276000) (hi := 277000) (os := []) bi
  have c4' := nmOb_keep (lo := 276000) (hi := 277000) (os := []) c4
  have c7' := nmOb_keep (lo := 276000) (hi := 277000) (os := []) c7
  have c9' := nmOb_keep (lo := 276000) (hi := 277000) (os := []) c9
  have b3l := lcOb_nm b3'
  have c7l := lcOb_nm c7'
  have e0 : ∀ fr : List (Nat × AV), get fr 0 = some (.loc gk 0 0) → nmFr 276003 fr = true → nmFr 276004 fr = true → nmFr 2923003274661805836407369665432566039311865361962 fr = true → lcFr 276003 fr = true →
      allPt ⟨fr, (286004, ⟨2, [[.c (.int .i64 0), .c (.int .i64 0)]]⟩) :: ob⟩ = some ([.sl 276003 L.length 0 L.length], (276003, ⟨3, L.map out3⟩) :: (286004, ⟨2, [[.c (.int .i64 0), .c (.int .i64 0)]]⟩) :: keepF 276000 277000 [] ob) := by
    intro fr h0 m3 m4 mi ml
    have hk : keepF 276000 277000 [] ((286004, (⟨2, [[.c (.int .i64 0), .c (.int .i64 0)]]⟩ : Obj)) :: ob) = (286004, ⟨2, [[.c (.int .i64 0), .c (.int .i64 0)]]⟩) :: keepF 276000 277000 [] ob := by
      simp only [keepF]; rw [if_pos (by decide)]
    have hGc := grAt_cons (k := 286004) (o := ⟨2, [[.c (.int .i64 0), .c (.int .i64 0)]]⟩) hG1 (by decide)
    have := allPt_at (es := enL 0 L) (ob := (286004, ⟨2, [[.c (.int .i64 0), .c (.int .i64 0)]]⟩) :: ob) h0 (bornB_enL L 0) (by rw [enL_length]; omega) (by rw [enL_w]; exact lex_noTies hLx) (by rw [hk]; exact hGc.g) (by rw [hk]; exact hGc.m) (by
      simp only [allSide, obA, hk, m3, m4, mi, ml, nmOb, lcOb, b3', b4', bi', b3l, Bool.and_true]; rfl)
    rw [this, enL_length, enL_w, lex_resF hLx, hk, List.map_map]; rfl
  have hgm : gk = gk := rfl
  generalize hob : keepF 276000 277000 [] ob = ob1 at *
  have y1 := fun k => nmRows_out3 k L
  have y2 := fun k => lcRows_out3 k L
  obtain ⟨ax, s', ⟨rfl, rfl⟩, hin⟩ : ∃ ax s', (ax = .ex 0 ∧ s' = ⟨[(1, u32 w), (4, .loc 286004 0 0), (6, .sl 276003 L.length 0 L.length), (7, .sl 286007 L.length 0 L.length)] ++ gs, (286007, ⟨1, L.map (toAV ∘ cN)⟩) :: (276003, ⟨3, L.map out3⟩) :: (286004, ⟨2, [[.c (.int .i64 0), .c (.int .i64 0)]]⟩) :: ob1⟩) ∧ ∀ s0, nrmP [1, 4, 6, 7, 14, 15, 16] 286000 287000 [286004, 286007, 286024] s0 = ⟨[(1, u32 w), (4, .loc 286004 0 0), (6, .sl 276003 L.length 0 L.length), (7, .sl 286007 0 0 0), (14, .sl 276003 L.length 0 L.length), (15, i64 L.length), (16, i64 (0 : Nat))] ++ gs, (286007, ⟨1, (L.take 0).map (toAV ∘ cN)⟩) :: (276003, ⟨3, L.map out3⟩) :: (286004, ⟨2, [[.c (.int .i64 0), .c (.int .i64 0)]]⟩) :: ob1⟩ → lp (exec Γ M demand_Of_l1) M s0 = some (ax, s') := by
    refine lp_allP (fun q : Nat => ⟨[(1, u32 w), (4, .loc 286004 0 0), (6, .sl 276003 L.length 0 L.length), (7, .sl 286007 q 0 q), (14, .sl 276003 L.length 0 L.length), (15, i64 L.length), (16, i64 q)] ++ gs, (286007, ⟨1, (L.take q).map (toAV ∘ cN)⟩) :: (276003, ⟨3, L.map out3⟩) :: (286004, ⟨2, [[.c (.int .i64 0), .c (.int .i64 0)]]⟩) :: ob1⟩) (fun q => q ≤ L.length) (fun q => L.length - q) _ 0 M (by omega) (by omega) ?_
    intro k hk
    by_cases hlt : k < L.length
    · obtain ⟨⟨a, b, n⟩, hm⟩ : ∃ m, L[k] = m := ⟨_, rfl⟩
      have hrow : (L.map out3)[k]? = some [i64 a, i64 b, i64 n] := by simp [hlt, hm, out3]
      have htl : (L.take k).length = k := by rw [List.length_take]; omega
      have htk : (L.take (k + 1)).map (toAV ∘ cN) = (L.take k).map (toAV ∘ cN) ++ [[i64 n]] := by
        rw [List.take_succ_eq_append_getElem hlt, List.map_append, hm]; rfl
      generalize hT : L.take k = T at *
      simp -implicitDefEqProofs (disch := first | omega | (simp [g, y1, y2, o9, l7, c9', c7l] <;> fail) | assumption) [hlt, g, k2', hrow, y1, y2, o9, l7, c9', c7l, z1, z2, z3, z4, out3, hm, htl]
      exact ⟨k + 1, by rw [← List.map_take, htk]; simp, by omega, by omega⟩
    · obtain rfl : k = L.length := by omega
      simp -implicitDefEqProofs (disch := first | omega | (simp <;> fail) | assumption) [g, k2']
  have hin2 := hin ⟨[(1, u32 w), (4, .loc 286004 0 0), (6, .sl 276003 L.length 0 L.length), (7, .sl 286007 0 0 0), (14, .sl 276003 L.length 0 L.length), (15, i64 L.length), (16, .c (.int .i64 0))] ++ gs, (286007, ⟨1, []⟩) :: (276003, ⟨3, L.map out3⟩) :: (286004, ⟨2, [[.c (.int .i64 0), .c (.int .i64 0)]]⟩) :: ob1⟩ (by
    simp -implicitDefEqProofs (disch := first | omega | (simp <;> fail) | assumption) [g, k2'])
  simp only [List.cons_append, List.nil_append] at hin2
  have htc : List.take L.length (L.map cN) = L.map cN := List.take_of_length_le (by simp)
  by_cases he : (pickF w (L.map (·.2.2))).2 = 0
  · obtain ⟨k, hk, hlt⟩ := pickF_lt he
    rw [List.length_map] at hlt
    obtain ⟨⟨a, b, n⟩, hm⟩ : ∃ m, L[k] = m := ⟨_, rfl⟩
    have ha : ansP w L = ([.int .i64 a, .int .i64 b], 0) := by
      unfold ansP
      rw [if_neg (by simp [he]), hk, Int.toNat_natCast, List.getElem?_eq_getElem hlt, hm]
    have hrow : (L.map out3)[k]? = some [i64 a, i64 b, i64 n] := by simp [hlt, hm, out3]
    rw [hk, he] at hpk
    rw [ha]
    simp -implicitDefEqProofs (disch := first | omega | (simp [g, n3, n4, ni, l3, o4, o7, o9, l7, y1, y2, c4, c4', c7', c9', c7l, hgk5, hgk5', hgk3, hgk4, hgki] <;> fail) | assumption) [g, k2, k2', hA, e0, hin2, d0, z1, z2, z3, z4, hpk, htc, hrow, hlt, hm, out3, y1, y2, c4, c4', c7', c9', c7l, o4, o7, o9, l7, hgk5, hgk5']
  · have ha : ansP w L = ([.int .i64 0, .int .i64 0], (pickF w (L.map (·.2.2))).2) := by
      unfold ansP
      rw [if_pos he]
    rw [ha]
    generalize (pickF w (L.map (·.2.2))).1 = p1 at *
    generalize (pickF w (L.map (·.2.2))).2 = p2 at *
    simp -implicitDefEqProofs (disch := first | omega | (simp [g, n3, n4, ni, l3, o4, o7, o9, l7, y1, y2, c4, c4', c7', c9', c7l, hgk5, hgk5', hgk3, hgk4, hgki] <;> fail) | assumption) [g, k2, k2', hA, e0, hin2, d0, z1, z2, z3, z4, hpk, htc, he, y1, y2, c4, c4', c7', c9', c7l, o4, o7, o9, l7, hgk5, hgk5']
end Go.Am
