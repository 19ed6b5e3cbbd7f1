/- Law 58: the busiest floor: the walk. -/
import Derived.Test.YtkjlejpaajcahaaObF
set_option linter.unusedVariables false
set_option linter.unusedSimpArgs false
set_option maxRecDepth 10000
set_option maxHeartbeats 4000000
namespace Go.Am
open Go.RowKit
def obW (c : Bool) (es : List En) (z : Nat) (fm : Nat × List Fe) : List (Nat × Obj) := if c then [(1461501637330902918203684832716283019655932542987, ⟨fm.1, roF fm.2⟩), (1461501637330902918203684832716283019655932618982, ⟨z, roE es⟩)] else [(1461501637330902918203684832716283019655932618982, ⟨z, roE es⟩), (1461501637330902918203684832716283019655932542987, ⟨fm.1, roF fm.2⟩)]
def hd1 (b : Bool) (es done : List En) (z : Nat) : St :=
  ⟨[(4, .mp 1461501637330902918203684832716283019655932542987), (14, .itr 2923003274661805836407369665432566039311865085966)],
    if b then [(1461501637330902918203684832716283019655932542987, ⟨(fmE done).1, roF (fmE done).2⟩), (2923003274661805836407369665432566039311865085966, ⟨z, [.mp 1461501637330902918203684832716283019655932618982, .c (.int .i64 z)] :: done.map En.born⟩), (1461501637330902918203684832716283019655932618982, ⟨z, roE es⟩)]
    else [(2923003274661805836407369665432566039311865085966, ⟨z, [.mp 1461501637330902918203684832716283019655932618982, .c (.int .i64 z)] :: done.map En.born⟩), (1461501637330902918203684832716283019655932618982, ⟨z, roE es⟩), (1461501637330902918203684832716283019655932542987, ⟨(fmE done).1, roF (fmE done).2⟩)]⟩
theorem bz_round1 (Γ : Env) (M : Nat) (b : Bool) (es done : List En) (z : Nat) (hn : (es.map (·.b)).Nodup) (hb1 : ∀ e ∈ es, 0 ≤ e.n ∧ e.n ≤ 1000) (hb2 : ∀ e ∈ (fmE done).2, 0 ≤ e.n ∧ e.n ≤ 1000) (K : AX → St → Prop)
    (hEnd : (∀ e ∈ es, ∃ f ∈ done, f.b = e.b) → K (.ex 0) ⟨[(4, .mp 1461501637330902918203684832716283019655932542987)], obW b es z (fmE done)⟩)
    (hNext : ∀ e ∈ es, (¬ ∃ f ∈ done, f.b = e.b) → ∀ s', nrmP [4, 14] 0 1000 [1461501637330902918203684832716283019655932542987, 2923003274661805836407369665432566039311865085966] s' = hd1 true es (done ++ [e]) z → K .norm s') :
    execW Γ M observe_Busiest_l2b (hd1 b es done z) K := by
  have a3 := fun k => nmRows_born k done
  have a4 := fun k => lcRows_born k done
  have a5 := fun k => nmRows_roE k es
  have a6 := fun k => lcRows_roE k es
  have a7 := fun k => nmRows_roF k (fmE done).2
  rw [observe_Busiest_l2b_x, execW_seq]
  have hg1 : get (hd1 b es done z).fr 14 = some (.itr 2923003274661805836407369665432566039311865085966) := rfl
  have hg2 : get (hd1 b es done z).ob 2923003274661805836407369665432566039311865085966 = some ⟨z, [.mp 1461501637330902918203684832716283019655932618982, .c (.int .i64 z)] :: done.map En.born⟩ := by cases b <;> rfl
  have hg3 : get (hd1 b es done z).ob 1461501637330902918203684832716283019655932618982 = some ⟨z, roE es⟩ := by cases b <;> rfl
  simp only [execW, nextP, hg1, hg2, hg3]
  right
  refine ⟨1461501637330902918203684832716283019655932618982, done.map En.born, ⟨z, roE es⟩, rfl, hg3, rfl, fun hend => ?_, fun bb kk vv hm hc => ?_⟩
  · have hend' : ∀ e ∈ es, ∃ f ∈ done, f.b = e.b := fun e he => (came_born done e.b).1 (hend e.b _ _ (List.mem_map.2 ⟨e, he, rfl⟩))
    have hK := hEnd hend'
    refine ⟨_, rfl, ?_⟩
    rw [seqK_norm, execW_ac]
    cases b <;> simp -implicitDefEqProofs (disch := first | omega | (simp <;> fail) | assumption) [hd1, acK_some] <;> exact hK
  · obtain ⟨e, he, rfl, rfl, rfl⟩ := row_mem hm
    have hf := find_born hn he
    have hf : (roE es).find? (hasBorn e.b) = some e.row := hf
    have hno : ¬ ∃ f ∈ done, f.b = e.b := fun h => by rw [(came_born done e.b).2 h] at hc; simp at hc
    have hK := hNext e he hno
    have hbe := hb1 e he
    refine ⟨rfl, rfl, _, rfl, ?_⟩
    rw [seqK_norm, execW_ac]
    have hK2 : ∀ s', nrmP [4, 14] 0 1000 [1461501637330902918203684832716283019655932542987, 2923003274661805836407369665432566039311865085966] s' = ⟨[(4, .mp 1461501637330902918203684832716283019655932542987), (14, .itr 2923003274661805836407369665432566039311865085966)], [(1461501637330902918203684832716283019655932542987, ⟨(addF (fmE done) e).1, roF (addF (fmE done) e).2⟩), (2923003274661805836407369665432566039311865085966, ⟨z, [.mp 1461501637330902918203684832716283019655932618982, .c (.int .i64 z)] :: (done ++ [e]).map En.born⟩), (1461501637330902918203684832716283019655932618982, ⟨z, roE es⟩)]⟩ → K .norm s' := fun s' h => hK s' (by rw [h]; simp [hd1, fmE_snoc])
    clear hK hEnd hNext
    obtain ⟨R2, z2, ⟨hR2, hz2⟩, hw⟩ := addF_ways (fmE done) e
    rw [← hR2, ← hz2] at hK2
    have a2 : ∀ k, nmRows k R2 = true := fun k => by rw [hR2]; exact nmRows_roF k _
    simp only [kkI] at hw
    clear hR2 hz2
    rcases hw with ⟨i, v, b', f1, ⟨x, hx, hxf, rfl⟩, rfl, f3, f4⟩ | ⟨f1, f2, rfl⟩
    · have hbx := hb2 x hx
      clear hx
      simp only [hd1]
      generalize roF (fmE done).2 = R at *
      generalize (fmE done).1 = z' at *
      cases b <;> simp -implicitDefEqProofs (disch := first | omega | (simp [a2, a3, a4, a5, a6, a7] <;> fail) | assumption) [-setRow, -stampAt, setRow_one, mupd, acK_some, hf, a2, a3, a4, a5, a6, a7, En.row, f1, f3, f4]
      all_goals
        refine hK2 _ ?_
        simp -implicitDefEqProofs (disch := first | omega | (simp <;> fail) | assumption) [En.born]
    · simp only [hd1]
      generalize roF (fmE done).2 = R at *
      generalize (fmE done).1 = z' at *
      cases b <;> simp -implicitDefEqProofs (disch := first | omega | (simp [a2, a3, a4, a5, a6, a7] <;> fail) | assumption) [-setRow, -stampAt, setRow_one, mupd, acK_some, hf, a2, a3, a4, a5, a6, a7, En.row, f1, f2]
      all_goals
        refine hK2 _ ?_
        simp -implicitDefEqProofs (disch := first | omega | (simp <;> fail) | assumption) [En.born]
theorem sumN_perm {a b : List En} (h : a.Perm b) : (a.map (·.n)).sum = (b.map (·.n)).sum := by
  induction h with
  | nil => rfl
  | cons x _ ih => simp only [List.map_cons, List.sum_cons, ih]
  | swap x y l => simp only [List.map_cons, List.sum_cons]; omega
  | trans _ _ h1 h2 => rw [h1, h2]
theorem sumN_nn {l : List En} (h : ∀ e ∈ l, 0 ≤ e.n) : 0 ≤ (l.map (·.n)).sum := by
  induction l with
  | nil => simp
  | cons a l ih => have := h a (by simp); have := ih fun x hx => h x (by simp [hx]); simp only [List.map_cons, List.sum_cons]; omega
theorem sumF_bound {l : List En} (h : ∀ e ∈ l, 0 ≤ e.n) (f : Int) : 0 ≤ sumF l f ∧ sumF l f ≤ (l.map (·.n)).sum := by
  unfold sumF
  induction l with
  | nil => simp
  | cons a l ih =>
    have h1 := h a (by simp)
    have h2 := ih fun x hx => h x (by simp [hx])
    simp only [List.map_cons, List.sum_cons]
    split <;> omega
theorem bz_loop1 (Γ : Env) (N M : Nat) (es : List En) (z : Nat) (hl : es.length ≤ 1000) (hn : (es.map (·.b)).Nodup) (hb1 : ∀ e ∈ es, 0 ≤ e.n ∧ e.n ≤ 1000) (hsum : (es.map (·.n)).sum ≤ 1000) (K : AX → St → Prop) (hM : 1000 < M)
    (hEnd : ∀ (done : List En) (b : Bool), done.Perm es → K (.ex 0) ⟨[(4, .mp 1461501637330902918203684832716283019655932542987)], obW b es z (fmE done)⟩)
    (s : St) (hs : nrmP [4, 14] 0 1000 [1461501637330902918203684832716283019655932542987, 2923003274661805836407369665432566039311865085966] s = hd1 false es [] z) : lpW (execW Γ N observe_Busiest_l2) M s K := by
  refine lpW_rule (f := execW Γ N observe_Busiest_l2) (I := fun n s => ∃ b done rest, nrmP [4, 14] 0 1000 [1461501637330902918203684832716283019655932542987, 2923003274661805836407369665432566039311865085966] s = hd1 b es done z ∧ (done ++ rest).Perm es ∧ rest.length = n) (fun s K K' h => execW_mono _ h) ?_ es.length M s ⟨false, [], es, hs, .refl _, rfl⟩ (by omega)
  rintro n s ⟨b, done, rest, hs, hp, rfl⟩
  rw [observe_Busiest_l2_x, execW_keepP, hs]
  have hnd : ((done ++ rest).map (·.b)).Nodup := (hp.map (·.b)).nodup_iff.2 hn
  rw [List.map_append, List.nodup_append] at hnd
  have hb2 : ∀ e ∈ (fmE done).2, 0 ≤ e.n ∧ e.n ≤ 1000 := by
    intro e he
    have h1 := (fm_fmE done).val e he
    have hd : ∀ x ∈ done, 0 ≤ x.n := fun x hx => (hb1 x (hp.mem_iff.1 (by simp [hx]))).1
    have hr : ∀ x ∈ rest, 0 ≤ x.n := fun x hx => (hb1 x (hp.mem_iff.1 (by simp [hx]))).1
    have h2 := sumF_bound hd e.f
    have h3 := sumN_perm hp
    rw [List.map_append, List.sum_append] at h3
    have h4 := sumN_nn hr
    omega
  refine bz_round1 Γ N b es done z hn hb1 hb2 _ (fun hend => ?_) (fun e he hno s' hs' => ?_)
  · have hr : rest = [] := by
      cases rest with
      | nil => rfl
      | cons r rest =>
        obtain ⟨f, hf, hb⟩ := hend r (hp.mem_iff.1 (by simp))
        exact absurd hb (hnd.2.2 _ (List.mem_map.2 ⟨f, hf, rfl⟩) _ (List.mem_map.2 ⟨r, by simp, rfl⟩))
    subst hr
    rw [List.append_nil] at hp
    exact hEnd done b hp
  · have hm := hp.mem_iff.2 he
    rcases List.mem_append.1 hm with hm | hm
    · exact absurd ⟨e, hm, rfl⟩ hno
    · obtain ⟨r1, r2, rfl⟩ := List.append_of_mem hm
      refine ⟨(r1 ++ r2).length, by simp, true, done ++ [e], r1 ++ r2, hs', ?_, rfl⟩
      refine List.Perm.trans ?_ hp
      rw [List.append_assoc]
      exact List.Perm.append_left _ (by simpa using (List.perm_middle (a := e) (l₁ := r1) (l₂ := r2)).symm)
/-! ### The second loop -/
def hd2 (O : List (Nat × Obj)) (p : Nat × List Fe) (done : List Fe) (bs : Int × Bool) : St :=
  ⟨[(4, .mp 1461501637330902918203684832716283019655932542987), (7, i64 bs.1), (8, bo bs.2), (27, .itr 2923003274661805836407369665432566039311865085979)], (2923003274661805836407369665432566039311865085979, ⟨p.1, [.mp 1461501637330902918203684832716283019655932542987, .c (.int .i64 p.1)] :: done.map Fe.born⟩) :: O⟩
theorem bz_round2 (Γ : Env) (M : Nat) (c0 : Bool) (es : List En) (z : Nat) (p : Nat × List Fe) (done : List Fe) (bs : Int × Bool) (c : Int → Int) (hn : (p.2.map (·.b)).Nodup) (hv : ∀ e ∈ p.2, e.n = c e.f) (hbs : bs.2 = true → ∃ e ∈ p.2, e.f = bs.1) (K : AX → St → Prop)
    (hEnd : (∀ e ∈ p.2, ∃ f ∈ done, f.b = e.b) → K (.ex 2) ⟨[(7, i64 bs.1), (8, bo bs.2)], [(1461501637330902918203684832716283019655932618982, ⟨z, roE es⟩)]⟩)
    (hNext : ∀ e ∈ p.2, (¬ ∃ f ∈ done, f.b = e.b) → ∀ s', nrmP [4, 7, 8, 27] 0 1000 [1461501637330902918203684832716283019655932542987, 2923003274661805836407369665432566039311865085979] s' = hd2 (obW c0 es z p) p (done ++ [e]) (stepB c bs e.f) → K .norm s') :
    execW Γ M observe_Busiest_l1b (hd2 (obW c0 es z p) p done bs) K := by
  have a3 := fun k => nmRows_fb k done
  have a4 := fun k => lcRows_fb k done
  have a5 := fun k => nmRows_roE k es
  have a6 := fun k => lcRows_roE k es
  have a7 := fun k => nmRows_roF k p.2
  rw [observe_Busiest_l1b_x, execW_seq]
  have hg1 : get (hd2 (obW c0 es z p) p done bs).fr 27 = some (.itr 2923003274661805836407369665432566039311865085979) := rfl
  have hg2 : get (hd2 (obW c0 es z p) p done bs).ob 2923003274661805836407369665432566039311865085979 = some ⟨p.1, [.mp 1461501637330902918203684832716283019655932542987, .c (.int .i64 p.1)] :: done.map Fe.born⟩ := rfl
  have hg3 : get (hd2 (obW c0 es z p) p done bs).ob 1461501637330902918203684832716283019655932542987 = some ⟨p.1, roF p.2⟩ := by cases c0 <;> rfl
  simp only [execW, nextP, hg1, hg2, hg3]
  right
  refine ⟨1461501637330902918203684832716283019655932542987, done.map Fe.born, ⟨p.1, roF p.2⟩, rfl, hg3, rfl, fun hend => ?_, fun bb kk vv hm hc => ?_⟩
  · have hend' : ∀ e ∈ p.2, ∃ f ∈ done, f.b = e.b := fun e he => (came_fb done e.b).1 (hend e.b _ _ (List.mem_map.2 ⟨e, he, rfl⟩))
    have hK := hEnd hend'
    refine ⟨_, rfl, ?_⟩
    rw [seqK_norm, execW_ac]
    cases c0 <;> simp -implicitDefEqProofs (disch := first | omega | (simp <;> fail) | assumption) [hd2, obW, acK_some] <;> exact hK
  · obtain ⟨e, he, rfl, rfl, rfl⟩ := row_fb hm
    have hf := find_fb hn he
    have hno : ¬ ∃ f ∈ done, f.b = e.b := fun h => by rw [(came_fb done e.b).2 h] at hc; simp at hc
    have hK := hNext e he hno
    have hve := hv e he
    refine ⟨rfl, rfl, _, rfl, ?_⟩
    rw [seqK_norm, execW_ac]
    obtain ⟨b0, s0⟩ := bs
    have hmg : s0 = true → ∃ i, mfind kkI (.c (.int .i64 b0)) (roF p.2) 0 = some (some (i, .c (.int .i64 (c b0)))) := by
      intro hs
      obtain ⟨x, hx, hxf⟩ := hbs hs
      rw [mfind_fidx]
      cases hq : fidx b0 p.2 0 with
      | none => exact absurd hxf (fidx_no hq x hx)
      | some q =>
        obtain ⟨i, n⟩ := q
        obtain ⟨A, y, B, h1, _, h3, h4⟩ := fidx_split hq
        have := hv y (by rw [h1]; simp)
        exact ⟨i, by simp only [Option.map_some]; rw [← h4, this, h3]⟩
    simp only [kkI] at hmg
    clear hEnd hNext hbs hv he hn hm
    rw [Fe.row, hve] at hf
    simp only [hd2, obW] at hK ⊢
    generalize roF p.2 = R at *
    generalize p.1 = z' at *
    unfold stepB at hK
    simp only at hK
    cases s0 with
    | false =>
      simp only [true_or, if_true] at hK
      cases c0 <;> simp -implicitDefEqProofs (disch := first | omega | (simp [a3, a4, a5, a6, a7] <;> fail) | assumption) [-setRow, -stampAt, acK_some, hf, a3, a4, a5, a6, a7]
      all_goals
        refine hK _ ?_
        simp -implicitDefEqProofs (disch := first | omega | (simp <;> fail) | assumption) [Fe.born]
    | true =>
      obtain ⟨i, hmg⟩ := hmg rfl
      by_cases k1 : c b0 < c e.f
      · simp only [k1, true_or, or_true, if_true] at hK
        cases c0 <;> simp -implicitDefEqProofs (disch := first | omega | (simp [a3, a4, a5, a6, a7] <;> fail) | assumption) [-setRow, -stampAt, acK_some, hf, a3, a4, a5, a6, a7, hmg, k1]
        all_goals
          refine hK _ ?_
          simp -implicitDefEqProofs (disch := first | omega | (simp <;> fail) | assumption) [Fe.born]
      · by_cases k2 : c e.f = c b0
        · by_cases k3 : e.f < b0
          · simp only [k2, k3, and_self, or_true, if_true] at hK
            cases c0 <;> simp -implicitDefEqProofs (disch := first | omega | (simp [a3, a4, a5, a6, a7] <;> fail) | assumption) [-setRow, -stampAt, acK_some, hf, a3, a4, a5, a6, a7, hmg, k1, k2, k3]
            all_goals
              refine hK _ ?_
              simp -implicitDefEqProofs (disch := first | omega | (simp <;> fail) | assumption) [Fe.born]
          · simp only [k1, k2, k3, and_false, or_false, Bool.true_eq_false, Int.lt_irrefl, if_false] at hK
            cases c0 <;> simp -implicitDefEqProofs (disch := first | omega | (simp [a3, a4, a5, a6, a7] <;> fail) | assumption) [-setRow, -stampAt, acK_some, hf, a3, a4, a5, a6, a7, hmg, k1, k2, k3]
            all_goals
              refine hK _ ?_
              simp -implicitDefEqProofs (disch := first | omega | (simp <;> fail) | assumption) [Fe.born]
        · simp only [k1, k2, false_and, or_false, Bool.true_eq_false, if_false] at hK
          cases c0 <;> simp -implicitDefEqProofs (disch := first | omega | (simp [a3, a4, a5, a6, a7] <;> fail) | assumption) [-setRow, -stampAt, acK_some, hf, a3, a4, a5, a6, a7, hmg, k1, k2]
          all_goals
            refine hK _ ?_
            simp -implicitDefEqProofs (disch := first | omega | (simp <;> fail) | assumption) [Fe.born]
theorem bz_loop2 (Γ : Env) (N M : Nat) (c0 : Bool) (es : List En) (z : Nat) (p : Nat × List Fe) (c : Int → Int) (hl : p.2.length ≤ 1000) (hn : (p.2.map (·.b)).Nodup) (hv : ∀ e ∈ p.2, e.n = c e.f) (K : AX → St → Prop) (hM : 1000 < M)
    (hEnd : ∀ bs : Int × Bool, InvB c (p.2.map (·.f)) bs → K (.ex 2) ⟨[(7, i64 bs.1), (8, bo bs.2)], [(1461501637330902918203684832716283019655932618982, ⟨z, roE es⟩)]⟩)
    (s : St) (hs : nrmP [4, 7, 8, 27] 0 1000 [1461501637330902918203684832716283019655932542987, 2923003274661805836407369665432566039311865085979] s = hd2 (obW c0 es z p) p [] (0, false)) : lpW (execW Γ N observe_Busiest_l1) M s K := by
  refine lpW_rule (f := execW Γ N observe_Busiest_l1) (I := fun n s => ∃ done rest bs, nrmP [4, 7, 8, 27] 0 1000 [1461501637330902918203684832716283019655932542987, 2923003274661805836407369665432566039311865085979] s = hd2 (obW c0 es z p) p done bs ∧ (done ++ rest).Perm p.2 ∧ InvB c (done.map (·.f)) bs ∧ rest.length = n) (fun s K K' h => execW_mono _ h) ?_ p.2.length M s ⟨[], p.2, (0, false), hs, .refl _, .inl ⟨rfl, rfl⟩, rfl⟩ (by omega)
  rintro n s ⟨done, rest, bs, hs, hp, hI, rfl⟩
  rw [observe_Busiest_l1_x, execW_keepP, hs]
  have hnd : ((done ++ rest).map (·.b)).Nodup := (hp.map (·.b)).nodup_iff.2 hn
  rw [List.map_append, List.nodup_append] at hnd
  have hbs : bs.2 = true → ∃ e ∈ p.2, e.f = bs.1 := by
    intro h
    rcases hI with ⟨_, rfl⟩ | ⟨h1, _, _⟩
    · simp at h
    · obtain ⟨x, hx, hxf⟩ := List.mem_map.1 h1
      exact ⟨x, hp.mem_iff.1 (by simp [hx]), hxf⟩
  refine bz_round2 Γ N c0 es z p done bs c hn hv hbs _ (fun hend => ?_) (fun e he hno s' hs' => ?_)
  · have hr : rest = [] := by
      cases rest with
      | nil => rfl
      | cons r rest =>
        obtain ⟨f, hf, hb⟩ := hend r (hp.mem_iff.1 (by simp))
        exact absurd hb (hnd.2.2 _ (List.mem_map.2 ⟨f, hf, rfl⟩) _ (List.mem_map.2 ⟨r, by simp, rfl⟩))
    subst hr
    rw [List.append_nil] at hp
    refine hEnd bs ?_
    rcases hI with ⟨h1, h2⟩ | ⟨h1, h2, h3⟩
    · left
      refine ⟨?_, h2⟩
      have : done = [] := by simpa using h1
      subst this
      rw [List.nil_perm.1 hp]; rfl
    · right
      have hm : ∀ x, x ∈ p.2.map (·.f) ↔ x ∈ done.map (·.f) := fun x => (hp.map (·.f)).mem_iff.symm
      exact ⟨(hm _).2 h1, h2, fun f hf => h3 f ((hm _).1 hf)⟩
  · have hm := hp.mem_iff.2 he
    rcases List.mem_append.1 hm with hm | hm
    · exact absurd ⟨e, hm, rfl⟩ hno
    · obtain ⟨r1, r2, rfl⟩ := List.append_of_mem hm
      refine ⟨(r1 ++ r2).length, by simp, done ++ [e], r1 ++ r2, stepB c bs e.f, hs', ?_, by rw [List.map_append]; exact invB_step hI e.f, rfl⟩
      refine List.Perm.trans ?_ hp
      rw [List.append_assoc]
      exact List.Perm.append_left _ (by simpa using (List.perm_middle (a := e) (l₁ := r1) (l₂ := r2)).symm)
end Go.Am
