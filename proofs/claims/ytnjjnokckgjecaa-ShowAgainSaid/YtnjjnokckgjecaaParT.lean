/- Law 26: the walk of a whole text. -/
import Derived.Test.YtnjjnokckgjecaaParJ
import Derived.Test.YtnjjnokckgjecaaParQ
import Derived.Test.YtnjjnokckgjecaaLexRunP
set_option linter.unusedVariables false
set_option linter.unusedSimpArgs false
set_option maxRecDepth 10000
set_option maxHeartbeats 4000000
namespace Go.Am
theorem keepF_A {R : Obj} : ∀ {ob : List (Nat × Obj)}, Rd R ob → keepF 0 1000 [2, 3, 6, 30, 1461501637330902918203684832716283019655932543008, 34] ob = Am.del ob 8
  | [], _ => rfl
  | (k, o) :: r, h => by
    have hr : Rd R r := fun p hp => h p (by simp [hp])
    have hk := (h (k, o) (by simp)).1
    simp only [List.mem_cons, List.not_mem_nil, or_false] at hk
    simp only [keepF, Am.del, keepF_A hr]
    rcases hk with rfl | rfl | rfl | rfl | rfl | rfl | rfl | rfl | rfl <;> simp [KT_eq]
theorem keepF_B {R : Obj} : ∀ {ob : List (Nat × Obj)}, Rd R ob → keepF 0 1000 [2, 3, 6, 8, 30, 1461501637330902918203684832716283019655932543008, 34] ob = ob
  | [], _ => rfl
  | (k, o) :: r, h => by
    have hr : Rd R r := fun p hp => h p (by simp [hp])
    have hk := (h (k, o) (by simp)).1
    simp only [List.mem_cons, List.not_mem_nil, or_false] at hk
    simp only [keepF, keepF_B hr]
    rcases hk with rfl | rfl | rfl | rfl | rfl | rfl | rfl | rfl | rfl <;> simp [KT_eq]
theorem keepF_C {R : Obj} : ∀ {ob : List (Nat × Obj)}, Rd R ob → keepF 0 1000 [2, 3, 30, 1461501637330902918203684832716283019655932543008, 34] ob = Am.del (Am.del ob 8) 6
  | [], _ => rfl
  | (k, o) :: r, h => by
    have hr : Rd R r := fun p hp => h p (by simp [hp])
    have hk := (h (k, o) (by simp)).1
    simp only [List.mem_cons, List.not_mem_nil, or_false] at hk
    simp only [keepF, Am.del, keepF_C hr]
    rcases hk with rfl | rfl | rfl | rfl | rfl | rfl | rfl | rfl | rfl <;> simp [KT_eq, Am.del]
theorem keepF_D {R : Obj} : ∀ {ob : List (Nat × Obj)}, Rd R ob → keepF 0 1000 [2, 3, 6, 30, 1461501637330902918203684832716283019655932543008] ob = Am.del (Am.del ob 8) 34
  | [], _ => rfl
  | (k, o) :: r, h => by
    have hr : Rd R r := fun p hp => h p (by simp [hp])
    have hk := (h (k, o) (by simp)).1
    simp only [List.mem_cons, List.not_mem_nil, or_false] at hk
    simp only [keepF, Am.del, keepF_D hr]
    rcases hk with rfl | rfl | rfl | rfl | rfl | rfl | rfl | rfl | rfl <;> simp [KT_eq, Am.del]
theorem RB.del8 {R T M : Obj} {G : Option Obj} {base ob : List (Nat × Obj)} (h : RB R T M G base ob) : RB R T M G base (Am.del ob 8) where
  rd := h.rd.del
  g34 := by simp [get_del, h.g34]
  gT := by simp [get_del, h.gT]
  gM := by simp [MK32, get_del]; exact h.gM
  gG := by simp [get_del, h.gG]
  oth := fun j hj => by
    have hne : ¬ j = 8 := by intro h; subst h; simp at hj
    simp [get_del, hne, h.oth j hj]
theorem RB.eight {R T M o : Obj} {G : Option Obj} {base ob : List (Nat × Obj)} (h : RB R T M G base ob) (hd : Am.del ob 8 = ob) (ho : ∀ j, nmRows j o.rows = true ∧ lcRows j o.rows = true) : RB R T M G base ((8, o) :: ob) where
  rd := by have := h.rd.cons (k := 8) (o := o) (by simp) ho; rwa [hd] at this
  g34 := by simp [Am.get, h.g34]
  gT := by simp [Am.get, h.gT]
  gM := by simp [MK32, Am.get]; exact h.gM
  gG := by simp [Am.get, h.gG]
  oth := fun j hj => by
    have hne : ¬ 8 = j := by rintro rfl; simp at hj
    simp [Am.get, hne, h.oth j hj]
/-- What comes back when something is wrong. -/
def BadSt (ax : AX) (s' : St) (e l c : Int) : Prop := ax = .ret ∧ ∃ X, s' = ⟨[(2, .loc 2 0 0), (3, .loc 3 0 0)], (3, ⟨3, [[i64 e, i64 l, i64 c]]⟩) :: (2, y13) :: X⟩
theorem parse_Text_lines (Γ : Env) (M : Nat) (hM : 65545 < M) (hnext : NextT (Γ.pt 170)) (hline : LineT (Γ.pt 239)) (l : List Tk) (hl : l.length ≤ 60000) (last : Tk) (base : List (Nat × Obj)) (hb2 : get base 2 = some z13) (hb3 : get base 3 = some z3) (hE : EndL l) (hkd : ∀ x ∈ l, x.kd = 1 ∨ x.kd = 2 ∨ x.kd = 3) (R : PR) (hR : textP last (l.length + 1) scnZ [] l = R)
    (ob0 : List (Nat × Obj)) (hB0 : RB (rdS l 0 scnZ 0 0 0) ⟨5, rowsL l last⟩ (mapO []) (segG scnZ) base ob0) (h80 : del ob0 8 = ob0) :
    ∃ ax s', ((∃ k s seen e0 l0 c0 ob, RB (rdS l k s e0 l0 c0) ⟨5, rowsL l last⟩ (mapO seen) (segG s) base ob ∧ del ob 8 = ob ∧ s.segs.length ≤ 8 ∧ R = textP last 1 s seen [] ∧ ax = .ex 0 ∧ s' = ⟨[(2, .loc 2 0 0), (3, .loc 3 0 0), (6, .loc 6 0 0), (7, .loc 34 0 0)], ob⟩) ∨
      (∃ e t, R = badR e t ∧ BadSt ax s' e t.l t.c)) ∧
      ∀ s, nrmP [2, 3, 6, 7] 0 1000 [2, 3, 6, 30, 1461501637330902918203684832716283019655932543008, 34] s = ⟨[(2, .loc 2 0 0), (3, .loc 3 0 0), (6, .loc 6 0 0), (7, .loc 34 0 0)], ob0⟩ →
        lp (exec Γ M parse_Text_l2) M s = some (ax, s') := by
  refine lp_allP (fun q : Nat × Scn × List (List UInt8) × Int × Int × Int × List (Nat × Obj) => ⟨[(2, .loc 2 0 0), (3, .loc 3 0 0), (6, .loc 6 0 0), (7, .loc 34 0 0)], q.2.2.2.2.2.2⟩)
    (fun q => q.1 ≤ l.length ∧ RB (rdS l q.1 q.2.1 q.2.2.2.1 q.2.2.2.2.1 q.2.2.2.2.2.1) ⟨5, rowsL l last⟩ (mapO q.2.2.1) (segG q.2.1) base q.2.2.2.2.2.2 ∧ del q.2.2.2.2.2.2 8 = q.2.2.2.2.2.2 ∧ (l.drop q.1 = [] ∨ EndL (l.drop q.1)) ∧ q.2.1.segs.length ≤ 8 ∧ ∀ f, (l.drop q.1).length < f → textP last f q.2.1 q.2.2.1 (l.drop q.1) = R) (fun q => l.length - q.1) _ (0, scnZ, [], 0, 0, 0, ob0) M
    ⟨by simp, hB0, h80, .inr hE, by simp [scnZ], ?_⟩ (by simp only; omega) ?_
  · intro f hf
    rw [← hR]
    exact textP_fuel last f (l.length + 1) scnZ [] l (.inr hE) hf (by omega)
  rintro ⟨k, s, seen, e0, l0, c0, ob⟩ ⟨hi, hB, h8, hEl, hs8, hf⟩
  simp only at hi hB h8 hEl hs8 hf ⊢
  have g34 := hB.g34
  have gT := hB.gT
  have kA := keepF_A hB.rd
  rw [h8] at kA
  have hrl : (rowsL l last).length = l.length + 1 := by simp [rowsL]
  by_cases hlt : k < l.length
  · obtain ⟨t, ht⟩ : ∃ t, l[k]'hlt = t := ⟨_, rfl⟩
    rw [List.drop_eq_getElem_cons hlt, ht] at hEl hf
    have hEl : EndL (t :: l.drop (k + 1)) := hEl.resolve_left (by simp)
    have hlen : (l.drop (k + 1)).length = l.length - (k + 1) := List.length_drop
    have hf1 := hf (l.length + 1) (by simp only [List.length_cons]; omega)
    simp only [textP] at hf1
    have hxr := next_rule hnext hB (by omega) hlt
    rw [ht] at hxr
    have hB1 := hB.put (R' := rdS l (k + 1) s e0 l0 c0)
    have d1 : del ((34, rdS l (k + 1) s e0 l0 c0) :: del ob 34) 8 = (34, rdS l (k + 1) s e0 l0 c0) :: del ob 34 := by
      simp only [del, if_neg (show ¬ (34 = 8) by decide)]; rw [del_comm, h8]
    obtain ⟨ob1, hob1⟩ : ∃ ob1, (34, rdS l (k + 1) s e0 l0 c0) :: del ob 34 = ob1 := ⟨_, rfl⟩
    rw [hob1] at hxr hB1 d1
    have n8 : nmOb 8 ob1 = true := hB1.rd.nm (rdr_nm _ _ _ _ _ _ _ (by decide) (by decide) (by decide))
    have kA1 := keepF_A hB1.rd
    have kB1 := keepF_B hB1.rd
    rw [d1] at kA1
    simp only [Tk.cells, toAV, List.map_cons, List.map_nil] at hxr
    by_cases h3 : t.kd = 3
    · have x3 := decide_eq_true h3
      simp -implicitDefEqProofs (disch := first | omega | (simp [*] <;> fail) | assumption) [g34, gT, hrl, hxr, n8, d1, kA, kA1, kB1, x3, hlt]
      refine ⟨k + 1, ⟨by omega, s, seen, ⟨e0, l0, c0, by simpa using hB1⟩, ?_, hs8, fun f hff => ?_⟩, by omega⟩
      · exact (endL_or hEl).imp List.drop_eq_nil_iff.1 id
      · have := hf (f + 1) (by simp only [List.length_cons]; omega)
        simpa only [textP, if_pos h3] using this
    · have x3 := decide_eq_false h3
      rw [if_neg h3] at hf1
      have hB2 := hB1.eight (o := ⟨5, [toAV t.cells]⟩) d1 (fun j => by simp)
      have hln := hline [(100050, .agg t.cells), (100049, .loc 34 0 0), (100002, .loc 2 0 0), (100003, .loc 3 0 0), (100006, .loc 6 0 0), (100007, .loc 34 0 0), (100008, .loc 8 0 0)] base ((8, ⟨5, [toAV t.cells]⟩) :: ob1) l (k + 1) s seen e0 l0 c0 t last (by simp) (by simp [ownFr_iff]) hB2 (by omega) (endL_cons hEl h3) h3 hkd hs8
      have hsp := lineP_spec (fun _ => True) s seen t (l.drop (k + 1)) hEl h3 (by simp)
      cases hP : lineP s seen t (l.drop (k + 1)) with
      | ok s' r =>
        rw [hP] at hln hf1 hsp
        obtain ⟨k', ob', e1, l1, c1, q1, q2, q3, q4⟩ := hln
        have kA' := keepF_A q4.rd
        have hB' := q4.del8
        obtain ⟨ns, r', z1, _, zs, z2, z3, z4, z5, z6, _⟩ := hsp.resolve_left (by rintro ⟨e, x, r', h, _⟩; simp at h)
        simp only [LO.ok.injEq] at z1
        obtain ⟨rfl, rfl⟩ := z1
        have hs8' : (putC s t.tx ns).segs.length ≤ 8 := by
          rw [putC_segs zs z4]; split
          · rename_i hw; have := z3 hw; omega
          · omega
        have kA2 := keepF_A hB'.rd
        rw [del_del] at kA2
        have d8' : del (del ob' 8) 8 = del ob' 8 := del_del _ _
        simp only [Tk.cells, toAV, List.map_cons, List.map_nil] at q3
        simp -implicitDefEqProofs (disch := first | omega | (simp [*] <;> fail) | assumption) [g34, gT, hrl, hxr, n8, d1, kA, kA1, kB1, x3, hlt, q3, kA', kA2]
        have hl3 : k' ≤ l.length := q2
        have hl4 : l.length - k' < l.length - k := by
          have e1 := congrArg List.length q1
          rw [List.length_drop] at e1
          omega
        refine ⟨k', ⟨hl3, putC s t.tx ns, seen ++ [t.tx], ⟨e1, l1, c1, by simpa using hB'⟩, ?_, hs8', fun f hff => ?_⟩, hl4⟩
        · rw [q1]; exact z5.imp (fun h => by rw [h] at q1; exact List.drop_eq_nil_iff.1 q1) id
        · rw [q1, ← hf1]
          have e1 := congrArg List.length q1
          rw [List.length_drop] at e1
          exact textP_fuel last f l.length _ _ _ z5 (by omega) (by omega)
      | bad e x r =>
        rw [hP] at hln hf1
        obtain ⟨k', s', M', G', ob', q3, q4⟩ := hln
        have kA' := keepF_A q4.rd
        have kC' := keepF_C q4.del8.rd
        rw [del_del] at kC'
        have o2 := q4.oth 2 (by simp)
        have o3 := q4.oth 3 (by simp)
        rw [hb2] at o2
        rw [hb3] at o3
        have g34' := q4.g34
        simp only [Tk.cells, toAV, List.map_cons, List.map_nil] at q3
        simp -implicitDefEqProofs (disch := first | omega | (simp [*] <;> fail) | assumption) [g34, gT, hrl, hxr, n8, d1, kA, kA1, kB1, x3, hlt, q3, kA', kC', get_del, o2, o3, g34']
        exact ⟨e, x, hf1.symm, rfl, _, rfl⟩
  · simp -implicitDefEqProofs (disch := first | omega | (simp [*] <;> fail) | assumption) [g34, gT, hrl, kA, hlt]
    obtain rfl : k = l.length := by omega
    have := hf 1 (by simp)
    rw [List.drop_length] at this
    exact .inl ⟨_, s, seen, e0, l0, c0, ob, by simpa using hB, h8, hs8, this.symm, rfl⟩
theorem parse_Text_check (Γ : Env) (M : Nat) (hM : 10 < M) (l : List Tk) (k : Nat) (s : Scn) (e0 l0 c0 : Int) (seen : List (List UInt8)) (T : Obj) (G : Option Obj) (base ob : List (Nat × Obj)) (last : Tk) (hb2 : get base 2 = some z13) (hb3 : get base 3 = some z3) (hb6 : get base 6 = some ⟨5, [toAV last.cells]⟩)
    (hB : RB (rdS l k s e0 l0 c0) T (mapO seen) G base ob) (h8 : del ob 8 = ob) :
    ∃ ax s', ((lackW seen = false ∧ ax = .ex 2 ∧ s' = ⟨[(2, .loc 2 0 0), (3, .loc 3 0 0), (7, .loc 34 0 0)], del ob 6⟩) ∨ (lackW seen = true ∧ BadSt ax s' 263 last.l last.c)) ∧
      ∀ s, nrmP [2, 3, 6, 7, 58, 59, 60] 0 1000 [2, 3, 6, 30, 1461501637330902918203684832716283019655932543008, 34] s = ⟨[(2, .loc 2 0 0), (3, .loc 3 0 0), (6, .loc 6 0 0), (7, .loc 34 0 0), (58, .c (.vs 1 (linesW.map strQ))), (59, i64 7), (60, i64 (0 : Nat))], ob⟩ →
        lp (exec Γ M parse_Text_l1) M s = some (ax, s') := by
  have g34 := hB.g34
  have gM := hB.gM
  have o2 := hB.oth 2 (by simp)
  have o3 := hB.oth 3 (by simp)
  have o6 := hB.oth 6 (by simp)
  rw [hb2] at o2
  rw [hb3] at o3
  rw [hb6] at o6
  have kA := keepF_A hB.rd
  have kC := keepF_C hB.rd
  have kD := keepF_D hB.rd
  rw [h8] at kA kC kD
  refine lp_allP (fun k : Nat => ⟨[(2, .loc 2 0 0), (3, .loc 3 0 0), (6, .loc 6 0 0), (7, .loc 34 0 0), (58, .c (.vs 1 (linesW.map strQ))), (59, i64 7), (60, i64 k)], ob⟩)
    (fun k => k ≤ 7 ∧ ∀ w ∈ linesW.take k, w ∈ seen) (fun k => 7 - k) _ 0 M ⟨by omega, by simp⟩ (by omega) ?_
  rintro k ⟨hk, hw⟩
  by_cases h7 : k = 7
  · subst h7
    have hlk : lackW seen = false := by
      simp only [lackW, List.any_eq_false, decide_eq_true_eq, Decidable.not_not]
      intro x hx; exact hw x (by simpa [linesW] using hx)
    simp -implicitDefEqProofs (disch := first | omega | (simp [*] <;> fail) | assumption) [hlk, kA, kC]
  have hk7 : k < 7 := by omega
  obtain ⟨w, hwk⟩ : ∃ w, linesW[k]? = some w := ⟨linesW[k]'(by simpa [linesW] using hk7), List.getElem?_eq_getElem _⟩
  obtain ⟨hka, hkw⟩ := List.getElem?_eq_some_iff.1 hwk
  have hmap : (linesW.map strQ)[k]? = some [.str w] := by rw [List.getElem?_map, hwk]; rfl
  obtain ⟨hka2, hkw2⟩ := List.getElem?_eq_some_iff.1 hmap
  generalize hA : linesW.map strQ = A at *
  have hAl : A.length = 7 := by rw [← hA]; rfl
  have hk6 : k ≤ 6 := by omega
  by_cases hm : w ∈ seen
  · obtain ⟨j, hj, hfd⟩ := mfind_yes 0 0 (mem_dd.2 hm)
    simp -implicitDefEqProofs (disch := first | omega | (simp [*] <;> fail) | assumption) [kA, hk7, hk6, hAl, hkw2, g34, gM, hfd]
    refine ⟨k + 1, by simp, ⟨by omega, fun x hx => ?_⟩, by omega⟩
    rw [List.take_add_one, hwk] at hx
    simp only [Option.toList, List.mem_append, List.mem_singleton] at hx
    rcases hx with hx | rfl
    · exact hw x hx
    · exact hm
  · have hfd := mfind_no 0 0 (fun h => hm (mem_dd.1 h))
    simp -implicitDefEqProofs (disch := first | omega | (simp [*] <;> fail) | assumption) [kA, kD, hk7, hk6, hAl, hkw2, g34, gM, hfd, get_del, o2, o3, o6]
    refine ⟨?_, rfl, _, rfl⟩
    simp only [lackW, List.any_eq_true, decide_eq_true_eq]
    exact ⟨w, List.mem_of_getElem? hwk, hm⟩
theorem allRows_sgsR : ∀ l : List Seg, allRows (sgsR (segT l)) = some (l.map Seg.cells)
  | [] => rfl
  | g :: l => by
    have := allRows_sgsR l
    simp only [sgsR, segT, List.map_cons, List.map_nil, List.map_map] at this ⊢
    simp [allRows, this]
theorem parse_Text_run (Γ : Env) (M : Nat) (hM : 65545 < M) (hscan : Pv.ScanC (Γ.pt 365)) (hnext : NextT (Γ.pt 170)) (hline : LineT (Γ.pt 239)) (h122 : LinesC (Γ 122)) : TextC26 (run Γ M parse_Text_f) := by
  intro x hx
  have hsc := hscan x (by omega)
  have hlen := scanR_len x
  have hok := scanR_ok x (by omega)
  have h122' : Γ 122 [] = _ := h122
  unfold parseR
  obtain ⟨R, hR⟩ : ∃ R, scanR x = R := ⟨_, rfl⟩
  rw [hR] at hsc hlen hok ⊢
  rcases hsc with ⟨h0, ts, hsc⟩ | ⟨h0, h1, hsc⟩
  · rw [if_neg h0]
    simp [Pv.parG, Pv.parR] at hsc
    cases ts with
    | nil =>
      simp [Pv.tkOb] at hsc
      simp -implicitDefEqProofs (disch := first | omega | (simp [*] <;> fail) | assumption) [hsc, h0, scnZ]
    | cons t ts =>
      simp [Pv.tkOb] at hsc
      simp -implicitDefEqProofs (disch := first | omega | (simp [*] <;> fail) | assumption) [hsc, h0, scnZ]
  · rw [if_pos h0]
    have hE : EndL R.ts := hok.2 h0
    have hne := endL_ne hE
    have hpos : 0 < R.ts.length := List.length_pos_iff.2 hne
    obtain ⟨last, hL⟩ : ∃ last, R.ts.getLastD tk0 = last := ⟨_, rfl⟩
    have hlast : R.ts[R.ts.length - 1]'(by omega) = last := by
      rw [← hL, List.getLastD_eq_getLast?, List.getLast?_eq_getElem?, List.getElem?_eq_getElem (by omega)]; rfl
    have hkd : ∀ x ∈ R.ts, x.kd = 1 ∨ x.kd = 2 ∨ x.kd = 3 := fun y hy => by
      rcases (hok.1 y hy).kind with h | h | h
      · exact .inr (.inr h.1)
      · exact .inl h.1
      · exact .inr (.inl h.1)
    obtain ⟨T, hT⟩ : ∃ T, parseT R.ts = T := ⟨_, rfl⟩
    rw [hT]
    unfold parseT at hT
    rw [hL] at hT
    obtain ⟨l, hl⟩ : ∃ l, R.ts = l := ⟨_, rfl⟩
    rw [hl] at hT hkd hpos hE hlen
    simp only [hl] at hlast hsc
    have hroom : room (l.length + 1) 48 = true := by simp only [room, decide_eq_true_eq]; omega
    have hpl : l.length - 1 < l.length := by omega
    obtain ⟨ob0, hob0⟩ : ∃ ob0 : List (Nat × Obj), [(34, rdS l 0 scnZ 0 0 0), (MK32, mapO []), (1000212, (⟨5, rowsL l last⟩ : Obj)), (6, ⟨5, [toAV last.cells]⟩), (3, z3), (2, z13)] = ob0 := ⟨_, rfl⟩
    have hB0 : RB (rdS l 0 scnZ 0 0 0) ⟨5, rowsL l last⟩ (mapO []) (segG scnZ) ob0 ob0 := by
      subst hob0
      refine ⟨?_, by simp [get], by simp [get, MK32], by simp [get, MK32], by simp [get, MK32, segG, scnZ], fun _ _ => rfl⟩
      intro p hp
      simp only [List.mem_cons, List.not_mem_nil, or_false] at hp
      rcases hp with rfl | rfl | rfl | rfl | rfl | rfl
      · exact ⟨by simp, fun _ => rfl, fun h => (h rfl).elim⟩
      · exact ⟨by simp [MK32], fun h => by simp [MK32] at h, fun _ j => seenR_free j _ _⟩
      · exact ⟨by simp, fun h => by simp at h, fun _ j => ⟨nmRows_comp j _ _, lcRows_comp j _ _⟩⟩
      · exact ⟨by simp, fun h => by simp at h, fun _ j => by simp⟩
      · exact ⟨by simp, fun h => by simp at h, fun _ j => by simp⟩
      · exact ⟨by simp, fun h => by simp at h, fun _ j => by simp⟩
    obtain ⟨ax, s', hres, hin⟩ := parse_Text_lines Γ M hM hnext hline l (by omega) last ob0 (by rw [← hob0]; simp [get, MK32]) (by rw [← hob0]; simp [get, MK32]) hE hkd T hT ob0 hB0 (by rw [← hob0]; simp [del, MK32])
    have hlp := hin ⟨[(2, .loc 2 0 0), (3, .loc 3 0 0), (6, .loc 6 0 0), (7, .loc 34 0 0)], ob0⟩ (by rw [← hob0]; simp [MK32])
    simp [← hob0, MK32, rdS, rdr, rdT, mapO, z3, z13, scOf, scnZ, segT, sgV, dd, seenR] at hlp
    simp [Pv.parG, Pv.parR] at hsc
    simp -implicitDefEqProofs (disch := first | omega | (simp [*] <;> fail) | assumption) [hsc, hlast, hpos, hpl, hroom, nmRows_comp, lcRows_comp, hlp]
    rcases hres with ⟨k, s, seen, e0, l0, c0, ob, hB, h8, hs8, hTT, rfl, rfl⟩ | ⟨e, t, hTT, rfl, X, rfl⟩
    · obtain ⟨ax, s', hres2, hin2⟩ := parse_Text_check Γ M (by omega) l k s e0 l0 c0 seen ⟨5, rowsL l last⟩ (segG s) ob0 ob last (by rw [← hob0]; simp [get, MK32]) (by rw [← hob0]; simp [get, MK32]) (by rw [← hob0]; simp [get, MK32]) hB h8
      have kA := keepF_A hB.rd
      rw [h8] at kA
      have hlp2 := hin2 ⟨[(2, .loc 2 0 0), (3, .loc 3 0 0), (6, .loc 6 0 0), (7, .loc 34 0 0), (58, .c (.vs 1 (linesW.map strQ))), (59, i64 7), (60, i64 (0 : Nat))], ob⟩ (by simp [kA])
      simp at hlp2
      have hln : (linesW.map strQ).length = 7 := rfl
      generalize hA : linesW.map strQ = A at *
      rcases hres2 with ⟨hl, rfl, rfl⟩ | ⟨hl, rfl, X, rfl⟩
      · simp only [textP, hl, Bool.false_eq_true, if_false] at hTT
        subst hTT
        have hB6 : Rd (rdS l k s e0 l0 c0) (del ob 6) := hB.rd.del
        have kC := keepF_C hB6
        rw [del_comm 6 8 ob, h8, del_del] at kC
        have g34 := hB.g34
        have gG := hB.gG
        have o2 : get ob 2 = some z13 := by rw [hB.oth 2 (by simp), ← hob0]; simp [get, MK32]
        have o3 : get ob 3 = some z3 := by rw [hB.oth 3 (by simp), ← hob0]; simp [get, MK32]
        have har := allRows_sgsR s.segs
        by_cases hz : s.segs = []
        · have hsg : (scOf s).sg = .nil 3 := by simp [scOf, hz, segT, sgV]
          simp -implicitDefEqProofs (disch := first | omega | (simp [*] <;> fail) | assumption) [h122', hln, kA, hlp2, kC, get_del, g34, o2, o3, hsg, hz]
          simp [scOf]
        · have hsg : (scOf s).sg = .sl 1000242 s.segs.length 0 s.segs.length := by simp [scOf, hz, segT, sgV]
          simp only [segG, if_neg hz] at gG
          have hlg : (sgsR (segT s.segs)).length = s.segs.length := by simp [sgsR, segT]
          generalize sgsR (segT s.segs) = SG at *
          simp -implicitDefEqProofs (disch := first | omega | (simp [*] <;> fail) | assumption) [h122', hln, kA, hlp2, kC, get_del, g34, o2, o3, hsg, gG, har, hlg]
          refine ⟨rfl, rfl, rfl, rfl, rfl, rfl, rfl, rfl, List.take_of_length_le (by simp), rfl, rfl, rfl, rfl⟩
      · simp only [textP, hl, if_true] at hTT
        subst hTT
        simp -implicitDefEqProofs (disch := first | omega | (simp [*] <;> fail) | assumption) [h122', hln, kA, hlp2, badR, scnZ]
    · subst hTT
      simp -implicitDefEqProofs (disch := first | omega | (simp [*] <;> fail) | assumption) [badR, scnZ]
end Go.Am
