/- Law 26: the walk of a line. -/
import Derived.Test.YtnjjnokckgjecaaParI
set_option linter.unusedVariables false
set_option linter.unusedSimpArgs false
set_option maxRecDepth 10000
set_option maxHeartbeats 8000000
namespace Go.Am
theorem kkS_eq : kkS = (false, [Kd.str]) := rfl
theorem shape_names {w : List UInt8} : shapeW w = if w = pTraffic then [116] :: namesW w else if w = pDispatcher then [100] :: namesW w else namesW w := by
  by_cases h1 : w = pTraffic
  · subst h1; simp [shapeW, namesW]
  by_cases h2 : w = pDispatcher
  · subst h2; simp [shapeW, namesW]
  simp [shapeW, h1, h2]
theorem numsA_acc : ∀ (l : List (List UInt8)) (acc : List Int) (r : List Tk), numsA acc l r = match numsA [] l r with | .ok ns r' => .ok (acc ++ ns) r' | .bad e t r' => .bad e t r'
  | [], acc, r => by simp [numsA]
  | _ :: _, acc, [] => by simp [numsA]
  | nm :: l, acc, t :: r => by
    simp only [numsA]
    by_cases h : partE nm t = 0
    · rw [if_pos h, if_pos h, numsA_acc l (acc ++ [partN nm t]), numsA_acc l ([] ++ [partN nm t])]
      cases numsA [] l r <;> simp
    · rw [if_neg h, if_neg h]
theorem parse_reader_line_run (Γ : Env) (M : Nat) (hM : 10 < M) (hfail : FailT (Γ.pt 169)) (hkind : KindT (Γ.pt 172)) (hnums : NumsT (Γ.pt 171)) (hnext : NextT (Γ.pt 170)) (hset : SetT (Γ.pt 168)) (hsetT : SetTrT (Γ.pt 168)) (hnames : NamesPT (Γ.pt 366)) : LineT (runP Γ M parse_reader_line_f) := by
  intro gs base ob l k s seen e0 l0 c0 t last hg hown hB hl hE h3 hkd h8
  obtain ⟨⟨o1, o2, o3, o4, o5, o6, o7, o8, o9, o10, o11⟩, ⟨p1, p2, p3, p4, p5, p6, p7, p8, p9, p10, p11⟩⟩ := (ownFr_iff gs).1 hown
  have kf239 : Kf 239000 240000 ob := hB.kf 239 (by omega)
  have hk3 : Nk 239003 gs ob := hB.nk (by simp [MK32]) o8
  have n3 := hk3.2.1
  have d3 := hk3.2.2
  have g34 := hB.g34
  have gM := hB.gM
  have k34 := kf239.del (k := 34)
  have hf := fail_rule hfail hB 239003 (by omega) t t
  have hnm := fun gs' h => hnames gs' ((239003, ⟨5, [toAV t.cells]⟩) :: ob) t.tx h
  have x3 := decide_eq_false h3
  unfold lineP
  simp only [Tk.cells, toAV, List.map_cons, List.map_nil] at hf hnm
  by_cases c1 : t.kd = 1
  · have x1 := decide_eq_true c1
    by_cases c2 : shapeW t.tx = []
    · rw [if_pos (.inr c2)]
      have q1 : t.tx ≠ pDispatcher := fun h => by rw [h] at c2; simp [shapeW] at c2
      have q2 : t.tx ≠ pTraffic := fun h => by rw [h] at c2; simp [shapeW] at c2
      have q3 : namesW t.tx = [] := by simpa [shapeW, q1, q2] using c2
      simp only [q3, if_true] at hnm
      refine ⟨k, s, mapO seen, segG s, (34, rdS l k s 260 t.l t.c) :: del ob 34, ?_, hB.put⟩
      simp -implicitDefEqProofs (disch := first | omega | (simp [*] <;> fail) | assumption) [hg, o3, o8, n3, d3, hf, hnm, x1, q1, kf239, k34]
    · rw [if_neg (by simp [c1, c2])]
      by_cases c3 : t.tx ∈ seen ∧ t.tx ≠ pTraffic
      · rw [if_pos c3]
        obtain ⟨c3, c4⟩ := c3
        obtain ⟨j, hj, hfd⟩ := mfind_yes 0 0 (mem_dd.2 c3)
        refine ⟨k, s, mapO seen, segG s, (34, rdS l k s 262 t.l t.c) :: del ob 34, ?_, hB.put⟩
        by_cases q1 : t.tx = pDispatcher
        · have y1 := decide_eq_true q1
          have y2 := decide_eq_false c4
          simp -implicitDefEqProofs (disch := first | omega | (simp [*] <;> fail) | assumption) [-lenV, hg, o1, o2, o3, o4, o5, o6, o7, o8, o9, o10, o11, p1, p2, p3, p4, p5, p6, p7, p8, p9, p10, p11, n3, d3, kf239, k34, x1, g34, gM, kkS_eq, hfd, hf, y1, y2]
        · have y1 := decide_eq_false q1
          have y2 := decide_eq_false c4
          obtain ⟨nm0, nms, hns⟩ : ∃ a b, namesW t.tx = a :: b := by
            have : namesW t.tx ≠ [] := by simpa [shapeW, q1, c4] using c2
            exact List.exists_cons_of_ne_nil this
          simp only [hns, reduceCtorEq, if_false] at hnm
          simp -implicitDefEqProofs (disch := first | omega | (simp [*] <;> fail) | assumption) [-lenV, hg, o1, o2, o3, o4, o5, o6, o7, o8, o9, o10, o11, p1, p2, p3, p4, p5, p6, p7, p8, p9, p10, p11, n3, d3, kf239, k34, x1, g34, gM, kkS_eq, hfd, hf, hnm, y1, y2]
      rw [if_neg c3]
      have hsl : ∀ fr o, lenV ⟨fr, (239003, o) :: ob⟩ false (scOf s).sg = some (s.segs.length : Int) := fun fr o => by
        have hgg := hB.gG
        simp only [scOf, sgV, segG, segT, List.map_eq_nil_iff] at hgg ⊢
        by_cases hz : s.segs = []
        · simp [hz]
        · rw [if_neg hz] at hgg ⊢
          simp [hgg]
      have hkl : k < l.length := by
        rcases Nat.lt_or_ge k l.length with h | h
        · exact h
        · exact (endL_ne hE (List.drop_eq_nil_of_le h)).elim
      obtain ⟨y, hy⟩ : ∃ y, l[k]'hkl = y := ⟨_, rfl⟩
      have hymem : y ∈ l := by rw [← hy]; exact List.getElem_mem _
      have hfd : (∃ j, mfind kkS (.c (.str t.tx)) (seenR 0 (dd seen)) 0 = some (some (j, .c (.bool true)))) ∨ mfind kkS (.c (.str t.tx)) (seenR 0 (dd seen)) 0 = some none := by
        by_cases h : t.tx ∈ dd seen
        · obtain ⟨j, _, h⟩ := mfind_yes 0 0 h; exact .inl ⟨_, h⟩
        · exact .inr (mfind_no 0 0 h)
      have hfd' : t.tx ≠ pTraffic → mfind kkS (.c (.str t.tx)) (seenR 0 (dd seen)) 0 = some none := fun h => mfind_no 0 0 fun h2 => c3 ⟨mem_dd.1 h2, h⟩
      obtain ⟨ob2, hob2⟩ : ∃ ob2, (MK32, mapO (seen ++ [t.tx])) :: del ob MK32 = ob2 := ⟨_, rfl⟩
      have hB2 := hB.map (M' := mapO (seen ++ [t.tx])) (fun j => seenR_free j _ _)
      rw [hob2] at hB2
      have hmu : ∀ fr, mupd MK32 kkS (.c (.str t.tx)) (.c (.bool true)) (mapO seen) ⟨fr, ob⟩ = some ⟨fr, ob2⟩ := fun fr => by
        rw [mupd_seen]; simp only [St.obj, ← hob2, mapO, dd_snoc]
      have kf2 : Kf 239000 240000 ob2 := hB2.kf 239 (by omega)
      by_cases q2 : t.tx = pTraffic
      · have q1 : t.tx ≠ pDispatcher := by rw [q2]; decide
        have y1 := decide_eq_false q1
        have y2 := decide_eq_true q2
        have hns : namesW t.tx = [pTicks, pRate] := by rw [q2]; rfl
        simp only [hns, reduceCtorEq, if_false] at hnm
        by_cases c5 : t.tx = pTraffic ∧ s.segs.length = 8
        · rw [if_pos c5]
          obtain ⟨_, c6⟩ := c5
          refine ⟨k, s, mapO seen, segG s, (34, rdS l k s 21 t.l t.c) :: del ob 34, ?_, hB.put⟩
          rcases hfd with ⟨j, hfd⟩ | hfd
          · simp -implicitDefEqProofs (disch := first | omega | (simp [*] <;> fail) | assumption) [-lenV, hg, o1, o2, o3, o4, o5, o6, o7, o8, o9, o10, o11, p1, p2, p3, p4, p5, p6, p7, p8, p9, p10, p11, n3, d3, kf239, k34, x1, g34, gM, kkS_eq, hfd, hf, hnm, y1, y2, hsl, c6]
          · simp -implicitDefEqProofs (disch := first | omega | (simp [*] <;> fail) | assumption) [-lenV, hg, o1, o2, o3, o4, o5, o6, o7, o8, o9, o10, o11, p1, p2, p3, p4, p5, p6, p7, p8, p9, p10, p11, n3, d3, kf239, k34, x1, g34, gM, kkS_eq, hfd, hf, hnm, y1, y2, hsl, c6]
        · rw [if_neg c5]
          have n8 : ¬ s.segs.length = 8 := fun h => c5 ⟨q2, h⟩
          rcases hfd with ⟨j, hfd⟩ | hfd
          all_goals
            have hkr := kind_rule hkind hB2 hl hkl t.tx
            rw [hy] at hkr
            have hyk := hkd y hymem
            obtain ⟨w1, w2⟩ := word_kind (head := t.tx) hyk
            have hsh : shapeW t.tx = [116] :: namesW t.tx := by rw [shape_names, if_pos q2]
            have hnmE : (if t.tx = pDispatcher then [100] else [116]) = ([116] : List UInt8) := if_neg q1
            rw [hsh, List.drop_eq_getElem_cons hkl, hy]
            rw [hnmE] at w1 w2
            simp only [numsA, w1]
            by_cases hke : kindErr t.tx y = 0
            · simp only [hke, if_true, decide_true] at hkr
              rw [if_pos hke, w2 hke, numsA_acc]
              have hy3 : y.kd ≠ 3 := partE_ne (w1.trans hke)
              have hE3 : EndL (l.drop (k + 1)) := endL_cons (by rw [← hy, ← List.drop_eq_getElem_cons hkl]; exact hE) hy3
              have hk3' : k + 1 < l.length := by
                rcases Nat.lt_or_ge (k + 1) l.length with h | h
                · exact h
                · exact (endL_ne hE3 (List.drop_eq_nil_of_le h)).elim
              have hB3 := hB2.put (R' := rdS l (k + 1) s e0 l0 c0)
              obtain ⟨ob3, hob3⟩ : ∃ ob3, (34, rdS l (k + 1) s e0 l0 c0) :: del ob2 34 = ob3 := ⟨_, rfl⟩
              rw [hob3] at hkr hB3
              have kf3 : Kf 239000 240000 ob3 := hB3.kf 239 (by omega)
              rcases nums_rule hnums hB3 hl hk3' hE3 t.tx with ⟨ns, k4, ob4, hA, hk4, hB4, hN4, hnr⟩ | ⟨e, x, r, k4, ob4, hA, hB4, hnr⟩
              · have kf4 : Kf 239000 240000 ob4 := hB4.kf 239 (by omega)
                have g4 := hB4.g34
                have hEx : EndL (l.drop k4) := by
                  rcases numsA_spec (fun _ => True) (namesW t.tx) [] (l.drop (k + 1)) hE3 (by simp) with ⟨e, y, r2, q1, _⟩ | ⟨ns2, r2, q1, _, q2, _⟩
                  · rw [hA] at q1; simp at q1
                  · rw [hA] at q1; simp only [List.nil_append, PO.ok.injEq] at q1; rw [q1.2]; exact q2
                have hlen : ns.length = (namesW t.tx).length := by
                  rcases numsA_spec (fun _ => True) (namesW t.tx) [] (l.drop (k + 1)) hE3 (by simp) with ⟨e, y, r2, q1, _⟩ | ⟨ns2, r2, q1, q2, _⟩
                  · rw [hA] at q1; simp at q1
                  · rw [hA] at q1; simp only [List.nil_append, PO.ok.injEq] at q1; rw [q1.1]; exact q2
                have hxr := next_rule hnext hB4 hl hk4
                obtain ⟨x, hx⟩ : ∃ x, l[k4]'hk4 = x := ⟨_, rfl⟩
                have hB5 := hB4.put (R' := rdS l (k4 + 1) s e0 l0 c0)
                have hN5 : get ((34, rdS l (k4 + 1) s e0 l0 c0) :: del ob4 34) 171006 = some ⟨1, nsR ns⟩ := by simp [get, get_del, hN4]
                rw [hx] at hxr
                obtain ⟨ob5, hob5⟩ : ∃ ob5, (34, rdS l (k4 + 1) s e0 l0 c0) :: del ob4 34 = ob5 := ⟨_, rfl⟩
                rw [hob5] at hxr hB5 hN5
                have kf5 : Kf 239000 240000 ob5 := hB5.kf 239 (by omega)
                have kf5' := kf5.del (k := 34)
                have hk11 : Nk 239011 gs ob5 := hB5.nk (by simp [MK32]) o9
                have n11 := hk11.2.1
                have d11 := hk11.2.2
                rw [hA, List.drop_eq_getElem_cons hk4, hx]
                by_cases hx3 : x.kd = 3
                · have z3 := decide_eq_true hx3
                  obtain ⟨ob6, hB6, hsr⟩ := set_rule hset hsetT hB5 c2 hlen (kind := kindN t.tx y) (fun a b => (a q2).elim) hN5 (fun h h' => c5 ⟨h, h'⟩) h8
                  have kf6 : Kf 239000 240000 ob6 := hB6.kf 239 (by omega)
                  simp only [endP, if_pos hx3]
                  refine ⟨k4 + 1, ob6, e0, l0, c0, rfl, by omega, ?_, by have e : fullN t.tx (kindN t.tx y) ns = [kindN t.tx y] ++ ns := (by simp [fullN, q2]); rw [e] at hB6; exact hB6⟩
                  clear hx3
                  simp -implicitDefEqProofs (disch := first | omega | (simp [*] <;> fail) | assumption) [-lenV, hg, o1, o2, o3, o4, o5, o6, o7, o8, o9, o10, o11, p1, p2, p3, p4, p5, p6, p7, p8, p9, p10, p11, n3, d3, kf239, k34, x1, g34, gM, kkS_eq, hfd, hnm, y1, y2, n8, hsl, hmu, kf2, hkr, kf3, hnr, g4, hxr, hsr, kf4, kf5, kf6, n11, d11, z3]
                · have z3 := decide_eq_false hx3
                  have hfr := fail_rule hfail hB5 239011 (by omega) x x
                  simp only [Tk.cells, toAV, List.map_cons, List.map_nil] at hfr
                  simp only [endP, if_neg hx3]
                  refine ⟨k4 + 1, s, mapO (seen ++ [t.tx]), segG s, (34, rdS l (k4 + 1) s 261 x.l x.c) :: del ob5 34, ?_, hB5.put⟩
                  simp -implicitDefEqProofs (disch := first | omega | (simp [*] <;> fail) | assumption) [-lenV, hg, o1, o2, o3, o4, o5, o6, o7, o8, o9, o10, o11, p1, p2, p3, p4, p5, p6, p7, p8, p9, p10, p11, n3, d3, kf239, k34, x1, g34, gM, kkS_eq, hfd, hnm, y1, y2, n8, hsl, hmu, kf2, hkr, kf3, hnr, g4, hxr, hfr, kf4, kf5, kf5', n11, d11, z3]
              · have kf4 : Kf 239000 240000 ob4 := hB4.kf 239 (by omega)
                rw [hA]
                simp only [endP]
                refine ⟨k4, s, mapO (seen ++ [t.tx]), segG s, ob4, ?_, hB4⟩
                simp -implicitDefEqProofs (disch := first | omega | (simp [*] <;> fail) | assumption) [-lenV, hg, o1, o2, o3, o4, o5, o6, o7, o8, o9, o10, o11, p1, p2, p3, p4, p5, p6, p7, p8, p9, p10, p11, n3, d3, kf239, k34, x1, g34, gM, kkS_eq, hfd, hnm, y1, y2, n8, hsl, hmu, kf2, hkr, kf3, hnr, kf4]
            · simp only [hke, if_false, decide_false] at hkr
              rw [if_neg hke]
              simp only [endP]
              have hB3 := hB2.put (R' := rdS l (k + 1) s (kindErr t.tx y) y.l y.c)
              have kf3 := hB3.kf 239 (by omega)
              have kf2' := kf2.del (k := 34)
              refine ⟨k + 1, s, mapO (seen ++ [t.tx]), segG s, _, ?_, hB3⟩
              simp -implicitDefEqProofs (disch := first | omega | (simp [*] <;> fail) | assumption) [-lenV, hg, o1, o2, o3, o4, o5, o6, o7, o8, o9, o10, o11, p1, p2, p3, p4, p5, p6, p7, p8, p9, p10, p11, n3, d3, kf239, k34, x1, g34, gM, kkS_eq, hfd, hnm, y1, y2, n8, hsl, hmu, kf2, hkr, kf2']
      have y2 := decide_eq_false q2
      have c5 : ¬ (t.tx = pTraffic ∧ s.segs.length = 8) := fun h => q2 h.1
      rw [if_neg c5]
      have hfd := hfd' q2
      by_cases q1 : t.tx = pDispatcher
      · have y1 := decide_eq_true q1
        have hkr := kind_rule hkind hB2 hl hkl t.tx
        rw [hy] at hkr
        have hyk := hkd y hymem
        obtain ⟨w1, w2⟩ := word_kind (head := t.tx) hyk
        have hsh : shapeW t.tx = [100] :: namesW t.tx := by rw [shape_names, if_neg q2, if_pos q1]
        have hnmE : (if t.tx = pDispatcher then [100] else [116]) = ([100] : List UInt8) := if_pos q1
        rw [hsh, List.drop_eq_getElem_cons hkl, hy]
        rw [hnmE] at w1 w2
        simp only [numsA, w1]
        by_cases hke : kindErr t.tx y = 0
        · simp only [hke, if_true, decide_true] at hkr
          rw [if_pos hke, w2 hke, numsA_acc]
          have hy3 : y.kd ≠ 3 := partE_ne (w1.trans hke)
          have hE3 : EndL (l.drop (k + 1)) := endL_cons (by rw [← hy, ← List.drop_eq_getElem_cons hkl]; exact hE) hy3
          have hk3' : k + 1 < l.length := by
            rcases Nat.lt_or_ge (k + 1) l.length with h | h
            · exact h
            · exact (endL_ne hE3 (List.drop_eq_nil_of_le h)).elim
          have hB3 := hB2.put (R' := rdS l (k + 1) s e0 l0 c0)
          obtain ⟨ob3, hob3⟩ : ∃ ob3, (34, rdS l (k + 1) s e0 l0 c0) :: del ob2 34 = ob3 := ⟨_, rfl⟩
          rw [hob3] at hkr hB3
          have kf3 : Kf 239000 240000 ob3 := hB3.kf 239 (by omega)
          rcases nums_rule hnums hB3 hl hk3' hE3 t.tx with ⟨ns, k4, ob4, hA, hk4, hB4, hN4, hnr⟩ | ⟨e, x, r, k4, ob4, hA, hB4, hnr⟩
          · have kf4 : Kf 239000 240000 ob4 := hB4.kf 239 (by omega)
            have g4 := hB4.g34
            have hEx : EndL (l.drop k4) := by
              rcases numsA_spec (fun _ => True) (namesW t.tx) [] (l.drop (k + 1)) hE3 (by simp) with ⟨e, y, r2, q1, _⟩ | ⟨ns2, r2, q1, _, q2, _⟩
              · rw [hA] at q1; simp at q1
              · rw [hA] at q1; simp only [List.nil_append, PO.ok.injEq] at q1; rw [q1.2]; exact q2
            have hlen : ns.length = (namesW t.tx).length := by
              rcases numsA_spec (fun _ => True) (namesW t.tx) [] (l.drop (k + 1)) hE3 (by simp) with ⟨e, y, r2, q1, _⟩ | ⟨ns2, r2, q1, q2, _⟩
              · rw [hA] at q1; simp at q1
              · rw [hA] at q1; simp only [List.nil_append, PO.ok.injEq] at q1; rw [q1.1]; exact q2
            have hxr := next_rule hnext hB4 hl hk4
            obtain ⟨x, hx⟩ : ∃ x, l[k4]'hk4 = x := ⟨_, rfl⟩
            have hB5 := hB4.put (R' := rdS l (k4 + 1) s e0 l0 c0)
            have hN5 : get ((34, rdS l (k4 + 1) s e0 l0 c0) :: del ob4 34) 171006 = some ⟨1, nsR ns⟩ := by simp [get, get_del, hN4]
            rw [hx] at hxr
            obtain ⟨ob5, hob5⟩ : ∃ ob5, (34, rdS l (k4 + 1) s e0 l0 c0) :: del ob4 34 = ob5 := ⟨_, rfl⟩
            rw [hob5] at hxr hB5 hN5
            have kf5 : Kf 239000 240000 ob5 := hB5.kf 239 (by omega)
            have kf5' := kf5.del (k := 34)
            have hk11 : Nk 239011 gs ob5 := hB5.nk (by simp [MK32]) o9
            have n11 := hk11.2.1
            have d11 := hk11.2.2
            rw [hA, List.drop_eq_getElem_cons hk4, hx]
            by_cases hx3 : x.kd = 3
            · have z3 := decide_eq_true hx3
              obtain ⟨ob6, hB6, hsr⟩ := set_rule hset hsetT hB5 c2 hlen (kind := kindN t.tx y) (fun a b => (b q1).elim) hN5 (fun h h' => c5 ⟨h, h'⟩) h8
              have kf6 : Kf 239000 240000 ob6 := hB6.kf 239 (by omega)
              simp only [endP, if_pos hx3]
              refine ⟨k4 + 1, ob6, e0, l0, c0, rfl, by omega, ?_, by have e : fullN t.tx (kindN t.tx y) ns = [kindN t.tx y] ++ ns := (by simp [fullN, q1]); rw [e] at hB6; exact hB6⟩
              clear hx3
              simp -implicitDefEqProofs (disch := first | omega | (simp [*] <;> fail) | assumption) [-lenV, hg, o1, o2, o3, o4, o5, o6, o7, o8, o9, o10, o11, p1, p2, p3, p4, p5, p6, p7, p8, p9, p10, p11, n3, d3, kf239, k34, x1, g34, gM, kkS_eq, hfd, y1, y2, hsl, hmu, kf2, hkr, kf3, hnr, g4, hxr, hsr, kf4, kf5, kf6, n11, d11, z3]
            · have z3 := decide_eq_false hx3
              have hfr := fail_rule hfail hB5 239011 (by omega) x x
              simp only [Tk.cells, toAV, List.map_cons, List.map_nil] at hfr
              simp only [endP, if_neg hx3]
              refine ⟨k4 + 1, s, mapO (seen ++ [t.tx]), segG s, (34, rdS l (k4 + 1) s 261 x.l x.c) :: del ob5 34, ?_, hB5.put⟩
              simp -implicitDefEqProofs (disch := first | omega | (simp [*] <;> fail) | assumption) [-lenV, hg, o1, o2, o3, o4, o5, o6, o7, o8, o9, o10, o11, p1, p2, p3, p4, p5, p6, p7, p8, p9, p10, p11, n3, d3, kf239, k34, x1, g34, gM, kkS_eq, hfd, y1, y2, hsl, hmu, kf2, hkr, kf3, hnr, g4, hxr, hfr, kf4, kf5, kf5', n11, d11, z3]
          · have kf4 : Kf 239000 240000 ob4 := hB4.kf 239 (by omega)
            rw [hA]
            simp only [endP]
            refine ⟨k4, s, mapO (seen ++ [t.tx]), segG s, ob4, ?_, hB4⟩
            simp -implicitDefEqProofs (disch := first | omega | (simp [*] <;> fail) | assumption) [-lenV, hg, o1, o2, o3, o4, o5, o6, o7, o8, o9, o10, o11, p1, p2, p3, p4, p5, p6, p7, p8, p9, p10, p11, n3, d3, kf239, k34, x1, g34, gM, kkS_eq, hfd, y1, y2, hsl, hmu, kf2, hkr, kf3, hnr, kf4]
        · simp only [hke, if_false, decide_false] at hkr
          rw [if_neg hke]
          simp only [endP]
          have hB3 := hB2.put (R' := rdS l (k + 1) s (kindErr t.tx y) y.l y.c)
          have kf3 := hB3.kf 239 (by omega)
          have kf2' := kf2.del (k := 34)
          refine ⟨k + 1, s, mapO (seen ++ [t.tx]), segG s, _, ?_, hB3⟩
          simp -implicitDefEqProofs (disch := first | omega | (simp [*] <;> fail) | assumption) [-lenV, hg, o1, o2, o3, o4, o5, o6, o7, o8, o9, o10, o11, p1, p2, p3, p4, p5, p6, p7, p8, p9, p10, p11, n3, d3, kf239, k34, x1, g34, gM, kkS_eq, hfd, y1, y2, hsl, hmu, kf2, hkr, kf2']
      · have y1 := decide_eq_false q1
        obtain ⟨nm0, nms, hns⟩ : ∃ a b, namesW t.tx = a :: b := by
          have : namesW t.tx ≠ [] := by simpa [shapeW, q1, q2] using c2
          exact List.exists_cons_of_ne_nil this
        simp only [hns, reduceCtorEq, if_false] at hnm
        have hsh : shapeW t.tx = namesW t.tx := by rw [shape_names, if_neg q2, if_neg q1]
        rw [hsh]
        have hB3 := hB2
        have hE3 := hE
        have hk3' := hkl
        rcases nums_rule hnums hB3 hl hk3' hE3 t.tx with ⟨ns, k4, ob4, hA, hk4, hB4, hN4, hnr⟩ | ⟨e, x, r, k4, ob4, hA, hB4, hnr⟩
        · have kf4 : Kf 239000 240000 ob4 := hB4.kf 239 (by omega)
          have g4 := hB4.g34
          have hEx : EndL (l.drop k4) := by
            rcases numsA_spec (fun _ => True) (namesW t.tx) [] (l.drop k) hE3 (by simp) with ⟨e, y, r2, q1, _⟩ | ⟨ns2, r2, q1, _, q2, _⟩
            · rw [hA] at q1; simp at q1
            · rw [hA] at q1; simp only [List.nil_append, PO.ok.injEq] at q1; rw [q1.2]; exact q2
          have hlen : ns.length = (namesW t.tx).length := by
            rcases numsA_spec (fun _ => True) (namesW t.tx) [] (l.drop k) hE3 (by simp) with ⟨e, y, r2, q1, _⟩ | ⟨ns2, r2, q1, q2, _⟩
            · rw [hA] at q1; simp at q1
            · rw [hA] at q1; simp only [List.nil_append, PO.ok.injEq] at q1; rw [q1.1]; exact q2
          have hxr := next_rule hnext hB4 hl hk4
          obtain ⟨x, hx⟩ : ∃ x, l[k4]'hk4 = x := ⟨_, rfl⟩
          have hB5 := hB4.put (R' := rdS l (k4 + 1) s e0 l0 c0)
          have hN5 : get ((34, rdS l (k4 + 1) s e0 l0 c0) :: del ob4 34) 171006 = some ⟨1, nsR ns⟩ := by simp [get, get_del, hN4]
          rw [hx] at hxr
          obtain ⟨ob5, hob5⟩ : ∃ ob5, (34, rdS l (k4 + 1) s e0 l0 c0) :: del ob4 34 = ob5 := ⟨_, rfl⟩
          rw [hob5] at hxr hB5 hN5
          have kf5 : Kf 239000 240000 ob5 := hB5.kf 239 (by omega)
          have kf5' := kf5.del (k := 34)
          have hk11 : Nk 239011 gs ob5 := hB5.nk (by simp [MK32]) o9
          have n11 := hk11.2.1
          have d11 := hk11.2.2
          rw [hA, List.drop_eq_getElem_cons hk4, hx]
          by_cases hx3 : x.kd = 3
          · have z3 := decide_eq_true hx3
            obtain ⟨ob6, hB6, hsr⟩ := set_rule hset hsetT hB5 c2 hlen (kind := 0) (fun a b => rfl) hN5 (fun h h' => c5 ⟨h, h'⟩) h8
            have kf6 : Kf 239000 240000 ob6 := hB6.kf 239 (by omega)
            simp only [endP, if_pos hx3]
            refine ⟨k4 + 1, ob6, e0, l0, c0, rfl, by omega, ?_, (by have e : fullN t.tx 0 ns = ns := (by simp [fullN, q1, q2]); rw [e] at hB6; exact hB6)⟩
            clear hx3
            simp -implicitDefEqProofs (disch := first | omega | (simp [*] <;> fail) | assumption) [-lenV, hg, o1, o2, o3, o4, o5, o6, o7, o8, o9, o10, o11, p1, p2, p3, p4, p5, p6, p7, p8, p9, p10, p11, n3, d3, kf239, k34, x1, g34, gM, kkS_eq, hfd, hnm, y1, y2, hsl, hmu, kf2, hnr, g4, hxr, hsr, kf4, kf5, kf6, n11, d11, z3]
          · have z3 := decide_eq_false hx3
            have hfr := fail_rule hfail hB5 239011 (by omega) x x
            simp only [Tk.cells, toAV, List.map_cons, List.map_nil] at hfr
            simp only [endP, if_neg hx3]
            refine ⟨k4 + 1, s, mapO (seen ++ [t.tx]), segG s, (34, rdS l (k4 + 1) s 261 x.l x.c) :: del ob5 34, ?_, hB5.put⟩
            simp -implicitDefEqProofs (disch := first | omega | (simp [*] <;> fail) | assumption) [-lenV, hg, o1, o2, o3, o4, o5, o6, o7, o8, o9, o10, o11, p1, p2, p3, p4, p5, p6, p7, p8, p9, p10, p11, n3, d3, kf239, k34, x1, g34, gM, kkS_eq, hfd, hnm, y1, y2, hsl, hmu, kf2, hnr, g4, hxr, hfr, kf4, kf5, kf5', n11, d11, z3]
        · have kf4 : Kf 239000 240000 ob4 := hB4.kf 239 (by omega)
          rw [hA]
          simp only [endP]
          refine ⟨k4, s, mapO (seen ++ [t.tx]), segG s, ob4, ?_, hB4⟩
          simp -implicitDefEqProofs (disch := first | omega | (simp [*] <;> fail) | assumption) [-lenV, hg, o1, o2, o3, o4, o5, o6, o7, o8, o9, o10, o11, p1, p2, p3, p4, p5, p6, p7, p8, p9, p10, p11, n3, d3, kf239, k34, x1, g34, gM, kkS_eq, hfd, hnm, y1, y2, hsl, hmu, kf2, hnr, kf4]
  · have x1 := decide_eq_false c1
    rw [if_pos (.inl c1)]
    refine ⟨k, s, mapO seen, segG s, (34, rdS l k s 260 t.l t.c) :: del ob 34, ?_, hB.put⟩
    simp -implicitDefEqProofs (disch := first | omega | (simp [*] <;> fail) | assumption) [hg, o3, o8, n3, d3, hf, hnm, x1, kf239, k34]
end Go.Am
