/- Law 26: the document's answer. -/
import Derived.Test.YtdhlplgkpgbpjaaParR
import Derived.Test.YtdhlplgkpgbpjaaLexRefD
import Derived.Test.YtdhlplgkpgbpjaaParG
import Derived.Test.YtdhlplgkpgbpjaaPrsMay
set_option linter.unusedVariables false
set_option linter.unusedSimpArgs false
set_option maxRecDepth 10000
set_option maxHeartbeats 2000000
namespace Go.Am
def TextC26 (g : List AV → Option (List AV)) : Prop := ∀ x : List UInt8, x.length ≤ 50000 → g [st x] = some [.agg (parseR x).s.cells, .agg [.int .i64 (parseR x).e, .int .i64 (parseR x).l, .int .i64 (parseR x).c]]
abbrev scA (s : Scn) (g : AV) : List AV := [i64 s.floors, i64 s.gap, i64 s.cars, i64 s.capacity, i64 s.opn, i64 s.dwell, i64 s.cls, i64 s.transfer, g, i64 s.disp, i64 s.horizon, i64 s.bins, i64 s.width]
abbrev z13 : Obj := ⟨13, [[i64 0, i64 0, i64 0, i64 0, i64 0, i64 0, i64 0, i64 0, .nil 3, i64 0, i64 0, i64 0, i64 0]]⟩
abbrev y13 : Obj := ⟨13, [[i64 0, i64 0, i64 0, i64 0, i64 0, i64 0, i64 0, i64 0, .c (.vs 3 []), i64 0, i64 0, i64 0, i64 0]]⟩
abbrev z3 : Obj := ⟨3, [[i64 0, i64 0, i64 0]]⟩
abbrev tksV (l : List Tk) : AV := .c (.vs 5 (l.map Tk.cells))
abbrev strsR (l : List (List UInt8)) : Rows := l.map (toAV ∘ strQ)
def retBad (e : Int) (t : Tk) : St := ⟨[(2, .loc 2 0 0), (3, .loc 3 0 0)], [(2, y13), (3, ⟨3, [[i64 e, i64 t.l, i64 t.c]]⟩)]⟩
/-- The parts of a line. -/
theorem ref26_parts (Γ : Env) (M : Nat) (hM : 10 < M) (h154 : PartC (Γ 154)) (h151 : ProbC26 (Γ 151)) (l : List Tk) (hl : l.length < 100000) (parts : List (List UInt8)) (hp : parts.length ≤ 4) (i0 : Nat) (hE : EndL (l.drop (i0 + 1))) (o6 o7 o9 : Obj) (n7 : Nat) (c6 : lcRows 13 o6.rows = true) (c7 : lcRows 13 o7.rows = true) (c9 : lcRows 13 o9.rows = true) :
    ∃ ax s', ((∃ ns r' p', numsA [] parts (l.drop (i0 + 1)) = .ok ns r' ∧ l.drop (p' + 1) = r' ∧ ns.length = parts.length ∧ p' + 1 < l.length ∧ i0 ≤ p' ∧ ax = .ex 2 ∧ s' = ⟨[(2, .loc 2 0 0), (3, .loc 3 0 0), (4, tksV l), (6, .loc 6 0 0), (7, .sl 7 n7 0 n7), (8, i64 p'), (9, .loc 9 0 0), (13, .sl 13 ns.length 0 ns.length)], [(2, z13), (3, z3), (6, o6), (7, o7), (9, o9), (13, ⟨1, nsR ns⟩)]⟩) ∨
      (∃ e t r', numsA [] parts (l.drop (i0 + 1)) = .bad e t r' ∧ ax = .ret ∧ s' = retBad e t)) ∧
      ∀ s, nrm [2, 3, 4, 6, 7, 8, 9, 10, 13, 14] [2, 3, 6, 7, 9, 13, 87, 121] s = ⟨[(2, .loc 2 0 0), (3, .loc 3 0 0), (4, tksV l), (6, .loc 6 0 0), (7, .sl 7 n7 0 n7), (8, i64 i0), (9, .loc 9 0 0), (10, .c (.vs 1 (parts.map strQ))), (13, .sl 13 0 0 0), (14, i64 (0 : Nat))], [(2, z13), (3, z3), (6, o6), (7, o7), (9, o9), (13, ⟨1, nsR []⟩)]⟩ →
        lp (exec Γ M ref26_Text_l2) M s = some (ax, s') := by
  obtain ⟨R, hR⟩ : ∃ R, numsA [] parts (l.drop (i0 + 1)) = R := ⟨_, rfl⟩
  rw [hR]
  have hi0 : i0 + 1 < l.length := by
    rcases Nat.lt_or_ge (i0 + 1) l.length with h | h
    · exact h
    · exact (endL_ne hE (List.drop_eq_nil_of_le h)).elim
  refine lp_all (fun q : List Int × Nat => ⟨[(2, .loc 2 0 0), (3, .loc 3 0 0), (4, tksV l), (6, .loc 6 0 0), (7, .sl 7 n7 0 n7), (8, i64 q.2), (9, .loc 9 0 0), (10, .c (.vs 1 (parts.map strQ))), (13, .sl 13 q.1.length 0 q.1.length), (14, i64 q.1.length)], [(2, z13), (3, z3), (6, o6), (7, o7), (9, o9), (13, ⟨1, nsR q.1⟩)]⟩)
    (fun q => q.2 = i0 + q.1.length ∧ q.1.length ≤ parts.length ∧ q.2 + 1 < l.length ∧ EndL (l.drop (q.2 + 1)) ∧ numsA q.1 (parts.drop q.1.length) (l.drop (q.2 + 1)) = R) (fun q => parts.length - q.1.length) _ ([], i0) M (by simp) ⟨by simp, by simp, by simpa using hi0, by simpa using hE, by simpa using hR⟩ (by simp only [List.length_nil]; omega) ?_
  rintro ⟨acc, p⟩ ⟨hp0, h1, h2, h3, h4⟩
  simp only at hp0 h1 h2 h3 h4 ⊢
  by_cases hlt : acc.length < parts.length
  · obtain ⟨nm, hnm⟩ : ∃ nm, parts[acc.length]'hlt = nm := ⟨_, rfl⟩
    obtain ⟨t, ht⟩ : ∃ t, l[p + 1]'h2 = t := ⟨_, rfl⟩
    rw [List.drop_eq_getElem_cons hlt, List.drop_eq_getElem_cons h2, hnm, ht] at h4
    rw [List.drop_eq_getElem_cons h2, ht] at h3
    simp only [numsA] at h4
    have hpt := h154 nm t
    have hpb := h151 (partE nm t) t
    by_cases h0 : partE nm t = 0
    · simp only [if_pos h0] at h4 hpt
      rw [h0] at hpt
      have hE2 := endL_cons h3 (partE_ne h0)
      have hroom : room (acc.length + 1) 8 = true := by simp only [room, decide_eq_true_eq]; omega
      simp -implicitDefEqProofs (disch := first | omega | assumption) [hlt, hnm, ht, h2, strQ, hpt, hroom, c6, c7, c9, lcRows_nsR]
      have h2' : p + 1 + 1 < l.length := by
        rcases Nat.lt_or_ge (p + 1 + 1) l.length with h | h
        · exact h
        · exact (endL_ne hE2 (List.drop_eq_nil_of_le h)).elim
      refine ⟨acc ++ [partN nm t], p + 1, ⟨⟨by simp, by simp, by simp⟩, by simp [nsR]⟩, ⟨by simp; omega, by simp; omega, h2', hE2, ?_⟩, by simp; omega⟩
      rw [← h4, List.length_append, List.length_singleton]
    · simp only [if_neg h0] at h4 hpt
      simp -implicitDefEqProofs (disch := first | omega | assumption) [hlt, hnm, ht, h2, strQ, hpt, hpb, h0, scnZ]
      exact ⟨_, t, ⟨_, h4.symm⟩, rfl⟩
  · simp -implicitDefEqProofs (disch := first | omega | assumption) [hlt]
    have hie : acc.length = parts.length := by omega
    rw [hie, List.drop_length] at h4
    simp only [numsA] at h4
    exact ⟨acc, _, h4.symm, p, rfl, hie, h2, by omega, ⟨rfl, rfl⟩, rfl⟩
theorem putC_segs {s : Scn} {w : List UInt8} {ns : List Int} (hne : shapeW w ≠ []) (hl : ns.length = (shapeW w).length) : (putC s w ns).segs.length = s.segs.length + if w = pTraffic then 1 else 0 := by
  have hw := shapeW_mem hne
  simp only [linesW, List.mem_cons, List.not_mem_nil, or_false] at hw
  rcases hw with rfl | rfl | rfl | rfl | rfl | rfl | rfl
  · obtain ⟨a, b, rfl⟩ : ∃ a b, ns = [a, b] := by
      match ns, hl with
      | [a, b], _ => exact ⟨a, b, rfl⟩
    simp [putC]
  · obtain ⟨a, b, rfl⟩ : ∃ a b, ns = [a, b] := by
      match ns, hl with
      | [a, b], _ => exact ⟨a, b, rfl⟩
    simp [putC]
  · obtain ⟨a, b, c, d, rfl⟩ : ∃ a b c d, ns = [a, b, c, d] := by
      match ns, hl with
      | [a, b, c, d], _ => exact ⟨a, b, c, d, rfl⟩
    simp [putC]
  · obtain ⟨k, a, b, rfl⟩ : ∃ k a b, ns = [k, a, b] := by
      match ns, hl with
      | [a, b, c], _ => exact ⟨a, b, c, rfl⟩
    simp [putC]
  · obtain ⟨a, rfl⟩ : ∃ a, ns = [a] := List.length_eq_one_iff.1 hl
    simp [putC]
  · obtain ⟨a, rfl⟩ : ∃ a, ns = [a] := List.length_eq_one_iff.1 hl
    simp [putC]
  · obtain ⟨a, b, rfl⟩ : ∃ a b, ns = [a, b] := by
      match ns, hl with
      | [a, b], _ => exact ⟨a, b, rfl⟩
    simp [putC]
theorem nmRows_strsR (k : Nat) (l : List (List UInt8)) : nmRows k (strsR l) = true := nmRows_comp k _ l
theorem lcRows_strsR (k : Nat) (l : List (List UInt8)) : lcRows k (strsR l) = true := lcRows_comp k _ l
/-- What stands for the segments. -/
def SegV (s : Scn) (g : AV) : Prop := g = .nil 3 ∧ s.segs = [] ∨ g = .c (.vs 3 (s.segs.map Seg.cells))
theorem SegV.names {s : Scn} {g : AV} (h : SegV s g) (k : Nat) : g.names k = false := by
  rcases h with ⟨rfl, _⟩ | rfl <;> rfl
theorem SegV.isLoc {s : Scn} {g : AV} (h : SegV s g) (k : Nat) : g.isLoc k = false := by
  rcases h with ⟨rfl, _⟩ | rfl <;> rfl
theorem SegV.load {s : Scn} {g : AV} (h : SegV s g) : allD (scA s g) = some s.cells := by
  rcases h with ⟨rfl, h⟩ | rfl
  · simp [h]
  · simp
/-- The lines. -/
theorem ref26_lines (Γ : Env) (M : Nat) (hM : 65545 < M) (h154 : PartC (Γ 154)) (h151 : ProbC26 (Γ 151)) (h155 : ShapeC (Γ 155)) (h152 : CountC (Γ 152)) (h153 : PutC26 (Γ 153)) (l : List Tk) (hl : l.length ≤ 60000) (last : Tk) (hE : EndL l) (R : PR) (hR : textP last (l.length + 1) scnZ [] l = R) :
    ∃ ax s', ((∃ s g seen, SegV s g ∧ seen.length ≤ 60000 ∧ R = textP last 1 s seen [] ∧ ax = .ex 0 ∧ s' = ⟨[(2, .loc 2 0 0), (3, .loc 3 0 0), (4, tksV l), (6, .loc 6 0 0), (7, .sl 7 seen.length 0 seen.length)], [(2, z13), (3, z3), (6, ⟨13, [scA s g]⟩), (7, ⟨1, strsR seen⟩)]⟩) ∨
      (∃ e t, R = badR e t ∧ ax = .ret ∧ s' = retBad e t)) ∧
      ∀ s, nrm [2, 3, 4, 6, 7, 8] [2, 3, 6, 7, 87] s = ⟨[(2, .loc 2 0 0), (3, .loc 3 0 0), (4, tksV l), (6, .loc 6 0 0), (7, .sl 7 0 0 0), (8, i64 (0 : Nat))], [(2, z13), (3, z3), (6, ⟨13, [scA scnZ (.nil 3)]⟩), (7, ⟨1, strsR []⟩)]⟩ →
        lp (exec Γ M ref26_Text_l3) M s = some (ax, s') := by
  refine lp_all (fun q : Nat × Scn × AV × List (List UInt8) => ⟨[(2, .loc 2 0 0), (3, .loc 3 0 0), (4, tksV l), (6, .loc 6 0 0), (7, .sl 7 q.2.2.2.length 0 q.2.2.2.length), (8, i64 q.1)], [(2, z13), (3, z3), (6, ⟨13, [scA q.2.1 q.2.2.1]⟩), (7, ⟨1, strsR q.2.2.2⟩)]⟩)
    (fun q => q.1 ≤ l.length ∧ SegV q.2.1 q.2.2.1 ∧ q.2.2.2.length ≤ q.1 ∧ (l.drop q.1 = [] ∨ EndL (l.drop q.1)) ∧ q.2.1.segs.length = q.2.2.2.count pTraffic ∧ q.2.1.segs.length ≤ 8 ∧ ∀ f, (l.drop q.1).length < f → textP last f q.2.1 q.2.2.2 (l.drop q.1) = R) (fun q => l.length - q.1) _ (0, scnZ, .nil 3, []) M (by simp)
    ⟨by simp, .inl ⟨rfl, rfl⟩, by simp, .inr hE, by simp [scnZ], by simp [scnZ], ?_⟩ (by simp only; omega) ?_
  · intro f hf
    rw [← hR]
    exact textP_fuel last f (l.length + 1) scnZ [] l (.inr hE) hf (by omega)
  rintro ⟨i, s, g, seen⟩ ⟨hi, hg, hsn, hEl, hcnt, h8, hf⟩
  simp only at hi hg hsn hEl hcnt h8 hf ⊢
  have hgn := hg.names
  have hgl := hg.isLoc
  have hgd := hg.load
  by_cases hlt : i < l.length
  · obtain ⟨t, ht⟩ : ∃ t, l[i]'hlt = t := ⟨_, rfl⟩
    rw [List.drop_eq_getElem_cons hlt, ht] at hEl hf
    have hEl : EndL (t :: l.drop (i + 1)) := hEl.resolve_left (by simp)
    have hlen : (l.drop (i + 1)).length = l.length - (i + 1) := List.length_drop
    have hf1 := hf (l.length + 1) (by simp only [List.length_cons]; omega)
    simp only [textP] at hf1
    by_cases h3 : t.kd = 3
    · simp -implicitDefEqProofs (disch := first | omega | assumption) [hlt, ht, h3]
      refine ⟨i + 1, s, g, seen, ⟨⟨rfl, by simp⟩, by simp, rfl⟩, ⟨by omega, hg, by omega, ?_, hcnt, h8, ?_⟩, by omega⟩
      · rcases endL_or hEl with h | h
        · exact .inl (List.drop_eq_nil_iff.1 h)
        · exact .inr h
      · intro f hff
        have := hf (f + 1) (by simp only [List.length_cons]; omega)
        simpa only [textP, if_pos h3] using this
    have hsh := h155 t.tx
    have hct := h152 seen t.tx (by omega)
    have hcl := List.count_le_length (a := t.tx) (l := seen)
    have htk : (seen.map strQ).take seen.length = seen.map strQ := List.take_of_length_le (by simp)
    have hpr := fun e => h151 e t
    rw [if_neg h3] at hf1
    unfold lineP at hf1
    have x3 := decide_eq_false h3
    by_cases c1 : t.kd = 1
    · have x1 := decide_eq_true c1
      by_cases c2 : shapeW t.tx = []
      · rw [if_pos (.inr c2)] at hf1
        simp only [c2, ne_eq, not_true, decide_false, List.map_nil] at hsh
        simp -implicitDefEqProofs (disch := first | omega | assumption) [hlt, ht, x3, x1, hsh, hpr, scnZ, hgn, hgl]
        exact ⟨260, t, hf1.symm, rfl⟩
      · rw [if_neg (by simp [c1, c2])] at hf1
        simp only [ne_eq, c2, not_false_eq_true, decide_true] at hsh
        by_cases c3 : t.tx ∈ seen ∧ t.tx ≠ pTraffic
        · rw [if_pos c3] at hf1
          obtain ⟨c3, c4⟩ := c3
          have hpos : 0 < seen.count t.tx := List.count_pos_iff.2 c3
          generalize seen.count t.tx = n at *
          simp -implicitDefEqProofs (disch := first | omega | assumption) [hlt, ht, x3, x1, hsh, hpr, scnZ, hgn, hgl, hct, htk, hpos, c4]
          exact ⟨262, t, hf1.symm, rfl⟩
        rw [if_neg c3] at hf1
        by_cases c5 : t.tx = pTraffic ∧ s.segs.length = 8
        · rw [if_pos c5] at hf1
          obtain ⟨c5, c6⟩ := c5
          have x5 := decide_eq_true c5
          have hn : seen.count t.tx = 8 := by rw [c5, ← hcnt, c6]
          rw [hn] at hct
          simp -implicitDefEqProofs (disch := first | omega | assumption) [hlt, ht, x3, x1, hsh, hpr, scnZ, hgn, hgl, hct, htk, x5]
          exact ⟨21, t, hf1.symm, rfl⟩
        rw [if_neg c5] at hf1
        have hn8 : ¬ seen.count t.tx = 8 := by
          intro h
          have h1 : t.tx ∈ seen := List.count_pos_iff.1 (by omega)
          have h2 : t.tx = pTraffic := Decidable.not_not.1 fun h2 => c3 ⟨h1, h2⟩
          exact c5 ⟨h2, by rw [hcnt, ← h2, h]⟩
        have hz : 0 < seen.count t.tx → t.tx = pTraffic := fun h => Decidable.not_not.1 fun h2 => c3 ⟨List.count_pos_iff.1 h, h2⟩
        obtain ⟨n, hn⟩ : ∃ n, seen.count t.tx = n := ⟨_, rfl⟩
        rw [hn] at hct hn8 hz hcl
        have x5 : (decide (0 < n) && !decide (t.tx = pTraffic)) = false := by
          by_cases h : 0 < n
          · simp [hz h]
          · simp [h]
        have hE1 := endL_cons hEl h3
        have hroom : room (seen.length + 1) 16 = true := by simp only [room, decide_eq_true_eq]; omega
        have hs4 : (shapeW t.tx).length ≤ 4 := by unfold shapeW; (repeat' split) <;> first | decide | exact namesW_len _
        obtain ⟨ax, s', hres, hin⟩ := ref26_parts Γ M (by omega) h154 h151 l (by omega) (shapeW t.tx) hs4 i hE1 ⟨13, [scA s g]⟩ ⟨1, strsR (seen ++ [t.tx])⟩ ⟨5, [toAV t.cells]⟩ (seen.length + 1) (by simp [hgl]) (lcRows_strsR _ _) (by simp)
        have hlp := hin ⟨[(2, .loc 2 0 0), (3, .loc 3 0 0), (4, tksV l), (6, .loc 6 0 0), (7, .sl 7 (seen.length + 1) 0 (seen.length + 1)), (8, i64 i), (9, .loc 9 0 0), (10, .c (.vs 1 ((shapeW t.tx).map strQ))), (13, .sl 13 0 0 0), (14, i64 (0 : Nat))], [(2, z13), (3, z3), (6, ⟨13, [scA s g]⟩), (7, ⟨1, strsR (seen ++ [t.tx])⟩), (9, ⟨5, [toAV t.cells]⟩), (13, ⟨1, nsR []⟩)]⟩ (by simp)
        simp [strQ] at hlp
        rcases hres with ⟨ns, r', p', h1, h2, h4, h5, h6, rfl, rfl⟩ | ⟨e, t', r', h1, rfl, rfl⟩
        · rw [h1] at hf1
          obtain ⟨x, hx⟩ : ∃ x, l[p' + 1]'h5 = x := ⟨_, rfl⟩
          rw [← h2, List.drop_eq_getElem_cons h5, hx] at hf1
          simp only [endP] at hf1
          by_cases k3 : x.kd = 3
          · rw [if_pos k3] at hf1
            have y3 := decide_eq_true k3
            have hput := h153 s t.tx ns c2 h4 (by omega)
            have har : allRows (nsR ns) = some (ns.map intQ) := allRows_nsR ns
            have hns : (ns.map intQ).take ns.length = ns.map intQ := List.take_of_length_le (by simp)
            have hf2 : ∀ g', SegV (putC s t.tx ns) g' → p' + 1 + 1 ≤ l.length ∧ SegV (putC s t.tx ns) g' ∧ (seen ++ [t.tx]).length ≤ p' + 1 + 1 ∧ (l.length ≤ p' + 1 + 1 ∨ EndL (l.drop (p' + 1 + 1))) ∧ (putC s t.tx ns).segs.length = (seen ++ [t.tx]).count pTraffic ∧ (putC s t.tx ns).segs.length ≤ 8 ∧ ∀ f, l.length - (p' + 1 + 1) < f → textP last f (putC s t.tx ns) (seen ++ [t.tx]) (l.drop (p' + 1 + 1)) = R := fun g' hg' => by
              have hps := putC_segs (s := s) c2 h4
              have hEr : l.length ≤ p' + 1 + 1 ∨ EndL (l.drop (p' + 1 + 1)) := by
                rcases numsA_spec (fun _ => True) (shapeW t.tx) [] (l.drop (i + 1)) hE1 (by simp) with ⟨e, y, r2, q1, _⟩ | ⟨ns2, r2, q1, _, q2, _⟩
                · rw [h1] at q1; simp at q1
                · rw [h1] at q1
                  simp only [List.nil_append, PO.ok.injEq] at q1
                  obtain ⟨_, rfl⟩ := q1
                  rw [← h2, List.drop_eq_getElem_cons h5] at q2
                  exact (endL_or q2).imp List.drop_eq_nil_iff.1 id
              refine ⟨by omega, hg', by simp; omega, hEr, ?_, ?_, fun f hff => ?_⟩
              · rw [hps, List.count_append, List.count_singleton, hcnt]
                by_cases hw : t.tx = pTraffic
                · rw [hw]; simp
                · simp [hw]
              · rw [hps]; split
                · rename_i hw; have : s.segs.length ≠ 8 := fun h => c5 ⟨hw, h⟩; omega
                · omega
              · rw [← hf1]
                exact textP_fuel last f l.length _ _ _ (hEr.imp List.drop_eq_nil_of_le id) (by rw [List.length_drop]; exact hff) (by rw [List.length_drop]; omega)
            rcases hg with ⟨rfl, hs⟩ | rfl
            · simp only [Scn.cells, hs, List.map_nil] at hput
              simp -implicitDefEqProofs (disch := first | omega | assumption) [hlt, ht, x3, x1, hsh, hpr, scnZ, hgn, hgl, hct, htk, x5, hn8, hroom, hlp, hx, h5, y3, hput, har, hns, strQ, nmRows_comp, lcRows_comp]
              exact ⟨p' + 1 + 1, putC s t.tx ns, _, seen ++ [t.tx], ⟨⟨by simp, by simp⟩, by simp, by simp [strQ]⟩, hf2 _ (.inr rfl), by omega⟩
            · simp only [Scn.cells] at hput
              simp -implicitDefEqProofs (disch := first | omega | assumption) [hlt, ht, x3, x1, hsh, hpr, scnZ, hgn, hgl, hct, htk, x5, hn8, hroom, hlp, hx, h5, y3, hput, har, hns, strQ, nmRows_comp, lcRows_comp]
              exact ⟨p' + 1 + 1, putC s t.tx ns, _, seen ++ [t.tx], ⟨⟨by simp, by simp⟩, by simp, by simp [strQ]⟩, hf2 _ (.inr rfl), by omega⟩
          · rw [if_neg k3] at hf1
            have y3 := decide_eq_false k3
            have hpx := h151 261 x
            simp -implicitDefEqProofs (disch := first | omega | assumption) [hlt, ht, x3, x1, hsh, hpr, scnZ, hgn, hgl, hct, htk, x5, hn8, hroom, hlp, hx, h5, y3, hpx, strQ, nmRows_comp, lcRows_comp]
            exact ⟨261, x, hf1.symm, rfl⟩
        · rw [h1] at hf1
          simp -implicitDefEqProofs (disch := first | omega | assumption) [hlt, ht, x3, x1, hsh, hpr, scnZ, hgn, hgl, hct, htk, x5, hn8, hroom, hlp, strQ, nmRows_comp, lcRows_comp]
          exact ⟨e, t', hf1.symm, rfl⟩
    · rw [if_pos (.inl c1)] at hf1
      have x1 := decide_eq_false c1
      simp -implicitDefEqProofs (disch := first | omega | assumption) [hlt, ht, x3, x1, hsh, hpr, scnZ, hgn, hgl]
      exact ⟨260, t, hf1.symm, rfl⟩
  · obtain rfl : i = l.length := by omega
    simp -implicitDefEqProofs (disch := first | omega | assumption) [hlt]
    have := hf 1 (by simp)
    rw [List.drop_length] at this
    exact ⟨s, g, hg, seen, by omega, this.symm, rfl, by simp, rfl⟩
abbrev linA : List AV := [st pBuilding, st pCars, st pDoors, st pTraffic, st pDispatcher, st pHorizon, st pBins]
/-- Are all lines there? -/
theorem ref26_check (Γ : Env) (M : Nat) (hM : 10 < M) (h151 : ProbC26 (Γ 151)) (h152 : CountC (Γ 152)) (l : List Tk) (hl : l.length ≤ 60000) (last : Tk) (hlt : 0 < l.length) (hlast : l[l.length - 1] = last) (o6 : Obj) (seen : List (List UInt8)) (hs : seen.length ≤ 60000) :
    ∃ ax s', ((lackW seen = false ∧ ax = .ex 4 ∧ s' = ⟨[(2, .loc 2 0 0), (3, .loc 3 0 0), (6, .loc 6 0 0)], [(2, z13), (3, z3), (6, o6)]⟩) ∨ (lackW seen = true ∧ ax = .ret ∧ s' = retBad 263 last)) ∧
      ∀ s, nrm [2, 3, 4, 6, 7, 17, 18] [2, 3, 6, 7, 17, 87] s = ⟨[(2, .loc 2 0 0), (3, .loc 3 0 0), (4, tksV l), (6, .loc 6 0 0), (7, .sl 7 seen.length 0 seen.length), (17, .loc 17 0 0), (18, i64 (0 : Nat))], [(2, z13), (3, z3), (6, o6), (7, ⟨1, strsR seen⟩), (17, ⟨7, [linA]⟩)]⟩ →
        lp (exec Γ M ref26_Text_l1) M s = some (ax, s') := by
  have htk : (seen.map strQ).take seen.length = seen.map strQ := List.take_of_length_le (by simp)
  have hpr := h151 263 last
  refine lp_all (fun k : Nat => ⟨[(2, .loc 2 0 0), (3, .loc 3 0 0), (4, tksV l), (6, .loc 6 0 0), (7, .sl 7 seen.length 0 seen.length), (17, .loc 17 0 0), (18, i64 k)], [(2, z13), (3, z3), (6, o6), (7, ⟨1, strsR seen⟩), (17, ⟨7, [linA]⟩)]⟩)
    (fun k => k ≤ 7 ∧ ∀ w ∈ linesW.take k, w ∈ seen) (fun k => 7 - k) _ 0 M (by simp) ⟨by omega, by simp⟩ (by omega) ?_
  rintro k ⟨hk, hw⟩
  have step : ∀ w, linesW[k]? = some w → k < 7 ∧ ((w ∈ seen ∧ 0 < seen.count w ∧ ¬ seen.count w = 0 ∧ k + 1 ≤ 7 ∧ ∀ w ∈ linesW.take (k + 1), w ∈ seen) ∨ (w ∉ seen ∧ seen.count w = 0 ∧ lackW seen = true)) := fun w h => by
    refine ⟨by have := (List.getElem?_eq_some_iff.1 h).1; simpa [linesW] using this, ?_⟩
    by_cases hm : w ∈ seen
    · have hpos := List.count_pos_iff.2 hm
      refine .inl ⟨hm, hpos, by omega, by have := (List.getElem?_eq_some_iff.1 h).1; simp [linesW] at this; omega, ?_⟩
      intro x hx
      rw [List.take_add_one, h] at hx
      simp only [Option.toList, List.mem_append, List.mem_singleton] at hx
      rcases hx with hx | rfl
      · exact hw x hx
      · exact hm
    · refine .inr ⟨hm, List.count_eq_zero.2 hm, ?_⟩
      simp only [lackW, List.any_eq_true, decide_eq_true_eq]
      exact ⟨w, List.mem_of_getElem? h, hm⟩
  by_cases h7 : k = 7
  · subst h7
    have hlk : lackW seen = false := by
      simp only [lackW, List.any_eq_false, decide_eq_true_eq, Decidable.not_not]
      intro x hx; exact hw x (by simpa [linesW] using hx)
    simp -implicitDefEqProofs (disch := first | omega | assumption) [hlk]
  have hcs : k = 0 ∨ k = 1 ∨ k = 2 ∨ k = 3 ∨ k = 4 ∨ k = 5 ∨ k = 6 := by omega
  have go : ∀ w, linesW[k]? = some w → linA[k]? = some (st w) → LPost (fun k : Nat => (⟨[(2, .loc 2 0 0), (3, .loc 3 0 0), (4, tksV l), (6, .loc 6 0 0), (7, .sl 7 seen.length 0 seen.length), (17, .loc 17 0 0), (18, i64 k)], [(2, z13), (3, z3), (6, o6), (7, ⟨1, strsR seen⟩), (17, ⟨7, [linA]⟩)]⟩ : St))
    (fun k => k ≤ 7 ∧ ∀ w ∈ linesW.take k, w ∈ seen) (fun k => 7 - k) [2, 3, 4, 6, 7, 17, 18] [2, 3, 6, 7, 17, 87] (fun ax s' => (lackW seen = false ∧ ax = .ex 4 ∧ s' = ⟨[(2, .loc 2 0 0), (3, .loc 3 0 0), (6, .loc 6 0 0)], [(2, z13), (3, z3), (6, o6)]⟩) ∨ (lackW seen = true ∧ ax = .ret ∧ s' = retBad 263 last)) k
    (exec Γ M ref26_Text_l1b ⟨[(2, .loc 2 0 0), (3, .loc 3 0 0), (4, tksV l), (6, .loc 6 0 0), (7, .sl 7 seen.length 0 seen.length), (17, .loc 17 0 0), (18, i64 k)], [(2, z13), (3, z3), (6, o6), (7, ⟨1, strsR seen⟩), (17, ⟨7, [linA]⟩)]⟩) := fun w h1 h2 => by
    obtain ⟨hk7, hst⟩ := step w h1
    have hct := h152 seen w hs
    obtain ⟨n, hn⟩ : ∃ n, seen.count w = n := ⟨_, rfl⟩
    rw [hn] at hct hst
    generalize hA : linA = A at *
    have hAl : A.length = 7 := by rw [← hA]; rfl
    obtain ⟨hka, hkw⟩ := List.getElem?_eq_some_iff.1 h2
    have hk6 : k ≤ 6 := by omega
    rcases hst with ⟨_, h3, h4, h5, h6⟩ | ⟨_, h3, h4⟩
    · simp -implicitDefEqProofs (disch := first | omega | assumption) [hk7, hAl, hkw, hk6, hct, htk, h4]
      exact ⟨k + 1, by simp, ⟨h5, h6⟩, by omega⟩
    · subst h3
      simp -implicitDefEqProofs (disch := first | omega | assumption) [hk7, hAl, hkw, hk6, hct, htk, hlt, hlast, hpr, scnZ, h4, retBad]
  rcases hcs with rfl | rfl | rfl | rfl | rfl | rfl | rfl
  all_goals exact go _ rfl rfl
theorem ref26_Text_run (Γ : Env) (M : Nat) (hM : 65545 < M) (h39 : ScanC (Γ 39)) (h154 : PartC (Γ 154)) (h151 : ProbC26 (Γ 151)) (h155 : ShapeC (Γ 155)) (h152 : CountC (Γ 152)) (h153 : PutC26 (Γ 153)) : TextC26 (run Γ M ref26_Text_f) := by
  intro x hx
  have hsc := h39 x (by omega)
  have hlen := scanR_len x
  have hok := (scanR_ok x (by omega)).2
  unfold parseR
  obtain ⟨R, hR⟩ : ∃ R, scanR x = R := ⟨_, rfl⟩
  rw [hR] at hsc hlen hok ⊢
  by_cases h0 : R.e = 0
  · rw [if_pos h0]
    have hE : EndL R.ts := hok h0
    have hne := endL_ne hE
    have hpos : 0 < R.ts.length := List.length_pos_iff.2 hne
    have hlast : R.ts[R.ts.length - 1]'(by omega) = R.ts.getLastD tk0 := by
      rw [List.getLastD_eq_getLast?, List.getLast?_eq_getElem?, List.getElem?_eq_getElem (by omega)]; rfl
    obtain ⟨T, hT⟩ : ∃ T, parseT R.ts = T := ⟨_, rfl⟩
    rw [hT]
    obtain ⟨ax, s', hres, hin⟩ := ref26_lines Γ M hM h154 h151 h155 h152 h153 R.ts (by omega) (R.ts.getLastD tk0) hE T hT
    have hlp := hin ⟨[(2, .loc 2 0 0), (3, .loc 3 0 0), (4, tksV R.ts), (6, .loc 6 0 0), (7, .sl 7 0 0 0), (8, i64 (0 : Nat))], [(2, z13), (3, z3), (6, ⟨13, [scA scnZ (.nil 3)]⟩), (7, ⟨1, strsR []⟩)]⟩ (by simp)
    simp [scnZ] at hlp
    rcases hres with ⟨s, g, seen, hg, hsn, hTT, rfl, rfl⟩ | ⟨e, t, hTT, rfl, rfl⟩
    · obtain ⟨ax, s', hres2, hin2⟩ := ref26_check Γ M (by omega) h151 h152 R.ts (by omega) (R.ts.getLastD tk0) hpos hlast ⟨13, [scA s g]⟩ seen hsn
      have hlp2 := hin2 ⟨[(2, .loc 2 0 0), (3, .loc 3 0 0), (4, tksV R.ts), (6, .loc 6 0 0), (7, .sl 7 seen.length 0 seen.length), (17, .loc 17 0 0), (18, i64 (0 : Nat))], [(2, z13), (3, z3), (6, ⟨13, [scA s g]⟩), (7, ⟨1, strsR seen⟩), (17, ⟨7, [linA]⟩)]⟩ (by simp)
      simp at hlp2
      have hgn := hg.names
      have hgl := hg.isLoc
      rcases hres2 with ⟨hl, rfl, rfl⟩ | ⟨hl, rfl, rfl⟩
      · simp only [textP, hl, Bool.false_eq_true, if_false] at hTT
        subst hTT
        rcases hg with ⟨rfl, hs⟩ | rfl
        · simp -implicitDefEqProofs (disch := first | omega | assumption) [hsc, h0, hlp, hlp2, hgn, hgl, nmRows_comp, hs]
        · simp -implicitDefEqProofs (disch := first | omega | assumption) [hsc, h0, hlp, hlp2, hgn, hgl, nmRows_comp]
      · simp only [textP, hl, if_true] at hTT
        subst hTT
        simp -implicitDefEqProofs (disch := first | omega | assumption) [hsc, h0, hlp, hlp2, hgn, hgl, nmRows_comp, retBad, badR, scnZ]
    · subst hTT
      simp -implicitDefEqProofs (disch := first | omega | assumption) [hsc, h0, hlp, retBad, badR, scnZ]
  · rw [if_neg h0]
    simp -implicitDefEqProofs (disch := first | omega | assumption) [hsc, h0, scnZ]
end Go.Am
