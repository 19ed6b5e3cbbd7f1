/- Law 58: the stops of trips, in a map. -/
import Derived.Test.YtkjlejpaajcahaaObP
set_option linter.unusedVariables false
set_option linter.unusedSimpArgs false
set_option maxRecDepth 10000
set_option maxHeartbeats 2000000
namespace Go.Am
abbrev vT (l : List Trip) : AV := .c (.vs 7 (l.map Trip.cells))
def roE (es : List En) : Rows := es.map En.row
theorem roE_len (es : List En) : (roE es).length = es.length := by simp [roE]
theorem nmRows_roE (k : Nat) (l : List En) : nmRows k (roE l) = true := nmRows_row k l
theorem lcRows_roE (k : Nat) (l : List En) : lcRows k (roE l) = true := lcRows_row k l
theorem born_idx {A B : List En} {e : En} (h : ((A ++ e :: B).map (·.b)).Nodup) (n : Int) : (roE (A ++ ⟨e.b, e.x, e.y, n⟩ :: B)).findIdx? (hasBorn e.b) = some A.length := by
  unfold roE
  rw [List.findIdx?_eq_some_iff_getElem]
  refine ⟨by simp, ?_, fun j hj => ?_⟩
  · simp [En.row, hasBorn]
  · have hj' : j < A.length := by simpa using hj
    have : ¬ A[j].b = e.b := by
      intro hb
      rw [List.map_append, List.map_cons, List.nodup_append] at h
      exact h.2.2 A[j].b (List.mem_map.2 ⟨A[j], List.getElem_mem hj', rfl⟩) e.b (by simp) hb
    simp [hj', En.row, hasBorn, this]
theorem roE_app (A B : List En) (e : En) : roE (A ++ e :: B) = roE A ++ e.row :: roE B := by simp [roE]
theorem setRow_mid (A B : List En) (e f : En) : setRow (roE (A ++ e :: B)) A.length f.row = roE (A ++ f :: B) := by
  rw [roE_app, roE_app, setRow, List.take_left' (roE_len A), List.drop_append, roE_len, List.drop_of_length_le (by rw [roE_len]; omega)]
  simp
/-- An entry's number is one more: what 'm[k]++' does. -/
structure Inc (p : Nat × List En) (k : P2) (R R1 R2 : Rows) (z z2 : Nat) (i : Nat) (v : Int) (b : Int) : Prop where
  f1 : mfind kkP (.agg [.int .i64 k.1, .int .i64 k.2]) R1 0 = some (some (i, .c (.int .i64 v)))
  st : stampAt R1 i = .c (.int .i64 b)
  fi : R1.findIdx? (hasBorn b) = some i
  at_ : R1[i]? = some [.c (.int .i64 b), .agg [.int .i64 k.1, .int .i64 k.2], .c (.int .i64 v)]
  set : setRow R1 i [.c (.int .i64 b), .agg [.int .i64 k.1, .int .i64 k.2], .c (.int .i64 (v + 1))] = R2
  r2 : R2 = roE (addE p k).2
  z2 : z2 = (addE p k).1
theorem inc_some {L : List P2} {p : Nat × List En} (hc : Cn L p) (k : P2) {A B : List En} {e : En} (c1 : p.2 = A ++ e :: B) (c2 : kE e = k) (c0 : pidx k.1 k.2 p.2 0 = some (A.length, e.n)) (c3 : addE p k = (p.1, A ++ ⟨e.b, k.1, k.2, e.n + 1⟩ :: B)) :
    Inc p k (roE p.2) (roE p.2) (roE (addE p k).2) p.1 p.1 A.length e.n e.b where
  f1 := by unfold roE; rw [mfind_pidx, c0]; rfl
  st := by
    unfold roE
    rw [stampAt_row (by rw [c1]; simp)]
    simp [bAt, c1]
  fi := by
    have := born_idx (A := A) (B := B) (e := e) (by rw [← c1]; exact hc.born) e.n
    rw [c1]; exact this
  at_ := by
    subst c2
    unfold roE
    rw [c1]; simp [En.row, kE]
  set := by
    rw [c3, c1]
    exact setRow_mid A B e ⟨e.b, k.1, k.2, e.n + 1⟩
  r2 := rfl
  z2 := by rw [c3]
theorem inc_none {L : List P2} {p : Nat × List En} (hc : Cn L p) (k : P2) (c1 : ∀ e ∈ p.2, kE e ≠ k) (c0 : pidx k.1 k.2 p.2 0 = none) (c3 : addE p k = (p.1 + 1, p.2 ++ [⟨p.1, k.1, k.2, 1⟩])) :
    Inc p k (roE p.2) (roE p.2 ++ [[.c (.int .i64 p.1), .agg [.int .i64 k.1, .int .i64 k.2], .c (.int .i64 0)]]) (roE (addE p k).2) p.1 (p.1 + 1) p.2.length 0 p.1 := by
  have hk0 : addE p k = (p.1 + 1, p.2 ++ [⟨p.1, k.1, k.2, 1⟩]) := c3
  have hR : roE p.2 ++ [[.c (.int .i64 p.1), .agg [.int .i64 k.1, .int .i64 k.2], .c (.int .i64 0)]] = roE (p.2 ++ [⟨p.1, k.1, k.2, 0⟩]) := by simp [roE, En.row]
  have hn : ((p.2 ++ [(⟨p.1, k.1, k.2, 0⟩ : En)]).map (·.b)).Nodup := by
    rw [List.map_append, List.nodup_append]
    refine ⟨hc.born, by simp, fun b hb c hcc => ?_⟩
    obtain ⟨f, hf, rfl⟩ := List.mem_map.1 hb
    have := hc.lt f hf
    simp only [List.map_cons, List.map_nil, List.mem_singleton] at hcc
    omega
  have hp : ∀ (es : List En) (j : Nat), pidx k.1 k.2 es j = none → pidx k.1 k.2 (es ++ [⟨p.1, k.1, k.2, 0⟩]) j = some (j + es.length, 0) := by
    intro es
    induction es with
    | nil => intro j _; simp [pidx]
    | cons f es ih =>
      intro j h
      simp only [pidx] at h
      split at h
      · simp at h
      · rename_i hh
        simp only [List.cons_append, pidx, if_neg hh]
        rw [ih _ h]; simp; omega
  rw [hR]
  refine ⟨?_, ?_, ?_, ?_, ?_, rfl, by rw [c3]⟩
  · unfold roE; rw [mfind_pidx, hp _ _ c0]; simp
  · unfold roE; rw [stampAt_row (by simp)]; simp [bAt]
  · exact born_idx (A := p.2) (B := []) (e := ⟨p.1, k.1, k.2, 0⟩) hn 0
  · simp [roE, En.row]
  · rw [c3]; simp [roE, setRow, En.row]
theorem inc_miss {L : List P2} {p : Nat × List En} (hc : Cn L p) (k : P2) (c0 : pidx k.1 k.2 p.2 0 = none) : mfind kkP (.agg [.int .i64 k.1, .int .i64 k.2]) (roE p.2) 0 = some none := by
  unfold roE; rw [mfind_pidx, c0]; rfl
structure SrOk (gs : List (Nat × AV)) (rest : List (Nat × Obj)) : Prop where
  g : Gh gs
  k : ∀ os, keepF 76000 77000 os rest = rest
  n5 : nmFr 76005 gs = true
  nm : nmFr 1461501637330902918203684832716283019655932618982 gs = true
  o5 : nmOb 76005 rest = true
  om : nmOb 1461501637330902918203684832716283019655932618982 rest = true
  d5 : del rest 76005 = rest
  dm : del rest 1461501637330902918203684832716283019655932618982 = rest
def StopsC (g : St → Option (List AV × List (Nat × Obj))) : Prop := ∀ (l : List Trip) gs rest, l.length ≤ 100 → SrOk gs rest → g ⟨(0, vT l) :: gs, rest⟩ = some ([.mp 1461501637330902918203684832716283019655932618982], (1461501637330902918203684832716283019655932618982, ⟨(cntE (evO l)).1, roE (cntE (evO l)).2⟩) :: rest)
theorem cnt_small (L : List P2) (hl : L.length ≤ 1000) : ∀ e ∈ (cntE L).2, e.n ≤ 1000 := fun e he => by
  have := (cn_cnt L).val e he
  have := List.count_le_length (a := kE e) (l := L)
  omega
/-- One event: what the map is before, between and behind. -/
theorem inc_ways (L : List P2) (hl : L.length ≤ 1000) (k : P2) : ∃ R2 z2, (R2 = roE (cntE (L ++ [k])).2 ∧ z2 = (cntE (L ++ [k])).1) ∧
    ((∃ (i : Nat) (v b : Int), mfind kkP (.agg [.int .i64 k.1, .int .i64 k.2]) (roE (cntE L).2) 0 = some (some (i, .c (.int .i64 v))) ∧ 0 < v ∧ v ≤ 1000 ∧ z2 = (cntE L).1 ∧ stampAt (roE (cntE L).2) i = .c (.int .i64 b) ∧ (roE (cntE L).2).findIdx? (hasBorn b) = some i ∧
        (roE (cntE L).2)[i]? = some [.c (.int .i64 b), .agg [.int .i64 k.1, .int .i64 k.2], .c (.int .i64 v)] ∧ setRow (roE (cntE L).2) i [.c (.int .i64 b), .agg [.int .i64 k.1, .int .i64 k.2], .c (.int .i64 (v + 1))] = R2) ∨
     (∃ (i : Nat) (R1 : Rows), mfind kkP (.agg [.int .i64 k.1, .int .i64 k.2]) (roE (cntE L).2) 0 = some none ∧ roE (cntE L).2 ++ [[.c (.int .i64 ((cntE L).1 : Int)), .agg [.int .i64 k.1, .int .i64 k.2], .c (.int .i64 0)]] = R1 ∧ z2 = (cntE L).1 + 1 ∧
        mfind kkP (.agg [.int .i64 k.1, .int .i64 k.2]) R1 0 = some (some (i, .c (.int .i64 0))) ∧ R1.findIdx? (hasBorn ((cntE L).1 : Int)) = some i ∧
        R1[i]? = some [.c (.int .i64 ((cntE L).1 : Int)), .agg [.int .i64 k.1, .int .i64 k.2], .c (.int .i64 0)] ∧ setRow R1 i [.c (.int .i64 ((cntE L).1 : Int)), .agg [.int .i64 k.1, .int .i64 k.2], .c (.int .i64 1)] = R2)) := by
  have hc := cn_cnt L
  refine ⟨_, _, ⟨rfl, rfl⟩, ?_⟩
  rw [cntE_snoc]
  rcases addE_cases (cntE L) k with ⟨A, e, B, c1, c2, c0, c3⟩ | ⟨c1, c0, c3⟩
  · obtain ⟨f1, st, fi, at_, set, r2, z2⟩ := inc_some hc _ c1 c2 c0 c3
    have h1 := cnt_small L hl e (by rw [c1]; simp)
    have h2 := (hc.val e (by rw [c1]; simp)).2
    exact .inl ⟨A.length, e.n, e.b, f1, h2, h1, z2.symm, st, fi, at_, set⟩
  · obtain ⟨f1, st, fi, at_, set, r2, z2⟩ := inc_none hc _ c1 c0 c3
    exact .inr ⟨(cntE L).2.length, _, inc_miss hc k c0, rfl, z2.symm, f1, fi, at_, by simpa using set⟩
theorem setRow_one (a b : List AV) : setRow [a] 0 b = [b] := rfl
theorem evO1_cases (t : Trip) : evO1 t = (if 0 ≤ t.board then [(t.car, t.frm)] else []) ++ (if 0 ≤ t.alight then [(t.car, t.to)] else []) := rfl
theorem observe_Stops_run (Γ : Env) (M : Nat) (hM : 1000 < M) : StopsC (runP Γ M observe_Stops_f) := by
  rintro l gs rest hl ⟨g, k, n5, nm, o5, om, d5, dm⟩
  obtain ⟨ax, s', ⟨rfl, rfl⟩, hin⟩ : ∃ ax s', (ax = .ex 0 ∧ s' = ⟨[(3, .mp 1461501637330902918203684832716283019655932618982)] ++ gs, (1461501637330902918203684832716283019655932618982, ⟨(cntE (evO l)).1, roE (cntE (evO l)).2⟩) :: rest⟩) ∧ ∀ s0, nrmP [3, 7, 8, 9] 76000 77000 [1461501637330902918203684832716283019655932618982] s0 = ⟨[(3, .mp 1461501637330902918203684832716283019655932618982), (7, vT l), (8, i64 l.length), (9, i64 (0 : Nat))] ++ gs, (1461501637330902918203684832716283019655932618982, ⟨(cntE (evO (l.take 0))).1, roE (cntE (evO (l.take 0))).2⟩) :: rest⟩ → lp (exec Γ M observe_Stops_l1) M s0 = some (ax, s') := by
    refine lp_allP (fun q : Nat => ⟨[(3, .mp 1461501637330902918203684832716283019655932618982), (7, vT l), (8, i64 l.length), (9, i64 q)] ++ gs, (1461501637330902918203684832716283019655932618982, ⟨(cntE (evO (l.take q))).1, roE (cntE (evO (l.take q))).2⟩) :: rest⟩) (fun q => q ≤ l.length) (fun q => l.length - q) _ 0 M (by omega) (by omega) ?_
    intro q hq
    by_cases hlt : q < l.length
    · obtain ⟨t, ht⟩ : ∃ w, l[q]'hlt = w := ⟨_, rfl⟩
      have hrow : (l.map Trip.cells)[q]? = some t.cells := by simp [hlt, ht]
      have hev := evO_take hlt
      rw [ht] at hev
      have hle : (evO (l.take q)).length ≤ 998 := by
        have := evO_len (l.take q); rw [List.length_take] at this; omega
      have fin : ∀ L', evO1 t = L' → ∀ R z, R = roE (cntE (evO (l.take q) ++ L')).2 → z = (cntE (evO (l.take q) ++ L')).1 → ∃ q' : Nat, (⟨[(3, .mp 1461501637330902918203684832716283019655932618982), (7, vT l), (8, i64 l.length), (9, i64 ((q : Int) + 1))] ++ gs, (1461501637330902918203684832716283019655932618982, ⟨z, R⟩) :: rest⟩ : St) = ⟨[(3, .mp 1461501637330902918203684832716283019655932618982), (7, vT l), (8, i64 l.length), (9, i64 q')] ++ gs, (1461501637330902918203684832716283019655932618982, ⟨(cntE (evO (l.take q'))).1, roE (cntE (evO (l.take q'))).2⟩) :: rest⟩ ∧ q' ≤ l.length ∧ l.length - q' < l.length - q := by
        rintro L' rfl R z rfl rfl
        exact ⟨q + 1, by rw [hev]; simp, by omega, by omega⟩
      simp only [Trip.cells] at hrow
      generalize evO (l.take q) = L at *
      have a1 := nmRows_roE
      by_cases cb : 0 ≤ t.board
      · obtain ⟨R2, z2, ⟨hR2, hz2⟩, hw⟩ := inc_ways L (by omega) (t.car, t.frm)
        by_cases ca : 0 ≤ t.alight
        · have he : evO1 t = [(t.car, t.frm), (t.car, t.to)] := by rw [evO1_cases, if_pos cb, if_pos ca]; rfl
          obtain ⟨R4, z4, ⟨hR4, hz4⟩, hw4⟩ := inc_ways (L ++ [(t.car, t.frm)]) (by rw [List.length_append]; simp; omega) (t.car, t.to)
          rw [← hR2, ← hz2] at hw4
          obtain ⟨q', fq⟩ := fin _ he R4 z4 (by rw [hR4]; simp) (by rw [hz4]; simp)
          have a2 : ∀ k, nmRows k R2 = true := fun k => by rw [hR2]; exact nmRows_roE k _
          have a4 : ∀ k, nmRows k R4 = true := fun k => by rw [hR4]; exact nmRows_roE k _
          have a0 := fun k => nmRows_roE k (cntE L).2
          clear hR2 hR4
          generalize roE (cntE L).2 = R at *
          generalize (cntE L).1 = z at *
          simp only [kkP] at hw hw4
          have hcast : ((z + 1 : Nat) : Int) = (z : Int) + 1 := by simp
          clear hz2 hz4
          rcases hw with ⟨i, v, b, f1, f2, f3, rfl, f5, f6, f7, f8⟩ | ⟨i, R1, f1, f2, rfl, f4, f5, f6, f7⟩ <;> rcases hw4 with ⟨i', v', b', g1, g2, g3, rfl, g5, g6, g7, g8⟩ | ⟨i', R1', g1, g2, rfl, g4, g5, g6, g7⟩ <;> (
          try rw [hcast] at g2 g5 g6 g7
          simp -implicitDefEqProofs (disch := first | omega | (simp <;> fail) | assumption) [-setRow, -stampAt, setRow_one, hlt, hrow, cb, ca, a0, a2, a4, *]
          exact ⟨q', by simpa [hcast] using fq⟩)
        · have he : evO1 t = [(t.car, t.frm)] := by rw [evO1_cases, if_pos cb, if_neg ca]; rfl
          obtain ⟨R2, z2, ⟨hR2, hz2⟩, hw⟩ := inc_ways L (by omega) (t.car, t.frm)
          obtain ⟨q', fq⟩ := fin _ he R2 z2 hR2 hz2
          have a2 : ∀ k, nmRows k R2 = true := fun k => by rw [hR2]; exact nmRows_roE k _
          have a0 := fun k => nmRows_roE k (cntE L).2
          clear hR2
          generalize roE (cntE L).2 = R at *
          generalize (cntE L).1 = z at *
          simp only [kkP] at hw
          clear hz2
          rcases hw with ⟨i, v, b, f1, f2, f3, rfl, f5, f6, f7, f8⟩ | ⟨i, R1, f1, f2, rfl, f4, f5, f6, f7⟩ <;> (
          simp -implicitDefEqProofs (disch := first | omega | (simp <;> fail) | assumption) [-setRow, -stampAt, setRow_one, hlt, hrow, cb, ca, a0, a2, *]
          exact ⟨q', by simpa using fq⟩)
      · by_cases ca : 0 ≤ t.alight
        · have he : evO1 t = [(t.car, t.to)] := by rw [evO1_cases, if_neg cb, if_pos ca]; rfl
          obtain ⟨R2, z2, ⟨hR2, hz2⟩, hw⟩ := inc_ways L (by omega) (t.car, t.to)
          obtain ⟨q', fq⟩ := fin _ he R2 z2 hR2 hz2
          have a2 : ∀ k, nmRows k R2 = true := fun k => by rw [hR2]; exact nmRows_roE k _
          have a0 := fun k => nmRows_roE k (cntE L).2
          clear hR2
          generalize roE (cntE L).2 = R at *
          generalize (cntE L).1 = z at *
          simp only [kkP] at hw
          clear hz2
          rcases hw with ⟨i, v, b, f1, f2, f3, rfl, f5, f6, f7, f8⟩ | ⟨i, R1, f1, f2, rfl, f4, f5, f6, f7⟩ <;> (
          simp -implicitDefEqProofs (disch := first | omega | (simp <;> fail) | assumption) [-setRow, -stampAt, setRow_one, hlt, hrow, cb, ca, a0, a2, *]
          exact ⟨q', by simpa using fq⟩)
        · have he : evO1 t = [] := by rw [evO1_cases, if_neg cb, if_neg ca]; rfl
          obtain ⟨q', fq⟩ := fin _ he _ _ (by rw [List.append_nil]) (by rw [List.append_nil])
          have a0 := fun k => nmRows_roE k (cntE L).2
          generalize roE (cntE L).2 = R at *
          generalize (cntE L).1 = z at *
          simp -implicitDefEqProofs (disch := first | omega | (simp <;> fail) | assumption) [-setRow, -stampAt, setRow_one, hlt, hrow, cb, ca, *]
          exact ⟨q', by simpa using fq⟩
    · obtain rfl : q = l.length := by omega
      simp -implicitDefEqProofs (disch := first | omega | (simp <;> fail) | assumption) [g, k]
  have hin2 := hin ⟨[(3, .mp 1461501637330902918203684832716283019655932618982), (7, vT l), (8, i64 l.length), (9, .c (.int .i64 0))] ++ gs, (1461501637330902918203684832716283019655932618982, ⟨0, []⟩) :: rest⟩ (by
    simp -implicitDefEqProofs (disch := first | omega | (simp <;> fail) | assumption) [g, k, evO, cntE, roE])
  simp only [List.cons_append, List.nil_append] at hin2
  simp -implicitDefEqProofs (disch := first | omega | (simp <;> fail) | assumption) [g, k, n5, nm, o5, om, d5, dm, hin2]
end Go.Am
