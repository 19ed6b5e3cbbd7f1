/- Law 28: ArriveTicks. -/
import Derived.Test.YtkigddhdbnganaaArI
set_option linter.unusedVariables false
set_option linter.unusedSimpArgs false
set_option maxRecDepth 10000
set_option maxHeartbeats 4000000
namespace Go.Am
theorem psgF_get {K : List W3} {t : Nat} : ∀ {ws : List Nat} {p i : Nat} (h : i < (psgF K t ws p).length), ∃ w ∈ ws, (psgF K t ws p)[i] = (p + i, t, pairF K w)
  | [], p, i, h => by simp [psgF] at h
  | w :: ws, p, 0, h => ⟨w, by simp, by simp [psgF]⟩
  | w :: ws, p, i + 1, h => by
    obtain ⟨v, hv, he⟩ := psgF_get (K := K) (t := t) (ws := ws) (p := p + 1) (i := i) (by simpa [psgF] using h)
    refine ⟨v, List.mem_cons_of_mem _ hv, ?_⟩
    simp only [psgF, List.getElem_cons_succ]
    rw [he, show p + 1 + i = p + (i + 1) by omega]
theorem stepT_get {s : Scn} {ws : List Nat} {t a p : Nat} {m : List P4} {b : Nat} (hs : ScOk s) (hws : ∀ w ∈ ws, w < 4294967296) (h : stepT s ws t a p = some (m, b)) {i : Nat} (hi : i < m.length) :
    ∃ x y : Int, m[i] = (p + i, t, x, y) ∧ x ≠ y ∧ 0 ≤ x ∧ x < s.floors ∧ 0 ≤ y ∧ y < s.floors := by
  cases hat : atF s.segs (t : Int) with
  | none =>
    unfold stepT at h; simp only [hat, Option.some.injEq, Prod.mk.injEq] at h
    obtain ⟨rfl, rfl⟩ := h; simp at hi
  | some j =>
    have hjl := atF_get hat
    obtain ⟨g, hgj⟩ : ∃ g, s.segs[j] = g := ⟨_, rfl⟩
    have hgd : s.segs.getD j zSeg = g := by simp [hjl, hgj]
    have hsg := hs.segs.all g (by rw [← hgj]; exact List.getElem_mem hjl)
    rw [stepT_at hat hgd] at h
    split at h
    · simp only [Option.some.injEq, Prod.mk.injEq] at h
      obtain ⟨rfl, rfl⟩ := h; simp at hi
    · cases hwa : ws[a]? with
      | none => rw [hwa] at h; simp at h
      | some w0 =>
        rw [hwa] at h
        simp only at h
        split at h
        · simp at h
        · simp only [Option.some.injEq, Prod.mk.injEq] at h
          obtain ⟨rfl, rfl⟩ := h
          obtain ⟨w, hw, he⟩ := psgF_get hi
          have hK := allW_ok hsg.k1 hsg.k4 (f := s.floors.toNat) (by have := hs.f2; omega) (by have := hs.f3; omega)
          have hn := hK.ne w (hws w (List.mem_of_mem_drop (List.mem_of_mem_take hw)))
          have hf : ((s.floors.toNat : Nat) : Int) = s.floors := by have := hs.f2; omega
          rw [hf] at hn
          exact ⟨_, _, he, hn⟩
structure TkI (s : Scn) (ws : List Nat) (k : Nat) (l : List P4) (a p : Nat) (ob : List (Nat × Obj)) : Prop where
  gi : GI s ws k a p ob
  ten : get ob 10 = some ⟨4, l.map (toAV ∘ p4D)⟩
  two : get ob 2 = some ⟨13, [scRow s]⟩
  sm : ∀ j, j < 1000 → j ≠ 2 → j ≠ 10 → get ob j = none
theorem tk_keep {s : Scn} {ws : List Nat} {k : Nat} {l : List P4} {a p : Nat} {ob : List (Nat × Obj)} (hI : TkI s ws k l a p ob) {os : List Nat} (h2 : 2 ∈ os) (h10 : 10 ∈ os) : keepF 0 1000 os ob = ob := keepF_id fun q hq => by
  by_cases h : q.1 < 1000
  · refine .inr (.inr ?_)
    by_cases e2 : q.1 = 2
    · rw [e2]; exact h2
    · by_cases e10 : q.1 = 10
      · rw [e10]; exact h10
      · exact absurd (hI.sm q.1 h e2 e10) (mem_get (o := q.2) hq)
  · exact .inr (.inl (gi_big hI.gi hq h))
theorem tk_del {s : Scn} {ws : List Nat} {k : Nat} {l : List P4} {a p : Nat} {ob : List (Nat × Obj)} (hI : TkI s ws k l a p ob) {os : List Nat} (h2 : 2 ∈ os) (h10 : 10 ∈ os) : keepF 0 1000 os (del ob 10) = del ob 10 := keepF_id fun q hq => by
  have hq := mem_delO hq
  by_cases h : q.1 < 1000
  · refine .inr (.inr ?_)
    by_cases e2 : q.1 = 2
    · rw [e2]; exact h2
    · by_cases e10 : q.1 = 10
      · rw [e10]; exact h10
      · exact absurd (hI.sm q.1 h e2 e10) (mem_get (o := q.2) hq)
  · exact .inr (.inl (gi_big hI.gi hq h))
/-- The passengers of a tick are right, and are kept. -/
theorem ticks_inner (Γ : Env) (M : Nat) (hM : 1000 < M) (s : Scn) (ws : List Nat) (k : Nat) (l m : List P4) (b p : Nat) (L : List P4) (A : Int) (O : Bool) (hk : k ≤ 300) (hl : l.length ≤ 20000) (hm64 : m.length ≤ 64)
    (hm : ∀ i (h : i < m.length), ∃ x y : Int, m[i] = (l.length + i, k, x, y) ∧ x ≠ y ∧ 0 ≤ x ∧ x < s.floors ∧ 0 ≤ y ∧ y < s.floors) (ob : List (Nat × Obj)) (hI : TkI s ws (k + 1) l b p ob) (hps : get ob 471006 = some ⟨4, m.map (toAV ∘ p4D)⟩) :
    ∃ ob', lp (exec Γ M law28_ArriveTicks_l1) M ⟨[(2, .loc 2 0 0), (5, .loc 473022 0 0), (7, pV L), (8, i64 A), (9, bo O), (10, .sl 10 l.length 0 l.length), (11, i64 k), (12, i64 k), (13, .sl 471006 m.length 0 m.length), (15, i64 0)], ob⟩ = some (.ex 2, ⟨[(2, .loc 2 0 0), (5, .loc 473022 0 0), (7, pV L), (8, i64 A), (9, bo O), (10, .sl 10 (l.length + m.length) 0 (l.length + m.length)), (11, i64 k), (12, i64 k)], ob'⟩) ∧ TkI s ws (k + 1) (l ++ m) b p ob' := by
  obtain ⟨ax, s', ⟨rfl, ob', rfl, hR⟩, hin⟩ : ∃ ax s', (ax = .ex 2 ∧ ∃ ob', s' = ⟨[(2, .loc 2 0 0), (5, .loc 473022 0 0), (7, pV L), (8, i64 A), (9, bo O), (10, .sl 10 (l.length + m.length) 0 (l.length + m.length)), (11, i64 k), (12, i64 k)], ob'⟩ ∧ TkI s ws (k + 1) (l ++ m) b p ob') ∧ ∀ s0, nrmP [2, 5, 7, 8, 9, 10, 11, 12, 13, 15] 0 1000 [2, 10, 134] s0 = ⟨[(2, .loc 2 0 0), (5, .loc 473022 0 0), (7, pV L), (8, i64 A), (9, bo O), (10, .sl 10 (l.length + 0) 0 (l.length + 0)), (11, i64 k), (12, i64 k), (13, .sl 471006 m.length 0 m.length), (15, i64 (0 : Nat))], ob⟩ → lp (exec Γ M law28_ArriveTicks_l1) M s0 = some (ax, s') := by
    refine lp_allP (fun q : Nat × List (Nat × Obj) => ⟨[(2, .loc 2 0 0), (5, .loc 473022 0 0), (7, pV L), (8, i64 A), (9, bo O), (10, .sl 10 (l.length + q.1) 0 (l.length + q.1)), (11, i64 k), (12, i64 k), (13, .sl 471006 m.length 0 m.length), (15, i64 q.1)], q.2⟩) (fun q => q.1 ≤ m.length ∧ TkI s ws (k + 1) (l ++ m.take q.1) b p q.2 ∧ get q.2 471006 = some ⟨4, m.map (toAV ∘ p4D)⟩) (fun q => m.length - q.1) _ (0, ob) M ⟨by simp, by simpa using hI, hps⟩ (by simp only; omega) ?_
    rintro ⟨i, o⟩ ⟨hi, hT, hq⟩
    simp only at hi hT hq ⊢
    have kid : ∀ os, 2 ∈ os → 10 ∈ os → keepF 0 1000 os o = o := fun os => tk_keep hT
    by_cases hlt : i < m.length
    · obtain ⟨x, y, hxy, hne, hx0, hx1, hy0, hy1⟩ := hm i hlt
      have h2 := hT.two
      have h10 := hT.ten
      have hrow : (m.map (toAV ∘ p4D))[i]? = some [i64 ((l.length + i : Nat) : Int), i64 k, i64 x, i64 y] := by
        rw [List.getElem?_map, List.getElem?_eq_getElem hlt, hxy]; rfl
      have hrow2 := getI hrow
      have hml : (m.map (toAV ∘ p4D)).length = m.length := List.length_map ..
      have htl : (l ++ m.take i).length = l.length + i := by rw [List.length_append, List.length_take]; omega
      have htR : ((l ++ m.take i).map (toAV ∘ p4D)).length = l.length + i := by rw [List.length_map, htl]
      have htn : (l ++ m.take (i + 1)).map (toAV ∘ p4D) = (l ++ m.take i).map (toAV ∘ p4D) ++ [[i64 ((l.length + i : Nat) : Int), i64 k, i64 x, i64 y]] := by
        rw [List.take_succ_eq_append_getElem hlt, ← List.append_assoc, List.map_append, hxy]; rfl
      have g16 : get o 16 = none := hT.sm 16 (by omega) (by omega) (by omega)
      have d16 := del_absent _ _ g16
      have n16 : nmOb 16 o = true := hT.gi.nm 16 (by omega) (by decide)
      have lc10 : lcOb 10 o = true := lcOb_nm (hT.gi.nm 10 (by omega) (by decide))
      have kidd : ∀ os, 2 ∈ os → 10 ∈ os → keepF 0 1000 os (del o 10) = del o 10 := fun os => tk_del hT
      have hfin : TkI s ws (k + 1) (l ++ m.take (i + 1)) b p ((10, ⟨4, (l ++ m.take i).map (toAV ∘ p4D) ++ [[i64 ((l.length + i : Nat) : Int), i64 k, i64 x, i64 y]]⟩) :: del o 10) ∧ get ((10, (⟨4, (l ++ m.take i).map (toAV ∘ p4D) ++ [[i64 ((l.length + i : Nat) : Int), i64 k, i64 x, i64 y]]⟩ : Obj)) :: del o 10) 471006 = some ⟨4, m.map (toAV ∘ p4D)⟩ := by
        refine ⟨⟨?_, ?_, ?_, fun j h1 h2 h3 => ?_⟩, ?_⟩
        · refine gi_own hT.gi (by omega) fun k => ?_
          rw [← htn, p4R_map]; exact nm_p4R k _
        · simp only [Go.Am.get]; rw [if_pos trivial, htn]
        · simp only [Go.Am.get]; rw [if_neg (by omega), get_del, if_neg (by omega), h2]
        · simp only [Go.Am.get]; rw [if_neg (by omega), get_del, if_neg (by omega), hT.sm j h1 h2 h3]
        · simp only [Go.Am.get]; rw [if_neg (by omega), get_del, if_neg (by omega), hq]
      generalize hRR : (l ++ m.take i).map (toAV ∘ p4D) = RR at *
      generalize hMM : m.map (toAV ∘ p4D) = MM at *
      have hx0' : ¬ x < 0 := by omega
      have hy0' : ¬ y < 0 := by omega
      have hx1' : ¬ s.floors ≤ x := by omega
      have hy1' : ¬ s.floors ≤ y := by omega
      simp -implicitDefEqProofs (disch := first | omega | (simp <;> fail) | assumption) [kid, hlt, hq, hml, hrow, hrow2, h2, h10, htR, g16, d16, n16, lc10, kidd, hne, hx0', hy0', hx1', hy1']
      exact ⟨i + 1, _, ⟨by simp; omega, rfl⟩, ⟨by omega, hfin⟩, by omega⟩
    · obtain rfl : i = m.length := by omega
      have hml : (m.map (toAV ∘ p4D)).length = m.length := List.length_map ..
      simp -implicitDefEqProofs (disch := first | omega | (simp <;> fail) | assumption) [kid, hq, hml]
      rw [List.take_length] at hT
      exact hT
  refine ⟨ob', hin _ ?_, hR⟩
  simp [tk_keep hI]
theorem nxF_tk (L : List P4) (A : Int) (O : Bool) (n k : Nat) : NxF [(100059, .loc 473022 0 0), (100002, .loc 2 0 0), (100005, .loc 473022 0 0), (100007, pV L), (100008, i64 A), (100009, bo O), (100010, .sl 10 n 0 n), (100011, i64 k), (100012, i64 k)] := by
  refine ⟨rfl, fun k h1 h2 h3 => ?_⟩
  have e1 : ¬ 473022 = k := Ne.symm h3
  have e2 : ¬ 2 = k := by omega
  have e3 : ¬ 10 = k := by omega
  simp [nmFr, AV.names, AV.names1, e1, e2, e3]
theorem nxF_tk2 (L : List P4) (A : Int) (O : Bool) (n : Nat) : NxF [(100141, .loc 473022 0 0), (100005, .loc 473022 0 0), (100007, pV L), (100008, i64 A), (100009, bo O), (100010, .sl 10 n 0 n)] := by
  refine ⟨rfl, fun k h1 h2 h3 => ?_⟩
  have e1 : ¬ 473022 = k := Ne.symm h3
  have e3 : ¬ 10 = k := by omega
  simp [nmFr, AV.names, AV.names1, e1, e3]
theorem ticks_outer (Γ : Env) (M : Nat) (hM : 1000 < M) (hOv : OverP (Γ.pt 472)) (hTk : TickP (Γ.pt 495)) (hN : NxC (Γ.pt 471)) (hal : Γ 490 [] = some [bo true]) (s : Scn) (ws : List Nat) (hs : ScOk s) (hh : s.horizon ≤ 300) (hws : ∀ w ∈ ws, w < 4294967296) (hwl : ws.length ≤ 10000) (L : List P4) (A : Int) (O : Bool) (hO : runT s ws s.horizon.toNat = none → O = false) (ob : List (Nat × Obj)) (hI : TkI s ws 0 [] 0 0 ob) :
    ∃ ax s', lp (exec Γ M law28_ArriveTicks_l2) M ⟨[(2, .loc 2 0 0), (5, .loc 473022 0 0), (7, pV L), (8, i64 A), (9, bo O), (10, .sl 10 0 0 0), (11, i64 0)], ob⟩ = some (ax, s') ∧
      ((runT s ws s.horizon.toNat = none ∧ ax = .ret ∧ ∃ ob', s' = ⟨[(4, bo true)], ob'⟩) ∨
       (∃ l a k ob', runT s ws s.horizon.toNat = some (l, a) ∧ (s.horizon ≤ (k : Nat) ∨ totT s.segs ≤ (k : Nat)) ∧ k ≤ 300 ∧ ax = .ex 0 ∧ s' = ⟨[(5, .loc 473022 0 0), (7, pV L), (8, i64 A), (9, bo O), (10, .sl 10 l.length 0 l.length)], keepF 0 1000 [10, 134] ob'⟩ ∧ TkI s ws k l a l.length ob')) := by
  have h1 := hs.h1
  obtain ⟨H, hH⟩ : ∃ H : Nat, s.horizon = H := ⟨s.horizon.toNat, by omega⟩
  have hHt : s.horizon.toNat = H := by omega
  rw [hHt] at hO ⊢
  obtain ⟨ax, s', hR, hin⟩ : ∃ ax s', ((runT s ws H = none ∧ ax = .ret ∧ ∃ ob', s' = ⟨[(4, bo true)], ob'⟩) ∨
       (∃ l a k ob', runT s ws H = some (l, a) ∧ (s.horizon ≤ (k : Nat) ∨ totT s.segs ≤ (k : Nat)) ∧ k ≤ 300 ∧ ax = .ex 0 ∧ s' = ⟨[(5, .loc 473022 0 0), (7, pV L), (8, i64 A), (9, bo O), (10, .sl 10 l.length 0 l.length)], keepF 0 1000 [10, 134] ob'⟩ ∧ TkI s ws k l a l.length ob')) ∧ ∀ s0, nrmP [2, 5, 7, 8, 9, 10, 11] 0 1000 [2, 10, 134] s0 = ⟨[(2, .loc 2 0 0), (5, .loc 473022 0 0), (7, pV L), (8, i64 A), (9, bo O), (10, .sl 10 ([] : List P4).length 0 ([] : List P4).length), (11, i64 (0 : Nat))], ob⟩ → lp (exec Γ M law28_ArriveTicks_l2) M s0 = some (ax, s') := by
    refine lp_allP (fun q : Nat × List P4 × Nat × List (Nat × Obj) => ⟨[(2, .loc 2 0 0), (5, .loc 473022 0 0), (7, pV L), (8, i64 A), (9, bo O), (10, .sl 10 q.2.1.length 0 q.2.1.length), (11, i64 q.1)], q.2.2.2⟩) (fun q => q.1 ≤ H ∧ runT s ws q.1 = some (q.2.1, q.2.2.1) ∧ TkI s ws q.1 q.2.1 q.2.2.1 q.2.1.length q.2.2.2) (fun q => H - q.1) _ (0, [], 0, ob) M ⟨by simp, rfl, hI⟩ (by simp only; omega) ?_
    rintro ⟨k, l, a, o⟩ ⟨hk, hr, hL⟩
    simp only at hk hr hL ⊢
    obtain ⟨hb1, hb2⟩ := runT_some hws hr
    have hgen := hL.gi.gen
    have e1 := fun gs g => hOv s ws a k l.length _ gs o hs g hgen
    have e3 := fun gs g => hTk s ws a k l.length _ gs o g hgen
    have kid : ∀ os, 2 ∈ os → 10 ∈ os → keepF 0 1000 os o = o := fun os => tk_keep hL
    have hk301 : (k : Int) < 301 := by omega
    by_cases hov : s.horizon ≤ k ∨ totT s.segs ≤ k
    · have hb : (decide (s.horizon ≤ (k : Int)) || decide (totT s.segs ≤ (k : Int))) = true := by
        rcases hov with h | h <;> simp [h]
      rw [hb] at e1
      simp -implicitDefEqProofs (disch := first | omega | (simp <;> fail) | assumption) [e1, kid, hk301]
      refine ⟨l, a, ?_, k, hov, by omega, o, ⟨rfl, rfl⟩, hL⟩
      rcases hov with h | h
      · have : k = H := by omega
        rw [← this, hr]
      · rw [runT_tot hs h H hk, hr]
    · have hb : (decide (s.horizon ≤ (k : Int)) || decide (totT s.segs ≤ (k : Int))) = false := by
        have h1 : ¬ s.horizon ≤ (k : Int) := fun h => hov (.inl h)
        have h2 : ¬ totT s.segs ≤ (k : Int) := fun h => hov (.inr h)
        simp [h1, h2]
      rw [hb] at e1
      have hlt : (k : Int) < s.horizon := by omega
      have hlt2 : (k : Int) < totT s.segs := by omega
      have hgs := nxF_tk L A O l.length k
      cases hst : stepT s ws k a l.length with
      | none =>
        obtain ⟨o', e2, hx⟩ := hN.dry s ws k a l.length _ o hs hws (by omega) hb2 (by omega) (by omega) hgs hL.gi hlt hlt2 hst
        have hrn : runT s ws (k + 1) = none := by rw [runT_succ hr, hst]
        have hrH := runT_none hrn H (by omega)
        obtain rfl := hO hrH
        simp -implicitDefEqProofs (disch := first | omega | (simp <;> fail) | assumption) [e1, e2, e3, kid, hk301, hrH, hal]
      | some r =>
        obtain ⟨m, b⟩ := r
        obtain ⟨o', e2, hg2, hps, hx⟩ := hN.come s ws k a l.length _ o hs hws (by omega) hb2 (by omega) (by omega) hgs hL.gi hlt hlt2 m b hst
        have hrs : runT s ws (k + 1) = some (l ++ m, b) := by rw [runT_succ hr, hst]
        have hbm := stepT_some hws hb2 hst
        rw [← p4R_map] at hps
        have hT2 : TkI s ws (k + 1) l b (l.length + m.length) o' := ⟨hg2, by rw [hx 10 (by omega), hL.ten], by rw [hx 2 (by omega), hL.two], fun j h1 h2 h3 => by rw [hx j h1, hL.sm j h1 h2 h3]⟩
        obtain ⟨o2, e4, hT3⟩ := ticks_inner Γ M hM s ws k l m b (l.length + m.length) L A O (by omega) (by omega) hbm.1 (fun i hi => stepT_get hs hws hst hi) o' hT2 hps
        have hgen2 := hT3.gi.gen
        have e5 := fun gs g => hTk s ws b (k + 1) (l.length + m.length) _ gs o2 g hgen2
        have kid2 : ∀ os, 2 ∈ os → 10 ∈ os → keepF 0 1000 os o' = o' := fun os => tk_keep hT2
        have kid3 : ∀ os, 2 ∈ os → 10 ∈ os → keepF 0 1000 os o2 = o2 := fun os => tk_keep hT3
        have e0 : ((k + 1 : Nat) : Int) = (k : Int) + 1 := rfl
        simp only [e0] at e5
        have hll : (l ++ m).length = l.length + m.length := List.length_append
        rw [← hll] at hT3
        simp -implicitDefEqProofs (disch := first | omega | (simp <;> fail) | assumption) [e1, e2, e3, e4, e5, kid, kid2, kid3, hk301]
        exact ⟨k + 1, l ++ m, b, o2, ⟨by simp, rfl⟩, ⟨by omega, hrs, hT3⟩, by omega⟩
  exact ⟨ax, s', hin _ (by simp [tk_keep hI]), hR⟩
theorem mem_keepF_cond {lo hi : Nat} {os : List Nat} : ∀ {ob : List (Nat × Obj)} {p : Nat × Obj}, p ∈ keepF lo hi os ob → p.1 % KT < lo ∨ hi ≤ p.1 % KT ∨ p.1 ∈ os
  | [], p, h => by simp [keepF] at h
  | (k, o) :: ob, p, h => by
    simp only [keepF] at h
    split at h
    · rename_i hc
      rcases List.mem_cons.1 h with rfl | h
      · exact hc
      · exact mem_keepF_cond h
    · exact mem_keepF_cond h
theorem mkB_tk (s : Scn) : MkB [(2, ⟨13, [scRow s]⟩)] := by
  refine ⟨fun p hp => ?_, fun k _ => ?_⟩
  · simp only [List.mem_cons, List.not_mem_nil, or_false] at hp
    rcases hp with rfl; simp
  · simp [nmOb, nmRows, nmRow, AV.names, AV.names1]
theorem mkG_tk (s : Scn) (ws : List Nat) : MkG [(100030, .agg (strD ws 0)), (100029, wV ws), (100028, .agg s.cells), (100001, wV ws), (100002, .loc 2 0 0)] := by
  refine ⟨rfl, fun k h1 => ?_⟩
  have e1 : ¬ 2 = k := by omega
  simp [nmFr, AV.names, AV.names1, e1]
theorem ArriveTicks_run (Γ : Env) (M : Nat) (hM : 1000 < M) (hMk : MakeC (Γ.pt 473)) (hOv : OverP (Γ.pt 472)) (hTk : TickP (Γ.pt 495)) (hSt : StrP (Γ.pt 494)) (hN : NxC (Γ.pt 471)) (hS : SmlC (Γ 492)) (hR : RLstC (Γ 491)) (hP : EqPC (Γ 488)) (hal : Γ 490 [] = some [bo true]) (s : Scn) (ws : List Nat) (hmax : s.segs.length ≤ maxLen) (hws : ∀ w ∈ ws, w < 4294967296) (hwm : ws.length ≤ maxLen) :
    run Γ M law28_ArriveTicks_f [.agg s.cells, wV ws] = some [bo true] := by
  have hmx := maxLen_eq
  have hKT := KT_eq
  have e0 : ((0 : Nat) : Int) = 0 := rfl
  by_cases h3 : 3000 < ws.length
  · have h3' : (3000 : Int) < ws.length := by omega
    simp only [Scn.cells]
    simp -implicitDefEqProofs (disch := first | omega | (simp <;> fail) | assumption) [h3, h3']
  have h3' : ¬ (3000 : Int) < ws.length := by omega
  have e3 := hS s hmax
  by_cases hsm : smallB s = true
  · rw [hsm] at e3
    simp only [smallB, Bool.and_eq_true, decide_eq_true_eq] at hsm
    obtain ⟨⟨⟨s1, s2⟩, s3⟩, s4⟩ := hsm
    have hs := sc_ok s2
    have e5 := hR s ws hs s3 s4 hws (by omega)
    obtain ⟨ob', e, hgi, hx⟩ := (hMk s ws _ _ hmax (mkG_tk s ws) (mkB_tk s)).2 s2
    obtain ⟨L, A, O, hRL, hO, hL⟩ : ∃ L A O, Γ 491 [.agg s.cells, wV ws] = some [pV L, i64 A, bo O] ∧ (runT s ws s.horizon.toNat = none → O = false) ∧ ∀ l a, runT s ws s.horizon.toNat = some (l, a) → L = l ∧ A = a ∧ O = true := by
      cases hr : runT s ws s.horizon.toNat with
      | none => rw [hr] at e5; exact ⟨[], 0, false, e5, fun _ => rfl, fun l a h => by simp at h⟩
      | some r => obtain ⟨l, a⟩ := r; rw [hr] at e5; exact ⟨l, a, true, e5, fun h => by simp at h, fun l' a' h => by simp only [Option.some.injEq, Prod.mk.injEq] at h; obtain ⟨rfl, rfl⟩ := h; exact ⟨rfl, rfl, rfl⟩⟩
    have t2 : get ob' 2 = some ⟨13, [scRow s]⟩ := by rw [hx 2 (by omega)]; rfl
    have tsm : ∀ j, j < 1000 → j ≠ 2 → get ob' j = none := fun j h1 h2 => by
      rw [hx j h1]; simp only [Go.Am.get]; rw [if_neg (Ne.symm h2)]
    have k1 : ∀ os, 2 ∈ os → keepF 0 1000 os ob' = ob' := fun os a2 => keepF_id fun q hq => by
      by_cases h : q.1 < 1000
      · refine .inr (.inr ?_)
        by_cases e2 : q.1 = 2
        · rw [e2]; exact a2
        · exact absurd (tsm q.1 h e2) (mem_get (o := q.2) hq)
      · exact .inr (.inl (gi_big hgi hq h))
    have d10 : del ob' 10 = ob' := del_absent _ _ (tsm 10 (by omega) (by omega))
    have n10 : nmOb 10 ob' = true := hgi.nm 10 (by omega) (by decide)
    have hT : TkI s ws 0 [] 0 0 ((10, ⟨4, []⟩) :: ob') := by
      have := gi_own (j := 10) (o := ⟨4, []⟩) hgi (by omega) (fun k => rfl)
      rw [d10] at this
      refine ⟨this, rfl, ?_, fun j h1 h2 h3 => ?_⟩
      · simp only [Go.Am.get]; rw [if_neg (by omega), t2]
      · simp only [Go.Am.get]; rw [if_neg (Ne.symm h3), tsm j h1 h2]
    obtain ⟨ax, s', hlp, hres⟩ := ticks_outer Γ M hM hOv hTk hN hal s ws hs s4 hws (by omega) L A O hO _ hT
    have hg0 := hgi.gen
    simp only [strD, Scn.cells, e0] at e e3 hRL ⊢
    rcases hres with ⟨hr, rfl, o', rfl⟩ | ⟨l, a, k, o', hr, hov, hk, rfl, rfl, hT2⟩
    · simp -implicitDefEqProofs (disch := first | omega | (simp [n10] <;> fail) | assumption) [h3, h3', e3, e, hRL, t2, k1, d10, n10, hlp, hg0]
    · obtain ⟨rfl, rfl, rfl⟩ := hL l a hr
      have hb := runT_some hws hr
      have hX : GI s ws k a L.length (keepF 0 1000 [10, 134] o') := by
        refine gi_mod hT2.gi (fun q hq => .inl (mem_keepF hq)) ?_ fun k hk => ?_
        · rw [get_keepM (.inr (.inl (by rw [hKT]; omega))), hT2.gi.gen]
        · rw [get_keepM (.inr (.inl (by omega)))]
      have x10 : get (keepF 0 1000 [10, 134] o') 10 = some ⟨4, L.map (toAV ∘ p4D)⟩ := by
        rw [get_keepM (.inr (.inr (by simp))), hT2.ten]
      have xsm : ∀ j, j < 1000 → j ≠ 10 → get (keepF 0 1000 [10, 134] o') j = none := fun j h1 h2 => by
        cases hgt : get (keepF 0 1000 [10, 134] o') j with
        | none => rfl
        | some u =>
          by_cases h4 : j = 2
          · subst h4
            have hm := mem_keepF_cond (get_mem hgt)
            simp only [List.mem_cons, List.not_mem_nil, or_false] at hm
            rw [hKT] at hm; omega
          · have h5 := hT2.sm j h1 h4 h2
            exact absurd h5 (mem_get (o := u) (mem_keepF (get_mem hgt)))
      generalize keepF 0 1000 [10, 134] o' = X at *
      obtain ⟨Y, eY, hY, hXY⟩ := hN.over s ws k a L.length _ X hs (by omega) (nxF_tk2 L (a : Int) true L.length) hX hov
      have y10 : get Y 10 = some ⟨4, L.map (toAV ∘ p4D)⟩ := by rw [hXY 10 (by omega), x10]
      have kk : ∀ Z : List (Nat × Obj), GI s ws k a L.length Z → (∀ j, j < 1000 → j ≠ 10 → get Z j = none) → keepF 0 1000 [10, 134] Z = Z := fun Z hZ h1 => keepF_id fun q hq => by
        by_cases h : q.1 < 1000
        · by_cases e2 : q.1 = 10
          · exact .inr (.inr (by rw [e2]; simp))
          · exact absurd (h1 q.1 h e2) (mem_get (o := q.2) hq)
        · exact .inr (.inl (gi_big hZ hq h))
      have kX := kk X hX xsm
      have kY := kk Y hY fun j h1 h2 => by rw [hXY j h1, xsm j h1 h2]
      have hgen := hY.gen
      have e6 := fun gs g => hOv s ws a k L.length _ gs Y hs g hgen
      have hb2 : (decide (s.horizon ≤ (k : Int)) || decide (totT s.segs ≤ (k : Int))) = true := by
        rcases hov with h | h <;> simp [h]
      rw [hb2] at e6
      have e7 := hP L (by omega)
      have htk : List.take L.length (List.map p4D L) = List.map p4D L := by rw [List.take_of_length_le]; simp
      have nst : nmOb 494002 Y = true := (hY.nm _ (by omega) (by rw [hKT]; omega))
      have kst : Kf 494000 495000 Y := fun os => gi_kf hY (by omega) (by omega) (by omega) (by omega) (by omega) (by omega)
      have e8 := fun gs g n2 => hSt s ws a k L.length _ gs Y g n2 nst kst hgen
      have hlr : (L.map (toAV ∘ p4D)).length = L.length := List.length_map ..
      simp only [strD] at e8
      simp -implicitDefEqProofs (disch := first | omega | (simp [n10] <;> fail) | assumption) [h3, h3', e3, e, hRL, t2, k1, d10, n10, hlp, hg0, eY, e6, kX, kY, y10, hlr, htk, e7, e8, hal]
  · have hsm2 : smallB s = false := by simpa using hsm
    rw [hsm2] at e3
    simp only [Scn.cells] at e3 ⊢
    simp -implicitDefEqProofs (disch := first | omega | (simp <;> fail) | assumption) [h3, h3', e3]
end Go.Am
