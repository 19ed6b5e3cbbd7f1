/- Is it over; what is left; who comes next: the loop. -/
import Derived.Test.YtkigddhdbnganaaArD
set_option linter.unusedVariables false
set_option linter.unusedSimpArgs false
set_option maxRecDepth 10000
set_option maxHeartbeats 4000000
namespace Go.Am
def OverP (g : St → Option (List AV × List (Nat × Obj))) : Prop := ∀ (s : Scn) (ws : List Nat) (a t p : Nat) (sl : AV) gs ob, ScOk s → Gh gs → get ob 473022 = some ⟨18, [genRow s ws a sl t p]⟩ →
  g ⟨(0, .loc 473022 0 0) :: gs, ob⟩ = some ([bo (decide (s.horizon ≤ t) || decide (totT s.segs ≤ t))], ob)
theorem arrive_Over_run (Γ : Env) (M : Nat) (hT : TotWC (Γ 477)) : OverP (runP Γ M arrive_Gen_Over_f) := by
  intro s ws a t p sl gs ob hs g hgen
  have e := hT s.segs hs.segs
  by_cases h : s.horizon ≤ t
  · simp -implicitDefEqProofs (disch := first | omega | (simp [g] <;> fail) | assumption) [g, hgen, e, h]
  · simp -implicitDefEqProofs (disch := first | omega | (simp [g] <;> fail) | assumption) [g, hgen, e, h]
def TickP (g : St → Option (List AV × List (Nat × Obj))) : Prop := ∀ (s : Scn) (ws : List Nat) (a t p : Nat) (sl : AV) gs ob, Gh gs → get ob 473022 = some ⟨18, [genRow s ws a sl t p]⟩ →
  g ⟨(0, .loc 473022 0 0) :: gs, ob⟩ = some ([i64 t], ob)
theorem arrive_Tick_run (Γ : Env) (M : Nat) : TickP (runP Γ M arrive_Gen_Tick_f) := by
  intro s ws a t p sl gs ob g hgen
  simp -implicitDefEqProofs (disch := first | omega | (simp [g] <;> fail) | assumption) [g, hgen]
def StrP (g : St → Option (List AV × List (Nat × Obj))) : Prop := ∀ (s : Scn) (ws : List Nat) (a t p : Nat) (sl : AV) gs ob, Gh gs → nmFr 494002 gs = true → nmOb 494002 ob = true → Kf 494000 495000 ob → get ob 473022 = some ⟨18, [genRow s ws a sl t p]⟩ →
  g ⟨(0, .loc 473022 0 0) :: gs, ob⟩ = some ([.agg (strD ws a)], ob)
theorem arrive_Stream_run (Γ : Env) (M : Nat) : StrP (runP Γ M arrive_Gen_Stream_f) := by
  intro s ws a t p sl gs ob g n2 o2 k hgen
  have d := del_kf (k := 494002) k (by rw [KT_eq]; omega) (by rw [KT_eq]; omega)
  simp -implicitDefEqProofs (disch := first | omega | (simp [g] <;> fail) | assumption) [g, hgen, n2, o2, k, d, strD]
/-! ### What stays as it is -/
theorem nm_genRow {k : Nat} (hk : k ≠ 1000475) (s : Scn) (ws : List Nat) (a : Nat) (n t p : Nat) : nmRows k [genRow s ws a (.sl 1000475 n 0 n) t p] = true := by
  have : ¬ 1000475 = k := Ne.symm hk
  simp [nmRows, nmRow, AV.names, AV.names1, this]
theorem gi_mod {s : Scn} {ws : List Nat} {t a p t' a' p' : Nat} {ob ob' : List (Nat × Obj)} (hI : GI s ws t a p ob)
    (hk : ∀ q ∈ ob', q ∈ ob ∨ ((q.1 = 473022 ∨ q.1 = 276003 ∨ q.1 = 471006) ∧ ∀ k, 0 ≤ k → k % KT < 1000000 → nmRows k q.2.rows = true))
    (hg : get ob' 473022 = some ⟨18, [genRow s ws a' (.sl 1000475 s.segs.length 0 s.segs.length) t' p']⟩) (ho : ∀ k, 1000000 ≤ k % KT → get ob' k = get ob k) : GI s ws t' a' p' ob' := by
  refine ⟨fun q hq => ?_, fun k h1 h2 => nmOb_iff.2 fun q hq => ?_, hg, ?_, fun j g hj => ?_⟩
  · rcases hk q hq with h | ⟨h | h | h, _⟩
    · exact hI.key q h
    · exact .inr (.inl h)
    · exact .inr (.inr (.inr (.inl h)))
    · exact .inr (.inr (.inr (.inr (.inl h))))
  · rcases hk q hq with h | ⟨_, h⟩
    · exact nmOb_iff.1 (hI.nm k h1 h2) q h
    · exact h k h1 h2
  · rw [ho _ (by rw [KT_eq]; omega)]; exact hI.src
  · have h := hI.gr j g hj
    exact ⟨by rw [ho _ h.hg]; exact h.g, by rw [ho _ h.hm]; exact h.m, h.hg, h.hm⟩
theorem nm_p4R (k : Nat) (l : List P4) : nmRows k (l.map p4R) = true := by induction l <;> simp_all
theorem lc_p4R (k : Nat) (l : List P4) : lcRows k (l.map p4R) = true := by induction l <;> simp_all
structure NxF (gs : List (Nat × AV)) : Prop where
  g : Gh gs
  n : ∀ k, 1000 ≤ k → k % KT < 1000000 → k ≠ 473022 → nmFr k gs = true
/-- The state at the head of the loop over a tick's passengers. -/
structure NxI (s : Scn) (ws : List Nat) (t a p : Nat) (K : List W3) (ob0 : List (Nat × Obj)) (i : Nat) (ob : List (Nat × Obj)) : Prop where
  gi : GI s ws t (a + i) (p + i) ob
  li : a + i ≤ ws.length
  ps : get ob 471006 = some ⟨4, (psgF K t ((ws.drop a).take i) p).map p4R⟩
  ext : ∀ k, k < 1000 → get ob k = get ob0 k
theorem gi_kf {s : Scn} {ws : List Nat} {t a p : Nat} {ob : List (Nat × Obj)} (hI : GI s ws t a p ob) {lo hi : Nat} {os : List Nat} (h1 : 1000 ≤ lo) (h2 : hi ≤ 1000000) (h3 : 473022 < lo ∨ hi ≤ 473022 ∨ 473022 ∈ os) (h4 : 473052 < lo ∨ hi ≤ 473052 ∨ 473052 ∈ os) (h5 : 276003 < lo ∨ hi ≤ 276003 ∨ 276003 ∈ os) (h6 : 471006 < lo ∨ hi ≤ 471006 ∨ 471006 ∈ os) : keepF lo hi os ob = ob := keepF_id fun q hq => by
  have hK := KT_eq
  have hm := Nat.mod_le q.1 KT
  rcases hI.key q hq with h | h | h | h | h | h
  · exact .inl (by omega)
  · rw [h, Nat.mod_eq_of_lt (by rw [hK]; omega)]; exact h3
  · rw [h, Nat.mod_eq_of_lt (by rw [hK]; omega)]; exact h4
  · rw [h, Nat.mod_eq_of_lt (by rw [hK]; omega)]; exact h5
  · rw [h, Nat.mod_eq_of_lt (by rw [hK]; omega)]; exact h6
  · exact .inr (.inl (by omega))
theorem gi_one {s : Scn} {ws : List Nat} {t a p : Nat} {ob : List (Nat × Obj)} (hI : GI s ws t a p ob) : OneB ob := by
  have hn := fun k (h1 : 1000 ≤ k) (h2 : k < 1000000) => hI.nm k (Nat.zero_le _) (Nat.lt_of_le_of_lt (Nat.mod_le _ _) h2)
  exact ⟨fun os => gi_kf hI (by omega) (by omega) (by omega) (by omega) (by omega) (by omega), fun os => gi_kf hI (by omega) (by omega) (by omega) (by omega) (by omega) (by omega), hn _ (by omega) (by omega), hn _ (by omega) (by omega), hI.nm _ (by omega) (by rw [KT_eq]; omega), hn _ (by omega) (by omega), hn _ (by omega) (by omega), hn _ (by omega) (by omega), hn _ (by omega) (by omega), hn _ (by omega) (by omega), hn _ (by omega) (by omega), hn _ (by omega) (by omega), hn _ (by omega) (by omega)⟩
theorem next_loop (Γ : Env) (M : Nat) (hM : 100 < M) (hO : OneC (Γ.pt 478)) (s : Scn) (ws : List Nat) (t a p j n f : Nat) (g : Seg) (gs ob0) (hs : ScOk s) (hws : ∀ w ∈ ws, w < 4294967296) (hwl : ws.length ≤ 100000) (ht : t ≤ 1048576) (hp : p ≤ 4000000) (hj : s.segs[j]? = some g) (hn : n < 64) (hgs : NxF gs) (ob : List (Nat × Obj)) (hI : NxI s ws t a p (segK s g) ob0 0 ob) :
    ∃ ax s', lp (exec Γ M arrive_Gen_Next_l1) M ⟨[(0, .loc 473022 0 0), (4, i64 j), (6, .sl 471006 0 0 0), (72, i64 n), (73, i64 0)] ++ gs, ob⟩ = some (ax, s') ∧
      ((a + n ≤ ws.length ∧ ax = .ex 0 ∧ ∃ ob', s' = ⟨[(0, .loc 473022 0 0), (6, .sl 471006 n 0 n)] ++ gs, ob'⟩ ∧ NxI s ws t a p (segK s g) ob0 n ob') ∨
       (ws.length < a + n ∧ ax = .ret ∧ ∃ ob', s' = ⟨[(2, .nil 4), (3, i64 50)] ++ gs, ob'⟩ ∧ keepF 471000 472000 [471006, 471093] ob' = ob' ∧ ∀ k, k < 1000 → get ob' k = get ob0 k)) := by
  have hKT := KT_eq
  obtain ⟨ax, s', hR, hin⟩ : ∃ ax s', ((a + n ≤ ws.length ∧ ax = .ex 0 ∧ ∃ ob', s' = ⟨[(0, .loc 473022 0 0), (6, .sl 471006 n 0 n)] ++ gs, ob'⟩ ∧ NxI s ws t a p (segK s g) ob0 n ob') ∨
       (ws.length < a + n ∧ ax = .ret ∧ ∃ ob', s' = ⟨[(2, .nil 4), (3, i64 50)] ++ gs, ob'⟩ ∧ keepF 471000 472000 [471006, 471093] ob' = ob' ∧ ∀ k, k < 1000 → get ob' k = get ob0 k)) ∧ ∀ s0, nrmP [0, 4, 6, 72, 73] 471000 472000 [471006, 471093] s0 = ⟨[(0, .loc 473022 0 0), (4, i64 j), (6, .sl 471006 0 0 0), (72, i64 n), (73, i64 (0 : Nat))] ++ gs, ob⟩ → lp (exec Γ M arrive_Gen_Next_l1) M s0 = some (ax, s') := by
    refine lp_allP (fun q : Nat × List (Nat × Obj) => ⟨[(0, .loc 473022 0 0), (4, i64 j), (6, .sl 471006 q.1 0 q.1), (72, i64 n), (73, i64 q.1)] ++ gs, q.2⟩) (fun q => q.1 ≤ n ∧ NxI s ws t a p (segK s g) ob0 q.1 q.2) (fun q => n - q.1) _ (0, ob) M ⟨by simp, hI⟩ (by simp only; omega) ?_
    rintro ⟨i, o⟩ ⟨hi, hN⟩
    simp only at hi hN ⊢
    have gg := hgs.g
    have gn := hgs.n
    have hgi := hN.gi
    have k1 := gi_kf hgi (lo := 471000) (hi := 472000) (os := [471006, 471093]) (by omega) (by omega) (by simp) (by simp) (by simp) (by simp)
    by_cases hlt : i < n
    · have hgen := hgi.gen
      have hG := hgi.gr j g hj
      have hsrc := hgi.src
      have hrow := srcR_get s.segs 0 j g hj
      rw [Nat.zero_add] at hrow
      have hsl := srcR_length s.segs 0
      have hjl : j < s.segs.length := by
        by_cases h : j < s.segs.length
        · exact h
        · rw [List.getElem?_eq_none (by omega)] at hj; simp at hj
      have hl8 := hs.segs.l8
      have hsg := hs.segs.all g (List.mem_of_getElem? hj)
      have hK := allW_ok hsg.k1 hsg.k4 (f := s.floors.toNat) (by have := hs.f2; omega) (by have := hs.f3; omega)
      have hB := gi_one hgi
      have e := fun gs' x1 x2 x3 x4 x5 x6 x7 x8 x9 x10 x11 x12 => hO s ws (a + i) t (p + i) s.segs.length s.floors.toNat (uV (tbl g.rate.toNat)) (gk j) (mk j) (segK s g) gs' o hwl (by omega) (by omega) hK ⟨x1, x2, x3, x4, x5, x6, x7, x8, x9, x10, x11, x12⟩ hB hG ⟨_, rfl⟩ hgen
      have hGo := hG.g
      have nG : ∀ k, k % KT < 1000000 → ¬ gk j = k := fun k hk => (hi_ne' hG.hg hk).1
      have hrow2 := getI hrow
      generalize hTb : uV (tbl g.rate.toNat) = T at *
      have hTs : ∃ R, T = .c (.vs 1 R) := ⟨_, hTb.symm⟩
      generalize hSR : srcR s.segs 0 = SR at *
      generalize hgA : gk j = GA at *
      have q1 := nG 276003 (by decide)
      have q2 := nG 276004 (by decide)
      have q3 := nG 2923003274661805836407369665432566039311865361962 (by decide)
      have q4 := nG 286004 (by decide)
      have q5 := nG 286007 (by decide)
      have q6 := nG 286009 (by decide)
      have q7 := nG 478003 (by decide)
      have q8 := nG 478004 (by decide)
      have q9 := nG 478007 (by decide)
      have q10 := nG 478009 (by decide)
      have q11 := nG 478011 (by decide)
      have q12 := nG 471010 (by decide)
      have q13 := nG 471006 (by decide)
      have w1 := gn 276003 (by omega) (by decide) (by omega)
      have w2 := gn 276004 (by omega) (by decide) (by omega)
      have w3 := gn 2923003274661805836407369665432566039311865361962 (by omega) (by decide) (by omega)
      have w4 := gn 286004 (by omega) (by decide) (by omega)
      have w5 := gn 286007 (by omega) (by decide) (by omega)
      have w6 := gn 286009 (by omega) (by decide) (by omega)
      have w7 := gn 478003 (by omega) (by decide) (by omega)
      have w8 := gn 478004 (by omega) (by decide) (by omega)
      have w9 := gn 478007 (by omega) (by decide) (by omega)
      have w10 := gn 478009 (by omega) (by decide) (by omega)
      have w11 := gn 478011 (by omega) (by decide) (by omega)
      have w12 := gn 471010 (by omega) (by decide) (by omega)
      have w13 := lcFr_nm (gn 471006 (by omega) (by decide) (by omega))
      by_cases hdry : a + i = ws.length
      · have e1 := fun gs' x1 x2 x3 x4 x5 x6 x7 x8 x9 x10 x11 x12 => (e gs' x1 x2 x3 x4 x5 x6 x7 x8 x9 x10 x11 x12).1 hdry
        clear e
        obtain ⟨R, rfl⟩ := hTs
        have z1 : nmOb 471010 o = true := hgi.nm _ (by omega) (by decide)
        have kf10 : ∀ os, 471006 ∈ os → keepF 471000 472000 os o = o := fun os h => gi_kf hgi (by omega) (by omega) (by simp) (by simp) (by simp) (.inr (.inr h))
        have z2 : get o 471010 = none := get_key_none fun q hq => by
          have := Nat.mod_le q.1 KT
          rcases hgi.key q hq with h | h | h | h | h | h <;> omega
        have z3 := del_absent _ _ z2
        have z4 : keepF 471000 472000 [471006, 471093] (keepF 471000 472000 [] o) = keepF 471000 472000 [] o := (kf_kept 471000 472000 o).eq _
        have z5 : ∀ k, k < 1000 → get (keepF 471000 472000 [] o) k = get ob0 k := fun k hk => by
          rw [get_keepM (.inl (by rw [hKT]; omega))]; exact hN.ext k hk
        have hfl : a + i = ws.length ∧ ws.length < a + n := ⟨hdry, by omega⟩
        simp -implicitDefEqProofs (disch := first | omega | (simp [gg, q1, q2, q3, q4, q5, q6, q7, q8, q9, q10, q11, w1, w2, w3, w4, w5, w6, w7, w8, w9, w10, w11, w12] <;> fail) | assumption) [gg, hlt, k1, hgen, hsrc, hsl, hrow, hrow2, hjl, e1, z1, z2, z3, z4, w12, kf10, hGo, q12]
        exact ⟨by omega, z5⟩
      · have hlw : a + i < ws.length := by have := hN.li; omega
        obtain ⟨w, hw⟩ : ∃ w, ws[a + i] = w := ⟨_, rfl⟩
        have hw1 : ws[a + i]? = some w := by rw [List.getElem?_eq_getElem hlw, hw]
        have hw2 := hws w (by rw [← hw]; exact List.getElem_mem hlw)
        have e1 := fun gs' x1 x2 x3 x4 x5 x6 x7 x8 x9 x10 x11 x12 => (e gs' x1 x2 x3 x4 x5 x6 x7 x8 x9 x10 x11 x12).2 w hw1 hw2
        clear e
        obtain ⟨R, rfl⟩ := hTs
        have hpl : ((psgF (segK s g) t ((ws.drop a).take i) p).map p4R).length = i := by
          rw [List.length_map, psgF_length, List.length_take, List.length_drop]; omega
        have hpn : (psgF (segK s g) t ((ws.drop a).take (i + 1)) p).map p4R = (psgF (segK s g) t ((ws.drop a).take i) p).map p4R ++ [p4R (p + i, t, pairF (segK s g) w)] := by
          have hd : i < (ws.drop a).length := by rw [List.length_drop]; omega
          have hdw : (ws.drop a)[i] = w := by rw [List.getElem_drop, hw]
          rw [List.take_succ_eq_append_getElem hd, hdw, psgF_append, List.length_take, Nat.min_eq_left (by omega), List.map_append]; rfl
        have y1 := fun k => nm_p4R k (psgF (segK s g) t ((ws.drop a).take i) p)
        have y2 := fun k => nmRows_out3 k (segK s g)
        have y3 := fun k => lcRows_out3 k (segK s g)
        have m6 : nmOb 471006 o = true := hgi.nm _ (by omega) (by decide)
        have m10 : nmOb 471010 o = true := hgi.nm _ (by omega) (by decide)
        have hps := hN.ps
        obtain ⟨oT, hoT⟩ : ∃ oT, del (keepF 276000 277000 [] o) 473022 = oT := ⟨_, rfl⟩
        have hmem : ∀ q ∈ oT, q ∈ o := fun q hq => by rw [← hoT] at hq; exact mem_keepF (mem_delO hq)
        have t1 : nmOb 471010 oT = true := by rw [← hoT]; exact nmOb_delO (nmOb_keep m10)
        have t2 : lcOb 471006 oT = true := by rw [← hoT]; exact lcOb_nm (nmOb_delO (nmOb_keep m6))
        have t3 : get oT 471006 = some ⟨4, (psgF (segK s g) t ((ws.drop a).take i) p).map p4R⟩ := by
          rw [← hoT, get_del, if_neg (by omega), get_keepM (.inr (.inl (by rw [hKT]; omega))), hps]
        have t4 : get oT 471010 = none := get_key_none fun q hq => by
          have := Nat.mod_le q.1 KT
          rcases hgi.key q (hmem q hq) with h | h | h | h | h | h <;> omega
        have t5 := del_absent _ _ t4
        have t6 : ∀ os, 471006 ∈ os → keepF 471000 472000 os oT = oT := fun os h => keepF_id fun q hq => by
          have := Nat.mod_le q.1 KT
          rcases hgi.key q (hmem q hq) with hh | hh | hh | hh | hh | hh
          · exact .inl (by omega)
          · rw [hh, hKT]; exact .inr (.inl (by omega))
          · rw [hh, hKT]; exact .inr (.inl (by omega))
          · rw [hh, hKT]; exact .inl (by omega)
          · exact .inr (.inr (by rw [hh]; exact h))
          · exact .inr (.inl (by omega))
        have t7 : keepF 471000 472000 [471006, 471093] (del oT 471006) = del oT 471006 := by
          have := t6 [471006, 471093] (by simp)
          refine keepF_id fun q hq => ?_
          have hq := mem_delO hq
          have h2 := Nat.mod_le q.1 KT
          rcases hgi.key q (hmem q hq) with hh | hh | hh | hh | hh | hh
          · exact .inl (by omega)
          · rw [hh, hKT]; exact .inr (.inl (by omega))
          · rw [hh, hKT]; exact .inr (.inl (by omega))
          · rw [hh, hKT]; exact .inl (by omega)
          · exact .inr (.inr (by rw [hh]; simp))
          · exact .inr (.inl (by omega))
        have hfin : NxI s ws t a p (segK s g) ob0 (i + 1) ((471006, ⟨4, (psgF (segK s g) t ((ws.drop a).take i) p).map p4R ++ [p4R (p + i, t, pairF (segK s g) w)]⟩) :: (473022, ⟨18, [genRow s ws (a + i + 1) (.sl 1000475 s.segs.length 0 s.segs.length) t (p + i + 1)]⟩) :: (276003, ⟨3, (segK s g).map out3⟩) :: del oT 471006) := by
          refine ⟨gi_mod hgi (fun q hq => ?_) rfl (fun k hk => ?_), by omega, by rw [hpn]; rfl, fun k hk => ?_⟩
          · simp only [List.mem_cons] at hq
            rcases hq with rfl | rfl | rfl | hq
            · refine .inr ⟨.inr (.inr rfl), fun k h1 h2 => ?_⟩
              rw [← hpn]; exact nm_p4R k _
            · exact .inr ⟨.inl rfl, fun k h1 h2 => nm_genRow (by rintro rfl; rw [hKT] at h2; omega) _ _ _ _ _ _⟩
            · exact .inr ⟨.inr (.inl rfl), fun k h1 h2 => nmRows_out3 k _⟩
            · exact .inl (hmem q (mem_delO hq))
          · have hne : ∀ j, j < 1000000 → ¬ j = k := fun j hj h => by rw [← h, hKT] at hk; omega
            have hne2 : ∀ j, j < 1000000 → ¬ k = j := fun j hj h => hne j hj h.symm
            simp only [Go.Am.get]
            rw [if_neg (hne _ (by omega)), if_neg (hne _ (by omega)), if_neg (hne _ (by omega)), get_del, if_neg (hne2 _ (by omega)), ← hoT, get_del, if_neg (hne2 _ (by omega)), get_keepM (.inr (.inl (by omega)))]
          · simp only [Go.Am.get]
            rw [if_neg (by omega), if_neg (by omega), if_neg (by omega), get_del, if_neg (by omega), ← hoT, get_del, if_neg (by omega), get_keepM (.inl (by rw [hKT]; omega))]
            exact hN.ext k hk
        simp only [oneOb, hoT] at e1
        generalize hRR : (psgF (segK s g) t ((ws.drop a).take i) p).map p4R = RR at *
        have kf10 : ∀ os, 471006 ∈ os → keepF 471000 472000 os o = o := fun os h => gi_kf hgi (by omega) (by omega) (by simp) (by simp) (by simp) (.inr (.inr h))
        have n1 := hi_ne' hG.hg (j := 473022) (by decide)
        simp -implicitDefEqProofs (disch := first | omega | (simp [gg, q1, q2, q3, q4, q5, q6, q7, q8, q9, q10, q11, w1, w2, w3, w4, w5, w6, w7, w8, w9, w10, w11, w12] <;> fail) | assumption) [gg, hlt, k1, hgen, hsrc, hsl, hrow, hrow2, hjl, e1, w12, w13, kf10, t1, t2, t3, t4, t5, t6, y1, y2, y3, hpl, p4D, hGo, q12, q13, t7]
        exact ⟨i + 1, _, ⟨⟨rfl, rfl⟩, rfl⟩, ⟨by omega, hfin⟩, by omega⟩
    · obtain rfl : i = n := by omega
      have := hN.li
      simp -implicitDefEqProofs (disch := first | omega | (simp [gg] <;> fail) | assumption) [gg, k1]
      exact ⟨by omega, hN⟩
  refine ⟨ax, s', hin _ ?_, hR⟩
  have k1 := gi_kf hI.gi (lo := 471000) (hi := 472000) (os := [471006, 471093]) (by omega) (by omega) (by simp) (by simp) (by simp) (by simp)
  have gg := hgs.g
  simp -implicitDefEqProofs (disch := first | omega | (simp [gg] <;> fail) | assumption) [gg, k1]
end Go.Am
