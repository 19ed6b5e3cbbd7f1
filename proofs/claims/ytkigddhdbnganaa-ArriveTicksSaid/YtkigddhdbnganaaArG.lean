/- Who comes next. -/
import Derived.Test.YtkigddhdbnganaaArE
set_option linter.unusedVariables false
set_option linter.unusedSimpArgs false
set_option maxRecDepth 10000
set_option maxHeartbeats 4000000
namespace Go.Am
def ExtO (ob ob' : List (Nat × Obj)) : Prop := ∀ k, k < 1000 → get ob' k = get ob k
structure NxC (g : St → Option (List AV × List (Nat × Obj))) : Prop where
  over : ∀ (s : Scn) (ws : List Nat) (t a p : Nat) gs ob, ScOk s → t ≤ 1048576 → NxF gs → GI s ws t a p ob → s.horizon ≤ t ∨ totT s.segs ≤ t →
    ∃ ob', g ⟨(0, .loc 473022 0 0) :: gs, ob⟩ = some ([.nil 4, i64 0], ob') ∧ GI s ws t a p ob' ∧ ExtO ob ob'
  come : ∀ (s : Scn) (ws : List Nat) (t a p : Nat) gs ob, ScOk s → (∀ w ∈ ws, w < 4294967296) → ws.length ≤ 100000 → a ≤ ws.length → t ≤ 1048576 → p ≤ 4000000 → NxF gs → GI s ws t a p ob → t < s.horizon → t < totT s.segs → ∀ m b, stepT s ws t a p = some (m, b) →
    ∃ ob', g ⟨(0, .loc 473022 0 0) :: gs, ob⟩ = some ([.sl 471006 m.length 0 m.length, i64 0], ob') ∧ GI s ws (t + 1) b (p + m.length) ob' ∧ get ob' 471006 = some ⟨4, m.map p4R⟩ ∧ ExtO ob ob'
  dry : ∀ (s : Scn) (ws : List Nat) (t a p : Nat) gs ob, ScOk s → (∀ w ∈ ws, w < 4294967296) → ws.length ≤ 100000 → a ≤ ws.length → t ≤ 1048576 → p ≤ 4000000 → NxF gs → GI s ws t a p ob → t < s.horizon → t < totT s.segs → stepT s ws t a p = none →
    ∃ ob', g ⟨(0, .loc 473022 0 0) :: gs, ob⟩ = some ([.nil 4, i64 50], ob') ∧ ExtO ob ob'
theorem gi_drop {s : Scn} {ws : List Nat} {t a p : Nat} {ob : List (Nat × Obj)} (hI : GI s ws t a p ob) : GI s ws t a p (keepF 471000 472000 [] ob) ∧ ExtO ob (keepF 471000 472000 [] ob) := by
  have hKT := KT_eq
  refine ⟨gi_mod hI (fun q hq => .inl (mem_keepF hq)) ?_ fun k hk => ?_, fun k hk => ?_⟩
  · rw [get_keepM (.inr (.inl (by rw [hKT]; omega))), hI.gen]
  · rw [get_keepM (.inr (.inl (by omega)))]
  · rw [get_keepM (.inl (by rw [hKT]; omega))]
/-- The state behind the store of a number of the generator's. -/
theorem gi_store {s : Scn} {ws : List Nat} {t a p t' a' p' : Nat} {ob pre : List (Nat × Obj)} (hI : GI s ws t a p ob) (hp : ∀ q ∈ pre, q.1 = 471006 ∧ ∀ k, nmRows k q.2.rows = true) : GI s ws t' a' p' ((473022, ⟨18, [genRow s ws a' (.sl 1000475 s.segs.length 0 s.segs.length) t' p']⟩) :: (pre ++ del ob 473022)) := by
  have hKT := KT_eq
  refine gi_mod hI (fun q hq => ?_) rfl fun k hk => ?_
  · simp only [List.mem_cons, List.mem_append] at hq
    rcases hq with rfl | hq | hq
    · exact .inr ⟨.inl rfl, fun k h1 h2 => nm_genRow (by rintro rfl; rw [hKT] at h2; omega) _ _ _ _ _ _⟩
    · exact .inr ⟨.inr (.inr (hp q hq).1), fun k _ _ => (hp q hq).2 k⟩
    · exact .inl (mem_delO hq)
  · have hne : ∀ j, j < 1000000 → ¬ j = k := fun j hj h => by rw [← h, hKT] at hk; omega
    have : ∀ pre : List (Nat × Obj), (∀ q ∈ pre, q.1 = 471006) → get (pre ++ del ob 473022) k = get (del ob 473022) k := by
      intro pre
      induction pre with
      | nil => intro _; rfl
      | cons q pre ih =>
        intro h
        obtain ⟨i, o⟩ := q
        have h1 := h (i, o) (by simp)
        simp only at h1
        simp only [List.cons_append, Go.Am.get]
        rw [if_neg (by rw [h1]; exact hne _ (by omega))]
        exact ih fun q hq => h q (List.mem_cons_of_mem _ hq)
    simp only [Go.Am.get]
    rw [if_neg (hne _ (by omega)), this pre fun q hq => (hp q hq).1, get_del, if_neg (Ne.symm (hne _ (by omega)))]
theorem arrive_Next_over (Γ : Env) (M : Nat) (hW : WhenC (Γ 480)) (hO : OverP (Γ.pt 472)) (s : Scn) (ws : List Nat) (t a p : Nat) (gs ob) (hs : ScOk s) (ht : t ≤ 1048576) (hgs : NxF gs) (hI : GI s ws t a p ob) (hov : s.horizon ≤ t ∨ totT s.segs ≤ t) :
    runP Γ M arrive_Gen_Next_f ⟨(0, .loc 473022 0 0) :: gs, ob⟩ = some ([.nil 4, i64 0], keepF 471000 472000 [] ob) := by
  have hKT := KT_eq
  have gg := hgs.g
  obtain ⟨hI1, _⟩ := gi_drop hI
  have hgen := hI1.gen
  have e1 := hW s.segs t hs.segs (by omega) (by omega)
  have e2 := fun gs' g' => hO s ws a t p _ gs' (keepF 471000 472000 [] ob) hs g' hgen
  have hb : (decide (s.horizon ≤ (t : Int)) || decide (totT s.segs ≤ (t : Int))) = true := by
    rcases hov with h | h <;> simp [h]
  rw [hb] at e2
  have kk := (kf_kept 471000 472000 ob)
  generalize hob1 : keepF 471000 472000 [] ob = ob1 at *
  cases hat : atF s.segs (t : Int) with
  | none =>
    rw [hat] at e1
    simp only at e1
    simp -implicitDefEqProofs (disch := first | omega | (simp [gg] <;> fail) | assumption) [gg, hgen, e1, e2, kk, hob1]
  | some j =>
    rw [hat] at e1
    simp only at e1
    simp -implicitDefEqProofs (disch := first | omega | (simp [gg] <;> fail) | assumption) [gg, hgen, e1, e2, kk, hob1]
theorem arrive_Next_run (Γ : Env) (M : Nat) (hM : 100 < M) (hW : WhenC (Γ 480)) (hOv : OverP (Γ.pt 472)) (hD : DNextC (Γ 479)) (hO : OneC (Γ.pt 478)) (s : Scn) (ws : List Nat) (t a p : Nat) (gs ob) (hs : ScOk s) (hws : ∀ w ∈ ws, w < 4294967296) (hwl : ws.length ≤ 100000) (ha : a ≤ ws.length) (ht : t ≤ 1048576) (hp : p ≤ 4000000) (hgs : NxF gs) (hI : GI s ws t a p ob) (ht1 : t < s.horizon) (ht2 : t < totT s.segs) :
    (∀ m b, stepT s ws t a p = some (m, b) → ∃ ob', runP Γ M arrive_Gen_Next_f ⟨(0, .loc 473022 0 0) :: gs, ob⟩ = some ([.sl 471006 m.length 0 m.length, i64 0], ob') ∧ GI s ws (t + 1) b (p + m.length) ob' ∧ get ob' 471006 = some ⟨4, m.map p4R⟩ ∧ ExtO ob ob') ∧
    (stepT s ws t a p = none → ∃ ob', runP Γ M arrive_Gen_Next_f ⟨(0, .loc 473022 0 0) :: gs, ob⟩ = some ([.nil 4, i64 50], ob') ∧ ExtO ob ob') := by
  have hKT := KT_eq
  have gg := hgs.g
  obtain ⟨hI1, hx1⟩ := gi_drop hI
  have hgen := hI1.gen
  have hsrc := hI1.src
  have e1 := hW s.segs t hs.segs (by omega) (by omega)
  have e2 := fun gs' g' => hOv s ws a t p _ gs' (keepF 471000 472000 [] ob) hs g' hgen
  have hb : (decide (s.horizon ≤ (t : Int)) || decide (totT s.segs ≤ (t : Int))) = false := by
    have h1 : ¬ s.horizon ≤ (t : Int) := by omega
    have h2 : ¬ totT s.segs ≤ (t : Int) := by omega
    simp [h1, h2]
  rw [hb] at e2
  have kk := (kf_kept 471000 472000 ob)
  obtain ⟨j, hat⟩ : ∃ j, atF s.segs (t : Int) = some j := by
    cases h : atF s.segs (t : Int) with
    | none => have := (atF_none hs.segs.all (by omega)).1 h; omega
    | some j => exact ⟨j, rfl⟩
  have hjl := atF_get hat
  rw [hat] at e1
  simp only at e1
  obtain ⟨g, hgj⟩ : ∃ g, s.segs[j] = g := ⟨_, rfl⟩
  have hj : s.segs[j]? = some g := by rw [List.getElem?_eq_getElem hjl, hgj]
  have hgd : s.segs.getD j zSeg = g := by simp [hjl, hgj]
  have hsg := hs.segs.all g (List.mem_of_getElem? hj)
  have hl8 := hs.segs.l8
  have w6 := hgs.n 471006 (by omega) (by decide) (by omega)
  have w8 := hgs.n 471008 (by omega) (by decide) (by omega)
  have o6 : nmOb 471006 (keepF 471000 472000 [] ob) = true := hI1.nm _ (by omega) (by decide)
  have o8 : nmOb 471008 (keepF 471000 472000 [] ob) = true := hI1.nm _ (by omega) (by decide)
  have d6 := del_kf (k := 471006) kk (by rw [hKT]; omega) (by rw [hKT]; omega)
  have d8 := del_kf (k := 471008) kk (by rw [hKT]; omega) (by rw [hKT]; omega)
  rw [stepT_at hat hgd]
  have hrow := srcR_get s.segs 0 j g hj
  rw [Nat.zero_add] at hrow
  have hrow2 := getI hrow
  have hsl := srcR_length s.segs 0
  generalize hSR : srcR s.segs 0 = SR at *
  generalize hob1 : keepF 471000 472000 [] ob = ob1 at *
  have kD := kf_delO (k := 473022) kk
  have g8 := get_kf (k := 471008) kk (by rw [hKT]; omega) (by rw [hKT]; omega)
  have b8 := nmFrB_nm (d := 8) w8
  obtain ⟨kd, td, rt⟩ := g
  have hr0 := hsg.r0
  have hr1 := hsg.r1
  simp only at hr0 hr1
  by_cases hr : rt = 0
  · subst hr
    simp only [if_true]
    refine ⟨fun m b h => ?_, fun h => by simp at h⟩
    simp only [Option.some.injEq, Prod.mk.injEq] at h
    obtain ⟨rfl, rfl⟩ := h
    have hS := gi_store (t' := t + 1) (a' := a) (p' := p) hI1 (pre := [(471006, ⟨4, []⟩)]) (by simp)
    simp only [List.cons_append, List.nil_append] at hS
    refine ⟨(473022, ⟨18, [genRow s ws a (.sl 1000475 s.segs.length 0 s.segs.length) (t + 1) p]⟩) :: (471006, ⟨4, []⟩) :: del ob1 473022, ?_, hS, rfl, fun k hk => ?_⟩
    · simp -implicitDefEqProofs (disch := first | omega | (simp [gg] <;> fail) | assumption) [gg, hgen, e1, e2, kk, hob1, hjl, hgj, w6, o6, d6, kD]
    · simp only [Go.Am.get]
      rw [if_neg (by omega), if_neg (by omega), get_del, if_neg (by omega)]
      exact hx1 k hk
  · rw [if_neg hr]
    have hrp : 0 < rt := by omega
    have hrn : ((rt.toNat : Nat) : Int) = rt := by omega
    cases hwa : ws[a]? with
    | none =>
      have hal : a = ws.length := by
        by_cases h : a < ws.length
        · rw [List.getElem?_eq_getElem h] at hwa; simp at hwa
        · omega
      have e3 := hD.1 rt.toNat ws hwl
      rw [← hal] at e3
      simp only [strD] at e3
      refine ⟨fun m b h => by simp at h, fun _ => ?_⟩
      have hfin : ExtO ob ob1 := hx1
      refine ⟨ob1, ?_, hfin⟩
      generalize hTb : uV (tbl rt.toNat) = T at *
      obtain ⟨R, rfl⟩ : ∃ R, T = .c (.vs 1 R) := ⟨_, hTb.symm⟩
      simp -implicitDefEqProofs (disch := first | omega | (simp [gg] <;> fail) | assumption) [gg, hgen, hsrc, hsl, hrow, hrow2, e1, e2, e3, kk, hob1, hjl, hgj, w6, o6, d6, w8, o8, d8, kD, hrp, g8, b8]
    | some w =>
      have hal : a < ws.length := by
        by_cases h : a < ws.length
        · exact h
        · rw [List.getElem?_eq_none (by omega)] at hwa; simp at hwa
      have hw2 := hws w (List.mem_of_getElem? hwa)
      have e3 := hD.2 rt.toNat ws a w hwl hwa hw2
      have hn64 := means_64 (rate := rt.toNat) hw2
      simp only
      generalize hn : meansF (tbl rt.toNat) w = n at *
      simp only [strD] at e3
      have hS := gi_store (t' := t) (a' := a + 1) (p' := p) hI1 (pre := [(471006, ⟨4, []⟩)]) (by simp)
      simp only [List.cons_append, List.nil_append] at hS
      obtain ⟨oL, hoL⟩ : ∃ oL, (473022, (⟨18, [genRow s ws (a + 1) (.sl 1000475 s.segs.length 0 s.segs.length) t p]⟩ : Obj)) :: (471006, ⟨4, []⟩) :: del ob1 473022 = oL := ⟨_, rfl⟩
      have hN0 : NxI s ws t (a + 1) p (segK s ⟨kd, td, rt⟩) ob 0 oL := by
        rw [← hoL]
        refine ⟨hS, by omega, rfl, fun k hk => ?_⟩
        simp only [Go.Am.get]
        rw [if_neg (by omega), if_neg (by omega), get_del, if_neg (by omega)]
        exact hx1 k hk
      obtain ⟨ax, s', hlp, hres⟩ := next_loop Γ M hM hO s ws t (a + 1) p j n 0 ⟨kd, td, rt⟩ gs ob hs hws hwl ht hp hj hn64 hgs oL hN0
      simp only [List.cons_append, List.nil_append] at hlp
      rw [← hoL] at hlp
      have e0 : ((a + 1 : Nat) : Int) = (a : Int) + 1 := rfl
      simp only [genRow, e0] at hlp
      have hp3 : ¬ 4194304 < (p : Int) + n := by omega
      generalize hTb : uV (tbl rt.toNat) = T at *
      obtain ⟨R, rfl⟩ : ∃ R, T = .c (.vs 1 R) := ⟨_, hTb.symm⟩
      rcases hres with ⟨h1, rfl, o', rfl, hN⟩ | ⟨h1, rfl, o', rfl, hko, hxo⟩
      · refine ⟨fun m b h => ?_, fun h => by rw [if_neg (by omega)] at h; simp at h⟩
        rw [if_neg (by omega)] at h
        simp only [Option.some.injEq, Prod.mk.injEq] at h
        obtain ⟨rfl, rfl⟩ := h
        have hml : (psgF (segK s ⟨kd, td, rt⟩) t ((ws.drop (a + 1)).take n) p).length = n := by
          rw [psgF_length, List.length_take, List.length_drop]; omega
        rw [hml]
        have hgi := hN.gi
        have hge2 := hgi.gen
        have k1 := gi_kf hgi (lo := 471000) (hi := 472000) (os := [471006, 471093]) (by omega) (by omega) (by simp) (by simp) (by simp) (by simp)
        have hS2 := gi_store (t' := t + 1) (a' := a + 1 + n) (p' := p + n) hgi (pre := []) (by simp)
        simp only [List.nil_append] at hS2
        have k2 : keepF 471000 472000 [471006, 471093] (del o' 473022) = del o' 473022 := keepF_id fun q hq => by
          have h2 := Nat.mod_le q.1 KT
          rcases hgi.key q (mem_delO hq) with hh | hh | hh | hh | hh | hh
          · exact .inl (by omega)
          · rw [hh, hKT]; exact .inr (.inl (by omega))
          · rw [hh, hKT]; exact .inr (.inl (by omega))
          · rw [hh, hKT]; exact .inl (by omega)
          · exact .inr (.inr (by rw [hh]; simp))
          · exact .inr (.inl (by omega))
        refine ⟨(473022, ⟨18, [genRow s ws (a + 1 + n) (.sl 1000475 s.segs.length 0 s.segs.length) (t + 1) (p + n)]⟩) :: del o' 473022, ?_, hS2, ?_, fun k hk => ?_⟩
        · simp -implicitDefEqProofs (disch := first | omega | (simp [gg] <;> fail) | assumption) [gg, hgen, hsrc, hsl, hrow, hrow2, e1, e2, e3, kk, hob1, hjl, hgj, w6, o6, d6, w8, o8, d8, kD, hrp, g8, b8, hp3, hlp, hge2, k1, k2]
        · simp only [Go.Am.get]
          rw [if_neg (by omega), get_del, if_neg (by omega), hN.ps]
        · simp only [Go.Am.get]
          rw [if_neg (by omega), get_del, if_neg (by omega)]
          exact hN.ext k hk
      · refine ⟨fun m b h => by rw [if_pos (by omega)] at h; simp at h, fun _ => ⟨o', ?_, hxo⟩⟩
        simp -implicitDefEqProofs (disch := first | omega | (simp [gg] <;> fail) | assumption) [gg, hgen, hsrc, hsl, hrow, hrow2, e1, e2, e3, kk, hob1, hjl, hgj, w6, o6, d6, w8, o8, d8, kD, hrp, g8, b8, hp3, hlp, hko]
theorem arrive_Next_C (Γ : Env) (M : Nat) (hM : 100 < M) (hW : WhenC (Γ 480)) (hOv : OverP (Γ.pt 472)) (hD : DNextC (Γ 479)) (hO : OneC (Γ.pt 478)) : NxC (runP Γ M arrive_Gen_Next_f) where
  over := fun s ws t a p gs ob hs ht hgs hI hov => ⟨_, arrive_Next_over Γ M hW hOv s ws t a p gs ob hs ht hgs hI hov, (gi_drop hI).1, (gi_drop hI).2⟩
  come := fun s ws t a p gs ob hs hws hwl ha ht hp hgs hI h1 h2 => (arrive_Next_run Γ M hM hW hOv hD hO s ws t a p gs ob hs hws hwl ha ht hp hgs hI h1 h2).1
  dry := fun s ws t a p gs ob hs hws hwl ha ht hp hgs hI h1 h2 => (arrive_Next_run Γ M hM hW hOv hD hO s ws t a p gs ob hs hws hwl ha ht hp hgs hI h1 h2).2
end Go.Am
