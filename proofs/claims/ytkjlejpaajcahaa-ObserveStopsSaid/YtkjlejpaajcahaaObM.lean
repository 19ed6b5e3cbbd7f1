/- Law 58: ObserveStops, the whole. -/
import Derived.Test.YtkjlejpaajcahaaObL
set_option linter.unusedVariables false
set_option linter.unusedSimpArgs false
set_option maxRecDepth 10000
set_option maxHeartbeats 4000000
namespace Go.Am
theorem stL_small (l : List Trip) (k : Nat) (hl : l.length ≤ 100) : (stL (evO (l.take k))).length ≤ 200 := by
  rw [stL_len]
  have h1 := len_cnt (evO (l.take k))
  have h2 := evO_len (l.take k)
  rw [List.length_take] at h2
  omega
theorem ob_l3 (Γ : Env) (M : Nat) (hM : 1000 < M) (hG : GetC58 (Γ.pt 57)) (hC : CntC58 (Γ 457)) (hF : AtF58 (Γ 455)) (hCo : ConC58 (Γ 456)) (l : List Trip) (hl : l.length ≤ 100) (T : List (Nat × Obj)) (hT : TOk l T) (b : Int) (s : Bool) :
    ∀ s0, nrmP [0, 7, 8, 9, 10, 11, 12, 13] 0 1000 [9, 154, 167] s0 = ⟨[(0, vT l), (7, .loc 459007 0 0), (8, .mp 1461501637330902918203684832716283019655932618982), (9, .sl 9 (stL (evO (l.take 0))).length 0 (stL (evO (l.take 0))).length), (10, i64 b), (11, bo s), (12, i64 (moO (flO l) (l.take 0))), (13, i64 (0 : Nat))], (9, ⟨2, roS (stL (evO (l.take 0)))⟩) :: T⟩ →
      lp (exec Γ M law58_ObserveStops_l3) M s0 = some (.ex 0, ⟨[(0, vT l), (8, .mp 1461501637330902918203684832716283019655932618982), (9, .sl 9 (stL (evO l)).length 0 (stL (evO l)).length), (10, i64 b), (11, bo s), (12, i64 (moO (flO l) l))], (9, ⟨2, roS (stL (evO l))⟩) :: T⟩) := by
  obtain ⟨ax, s', ⟨rfl, rfl⟩, hin⟩ : ∃ ax s', (ax = .ex 0 ∧ s' = ⟨[(0, vT l), (8, .mp 1461501637330902918203684832716283019655932618982), (9, .sl 9 (stL (evO l)).length 0 (stL (evO l)).length), (10, i64 b), (11, bo s), (12, i64 (moO (flO l) l))], (9, ⟨2, roS (stL (evO l))⟩) :: T⟩) ∧ ∀ s0, nrmP [0, 7, 8, 9, 10, 11, 12, 13] 0 1000 [9, 154, 167] s0 = ⟨[(0, vT l), (7, .loc 459007 0 0), (8, .mp 1461501637330902918203684832716283019655932618982), (9, .sl 9 (stL (evO (l.take 0))).length 0 (stL (evO (l.take 0))).length), (10, i64 b), (11, bo s), (12, i64 (moO (flO l) (l.take 0))), (13, i64 (0 : Nat))], (9, ⟨2, roS (stL (evO (l.take 0)))⟩) :: T⟩ → lp (exec Γ M law58_ObserveStops_l3) M s0 = some (ax, s') := by
    refine lp_allP (fun q : Nat => ⟨[(0, vT l), (7, .loc 459007 0 0), (8, .mp 1461501637330902918203684832716283019655932618982), (9, .sl 9 (stL (evO (l.take q))).length 0 (stL (evO (l.take q))).length), (10, i64 b), (11, bo s), (12, i64 (moO (flO l) (l.take q))), (13, i64 q)], (9, ⟨2, roS (stL (evO (l.take q)))⟩) :: T⟩) (fun q => q ≤ l.length) (fun q => l.length - q) _ 0 M (by omega) (by omega) ?_
    intro q hq
    have hk := hT.k
    have h14 := hT.n14
    have d14 := hT.d14
    by_cases hlt : q < l.length
    · obtain ⟨t, ht⟩ : ∃ w, l[q]'hlt = w := ⟨_, rfl⟩
      have hrow : (l.map Trip.cells)[q]? = some t.cells := by simp [hlt, ht]
      have hev := evO_take hlt
      have hmo := moO_take (flO l) l q hlt
      rw [ht] at hev hmo
      have hsm := stL_small l q hl
      have fin : ∀ S' m', S' = stL (evO (l.take q) ++ evO1 t) → m' = mx2 (moO (flO l) (l.take q)) ((flO l).count t.frm) ((flO l).count t.to) → ∃ q' : Nat, (⟨[(0, vT l), (7, .loc 459007 0 0), (8, .mp 1461501637330902918203684832716283019655932618982), (9, .sl 9 S'.length 0 S'.length), (10, i64 b), (11, bo s), (12, i64 m'), (13, i64 ((q : Int) + 1))], (9, ⟨2, roS S'⟩) :: T⟩ : St) = ⟨[(0, vT l), (7, .loc 459007 0 0), (8, .mp 1461501637330902918203684832716283019655932618982), (9, .sl 9 (stL (evO (l.take q'))).length 0 (stL (evO (l.take q'))).length), (10, i64 b), (11, bo s), (12, i64 (moO (flO l) (l.take q'))), (13, i64 q')], (9, ⟨2, roS (stL (evO (l.take q')))⟩) :: T⟩ ∧ q' ≤ l.length ∧ l.length - q' < l.length - q := by
        rintro S' m' rfl rfl
        exact ⟨q + 1, by rw [hev, hmo]; simp, by omega, by omega⟩
      have hlp := ob_l2 Γ M hM l hl T hT (stL (evO (l.take q))) hsm b s (moO (flO l) (l.take q)) q t ⟨[(0, vT l), (7, .loc 459007 0 0), (8, .mp 1461501637330902918203684832716283019655932618982), (9, .sl 9 (stL (evO (l.take q))).length 0 (stL (evO (l.take q))).length), (10, i64 b), (11, bo s), (12, i64 (moO (flO l) (l.take q))), (13, i64 q), (14, .loc 14 0 0), (15, i64 0), (16, .c (.int .i64 0))], (14, ⟨7, [t.cells.map .c]⟩) :: (9, ⟨2, roS (stL (evO (l.take q)))⟩) :: T⟩ (by
        have h0 : (wnO (l.take 0)).count (t.frm, t.to) = 0 := rfl
        rw [h0]
        generalize roS (stL (evO (l.take q))) = R
        simp [hk])
      have hX := ob_X Γ M hG hC l hl T hT (stL (evO (l.take q))) b s (moO (flO l) (l.take q)) q t
      obtain ⟨sY, hY, y0, y7, y8, y9, y10, y11, y12, y13, yg, yo⟩ := ob_Y Γ M hF hCo l hl T hT (evO (l.take q)) (by omega) b s (moO (flO l) (l.take q)) q t
      obtain ⟨q', f1, f2, f3⟩ := fin _ _ rfl rfl
      have a0 : ∀ z, nmRows z (roS (stL (evO (l.take q)))) = true := fun z => nmRows_comp z c2O _
      generalize stL (evO (l.take q) ++ evO1 t) = S' at *
      generalize mx2 (moO (flO l) (l.take q)) ((flO l).count t.frm) ((flO l).count t.to) = m' at *
      generalize ((wnO l).count (t.frm, t.to) : Int) = nw at *
      generalize moO (flO l) (l.take q) = m at *
      generalize roS (stL (evO (l.take q))) = R at *
      generalize (stL (evO (l.take q))).length = n at *
      simp only [Trip.cells, List.map_cons, List.map_nil] at hrow hlp hX hY
      simp -implicitDefEqProofs (disch := first | omega | (simp [a0] <;> fail) | assumption) [-law58_ObserveStops_l3b_x, ob_l3b_x, hlt, hrow, hk, h14, d14, a0, hlp, hX, hY, y0, y7, y8, y9, y10, y11, y12, y13, yg, yo]
      exact ⟨q', by simpa using f1, f2, f3⟩
    · obtain rfl : q = l.length := by omega
      rw [List.take_length]
      generalize roS (stL (evO l)) = R
      simp -implicitDefEqProofs (disch := first | omega | (simp <;> fail) | assumption) [hk]
  exact hin
/-- No floor with as much is lower. -/
theorem ob_l1 (Γ : Env) (M : Nat) (hM : 1000 < M) (hF : AtF58 (Γ 455)) (l : List Trip) (hl : l.length ≤ 100) (T : List (Nat × Obj)) (hT : ∀ os, keepF 0 1000 os T = T) (m b : Int) (s : Bool) (hB : BusyOk l m b s) :
    ∃ fr, ∀ s0, nrmP [0, 10, 11, 12, 19] 0 1000 [] s0 = ⟨[(0, vT l), (10, i64 b), (11, bo s), (12, i64 m), (19, i64 (0 : Nat))], T⟩ → lp (exec Γ M law58_ObserveStops_l1) M s0 = some (.ex 4, ⟨fr, T⟩) := by
  obtain ⟨ax, s', ⟨rfl, rfl⟩, hin⟩ : ∃ ax s', (ax = .ex 4 ∧ s' = ⟨[], T⟩) ∧ ∀ s0, nrmP [0, 10, 11, 12, 19] 0 1000 [] s0 = ⟨[(0, vT l), (10, i64 b), (11, bo s), (12, i64 m), (19, i64 (0 : Nat))], T⟩ → lp (exec Γ M law58_ObserveStops_l1) M s0 = some (ax, s') := by
    refine lp_allP (fun q : Nat => ⟨[(0, vT l), (10, i64 b), (11, bo s), (12, i64 m), (19, i64 q)], T⟩) (fun q => q ≤ l.length) (fun q => l.length - q) _ 0 M (by omega) (by omega) ?_
    intro q hq
    by_cases hlt : q < l.length
    · cases s with
      | false => simp -implicitDefEqProofs (disch := first | omega | (simp <;> fail) | assumption) [hlt, hT]
      | true =>
        obtain ⟨t, ht⟩ : ∃ w, l[q]'hlt = w := ⟨_, rfl⟩
        have hrow : (l.map Trip.cells)[q]? = some t.cells := by simp [hlt, ht]
        have e1 := hF l t.frm hl
        have e2 := hF l t.to hl
        have g1 := hB.least rfl t.frm
        have g2 := hB.least rfl t.to
        generalize ((flO l).count t.frm : Int) = n1 at *
        generalize ((flO l).count t.to : Int) = n2 at *
        simp only [Trip.cells] at hrow
        have go : ∃ q' : Nat, ((q : Int) + 1 = q') ∧ q' ≤ l.length ∧ l.length - q' < l.length - q := ⟨q + 1, by simp, by omega, by omega⟩
        by_cases k1 : n1 = m
        · have k2 : ¬ t.frm < b := by have := g1 k1; omega
          by_cases k3 : n2 = m
          · have k4 : ¬ t.to < b := by have := g2 k3; omega
            simp -implicitDefEqProofs (disch := first | omega | (simp <;> fail) | assumption) [hlt, hrow, hT, e1, e2, k1, k2, k3, k4]
            exact go
          · simp -implicitDefEqProofs (disch := first | omega | (simp <;> fail) | assumption) [hlt, hrow, hT, e1, e2, k1, k2, k3]
            exact go
        · by_cases k3 : n2 = m
          · have k4 : ¬ t.to < b := by have := g2 k3; omega
            simp -implicitDefEqProofs (disch := first | omega | (simp <;> fail) | assumption) [hlt, hrow, hT, e1, e2, k1, k3, k4]
            exact go
          · simp -implicitDefEqProofs (disch := first | omega | (simp <;> fail) | assumption) [hlt, hrow, hT, e1, e2, k1, k3]
            exact go
    · obtain rfl : q = l.length := by omega
      simp -implicitDefEqProofs (disch := first | omega | (simp <;> fail) | assumption) [hT]
  exact ⟨[], hin⟩
theorem tok_T (l : List Trip) (G3 : List W3) : TOk l ((1461501637330902918203684832716283019655932618982, ⟨(cntE (evO l)).1, roE (cntE (evO l)).2⟩) :: (276003, ⟨3, G3.map out3⟩) :: grOb 459007 (gG (wnO l))) := by
  have a1 := nmRows_out3
  have a2 := lcRows_out3
  have a3 := fun k => nmRows_roE k (cntE (evO l)).2
  have a4 := fun k => lcRows_roE k (cntE (evO l)).2
  have hg := gAt_gr (wnO l) [(1461501637330902918203684832716283019655932618982, ⟨(cntE (evO l)).1, roE (cntE (evO l)).2⟩), (276003, ⟨3, G3.map out3⟩)] rfl rfl
  obtain ⟨R, hR⟩ : ∃ R, roE (cntE (evO l)).2 = R := ⟨_, rfl⟩
  rw [hR] at hg ⊢
  simp only [hR] at a3 a4
  constructor
  · intro os; unfold gG; split <;> simp [grOb]
  · intro os; unfold gG; split <;> simp [grOb]
  · unfold gG; split <;> simp [grOb, nmRows_row, a1, a3]
  · unfold gG; split <;> simp [grOb]
  · exact hg
  · simp [Go.Am.get, hR]
  · unfold gG; split <;> simp [grOb]
  all_goals (unfold gG; split <;> simp [grOb, nmRows_row, lcRows_row, a1, a2, a3, a4])
theorem ObserveStops_run {Γ : Env} {M : Nat} (hM : 1000 < M) (hGr : GridC58 (Γ.pt 459)) (hSu : SumC (Γ.pt 304)) (hAt : AtC58 (Γ 59)) (hSt : StopsC (Γ.pt 76)) (hBu : BusyC (Γ 458)) (hG : GetC58 (Γ.pt 57)) (hC : CntC58 (Γ 457)) (hF : AtF58 (Γ 455)) (hCo : ConC58 (Γ 456)) (hal : Γ 13 [] = some [bo true]) (l : List Trip) (car fl : Int) :
    run Γ M law58_ObserveStops_f [vT l, i64 car, i64 fl] = some [bo true] := by
  by_cases c : 100 < l.length
  · have c' : 100 < (l.length : Int) := by omega
    simp -implicitDefEqProofs (disch := first | omega | assumption) [c, c']
  have c' : ¬ 100 < (l.length : Int) := by omega
  have hl : l.length ≤ 100 := by omega
  have hwl : (wnO l).length = l.length := by unfold wnO; rw [List.length_map]
  have eGr := fun gs a b c d e f g => hGr l gs hl ⟨⟨a, b, c, d, e⟩, f, g⟩
  have eSu := fun gs a b c d e f g h i j => hSu 459007 (gG (wnO l)) gs [] (gok_gG _ (by omega)) ⟨a, b, c, d, e, f, g, h, i, j⟩ ⟨by decide, by decide, by decide, by decide, by decide, kf_nil _ _, kf_nil _ _, kf_nil _ _, rfl, rfl, rfl, rfl, rfl, rfl, rfl, rfl, rfl, rfl, rfl, rfl, rfl, rfl⟩ (by rw [entsG_gG]; have := len_cnt (wnO l); omega) (all_small _ (by omega))
  simp only [List.append_nil] at eSu
  rw [sum_gG, hwl] at eSu
  have e1 := hAt l car fl hl
  have e2 := hC l car fl hl
  have hT := tok_T l (allM (gG (wnO l)))
  have eSt : ∀ gs, Gh gs → nmFr 76005 gs = true → nmFr 1461501637330902918203684832716283019655932618982 gs = true → Γ.pt 76 ⟨(0, vT l) :: gs, (276003, ⟨3, (allM (gG (wnO l))).map out3⟩) :: grOb 459007 (gG (wnO l))⟩ = some ([.mp 1461501637330902918203684832716283019655932618982], (1461501637330902918203684832716283019655932618982, ⟨(cntE (evO l)).1, roE (cntE (evO l)).2⟩) :: (276003, ⟨3, (allM (gG (wnO l))).map out3⟩) :: grOb 459007 (gG (wnO l))) := by
    intro gs a b c
    have a1 := nmRows_out3
    refine hSt l gs _ hl ⟨a, fun os => ?_, b, c, ?_, ?_, ?_, ?_⟩
    · unfold gG; split <;> simp [grOb]
    all_goals (unfold gG; split <;> simp [grOb, nmRows_row, a1])
  have eBu := hBu l hl
  have hbo := busy_ok l
  have h3 := ob_l3 Γ M hM hG hC hF hCo l hl _ hT (busyF (flO l)).1 (busyF (flO l)).2
  obtain ⟨fr1, h1⟩ := ob_l1 Γ M hM hF l hl _ hT.k (moO (flO l) l) (busyF (flO l)).1 (busyF (flO l)).2 hbo
  have eF := hF l (busyF (flO l)).1 hl
  have hsl := stL_len (evO l)
  have hTg : ∃ o, get (grOb 459007 (gG (wnO l))) 459007 = some o := by unfold gG; split <;> exact ⟨_, rfl⟩
  obtain ⟨og, hog⟩ := hTg
  have hkO : ∀ os, keepF 0 1000 os (grOb 459007 (gG (wnO l))) = grOb 459007 (gG (wnO l)) := fun os => by unfold gG; split <;> simp [grOb]
  have hnO : nmOb 9 (grOb 459007 (gG (wnO l))) = true := by unfold gG; split <;> simp [grOb, nmRows_row]
  have hdO : del (grOb 459007 (gG (wnO l))) 9 = grOb 459007 (gG (wnO l)) := by unfold gG; split <;> simp [grOb]
  have b1 := nmRows_out3 9 (allM (gG (wnO l)))
  have b2 := nmRows_roE 9 (cntE (evO l)).2
  have b3 := roE_len (cntE (evO l)).2
  have b4 := roS_len (stL (evO l))
  have h3' := h3 ⟨[(0, vT l), (7, .loc 459007 0 0), (8, .mp 1461501637330902918203684832716283019655932618982), (9, .sl 9 0 0 0), (10, i64 (busyF (flO l)).1), (11, bo (busyF (flO l)).2), (12, .c (.int .i64 0)), (13, .c (.int .i64 0))], (9, ⟨2, []⟩) :: (1461501637330902918203684832716283019655932618982, ⟨(cntE (evO l)).1, roE (cntE (evO l)).2⟩) :: (276003, ⟨3, (allM (gG (wnO l))).map out3⟩) :: grOb 459007 (gG (wnO l))⟩ (by
    have z1 : stL (evO (l.take 0)) = [] := rfl
    have z2 : moO (flO l) (l.take 0) = 0 := rfl
    rw [z1, z2]
    simp [hkO, roS])
  have h1' := h1 ⟨[(0, vT l), (10, i64 (busyF (flO l)).1), (11, bo (busyF (flO l)).2), (12, i64 (moO (flO l) l)), (19, .c (.int .i64 0))], (1461501637330902918203684832716283019655932618982, ⟨(cntE (evO l)).1, roE (cntE (evO l)).2⟩) :: (276003, ⟨3, (allM (gG (wnO l))).map out3⟩) :: grOb 459007 (gG (wnO l))⟩ (by simp [hkO])
  clear h3 h1 hT hF hCo hG hC hSt hSu hGr hBu hAt
  obtain ⟨i1, i2, i3, i4⟩ := hbo
  clear i4
  rw [← hsl] at b3
  generalize (busyF (flO l)).1 = b at *
  generalize (busyF (flO l)).2 = s at *
  generalize moO (flO l) l = m at *
  generalize roE (cntE (evO l)).2 = R at *
  generalize (cntE (evO l)).1 = z at *
  generalize (allM (gG (wnO l))).length = na at *
  generalize (allM (gG (wnO l))).map out3 = RA at *
  generalize grOb 459007 (gG (wnO l)) = O at *
  generalize roS (stL (evO l)) = RS at *
  generalize (stL (evO l)).length = ns at *
  generalize ((flO l).count b : Int) = cb at *
  generalize ((evO l).count (car, fl) : Int) = ce at *
  cases s with
  | false =>
    have k1 := i2 rfl
    have k2 : ¬ 0 < m := by simpa using i1
    subst k1
    simp -implicitDefEqProofs (disch := first | omega | (simp <;> fail) | assumption) [c, c', eGr, eSu, e1, e2, eSt, eBu, eF, hog, hkO, hnO, hdO, b1, b2, b3, b4, h3', h1', k2, hal]
  | true =>
    have k1 := i3 rfl
    have k2 : 0 < m := by simpa using i1
    subst k1
    simp -implicitDefEqProofs (disch := first | omega | (simp <;> fail) | assumption) [c, c', eGr, eSu, e1, e2, eSt, eBu, eF, hog, hkO, hnO, hdO, b1, b2, b3, b4, h3', h1', k2, hal]
end Go.Am
