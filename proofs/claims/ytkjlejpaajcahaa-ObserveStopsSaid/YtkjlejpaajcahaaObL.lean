/- Law 58: ObserveStops. -/
import Derived.Test.YtkjlejpaajcahaaObY
set_option linter.unusedVariables false
set_option linter.unusedSimpArgs false
set_option maxRecDepth 10000
set_option maxHeartbeats 4000000
namespace Go.Am
/-- What is owned beside the row of stops. -/
structure TOk (l : List Trip) (T : List (Nat × Obj)) : Prop where
  k : ∀ os, keepF 0 1000 os T = T
  kg : ∀ os, keepF 57000 58000 os T = T
  ng : nmOb 57003 T = true
  dg : del T 57003 = T
  gt : GAt 459007 (gG (wnO l)) T
  mp : get T 1461501637330902918203684832716283019655932618982 = some ⟨(cntE (evO l)).1, roE (cntE (evO l)).2⟩
  gk : ∃ o, get T 459007 = some o
  n9 : nmOb 9 T = true
  d9 : del T 9 = T
  n14 : nmOb 14 T = true
  d14 : del T 14 = T
  n17 : nmOb 17 T = true
  d17 : del T 17 = T
  n18 : nmOb 18 T = true
  d18 : del T 18 = T
  l9 : lcOb 9 T = true
theorem count_wn1 (t : Trip) (x y : Int) : (([(t.frm, t.to)] : List P2).count (x, y) : Int) = if t.frm = x ∧ t.to = y then 1 else 0 := by
  by_cases h1 : t.frm = x <;> by_cases h2 : t.to = y <;> simp [h1, h2]
/-- How many want the same: the inner loop. -/
theorem ob_l2 (Γ : Env) (M : Nat) (hM : 1000 < M) (l : List Trip) (hl : l.length ≤ 100) (T : List (Nat × Obj)) (hT : TOk l T) (S : List P2) (hS : S.length ≤ 200) (b : Int) (s : Bool) (m : Int) (q : Nat) (t : Trip) :
    ∀ s0, nrmP [0, 7, 8, 9, 10, 11, 12, 13, 14, 15, 16] 0 1000 [9, 14, 154, 167] s0 = ⟨[(0, vT l), (7, .loc 459007 0 0), (8, .mp 1461501637330902918203684832716283019655932618982), (9, .sl 9 S.length 0 S.length), (10, i64 b), (11, bo s), (12, i64 m), (13, i64 q), (14, .loc 14 0 0), (15, i64 ((wnO (l.take 0)).count (t.frm, t.to) : Int)), (16, i64 (0 : Nat))], (14, ⟨7, [t.cells.map .c]⟩) :: (9, ⟨2, roS S⟩) :: T⟩ →
      lp (exec Γ M law58_ObserveStops_l2) M s0 = some (.ex 2, ⟨[(0, vT l), (7, .loc 459007 0 0), (8, .mp 1461501637330902918203684832716283019655932618982), (9, .sl 9 S.length 0 S.length), (10, i64 b), (11, bo s), (12, i64 m), (13, i64 q), (14, .loc 14 0 0), (15, i64 ((wnO l).count (t.frm, t.to) : Int))], (14, ⟨7, [t.cells.map .c]⟩) :: (9, ⟨2, roS S⟩) :: T⟩) := by
  obtain ⟨k, kg, ng, dg, gt, mp, ⟨og, gk⟩, n9, d9, n14, d14, n17, d17, n18, d18, l9⟩ := hT
  obtain ⟨ax, s', ⟨rfl, rfl⟩, hin⟩ : ∃ ax s', (ax = .ex 2 ∧ s' = ⟨[(0, vT l), (7, .loc 459007 0 0), (8, .mp 1461501637330902918203684832716283019655932618982), (9, .sl 9 S.length 0 S.length), (10, i64 b), (11, bo s), (12, i64 m), (13, i64 q), (14, .loc 14 0 0), (15, i64 ((wnO l).count (t.frm, t.to) : Int))], (14, ⟨7, [t.cells.map .c]⟩) :: (9, ⟨2, roS S⟩) :: T⟩) ∧ ∀ s0, nrmP [0, 7, 8, 9, 10, 11, 12, 13, 14, 15, 16] 0 1000 [9, 14, 154, 167] s0 = ⟨[(0, vT l), (7, .loc 459007 0 0), (8, .mp 1461501637330902918203684832716283019655932618982), (9, .sl 9 S.length 0 S.length), (10, i64 b), (11, bo s), (12, i64 m), (13, i64 q), (14, .loc 14 0 0), (15, i64 ((wnO (l.take 0)).count (t.frm, t.to) : Int)), (16, i64 (0 : Nat))], (14, ⟨7, [t.cells.map .c]⟩) :: (9, ⟨2, roS S⟩) :: T⟩ → lp (exec Γ M law58_ObserveStops_l2) M s0 = some (ax, s') := by
    refine lp_allP (fun j : Nat => ⟨[(0, vT l), (7, .loc 459007 0 0), (8, .mp 1461501637330902918203684832716283019655932618982), (9, .sl 9 S.length 0 S.length), (10, i64 b), (11, bo s), (12, i64 m), (13, i64 q), (14, .loc 14 0 0), (15, i64 ((wnO (l.take j)).count (t.frm, t.to) : Int)), (16, i64 j)], (14, ⟨7, [t.cells.map .c]⟩) :: (9, ⟨2, roS S⟩) :: T⟩) (fun j => j ≤ l.length) (fun j => l.length - j) _ 0 M (by omega) (by omega) ?_
    intro j hj
    have a0 := fun z => nmRows_comp z c2O S
    have a1 := roS_len S
    have a2 : ∀ z, nmRows z (roS S) = true := a0
    by_cases hlt : j < l.length
    · obtain ⟨x, hx⟩ : ∃ w, l[j]'hlt = w := ⟨_, rfl⟩
      have hrow : (l.map Trip.cells)[j]? = some x.cells := by simp [hlt, hx]
      have hev := wnO_take hlt
      rw [hx] at hev
      have hle : ((wnO (l.take j)).count (t.frm, t.to) : Int) ≤ 1000 := by
        have h1 := List.count_le_length (a := (t.frm, t.to)) (l := wnO (l.take j))
        unfold wnO at h1 ⊢
        rw [List.length_map, List.length_take] at h1
        omega
      have h0 : (0 : Int) ≤ ((wnO (l.take j)).count (t.frm, t.to) : Int) := by omega
      have hc1 := count_wn1 x t.frm t.to
      have fin : ∀ n : Int, n = ((wnO (l.take j)).count (t.frm, t.to) : Int) + (([(x.frm, x.to)] : List P2).count (t.frm, t.to) : Int) → ∃ q' : Nat, n = ((wnO (l.take q')).count (t.frm, t.to) : Int) ∧ (j : Int) + 1 = q' ∧ q' ≤ l.length ∧ l.length - q' < l.length - j := by
        rintro n rfl
        exact ⟨j + 1, by rw [hev, List.count_append]; simp, by simp, by omega, by omega⟩
      generalize (([(x.frm, x.to)] : List P2).count (t.frm, t.to) : Int) = d at *
      generalize ((wnO (l.take j)).count (t.frm, t.to) : Int) = n at *
      simp only [Trip.cells] at hrow
      obtain ⟨q', f1, f2, f3, f4⟩ := fin _ rfl
      generalize roS S = R at *
      by_cases k1 : x.frm = t.frm
      · by_cases k2 : x.to = t.to
        · rw [if_pos ⟨k1, k2⟩] at hc1
          subst hc1
          simp -implicitDefEqProofs (disch := first | omega | (simp <;> fail) | assumption) [hlt, hrow, k, k1, k2, d14]
          exact ⟨q', ⟨f1, f2⟩, f3, f4⟩
        · rw [if_neg (fun h => k2 h.2)] at hc1
          subst hc1
          rw [Int.add_zero] at f1
          simp -implicitDefEqProofs (disch := first | omega | (simp <;> fail) | assumption) [hlt, hrow, k, k1, k2, d14]
          exact ⟨q', ⟨f1, f2⟩, f3, f4⟩
      · rw [if_neg (fun h => k1 h.1)] at hc1
        subst hc1
        rw [Int.add_zero] at f1
        simp -implicitDefEqProofs (disch := first | omega | (simp <;> fail) | assumption) [hlt, hrow, k, k1, d14]
        exact ⟨q', ⟨f1, f2⟩, f3, f4⟩
    · obtain rfl : j = l.length := by omega
      rw [List.take_length]
      generalize roS S = R at *
      simp -implicitDefEqProofs (disch := first | omega | (simp <;> fail) | assumption) [k, d14]
  exact hin
def obX : AC := .seq (.draw law58_ObserveStops_r20q [] [] law58_ObserveStops_r20) (.keepP [0, 7, 8, 9, 10, 11, 12, 13, 14, 131] 0 1000 [9, 14, 154, 167] (.cond (.t 131) (.keepP [] 0 1000 [] (.seq (.reg law58_ObserveStops_r21) (.keepP [6] 0 1000 [] (.ret)))) (.skip)))
def obY : AC := .seq (.draw law58_ObserveStops_r22q [(17, 17, [.c (.int .i64 0), .c (.int .i64 0)]), (18, 18, [.c (.int .i64 0), .c (.int .i64 0)])] [(12, none, .sto 2 (.t 17) (.t 136), [14, 137, 138, 139, 140], [0, 1, 2, 3, 4, 10, 11])] law58_ObserveStops_r22) (.keepP [0, 7, 8, 9, 10, 11, 12, 13, 14, 17, 18] 0 1000 [9, 14, 17, 18, 154, 167] (.seq (.seq (.reg law58_ObserveStops_r23) (.keepP [0, 7, 8, 9, 10, 11, 12, 13, 14, 17, 18, 150] 0 1000 [9, 14, 17, 18, 154, 167] (.cond (.t 150) (.keepP [0, 7, 8, 9, 10, 11, 12, 13, 14, 17, 18] 0 1000 [9, 14, 17, 18, 154, 167] (.reg law58_ObserveStops_r24)) (.skip)))) (.keepP [0, 7, 8, 9, 10, 11, 12, 13, 14, 18] 0 1000 [9, 14, 18, 154, 167] (.seq (.seq (.reg law58_ObserveStops_r25) (.keepP [0, 7, 8, 9, 10, 11, 12, 13, 14, 18, 163] 0 1000 [9, 14, 18, 154, 167] (.cond (.t 163) (.keepP [0, 7, 8, 9, 10, 11, 12, 13, 14, 18] 0 1000 [9, 14, 18, 154, 167] (.reg law58_ObserveStops_r26)) (.skip)))) (.keepP [0, 7, 8, 9, 10, 11, 12, 13, 14] 0 1000 [9, 14, 154, 167] (.draw law58_ObserveStops_r27q [] [] law58_ObserveStops_r27))))))
theorem obX_x (Γ : Env) (N : Nat) (s : St) : exec Γ N obX s = exec Γ N (.seq (.draw law58_ObserveStops_r20q [] [] law58_ObserveStops_r20) (.keepP [0, 7, 8, 9, 10, 11, 12, 13, 14, 131] 0 1000 [9, 14, 154, 167] (.cond (.t 131) (.keepP [] 0 1000 [] (.seq (.reg law58_ObserveStops_r21) (.keepP [6] 0 1000 [] (.ret)))) (.skip)))) s := rfl
theorem obY_x (Γ : Env) (N : Nat) (s : St) : exec Γ N obY s = exec Γ N (.seq (.draw law58_ObserveStops_r22q [(17, 17, [.c (.int .i64 0), .c (.int .i64 0)]), (18, 18, [.c (.int .i64 0), .c (.int .i64 0)])] [(12, none, .sto 2 (.t 17) (.t 136), [14, 137, 138, 139, 140], [0, 1, 2, 3, 4, 10, 11])] law58_ObserveStops_r22) (.keepP [0, 7, 8, 9, 10, 11, 12, 13, 14, 17, 18] 0 1000 [9, 14, 17, 18, 154, 167] (.seq (.seq (.reg law58_ObserveStops_r23) (.keepP [0, 7, 8, 9, 10, 11, 12, 13, 14, 17, 18, 150] 0 1000 [9, 14, 17, 18, 154, 167] (.cond (.t 150) (.keepP [0, 7, 8, 9, 10, 11, 12, 13, 14, 17, 18] 0 1000 [9, 14, 17, 18, 154, 167] (.reg law58_ObserveStops_r24)) (.skip)))) (.keepP [0, 7, 8, 9, 10, 11, 12, 13, 14, 18] 0 1000 [9, 14, 18, 154, 167] (.seq (.seq (.reg law58_ObserveStops_r25) (.keepP [0, 7, 8, 9, 10, 11, 12, 13, 14, 18, 163] 0 1000 [9, 14, 18, 154, 167] (.cond (.t 163) (.keepP [0, 7, 8, 9, 10, 11, 12, 13, 14, 18] 0 1000 [9, 14, 18, 154, 167] (.reg law58_ObserveStops_r26)) (.skip)))) (.keepP [0, 7, 8, 9, 10, 11, 12, 13, 14] 0 1000 [9, 14, 154, 167] (.draw law58_ObserveStops_r27q [] [] law58_ObserveStops_r27))))))) s := rfl
theorem ob_l3b_x (Γ : Env) (N : Nat) (s : St) : exec Γ N law58_ObserveStops_l3b s = exec Γ N (.seq (.seq (.reg law58_ObserveStops_r11) (.keepP [0, 7, 8, 9, 10, 11, 12, 13, 56] 0 1000 [9, 154, 167] (.cond (.t 56) (.skip) (.keepP [0, 8, 9, 10, 11, 12] 0 1000 [9, 154, 167] (.exit 0))))) (.keepP [0, 7, 8, 9, 10, 11, 12, 13] 0 1000 [9, 154, 167] (.seq (.block 1 (.seq (.reg law58_ObserveStops_r13) (.keepP [0, 7, 8, 9, 10, 11, 12, 13, 14] 0 1000 [9, 14, 154, 167] (.seq (.reg law58_ObserveStops_r14) (.keepP [0, 7, 8, 9, 10, 11, 12, 13, 14, 15] 0 1000 [9, 14, 154, 167] (.seq (.seq (.reg law58_ObserveStops_r15) (.keepP [0, 7, 8, 9, 10, 11, 12, 13, 14, 15, 16] 0 1000 [9, 14, 154, 167] (.block 2 (.loop law58_ObserveStops_l2)))) (.keepP [0, 7, 8, 9, 10, 11, 12, 13, 14, 15] 0 1000 [9, 14, 154, 167] (.seq obX (.keepP [0, 7, 8, 9, 10, 11, 12, 13, 14] 0 1000 [9, 14, 154, 167] obY))))))))) (.keepP [0, 7, 8, 9, 10, 11, 12, 13] 0 1000 [9, 154, 167] (.reg law58_ObserveStops_r12))))) s := rfl
theorem ob_X (Γ : Env) (M : Nat) (hG : GetC58 (Γ.pt 57)) (hC : CntC58 (Γ 457)) (l : List Trip) (hl : l.length ≤ 100) (T : List (Nat × Obj)) (hT : TOk l T) (S : List P2) (b : Int) (s : Bool) (m : Int) (q : Nat) (t : Trip) :
    exec Γ M obX ⟨[(0, vT l), (7, .loc 459007 0 0), (8, .mp 1461501637330902918203684832716283019655932618982), (9, .sl 9 S.length 0 S.length), (10, i64 b), (11, bo s), (12, i64 m), (13, i64 q), (14, .loc 14 0 0), (15, i64 ((wnO l).count (t.frm, t.to) : Int))], (14, ⟨7, [t.cells.map .c]⟩) :: (9, ⟨2, roS S⟩) :: T⟩ =
      some (.norm, ⟨[(0, vT l), (7, .loc 459007 0 0), (8, .mp 1461501637330902918203684832716283019655932618982), (9, .sl 9 S.length 0 S.length), (10, i64 b), (11, bo s), (12, i64 m), (13, i64 q), (14, .loc 14 0 0), (131, bo false)], (14, ⟨7, [t.cells.map .c]⟩) :: (9, ⟨2, roS S⟩) :: T⟩) := by
  have hT0 := hT
  obtain ⟨k, kg, ng, dg, gt, mp, ⟨og, gk⟩, n9, d9, n14, d14, n17, d17, n18, d18, l9⟩ := hT
  have a2 : ∀ z, nmRows z (roS S) = true := fun z => nmRows_comp z c2O S
  have eG : ∀ gs, Gh gs → nmFr 57003 gs = true → Γ.pt 57 ⟨(0, .loc 459007 0 0) :: (1, .agg [.int .i64 t.frm, .int .i64 t.to]) :: gs, (14, ⟨7, [t.cells.map .c]⟩) :: (9, ⟨2, roS S⟩) :: T⟩ = some ([i64 ((wnO l).count (t.frm, t.to) : Int)], (14, ⟨7, [t.cells.map .c]⟩) :: (9, ⟨2, roS S⟩) :: T) := by
    intro gs h1 h2
    refine hG 459007 (wnO l) t.frm t.to gs _ ⟨h1, h2, fun os => ?_, ?_, ?_, by decide⟩ (gAt_cons (gAt_cons gt (by decide) (by decide)) (by decide) (by decide))
    · simp [kg]
    · simp [ng, a2]
    · simp [dg]
  have e1 := hC l t.car t.frm hl
  have e2 := hC l t.car t.to hl
  rw [obX_x]
  simp only [Trip.cells, List.map_cons, List.map_nil] at eG ⊢
  rcases mfind_cnt (evO l) (t.car, t.frm) with ⟨i1, f1⟩ | ⟨f1, z1⟩ <;> rcases mfind_cnt (evO l) (t.car, t.to) with ⟨i2, f2⟩ | ⟨f2, z2⟩ <;>
    (simp only [kkP] at f1 f2
     try rw [z1] at e1
     try rw [z2] at e2
     generalize roE (cntE (evO l)).2 = R at *
     generalize roS S = RS at *
     generalize ((wnO l).count (t.frm, t.to) : Int) = n at *
     simp -implicitDefEqProofs (disch := first | omega | (simp <;> fail) | assumption) [eG, e1, e2, f1, f2, mp, k])
theorem ob_Y (Γ : Env) (M : Nat) (hF : AtF58 (Γ 455)) (hCo : ConC58 (Γ 456)) (l : List Trip) (hl : l.length ≤ 100) (T : List (Nat × Obj)) (hT : TOk l T) (L : List P2) (hL : (stL L).length ≤ 300) (b : Int) (s : Bool) (m : Int) (q : Nat) (t : Trip) :
    ∃ s', exec Γ M obY ⟨[(0, vT l), (7, .loc 459007 0 0), (8, .mp 1461501637330902918203684832716283019655932618982), (9, .sl 9 (stL L).length 0 (stL L).length), (10, i64 b), (11, bo s), (12, i64 m), (13, i64 q), (14, .loc 14 0 0)], (14, ⟨7, [t.cells.map .c]⟩) :: (9, ⟨2, roS (stL L)⟩) :: T⟩ = some (.norm, s') ∧
      get s'.fr 0 = some (vT l) ∧ get s'.fr 7 = some (.loc 459007 0 0) ∧ get s'.fr 8 = some (.mp 1461501637330902918203684832716283019655932618982) ∧ get s'.fr 9 = some (.sl 9 (stL (L ++ evO1 t)).length 0 (stL (L ++ evO1 t)).length) ∧ get s'.fr 10 = some (i64 b) ∧ get s'.fr 11 = some (bo s) ∧ get s'.fr 12 = some (i64 (mx2 m ((flO l).count t.frm) ((flO l).count t.to))) ∧ get s'.fr 13 = some (i64 q) ∧ ghs s'.fr = [] ∧ keepF 0 1000 [9, 154, 167] s'.ob = (9, ⟨2, roS (stL (L ++ evO1 t))⟩) :: T := by
  obtain ⟨k, kg, ng, dg, gt, mp, ⟨og, gk⟩, n9, d9, n14, d14, n17, d17, n18, d18, l9⟩ := hT
  have e1 := hF l t.frm hl
  have e2 := hF l t.to hl
  have x1 := hCo (stL L) (t.car, t.frm) (by omega)
  have a0 : ∀ (S : List P2) z, nmRows z (roS S) = true := fun S z => nmRows_comp z c2O S
  have a1 : ∀ (S : List P2) z, lcRows z (roS S) = true := fun S z => lcRows_comp z c2O S
  have a3 : ∀ S : List P2, allRows (roS S) = some (S.map c2O) := fun S => allRows_comp c2O S
  have a4 : ∀ S : List P2, (S.map c2O).take S.length = S.map c2O := fun S => List.take_of_length_le (by simp)
  generalize ((flO l).count t.frm : Int) = n1 at *
  generalize ((flO l).count t.to : Int) = n2 at *
  rw [obY_x]
  have g17 : get T 17 = none := by rw [← d17, get_del, if_pos rfl]
  have g18 : get T 18 = none := by rw [← d18, get_del, if_pos rfl]
  have sx := stL_snoc L (t.car, t.frm)
  have app1 : ∀ (S : List P2) (x y : Int), ∃ S1, S ++ [(x, y)] = S1 ∧ roS S ++ [[i64 x, i64 y]] = roS S1 ∧ S.length + 1 = S1.length := fun S x y => ⟨_, rfl, (roS_snoc S (x, y)).symm, by simp⟩
  have eC := fun (S : List P2) (h : S.length ≤ 1000) => hCo S (t.car, t.to) h
  obtain ⟨S, hS⟩ : ∃ S, stL L = S := ⟨_, rfl⟩
  rw [hS] at sx x1 hL ⊢
  by_cases cb : 0 ≤ t.board
  · by_cases hx : (t.car, t.frm) ∈ S
    · rw [if_pos hx] at sx
      have sy := stL_snoc (L ++ [(t.car, t.frm)]) (t.car, t.to)
      rw [sx] at sy
      have x2 := eC S (by omega)
      by_cases ca : 0 ≤ t.alight
      · have hE : L ++ evO1 t = (L ++ [(t.car, t.frm)]) ++ [(t.car, t.to)] := by unfold evO1; rw [if_pos cb, if_pos ca]; simp
        by_cases hy : (t.car, t.to) ∈ S
        · rw [if_pos hy] at sy
          rw [hE, sy]
          clear sx sy hE hS
          simp only [c2O, decide_eq_true_eq] at x1 x2
          simp -implicitDefEqProofs (disch := first | omega | (simp [a0, a1, roS_len] <;> fail) | assumption) [g17, g18, k, n9, d9, n14, d14, n17, d17, n18, d18, l9, a0, a1, a3, a4, e1, e2, x1, cb, mx2, roS_len, x2, hx, ca, hy]
        · rw [if_neg hy] at sy
          rw [hE, sy]
          obtain ⟨S1, h1, r1, l1⟩ := app1 S t.car t.to
          rw [h1]
          clear sx sy hE hS h1
          simp only [c2O, decide_eq_true_eq] at x1 x2
          simp -implicitDefEqProofs (disch := first | omega | (simp [a0, a1, roS_len] <;> fail) | assumption) [g17, g18, k, n9, d9, n14, d14, n17, d17, n18, d18, l9, a0, a1, a3, a4, e1, e2, x1, cb, mx2, roS_len, x2, hx, ca, hy, r1, l1]
      · have hE : L ++ evO1 t = L ++ [(t.car, t.frm)] := by unfold evO1; rw [if_pos cb, if_neg ca]; simp
        rw [hE, sx]
        clear sx sy hE hS
        simp only [c2O, decide_eq_true_eq] at x1 x2
        simp -implicitDefEqProofs (disch := first | omega | (simp [a0, a1, roS_len] <;> fail) | assumption) [g17, g18, k, n9, d9, n14, d14, n17, d17, n18, d18, l9, a0, a1, a3, a4, e1, e2, x1, cb, mx2, roS_len, x2, hx, ca]
    · rw [if_neg hx] at sx
      have sy := stL_snoc (L ++ [(t.car, t.frm)]) (t.car, t.to)
      rw [sx] at sy
      obtain ⟨S1, h1, r1, l1⟩ := app1 S t.car t.frm
      rw [h1] at sx sy
      have x2 := eC S1 (by omega)
      by_cases ca : 0 ≤ t.alight
      · have hE : L ++ evO1 t = (L ++ [(t.car, t.frm)]) ++ [(t.car, t.to)] := by unfold evO1; rw [if_pos cb, if_pos ca]; simp
        by_cases hy : (t.car, t.to) ∈ S1
        · rw [if_pos hy] at sy
          rw [hE, sy]
          clear sx sy hE hS h1
          simp only [c2O, decide_eq_true_eq] at x1 x2
          simp -implicitDefEqProofs (disch := first | omega | (simp [a0, a1, roS_len] <;> fail) | assumption) [g17, g18, k, n9, d9, n14, d14, n17, d17, n18, d18, l9, a0, a1, a3, a4, e1, e2, x1, cb, mx2, roS_len, x2, hx, ca, hy, r1, l1]
        · rw [if_neg hy] at sy
          rw [hE, sy]
          obtain ⟨S2, h2, r2, l2⟩ := app1 S1 t.car t.to
          rw [h2]
          clear sx sy hE hS h1 h2
          simp only [c2O, decide_eq_true_eq] at x1 x2
          simp -implicitDefEqProofs (disch := first | omega | (simp [a0, a1, roS_len] <;> fail) | assumption) [g17, g18, k, n9, d9, n14, d14, n17, d17, n18, d18, l9, a0, a1, a3, a4, e1, e2, x1, cb, mx2, roS_len, x2, hx, ca, hy, r1, l1, r2, l2]
      · have hE : L ++ evO1 t = L ++ [(t.car, t.frm)] := by unfold evO1; rw [if_pos cb, if_neg ca]; simp
        rw [hE, sx]
        clear sx sy hE hS h1
        simp only [c2O, decide_eq_true_eq] at x1 x2
        simp -implicitDefEqProofs (disch := first | omega | (simp [a0, a1, roS_len] <;> fail) | assumption) [g17, g18, k, n9, d9, n14, d14, n17, d17, n18, d18, l9, a0, a1, a3, a4, e1, e2, x1, cb, mx2, roS_len, x2, hx, ca, r1, l1]
  · have x2 := eC S (by omega)
    have sy := stL_snoc L (t.car, t.to)
    rw [hS] at sy
    by_cases ca : 0 ≤ t.alight
    · have hE : L ++ evO1 t = L ++ [(t.car, t.to)] := by unfold evO1; rw [if_neg cb, if_pos ca]; simp
      by_cases hy : (t.car, t.to) ∈ S
      · rw [if_pos hy] at sy
        rw [hE, sy]
        clear sx sy hE hS
        simp only [c2O, decide_eq_true_eq] at x1 x2
        simp -implicitDefEqProofs (disch := first | omega | (simp [a0, a1, roS_len] <;> fail) | assumption) [g17, g18, k, n9, d9, n14, d14, n17, d17, n18, d18, l9, a0, a1, a3, a4, e1, e2, x1, cb, mx2, roS_len, x2, ca, hy]
      · rw [if_neg hy] at sy
        rw [hE, sy]
        obtain ⟨S1, h1, r1, l1⟩ := app1 S t.car t.to
        rw [h1]
        clear sx sy hE hS h1
        simp only [c2O, decide_eq_true_eq] at x1 x2
        simp -implicitDefEqProofs (disch := first | omega | (simp [a0, a1, roS_len] <;> fail) | assumption) [g17, g18, k, n9, d9, n14, d14, n17, d17, n18, d18, l9, a0, a1, a3, a4, e1, e2, x1, cb, mx2, roS_len, x2, ca, hy, r1, l1]
    · have hE : L ++ evO1 t = L := by unfold evO1; rw [if_neg cb, if_neg ca]; simp
      rw [hE, hS]
      clear sx sy hE hS
      simp only [c2O, decide_eq_true_eq] at x1 x2
      simp -implicitDefEqProofs (disch := first | omega | (simp [a0, a1, roS_len] <;> fail) | assumption) [g17, g18, k, n9, d9, n14, d14, n17, d17, n18, d18, l9, a0, a1, a3, a4, e1, e2, x1, cb, mx2, roS_len, x2, ca]
end Go.Am
