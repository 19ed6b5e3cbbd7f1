/- A stable sort's walks: the whole sort. -/
import Derived.Test.YtdnmppikakpdiaaSiq
set_option linter.unusedVariables false
set_option linter.unusedSimpArgs false
set_option maxRecDepth 10000
set_option maxHeartbeats 4000000
namespace Go.Am.Si
open Go.Am
def StbC (U : Ev → Prop) (cmp : St → Option (List AV × List (Nat × Obj))) (g : St → Option (List AV × List (Nat × Obj))) : Prop := ∀ (K : Nat) (L : List Ev) (n : Nat) (gs : List (Nat × AV)) (rest : List (Nat × Obj)), Gh gs → del rest K = rest → L.length = n → n ≤ 4096 → CmpC U K rest cmp → (∀ x ∈ L, U x) → L.Pairwise Tie → (L.map (·.i)).Nodup →
  g ⟨(0, .sl K n 0 n) :: (1, i64 n) :: (2, .clo fv_replay_Riders_1 [.loc 8 0 0]) :: gs, (K, ⟨1, evR L⟩) :: rest⟩ = some ([], (K, ⟨1, evR (srtE L)⟩) :: rest)
theorem div_blk {a i w q : Nat} (ha : a = q * w) (h1 : a ≤ i) (h2 : i < a + w) : i / w = q :=
  Nat.div_eq_of_lt_le (by omega) (by rw [Nat.succ_mul]; omega)
theorem blk_join {L : List Ev} {a k w n : Nat} (hw : 0 < w) (ha : a = k * w) (hb : Blk w a L) (h : ∀ i j, a ≤ i → i ≤ j → j < n → leE (evAt L i) (evAt L j)) : Blk w n L := by
  intro i j hij hj he
  rcases Nat.lt_or_ge j a with hc | hc
  · exact hb i j hij hc he
  · have hjk : k ≤ j / w := (Nat.le_div_iff_mul_le hw).2 (by omega)
    have hi : a ≤ i := by rw [ha]; exact (Nat.le_div_iff_mul_le hw).1 (by omega)
    exact h i j hi hij hj
/-- Pairs of blocks become blocks. -/
theorem stable_l1 (Γ : Env) (M : Nat) (hM : 100001 < M) (U : Ev → Prop) (hS : SymC U (Γ.pt 709) 12 (Γ.pt 174)) (K : Nat) (X : List Ev) (n w : Nat) (gs : List (Nat × AV)) (rest : List (Nat × Obj)) (hg : Gh gs) (hd : del rest K = rest) (hX : X.length = n) (hn : n ≤ 4096) (hw : 0 < w) (hwn : w < n) (hB : Blk w n X) (hC : CmpC U K rest (Γ.pt 709)) (hUX : ∀ x ∈ X, U x) (hTX : X.Pairwise Tie) (hNX : (X.map (·.i)).Nodup) :
    ∃ (L : List Ev) (a k : Nat), L.Perm X ∧ L.Pairwise Tie ∧ L.length = n ∧ a ≤ n ∧ n < a + 2 * w ∧ a = k * (2 * w) ∧ Blk (2 * w) a L ∧ (∀ i j, a ≤ i → i ≤ j → j < n → i / w = j / w → leE (evAt L i) (evAt L j)) ∧ ∀ s0, nrmP [0, 1, 2, 6, 7, 8] 0 0 [] s0 = ⟨(0, .sl K n 0 n) :: (1, i64 n) :: (2, .clo fv_replay_Riders_1 [.loc 8 0 0]) :: (6, i64 w) :: (7, i64 (0 : Nat)) :: (8, i64 (0 + 2 * w : Nat)) :: gs, (K, ⟨1, evR X⟩) :: rest⟩ → lp (exec Γ M slices_stableCmpFunc_int_l1) M s0 = some (.ex 4, ⟨(0, .sl K n 0 n) :: (1, i64 n) :: (2, .clo fv_replay_Riders_1 [.loc 8 0 0]) :: (6, i64 w) :: (7, i64 a) :: gs, (K, ⟨1, evR L⟩) :: rest⟩) := by
  obtain ⟨ax, s', ⟨rfl, L, a, k, h1, hPT, h2, h3, h4, h5, h6, h7, rfl⟩, hin⟩ : ∃ ax s', (ax = .ex 4 ∧ ∃ (L : List Ev) (a k : Nat), L.Perm X ∧ L.Pairwise Tie ∧ L.length = n ∧ a ≤ n ∧ n < a + 2 * w ∧ a = k * (2 * w) ∧ Blk (2 * w) a L ∧ (∀ i j, a ≤ i → i ≤ j → j < n → i / w = j / w → leE (evAt L i) (evAt L j)) ∧ s' = ⟨(0, .sl K n 0 n) :: (1, i64 n) :: (2, .clo fv_replay_Riders_1 [.loc 8 0 0]) :: (6, i64 w) :: (7, i64 a) :: gs, (K, ⟨1, evR L⟩) :: rest⟩) ∧ ∀ s0, nrmP [0, 1, 2, 6, 7, 8] 0 0 [] s0 = ⟨(0, .sl K n 0 n) :: (1, i64 n) :: (2, .clo fv_replay_Riders_1 [.loc 8 0 0]) :: (6, i64 w) :: (7, i64 (0 : Nat)) :: (8, i64 (0 + 2 * w : Nat)) :: gs, (K, ⟨1, evR X⟩) :: rest⟩ → lp (exec Γ M slices_stableCmpFunc_int_l1) M s0 = some (ax, s') := by
    refine lp_allP (fun q : List Ev × Nat => ⟨(0, .sl K n 0 n) :: (1, i64 n) :: (2, .clo fv_replay_Riders_1 [.loc 8 0 0]) :: (6, i64 w) :: (7, i64 q.2) :: (8, i64 (q.2 + 2 * w : Nat)) :: gs, (K, ⟨1, evR q.1⟩) :: rest⟩) (fun q => q.1.Perm X ∧ q.1.Pairwise Tie ∧ q.1.length = n ∧ q.2 ≤ n ∧ (∃ k, q.2 = k * (2 * w)) ∧ Blk (2 * w) q.2 q.1 ∧ (∀ i j, q.2 ≤ i → i ≤ j → j < n → i / w = j / w → leE (evAt q.1 i) (evAt q.1 j))) (fun q => n - q.2) _ (X, 0) M ⟨List.Perm.refl _, hTX, hX, by simp, ⟨0, by simp⟩, fun i j _ h => absurd h (by simp), fun i j _ h1 h2 h3 => hB i j h1 h2 h3⟩ (by dsimp only; omega) ?_
    rintro ⟨L, a⟩ ⟨h1, hPT, h2, h3, ⟨k, hk⟩, h5, h6⟩
    have hUL : ∀ x ∈ L, U x := fun x hx => hUX x (h1.mem_iff.1 hx)
    have hNL : (L.map (·.i)).Nodup := (h1.map _).nodup_iff.2 hNX
    dsimp only at h1 hPT h2 h3 hk h5 h6 ⊢
    have hk2 : a = (2 * k) * w := by rw [hk, Nat.mul_comm 2 k, Nat.mul_assoc]
    by_cases hlt : a + 2 * w ≤ n
    · obtain ⟨Z, z1, z2, z3, e⟩ := sym_at hS K L a (a + w) (a + 2 * w) n rest hd h2 (by omega) (by omega) hlt (by omega) (by simp; omega)
        (seg_sor (by omega) fun i j p1 p2 p3 => h6 i j p1 p2 (by omega) (by rw [div_blk hk2 (by omega) (by omega), div_blk hk2 (by omega) (by omega)]))
        (seg_sor (by omega) fun i j p1 p2 p3 => h6 i j (by omega) p2 (by omega) (by rw [div_blk (a := a + w) (q := 2 * k + 1) (by rw [Nat.succ_mul]; omega) (by omega) (by omega), div_blk (a := a + w) (q := 2 * k + 1) (by rw [Nat.succ_mul]; omega) (by omega) (by omega)])) hC hUL (two_tie hPT a (a + w) (a + 2 * w) (by omega))
      rw [show a + 2 * w - a = 2 * w by omega] at z2 z3
      have hp := rep_perm (L := L) (Z := Z) (a := a) (by rw [z3]) z2
      have hb := blk_step (L := L) (Z := Z) (by omega) hk z1 (by omega) (by omega) h5
      have hl := rep_len (L := L) (Z := Z) (a := a) (by omega)
      rw [z3] at hb
      have h6' : ∀ i j, a + 2 * w ≤ i → i ≤ j → j < n → i / w = j / w → leE (evAt (rep L Z a) i) (evAt (rep L Z a) j) := by
        intro i j p1 p2 p3 p4
        rw [rep_hi (by omega) (by omega), rep_hi (by omega) (by omega)]
        exact h6 i j (by omega) p2 p3 p4
      have t1 : (a : Int) + 2 * w ≤ n := by omega
      have t2 : ((a + 2 * w : Nat) : Int) = (a : Int) + 2 * w := by omega
      have t3 : ((a + w : Nat) : Int) = (a : Int) + w := by omega
      rw [t2, t3] at e
      have hpt := rep_tie hPT hNL (by rw [z3]; exact z2) z1
      generalize rep L Z a = L2 at *
      simp -implicitDefEqProofs (disch := first | omega | (simp <;> fail) | assumption) [hg, hd, t1, e]
      have hk3 : a + 2 * w = (k + 1) * (2 * w) := by rw [Nat.add_mul, Nat.one_mul, hk]
      exact ⟨L2, a + 2 * w, ⟨by omega, rfl⟩, ⟨hp.trans h1, hpt, by omega, hlt, ⟨k + 1, hk3⟩, hb, h6'⟩, by omega⟩
    · have t1 : ¬ (a : Int) + 2 * w ≤ n := by omega
      simp -implicitDefEqProofs (disch := first | omega | (simp <;> fail) | assumption) [hg, hd, t1]
      exact ⟨L, h1, hPT, h2, a, h3, by omega, ⟨k, hk⟩, h5, h6, rfl, rfl⟩
  exact ⟨L, a, k, h1, hPT, h2, h3, h4, h5, h6, h7, hin⟩
theorem stable_run (Γ : Env) (M : Nat) (hM : 100001 < M) (U : Ev → Prop) (hI : InsC U (Γ.pt 709) (Γ.pt 175)) (hS : SymC U (Γ.pt 709) 12 (Γ.pt 174)) : StbC U (Γ.pt 709) (runP Γ M slices_stableCmpFunc_int_f) := by
  intro K X n gs rest hg hd hX hn hC hUX hTX hNX
  -- blocks of 20
  obtain ⟨ax, s', ⟨rfl, L1, a1, h1, hPT1, h2, h3, h4, ⟨k1, hk1⟩, h5, rfl⟩, hin⟩ : ∃ ax s', (ax = .ex 0 ∧ ∃ (L : List Ev) (a : Nat), L.Perm X ∧ L.Pairwise Tie ∧ L.length = n ∧ a ≤ n ∧ n < a + 20 ∧ (∃ k, a = k * 20) ∧ Blk 20 a L ∧ s' = ⟨(0, .sl K n 0 n) :: (1, i64 n) :: (2, .clo fv_replay_Riders_1 [.loc 8 0 0]) :: (6, i64 20) :: (7, i64 a) :: gs, (K, ⟨1, evR L⟩) :: rest⟩) ∧ ∀ s0, nrmP [0, 1, 2, 6, 7, 8] 0 0 [] s0 = ⟨(0, .sl K n 0 n) :: (1, i64 n) :: (2, .clo fv_replay_Riders_1 [.loc 8 0 0]) :: (6, i64 20) :: (7, i64 (0 : Nat)) :: (8, i64 (0 + 20 : Nat)) :: gs, (K, ⟨1, evR X⟩) :: rest⟩ → lp (exec Γ M slices_stableCmpFunc_int_l3) M s0 = some (ax, s') := by
    refine lp_allP (fun q : List Ev × Nat => ⟨(0, .sl K n 0 n) :: (1, i64 n) :: (2, .clo fv_replay_Riders_1 [.loc 8 0 0]) :: (6, i64 20) :: (7, i64 q.2) :: (8, i64 (q.2 + 20 : Nat)) :: gs, (K, ⟨1, evR q.1⟩) :: rest⟩) (fun q => q.1.Perm X ∧ q.1.Pairwise Tie ∧ q.1.length = n ∧ q.2 ≤ n ∧ (∃ k, q.2 = k * 20) ∧ Blk 20 q.2 q.1) (fun q => n - q.2) _ (X, 0) M ⟨List.Perm.refl _, hTX, hX, by simp, ⟨0, by simp⟩, fun i j _ h => absurd h (by simp)⟩ (by dsimp only; omega) ?_
    rintro ⟨L, a⟩ ⟨h1, hPT, h2, h3, ⟨k, hk⟩, h5⟩
    have hUL : ∀ x ∈ L, U x := fun x hx => hUX x (h1.mem_iff.1 hx)
    have hNL : (L.map (·.i)).Nodup := (h1.map _).nodup_iff.2 hNX
    dsimp only at h1 hPT h2 h3 hk h5 ⊢
    by_cases hlt : a + 20 ≤ n
    · obtain ⟨Z, z1, z2, z3, e⟩ := ins_at hI K L a (a + 20) n gs rest hg hd h2 (by omega) hlt (by omega) hC hUL (seg_tie hPT _ _)
      rw [show a + 20 - a = 20 by omega] at z2 z3
      have hp := rep_perm (L := L) (Z := Z) (a := a) (by rw [z3]) z2
      have hb := blk_step (L := L) (Z := Z) (by omega) hk z1 (by omega) (by omega) h5
      have hl := rep_len (L := L) (Z := Z) (a := a) (by omega)
      rw [z3] at hb
      have t1 : (a : Int) + 20 ≤ n := by omega
      have t2 : ((a + 20 : Nat) : Int) = (a : Int) + 20 := by omega
      rw [t2] at e
      have hpt := rep_tie hPT hNL (by rw [z3]; exact z2) z1
      generalize rep L Z a = L2 at *
      simp -implicitDefEqProofs (disch := first | omega | (simp <;> fail) | assumption) [hg, hd, t1, e]
      exact ⟨L2, a + 20, ⟨by omega, rfl⟩, ⟨hp.trans h1, hpt, by omega, hlt, ⟨k + 1, by omega⟩, hb⟩, by omega⟩
    · have t1 : ¬ (a : Int) + 20 ≤ n := by omega
      simp -implicitDefEqProofs (disch := first | omega | (simp <;> fail) | assumption) [hg, hd, t1]
      exact ⟨L, h1, hPT, h2, a, h3, by omega, ⟨k, hk⟩, h5, rfl, rfl⟩
  obtain ⟨Z, z1, z2, z3, e⟩ := ins_at hI K L1 a1 n n gs rest hg hd h2 h3 (by omega) (by omega) hC (fun x hx => hUX x (h1.mem_iff.1 hx)) (seg_tie hPT1 _ _)
  have hp := rep_perm (L := L1) (Z := Z) (a := a1) (by rw [z3]) z2
  have hl := rep_len (L := L1) (Z := Z) (a := a1) (by omega)
  have hb : Blk 20 n (rep L1 Z a1) := by
    have := blk_step (L := L1) (Z := Z) (by omega) hk1 z1 (by omega) (by omega) h5
    rwa [z3, show a1 + (n - a1) = n by omega] at this
  have hp2 := hp.trans h1
  have hpt2 := rep_tie hPT1 ((h1.map _).nodup_iff.2 hNX) (by rw [z3]; exact z2) z1
  generalize rep L1 Z a1 = L2 at *
  obtain ⟨ax, s', ⟨rfl, rfl⟩, hin2⟩ : ∃ ax s', (ax = .ex 2 ∧ s' = ⟨gs, (K, ⟨1, evR (srtE X)⟩) :: rest⟩) ∧ ∀ s0, nrmP [0, 1, 2, 6] 0 0 [] s0 = ⟨(0, .sl K n 0 n) :: (1, i64 n) :: (2, .clo fv_replay_Riders_1 [.loc 8 0 0]) :: (6, i64 (20 : Nat)) :: gs, (K, ⟨1, evR L2⟩) :: rest⟩ → lp (exec Γ M slices_stableCmpFunc_int_l2) M s0 = some (ax, s') := by
    refine lp_allP (fun q : List Ev × Nat => ⟨(0, .sl K n 0 n) :: (1, i64 n) :: (2, .clo fv_replay_Riders_1 [.loc 8 0 0]) :: (6, i64 q.2) :: gs, (K, ⟨1, evR q.1⟩) :: rest⟩) (fun q => q.1.Perm X ∧ q.1.Pairwise Tie ∧ q.1.length = n ∧ 0 < q.2 ∧ q.2 ≤ 8192 ∧ Blk q.2 n q.1) (fun q => n - q.2) _ (L2, 20) M ⟨hp2, hpt2, hl.trans h2, by simp, by simp, hb⟩ (by dsimp only; omega) ?_
    rintro ⟨L, w⟩ ⟨y1, yT, y2, y3, y4, y5⟩
    have hUL : ∀ x ∈ L, U x := fun x hx => hUX x (y1.mem_iff.1 hx)
    have hNL : (L.map (·.i)).Nodup := (y1.map _).nodup_iff.2 hNX
    dsimp only at y1 yT y2 y3 y4 y5 ⊢
    by_cases hlt : w < n
    · obtain ⟨L3, a, k, v1, vT, v2, v3, v4, v5, v6, v7, hi1⟩ := stable_l1 Γ M hM U hS K L n w gs rest hg hd y2 hn y3 hlt y5 hC hUL yT hNL
      have hi2 := hi1 ⟨(0, .sl K n 0 n) :: (1, i64 n) :: (2, .clo fv_replay_Riders_1 [.loc 8 0 0]) :: (6, i64 w) :: (7, i64 0) :: (8, .c (.int .i64 (2 * w))) :: gs, (K, ⟨1, evR L⟩) :: rest⟩ (by
        simp -implicitDefEqProofs (disch := first | omega | (simp <;> fail) | assumption) [hg, hd])
      have hk2 : a = (2 * k) * w := by rw [v5, Nat.mul_comm 2 k, Nat.mul_assoc]
      by_cases hc : a + w < n
      · obtain ⟨Z, z1, z2, z3, e⟩ := sym_at hS K L3 a (a + w) n n rest hd v2 (by omega) hc (by omega) (by omega) (by simp; omega)
          (seg_sor (by omega) fun i j p1 p2 p3 => v7 i j p1 p2 (by omega) (by rw [div_blk hk2 (by omega) (by omega), div_blk hk2 (by omega) (by omega)]))
          (seg_sor (by omega) fun i j p1 p2 p3 => v7 i j (by omega) p2 (by omega) (by rw [div_blk (a := a + w) (q := 2 * k + 1) (by rw [Nat.succ_mul]; omega) (by omega) (by omega), div_blk (a := a + w) (q := 2 * k + 1) (by rw [Nat.succ_mul]; omega) (by omega) (by omega)])) hC (fun x hx => hUL x (v1.mem_iff.1 hx)) (two_tie vT a (a + w) n (by omega))
        have hp := rep_perm (L := L3) (Z := Z) (a := a) (by rw [z3]) z2
        have hb := blk_step (L := L3) (Z := Z) (by omega) v5 z1 (by omega) (by omega) v6
        have hl := rep_len (L := L3) (Z := Z) (a := a) (by omega)
        rw [z3, show a + (n - a) = n by omega] at hb
        have t1 : (a : Int) + w < n := by omega
        have t3 : ((a + w : Nat) : Int) = (a : Int) + w := by omega
        rw [t3] at e
        have hpt := rep_tie vT ((v1.map _).nodup_iff.2 hNL) (by rw [z3]; exact z2) z1
        generalize rep L3 Z a = L4 at *
        simp -implicitDefEqProofs (disch := first | omega | (simp <;> fail) | assumption) [hg, hd, hlt, hi2, t1, e]
        exact ⟨L4, 2 * w, ⟨by omega, rfl⟩, ⟨hp.trans (v1.trans y1), hpt, by omega, by omega, by omega, hb⟩, by omega⟩
      · have hb : Blk (2 * w) n L3 := blk_join (by omega) v5 v6 fun i j p1 p2 p3 => v7 i j p1 p2 p3 (by rw [div_blk hk2 (by omega) (by omega), div_blk hk2 (by omega) (by omega)])
        have t1 : ¬ (a : Int) + w < n := by omega
        simp -implicitDefEqProofs (disch := first | omega | (simp <;> fail) | assumption) [hg, hd, hlt, hi2, t1]
        exact ⟨L3, 2 * w, ⟨by omega, rfl⟩, ⟨v1.trans y1, vT, by omega, by omega, by omega, hb⟩, by omega⟩
    · have hs : L = srtE X := srtE_uniq (blk_all (w := w) (by omega) (by rw [y2]; exact y5)) y1
      rw [hs]
      simp -implicitDefEqProofs (disch := first | omega | (simp <;> fail) | assumption) [hg, hd, hlt]
  have hin3 := hin ⟨(0, .sl K n 0 n) :: (1, i64 n) :: (2, .clo fv_replay_Riders_1 [.loc 8 0 0]) :: (6, i64 20) :: (7, i64 0) :: (8, i64 20) :: gs, (K, ⟨1, evR X⟩) :: rest⟩ (by
    simp -implicitDefEqProofs (disch := first | omega | (simp <;> fail) | assumption) [hg, hd])
  have hin4 := hin2 ⟨(0, .sl K n 0 n) :: (1, i64 n) :: (2, .clo fv_replay_Riders_1 [.loc 8 0 0]) :: (6, i64 20) :: gs, (K, ⟨1, evR L2⟩) :: rest⟩ (by
    simp -implicitDefEqProofs (disch := first | omega | (simp <;> fail) | assumption) [hg, hd])
  simp -implicitDefEqProofs (disch := first | omega | (simp <;> fail) | assumption) [hg, hd, hin3, hin4, e]
end Go.Am.Si
