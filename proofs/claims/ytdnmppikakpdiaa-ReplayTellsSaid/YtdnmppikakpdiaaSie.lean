/- A stable sort's walks: places are searched by halves. -/
import Derived.Test.YtdnmppikakpdiaaSid
set_option linter.unusedVariables false
set_option linter.unusedSimpArgs false
set_option maxRecDepth 10000
set_option maxHeartbeats 2000000
namespace Go.Am.Si
open Go.Am
/-- The one at a place. -/
def evAt (L : List Ev) (h : Nat) : Ev := L[h]?.getD ⟨0, 0⟩
theorem evR_at (L : List Ev) {h : Nat} (hh : h < L.length) : ∀ h2, (evR L)[h]'h2 = evV (evAt L h) := by
  intro h2; rw [evR_get L hh]; simp [evAt, hh]
/-- A place: all ahead of it are so, from it on none. -/
structure Spl (p : Nat → Prop) (lo hi s : Nat) : Prop where
  le : lo ≤ s
  ge : s ≤ hi
  yes : ∀ h, lo ≤ h → h < s → p h
  no : ∀ h, s ≤ h → h < hi → ¬ p h
def Mono (p : Nat → Prop) (lo hi : Nat) : Prop := ∀ h h', lo ≤ h → h ≤ h' → h' < hi → p h' → p h
theorem spl_yes {p : Nat → Prop} {lo hi i h : Nat} (hm : Mono p lo hi) (hh : h < hi) (hp : p h) : ∀ k, lo ≤ k → k < h + 1 → p k := fun k h1 h2 => hm k h h1 (by omega) hh hp
theorem spl_no {p : Nat → Prop} {lo hi h : Nat} (hm : Mono p lo hi) (hl : lo ≤ h) (hp : ¬ p h) : ∀ k, h ≤ k → k < hi → ¬ p k := fun k h1 h2 hk => hp (hm h k hl h1 h2 hk)
theorem sym_s5 (Γ : Env) (M : Nat) (hM : 100001 < M) (U : Ev → Prop) (L : List Ev) (K n a lo hi : Nat) (gs : List (Nat × AV)) (rest : List (Nat × Obj)) (hg : Gh gs) (hd : del rest K = rest) (hL : L.length = n) (hn : n ≤ 100000) (hlo : lo ≤ hi) (hhi : hi ≤ n) (ha : a < n) (hm : Mono (fun h => ltE (evAt L h) (evAt L a)) lo hi) (hC : CmpC U K rest (Γ.pt 709)) (hT : ∀ h, lo ≤ h → h < hi → U (evAt L h) ∧ U (evAt L a) ∧ Tie (evAt L a) (evAt L h)) :
    ∃ s, Spl (fun h => ltE (evAt L h) (evAt L a)) lo hi s ∧ ∀ s0, nrmP [0, 1, 4, 10, 11] 0 0 [] s0 = ⟨(0, .sl K n 0 n) :: (1, i64 a) :: (4, .clo fv_replay_Riders_1 [.loc 8 0 0]) :: (10, i64 lo) :: (11, i64 hi) :: gs, (K, ⟨1, evR L⟩) :: rest⟩ → lp (exec Γ M slices_symMergeCmpFunc_int_l5) M s0 = some (.ex 0, ⟨(0, .sl K n 0 n) :: (1, i64 a) :: (10, i64 s) :: gs, (K, ⟨1, evR L⟩) :: rest⟩) := by
  obtain ⟨ax, s', ⟨rfl, s, hs, rfl⟩, hin⟩ : ∃ ax s', (ax = .ex 0 ∧ ∃ s, Spl (fun h => ltE (evAt L h) (evAt L a)) lo hi s ∧ s' = ⟨(0, .sl K n 0 n) :: (1, i64 a) :: (10, i64 s) :: gs, (K, ⟨1, evR L⟩) :: rest⟩) ∧ ∀ s0, nrmP [0, 1, 4, 10, 11] 0 0 [] s0 = ⟨(0, .sl K n 0 n) :: (1, i64 a) :: (4, .clo fv_replay_Riders_1 [.loc 8 0 0]) :: (10, i64 lo) :: (11, i64 hi) :: gs, (K, ⟨1, evR L⟩) :: rest⟩ → lp (exec Γ M slices_symMergeCmpFunc_int_l5) M s0 = some (ax, s') := by
    refine lp_allP (fun q : Nat × Nat => ⟨(0, .sl K n 0 n) :: (1, i64 a) :: (4, .clo fv_replay_Riders_1 [.loc 8 0 0]) :: (10, i64 q.1) :: (11, i64 q.2) :: gs, (K, ⟨1, evR L⟩) :: rest⟩) (fun q => lo ≤ q.1 ∧ q.1 ≤ q.2 ∧ q.2 ≤ hi ∧ (∀ h, lo ≤ h → h < q.1 → ltE (evAt L h) (evAt L a)) ∧ ∀ h, q.2 ≤ h → h < hi → ¬ (ltE (evAt L h) (evAt L a))) (fun q => q.2 - q.1) _ (lo, hi) M ⟨by simp, hlo, by simp, fun h a b => absurd a (by simp only at b; omega), fun h a b => absurd b (by simp only at a; omega)⟩ (by dsimp only; omega) ?_
    rintro ⟨i, j⟩ ⟨h1, h2, h3, h4, h5⟩
    dsimp only at h1 h2 h3 h4 h5 ⊢
    by_cases hlt : i < j
    · obtain ⟨h, hh⟩ : ∃ h, (i + j) / 2 = h := ⟨_, rfl⟩
      have hshr : ((i : Int) + (j : Int)).fdiv (2 ^ min 1 IntKind.u64.bits) = (h : Int) := by
        rw [show (2 : Int) ^ min 1 IntKind.u64.bits = 2 by decide, Int.fdiv_eq_ediv_of_nonneg _ (by omega)]; omega
      have hl := evR_len L
      rw [hL] at hl
      have g1 := evR_at L (h := h) (by omega)
      have g2 := evR_at L (h := a) (by omega)
      have b1 : h < n := by omega
      have a1 := fun z => nmEv z L
      have a2 := fun z => lcEv z L
      obtain ⟨u1, u2, u3⟩ := hT h (by omega) (by omega)
      have hC2 := fun R gs g => hC _ _ R gs u1 u2 g
      have hTl := tie_lt u3
      have m1 := fun p => spl_yes (i := i) hm (show h < hi by omega) p
      have m2 := fun p => spl_no hm (show lo ≤ h by omega) p
      by_cases hp : ltE (evAt L h) (evAt L a)
      · have hc : (evAt L h).b - (evAt L a).b < 0 := by rw [hTl]; exact hp
        simp -implicitDefEqProofs (disch := first | omega | (simp <;> fail) | assumption) [hg, hd, hlt, hshr, hl, hC2, g1, g2, a1, a2, evV, hc, b1, ha]
        exact ⟨h + 1, j, ⟨by omega, rfl⟩, ⟨by omega, by omega, h3, by simpa using m1 hp, by simpa using h5⟩, by omega⟩
      · have hc : ¬ (evAt L h).b - (evAt L a).b < 0 := by rw [hTl]; exact hp
        simp -implicitDefEqProofs (disch := first | omega | (simp <;> fail) | assumption) [hg, hd, hlt, hshr, hl, hC2, g1, g2, a1, a2, evV, hc, b1, ha]
        exact ⟨i, h, ⟨rfl, rfl⟩, ⟨by omega, by omega, by omega, by simpa using h4, by simpa using m2 hp⟩, by omega⟩
    · obtain rfl : i = j := by omega
      simp -implicitDefEqProofs (disch := first | omega | (simp <;> fail) | assumption) [hg, hd]
      exact ⟨i, ⟨h1, h3, h4, h5⟩, rfl⟩
  exact ⟨s, hs, hin⟩
theorem sym_s3 (Γ : Env) (M : Nat) (hM : 100001 < M) (U : Ev → Prop) (L : List Ev) (K n m lo hi : Nat) (gs : List (Nat × AV)) (rest : List (Nat × Obj)) (hg : Gh gs) (hd : del rest K = rest) (hL : L.length = n) (hn : n ≤ 100000) (hlo : lo ≤ hi) (hhi : hi ≤ n) (hm0 : m < n) (hm : Mono (fun h => ¬ ltE (evAt L m) (evAt L h)) lo hi) (hC : CmpC U K rest (Γ.pt 709)) (hT : ∀ h, lo ≤ h → h < hi → U (evAt L m) ∧ U (evAt L h) ∧ Tie (evAt L h) (evAt L m)) :
    ∃ s, Spl (fun h => ¬ ltE (evAt L m) (evAt L h)) lo hi s ∧ ∀ s0, nrmP [0, 2, 4, 14, 15] 0 0 [] s0 = ⟨(0, .sl K n 0 n) :: (2, i64 m) :: (4, .clo fv_replay_Riders_1 [.loc 8 0 0]) :: (14, i64 lo) :: (15, i64 hi) :: gs, (K, ⟨1, evR L⟩) :: rest⟩ → lp (exec Γ M slices_symMergeCmpFunc_int_l3) M s0 = some (.ex 4, ⟨(0, .sl K n 0 n) :: (2, i64 m) :: (14, i64 s) :: gs, (K, ⟨1, evR L⟩) :: rest⟩) := by
  obtain ⟨ax, s', ⟨rfl, s, hs, rfl⟩, hin⟩ : ∃ ax s', (ax = .ex 4 ∧ ∃ s, Spl (fun h => ¬ ltE (evAt L m) (evAt L h)) lo hi s ∧ s' = ⟨(0, .sl K n 0 n) :: (2, i64 m) :: (14, i64 s) :: gs, (K, ⟨1, evR L⟩) :: rest⟩) ∧ ∀ s0, nrmP [0, 2, 4, 14, 15] 0 0 [] s0 = ⟨(0, .sl K n 0 n) :: (2, i64 m) :: (4, .clo fv_replay_Riders_1 [.loc 8 0 0]) :: (14, i64 lo) :: (15, i64 hi) :: gs, (K, ⟨1, evR L⟩) :: rest⟩ → lp (exec Γ M slices_symMergeCmpFunc_int_l3) M s0 = some (ax, s') := by
    refine lp_allP (fun q : Nat × Nat => ⟨(0, .sl K n 0 n) :: (2, i64 m) :: (4, .clo fv_replay_Riders_1 [.loc 8 0 0]) :: (14, i64 q.1) :: (15, i64 q.2) :: gs, (K, ⟨1, evR L⟩) :: rest⟩) (fun q => lo ≤ q.1 ∧ q.1 ≤ q.2 ∧ q.2 ≤ hi ∧ (∀ h, lo ≤ h → h < q.1 → ¬ ltE (evAt L m) (evAt L h)) ∧ ∀ h, q.2 ≤ h → h < hi → ¬ (¬ ltE (evAt L m) (evAt L h))) (fun q => q.2 - q.1) _ (lo, hi) M ⟨by simp, hlo, by simp, fun h a b => absurd a (by simp only at b; omega), fun h a b => absurd b (by simp only at a; omega)⟩ (by dsimp only; omega) ?_
    rintro ⟨i, j⟩ ⟨h1, h2, h3, h4, h5⟩
    dsimp only at h1 h2 h3 h4 h5 ⊢
    by_cases hlt : i < j
    · obtain ⟨h, hh⟩ : ∃ h, (i + j) / 2 = h := ⟨_, rfl⟩
      have hshr : ((i : Int) + (j : Int)).fdiv (2 ^ min 1 IntKind.u64.bits) = (h : Int) := by
        rw [show (2 : Int) ^ min 1 IntKind.u64.bits = 2 by decide, Int.fdiv_eq_ediv_of_nonneg _ (by omega)]; omega
      have hl := evR_len L
      rw [hL] at hl
      have g1 := evR_at L (h := h) (by omega)
      have g2 := evR_at L (h := m) (by omega)
      have b1 : h < n := by omega
      have a1 := fun z => nmEv z L
      have a2 := fun z => lcEv z L
      obtain ⟨u1, u2, u3⟩ := hT h (by omega) (by omega)
      have hC2 := fun R gs g => hC _ _ R gs u1 u2 g
      have hTl := tie_lt u3
      have m1 := fun p => spl_yes (i := i) hm (show h < hi by omega) p
      have m2 := fun p => spl_no hm (show lo ≤ h by omega) p
      by_cases hp : ¬ ltE (evAt L m) (evAt L h)
      · have hc : ¬ (evAt L m).b - (evAt L h).b < 0 := by rw [hTl]; exact hp
        simp -implicitDefEqProofs (disch := first | omega | (simp <;> fail) | assumption) [hg, hd, hlt, hshr, hl, hC2, g1, g2, a1, a2, evV, hc, b1, hm0]
        exact ⟨h + 1, j, ⟨by omega, rfl⟩, ⟨by omega, by omega, h3, by simpa using m1 hp, by simpa using h5⟩, by omega⟩
      · have hc : (evAt L m).b - (evAt L h).b < 0 := by rw [hTl]; exact Decidable.not_not.1 hp
        simp -implicitDefEqProofs (disch := first | omega | (simp <;> fail) | assumption) [hg, hd, hlt, hshr, hl, hC2, g1, g2, a1, a2, evV, hc, b1, hm0]
        exact ⟨i, h, ⟨rfl, rfl⟩, ⟨by omega, by omega, by omega, by simpa using h4, by simpa using m2 hp⟩, by omega⟩
    · obtain rfl : i = j := by omega
      simp -implicitDefEqProofs (disch := first | omega | (simp <;> fail) | assumption) [hg, hd]
      exact ⟨i, ⟨h1, h3, h4, h5⟩, rfl⟩
  exact ⟨s, hs, hin⟩
theorem sym_s1 (Γ : Env) (M : Nat) (hM : 100001 < M) (U : Ev → Prop) (L : List Ev) (K n a m b mid nn p lo hi : Nat) (gs : List (Nat × AV)) (rest : List (Nat × Obj)) (hg : Gh gs) (hd : del rest K = rest) (hL : L.length = n) (hn : n ≤ 100000) (hlo : lo ≤ hi) (hhi : hi ≤ n) (hp1 : hi ≤ p + 1) (hp2 : p < n + lo) (hm : Mono (fun h => ¬ ltE (evAt L (p - h)) (evAt L h)) lo hi) (hC : CmpC U K rest (Γ.pt 709)) (hT : ∀ h, lo ≤ h → h < hi → U (evAt L (p - h)) ∧ U (evAt L h) ∧ Tie (evAt L h) (evAt L (p - h))) :
    ∃ s, Spl (fun h => ¬ ltE (evAt L (p - h)) (evAt L h)) lo hi s ∧ ∀ s0, nrmP [0, 1, 2, 3, 4, 18, 19, 20, 21, 22] 0 0 [] s0 = ⟨(0, .sl K n 0 n) :: (1, i64 a) :: (2, i64 m) :: (3, i64 b) :: (4, .clo fv_replay_Riders_1 [.loc 8 0 0]) :: (18, i64 mid) :: (19, i64 nn) :: (20, i64 lo) :: (21, i64 hi) :: (22, i64 p) :: gs, (K, ⟨1, evR L⟩) :: rest⟩ → lp (exec Γ M slices_symMergeCmpFunc_int_l1) M s0 = some (.ex 8, ⟨(0, .sl K n 0 n) :: (1, i64 a) :: (2, i64 m) :: (3, i64 b) :: (4, .clo fv_replay_Riders_1 [.loc 8 0 0]) :: (18, i64 mid) :: (19, i64 nn) :: (20, i64 s) :: gs, (K, ⟨1, evR L⟩) :: rest⟩) := by
  obtain ⟨ax, s', ⟨rfl, s, hs, rfl⟩, hin⟩ : ∃ ax s', (ax = .ex 8 ∧ ∃ s, Spl (fun h => ¬ ltE (evAt L (p - h)) (evAt L h)) lo hi s ∧ s' = ⟨(0, .sl K n 0 n) :: (1, i64 a) :: (2, i64 m) :: (3, i64 b) :: (4, .clo fv_replay_Riders_1 [.loc 8 0 0]) :: (18, i64 mid) :: (19, i64 nn) :: (20, i64 s) :: gs, (K, ⟨1, evR L⟩) :: rest⟩) ∧ ∀ s0, nrmP [0, 1, 2, 3, 4, 18, 19, 20, 21, 22] 0 0 [] s0 = ⟨(0, .sl K n 0 n) :: (1, i64 a) :: (2, i64 m) :: (3, i64 b) :: (4, .clo fv_replay_Riders_1 [.loc 8 0 0]) :: (18, i64 mid) :: (19, i64 nn) :: (20, i64 lo) :: (21, i64 hi) :: (22, i64 p) :: gs, (K, ⟨1, evR L⟩) :: rest⟩ → lp (exec Γ M slices_symMergeCmpFunc_int_l1) M s0 = some (ax, s') := by
    refine lp_allP (fun q : Nat × Nat => ⟨(0, .sl K n 0 n) :: (1, i64 a) :: (2, i64 m) :: (3, i64 b) :: (4, .clo fv_replay_Riders_1 [.loc 8 0 0]) :: (18, i64 mid) :: (19, i64 nn) :: (20, i64 q.1) :: (21, i64 q.2) :: (22, i64 p) :: gs, (K, ⟨1, evR L⟩) :: rest⟩) (fun q => lo ≤ q.1 ∧ q.1 ≤ q.2 ∧ q.2 ≤ hi ∧ (∀ h, lo ≤ h → h < q.1 → ¬ ltE (evAt L (p - h)) (evAt L h)) ∧ ∀ h, q.2 ≤ h → h < hi → ¬ (¬ ltE (evAt L (p - h)) (evAt L h))) (fun q => q.2 - q.1) _ (lo, hi) M ⟨by simp, hlo, by simp, fun h a b => absurd a (by simp only at b; omega), fun h a b => absurd b (by simp only at a; omega)⟩ (by dsimp only; omega) ?_
    rintro ⟨i, j⟩ ⟨h1, h2, h3, h4, h5⟩
    dsimp only at h1 h2 h3 h4 h5 ⊢
    by_cases hlt : i < j
    · obtain ⟨h, hh⟩ : ∃ h, (i + j) / 2 = h := ⟨_, rfl⟩
      have hshr : ((i : Int) + (j : Int)).fdiv (2 ^ min 1 IntKind.u64.bits) = (h : Int) := by
        rw [show (2 : Int) ^ min 1 IntKind.u64.bits = 2 by decide, Int.fdiv_eq_ediv_of_nonneg _ (by omega)]; omega
      have hl := evR_len L
      rw [hL] at hl
      have g1 := evR_at L (h := h) (by omega)
      have g2 := evR_at L (h := p - h) (by omega)
      have b1 : h < n := by omega
      have b2 : p - h < n := by omega
      have b3 : (p : Int) - h < n := by omega
      have b4 : (0 : Int) ≤ (p : Int) - h := by omega
      have b5 : ((p : Int) - h).toNat = p - h := by omega
      have a1 := fun z => nmEv z L
      have a2 := fun z => lcEv z L
      obtain ⟨u1, u2, u3⟩ := hT h (by omega) (by omega)
      have hC2 := fun R gs g => hC _ _ R gs u1 u2 g
      have hTl := tie_lt u3
      have m1 := fun p => spl_yes (i := i) hm (show h < hi by omega) p
      have m2 := fun p => spl_no hm (show lo ≤ h by omega) p
      by_cases hp : ¬ ltE (evAt L (p - h)) (evAt L h)
      · have hc : ¬ (evAt L (p - h)).b - (evAt L h).b < 0 := by rw [hTl]; exact hp
        simp -implicitDefEqProofs (disch := first | omega | (simp <;> fail) | assumption) [hg, hd, hlt, hshr, hl, hC2, g1, g2, a1, a2, evV, hc, b1, b2, b3, b4, b5]
        exact ⟨h + 1, j, ⟨by omega, rfl⟩, ⟨by omega, by omega, h3, by simpa using m1 hp, by simpa using h5⟩, by omega⟩
      · have hc : (evAt L (p - h)).b - (evAt L h).b < 0 := by rw [hTl]; exact Decidable.not_not.1 hp
        simp -implicitDefEqProofs (disch := first | omega | (simp <;> fail) | assumption) [hg, hd, hlt, hshr, hl, hC2, g1, g2, a1, a2, evV, hc, b1, b2, b3, b4, b5]
        exact ⟨i, h, ⟨rfl, rfl⟩, ⟨by omega, by omega, by omega, by simpa using h4, by simpa using m2 hp⟩, by omega⟩
    · obtain rfl : i = j := by omega
      simp -implicitDefEqProofs (disch := first | omega | (simp <;> fail) | assumption) [hg, hd]
      exact ⟨i, ⟨h1, h3, h4, h5⟩, rfl⟩
  exact ⟨s, hs, hin⟩
end Go.Am.Si
