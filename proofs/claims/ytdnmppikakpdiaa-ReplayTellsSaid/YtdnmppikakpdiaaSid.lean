/- A stable sort's walks: two neighbours change places; a short range is put in order. -/
import Derived.Test.YtdnmppikakpdiaaSio
set_option linter.unusedVariables false
set_option linter.unusedSimpArgs false
set_option maxRecDepth 10000
set_option maxHeartbeats 2000000
namespace Go.Am.Si
open Go.Am
abbrev cellsE (y : Ev) : List AV := [AV.c (D.int IntKind.i64 y.i)]
theorem set_row (L : List Ev) {i : Nat} (y : Ev) (h : i < L.length) : List.take i (evR L) ++ cellsE y :: List.drop (i + 1) (evR L) = evR (L.set i y) := by
  rw [← evR_set, List.set_eq_take_append_cons_drop, if_pos (by rw [evR_len]; omega)]; rfl
/-- What the evaluator asks of a row of which two neighbours change places: at u stands x, behind it y. -/
structure Nbr (L L' : List Ev) (u n : Nat) (x y : Ev) : Prop where
  hn : (evR L).length = n
  g0 : ∀ h, (evR L)[u]'h = evV x
  g1 : ∀ h, (evR L)[u + 1]'h = evV y
  lo : ∃ L1, List.take u (evR L) ++ cellsE y :: List.drop (u + 1) (evR L) = evR L1 ∧ (evR L1).length = n ∧ (∀ h, (evR L1)[u + 1]'h = evV y) ∧ List.take (u + 1) (evR L1) ++ cellsE x :: List.drop (u + 1 + 1) (evR L1) = evR L'
  up : ∃ L1, List.take (u + 1) (evR L) ++ cellsE x :: List.drop (u + 1 + 1) (evR L) = evR L1 ∧ (evR L1).length = n ∧ (∀ h, (evR L1)[u]'h = evV x) ∧ List.take u (evR L1) ++ cellsE y :: List.drop (u + 1) (evR L1) = evR L'
theorem nbr (L L' U V : List Ev) (u n : Nat) (x y : Ev) (hL : U ++ x :: y :: V = L) (hL' : U ++ y :: x :: V = L') (hu : U.length = u) (hn : L.length = n) : Nbr L L' u n x y := by
  subst hu
  have l1 := congrArg List.length hL
  simp at l1
  have s1 : L.set U.length y = U ++ y :: y :: V := by rw [← hL]; simp
  have s2 : L.set (U.length + 1) x = U ++ x :: x :: V := by rw [← hL]; simp
  have s3 : (U ++ y :: y :: V).set (U.length + 1) x = L' := by rw [← hL']; simp
  have s4 : (U ++ x :: x :: V).set U.length y = L' := by rw [← hL']; simp
  refine ⟨by rw [evR_len]; exact hn, fun h => ?_, fun h => ?_, ⟨U ++ y :: y :: V, ?_, ?_, fun h => ?_, ?_⟩, ⟨U ++ x :: x :: V, ?_, ?_, fun h => ?_, ?_⟩⟩
  · rw [evR_get L (by omega)]; subst hL; simp
  · rw [evR_get L (by omega)]; subst hL; simp
  · rw [set_row L y (by omega), s1]
  · rw [evR_len]; simp; omega
  · rw [evR_get _ (by simp)]; simp
  · rw [set_row _ x (by simp), s3]
  · rw [set_row L x (by omega), s2]
  · rw [evR_len]; simp; omega
  · rw [evR_get _ (by simp)]; simp
  · rw [set_row _ y (by simp), s4]
/-- What the closure answers, with the slice at K and the rest of memory. -/
def CmpC (U : Ev → Prop) (K : Nat) (rest : List (Nat × Obj)) (g : St → Option (List AV × List (Nat × Obj))) : Prop := ∀ (x y : Ev) (R : Rows) (gs : List (Nat × AV)), U x → U y → Gh gs → g ⟨(0, i64 x.i) :: (1, i64 y.i) :: (2, .loc 8 0 0) :: gs, (K, ⟨1, R⟩) :: rest⟩ = some ([i64 (x.b - y.b)], (K, ⟨1, R⟩) :: rest)
/-- Ties are in order. -/
def Tie (x y : Ev) : Prop := x.b = y.b → x.i < y.i
theorem tie_lt {x y : Ev} (h : Tie y x) : (x.b - y.b < 0) = ltE x y := by
  unfold ltE Tie at *
  apply propext
  constructor
  · intro h2; omega
  · intro h2; omega
def InsC (U : Ev → Prop) (cmp : St → Option (List AV × List (Nat × Obj))) (g : St → Option (List AV × List (Nat × Obj))) : Prop := ∀ (K : Nat) (P A S : List Ev) (a b n : Nat) (gs : List (Nat × AV)) (rest : List (Nat × Obj)), Gh gs → del rest K = rest → P.length = a → a + A.length = b → (P ++ (A ++ S)).length = n → n ≤ 100000 → CmpC U K rest cmp → (∀ x ∈ A, U x) → A.Pairwise Tie →
  g ⟨(0, .sl K n 0 n) :: (1, i64 a) :: (2, i64 b) :: (3, .clo fv_replay_Riders_1 [.loc 8 0 0]) :: gs, (K, ⟨1, evR (P ++ (A ++ S))⟩) :: rest⟩ = some ([], (K, ⟨1, evR (P ++ (srtE A ++ S))⟩) :: rest)
theorem insSort_run (Γ : Env) (M : Nat) (hM : 100001 < M) (U : Ev → Prop) : InsC U (Γ.pt 709) (runP Γ M slices_insertionSortCmpFunc_int_f) := by
  intro K P A S a b n gs rest hg hd hP hb hn hn2 hC hU hTie
  simp only [List.length_append] at hn
  -- one more comes into its place
  have inner : ∀ (R T : List Ev) (x : Ev) (i : Nat), P ++ (R ++ x :: T) ++ S = P ++ (R ++ x :: T) ++ S → a + R.length = i → i < b → P.length + (R.length + 1 + T.length) + S.length = n → Sor R → (∀ r ∈ R, U r) → U x → (∀ r ∈ R, Tie r x) → ∃ ax s', (ax = .ex 2 ∧ s' = ⟨(0, .sl K n 0 n) :: (1, i64 a) :: (2, i64 b) :: (3, .clo fv_replay_Riders_1 [.loc 8 0 0]) :: (8, i64 i) :: gs, (K, ⟨1, evR (P ++ (srtE (R ++ [x]) ++ (T ++ S)))⟩) :: rest⟩) ∧ ∀ s0, nrmP [0, 1, 2, 3, 8, 9] 0 0 [] s0 = ⟨(0, .sl K n 0 n) :: (1, i64 a) :: (2, i64 b) :: (3, .clo fv_replay_Riders_1 [.loc 8 0 0]) :: (8, i64 i) :: (9, i64 i) :: gs, (K, ⟨1, evR (P ++ (R.take (i - a) ++ x :: (R.drop (i - a) ++ (T ++ S))))⟩) :: rest⟩ → lp (exec Γ M slices_insertionSortCmpFunc_int_l1) M s0 = some (ax, s') := by
    intro R T x i _ hi hib hl hR hUR hUx hTR
    refine lp_allP (fun q : Nat => ⟨(0, .sl K n 0 n) :: (1, i64 a) :: (2, i64 b) :: (3, .clo fv_replay_Riders_1 [.loc 8 0 0]) :: (8, i64 i) :: (9, i64 q) :: gs, (K, ⟨1, evR (P ++ (R.take (q - a) ++ x :: (R.drop (q - a) ++ (T ++ S))))⟩) :: rest⟩) (fun q => a ≤ q ∧ q ≤ i ∧ ∀ r ∈ R.drop (q - a), ltE x r) (fun q => q) _ i M ⟨by omega, by omega, by rw [show i - a = R.length by omega]; simp⟩ (by omega) ?_
    rintro q ⟨h1, h2, h3⟩
    have hsp : R = R.take (q - a) ++ R.drop (q - a) := (List.take_append_drop _ _).symm
    have hsR : Sor (R.take (q - a) ++ R.drop (q - a)) := by rw [← hsp]; exact hR
    by_cases hq : q = a
    · subst hq
      have hp : srtE (R ++ [x]) = x :: R := by
        have := srt_put (A := R) (R1 := []) (R2 := R) (x := x) (by simpa using srtE_id hR) (by simp) (by simpa using h3)
        simpa using this
      simp -implicitDefEqProofs (disch := first | omega | (simp <;> fail) | assumption) [hg, hd, hp]
    · obtain ⟨j, hj⟩ : ∃ j, q - a = j + 1 := ⟨q - a - 1, by omega⟩
      have hjR : j < R.length := by omega
      obtain ⟨y, hy⟩ : ∃ y, R[j] = y := ⟨_, rfl⟩
      have htk : R.take (j + 1) = R.take j ++ [y] := by rw [List.take_succ_eq_append_getElem hjR, hy]
      have hdr : R.drop j = y :: R.drop (j + 1) := by rw [List.drop_eq_getElem_cons hjR, hy]
      rw [hj] at h3 hsR ⊢
      obtain ⟨L, hL⟩ : ∃ L, P ++ (R.take (j + 1) ++ x :: (R.drop (j + 1) ++ (T ++ S))) = L := ⟨_, rfl⟩
      obtain ⟨L', hL'⟩ : ∃ L', P ++ (R.take j ++ x :: (R.drop j ++ (T ++ S))) = L' := ⟨_, rfl⟩
      have hlL : L.length = n := by rw [← hL]; simp; omega
      have hb1 := nbr L L' (P ++ R.take j) (R.drop (j + 1) ++ (T ++ S)) (q - 1) n y x (by rw [← hL, htk]; simp) (by rw [← hL', hdr]; simp) (by simp; omega) hlL
      obtain ⟨f1, f2, f3, -, L1, f4, f5, f6, f7⟩ := hb1
      have hq1 : q - 1 + 1 = q := by omega
      rw [hq1] at f3 f4 f7
      have a1 := fun z => nmEv z L
      have a2 := fun z => lcEv z L
      have b1 := fun z => nmEv z L1
      have b2 := fun z => lcEv z L1
      have t1 : ((q : Int) - 1).toNat = q - 1 := by omega
      have i1 : (q : Int) - 1 < n := by omega
      have i2 : q - 1 < n := by omega
      have i3 : q < n := by omega
      have i4 : (0 : Int) ≤ (q : Int) - 1 := by omega
      have i5 : a < q := by omega
      rw [hL]
      have hyR : y ∈ R := hy ▸ List.getElem_mem hjR
      have hC2 := fun (R' : Rows) gs g => hC x y R' gs hUx (hUR y hyR) g
      have hTl := tie_lt (hTR y hyR)
      by_cases hlt : ltE x y
      · have hc : x.b - y.b < 0 := by rw [hTl]; exact hlt
        simp -implicitDefEqProofs (disch := first | omega | (simp <;> fail) | assumption) [hg, hd, hC2, f1, f2, f3, f4, f5, f6, f7, hc, a1, a2, b1, b2, t1, i1, i2, i3, i4, i5, evV, cellsE]
        refine ⟨q - 1, ⟨by omega, by rw [← hL', show q - 1 - a = j by omega]⟩, ⟨by omega, by omega, ?_⟩, by omega⟩
        rw [show q - 1 - a = j by omega, hdr]
        intro r hr
        rcases List.mem_cons.1 hr with rfl | hr
        · exact hlt
        · exact h3 r hr
      · have hc : ¬ x.b - y.b < 0 := by rw [hTl]; exact hlt
        have hc2 : y.b ≤ x.b := by omega
        have hp : srtE (R ++ [x]) = R.take (j + 1) ++ x :: R.drop (j + 1) := by
          refine srt_put (by rw [List.take_append_drop]; exact srtE_id hR) ?_ h3
          intro r hr
          rw [htk] at hr hsR
          rcases List.mem_append.1 hr with hr | hr
          · rw [List.append_assoc, sor_app] at hsR
            exact leE_trans (hsR.2.2 r hr y (by simp)) hlt
          · rw [List.mem_singleton.1 hr]; exact hlt
        have hL2 : P ++ (srtE (R ++ [x]) ++ (T ++ S)) = L := by rw [← hL, hp]; simp
        rw [hL2]
        simp -implicitDefEqProofs (disch := first | omega | (simp <;> fail) | assumption) [hg, hd, hC2, f1, f2, f3, hc, a1, a2, t1, i1, i2, i3, i4, i5, evV]
  obtain ⟨ax, s', ⟨rfl, rfl⟩, hin⟩ : ∃ ax s', (ax = .ex 0 ∧ s' = ⟨gs, (K, ⟨1, evR (P ++ (srtE A ++ S))⟩) :: rest⟩) ∧ ∀ s0, nrmP [0, 1, 2, 3, 8] 0 0 [] s0 = ⟨(0, .sl K n 0 n) :: (1, i64 a) :: (2, i64 b) :: (3, .clo fv_replay_Riders_1 [.loc 8 0 0]) :: (8, i64 (a + 1 : Nat)) :: gs, (K, ⟨1, evR (P ++ (srtE (A.take (a + 1 - a)) ++ (A.drop (a + 1 - a) ++ S)))⟩) :: rest⟩ → lp (exec Γ M slices_insertionSortCmpFunc_int_l2) M s0 = some (ax, s') := by
    refine lp_allP (fun q : Nat => ⟨(0, .sl K n 0 n) :: (1, i64 a) :: (2, i64 b) :: (3, .clo fv_replay_Riders_1 [.loc 8 0 0]) :: (8, i64 q) :: gs, (K, ⟨1, evR (P ++ (srtE (A.take (q - a)) ++ (A.drop (q - a) ++ S)))⟩) :: rest⟩) (fun q => a + 1 ≤ q ∧ (q ≤ b ∨ q = a + 1)) (fun q => b + 1 - q) _ (a + 1) M ⟨by omega, by omega⟩ (by omega) ?_
    rintro q ⟨h1, h2⟩
    by_cases hlt : q < b
    · have hqa : q - a < A.length := by omega
      obtain ⟨x, hx⟩ : ∃ x, A[q - a] = x := ⟨_, rfl⟩
      have hdr : A.drop (q - a) = x :: A.drop (q - a + 1) := by rw [List.drop_eq_getElem_cons hqa, hx]
      have htk : A.take (q - a + 1) = A.take (q - a) ++ [x] := by rw [List.take_succ_eq_append_getElem hqa, hx]
      have hl2 : (srtE (A.take (q - a))).length = q - a := by rw [srtE_len]; simp; omega
      obtain ⟨ax, s', ⟨rfl, rfl⟩, hin⟩ := inner (srtE (A.take (q - a))) (A.drop (q - a + 1)) x q rfl (by omega) hlt (by rw [hl2]; simp; omega) (srtE_sor _) (fun r hr => hU r (List.mem_of_mem_take ((srtE_perm _).mem_iff.1 hr))) (hU x (hx ▸ List.getElem_mem hqa)) (fun r hr => by
        obtain ⟨jj, hjj, hjr⟩ := List.mem_take_iff_getElem.1 ((srtE_perm _).mem_iff.1 hr)
        rw [← hjr, ← hx]
        exact List.pairwise_iff_getElem.1 hTie jj (q - a) (by omega) hqa (by omega))
      have hp : srtE (srtE (A.take (q - a)) ++ [x]) = srtE (A.take (q - a + 1)) := by
        rw [htk]; exact srtE_congr ((srtE_perm _).append_right _)
      rw [hp] at hin
      rw [hdr]
      generalize srtE (A.take (q - a)) = R at *
      have hin2 := hin ⟨(0, .sl K n 0 n) :: (1, i64 a) :: (2, i64 b) :: (3, .clo fv_replay_Riders_1 [.loc 8 0 0]) :: (8, i64 q) :: (9, i64 q) :: gs, (K, ⟨1, evR (P ++ (R ++ x :: (A.drop (q - a + 1) ++ S)))⟩) :: rest⟩ (by
        rw [List.take_of_length_le (l := R) (i := q - a) (by omega), List.drop_eq_nil_of_le (as := R) (i := q - a) (by omega)]
        simp -implicitDefEqProofs (disch := first | omega | (simp <;> fail) | assumption) [hg, hd])
      simp -implicitDefEqProofs (disch := first | omega | (simp <;> fail) | assumption) [hg, hd, hlt, hin2]
      exact ⟨q + 1, ⟨by omega, by rw [show q + 1 - a = q - a + 1 by omega]⟩, ⟨by omega, by omega⟩, by omega⟩
    · have ht : A.take (q - a) = A := List.take_of_length_le (by omega)
      have hdr : A.drop (q - a) = [] := List.drop_eq_nil_of_le (by omega)
      rw [ht, hdr]
      simp -implicitDefEqProofs (disch := first | omega | (simp <;> fail) | assumption) [hg, hd, hlt]
  have hin2 := hin ⟨(0, .sl K n 0 n) :: (1, i64 a) :: (2, i64 b) :: (3, .clo fv_replay_Riders_1 [.loc 8 0 0]) :: (8, .c (.int .i64 (a + 1))) :: gs, (K, ⟨1, evR (P ++ (A ++ S))⟩) :: rest⟩ (by
    simp -implicitDefEqProofs (disch := first | omega | (simp <;> fail) | assumption) [hg, hd]
    cases A with
    | nil => simp [srtE]
    | cons x A => simp [srtE, insE, show a + 1 - a = 1 by omega])
  simp -implicitDefEqProofs (disch := first | omega | (simp <;> fail) | assumption) [hg, hd, hin2]
end Go.Am.Si
