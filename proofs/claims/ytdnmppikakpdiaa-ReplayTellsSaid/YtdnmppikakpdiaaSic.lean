/- A stable sort's walks: a range is turned. -/
import Derived.Test.YtdnmppikakpdiaaSib
set_option linter.unusedVariables false
set_option linter.unusedSimpArgs false
set_option maxRecDepth 10000
set_option maxHeartbeats 2000000
namespace Go.Am.Si
open Go.Am
def RotC (g : St → Option (List AV × List (Nat × Obj))) : Prop := ∀ (K : Nat) (P A B S : List Ev) (a m b n : Nat) (gs : List (Nat × AV)) (rest : List (Nat × Obj)) (cmp : AV), Gh gs → del rest K = rest → P.length = a → a + A.length = m → m + B.length = b → (P ++ (A ++ (B ++ S))).length = n → n ≤ 100000 → 0 < A.length → 0 < B.length →
  g ⟨(0, .sl K n 0 n) :: (1, i64 a) :: (2, i64 m) :: (3, i64 b) :: (4, cmp) :: gs, (K, ⟨1, evR (P ++ (A ++ (B ++ S)))⟩) :: rest⟩ = some ([], (K, ⟨1, evR (P ++ (B ++ (A ++ S)))⟩) :: rest)
theorem rotate_run (Γ : Env) (M : Nat) (hM : 100001 < M) (hS : SwapC (Γ.pt 180)) : RotC (runP Γ M slices_rotateCmpFunc_int_f) := by
  intro K P A B S a m b n gs rest cmp hg hd hP hm hb hn hn2 hA0 hB0
  simp only [List.length_append] at hn
  obtain ⟨ax, s', ⟨rfl, X, A1, B1, Y, hX, hl, hl2, hlm, rfl⟩, hin⟩ : ∃ ax s', (ax = .ex 0 ∧ ∃ X A1 B1 Y : List Ev, X ++ (B1 ++ (A1 ++ Y)) = B ++ A ∧ A1.length = B1.length ∧ 0 < A1.length ∧ a + X.length + A1.length = m ∧ s' = ⟨(0, .sl K n 0 n) :: (2, i64 m) :: (4, cmp) :: (10, i64 A1.length) :: gs, (K, ⟨1, evR (P ++ (X ++ (A1 ++ (B1 ++ (Y ++ S)))))⟩) :: rest⟩) ∧ ∀ s0, nrmP [0, 2, 4, 10, 11] 0 0 [] s0 = ⟨(0, .sl K n 0 n) :: (2, i64 m) :: (4, cmp) :: (10, i64 A.length) :: (11, i64 B.length) :: gs, (K, ⟨1, evR (P ++ ([] ++ (A ++ (B ++ ([] ++ S)))))⟩) :: rest⟩ → lp (exec Γ M slices_rotateCmpFunc_int_l1) M s0 = some (ax, s') := by
    refine lp_allP (fun q : (List Ev × List Ev × List Ev × List Ev) => ⟨(0, .sl K n 0 n) :: (2, i64 m) :: (4, cmp) :: (10, i64 q.2.1.length) :: (11, i64 q.2.2.1.length) :: gs, (K, ⟨1, evR (P ++ (q.1 ++ (q.2.1 ++ (q.2.2.1 ++ (q.2.2.2 ++ S)))))⟩) :: rest⟩) (fun q => q.1 ++ (q.2.2.1 ++ (q.2.1 ++ q.2.2.2)) = B ++ A ∧ 0 < q.2.1.length ∧ 0 < q.2.2.1.length ∧ a + q.1.length + q.2.1.length = m) (fun q => q.2.1.length + q.2.2.1.length) _ ([], A, B, []) M (by refine ⟨by simp, hA0, hB0, ?_⟩; simp; omega) (by simp; omega) ?_
    rintro ⟨X, A1, B1, Y⟩ ⟨h1, h2, h3, h4⟩
    simp only at h1 h2 h3 h4 ⊢
    have h5 := congrArg List.length h1
    simp only [List.length_append] at h5
    obtain ⟨i, hi⟩ : ∃ i, A1.length = i := ⟨_, rfl⟩
    obtain ⟨j, hj⟩ : ∃ j, B1.length = j := ⟨_, rfl⟩
    rw [hi] at h2 h4 h5
    rw [hj] at h3 h5
    by_cases heq : i = j
    · subst heq
      simp -implicitDefEqProofs (disch := first | omega | (simp <;> fail) | assumption) [hg, hd, hi, hj]
      exact ⟨X, A1, B1, Y, h1, hi.trans hj.symm, by omega, by omega, by rw [hi], rfl⟩
    · by_cases hlt : j < i
      · obtain ⟨L, hL⟩ : ∃ L, P ++ (X ++ (A1 ++ (B1 ++ (Y ++ S)))) = L := ⟨_, rfl⟩
        obtain ⟨L2, hL2⟩ : ∃ L2, P ++ (X ++ (B1 ++ (A1.drop j ++ (A1.take j ++ (Y ++ S))))) = L2 := ⟨_, rfl⟩
        have e := fun gs h => hS K (P ++ X) (A1.take j) (A1.drop j) B1 (Y ++ S) (m - i) m j n gs rest cmp h hd (by simp; omega) hj (by simp; omega) (by simp; omega) (by simp; omega) hn2
        have c1 : P ++ X ++ A1.take j ++ A1.drop j ++ B1 ++ (Y ++ S) = L := by rw [← hL]; simp
        have c2 : P ++ X ++ B1 ++ A1.drop j ++ A1.take j ++ (Y ++ S) = L2 := by rw [← hL2]; simp
        rw [c1, c2] at e
        have t1 : ((m - i : Nat) : Int) = (m : Int) - i := by omega
        rw [t1] at e
        rw [hL]
        simp -implicitDefEqProofs (disch := first | omega | (simp <;> fail) | assumption) [hg, hd, hi, hj, heq, hlt, e]
        refine ⟨X ++ B1, A1.drop j, A1.take j, Y, ⟨⟨by simp [hi]; omega, by simp [hi]; omega⟩, by rw [← hL2]; simp⟩, ⟨?_, by simp; omega, by simp; omega, by simp; omega⟩, by simp; omega⟩
        rw [← h1, ← List.append_assoc (A1.take j), List.take_append_drop]; simp
      · obtain ⟨L, hL⟩ : ∃ L, P ++ (X ++ (A1 ++ (B1 ++ (Y ++ S)))) = L := ⟨_, rfl⟩
        obtain ⟨L2, hL2⟩ : ∃ L2, P ++ (X ++ (B1.drop (j - i) ++ (B1.take (j - i) ++ (A1 ++ (Y ++ S))))) = L2 := ⟨_, rfl⟩
        have e := fun gs h => hS K (P ++ X) A1 (B1.take (j - i)) (B1.drop (j - i)) (Y ++ S) (m - i) (m + j - i) i n gs rest cmp h hd hi (by simp; omega) (by simp; omega) (by simp; omega) (by simp; omega) hn2
        have c1 : P ++ X ++ A1 ++ B1.take (j - i) ++ B1.drop (j - i) ++ (Y ++ S) = L := by
          rw [← hL]; simp only [List.append_assoc]; rw [← List.append_assoc (B1.take _), List.take_append_drop]
        have c2 : P ++ X ++ B1.drop (j - i) ++ B1.take (j - i) ++ A1 ++ (Y ++ S) = L2 := by rw [← hL2]; simp
        rw [c1, c2] at e
        have t1 : ((m - i : Nat) : Int) = (m : Int) - i := by omega
        have t2 : ((m + j - i : Nat) : Int) = (m : Int) + j - i := by omega
        rw [t1, t2] at e
        rw [hL]
        simp -implicitDefEqProofs (disch := first | omega | (simp <;> fail) | assumption) [hg, hd, hi, hj, heq, hlt, e]
        refine ⟨X, B1.drop (j - i), B1.take (j - i), A1 ++ Y, ⟨⟨by simp [hj]; omega, by simp [hj]; omega⟩, by rw [← hL2]; simp⟩, ⟨?_, by simp; omega, by simp; omega, by simp; omega⟩, by simp; omega⟩
        rw [← h1, ← List.append_assoc (B1.take _), List.take_append_drop]
  have t0 : (m : Int) - a = A.length := by omega
  have t00 : (b : Int) - m = B.length := by omega
  have hin2 := hin ⟨(0, .sl K n 0 n) :: (2, i64 m) :: (4, cmp) :: (10, i64 A.length) :: (11, i64 B.length) :: gs, (K, ⟨1, evR (P ++ (A ++ (B ++ S)))⟩) :: rest⟩ (by
    simp -implicitDefEqProofs (disch := first | omega | (simp <;> fail) | assumption) [hg, hd])
  have h5 := congrArg List.length hX
  simp only [List.length_append] at h5
  have e := fun gs h => hS K (P ++ X) A1 [] B1 (Y ++ S) (m - A1.length) m A1.length n gs rest cmp h hd rfl (by omega) (by simp; omega) (by simp; omega) (by simp; omega) hn2
  have c1 : P ++ X ++ A1 ++ [] ++ B1 ++ (Y ++ S) = P ++ (X ++ (A1 ++ (B1 ++ (Y ++ S)))) := by simp
  have c2 : P ++ X ++ B1 ++ [] ++ A1 ++ (Y ++ S) = P ++ (B ++ (A ++ S)) := by
    have := congrArg (fun z => P ++ (z ++ S)) hX
    simp at this
    simp [this]
  have t1 : ((m - A1.length : Nat) : Int) = (m : Int) - A1.length := by omega
  rw [c1, c2, t1] at e
  simp -implicitDefEqProofs (disch := first | omega | (simp <;> fail) | assumption) [hg, hd, t0, t00, hin2, e]
end Go.Am.Si
