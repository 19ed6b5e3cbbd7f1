/- A stable sort's walks: one is moved to its place; two ranges in order become one. -/
import Derived.Test.YtdnmppikakpdiaaSie
set_option linter.unusedVariables false
set_option linter.unusedSimpArgs false
set_option maxRecDepth 10000
set_option maxHeartbeats 2000000
namespace Go.Am.Si
open Go.Am
theorem sym_m4 (Γ : Env) (M : Nat) (hM : 100001 < M) (P Y S : List Ev) (x : Ev) (K n a c i : Nat) (gs : List (Nat × AV)) (rest : List (Nat × Obj)) (hg : Gh gs) (hd : del rest K = rest) (hP : P.length = a) (hc : c ≤ Y.length) (hi : i = a + 1 + c) (hn : P.length + (Y.length + 1 + S.length) = n) (hn2 : n ≤ 100000) :
    ∀ s0, nrmP [0, 10, 13] 0 0 [] s0 = ⟨(0, .sl K n 0 n) :: (10, i64 i) :: (13, i64 a) :: gs, (K, ⟨1, evR (P ++ (Y.take (a - a) ++ x :: (Y.drop (a - a) ++ S)))⟩) :: rest⟩ → lp (exec Γ M slices_symMergeCmpFunc_int_l4) M s0 = some (.ex 2, ⟨gs, (K, ⟨1, evR (P ++ (Y.take c ++ x :: (Y.drop c ++ S)))⟩) :: rest⟩) := by
  obtain ⟨ax, s', ⟨rfl, rfl⟩, hin⟩ : ∃ ax s', (ax = .ex 2 ∧ s' = ⟨gs, (K, ⟨1, evR (P ++ (Y.take c ++ x :: (Y.drop c ++ S)))⟩) :: rest⟩) ∧ ∀ s0, nrmP [0, 10, 13] 0 0 [] s0 = ⟨(0, .sl K n 0 n) :: (10, i64 i) :: (13, i64 a) :: gs, (K, ⟨1, evR (P ++ (Y.take (a - a) ++ x :: (Y.drop (a - a) ++ S)))⟩) :: rest⟩ → lp (exec Γ M slices_symMergeCmpFunc_int_l4) M s0 = some (ax, s') := by
    refine lp_allP (fun q : Nat => ⟨(0, .sl K n 0 n) :: (10, i64 i) :: (13, i64 q) :: gs, (K, ⟨1, evR (P ++ (Y.take (q - a) ++ x :: (Y.drop (q - a) ++ S)))⟩) :: rest⟩) (fun q => a ≤ q ∧ q ≤ a + c) (fun q => a + c - q) _ a M ⟨by omega, by omega⟩ (by omega) ?_
    rintro q ⟨h1, h2⟩
    by_cases hlt : q < a + c
    · obtain ⟨j, hj⟩ : ∃ j, q - a = j := ⟨_, rfl⟩
      have hjY : j < Y.length := by omega
      obtain ⟨y, hy⟩ : ∃ y, Y[j] = y := ⟨_, rfl⟩
      have htk : Y.take (j + 1) = Y.take j ++ [y] := by rw [List.take_succ_eq_append_getElem hjY, hy]
      have hdr : Y.drop j = y :: Y.drop (j + 1) := by rw [List.drop_eq_getElem_cons hjY, hy]
      rw [hj]
      obtain ⟨L, hL⟩ : ∃ L, P ++ (Y.take j ++ x :: (Y.drop j ++ S)) = L := ⟨_, rfl⟩
      obtain ⟨L', hL'⟩ : ∃ L', P ++ (Y.take (j + 1) ++ x :: (Y.drop (j + 1) ++ S)) = L' := ⟨_, rfl⟩
      have hlL : L.length = n := by rw [← hL]; simp; omega
      obtain ⟨f1, f2, f3, ⟨L1, f4, f5, f6, f7⟩, -⟩ := nbr L L' (P ++ Y.take j) (Y.drop (j + 1) ++ S) q n x y (by rw [← hL, hdr]; simp) (by rw [← hL', htk]; simp) (by simp; omega) hlL
      have a1 := fun z => nmEv z L
      have a2 := fun z => lcEv z L
      have b1 := fun z => nmEv z L1
      have b2 := fun z => lcEv z L1
      have t1 : ((q : Int) + 1).toNat = q + 1 := by omega
      have i1 : (q : Int) + 1 < n := by omega
      have i2 : q + 1 < n := by omega
      have i3 : q < n := by omega
      have i4 : (q : Int) < (i : Int) - 1 := by omega
      rw [hL]
      simp -implicitDefEqProofs (disch := first | omega | (simp <;> fail) | assumption) [hg, hd, f1, f2, f3, f4, f5, f6, f7, a1, a2, b1, b2, t1, i1, i2, i3, i4, evV, cellsE]
      exact ⟨q + 1, ⟨by omega, by rw [← hL', show q + 1 - a = j + 1 by omega]⟩, ⟨by omega, by omega⟩, by omega⟩
    · obtain rfl : q = a + c := by omega
      have i4 : ¬ ((a + c : Nat) : Int) < (i : Int) - 1 := by omega
      have hac : a + c - a = c := by omega
      rw [hac]
      simp only [Int.natCast_add] at i4
      simp -implicitDefEqProofs (disch := first | omega | (simp <;> fail) | assumption) [hg, hd, i4]
  exact hin
theorem sym_m2 (Γ : Env) (M : Nat) (hM : 100001 < M) (P Y S : List Ev) (x : Ev) (K n a c i m : Nat) (gs : List (Nat × AV)) (rest : List (Nat × Obj)) (hg : Gh gs) (hd : del rest K = rest) (hP : P.length = a) (hc : c ≤ Y.length) (hi : i = a + c) (hm : m = a + Y.length) (hn : P.length + (Y.length + 1 + S.length) = n) (hn2 : n ≤ 100000) :
    ∀ s0, nrmP [0, 14, 17] 0 0 [] s0 = ⟨(0, .sl K n 0 n) :: (14, i64 i) :: (17, i64 m) :: gs, (K, ⟨1, evR (P ++ (Y.take (m - a) ++ x :: (Y.drop (m - a) ++ S)))⟩) :: rest⟩ → lp (exec Γ M slices_symMergeCmpFunc_int_l2) M s0 = some (.ex 6, ⟨gs, (K, ⟨1, evR (P ++ (Y.take c ++ x :: (Y.drop c ++ S)))⟩) :: rest⟩) := by
  obtain ⟨ax, s', ⟨rfl, rfl⟩, hin⟩ : ∃ ax s', (ax = .ex 6 ∧ s' = ⟨gs, (K, ⟨1, evR (P ++ (Y.take c ++ x :: (Y.drop c ++ S)))⟩) :: rest⟩) ∧ ∀ s0, nrmP [0, 14, 17] 0 0 [] s0 = ⟨(0, .sl K n 0 n) :: (14, i64 i) :: (17, i64 m) :: gs, (K, ⟨1, evR (P ++ (Y.take (m - a) ++ x :: (Y.drop (m - a) ++ S)))⟩) :: rest⟩ → lp (exec Γ M slices_symMergeCmpFunc_int_l2) M s0 = some (ax, s') := by
    refine lp_allP (fun q : Nat => ⟨(0, .sl K n 0 n) :: (14, i64 i) :: (17, i64 q) :: gs, (K, ⟨1, evR (P ++ (Y.take (q - a) ++ x :: (Y.drop (q - a) ++ S)))⟩) :: rest⟩) (fun q => i ≤ q ∧ q ≤ m) (fun q => q) _ m M ⟨by omega, by omega⟩ (by omega) ?_
    rintro q ⟨h1, h2⟩
    by_cases hlt : i < q
    · obtain ⟨j, hj⟩ : ∃ j, q - a = j + 1 := ⟨q - a - 1, by omega⟩
      have hjY : j < Y.length := by omega
      obtain ⟨y, hy⟩ : ∃ y, Y[j] = y := ⟨_, rfl⟩
      have htk : Y.take (j + 1) = Y.take j ++ [y] := by rw [List.take_succ_eq_append_getElem hjY, hy]
      have hdr : Y.drop j = y :: Y.drop (j + 1) := by rw [List.drop_eq_getElem_cons hjY, hy]
      rw [hj]
      obtain ⟨L, hL⟩ : ∃ L, P ++ (Y.take (j + 1) ++ x :: (Y.drop (j + 1) ++ S)) = L := ⟨_, rfl⟩
      obtain ⟨L', hL'⟩ : ∃ L', P ++ (Y.take j ++ x :: (Y.drop j ++ S)) = L' := ⟨_, rfl⟩
      have hlL : L.length = n := by rw [← hL]; simp; omega
      obtain ⟨f1, f2, f3, -, L1, f4, f5, f6, f7⟩ := nbr L L' (P ++ Y.take j) (Y.drop (j + 1) ++ S) (q - 1) n y x (by rw [← hL, htk]; simp) (by rw [← hL', hdr]; simp) (by simp; omega) hlL
      have hq1 : q - 1 + 1 = q := by omega
      rw [hq1] at f3 f4 f7
      have a1 := fun z => nmEv z L
      have a2 := fun z => lcEv z L
      have b1 := fun z => nmEv z L1
      have b2 := fun z => lcEv z L1
      have t1 : ((q : Int) - 1).toNat = q - 1 := by omega
      have i1 : (q : Int) - 1 < n := by omega
      have i2 : q - 1 < n := by omega
      have i3 : q < n := by omega
      have i4 : (0 : Int) ≤ (q : Int) - 1 := by omega
      rw [hL]
      simp -implicitDefEqProofs (disch := first | omega | (simp <;> fail) | assumption) [hg, hd, f1, f2, f3, f4, f5, f6, f7, a1, a2, b1, b2, t1, i1, i2, i3, i4, hlt, evV, cellsE]
      exact ⟨q - 1, ⟨by omega, by rw [← hL', show q - 1 - a = j by omega]⟩, ⟨by omega, by omega⟩, by omega⟩
    · obtain rfl : q = i := by omega
      have hac : q - a = c := by omega
      rw [hac]
      simp -implicitDefEqProofs (disch := first | omega | (simp <;> fail) | assumption) [hg, hd]
  exact hin
end Go.Am.Si
