/- A stable sort's walks: ranges are swapped. -/
import Derived.Test.YtdnmppikakpdiaaRplCode
import Derived.Test.YtdnmppikakpdiaaUt
set_option linter.unusedVariables false
set_option linter.unusedSimpArgs false
set_option maxRecDepth 10000
set_option maxHeartbeats 2000000
namespace Go.Am.Si
open Go.Am
/-- A number, and what it is ordered by ahead of itself. -/
structure Ev where
  b : Int
  i : Int
  deriving DecidableEq
def Ev.cells (e : Ev) : List D := [.int .i64 e.i]
def evV (e : Ev) : List AV := [i64 e.i]
def evR (l : List Ev) : Rows := l.map evV
theorem evR_len (l : List Ev) : (evR l).length = l.length := by simp [evR]
theorem evR_get (l : List Ev) {i : Nat} (h : i < l.length) : ∀ h2, (evR l)[i]'h2 = evV l[i] := by intro h2; simp [evR]
theorem evR_set (l : List Ev) (i : Nat) (e : Ev) : (evR l).set i (evV e) = evR (l.set i e) := by unfold evR; rw [List.map_set]
theorem nmEv (k : Nat) (l : List Ev) : nmRows k (evR l) = true := by unfold evR; induction l <;> simp_all [evV]
theorem lcEv (k : Nat) (l : List Ev) : lcRows k (evR l) = true := by unfold evR; induction l <;> simp_all [evV]
/-- Two are swapped. -/
def sw (l : List Ev) (i j : Nat) (x y : Ev) : List Ev := (l.set i y).set j x
def swN (A B : List Ev) (k : Nat) : List Ev := B.take k ++ A.drop k
def SwapC (g : St → Option (List AV × List (Nat × Obj))) : Prop := ∀ (K : Nat) (P A Q B S : List Ev) (a b m n : Nat) (gs : List (Nat × AV)) (rest : List (Nat × Obj)) (cmp : AV), Gh gs → del rest K = rest → A.length = m → B.length = m → P.length = a → a + m + Q.length = b → (P ++ A ++ Q ++ B ++ S).length = n → n ≤ 100000 →
  g ⟨(0, .sl K n 0 n) :: (1, i64 a) :: (2, i64 b) :: (3, i64 m) :: (4, cmp) :: gs, (K, ⟨1, evR (P ++ A ++ Q ++ B ++ S)⟩) :: rest⟩ = some ([], (K, ⟨1, evR (P ++ B ++ Q ++ A ++ S)⟩) :: rest)
theorem swapRange_run (Γ : Env) (M : Nat) (hM : 100001 < M) : SwapC (runP Γ M slices_swapRangeCmpFunc_int_f) := by
  intro K P A Q B S a b m n gs rest cmp hg hd hA hB hP hQ hn hn2
  simp only [List.length_append] at hn
  have cur : ∀ k : Nat, k ≤ m → (P ++ swN A B k ++ Q ++ swN B A k ++ S).length = n := by
    intro k hk
    unfold swN
    simp only [List.length_append, List.length_take, List.length_drop]
    omega
  obtain ⟨ax, s', ⟨rfl, rfl⟩, hin⟩ : ∃ ax s', (ax = .ex 0 ∧ s' = ⟨gs, (K, ⟨1, evR (P ++ B ++ Q ++ A ++ S)⟩) :: rest⟩) ∧ ∀ s0, nrmP [0, 1, 2, 3, 10] 0 0 [] s0 = ⟨(0, .sl K n 0 n) :: (1, i64 a) :: (2, i64 b) :: (3, i64 m) :: (10, i64 (0 : Nat)) :: gs, (K, ⟨1, evR (P ++ swN A B 0 ++ Q ++ swN B A 0 ++ S)⟩) :: rest⟩ → lp (exec Γ M slices_swapRangeCmpFunc_int_l1) M s0 = some (ax, s') := by
    refine lp_allP (fun q : Nat => ⟨(0, .sl K n 0 n) :: (1, i64 a) :: (2, i64 b) :: (3, i64 m) :: (10, i64 q) :: gs, (K, ⟨1, evR (P ++ swN A B q ++ Q ++ swN B A q ++ S)⟩) :: rest⟩) (fun q => q ≤ m) (fun q => m - q) _ 0 M (by simp) (by omega) ?_
    intro k hk
    by_cases hlt : k < m
    · have hlen := cur k hk
      have hka : k < A.length := by omega
      have hkb : k < B.length := by omega
      have e1 : swN A B (k + 1) = B.take k ++ B[k] :: A.drop (k + 1) := by unfold swN; rw [List.take_succ_eq_append_getElem hkb, List.append_assoc]; rfl
      have e2 : swN B A (k + 1) = A.take k ++ A[k] :: B.drop (k + 1) := by unfold swN; rw [List.take_succ_eq_append_getElem hka, List.append_assoc]; rfl
      have e3 : swN A B k = B.take k ++ A[k] :: A.drop (k + 1) := by unfold swN; rw [List.drop_eq_getElem_cons hka]
      have e4 : swN B A k = A.take k ++ B[k] :: B.drop (k + 1) := by unfold swN; rw [List.drop_eq_getElem_cons hkb]
      obtain ⟨x, hx⟩ : ∃ x, A[k] = x := ⟨_, rfl⟩
      obtain ⟨y, hy⟩ : ∃ y, B[k] = y := ⟨_, rfl⟩
      rw [hx] at e2 e3
      rw [hy] at e1 e4
      have hset : ∀ (L L1 L2 : List Ev) (u v : Ev) (i : Nat), L = L1 ++ u :: L2 → L1.length = i → L.set i v = L1 ++ v :: L2 := by
        rintro L L1 L2 u v i rfl rfl; simp
      have hget : ∀ (L L1 L2 : List Ev) (u : Ev) (i : Nat), L = L1 ++ u :: L2 → L1.length = i → ∀ h, L[i]'h = u := by
        rintro L L1 L2 u i rfl rfl h; simp
      obtain ⟨C, hC⟩ : ∃ C, P ++ swN A B k ++ Q ++ swN B A k ++ S = C := ⟨_, rfl⟩
      obtain ⟨C', hC'⟩ : ∃ C', P ++ swN A B (k + 1) ++ Q ++ swN B A (k + 1) ++ S = C' := ⟨_, rfl⟩
      have d1 : C = (P ++ B.take k) ++ x :: (A.drop (k + 1) ++ Q ++ (A.take k ++ y :: B.drop (k + 1)) ++ S) := by rw [← hC, e3, e4]; simp
      have d2 : C = (P ++ B.take k ++ x :: A.drop (k + 1) ++ Q ++ A.take k) ++ y :: (B.drop (k + 1) ++ S) := by rw [← hC, e3, e4]; simp
      have l1 : (P ++ B.take k).length = a + k := by simp; omega
      have l2 : (P ++ B.take k ++ x :: A.drop (k + 1) ++ Q ++ A.take k).length = b + k := by simp; omega
      have g1 := hget C _ _ x (a + k) d1 l1
      have g2 := hget C _ _ y (b + k) d2 l2
      have s1 : (C.set (a + k) y).set (b + k) x = C' := by
        rw [hset C _ _ x y (a + k) d1 l1]
        rw [hset _ (P ++ B.take k ++ y :: A.drop (k + 1) ++ Q ++ A.take k) (B.drop (k + 1) ++ S) y x (b + k) (by simp) (by simp; omega), ← hC', e1, e2]
        simp
      rw [hC] at hlen ⊢
      have hl4 := evR_len C
      have q1 := evR_get C (i := a + k) (by omega)
      have q2 := evR_get C (i := b + k) (by omega)
      rw [g1] at q1
      rw [g2] at q2
      have a1 := fun z => nmEv z C
      have a2 := fun z => lcEv z C
      have t1 : ((a : Int) + (k : Int)).toNat = a + k := by omega
      have t2 : ((b : Int) + (k : Int)).toNat = b + k := by omega
      have i1 : (a : Int) + (k : Int) < n := by omega
      have i2 : (b : Int) + (k : Int) < n := by omega
      have i3 : a + k < n := by omega
      have i4 : b + k < n := by omega
      have hr1 : List.take (a + k) (evR C) ++ [AV.c (D.int IntKind.i64 y.i)] :: List.drop (a + k + 1) (evR C) = evR (C.set (a + k) y) := by
        rw [← evR_set, List.set_eq_take_append_cons_drop, if_pos (by rw [hl4]; omega)]; rfl
      obtain ⟨C1, hC1⟩ : ∃ C1, C.set (a + k) y = C1 := ⟨_, rfl⟩
      rw [hC1] at hr1 s1
      have hlen1 : C1.length = n := by rw [← hC1]; simp [hlen]
      have hl41 := evR_len C1
      have q3 := evR_get C1 (i := b + k) (by omega)
      obtain ⟨z, hz⟩ : ∃ z, C1[b + k]'(by omega) = z := ⟨_, rfl⟩
      rw [hz] at q3
      have b1 := fun z => nmEv z C1
      have b2 := fun z => lcEv z C1
      have hr2 : List.take (b + k) (evR C1) ++ [AV.c (D.int IntKind.i64 x.i)] :: List.drop (b + k + 1) (evR C1) = evR C' := by
        rw [← s1, ← evR_set, List.set_eq_take_append_cons_drop, if_pos (by rw [hl41]; omega)]; rfl
      simp -implicitDefEqProofs (disch := first | omega | (simp <;> fail) | assumption) [hg, hd, hlt, hl4, hlen, q1, q2, a1, a2, t1, t2, i1, i2, i3, i4, evV, hr1, hr2, hl41, hlen1, b1, b2, q3]
      exact ⟨k + 1, ⟨by simp, by rw [← hC']; simp⟩, by omega, by omega⟩
    · obtain rfl : k = m := by omega
      have e1 : swN A B k = B := by unfold swN; rw [← hA, List.drop_length, hA, ← hB, List.take_length, List.append_nil]
      have e2 : swN B A k = A := by unfold swN; rw [← hB, List.drop_length, hB, ← hA, List.take_length, List.append_nil]
      rw [e1, e2]
      simp -implicitDefEqProofs (disch := first | omega | (simp <;> fail) | assumption) [hg, hd]
  have hin2 := hin ⟨(0, .sl K n 0 n) :: (1, i64 a) :: (2, i64 b) :: (3, i64 m) :: (10, .c (.int .i64 0)) :: gs, (K, ⟨1, evR (P ++ (A ++ (Q ++ (B ++ S))))⟩) :: rest⟩ (by
    simp -implicitDefEqProofs (disch := first | omega | (simp <;> fail) | assumption) [hg, hd, swN])
  simp -implicitDefEqProofs (disch := first | omega | (simp <;> fail) | assumption) [hg, hd, hin2]
end Go.Am.Si
