/- A stable sort's walks: two ranges in order become one. -/
import Derived.Test.YtdnmppikakpdiaaSif
set_option linter.unusedVariables false
set_option linter.unusedSimpArgs false
set_option maxRecDepth 10000
set_option maxHeartbeats 2000000
namespace Go.Am.Si
open Go.Am
def symTail3 : AC := (.seq (.reg slices_symMergeCmpFunc_int_r43) (.keepP [0, 3, 4, 18, 24, 213] 0 0 [] (.cond (.t 213) (.keepP [0, 3, 4, 18, 24] 0 0 [] (.reg slices_symMergeCmpFunc_int_r44)) (.skip))))
def symTail2 : AC := (.seq (.seq (.reg slices_symMergeCmpFunc_int_r41) (.keepP [0, 1, 3, 4, 18, 20, 24, 199] 0 0 [] (.cond (.t 199) (.keepP [0, 1, 3, 4, 18, 20, 24] 0 0 [] (.reg slices_symMergeCmpFunc_int_r42)) (.skip)))) (.keepP [0, 3, 4, 18, 24] 0 0 [] symTail3))
def symTail1 : AC := (.seq (.reg slices_symMergeCmpFunc_int_r38) (.keepP [0, 1, 2, 3, 4, 18, 20, 24] 0 0 [] (.seq (.seq (.reg slices_symMergeCmpFunc_int_r39) (.keepP [0, 1, 2, 3, 4, 18, 20, 24, 185] 0 0 [] (.cond (.t 185) (.keepP [0, 1, 2, 3, 4, 18, 20, 24] 0 0 [] (.reg slices_symMergeCmpFunc_int_r40)) (.skip)))) (.keepP [0, 1, 3, 4, 18, 20, 24] 0 0 [] symTail2))))
theorem symTail3_x (Γ : Env) (N : Nat) (s : St) : exec Γ N symTail3 s = exec Γ N (.seq (.reg slices_symMergeCmpFunc_int_r43) (.keepP [0, 3, 4, 18, 24, 213] 0 0 [] (.cond (.t 213) (.keepP [0, 3, 4, 18, 24] 0 0 [] (.reg slices_symMergeCmpFunc_int_r44)) (.skip)))) s := rfl
theorem symTail2_x (Γ : Env) (N : Nat) (s : St) : exec Γ N symTail2 s = exec Γ N (.seq (.seq (.reg slices_symMergeCmpFunc_int_r41) (.keepP [0, 1, 3, 4, 18, 20, 24, 199] 0 0 [] (.cond (.t 199) (.keepP [0, 1, 3, 4, 18, 20, 24] 0 0 [] (.reg slices_symMergeCmpFunc_int_r42)) (.skip)))) (.keepP [0, 3, 4, 18, 24] 0 0 [] symTail3)) s := rfl
theorem symTail1_x (Γ : Env) (N : Nat) (s : St) : exec Γ N symTail1 s = exec Γ N (.seq (.reg slices_symMergeCmpFunc_int_r38) (.keepP [0, 1, 2, 3, 4, 18, 20, 24] 0 0 [] (.seq (.seq (.reg slices_symMergeCmpFunc_int_r39) (.keepP [0, 1, 2, 3, 4, 18, 20, 24, 185] 0 0 [] (.cond (.t 185) (.keepP [0, 1, 2, 3, 4, 18, 20, 24] 0 0 [] (.reg slices_symMergeCmpFunc_int_r40)) (.skip)))) (.keepP [0, 1, 3, 4, 18, 20, 24] 0 0 [] symTail2)))) s := rfl
theorem sym_c_x (Γ : Env) (N : Nat) (s : St) : exec Γ N slices_symMergeCmpFunc_int_c s = exec Γ N (.seq (.seq (.reg slices_symMergeCmpFunc_int_r0) (.keepP [0, 1, 2, 3, 4, 28] 0 0 [] (.cond (.t 28) (.keepP [0, 1, 2, 3, 4] 0 0 [] (.seq (.reg slices_symMergeCmpFunc_int_r1) (.keepP [0, 1, 3, 4, 10] 0 0 [] (.seq (.reg slices_symMergeCmpFunc_int_r2) (.keepP [0, 1, 4, 10, 11] 0 0 [] (.seq (.block 0 (.loop slices_symMergeCmpFunc_int_l5)) (.keepP [0, 1, 10] 0 0 [] (.seq (.seq (.reg slices_symMergeCmpFunc_int_r8) (.keepP [0, 10, 13] 0 0 [] (.block 2 (.loop slices_symMergeCmpFunc_int_l4)))) (.keepP [] 0 0 [] (.ret)))))))))) (.skip)))) (.keepP [0, 1, 2, 3, 4] 0 0 [] (.seq (.seq (.reg slices_symMergeCmpFunc_int_r12) (.keepP [0, 1, 2, 3, 4, 80] 0 0 [] (.cond (.t 80) (.keepP [0, 1, 2, 4] 0 0 [] (.seq (.reg slices_symMergeCmpFunc_int_r13) (.keepP [0, 2, 4, 14] 0 0 [] (.seq (.reg slices_symMergeCmpFunc_int_r14) (.keepP [0, 2, 4, 14, 15] 0 0 [] (.seq (.block 4 (.loop slices_symMergeCmpFunc_int_l3)) (.keepP [0, 2, 14] 0 0 [] (.seq (.seq (.reg slices_symMergeCmpFunc_int_r20) (.keepP [0, 14, 17] 0 0 [] (.block 6 (.loop slices_symMergeCmpFunc_int_l2)))) (.keepP [] 0 0 [] (.ret)))))))))) (.skip)))) (.keepP [0, 1, 2, 3, 4] 0 0 [] (.seq (.reg slices_symMergeCmpFunc_int_r24) (.keepP [0, 1, 2, 3, 4, 18] 0 0 [] (.seq (.reg slices_symMergeCmpFunc_int_r25) (.keepP [0, 1, 2, 3, 4, 18, 19] 0 0 [] (.seq (.reg slices_symMergeCmpFunc_int_r26) (.keepP [0, 1, 2, 3, 4, 18, 19] 0 0 [] (.seq (.seq (.reg slices_symMergeCmpFunc_int_r27) (.keepP [0, 1, 2, 3, 4, 18, 19, 140] 0 0 [] (.cond (.t 140) (.keepP [0, 1, 2, 3, 4, 18, 19] 0 0 [] (.seq (.reg slices_symMergeCmpFunc_int_r28) (.keepP [0, 1, 2, 3, 4, 18, 19, 20] 0 0 [] (.reg slices_symMergeCmpFunc_int_r29)))) (.keepP [0, 1, 2, 3, 4, 18, 19] 0 0 [] (.seq (.reg slices_symMergeCmpFunc_int_r30) (.keepP [0, 1, 2, 3, 4, 18, 19, 20] 0 0 [] (.reg slices_symMergeCmpFunc_int_r31))))))) (.keepP [0, 1, 2, 3, 4, 18, 19, 20, 21] 0 0 [] (.seq (.reg slices_symMergeCmpFunc_int_r32) (.keepP [0, 1, 2, 3, 4, 18, 19, 20, 21, 22] 0 0 [] (.seq (.block 8 (.loop slices_symMergeCmpFunc_int_l1)) (.keepP [0, 1, 2, 3, 4, 18, 19, 20] 0 0 [] symTail1)))))))))))))))) s := rfl

def SymC (U : Ev → Prop) (cmp : St → Option (List AV × List (Nat × Obj))) (d : Nat) (g : St → Option (List AV × List (Nat × Obj))) : Prop := ∀ (K : Nat) (P A B S : List Ev) (a m b n : Nat) (gs : List (Nat × AV)) (rest : List (Nat × Obj)), Gh gs → del rest K = rest → P.length = a → a + A.length = m → m + B.length = b → (P ++ (A ++ (B ++ S))).length = n → n ≤ 100000 → 0 < A.length → 0 < B.length → A.length + B.length ≤ 2 ^ d → Sor A → Sor B → CmpC U K rest cmp → (∀ x ∈ A, U x) → (∀ x ∈ B, U x) → (∀ x ∈ A, ∀ y ∈ B, Tie x y) →
  g ⟨(0, .sl K n 0 n) :: (1, i64 a) :: (2, i64 m) :: (3, i64 b) :: (4, .clo fv_replay_Riders_1 [.loc 8 0 0]) :: gs, (K, ⟨1, evR (P ++ (A ++ (B ++ S)))⟩) :: rest⟩ = some ([], (K, ⟨1, evR (P ++ (srtE (A ++ B) ++ S))⟩) :: rest)
/-- Two ranges, of which one may be empty. -/
theorem sym_some {U : Ev → Prop} {cmp : St → Option (List AV × List (Nat × Obj))} {d : Nat} {g : St → Option (List AV × List (Nat × Obj))} (h : SymC U cmp d g) (K : Nat) (P A B S : List Ev) (a m b n : Nat) (gs : List (Nat × AV)) (rest : List (Nat × Obj)) (hg : Gh gs) (hd : del rest K = rest) (hP : P.length = a) (hA : a + A.length = m) (hB : m + B.length = b) (hn : (P ++ (A ++ (B ++ S))).length = n) (hn2 : n ≤ 100000) (h2 : A.length + B.length ≤ 2 ^ d) (hsA : Sor A) (hsB : Sor B) (hC : CmpC U K rest cmp) (hUA : ∀ x ∈ A, U x) (hUB : ∀ x ∈ B, U x) (hT : ∀ x ∈ A, ∀ y ∈ B, Tie x y) (L L' : List Ev) (hL : P ++ (A ++ (B ++ S)) = L) (hL' : P ++ (srtE (A ++ B) ++ S) = L') :
    if a < m ∧ m < b then g ⟨(0, .sl K n 0 n) :: (1, i64 a) :: (2, i64 m) :: (3, i64 b) :: (4, .clo fv_replay_Riders_1 [.loc 8 0 0]) :: gs, (K, ⟨1, evR L⟩) :: rest⟩ = some ([], (K, ⟨1, evR L'⟩) :: rest) else L = L' := by
  subst hL hL'
  split
  · rename_i hc
    exact h K P A B S a m b n gs rest hg hd hP hA hB hn hn2 (by omega) (by omega) h2 hsA hsB hC hUA hUB hT
  · rename_i hc
    have hs : srtE (A ++ B) = A ++ B := by
      apply srtE_id
      rcases Nat.eq_zero_or_pos A.length with h0 | h0
      · rw [List.length_eq_zero_iff.1 h0]; exact hsB
      · have : B.length = 0 := by omega
        rw [List.length_eq_zero_iff.1 this, List.append_nil]; exact hsA
    rw [hs, List.append_assoc]
theorem sym_t3 (Γ : Env) (M d : Nat) (K a b n mid e : Nat) (L L' : List Ev) (gs : List (Nat × AV)) (rest : List (Nat × Obj)) (hg : Gh gs) (hd : del rest K = rest)
    (h : ∀ gs, Gh gs → if mid < e ∧ e < b then Γ.pt 174 ⟨(0, .sl K n 0 n) :: (1, i64 mid) :: (2, i64 e) :: (3, i64 b) :: (4, .clo fv_replay_Riders_1 [.loc 8 0 0]) :: gs, (K, ⟨1, evR L⟩) :: rest⟩ = some ([], (K, ⟨1, evR L'⟩) :: rest) else L = L') :
    xRunP [] (0, 0, []) (exec Γ M symTail3 ⟨(0, .sl K n 0 n) :: (3, i64 b) :: (4, .clo fv_replay_Riders_1 [.loc 8 0 0]) :: (18, i64 mid) :: (24, i64 e) :: gs, (K, ⟨1, evR L⟩) :: rest⟩) = some ([], (K, ⟨1, evR L'⟩) :: rest) := by
  by_cases c1 : mid < e
  · by_cases c2 : e < b
    · simp only [c1, c2, and_self, if_true] at h
      simp -implicitDefEqProofs (disch := first | omega | (simp <;> fail) | assumption) [symTail3_x, hg, hd, c1, c2, h]
    · have h := h gs hg
      rw [if_neg (by omega)] at h
      simp -implicitDefEqProofs (disch := first | omega | (simp <;> fail) | assumption) [symTail3_x, hg, hd, c1, c2, h]
  · have h := h gs hg
    rw [if_neg (by omega)] at h
    simp -implicitDefEqProofs (disch := first | omega | (simp <;> fail) | assumption) [symTail3_x, hg, hd, c1, h]
theorem sym_t2 (Γ : Env) (M d : Nat) (K a b n mid e s : Nat) (L L2 L' : List Ev) (gs : List (Nat × AV)) (rest : List (Nat × Obj)) (hg : Gh gs) (hd : del rest K = rest)
    (h : ∀ gs, Gh gs → if a < s ∧ s < mid then Γ.pt 174 ⟨(0, .sl K n 0 n) :: (1, i64 a) :: (2, i64 s) :: (3, i64 mid) :: (4, .clo fv_replay_Riders_1 [.loc 8 0 0]) :: gs, (K, ⟨1, evR L⟩) :: rest⟩ = some ([], (K, ⟨1, evR L2⟩) :: rest) else L = L2)
    (h2 : xRunP [] (0, 0, []) (exec Γ M symTail3 ⟨(0, .sl K n 0 n) :: (3, i64 b) :: (4, .clo fv_replay_Riders_1 [.loc 8 0 0]) :: (18, i64 mid) :: (24, i64 e) :: gs, (K, ⟨1, evR L2⟩) :: rest⟩) = some ([], (K, ⟨1, evR L'⟩) :: rest)) :
    xRunP [] (0, 0, []) (exec Γ M symTail2 ⟨(0, .sl K n 0 n) :: (1, i64 a) :: (3, i64 b) :: (4, .clo fv_replay_Riders_1 [.loc 8 0 0]) :: (18, i64 mid) :: (20, i64 s) :: (24, i64 e) :: gs, (K, ⟨1, evR L⟩) :: rest⟩) = some ([], (K, ⟨1, evR L'⟩) :: rest) := by
  by_cases c1 : a < s
  · by_cases c2 : s < mid
    · simp only [c1, c2, and_self, if_true] at h
      simp -implicitDefEqProofs (disch := first | omega | (simp <;> fail) | assumption) [symTail2_x, hg, hd, c1, c2, h, h2]
    · have h := h gs hg
      rw [if_neg (by omega)] at h
      simp -implicitDefEqProofs (disch := first | omega | (simp <;> fail) | assumption) [symTail2_x, hg, hd, c1, c2, h, h2]
  · have h := h gs hg
    rw [if_neg (by omega)] at h
    simp -implicitDefEqProofs (disch := first | omega | (simp <;> fail) | assumption) [symTail2_x, hg, hd, c1, h, h2]
theorem sym_t1 (Γ : Env) (M d : Nat) (K a m b n mid e s nn : Nat) (L L2 L' : List Ev) (gs : List (Nat × AV)) (rest : List (Nat × Obj)) (hg : Gh gs) (hd : del rest K = rest) (hn : n ≤ 100000) (he : nn = s + e) (hnn : nn ≤ 200000)
    (h : ∀ gs, Gh gs → if s < m ∧ m < e then Γ.pt 179 ⟨(0, .sl K n 0 n) :: (1, i64 s) :: (2, i64 m) :: (3, i64 e) :: (4, .clo fv_replay_Riders_1 [.loc 8 0 0]) :: gs, (K, ⟨1, evR L⟩) :: rest⟩ = some ([], (K, ⟨1, evR L2⟩) :: rest) else L = L2)
    (h2 : xRunP [] (0, 0, []) (exec Γ M symTail2 ⟨(0, .sl K n 0 n) :: (1, i64 a) :: (3, i64 b) :: (4, .clo fv_replay_Riders_1 [.loc 8 0 0]) :: (18, i64 mid) :: (20, i64 s) :: (24, i64 e) :: gs, (K, ⟨1, evR L2⟩) :: rest⟩) = some ([], (K, ⟨1, evR L'⟩) :: rest)) :
    xRunP [] (0, 0, []) (exec Γ M symTail1 ⟨(0, .sl K n 0 n) :: (1, i64 a) :: (2, i64 m) :: (3, i64 b) :: (4, .clo fv_replay_Riders_1 [.loc 8 0 0]) :: (18, i64 mid) :: (19, i64 nn) :: (20, i64 s) :: gs, (K, ⟨1, evR L⟩) :: rest⟩) = some ([], (K, ⟨1, evR L'⟩) :: rest) := by
  have e1 : (nn : Int) - s = e := by omega
  by_cases c1 : s < m
  · by_cases c2 : m < e
    · simp only [c1, c2, and_self, if_true] at h
      simp -implicitDefEqProofs (disch := first | omega | (simp <;> fail) | assumption) [symTail1_x, hg, hd, c1, c2, h, h2, e1]
    · have h := h gs hg
      rw [if_neg (by omega)] at h
      simp -implicitDefEqProofs (disch := first | omega | (simp <;> fail) | assumption) [symTail1_x, hg, hd, c1, c2, h, h2, e1]
  · have h := h gs hg
    rw [if_neg (by omega)] at h
    simp -implicitDefEqProofs (disch := first | omega | (simp <;> fail) | assumption) [symTail1_x, hg, hd, c1, h, h2, e1]
end Go.Am.Si
