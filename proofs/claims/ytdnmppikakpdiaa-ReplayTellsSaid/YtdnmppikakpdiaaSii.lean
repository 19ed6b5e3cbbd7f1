/- A stable sort's walks: two ranges in order become one (the whole). -/
import Derived.Test.YtdnmppikakpdiaaSih
set_option linter.unusedVariables false
set_option linter.unusedSimpArgs false
set_option maxRecDepth 10000
set_option maxHeartbeats 4000000
namespace Go.Am.Si
open Go.Am
theorem symMerge_run (Γ : Env) (M d : Nat) (hM : 100001 < M) (U : Ev → Prop) (hR : RotC (Γ.pt 179)) (hS : SymC U (Γ.pt 709) d (Γ.pt 174)) : SymC U (Γ.pt 709) (d + 1) (runP Γ M slices_symMergeCmpFunc_int_f) := by
  intro K P A B S a m b n gs rest hg hd hP hA hB hn hn2 hA0 hB0 hle sA sB hC hUA hUB hTie
  have hn0 := hn
  simp only [List.length_append] at hn
  obtain ⟨L, hL⟩ : ∃ L, P ++ (A ++ (B ++ S)) = L := ⟨_, rfl⟩
  have hL2 : (P ++ A) ++ (B ++ S) = L := by rw [← hL]; simp
  have hPA : (P ++ A).length = m := by simp; omega
  have hlL : L.length = n := by rw [← hL]; exact hn0
  have oA : ∀ i j, a ≤ i → i ≤ j → j < m → leE (evAt L i) (evAt L j) := by
    have := mid_sor (P := P) (S := B ++ S) hP sA
    rw [hA, hL] at this; exact this
  have oB : ∀ i j, m ≤ i → i ≤ j → j < b → leE (evAt L i) (evAt L j) := by
    have := mid_sor (P := P ++ A) (S := S) hPA sB
    rw [hB, hL2] at this; exact this
  have wA : ∀ i, a ≤ i → i < m → evAt L i ∈ A := fun i h1 h2 => by
    rw [← hL, evAt_mid hP h1 (by omega), evAt_get (by omega)]; exact List.getElem_mem _
  have wB : ∀ i, m ≤ i → i < b → evAt L i ∈ B := fun i h1 h2 => by
    rw [← hL2, evAt_mid hPA h1 (by omega), evAt_get (by omega)]; exact List.getElem_mem _
  have w : ∀ i j, a ≤ i → i < m → m ≤ j → j < b → U (evAt L j) ∧ U (evAt L i) ∧ Tie (evAt L i) (evAt L j) := fun i j h1 h2 h3 h4 => ⟨hUB _ (wB j h3 h4), hUA _ (wA i h1 h2), hTie _ (wA i h1 h2) _ (wB j h3 h4)⟩
  rw [hL]
  by_cases c1 : A.length = 1
  · obtain ⟨x, rfl⟩ : ∃ x, A = [x] := List.length_eq_one_iff.1 c1
    have hx : evAt L a = x := by rw [← hL, evAt_mid hP (by omega) (by simp), Nat.sub_self]; rfl
    simp at hA
    obtain ⟨s, hs, hin⟩ := sym_s5 Γ M hM U L K n a m b gs rest hg hd hlL hn2 (by omega) (by omega) (by omega) (fun h h' p1 p2 p3 p4 => le_lt (oB h h' p1 p2 p3) p4) hC (fun h h1 h2 => w a h (by omega) (by omega) h1 h2)
    have hs1 := hs.le
    have hs2 := hs.ge
    have hsr : srtE ([x] ++ B) = B.take (s - m) ++ x :: B.drop (s - m) := by
      refine srt_put2 (by rw [List.take_append_drop]; exact sB) (by rw [List.take_append_drop]; exact List.Perm.refl _) (fun r hr => ?_) (fun r hr => ?_) (List.Perm.refl _)
      · obtain ⟨i, i1, i2, i3, rfl⟩ := mid_take (P := P ++ [x]) (S := S) hPA hr
        rw [hL2]
        have := hs.yes i i1 (by omega)
        rw [hx] at this
        exact le_of_lt this
      · obtain ⟨i, i1, i2, rfl⟩ := mid_drop (P := P ++ [x]) (S := S) hPA hr
        rw [hL2]
        have := hs.no i (by omega) (by omega)
        rw [hx] at this
        exact this
    have hm4 := sym_m4 Γ M hM P B S x K n a (s - m) s gs rest hg hd hP (by omega) (by omega) (by simp at hn; omega) hn2
    rw [Nat.sub_self] at hm4
    simp only [List.take_zero, List.drop_zero, List.nil_append] at hm4
    have hL3 : P ++ x :: (B ++ S) = L := by rw [← hL]; simp
    have hL4 : P ++ (srtE ([x] ++ B) ++ S) = P ++ (B.take (s - m) ++ x :: (B.drop (s - m) ++ S)) := by rw [hsr]; simp
    rw [hL4]
    rw [hL3] at hm4
    generalize P ++ (B.take (s - m) ++ x :: (B.drop (s - m) ++ S)) = L' at *
    have hin2 := hin ⟨(0, .sl K n 0 n) :: (1, i64 a) :: (4, .clo fv_replay_Riders_1 [.loc 8 0 0]) :: (10, i64 m) :: (11, i64 b) :: gs, (K, ⟨1, evR L⟩) :: rest⟩ (by
      simp -implicitDefEqProofs (disch := first | omega | (simp <;> fail) | assumption) [hg, hd])
    have hm42 := hm4 ⟨(0, .sl K n 0 n) :: (10, i64 s) :: (13, i64 a) :: gs, (K, ⟨1, evR L⟩) :: rest⟩ (by
      simp -implicitDefEqProofs (disch := first | omega | (simp <;> fail) | assumption) [hg, hd])
    have t1 : (m : Int) - a = 1 := by omega
    simp -implicitDefEqProofs (disch := first | omega | (simp <;> fail) | assumption) [-slices_symMergeCmpFunc_int_c_x, sym_c_x, hg, hd, hin2, hm42, t1]
  by_cases c2 : B.length = 1
  · obtain ⟨x, rfl⟩ : ∃ x, B = [x] := List.length_eq_one_iff.1 c2
    have hx : evAt L m = x := by rw [← hL2, evAt_mid hPA (by omega) (by simp), Nat.sub_self]; rfl
    simp at hB
    obtain ⟨s, hs, hin⟩ := sym_s3 Γ M hM U L K n m a m gs rest hg hd hlL hn2 (by omega) (by simp at hn; omega) (by simp at hn; omega) (fun h h' p1 p2 p3 p4 => leE_trans (oA h h' p1 p2 p3) p4) hC (fun h h1 h2 => w h m h1 h2 (by omega) (by omega))
    have hs1 := hs.le
    have hs2 := hs.ge
    have hsr : srtE (A ++ [x]) = A.take (s - a) ++ x :: A.drop (s - a) := by
      refine srt_put2 (by rw [List.take_append_drop]; exact sA) (List.Perm.of_eq (List.take_append_drop _ _)) (fun r hr => ?_) (fun r hr => ?_) (List.perm_append_singleton x A)
      · obtain ⟨i, i1, i2, i3, rfl⟩ := mid_take (P := P) (S := [x] ++ S) hP hr
        rw [hL]
        have := hs.yes i i1 (by omega)
        rw [hx] at this
        exact this
      · obtain ⟨i, i1, i2, rfl⟩ := mid_drop (P := P) (S := [x] ++ S) hP hr
        rw [hL]
        have := hs.no i (by omega) (by omega)
        rw [hx] at this
        exact le_of_lt (Decidable.not_not.1 this)
    have hm2 := sym_m2 Γ M hM P A S x K n a (s - a) s m gs rest hg hd hP (by omega) (by omega) (by omega) (by simp at hn; omega) hn2
    have hL3 : P ++ (A.take (m - a) ++ x :: (A.drop (m - a) ++ S)) = L := by
      rw [← hL, List.take_of_length_le (by omega), List.drop_eq_nil_of_le (by omega)]; try simp
    have hL4 : P ++ (srtE (A ++ [x]) ++ S) = P ++ (A.take (s - a) ++ x :: (A.drop (s - a) ++ S)) := by rw [hsr]; simp
    rw [hL4]
    rw [hL3] at hm2
    generalize P ++ (A.take (s - a) ++ x :: (A.drop (s - a) ++ S)) = L' at *
    have hin2 := hin ⟨(0, .sl K n 0 n) :: (2, i64 m) :: (4, .clo fv_replay_Riders_1 [.loc 8 0 0]) :: (14, i64 a) :: (15, i64 m) :: gs, (K, ⟨1, evR L⟩) :: rest⟩ (by
      simp -implicitDefEqProofs (disch := first | omega | (simp <;> fail) | assumption) [hg, hd])
    have hm22 := hm2 ⟨(0, .sl K n 0 n) :: (14, i64 s) :: (17, i64 m) :: gs, (K, ⟨1, evR L⟩) :: rest⟩ (by
      simp -implicitDefEqProofs (disch := first | omega | (simp <;> fail) | assumption) [hg, hd])
    have t1 : ¬ (m : Int) - a = 1 := by omega
    have t2 : (b : Int) - m = 1 := by omega
    simp -implicitDefEqProofs (disch := first | omega | (simp <;> fail) | assumption) [-slices_symMergeCmpFunc_int_c_x, sym_c_x, hg, hd, hin2, hm22, t1, t2]
  · obtain ⟨mid, hmid⟩ : ∃ mid, (a + b) / 2 = mid := ⟨_, rfl⟩
    have hpow : 2 ^ (d + 1) = 2 * 2 ^ d := by rw [Nat.pow_succ]; omega
    have hall : ∀ lo hi : Nat, a ≤ lo → (lo = a ∨ lo + b = mid + m) → mid + m ≤ lo + b → hi ≤ m → hi ≤ mid → (hi = m ∨ hi = mid) → lo ≤ hi → ∃ s, lo ≤ s ∧ s ≤ hi ∧ (∀ s0, nrmP [0, 1, 2, 3, 4, 18, 19, 20, 21, 22] 0 0 [] s0 = ⟨(0, .sl K n 0 n) :: (1, i64 a) :: (2, i64 m) :: (3, i64 b) :: (4, .clo fv_replay_Riders_1 [.loc 8 0 0]) :: (18, i64 mid) :: (19, i64 (mid + m : Nat)) :: (20, i64 lo) :: (21, i64 hi) :: (22, i64 (mid + m - 1 : Nat)) :: gs, (K, ⟨1, evR L⟩) :: rest⟩ → lp (exec Γ M slices_symMergeCmpFunc_int_l1) M s0 = some (.ex 8, ⟨(0, .sl K n 0 n) :: (1, i64 a) :: (2, i64 m) :: (3, i64 b) :: (4, .clo fv_replay_Riders_1 [.loc 8 0 0]) :: (18, i64 mid) :: (19, i64 (mid + m : Nat)) :: (20, i64 s) :: gs, (K, ⟨1, evR L⟩) :: rest⟩)) ∧ xRunP [] (0, 0, []) (exec Γ M symTail1 ⟨(0, .sl K n 0 n) :: (1, i64 a) :: (2, i64 m) :: (3, i64 b) :: (4, .clo fv_replay_Riders_1 [.loc 8 0 0]) :: (18, i64 mid) :: (19, i64 (mid + m : Nat)) :: (20, i64 s) :: gs, (K, ⟨1, evR L⟩) :: rest⟩) = some ([], (K, ⟨1, evR (P ++ (srtE (A ++ B) ++ S))⟩) :: rest) := by
      intro lo hi z1 z2 z3 z4 z5 z6 z7
      have hlaw := fun s e => spl_law (s := s) (e := e) hL hP hA hB sA sB (by omega) (by omega) z1 z2 z3 z4 z5 z6 z7
      obtain ⟨s, hs, hin⟩ := sym_s1 Γ M hM U L K n a m b mid (mid + m) (mid + m - 1) lo hi gs rest hg hd hlL hn2 z7 (by omega) (by omega) (by omega) (hlaw 0 0).1 hC (fun h h1 h2 => w h (mid + m - 1 - h) (by omega) (by omega) (by omega) (by omega))
      have y1 := hs.le
      have y2 := hs.ge
      refine ⟨s, y1, y2, hin, ?_⟩
      obtain ⟨e, he⟩ : ∃ e, s + e = mid + m := ⟨mid + m - s, by omega⟩
      obtain ⟨q1, q2⟩ := (hlaw s e).2 hs he
      have hmg := mrg (List.take_append_drop (s - a) A).symm (List.take_append_drop (e - m) B).symm sA sB q1 q2
      have sA1 : Sor (A.take (s - a)) := sA.sublist (List.take_sublist _ _)
      have sA2 : Sor (A.drop (s - a)) := sA.sublist (List.drop_sublist _ _)
      have sB1 : Sor (B.take (e - m)) := sB.sublist (List.take_sublist _ _)
      have sB2 : Sor (B.drop (e - m)) := sB.sublist (List.drop_sublist _ _)
      have n1 : (A.take (s - a)).length = s - a := by simp; omega
      have n2 : (A.drop (s - a)).length = m - s := by simp; omega
      have n3 : (B.take (e - m)).length = e - m := by simp; omega
      have n4 : (B.drop (e - m)).length = b - e := by simp; omega
      have eA : A = A.take (s - a) ++ A.drop (s - a) := (List.take_append_drop _ _).symm
      have eB : B = B.take (e - m) ++ B.drop (e - m) := (List.take_append_drop _ _).symm
      have eL : P ++ (A.take (s - a) ++ (A.drop (s - a) ++ (B.take (e - m) ++ (B.drop (e - m) ++ S)))) = L := by
        rw [← hL]; simp only [← List.append_assoc]; rw [List.append_assoc P, List.take_append_drop, List.append_assoc (P ++ A), List.take_append_drop]
      have v1 : ∀ x ∈ A.take (s - a), x ∈ A := fun x hx => List.mem_of_mem_take hx
      have v2 : ∀ x ∈ A.drop (s - a), x ∈ A := fun x hx => List.mem_of_mem_drop hx
      have v3 : ∀ x ∈ B.take (e - m), x ∈ B := fun x hx => List.mem_of_mem_take hx
      have v4 : ∀ x ∈ B.drop (e - m), x ∈ B := fun x hx => List.mem_of_mem_drop hx
      rw [hmg]
      generalize A.take (s - a) = A1 at *
      generalize A.drop (s - a) = A2 at *
      generalize B.take (e - m) = B1 at *
      generalize B.drop (e - m) = B2 at *
      have hl3 : (srtE (A1 ++ B1)).length = mid - a := by rw [srtE_len]; simp; omega
      refine sym_t1 Γ M d K a m b n mid e s (mid + m) L (P ++ (A1 ++ (B1 ++ (A2 ++ (B2 ++ S))))) _ gs rest hg hd hn2 (by omega) (by omega) (fun gs hg => ?_) ?_
      · split
        · rename_i hc
          have := hR K (P ++ A1) A2 B1 (B2 ++ S) s m e n gs rest (.clo fv_replay_Riders_1 [.loc 8 0 0]) hg hd (by simp; omega) (by omega) (by omega) (by simp; omega) hn2 (by omega) (by omega)
          simp only [List.append_assoc] at this
          rw [eL] at this
          exact this
        · rename_i hc
          rw [← eL]
          rcases Nat.eq_zero_or_pos A2.length with h0 | h0
          · rw [List.length_eq_zero_iff.1 h0]; simp
          · have : B1.length = 0 := by omega
            rw [List.length_eq_zero_iff.1 this]; simp
      refine sym_t2 Γ M d K a b n mid e s _ (P ++ (srtE (A1 ++ B1) ++ (A2 ++ (B2 ++ S)))) _ gs rest hg hd (fun gs hg => ?_) ?_
      · exact sym_some hS K P A1 B1 (A2 ++ (B2 ++ S)) a s mid n gs rest hg hd hP (by omega) (by omega) (by simp; omega) hn2 (by omega) sA1 sB1 hC (fun x hx => hUA x (v1 x hx)) (fun x hx => hUB x (v3 x hx)) (fun x hx y hy => hTie x (v1 x hx) y (v3 y hy)) _ _ rfl rfl
      refine sym_t3 Γ M d K a b n mid e _ _ gs rest hg hd (fun gs hg => ?_)
      exact sym_some hS K (P ++ srtE (A1 ++ B1)) A2 B2 S mid e b n gs rest hg hd (by simp [hl3]; omega) (by omega) (by omega) (by simp [hl3]; omega) hn2 (by omega) sA2 sB2 hC (fun x hx => hUA x (v2 x hx)) (fun x hx => hUB x (v4 x hx)) (fun x hx y hy => hTie x (v2 x hx) y (v4 y hy)) _ _ (by simp) (by simp)
    have t1 : ¬ (m : Int) - a = 1 := by omega
    have t2 : ¬ (b : Int) - m = 1 := by omega
    have hshr : ((a : Int) + (b : Int)).fdiv (2 ^ min 1 IntKind.u64.bits) = (mid : Int) := by
      rw [show (2 : Int) ^ min 1 IntKind.u64.bits = 2 by decide, Int.fdiv_eq_ediv_of_nonneg _ (by omega)]; omega
    obtain ⟨nn, hnn⟩ : ∃ nn, mid + m = nn := ⟨_, rfl⟩
    obtain ⟨p, hp⟩ : ∃ p, mid + m - 1 = p := ⟨_, rfl⟩
    rw [hp] at hall
    have k1 : (mid : Int) + m = nn := by omega
    have k2 : (nn : Int) - 1 = p := by omega
    by_cases c3 : mid < m
    · obtain ⟨lo, hlo⟩ : ∃ lo, mid + m - b = lo := ⟨_, rfl⟩
      by_cases c4 : lo < a
      · omega
      · obtain ⟨s, y1, y2, hin, ht⟩ := hall lo mid (by omega) (by omega) (by omega) (by omega) (by omega) (by omega) (by omega)
        rw [hnn] at hin ht
        have k3 : (nn : Int) - b = lo := by omega
        have hin2 := hin ⟨(0, .sl K n 0 n) :: (1, i64 a) :: (2, i64 m) :: (3, i64 b) :: (4, .clo fv_replay_Riders_1 [.loc 8 0 0]) :: (18, i64 mid) :: (19, i64 nn) :: (20, i64 lo) :: (21, i64 mid) :: (22, i64 p) :: gs, (K, ⟨1, evR L⟩) :: rest⟩ (by
          simp -implicitDefEqProofs (disch := first | omega | (simp <;> fail) | assumption) [hg, hd])
        simp -implicitDefEqProofs (disch := first | omega | (simp <;> fail) | assumption) [-slices_symMergeCmpFunc_int_c_x, sym_c_x, hg, hd, hin2, ht, t1, t2, hshr, k1, k2, k3, c3]
    · obtain ⟨s, y1, y2, hin, ht⟩ := hall a m (by omega) (by omega) (by omega) (by omega) (by omega) (by omega) (by omega)
      rw [hnn] at hin ht
      have hin2 := hin ⟨(0, .sl K n 0 n) :: (1, i64 a) :: (2, i64 m) :: (3, i64 b) :: (4, .clo fv_replay_Riders_1 [.loc 8 0 0]) :: (18, i64 mid) :: (19, i64 nn) :: (20, i64 a) :: (21, i64 m) :: (22, i64 p) :: gs, (K, ⟨1, evR L⟩) :: rest⟩ (by
        simp -implicitDefEqProofs (disch := first | omega | (simp <;> fail) | assumption) [hg, hd])
      simp -implicitDefEqProofs (disch := first | omega | (simp <;> fail) | assumption) [-slices_symMergeCmpFunc_int_c_x, sym_c_x, hg, hd, hin2, ht, t1, t2, hshr, k1, k2, c3]
end Go.Am.Si
