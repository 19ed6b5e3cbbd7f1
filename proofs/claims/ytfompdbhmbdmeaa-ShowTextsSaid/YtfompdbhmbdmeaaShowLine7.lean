/- Law 27: a line. -/
import Derived.Test.YtfompdbhmbdmeaaShowLine
set_option linter.unusedVariables false
set_option linter.unusedSimpArgs false
set_option maxRecDepth 10000
set_option maxHeartbeats 1000000
namespace Go.Am
/-- What lies behind k words. -/
def ob7 (o : Obj) (rest : List (Nat × Obj)) (t : List UInt8) (ws : List (List UInt8)) (k : Nat) : List (Nat × Obj) := if k = 0 then (7, o) :: bOb t rest else bOb (t ++ joinW (ws.take k)) ((7, o) :: rest)
/-- The first loop, an object in front. -/
theorem line_l27 (Γ : Env) (M : Nat) (hM : 100 < M) (hw : WrC (Γ.pt 79)) (hw7 : WrC7 (Γ.pt 79)) (o : Obj) (ho1 : nmRows kt_buf o.rows = true) (ho2 : lcRows kt_buf o.rows = true) (gs : List (Nat × AV)) (rest : List (Nat × Obj)) (hgs : GsOk gs) (hr : RestOk rest) (ws : List (List UInt8)) (L : AV) (hL : (∃ l : List Int, L = nV l) ∨ L = .nil 1) (hl : ws.length ≤ 3) (hI : ∀ w ∈ ws, w.length ≤ 20) (t : List UInt8) (ht : t.length ≤ 800000) (htn : t ≠ []) (hws : ws ≠ []) :
    ∀ s0, nrmP [0, 2, 10, 11, 12] 0 0 [] s0 = ⟨(0, .loc kB 0 0) :: (2, L) :: (10, wV ws) :: (11, i64 ws.length) :: (12, i64 (0 : Nat)) :: gs, (7, o) :: bOb t rest⟩ →
      lp (exec Γ M show_line_l2) M s0 = some (.ex 0, ⟨(0, .loc kB 0 0) :: (2, L) :: gs, bOb (t ++ joinW ws) ((7, o) :: rest)⟩) := by
  obtain ⟨hg, hn, hlc⟩ := id hgs
  have hL3 : L.names kt_buf = false := by rcases hL with ⟨l, rfl⟩ | rfl <;> simp [nV]
  have hL4 : L.isLoc kt_buf = false := by rcases hL with ⟨l, rfl⟩ | rfl <;> simp [nV]
  obtain ⟨ax, s', ⟨rfl, rfl⟩, hin⟩ : ∃ ax s', (ax = .ex 0 ∧ s' = ⟨(0, .loc kB 0 0) :: (2, L) :: gs, bOb (t ++ joinW ws) ((7, o) :: rest)⟩) ∧ ∀ s0, nrmP [0, 2, 10, 11, 12] 0 0 [] s0 = ⟨(0, .loc kB 0 0) :: (2, L) :: (10, wV ws) :: (11, i64 ws.length) :: (12, i64 (0 : Nat)) :: gs, ob7 o rest t ws 0⟩ → lp (exec Γ M show_line_l2) M s0 = some (ax, s') := by
    refine lp_allP (fun k : Nat => ⟨(0, .loc kB 0 0) :: (2, L) :: (10, wV ws) :: (11, i64 ws.length) :: (12, i64 k) :: gs, ob7 o rest t ws k⟩) (fun k => k ≤ ws.length) (fun k => ws.length - k) _ 0 M (by omega) (by omega) ?_
    intro k hk
    by_cases hlt : k < ws.length
    · have hlen := joinW_len (ws.take k) (fun w hw => hI w (List.mem_of_mem_take hw))
      have hlk : (ws.take k).length ≤ 3 := by simp; omega
      have hwk := hI ws[k] (List.getElem_mem hlt)
      obtain ⟨X, hX⟩ : ∃ X, ws[k] = X := ⟨_, rfl⟩
      have hTl : (t ++ joinW (ws.take k)).length ≤ 890000 := by simp; omega
      rcases Nat.eq_zero_or_pos k with rfl | hpos
      · have hnext : t ++ X = t ++ joinW (ws.take (0 + 1)) := by
          rw [List.take_succ_eq_append_getElem hlt, hX]; simp [joinW]
        rw [hX] at hwk
        have hw1 := fun gs h => hw7 gs rest t X o h hr ho1 ho2 htn (by omega)
        rw [hnext] at hw1
        simp [gsOk_iff] at hw1
        simp only [ob7, if_true]
        simp -implicitDefEqProofs (disch := first | omega | (simp [hg, hn, hlc, hL3, hL4] <;> fail) | assumption) [hg, hlt, wV, hX, hw1]
        exact ⟨1, by simp, by omega, by omega⟩
      · have hne : ws.take k ≠ [] := by
          intro h
          rw [List.take_eq_nil_iff] at h
          rcases h with h | h
          · omega
          · subst h; simp at hlt
        have hnext : (t ++ joinW (ws.take k)) ++ [32] ++ X = t ++ joinW (ws.take (k + 1)) := by
          rw [List.take_succ_eq_append_getElem hlt, joinW_snoc _ _ hne, hX]; simp
        obtain ⟨T, hTT⟩ : ∃ T, t ++ joinW (ws.take k) = T := ⟨_, rfl⟩
        have hk0 : ¬ k = 0 := by omega
        simp only [ob7, if_neg hk0]
        rw [hTT] at hTl hnext ⊢
        rw [hX] at hwk
        have hpos' : (0 : Int) < k := by omega
        have hw1 := fun gs h => hw gs ((7, o) :: rest) T [32] h (hr.seven ho1 ho2) (.inr (by simp)) (by simp; omega)
        have hw2 := fun gs h => hw gs ((7, o) :: rest) (T ++ [32]) X h (hr.seven ho1 ho2) (.inl (by simp)) (by simp; omega)
        rw [hnext] at hw2
        simp [gsOk_iff] at hw1 hw2
        simp -implicitDefEqProofs (disch := first | omega | (simp [hg, hn, hlc, hL3, hL4] <;> fail) | assumption) [hg, hlt, wV, hX, hw1, hw2, hpos, hpos']
        exact ⟨k + 1, by simp, by omega, by omega⟩
    · obtain rfl : k = ws.length := by omega
      have hk0 : ¬ ws.length = 0 := by simpa using hws
      simp only [ob7, if_neg hk0]
      simp -implicitDefEqProofs (disch := first | omega | (simp [hg, hn, hlc] <;> fail) | assumption) [hg, wV]
  exact hin
def LineC7 (g : St → Option (List AV × List (Nat × Obj))) : Prop := ∀ gs rest ws l L t (o : Obj), GsOk gs → RestOk rest → nmRows kt_buf o.rows = true → lcRows kt_buf o.rows = true → (L = nV l ∨ (l = [] ∧ L = .nil 1)) → ws.length ≤ 3 → (∀ w ∈ ws, w.length ≤ 20) → l.length ≤ 10 → (∀ n ∈ l, InI64 n) → t.length ≤ 700000 → t ≠ [] → ws ≠ [] →
  g ⟨(0, .loc kB 0 0) :: (1, wV ws) :: (2, L) :: gs, (7, o) :: bOb t rest⟩ = some ([], bOb (t ++ lineT ws l) ((7, o) :: rest))
theorem show_line_run7 (Γ : Env) (M : Nat) (hM : 100 < M) (hw : WrC (Γ.pt 79)) (hw7 : WrC7 (Γ.pt 79)) (hof : Of (Γ 50)) : LineC7 (runP Γ M show_line_f) := by
  intro gs rest ws l L t o hgs hr ho1 ho2 hL hl hI hll hlI ht hne hws
  obtain ⟨hg, hn, hlc⟩ := id hgs
  have hLL : (∃ l : List Int, L = nV l) ∨ L = .nil 1 := by rcases hL with h | ⟨_, h⟩; exact .inl ⟨l, h⟩; exact .inr h
  have l2 := line_l27 Γ M hM hw hw7 o ho1 ho2 gs rest hgs hr ws L hLL hl hI t (by omega) hne hws ⟨(0, .loc kB 0 0) :: (2, L) :: (10, wV ws) :: (11, i64 ws.length) :: (12, i64 (0 : Nat)) :: gs, (7, o) :: bOb t rest⟩ (by simp [hg])
  have hjl := joinW_len ws hI
  have hT : t ++ joinW ws ≠ [] := by simp [hne]
  have hTl : (t ++ joinW ws).length ≤ 800000 := by simp only [List.length_append]; omega
  obtain ⟨T, hTT⟩ : ∃ T, t ++ joinW ws = T := ⟨_, rfl⟩
  have hfin : t ++ lineT ws l = T ++ numsT l ++ [10] := by rw [← hTT]; simp [lineT]
  rw [hTT] at l2 hT hTl
  rw [hfin]
  have hnl := numsT_len l
  have hw1 := fun gs h => hw gs ((7, o) :: rest) (T ++ numsT l) [10] h (hr.seven ho1 ho2) (.inr (by simp)) (by simp; omega)
  simp [gsOk_iff] at hw1
  have l1 := line_l1 Γ M hM hw hof gs ((7, o) :: rest) hgs (hr.seven ho1 ho2) l L hL hll hlI T (by omega) hT ⟨(0, .loc kB 0 0) :: (25, L) :: (26, i64 l.length) :: (27, i64 (0 : Nat)) :: gs, bOb T ((7, o) :: rest)⟩ (by simp [hg])
  simp [wV] at l2
  rcases hL with rfl | ⟨rfl, rfl⟩
  · simp [nV] at l1 l2
    simp -implicitDefEqProofs (disch := first | omega | (simp [hg, hn, hlc] <;> fail) | assumption) [hg, wV, nV, l1, l2, hw1]
  · simp at l1 l2
    simp -implicitDefEqProofs (disch := first | omega | (simp [hg, hn, hlc] <;> fail) | assumption) [hg, wV, l1, l2, hw1]
end Go.Am
