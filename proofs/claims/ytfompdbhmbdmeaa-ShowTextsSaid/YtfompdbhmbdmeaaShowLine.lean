/- Law 27: a line. -/
import Derived.Test.YtfompdbhmbdmeaaShow
set_option linter.unusedVariables false
set_option linter.unusedSimpArgs false
set_option maxRecDepth 10000
set_option maxHeartbeats 1000000
namespace Go.Am
theorem gsOk_iff (gs : List (Nat × AV)) : GsOk gs ↔ (Gh gs ∧ nmFr kt_buf gs = true ∧ lcFr kt_buf gs = true) := ⟨fun h => ⟨h.1, h.2, h.3⟩, fun h => ⟨h.1, h.2.1, h.2.2⟩⟩
theorem nmFr_gho (k : Nat) : ∀ gs : List (Nat × AV), nmFr k (gho gs) = nmFr k gs
  | [] => rfl
  | (i, v) :: r => by simp only [gho, nmFr, nmFr_gho k r]
theorem lcFr_gho (k : Nat) : ∀ gs : List (Nat × AV), lcFr k (gho gs) = lcFr k gs
  | [] => rfl
  | (i, v) :: r => by simp only [gho, lcFr, lcFr_gho k r]
attribute [simp] nmFr_gho lcFr_gho
/-- Words with blanks between. -/
def joinW : List (List UInt8) → List UInt8
  | [] => []
  | [w] => w
  | w :: r => w ++ 32 :: joinW r
def numsT : List Int → List UInt8
  | [] => []
  | n :: r => 32 :: txt n ++ numsT r
def lineT (ws : List (List UInt8)) (l : List Int) : List UInt8 := joinW ws ++ numsT l ++ [10]
def wV (ws : List (List UInt8)) : AV := .c (.vs 1 (ws.map fun w => [.str w]))
def nV (l : List Int) : AV := .c (.vs 1 (l.map fun n => [.int .i64 n]))
theorem numsT_app (a b : List Int) : numsT (a ++ b) = numsT a ++ numsT b := by
  induction a with
  | nil => rfl
  | cons x a ih => simp [numsT, ih]
theorem numsT_len (l : List Int) : (numsT l).length ≤ 30 * l.length := by
  induction l with
  | nil => simp [numsT]
  | cons x a ih =>
    have : (txt x).length ≤ 21 := by
      unfold txt; split
      · have := dig_len (-x); simp; omega
      · have := dig_len x; omega
    simp [numsT]; omega
/-- The second loop. -/
theorem line_l1 (Γ : Env) (M : Nat) (hM : 100 < M) (hw : WrC (Γ.pt 79)) (hof : Of (Γ 50)) (gs : List (Nat × AV)) (rest : List (Nat × Obj)) (hgs : GsOk gs) (hr : RestOk rest) (l : List Int) (V : AV) (hV : V = nV l ∨ (l = [] ∧ V = .nil 1)) (hl : l.length ≤ 10) (hI : ∀ n ∈ l, InI64 n) (t : List UInt8) (ht : t.length ≤ 900000) (htn : t ≠ []) :
    ∀ s0, nrmP [0, 25, 26, 27] 0 0 [] s0 = ⟨(0, .loc kB 0 0) :: (25, V) :: (26, i64 l.length) :: (27, i64 (0 : Nat)) :: gs, bOb t rest⟩ →
      lp (exec Γ M show_line_l1) M s0 = some (.ex 2, ⟨(0, .loc kB 0 0) :: gs, bOb (t ++ numsT l) rest⟩) := by
  obtain ⟨hg, hn, hlc⟩ := id hgs
  obtain ⟨ax, s', ⟨rfl, rfl⟩, hin⟩ : ∃ ax s', (ax = .ex 2 ∧ s' = ⟨(0, .loc kB 0 0) :: gs, bOb (t ++ numsT l) rest⟩) ∧ ∀ s0, nrmP [0, 25, 26, 27] 0 0 [] s0 = ⟨(0, .loc kB 0 0) :: (25, V) :: (26, i64 l.length) :: (27, i64 (0 : Nat)) :: gs, bOb (t ++ numsT (l.take 0)) rest⟩ → lp (exec Γ M show_line_l1) M s0 = some (ax, s') := by
    refine lp_allP (fun k : Nat => ⟨(0, .loc kB 0 0) :: (25, V) :: (26, i64 l.length) :: (27, i64 k) :: gs, bOb (t ++ numsT (l.take k)) rest⟩) (fun k => k ≤ l.length) (fun k => l.length - k) _ 0 M (by omega) (by omega) ?_
    intro k hk
    by_cases hlt : k < l.length
    · obtain rfl : V = nV l := by
        rcases hV with h | ⟨h, _⟩
        · exact h
        · subst h; simp at hlt
      have e50 := hof l[k] (hI _ (List.getElem_mem hlt))
      have hlen := numsT_len (l.take k)
      have hlk : (l.take k).length ≤ 10 := by simp; omega
      have hT : t ++ numsT (l.take k) ≠ [] := by simp [htn]
      have hTl : (t ++ numsT (l.take k)).length ≤ 990000 := by simp; omega
      have hnext : (t ++ numsT (l.take k)) ++ [32] ++ txt l[k] = t ++ numsT (l.take (k + 1)) := by
        rw [List.take_succ_eq_append_getElem hlt, numsT_app]; simp [numsT]
      obtain ⟨T, hTT⟩ : ∃ T, t ++ numsT (l.take k) = T := ⟨_, rfl⟩
      rw [hTT] at hT hTl hnext ⊢
      have htx : (txt l[k]).length ≤ 21 := by
        unfold txt; split
        · have := dig_len (-l[k]); simp; omega
        · have := dig_len l[k]; omega
      obtain ⟨X, hX⟩ : ∃ X, txt l[k] = X := ⟨_, rfl⟩
      rw [hX] at e50 htx hnext
      have hw1 := fun gs h => hw gs rest T [32] h hr (.inl hT) (by simp; omega)
      have hw2 := fun gs h => hw gs rest (T ++ [32]) X h hr (.inl (by simp)) (by simp; omega)
      rw [hnext] at hw2
      simp [gsOk_iff] at hw1 hw2
      simp -implicitDefEqProofs (disch := first | omega | (simp [hg, hn, hlc] <;> fail) | assumption) [hg, hlt, nV, e50, hw1, hw2]
      exact ⟨k + 1, by simp, by omega, by omega⟩
    · obtain rfl : k = l.length := by omega
      simp -implicitDefEqProofs (disch := first | omega | (simp [hg, hn, hlc] <;> fail) | assumption) [hg, nV]
  have e0 : t ++ numsT (l.take 0) = t := by simp [numsT]
  rw [e0] at hin
  exact hin
theorem joinW_snoc (w : List UInt8) : ∀ ws : List (List UInt8), ws ≠ [] → joinW (ws ++ [w]) = joinW ws ++ [32] ++ w
  | [], h => (h rfl).elim
  | [a], _ => by simp [joinW]
  | a :: b :: r, _ => by
    have := joinW_snoc w (b :: r) (by simp)
    simp only [List.cons_append] at this ⊢
    simp only [joinW, this]; simp
theorem joinW_len : ∀ ws : List (List UInt8), (∀ w ∈ ws, w.length ≤ 20) → (joinW ws).length ≤ 21 * ws.length
  | [], _ => by simp [joinW]
  | [a], h => by have := h a (by simp); simp [joinW]; omega
  | a :: b :: r, h => by
    have h1 := h a (by simp)
    have := joinW_len (b :: r) (fun w hw => h w (by simp [hw]))
    simp only [joinW, List.length_append, List.length_cons] at this ⊢; omega
/-- The first loop. -/
theorem line_l2 (Γ : Env) (M : Nat) (hM : 100 < M) (hw : WrC (Γ.pt 79)) (gs : List (Nat × AV)) (rest : List (Nat × Obj)) (hgs : GsOk gs) (hr : RestOk rest) (ws : List (List UInt8)) (L : AV) (hL : (∃ l : List Int, L = nV l) ∨ L = .nil 1) (hl : ws.length ≤ 3) (hI : ∀ w ∈ ws, w.length ≤ 20) (t : List UInt8) (ht : t.length ≤ 800000) (htn : t ≠ [] ∨ ∃ w r, ws = w :: r ∧ w ≠ []) :
    ∀ s0, nrmP [0, 2, 10, 11, 12] 0 0 [] s0 = ⟨(0, .loc kB 0 0) :: (2, L) :: (10, wV ws) :: (11, i64 ws.length) :: (12, i64 (0 : Nat)) :: gs, bOb t rest⟩ →
      lp (exec Γ M show_line_l2) M s0 = some (.ex 0, ⟨(0, .loc kB 0 0) :: (2, L) :: gs, bOb (t ++ joinW ws) rest⟩) := by
  obtain ⟨hg, hn, hlc⟩ := id hgs
  have hL3 : L.names kt_buf = false := by rcases hL with ⟨l, rfl⟩ | rfl <;> simp [nV]
  have hL4 : L.isLoc kt_buf = false := by rcases hL with ⟨l, rfl⟩ | rfl <;> simp [nV]
  obtain ⟨ax, s', ⟨rfl, rfl⟩, hin⟩ : ∃ ax s', (ax = .ex 0 ∧ s' = ⟨(0, .loc kB 0 0) :: (2, L) :: gs, bOb (t ++ joinW ws) rest⟩) ∧ ∀ s0, nrmP [0, 2, 10, 11, 12] 0 0 [] s0 = ⟨(0, .loc kB 0 0) :: (2, L) :: (10, wV ws) :: (11, i64 ws.length) :: (12, i64 (0 : Nat)) :: gs, bOb (t ++ joinW (ws.take 0)) rest⟩ → lp (exec Γ M show_line_l2) M s0 = some (ax, s') := by
    refine lp_allP (fun k : Nat => ⟨(0, .loc kB 0 0) :: (2, L) :: (10, wV ws) :: (11, i64 ws.length) :: (12, i64 k) :: gs, bOb (t ++ joinW (ws.take k)) rest⟩) (fun k => k ≤ ws.length) (fun k => ws.length - k) _ 0 M (by omega) (by omega) ?_
    intro k hk
    by_cases hlt : k < ws.length
    · have hlen := joinW_len (ws.take k) (fun w hw => hI w (List.mem_of_mem_take hw))
      have hlk : (ws.take k).length ≤ 3 := by simp; omega
      have hwk := hI ws[k] (List.getElem_mem hlt)
      obtain ⟨X, hX⟩ : ∃ X, ws[k] = X := ⟨_, rfl⟩
      have hTl : (t ++ joinW (ws.take k)).length ≤ 890000 := by simp; omega
      rcases Nat.eq_zero_or_pos k with rfl | hpos
      · have hne : t ≠ [] ∨ X ≠ [] := by
          rcases htn with h | ⟨w, r, hh, h⟩
          · exact .inl h
          · right; rw [← hX]; subst hh; simpa using h
        have hnext : t ++ X = t ++ joinW (ws.take (0 + 1)) := by
          rw [List.take_succ_eq_append_getElem hlt, hX]; simp [joinW]
        rw [hX] at hwk
        have hw1 := fun gs h => hw gs rest t X h hr hne (by omega)
        rw [hnext] at hw1
        simp [gsOk_iff] at hw1
        have e0 : t ++ joinW (ws.take 0) = t := by simp [joinW]
        rw [e0]
        simp -implicitDefEqProofs (disch := first | omega | (simp [hg, hn, hlc, hL3, hL4] <;> fail) | assumption) [hg, hlt, wV, hX, hw1]
        exact ⟨1, by simp, by omega, by omega⟩
      · have hne : ws.take k ≠ [] := by
          intro h
          rw [List.take_eq_nil_iff] at h
          rcases h with h | h
          · omega
          · subst h; simp at hlt
        have hnext : (t ++ joinW (ws.take k)) ++ [32] ++ X = t ++ joinW (ws.take (k + 1)) := by
          rw [List.take_succ_eq_append_getElem hlt, joinW_snoc _ _ hne, hX]; simp
        obtain ⟨T, hTT⟩ : ∃ T, t ++ joinW (ws.take k) = T := ⟨_, rfl⟩
        rw [hTT] at hTl hnext ⊢
        rw [hX] at hwk
        have hpos' : (0 : Int) < k := by omega
        have hw1 := fun gs h => hw gs rest T [32] h hr (.inr (by simp)) (by simp; omega)
        have hw2 := fun gs h => hw gs rest (T ++ [32]) X h hr (.inl (by simp)) (by simp; omega)
        rw [hnext] at hw2
        simp [gsOk_iff] at hw1 hw2
        simp -implicitDefEqProofs (disch := first | omega | (simp [hg, hn, hlc, hL3, hL4] <;> fail) | assumption) [hg, hlt, wV, hX, hw1, hw2, hpos, hpos']
        exact ⟨k + 1, by simp, by omega, by omega⟩
    · obtain rfl : k = ws.length := by omega
      simp -implicitDefEqProofs (disch := first | omega | (simp [hg, hn, hlc] <;> fail) | assumption) [hg, wV]
  have e0 : t ++ joinW (ws.take 0) = t := by simp [joinW]
  rw [e0] at hin
  exact hin
def LineC (g : St → Option (List AV × List (Nat × Obj))) : Prop := ∀ gs rest ws l L t, GsOk gs → RestOk rest → (L = nV l ∨ (l = [] ∧ L = .nil 1)) → ws.length ≤ 3 → (∀ w ∈ ws, w.length ≤ 20) → l.length ≤ 10 → (∀ n ∈ l, InI64 n) → t.length ≤ 700000 → (∃ w r, ws = w :: r ∧ (t ≠ [] ∨ w ≠ [])) →
  g ⟨(0, .loc kB 0 0) :: (1, wV ws) :: (2, L) :: gs, bOb t rest⟩ = some ([], bOb (t ++ lineT ws l) rest)
theorem show_line_run (Γ : Env) (M : Nat) (hM : 100 < M) (hw : WrC (Γ.pt 79)) (hof : Of (Γ 50)) : LineC (runP Γ M show_line_f) := by
  intro gs rest ws l L t hgs hr hL hl hI hll hlI ht hne
  obtain ⟨hg, hn, hlc⟩ := id hgs
  have hLL : (∃ l : List Int, L = nV l) ∨ L = .nil 1 := by rcases hL with h | ⟨_, h⟩; exact .inl ⟨l, h⟩; exact .inr h
  have hne1 : t ≠ [] ∨ ∃ w r, ws = w :: r ∧ w ≠ [] := by
    obtain ⟨w, r, h1, h2⟩ := hne
    rcases h2 with h2 | h2
    · exact .inl h2
    · exact .inr ⟨w, r, h1, h2⟩
  have l2 := line_l2 Γ M hM hw gs rest hgs hr ws L hLL hl hI t (by omega) hne1 ⟨(0, .loc kB 0 0) :: (2, L) :: (10, wV ws) :: (11, i64 ws.length) :: (12, i64 (0 : Nat)) :: gs, bOb t rest⟩ (by simp [hg])
  have hjl := joinW_len ws hI
  have hT : t ++ joinW ws ≠ [] := by
    obtain ⟨w, r, h1, h2⟩ := hne
    rcases h2 with h2 | h2
    · simp [h2]
    · subst h1; cases r <;> simp [joinW, h2]
  have hTl : (t ++ joinW ws).length ≤ 800000 := by simp only [List.length_append]; omega
  obtain ⟨T, hTT⟩ : ∃ T, t ++ joinW ws = T := ⟨_, rfl⟩
  have hfin : t ++ lineT ws l = T ++ numsT l ++ [10] := by rw [← hTT]; simp [lineT]
  rw [hTT] at l2 hT hTl
  rw [hfin]
  have hnl := numsT_len l
  have hw1 := fun gs h => hw gs rest (T ++ numsT l) [10] h hr (.inr (by simp)) (by simp; omega)
  simp [gsOk_iff] at hw1
  have l1 := line_l1 Γ M hM hw hof gs rest hgs hr l L hL hll hlI T (by omega) hT ⟨(0, .loc kB 0 0) :: (25, L) :: (26, i64 l.length) :: (27, i64 (0 : Nat)) :: gs, bOb T rest⟩ (by simp [hg])
  simp [wV] at l2
  rcases hL with rfl | ⟨rfl, rfl⟩
  · simp [nV] at l1 l2
    simp -implicitDefEqProofs (disch := first | omega | (simp [hg, hn, hlc] <;> fail) | assumption) [hg, wV, nV, l1, l2, hw1]
  · simp at l1 l2
    simp -implicitDefEqProofs (disch := first | omega | (simp [hg, hn, hlc] <;> fail) | assumption) [hg, wV, l1, l2, hw1]
end Go.Am
