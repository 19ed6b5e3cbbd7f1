/- Law 66: what happens in a log: the walks. -/
import Derived.Test.YtkjlejpaajcahaaStP
set_option linter.unusedVariables false
set_option linter.unusedSimpArgs false
set_option maxRecDepth 10000
set_option maxHeartbeats 2000000
namespace Go.Am
def tripE (t : Trip) : List Ev := [⟨t.arrive, 1, 0, t.id⟩] ++ (if 0 ≤ t.board then [⟨t.board, 4, t.car, t.id⟩] else []) ++ (if 0 ≤ t.alight then [⟨t.alight, 3, t.car, t.id⟩] else [])
def spanE (H : Int) (i : Nat) (s : Sp) : List Ev := [⟨s.1, 2, i, 0⟩] ++ (if s.2 < H then [⟨s.2, 5, i, 0⟩] else [])
def legE (H : Int) (i : Nat) (l : List Leg) : List Ev := (trk H [] l).flatMap (spanE H i)
def legsE (H : Int) : Nat → List (List Leg) → List Ev
  | _, [] => []
  | i, l :: r => legE H i l ++ legsE H (i + 1) r
theorem legsE_snoc (H : Int) (l : List Leg) : ∀ (a : List (List Leg)) (i : Nat), legsE H i (a ++ [l]) = legsE H i a ++ legE H (i + a.length) l
  | [], i => by simp [legsE]
  | x :: a, i => by
    rw [List.cons_append, legsE, legsE, legsE_snoc H l a (i + 1), List.append_assoc, List.length_cons, show i + 1 + a.length = i + (a.length + 1) by omega]
def evsT (ts : List Trip) : List Ev := ts.flatMap tripE
theorem flat_len {α β : Type} (f : α → List β) (n : Nat) (h : ∀ a, (f a).length ≤ n) : ∀ l : List α, (l.flatMap f).length ≤ n * l.length
  | [] => by simp
  | a :: l => by
    have := h a
    have := flat_len f n h l
    simp only [List.flatMap_cons, List.length_append, List.length_cons, Nat.mul_add, Nat.mul_one]
    omega
theorem tripE_len (t : Trip) : (tripE t).length ≤ 3 := by unfold tripE; split <;> split <;> simp
theorem spanE_len (H : Int) (i : Nat) (s : Sp) : (spanE H i s).length ≤ 2 := by unfold spanE; split <;> simp
theorem evsT_len (ts : List Trip) : (evsT ts).length ≤ 3 * ts.length := flat_len tripE 3 tripE_len ts
theorem legE_len (H : Int) (i : Nat) (l : List Leg) (h : l.length ≤ 40) : (legE H i l).length ≤ 80 := by
  have h1 := flat_len (spanE H i) 2 (spanE_len H i) (trk H [] l)
  have h2 := trk_len H l []
  simp only [List.length_nil] at h2
  unfold legE; omega
theorem legsE_len (H : Int) : ∀ (ls : List (List Leg)) (i : Nat), (∀ l ∈ ls, l.length ≤ 40) → (legsE H i ls).length ≤ 80 * ls.length
  | [], i, h => by simp [legsE]
  | l :: r, i, h => by
    have h1 := legE_len H i l (h l (by simp))
    have h2 := legsE_len H r (i + 1) fun x hx => h x (by simp [hx])
    simp only [legsE, List.length_append, List.length_cons]; omega
theorem evsT_snoc (ts : List Trip) {k : Nat} (h : k < ts.length) : evsT (ts.take (k + 1)) = evsT (ts.take k) ++ tripE ts[k] := by
  unfold evsT; rw [List.take_succ_eq_append_getElem h, List.flatMap_append]; simp
abbrev dL (l : List Leg) : D := .vs 4 (l.map Leg.cells)
abbrev vT (l : List Trip) : AV := .c (.vs 7 (l.map Trip.cells))
abbrev logD (ts : List Trip) (ls : List (List Leg)) (u : Int) : List D := [.vs 7 (ts.map Trip.cells), .vs 1 (ls.map fun l => [dL l]), .int .i64 u]
def OfC66 (srt : Bool) (g : List AV → Option (List AV)) : Prop := ∀ (ts : List Trip) (ls : List (List Leg)) (u H : Int), ts.length ≤ 100 → ls.length ≤ 10 → (∀ l ∈ ls, WayI l) → (∀ l ∈ ls, ∀ x ∈ l.head?, H - x.tick ≤ 300) → (-1 ≤ H ∧ H ≤ 1073741824) → g [.agg (logD ts ls u), i64 H] = some [vE (srtE (evsT ts ++ legsE H 0 ls))]
theorem story_Of_run (Γ : Env) (M : Nat) (hM : 1000 < M) (hD : DrsC (Γ 294)) (hS : SsfC fv_story_Compare (Γ.pt 293)) : OfC66 true (run Γ M story_Of_f) := by
  intro ts ls u H hts hls hw hh hH
  obtain ⟨ax, s', ⟨rfl, rfl⟩, hin⟩ : ∃ ax s', (ax = .ex 0 ∧ s' = ⟨[(1, i64 H), (2, .loc 2 0 0), (5, .sl 5 (evsT ts).length 0 (evsT ts).length)], [(5, ⟨4, evR (evsT ts)⟩), (2, ⟨3, [toAV (logD ts ls u)]⟩)]⟩) ∧ ∀ s0, nrmP [1, 2, 5, 13, 14, 15] 0 1000 [2, 5, 26, 39, 52, 76, 87] s0 = ⟨[(1, i64 H), (2, .loc 2 0 0), (5, .sl 5 0 0 0), (13, vT ts), (14, i64 ts.length), (15, i64 (0 : Nat))], [(5, ⟨4, evR (evsT (ts.take 0))⟩), (2, ⟨3, [toAV (logD ts ls u)]⟩)]⟩ → lp (exec Γ M story_Of_l3) M s0 = some (ax, s') := by
    refine lp_allP (fun q : Nat => ⟨[(1, i64 H), (2, .loc 2 0 0), (5, .sl 5 (evsT (ts.take q)).length 0 (evsT (ts.take q)).length), (13, vT ts), (14, i64 ts.length), (15, i64 q)], [(5, ⟨4, evR (evsT (ts.take q))⟩), (2, ⟨3, [toAV (logD ts ls u)]⟩)]⟩) (fun q => q ≤ ts.length) (fun q => ts.length - q) _ 0 M (by simp) (by omega) ?_
    intro k hk
    by_cases hlt : k < ts.length
    · obtain ⟨t, ht⟩ : ∃ w, ts[k]'hlt = w := ⟨_, rfl⟩
      have hrow : (ts.map Trip.cells)[k]? = some t.cells := by simp [hlt, ht]
      have hsn := evsT_snoc ts hlt
      rw [ht] at hsn
      have hl2 := evsT_len (ts.take k)
      have hl3 : (ts.take k).length ≤ 100 := by simp; omega
      obtain ⟨X, hX⟩ : ∃ X, evsT (ts.take k) = X := ⟨_, rfl⟩
      rw [hX] at hsn hl2 ⊢
      by_cases c1 : 0 ≤ t.board
      · by_cases c2 : 0 ≤ t.alight
        · simp -implicitDefEqProofs (disch := first | omega | (simp <;> fail) | assumption) [-List.append_assoc, hlt, hrow, Trip.cells, c1, c2, evR_snoc, evR_len, nmEv, lcEv]
          exact ⟨k + 1, ⟨⟨by rw [hsn]; simp [tripE, c1, c2], by omega⟩, by rw [hsn]; simp [tripE, c1, c2]⟩, by omega, by omega⟩
        · simp -implicitDefEqProofs (disch := first | omega | (simp <;> fail) | assumption) [-List.append_assoc, hlt, hrow, Trip.cells, c1, c2, evR_snoc, evR_len, nmEv, lcEv]
          exact ⟨k + 1, ⟨⟨by rw [hsn]; simp [tripE, c1, c2], by omega⟩, by rw [hsn]; simp [tripE, c1, c2]⟩, by omega, by omega⟩
      · by_cases c2 : 0 ≤ t.alight
        · simp -implicitDefEqProofs (disch := first | omega | (simp <;> fail) | assumption) [-List.append_assoc, hlt, hrow, Trip.cells, c1, c2, evR_snoc, evR_len, nmEv, lcEv]
          exact ⟨k + 1, ⟨⟨by rw [hsn]; simp [tripE, c1, c2], by omega⟩, by rw [hsn]; simp [tripE, c1, c2]⟩, by omega, by omega⟩
        · simp -implicitDefEqProofs (disch := first | omega | (simp <;> fail) | assumption) [-List.append_assoc, hlt, hrow, Trip.cells, c1, c2, evR_snoc, evR_len, nmEv, lcEv]
          exact ⟨k + 1, ⟨⟨by rw [hsn]; simp [tripE, c1, c2], by omega⟩, by rw [hsn]; simp [tripE, c1, c2]⟩, by omega, by omega⟩
    · obtain rfl : k = ts.length := by omega
      have htk : ts.take ts.length = ts := List.take_length
      rw [htk]
      simp -implicitDefEqProofs (disch := first | omega | (simp <;> fail) | assumption) [evR_len, nmEv, lcEv]
  have inner : ∀ (R : List Sp) (X : List Ev) (i : Nat), R.length ≤ 40 → X.length ≤ 2000 → i ≤ 10 → ∀ s0, nrmP [1, 5, 8, 55, 56, 57, 64, 65, 66] 0 1000 [5, 26, 39, 52, 76, 87] s0 = ⟨[(1, i64 H), (5, .sl 5 X.length 0 X.length), (8, i64 i), (55, .c (.vs 1 (ls.map fun l => [dL l]))), (56, i64 ls.length), (57, i64 i), (64, vS R), (65, i64 R.length), (66, i64 (0 : Nat))], [(5, ⟨4, evR X⟩)]⟩ → lp (exec Γ M story_Of_l1) M s0 = some (.ex 4, ⟨[(1, i64 H), (5, .sl 5 (X ++ R.flatMap (spanE H i)).length 0 (X ++ R.flatMap (spanE H i)).length), (55, .c (.vs 1 (ls.map fun l => [dL l]))), (56, i64 ls.length), (57, i64 i)], [(5, ⟨4, evR (X ++ R.flatMap (spanE H i))⟩)]⟩) := by
    intro R X i hR hX hi
    obtain ⟨F, hF⟩ : ∃ F : Nat → List Ev, ∀ q, F q = X ++ (R.take q).flatMap (spanE H i) := ⟨_, fun _ => rfl⟩
    have hF0 : F 0 = X := by rw [hF]; simp
    have hFe : F R.length = X ++ R.flatMap (spanE H i) := by rw [hF, List.take_length]
    rw [← hFe]
    obtain ⟨ax, s', ⟨rfl, rfl⟩, hin⟩ : ∃ ax s', (ax = .ex 4 ∧ s' = ⟨[(1, i64 H), (5, .sl 5 (F R.length).length 0 (F R.length).length), (55, .c (.vs 1 (ls.map fun l => [dL l]))), (56, i64 ls.length), (57, i64 i)], [(5, ⟨4, evR (F R.length)⟩)]⟩) ∧ ∀ s0, nrmP [1, 5, 8, 55, 56, 57, 64, 65, 66] 0 1000 [5, 26, 39, 52, 76, 87] s0 = ⟨[(1, i64 H), (5, .sl 5 (F 0).length 0 (F 0).length), (8, i64 i), (55, .c (.vs 1 (ls.map fun l => [dL l]))), (56, i64 ls.length), (57, i64 i), (64, vS R), (65, i64 R.length), (66, i64 (0 : Nat))], [(5, ⟨4, evR (F 0)⟩)]⟩ → lp (exec Γ M story_Of_l1) M s0 = some (ax, s') := by
      refine lp_allP (fun q : Nat => ⟨[(1, i64 H), (5, .sl 5 (F q).length 0 (F q).length), (8, i64 i), (55, .c (.vs 1 (ls.map fun l => [dL l]))), (56, i64 ls.length), (57, i64 i), (64, vS R), (65, i64 R.length), (66, i64 q)], [(5, ⟨4, evR (F q)⟩)]⟩) (fun q => q ≤ R.length) (fun q => R.length - q) _ 0 M (by simp) (by omega) ?_
      intro k hk
      by_cases hlt : k < R.length
      · obtain ⟨⟨a, b⟩, ht⟩ : ∃ w, R[k]'hlt = w := ⟨_, rfl⟩
        have hrow : (R.map Sp.cells)[k]? = some [.int .i64 a, .int .i64 b] := by simp [hlt, ht, Sp.cells]
        have hsn : F (k + 1) = F k ++ spanE H i (a, b) := by
          rw [hF, hF, List.take_succ_eq_append_getElem hlt, List.flatMap_append, ht]; simp
        have hl2 := flat_len (spanE H i) 2 (spanE_len H i) (R.take k)
        have hl3 : (R.take k).length ≤ 40 := by simp; omega
        have hl4 : (F k).length ≤ 2100 := by rw [hF]; simp only [List.length_append]; omega
        by_cases c1 : b < H
        · simp -implicitDefEqProofs (disch := first | omega | (simp <;> fail) | assumption) [-List.append_assoc, hlt, ht, hrow, Sp.cells, c1, evR_snoc, evR_len, nmEv, lcEv]
          exact ⟨k + 1, ⟨⟨by rw [hsn]; simp [spanE, c1], by omega⟩, by rw [hsn]; simp [spanE, c1]⟩, by omega, by omega⟩
        · simp -implicitDefEqProofs (disch := first | omega | (simp <;> fail) | assumption) [-List.append_assoc, hlt, ht, hrow, Sp.cells, c1, evR_snoc, evR_len, nmEv, lcEv]
          exact ⟨k + 1, ⟨⟨by rw [hsn]; simp [spanE, c1], by omega⟩, by rw [hsn]; simp [spanE, c1]⟩, by omega, by omega⟩
      · obtain rfl : k = R.length := by omega
        simp -implicitDefEqProofs (disch := first | omega | (simp <;> fail) | assumption) [evR_len, nmEv, lcEv]
    rw [hF0] at hin
    exact hin
  obtain ⟨F, hF⟩ : ∃ F : Nat → List Ev, ∀ q, F q = evsT ts ++ legsE H 0 (ls.take q) := ⟨_, fun _ => rfl⟩
  have hF0 : F 0 = evsT ts := by rw [hF]; simp [legsE]
  have hFe : F ls.length = evsT ts ++ legsE H 0 ls := by rw [hF, List.take_length]
  have hFl : ∀ q, (F q).length ≤ 1100 := by
    intro q
    have h1 := legsE_len H (ls.take q) 0 fun l hl => (hw l (List.mem_of_mem_take hl)).few
    have h2 := evsT_len ts
    have h3 : (ls.take q).length ≤ 10 := by simp; omega
    rw [hF]; simp only [List.length_append]; omega
  rw [← hFe]
  obtain ⟨ax, s', ⟨rfl, rfl⟩, hin2⟩ : ∃ ax s', (ax = .ex 2 ∧ s' = ⟨[(5, .sl 5 (F ls.length).length 0 (F ls.length).length)], [(5, ⟨4, evR (F ls.length)⟩)]⟩) ∧ ∀ s0, nrmP [1, 5, 55, 56, 57] 0 1000 [5, 26, 39, 52, 76, 87] s0 = ⟨[(1, i64 H), (5, .sl 5 (F 0).length 0 (F 0).length), (55, .c (.vs 1 (ls.map fun l => [dL l]))), (56, i64 ls.length), (57, i64 (0 : Nat))], [(5, ⟨4, evR (F 0)⟩)]⟩ → lp (exec Γ M story_Of_l2) M s0 = some (ax, s') := by
    refine lp_allP (fun q : Nat => ⟨[(1, i64 H), (5, .sl 5 (F q).length 0 (F q).length), (55, .c (.vs 1 (ls.map fun l => [dL l]))), (56, i64 ls.length), (57, i64 q)], [(5, ⟨4, evR (F q)⟩)]⟩) (fun q => q ≤ ls.length) (fun q => ls.length - q) _ 0 M (by simp) (by omega) ?_
    intro k hk
    by_cases hlt : k < ls.length
    · obtain ⟨l, hl⟩ : ∃ w, ls[k]'hlt = w := ⟨_, rfl⟩
      have hlm : l ∈ ls := by rw [← hl]; exact List.getElem_mem hlt
      have hrow : (ls.map fun l => [dL l])[k]? = some [dL l] := by simp [hlt, hl]
      have e := hD l H (hw l hlm) hH
      have hR : (trk H [] l).length ≤ 40 := by have := trk_len H l []; have := (hw l hlm).few; simp at *; omega
      have hsn : F (k + 1) = F k ++ (trk H [] l).flatMap (spanE H k) := by
        rw [hF, hF, List.take_succ_eq_append_getElem hlt, legsE_snoc, hl, Nat.zero_add, show (ls.take k).length = k by simp; omega, List.append_assoc]; rfl
      have hfl := hFl k
      have hi := inner (trk H [] l) (F k) k hR (by omega) (by omega)
      generalize trk H [] l = R at *
      rw [← hsn] at hi
      have hi2 := hi ⟨[(1, i64 H), (5, .sl 5 (F k).length 0 (F k).length), (8, i64 k), (55, .c (.vs 1 (ls.map fun l => [dL l]))), (56, i64 ls.length), (57, i64 k), (64, vS R), (65, i64 R.length), (66, i64 0)], [(5, ⟨4, evR (F k)⟩)]⟩ (by
        simp -implicitDefEqProofs (disch := first | omega | (simp <;> fail) | assumption))
      simp -implicitDefEqProofs (disch := first | omega | (simp <;> fail) | assumption) [hlt, hl, hrow, e, hi2]
      exact ⟨k + 1, ⟨⟨rfl, by omega⟩, rfl⟩, by omega, by omega⟩
    · obtain rfl : k = ls.length := by omega
      simp -implicitDefEqProofs (disch := first | omega | (simp <;> fail) | assumption)
  have h1 := hin ⟨[(1, i64 H), (2, .loc 2 0 0), (5, .sl 5 0 0 0), (13, vT ts), (14, i64 ts.length), (15, i64 0)], [(5, ⟨4, []⟩), (2, ⟨3, [[.c (.vs 7 (ts.map Trip.cells)), .c (.vs 1 (ls.map fun l => [dL l])), i64 u]]⟩)]⟩ (by
    simp -implicitDefEqProofs (disch := first | omega | (simp <;> fail) | assumption) [evR, evsT])
  have h2 := hin2 ⟨[(1, i64 H), (5, .sl 5 (F 0).length 0 (F 0).length), (55, .c (.vs 1 (ls.map fun l => [dL l]))), (56, i64 ls.length), (57, i64 0)], [(5, ⟨4, evR (F 0)⟩)]⟩ (by
    simp -implicitDefEqProofs (disch := first | omega | (simp <;> fail) | assumption))
  rw [hF0] at h2
  have hfl := hFl ls.length
  have e := fun gs hg => hS 5 (F ls.length) (F ls.length).length gs [] hg rfl rfl (by omega)
  generalize F ls.length = L at *
  have hl := srtE_len L
  generalize evsT ts = X at *
  simp -implicitDefEqProofs (disch := first | omega | (simp <;> fail) | assumption) [h1, h2, e, allE, evR_len, hl]
  rw [List.take_of_length_le (by simp [hl])]
end Go.Am
