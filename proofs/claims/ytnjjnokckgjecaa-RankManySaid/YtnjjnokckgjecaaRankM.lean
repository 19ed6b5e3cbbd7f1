/- Law 15: several percentiles; the ends. -/
import Derived.Test.YtnjjnokckgjecaaRankL
set_option linter.unusedVariables false
set_option linter.unusedSimpArgs false
set_option maxRecDepth 10000
set_option maxHeartbeats 2000000
namespace Go.Am
def minI : List Int → Int
  | [] => 0
  | x :: l => l.foldl min x
def maxI : List Int → Int
  | [] => 0
  | x :: l => l.foldl max x
theorem foldl_min_snoc (l : List Int) (x y : Int) : (l ++ [y]).foldl min x = min (l.foldl min x) y := by simp
theorem foldl_max_snoc (l : List Int) (x y : Int) : (l ++ [y]).foldl max x = max (l.foldl max x) y := by simp
def goodP (ps l : List Int) : Prop := ∀ p ∈ ps, 1 ≤ p ∧ p ≤ 100 ∧ l ≠ []
def MinC (g : List AV → Option (List AV)) : Prop := ∀ l : List Int, l ≠ [] → l.length ≤ 60000 → g [vI l] = some [i64 (minI l)]
def MaxC (g : List AV → Option (List AV)) : Prop := ∀ l : List Int, l ≠ [] → l.length ≤ 60000 → g [vI l] = some [i64 (maxI l)]
theorem min_run (Γ : Env) (M : Nat) (hM : 60000 < M) : MinC (run Γ M slices_Min_Sint_int_f) := by
  intro l hl hn
  obtain ⟨x, r, hxr⟩ := List.exists_cons_of_ne_nil hl
  have hlen : l.length = r.length + 1 := by rw [hxr]; rfl
  have h0 : (l[0]'(by omega)) = x := by simp only [hxr, List.getElem_cons_zero]
  obtain ⟨ax, s', ⟨rfl, rfl⟩, hin⟩ : ∃ ax s', (ax = .ex 0 ∧ s' = ⟨[(3, i64 (minI l))], []⟩) ∧ ∀ s0, nrm [0, 3, 4] [] s0 = ⟨[(0, vI l), (3, i64 x), (4, i64 (1 : Nat))], []⟩ → lp (exec Γ M slices_Min_Sint_int_l1) M s0 = some (ax, s') := by
    refine lp_all (fun q : Int × Nat => ⟨[(0, vI l), (3, i64 q.1), (4, i64 q.2)], []⟩) (fun q => 1 ≤ q.2 ∧ q.2 ≤ l.length ∧ q.1 = (r.take (q.2 - 1)).foldl min x) (fun q => l.length - q.2) _ (x, 1) M (by simp) ⟨by simp, by dsimp only; omega, by simp⟩ (by dsimp only; omega) ?_
    rintro ⟨c, k⟩ ⟨h1, h2, h3⟩
    dsimp only at h1 h2 h3 ⊢
    by_cases hlt : k < l.length
    · obtain ⟨j, rfl⟩ : ∃ j, k = j + 1 := ⟨k - 1, by omega⟩
      have hj : j < r.length := by omega
      obtain ⟨z, hz⟩ : ∃ z, l[j + 1]'hlt = z := ⟨_, rfl⟩
      have hz2 : r[j] = z := by rw [← hz]; simp only [hxr, List.getElem_cons_succ]
      have hs : (r.take (j + 1)).foldl min x = min c z := by
        rw [List.take_succ_eq_append_getElem hj, foldl_min_snoc, hz2, h3]; simp
      simp -implicitDefEqProofs (disch := first | omega | assumption) [hlt, hz, intD]
      refine ⟨_, j + 2, ⟨rfl, by omega⟩, ⟨by omega, by omega, ?_⟩, by omega⟩
      rw [show j + 2 - 1 = j + 1 by omega, hs]
      split <;> omega
    · obtain rfl : k = l.length := by omega
      have : minI l = c := by rw [h3, hxr]; simp [minI]
      simp -implicitDefEqProofs (disch := first | omega | assumption) [this]
  have hp : ¬ ((l.length : Int) < 1) := by omega
  simp -implicitDefEqProofs (disch := first | omega | (simp <;> fail) | assumption) [hp, hin, h0, intD]
theorem max_run (Γ : Env) (M : Nat) (hM : 60000 < M) : MaxC (run Γ M slices_Max_Sint_int_f) := by
  intro l hl hn
  obtain ⟨x, r, hxr⟩ := List.exists_cons_of_ne_nil hl
  have hlen : l.length = r.length + 1 := by rw [hxr]; rfl
  have h0 : (l[0]'(by omega)) = x := by simp only [hxr, List.getElem_cons_zero]
  obtain ⟨ax, s', ⟨rfl, rfl⟩, hin⟩ : ∃ ax s', (ax = .ex 0 ∧ s' = ⟨[(3, i64 (maxI l))], []⟩) ∧ ∀ s0, nrm [0, 3, 4] [] s0 = ⟨[(0, vI l), (3, i64 x), (4, i64 (1 : Nat))], []⟩ → lp (exec Γ M slices_Max_Sint_int_l1) M s0 = some (ax, s') := by
    refine lp_all (fun q : Int × Nat => ⟨[(0, vI l), (3, i64 q.1), (4, i64 q.2)], []⟩) (fun q => 1 ≤ q.2 ∧ q.2 ≤ l.length ∧ q.1 = (r.take (q.2 - 1)).foldl max x) (fun q => l.length - q.2) _ (x, 1) M (by simp) ⟨by simp, by dsimp only; omega, by simp⟩ (by dsimp only; omega) ?_
    rintro ⟨c, k⟩ ⟨h1, h2, h3⟩
    dsimp only at h1 h2 h3 ⊢
    by_cases hlt : k < l.length
    · obtain ⟨j, rfl⟩ : ∃ j, k = j + 1 := ⟨k - 1, by omega⟩
      have hj : j < r.length := by omega
      obtain ⟨z, hz⟩ : ∃ z, l[j + 1]'hlt = z := ⟨_, rfl⟩
      have hz2 : r[j] = z := by rw [← hz]; simp only [hxr, List.getElem_cons_succ]
      have hs : (r.take (j + 1)).foldl max x = max c z := by
        rw [List.take_succ_eq_append_getElem hj, foldl_max_snoc, hz2, h3]; simp
      simp -implicitDefEqProofs (disch := first | omega | assumption) [hlt, hz, intD]
      refine ⟨_, j + 2, ⟨rfl, by omega⟩, ⟨by omega, by omega, ?_⟩, by omega⟩
      rw [show j + 2 - 1 = j + 1 by omega, hs]
      split <;> omega
    · obtain rfl : k = l.length := by omega
      have : maxI l = c := by rw [h3, hxr]; simp [maxI]
      simp -implicitDefEqProofs (disch := first | omega | assumption) [this]
  have hp : ¬ ((l.length : Int) < 1) := by omega
  simp -implicitDefEqProofs (disch := first | omega | (simp <;> fail) | assumption) [hp, hin, h0, intD]
def ManyC (g : List AV → Option (List AV)) : Prop := ∀ ps l : List Int, AllI ps → ps.length ≤ 60 → l.length ≤ 60000 → ((goodP ps l ∧ g [vI ps, vI l] = some [vI (ps.map (ofP · l)), i64 0]) ∨ (¬ goodP ps l ∧ g [vI ps, vI l] = some [vI [], i64 22]))
theorem intRows_eq (l : List Int) : intRows l = l.map (toAV ∘ intD) := rfl
theorem intRows_snoc (l : List Int) (k : Nat) (h : k < l.length) : intRows (l.take k) ++ [[.c (.int .i64 l[k])]] = intRows (l.take (k + 1)) := by
  rw [List.take_succ_eq_append_getElem h]; simp only [intRows, List.map_append, List.map_cons, List.map_nil]
theorem rank_Many_run (Γ : Env) (M : Nat) (hM : 100 < M) (h252 : OfC15 (Γ 252)) : ManyC (run Γ M rank_Many_f) := by
  intro ps l hI hps hl
  obtain ⟨F, hF⟩ : ∃ F, ps.map (ofP · l) = F := ⟨_, rfl⟩
  have hFl : F.length = ps.length := by rw [← hF]; simp
  have hFg : ∀ (k : Nat) (h : k < ps.length), F[k]'(by omega) = ofP ps[k] l := fun k h => by simp [← hF]
  rw [hF]
  obtain ⟨ax, s', hR, hin⟩ : ∃ ax s', ((goodP ps l ∧ ax = .ex 0 ∧ s' = ⟨[(6, .sl 6 ps.length 0 ps.length)], [(6, ⟨1, intRows F⟩)]⟩) ∨ (¬ goodP ps l ∧ ax = .ret ∧ ∃ ob, s' = ⟨[(4, .nil 1), (5, i64 22)], ob⟩)) ∧ ∀ s0, nrm [1, 6, 11, 12, 13] [6, 29] s0 = ⟨[(1, vI l), (6, .sl 6 0 0 0), (11, vI ps), (12, i64 ps.length), (13, i64 (0 : Nat))], [(6, ⟨1, intRows (F.take 0)⟩)]⟩ → lp (exec Γ M rank_Many_l1) M s0 = some (ax, s') := by
    refine lp_all (fun q : Nat => ⟨[(1, vI l), (6, .sl 6 q 0 q), (11, vI ps), (12, i64 ps.length), (13, i64 q)], [(6, ⟨1, intRows (F.take q)⟩)]⟩) (fun q => q ≤ ps.length ∧ goodP (ps.take q) l) (fun q => ps.length - q) _ 0 M (by simp) ⟨by simp, by simp [goodP]⟩ (by omega) ?_
    rintro k ⟨h1, h2⟩
    have hrl : (intRows (F.take k)).length = k := by rw [intRows_length, List.length_take]; omega
    have hrc : lcRows 6 (intRows (F.take k)) = true := lcRows_comp 6 intD _
    by_cases hlt : k < ps.length
    · obtain ⟨z, hz⟩ : ∃ z, ps[k]'hlt = z := ⟨_, rfl⟩
      have hzm : z ∈ ps := by rw [← hz]; exact List.getElem_mem hlt
      have hzI : InI64 z := hI z hzm
      have e := h252 z l hzI hl
      have hs := intRows_snoc F k (by omega)
      rw [hFg k hlt, hz] at hs
      generalize hG : intRows (F.take k) = G at *
      by_cases c : 1 ≤ z ∧ z ≤ 100 ∧ l ≠ []
      · rw [if_pos c] at e
        have hg2 : goodP (ps.take (k + 1)) l := by
          rw [List.take_succ_eq_append_getElem hlt, hz]
          intro p hp
          simp only [List.mem_append, List.mem_singleton] at hp
          rcases hp with hp | rfl
          · exact h2 p hp
          · exact c
        simp -implicitDefEqProofs (disch := first | omega | assumption) [hlt, hz, intD, e, hrl, hrc, hs]
        exact ⟨k + 1, by simp, ⟨by omega, hg2⟩, by omega⟩
      · rw [if_neg c] at e
        have hng : ¬ goodP ps l := fun h => c (h z hzm)
        simp -implicitDefEqProofs (disch := first | omega | assumption) [hlt, hz, intD, e, hrl, hrc, hs]
        exact hng
    · obtain rfl : k = ps.length := by omega
      rw [List.take_length] at h2
      have hF2 : F.take ps.length = F := by rw [← hFl, List.take_length]
      rw [hF2]
      simp -implicitDefEqProofs (disch := first | omega | assumption) [h2]
  rcases hR with ⟨hg, rfl, rfl⟩ | ⟨hg, rfl, ob, rfl⟩
  · left
    refine ⟨hg, ?_⟩
    have h0 : F.take 0 = [] := rfl
    have hin := hin ⟨[(1, vI l), (6, .sl 6 0 0 0), (11, vI ps), (12, i64 ps.length), (13, i64 (0 : Nat))], [(6, ⟨1, []⟩)]⟩ (by simp [intRows])
    simp at hin
    have ha := allRows_comp intD F
    rw [← intRows_eq] at ha
    have hF2 : (F.map intD).take ps.length = F.map intD := by rw [← hFl, ← List.length_map (f := intD), List.take_length]
    have hrl : (intRows F).length = ps.length := by rw [intRows_length, hFl]
    generalize intRows F = G at *
    simp -implicitDefEqProofs (disch := first | omega | (simp <;> fail) | assumption) [hin, hFl, ha, hF2, hrl]
  · right
    refine ⟨hg, ?_⟩
    have hin := hin ⟨[(1, vI l), (6, .sl 6 0 0 0), (11, vI ps), (12, i64 ps.length), (13, i64 (0 : Nat))], [(6, ⟨1, []⟩)]⟩ (by simp [intRows])
    simp at hin
    simp -implicitDefEqProofs (disch := first | omega | (simp <;> fail) | assumption) [hin]
end Go.Am
