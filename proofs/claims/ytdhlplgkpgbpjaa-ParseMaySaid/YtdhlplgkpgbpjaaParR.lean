/- Law 26: the parts of the document's answer. -/
import Derived.Test.YtdhlplgkpgbpjaaPrs
import Derived.Test.YtdhlplgkpgbpjaaPar
set_option linter.unusedVariables false
set_option linter.unusedSimpArgs false
set_option maxRecDepth 10000
set_option maxHeartbeats 1000000
namespace Go.Am
def ShapeC (g : List AV → Option (List AV)) : Prop := ∀ w : List UInt8, g [st w] = some [.c (.vs 1 ((shapeW w).map strQ)), bo (decide (shapeW w ≠ []))]
theorem ref26_shape_run (Γ : Env) (M : Nat) : ShapeC (run Γ M ref26_shape_f) := by
  intro w
  by_cases h1 : w = pBuilding
  · subst h1; simp [shapeW, namesW, strQ]
  by_cases h2 : w = pCars
  · subst h2; simp [shapeW, namesW, strQ]
  by_cases h3 : w = pDoors
  · subst h3; simp [shapeW, namesW, strQ]
  by_cases h4 : w = pTraffic
  · subst h4; simp [shapeW, namesW, strQ]
  by_cases h7 : w = pDispatcher
  · subst h7; simp [shapeW, namesW, strQ]
  by_cases h5 : w = pHorizon
  · subst h5; simp [shapeW, namesW, strQ]
  by_cases h6 : w = pBins
  · subst h6; simp [shapeW, namesW, strQ]
  simp [shapeW, namesW, strQ, h1, h2, h3, h4, h5, h6, h7]
def PartC (g : List AV → Option (List AV)) : Prop := ∀ (nm : List UInt8) (t : Tk), g [st nm, .agg t.cells] = some [i64 (if partE nm t = 0 then partN nm t else 0), i64 (partE nm t)]
theorem ref26_part_run (Γ : Env) (M : Nat) (hW : WordC26 (Γ 120)) (hI : InC (Γ 21)) : PartC (run Γ M ref26_part_f) := by
  intro nm t
  obtain ⟨hw1, hw2⟩ := hW t.tx
  have hi := hI nm t.n
  by_cases n1 : nm = [116]
  · subst n1
    by_cases k3 : t.kd = 3
    · simp -implicitDefEqProofs (disch := first | omega | assumption) [partE, partN, isWord, wordN, k3]
    by_cases k1 : t.kd = 1
    · by_cases hz : temW t.tx = 0
      · simp -implicitDefEqProofs (disch := first | omega | assumption) [partE, partN, isWord, wordN, k3, k1, hw1, hz]
      · simp -implicitDefEqProofs (disch := first | omega | assumption) [partE, partN, isWord, wordN, k3, k1, hw1, hz]
    · simp -implicitDefEqProofs (disch := first | omega | assumption) [partE, partN, isWord, wordN, k3, k1]
  by_cases n2 : nm = [100]
  · subst n2
    by_cases k3 : t.kd = 3
    · simp -implicitDefEqProofs (disch := first | omega | assumption) [partE, partN, isWord, wordN, k3]
    by_cases k1 : t.kd = 1
    · by_cases hz : dspW t.tx = 0
      · simp -implicitDefEqProofs (disch := first | omega | assumption) [partE, partN, isWord, wordN, k3, k1, hw2, hz]
      · simp -implicitDefEqProofs (disch := first | omega | assumption) [partE, partN, isWord, wordN, k3, k1, hw2, hz]
    · simp -implicitDefEqProofs (disch := first | omega | assumption) [partE, partN, isWord, wordN, k3, k1]
  by_cases k3 : t.kd = 3
  · simp -implicitDefEqProofs (disch := first | omega | assumption) [partE, partN, isWord, n1, n2, k3]
  by_cases k1 : t.kd = 1
  · simp -implicitDefEqProofs (disch := first | omega | assumption) [partE, partN, isWord, n1, n2, k3, k1]
  · cases hb : inB nm t.n <;> simp -implicitDefEqProofs (disch := first | omega | assumption) [partE, partN, isWord, n1, n2, k3, k1, hi, hb]
def intQ (n : Int) : List D := [.int .i64 n]
def PutC26 (g : List AV → Option (List AV)) : Prop := ∀ (s : Scn) (w : List UInt8) (ns : List Int), shapeW w ≠ [] → ns.length = (shapeW w).length → s.segs.length < 9 → g [.agg s.cells, st w, .c (.vs 1 (ns.map intQ))] = some [.agg (putC s w ns).cells]
theorem ref26_put_run (Γ : Env) (M : Nat) : PutC26 (run Γ M ref26_put_f) := by
  intro s w ns hne hl h9
  by_cases h1 : w = pBuilding
  · subst h1
    obtain ⟨a, b, rfl⟩ : ∃ a b, ns = [a, b] := by
      match ns, hl with
      | [a, b], _ => exact ⟨a, b, rfl⟩
    simp -implicitDefEqProofs (disch := first | omega | assumption) [putC, intQ, St.loadF]
  by_cases h2 : w = pCars
  · subst h2
    obtain ⟨a, b, rfl⟩ : ∃ a b, ns = [a, b] := by
      match ns, hl with
      | [a, b], _ => exact ⟨a, b, rfl⟩
    simp -implicitDefEqProofs (disch := first | omega | assumption) [putC, intQ, St.loadF]
  by_cases h3 : w = pDoors
  · subst h3
    obtain ⟨a, b, c, d, rfl⟩ : ∃ a b c d, ns = [a, b, c, d] := by
      match ns, hl with
      | [a, b, c, d], _ => exact ⟨a, b, c, d, rfl⟩
    simp -implicitDefEqProofs (disch := first | omega | assumption) [putC, intQ, St.loadF, eqV_vp]
  by_cases h4 : w = pTraffic
  · subst h4
    obtain ⟨k, a, b, rfl⟩ : ∃ k a b, ns = [k, a, b] := by
      match ns, hl with
      | [a, b, c], _ => exact ⟨a, b, c, rfl⟩
    have ha : allRows (s.segs.map (toAV ∘ Seg.cells) ++ [[i64 k, i64 a, i64 b]]) = some (s.segs.map Seg.cells ++ [[.int .i64 k, .int .i64 a, .int .i64 b]]) := by rw [allRows_append (allRows_comp _ _)]; simp
    simp -implicitDefEqProofs (disch := first | omega | assumption) [putC, intQ, St.loadF, eqV_vp, ha]
    exact List.take_of_length_le (by simp)
  by_cases h5 : w = pDispatcher
  · subst h5
    obtain ⟨a, rfl⟩ : ∃ a, ns = [a] := List.length_eq_one_iff.1 hl
    simp -implicitDefEqProofs (disch := first | omega | assumption) [putC, intQ, St.loadF]
  by_cases h6 : w = pHorizon
  · subst h6
    obtain ⟨a, rfl⟩ : ∃ a, ns = [a] := List.length_eq_one_iff.1 hl
    simp -implicitDefEqProofs (disch := first | omega | assumption) [putC, intQ, St.loadF]
  by_cases h7 : w = pBins
  · subst h7
    obtain ⟨a, b, rfl⟩ : ∃ a b, ns = [a, b] := by
      match ns, hl with
      | [a, b], _ => exact ⟨a, b, rfl⟩
    simp -implicitDefEqProofs (disch := first | omega | assumption) [putC, intQ, St.loadF]
  exact (hne (by simp [shapeW, namesW, h1, h2, h3, h4, h5, h6, h7])).elim
def ProbC26 (g : List AV → Option (List AV)) : Prop := ∀ (e : Int) (t : Tk), g [i64 e, .agg t.cells] = some [.agg scnZ.cells, .agg [.int .i64 e, .int .i64 t.l, .int .i64 t.c]]
theorem ref26_problem_run (Γ : Env) (M : Nat) : ProbC26 (run Γ M ref26_problem_f) := by
  intro e t
  simp -implicitDefEqProofs (disch := first | omega | assumption) [scnZ]
def CountC (g : List AV → Option (List AV)) : Prop := ∀ (l : List (List UInt8)) (w : List UInt8), l.length ≤ 60000 → g [.c (.vs 1 (l.map strQ)), st w] = some [i64 (l.count w : Nat)]
theorem ref26_count_run (Γ : Env) (M : Nat) (hM : 60001 < M) : CountC (run Γ M ref26_count_f) := by
  intro l w hl
  obtain ⟨ax, s', ⟨rfl, rfl⟩, hin⟩ : ∃ ax s', (ax = .ex 0 ∧ s' = ⟨[(5, i64 (l.count w : Nat))], []⟩) ∧ ∀ s0, nrm [0, 1, 5, 6] [] s0 = ⟨[(0, .c (.vs 1 (l.map strQ))), (1, st w), (5, i64 ((l.take 0).count w : Nat)), (6, i64 (0 : Nat))], []⟩ → lp (exec Γ M ref26_count_l1) M s0 = some (ax, s') := by
    refine lp_all (fun k : Nat => ⟨[(0, .c (.vs 1 (l.map strQ))), (1, st w), (5, i64 ((l.take k).count w : Nat)), (6, i64 k)], []⟩) (fun k => k ≤ l.length) (fun k => l.length - k) _ 0 M (by simp) (by omega) (by omega) ?_
    intro k hk
    have hb := List.count_le_length (a := w) (l := l.take k)
    by_cases hlt : k < l.length
    · obtain ⟨x, hx⟩ : ∃ x, l[k]'hlt = x := ⟨_, rfl⟩
      have hc : (l.take (k + 1)).count w = (l.take k).count w + if x = w then 1 else 0 := by
        rw [List.take_add_one, List.count_append, List.getElem?_eq_getElem hlt, hx]
        simp [List.count_singleton]
      simp only [List.length_take] at hb
      generalize (l.take k).count w = n at *
      by_cases hw : x = w
      · subst hw
        simp -implicitDefEqProofs (disch := first | omega | assumption) [hlt, strQ, hx]
        exact ⟨k + 1, by rw [hc]; simp, by omega, by omega⟩
      · simp -implicitDefEqProofs (disch := first | omega | assumption) [hlt, strQ, hx, hw]
        exact ⟨k + 1, by rw [hc]; simp [hw], by omega, by omega⟩
    · obtain rfl : k = l.length := by omega
      simp -implicitDefEqProofs (disch := first | omega | assumption)
  have hlp : lp (exec Γ M ref26_count_l1) M ⟨[(0, .c (.vs 1 (l.map strQ))), (1, st w), (5, .c (.int .i64 0)), (6, .c (.int .i64 0))], []⟩ = some (.ex 0, ⟨[(5, i64 (l.count w : Nat))], []⟩) := hin _ (by simp)
  simp -implicitDefEqProofs (disch := first | omega | assumption) [hlp]
end Go.Am
