/- Law 72: the document's rows; all windows of a horizon. -/
import Derived.Test.YtfompdbhmbdmeaaWindows
set_option linter.unusedVariables false
set_option linter.unusedSimpArgs false
set_option maxRecDepth 10000
set_option maxHeartbeats 1000000
namespace Go.Am
def intRow (x : Int) : List D := [.int .i64 x]
def cnt_ (l : List Int) (a b : Int) : Int := (l.map fun x => one (tin a b x)).sum
theorem toAV_intRow (x : Int) : (toAV ∘ intRow) x = [AV.c (.int .i64 x)] := rfl
def WithinC (g : List AV → Option (List AV)) : Prop := ∀ (l : List Int) (a b : Int), l.length ≤ 200 → g [.c (.vs 1 (l.map intRow)), .agg [.int .i64 a, .int .i64 b]] = some [i64 (cnt_ l a b)]
theorem one_le (c : Bool) : 0 ≤ one c ∧ one c ≤ 1 := by cases c <;> simp [one]
theorem within_loop {Γ : Env} {N M : Nat} {l : List Int} {a b : Int} (hl : l.length ≤ 200) (hM : l.length < M) :
    ∃ ax s', (ax = .ex 0 ∧ s' = (⟨[(5, i64 (cnt_ l a b))], []⟩ : St)) ∧ ∀ s, nrm [0, 3, 5, 6] [3] s = ⟨[(0, .c (.vs 1 (l.map intRow))), (3, .loc 3 0 0), (5, i64 0), (6, i64 (0 : Nat))], [(3, ⟨2, [toAV [.int .i64 a, .int .i64 b]]⟩)]⟩ → lp (exec Γ N law72_within_l1) M s = some (ax, s') := by
  refine lp_all (fun q : Nat × Int => ⟨[(0, .c (.vs 1 (l.map intRow))), (3, .loc 3 0 0), (5, i64 q.2), (6, i64 q.1)], [(3, ⟨2, [toAV [.int .i64 a, .int .i64 b]]⟩)]⟩) (fun q => q.1 ≤ l.length ∧ q.2 + cnt_ (l.drop q.1) a b = cnt_ l a b ∧ 0 ≤ q.2 ∧ q.2 ≤ q.1) (fun q => l.length - q.1)
    (fun ax s' => ax = .ex 0 ∧ s' = (⟨[(5, i64 (cnt_ l a b))], []⟩ : St)) (0, 0) M (by simp) ⟨by simp, by simp, by simp, by simp⟩ (by simp; omega) ?_
  rintro ⟨i, n⟩ ⟨hi, hc, h0, h1⟩
  simp only at hi hc h0 h1
  by_cases hlt : i < l.length
  · obtain ⟨x, hx⟩ : ∃ x, l[i]'hlt = x := ⟨_, rfl⟩
    rw [List.drop_eq_getElem_cons hlt, hx] at hc
    simp only [cnt_, List.map_cons, List.sum_cons] at hc
    by_cases c1 : a ≤ x
    · by_cases c2 : x < b
      · have ht : one (tin a b x) = 1 := by simp [tin, one, c1, c2]
        rw [ht] at hc
        simp -implicitDefEqProofs (disch := omega) [intRow, hx, c1, c2]
        exact ⟨i + 1, n + 1, ⟨rfl, by omega⟩, ⟨by omega, by simp only [cnt_]; omega, by omega, by omega⟩, by omega⟩
      · have ht : one (tin a b x) = 0 := by simp [tin, one, c1, c2]
        rw [ht] at hc
        simp -implicitDefEqProofs (disch := omega) [intRow, hx, c1, c2]
        exact ⟨i + 1, n, ⟨rfl, by omega⟩, ⟨by omega, by simp only [cnt_]; omega, by omega, by omega⟩, by omega⟩
    · have ht : one (tin a b x) = 0 := by simp [tin, one, c1]
      rw [ht] at hc
      simp -implicitDefEqProofs (disch := omega) [intRow, hx, c1]
      exact ⟨i + 1, n, ⟨rfl, by omega⟩, ⟨by omega, by simp only [cnt_]; omega, by omega, by omega⟩, by omega⟩
  · obtain rfl : i = l.length := by omega
    have : n = cnt_ l a b := by rw [← hc]; simp [cnt_]
    subst this
    simp -implicitDefEqProofs (disch := omega) []
theorem law72_within_run {Γ : Env} {M : Nat} (hM : 300 ≤ M) : WithinC (run Γ M law72_within_f) := by
  intro l a b hl
  obtain ⟨ax, s', ⟨rfl, rfl⟩, h3⟩ := within_loop (Γ := Γ) (N := M) (M := M) (l := l) (a := a) (b := b) hl (by omega)
  simp -implicitDefEqProofs (disch := first | omega | (simp <;> fail) | assumption) [h3]

/-! ### A row by the document -/
def insOf (l : List Trip) : List Int := (l.filter fun t => decide (0 ≤ t.board)).map Trip.board
def outsOf (l : List Trip) : List Int := (l.filter fun t => decide (0 ≤ t.alight)).map Trip.alight
def waitOf (a b : Int) (l : List Trip) : Int := (l.map fun t => if isIn a b t then t.board - t.arrive else 0).sum
def behOf (b : Int) (l : List Trip) : Int := (l.map fun t => one (isBehind b t)).sum
structure RS where
  c : List Int
  n : List Int
  o : List Int
  w : Int
  b : Int
def rF (l : List Trip) (i : Nat) (q : RS) : List (Nat × AV) := [(0, .c (.vs 7 (l.map Trip.cells))), (3, .loc 3 0 0), (4, .loc 4 0 0), (5, .sl 5 q.c.length 0 q.c.length), (6, .sl 6 q.n.length 0 q.n.length), (7, .sl 7 q.o.length 0 q.o.length), (8, i64 q.w), (9, i64 q.b), (10, i64 i), (11, .loc 11 0 0)]
def rH (l : List Trip) (i : Nat) (q : RS) : List (Nat × AV) := [(0, .c (.vs 7 (l.map Trip.cells))), (3, .loc 3 0 0), (4, .loc 4 0 0), (5, .sl 5 q.c.length 0 q.c.length), (6, .sl 6 q.n.length 0 q.n.length), (7, .sl 7 q.o.length 0 q.o.length), (8, i64 q.w), (9, i64 q.b), (10, i64 i)]
def rOb (a b : Int) (q : RS) : List (Nat × Obj) := [(3, ⟨2, [toAV [.int .i64 a, .int .i64 b]]⟩), (4, ⟨7, [toAV (WRow.cells ⟨0, 0, 0, 0, 0, 0, 0⟩)]⟩), (5, ⟨1, q.c.map (toAV ∘ intRow)⟩), (6, ⟨1, q.n.map (toAV ∘ intRow)⟩), (7, ⟨1, q.o.map (toAV ∘ intRow)⟩)]
def rOt (a b : Int) (q : RS) (t : Trip) : List (Nat × Obj) := [(3, ⟨2, [toAV [.int .i64 a, .int .i64 b]]⟩), (4, ⟨7, [toAV (WRow.cells ⟨0, 0, 0, 0, 0, 0, 0⟩)]⟩), (5, ⟨1, q.c.map (toAV ∘ intRow)⟩), (6, ⟨1, q.n.map (toAV ∘ intRow)⟩), (7, ⟨1, q.o.map (toAV ∘ intRow)⟩), (11, ⟨7, [toAV t.cells]⟩)]
structure RSok (k : Nat) (q : RS) : Prop where
  c : q.c.length ≤ k
  n : q.n.length ≤ k
  o : q.o.length ≤ k
  w1 : -2147483648 * (k : Int) ≤ q.w
  w2 : q.w ≤ 2147483648 * (k : Int)
  b1 : 0 ≤ q.b
  b2 : q.b ≤ k
def qC (t : Trip) (q : RS) : RS := { q with c := q.c ++ [t.arrive] }
def qN (a b : Int) (t : Trip) (q : RS) : RS := { q with n := if 0 ≤ t.board then q.n ++ [t.board] else q.n, w := q.w + (if isIn a b t then t.board - t.arrive else 0) }
def qO (t : Trip) (q : RS) : RS := { q with o := if 0 ≤ t.alight then q.o ++ [t.alight] else q.o }
def qB (b : Int) (t : Trip) (q : RS) : RS := { q with b := q.b + one (isBehind b t) }
section
variable {Γ : Env} {N : Nat} {l : List Trip} {i : Nat} {a b : Int} {q : RS} {t : Trip} {k : Nat}
theorem row_k2 (hW : WithinC (Γ 65)) (hk : k ≤ 200) (hq : RSok k q) (ht : Tame t) : exec Γ N law72_row_k2 ⟨rF l i q, rOt a b q t⟩ = some (.norm, ⟨rF l i (qN a b t q), rOt a b (qN a b t q) t⟩) := by
  have e := hW [t.board] a b (by simp)
  obtain ⟨h1, h2, h3, h4, h5, h6, h7⟩ := hq
  obtain ⟨t1, t2, t3, t4, t5, t6⟩ := ht
  simp [intRow] at e
  by_cases c0 : 0 ≤ t.board
  · cases c : tin a b t.board
    · have e2 : cnt_ [t.board] a b = 0 := by simp [cnt_, c, one]
      rw [e2] at e
      simp -implicitDefEqProofs (disch := omega) [law72_row_k2_x, rF, rOt, qN, isIn, one, e, c, c0, intRow]
    · have e2 : cnt_ [t.board] a b = 1 := by simp [cnt_, c, one]
      rw [e2] at e
      simp -implicitDefEqProofs (disch := omega) [law72_row_k2_x, rF, rOt, qN, isIn, one, e, c, c0, intRow]
  · simp -implicitDefEqProofs (disch := omega) [law72_row_k2_x, rF, rOt, qN, isIn, one, c0]
theorem row_k1 (hk : k ≤ 200) (hq : RSok k q) : exec Γ N law72_row_k1 ⟨rF l i q, rOt a b q t⟩ = some (.norm, ⟨rF l i (qO t q), rOt a b (qO t q) t⟩) := by
  obtain ⟨h1, h2, h3, h4, h5, h6, h7⟩ := hq
  by_cases c0 : 0 ≤ t.alight
  · simp -implicitDefEqProofs (disch := omega) [law72_row_k1_x, rF, rOt, qO, c0, intRow]
  · simp -implicitDefEqProofs (disch := omega) [law72_row_k1_x, rF, rOt, qO, c0]
end
theorem insOf_snoc (l : List Trip) (t : Trip) : insOf (l ++ [t]) = if 0 ≤ t.board then insOf l ++ [t.board] else insOf l := by
  unfold insOf
  by_cases h : 0 ≤ t.board <;> simp [List.filter_append, h]
theorem outsOf_snoc (l : List Trip) (t : Trip) : outsOf (l ++ [t]) = if 0 ≤ t.alight then outsOf l ++ [t.alight] else outsOf l := by
  unfold outsOf
  by_cases h : 0 ≤ t.alight <;> simp [List.filter_append, h]
def rsOf (a b : Int) (l : List Trip) : RS := ⟨l.map Trip.arrive, insOf l, outsOf l, waitOf a b l, behOf b l⟩
theorem rsOf_snoc (a b : Int) (l : List Trip) (t : Trip) : rsOf a b (l ++ [t]) = qB b t (qO t (qN a b t (qC t (rsOf a b l)))) := by
  unfold rsOf qB qO qN qC
  simp only [insOf_snoc, outsOf_snoc, waitOf, behOf, List.map_append, List.sum_append, List.map_cons, List.map_nil, List.sum_cons, List.sum_nil, Int.add_zero]
theorem rsOf_ok (a b : Int) : ∀ l : List Trip, (∀ t ∈ l, Tame t) → RSok l.length (rsOf a b l) := by
  intro l h
  have hb : ∀ l : List Trip, (∀ t ∈ l, Tame t) → -2147483648 * (l.length : Int) ≤ waitOf a b l ∧ waitOf a b l ≤ 2147483648 * (l.length : Int) ∧ 0 ≤ behOf b l ∧ behOf b l ≤ l.length := by
    intro l
    induction l with
    | nil => intro _; simp [waitOf, behOf]
    | cons t l ih =>
      intro h
      obtain ⟨h1, h2, h3, h4⟩ := ih fun x hx => h x (by simp [hx])
      obtain ⟨t1, t2, t3, t4, t5, t6⟩ := h t (by simp)
      have := one_le (isBehind b t)
      simp only [waitOf, behOf] at h1 h2 h3 h4
      simp only [waitOf, behOf, List.map_cons, List.sum_cons, List.length_cons]
      refine ⟨?_, ?_, ?_, ?_⟩ <;> (try split) <;> omega
  obtain ⟨h1, h2, h3, h4⟩ := hb l h
  exact ⟨by simp [rsOf], by simp only [rsOf, insOf, List.length_map]; exact List.length_filter_le _ _, by simp only [rsOf, outsOf, List.length_map]; exact List.length_filter_le _ _, h1, h2, h3, h4⟩
theorem qN_ok {k : Nat} {q : RS} {a b : Int} {t : Trip} (h : RSok k q) (ht : Tame t) : RSok (k + 1) (qN a b t q) := by
  obtain ⟨h1, h2, h3, h4, h5, h6, h7⟩ := h
  obtain ⟨t1, t2, t3, t4, t5, t6⟩ := ht
  constructor <;> simp only [qN] <;> (try split) <;> (try simp only [List.length_append, List.length_cons, List.length_nil]) <;> omega
theorem qC_ok {k : Nat} {q : RS} {t : Trip} (h : RSok k q) : RSok (k + 1) (qC t q) := by
  obtain ⟨h1, h2, h3, h4, h5, h6, h7⟩ := h
  constructor <;> simp only [qC] <;> (try simp only [List.length_append, List.length_cons, List.length_nil]) <;> omega
theorem qO_ok {k : Nat} {q : RS} {t : Trip} (h : RSok k q) : RSok (k + 1) (qO t q) := by
  obtain ⟨h1, h2, h3, h4, h5, h6, h7⟩ := h
  constructor <;> simp only [qO] <;> (try split) <;> (try simp only [List.length_append, List.length_cons, List.length_nil]) <;> omega
theorem row_loop {Γ : Env} {N M : Nat} {l : List Trip} {a b : Int} (hW : WithinC (Γ 65)) (hg : Gd l) (hM : l.length < M) :
    ∃ ax s', (ax = .ex 0 ∧ s' = (⟨[(3, .loc 3 0 0), (4, .loc 4 0 0), (5, .sl 5 (rsOf a b l).c.length 0 (rsOf a b l).c.length), (6, .sl 6 (rsOf a b l).n.length 0 (rsOf a b l).n.length), (7, .sl 7 (rsOf a b l).o.length 0 (rsOf a b l).o.length), (8, i64 (rsOf a b l).w), (9, i64 (rsOf a b l).b)], rOb a b (rsOf a b l)⟩ : St)) ∧
      ∀ s, nrm [0, 3, 4, 5, 6, 7, 8, 9, 10] [3, 4, 5, 6, 7, 26, 34, 55] s = ⟨rH l 0 (rsOf a b (l.take 0)), rOb a b (rsOf a b (l.take 0))⟩ → lp (exec Γ N law72_row_l1) M s = some (ax, s') := by
  refine lp_all (fun i : Nat => ⟨rH l i (rsOf a b (l.take i)), rOb a b (rsOf a b (l.take i))⟩) (fun i => i ≤ l.length) (fun i => l.length - i) (fun ax s' => (ax = .ex 0 ∧ s' = (⟨[(3, .loc 3 0 0), (4, .loc 4 0 0), (5, .sl 5 (rsOf a b l).c.length 0 (rsOf a b l).c.length), (6, .sl 6 (rsOf a b l).n.length 0 (rsOf a b l).n.length), (7, .sl 7 (rsOf a b l).o.length 0 (rsOf a b l).o.length), (8, i64 (rsOf a b l).w), (9, i64 (rsOf a b l).b)], rOb a b (rsOf a b l)⟩ : St))) 0 M (by simp [rH, rOb]) (by omega) (by omega) ?_
  intro i hi
  have hl := hg.1
  by_cases hlt : i < l.length
  · obtain ⟨t, ht⟩ : ∃ t, l[i]'hlt = t := ⟨_, rfl⟩
    have tm : Tame t := by rw [← ht]; exact hg.2 _ (List.getElem_mem hlt)
    have hnext : rsOf a b (l.take (i + 1)) = qB b t (qO t (qN a b t (qC t (rsOf a b (l.take i))))) := by
      rw [List.take_succ_eq_append_getElem hlt, ht, rsOf_snoc]
    have ok0 : RSok i (rsOf a b (l.take i)) := by
      have := rsOf_ok a b (l.take i) fun x hx => hg.2 x (List.mem_of_mem_take hx)
      rwa [List.length_take, Nat.min_eq_left (by omega)] at this
    generalize rsOf a b (l.take i) = q at *
    have ok1 := qC_ok (t := t) ok0
    have ok2 := qN_ok (a := a) (b := b) ok1 tm
    have ok3 := qO_ok (t := t) ok2
    have k2 := row_k2 (Γ := Γ) (N := N) (l := l) (i := i) (a := a) (b := b) hW (by omega) ok1 tm
    have k1 := row_k1 (Γ := Γ) (N := N) (l := l) (i := i) (a := a) (b := b) (t := t) (by omega) ok2
    generalize hq3 : qO t (qN a b t (qC t q)) = q3 at *
    obtain ⟨g1, g2, g3, g4, g5, g6, g7⟩ := ok3
    obtain ⟨z1, z2, z3, z4, z5, z6, z7⟩ := ok0
    simp only [qC] at k1 k2 hq3
    simp [rF, rOt, intRow] at k1 k2
    have hl5 : ((rsOf a b (l.take (i + 1)))).c.length = q.c.length + 1 := by rw [hnext, ← hq3]; simp [qB, qO, qN, qC]
    by_cases c1 : t.arrive < b
    · by_cases c2 : 0 ≤ t.board
      · by_cases c3 : t.board < b
        · have hB : rsOf a b (l.take (i + 1)) = q3 := by rw [hnext]; simp [qB, isBehind, one, c1, c3, show ¬ t.board < 0 by omega, show ¬ b ≤ t.board by omega]
          simp -implicitDefEqProofs (disch := omega) [law72_row_k3_x, rH, rOb, ht, k1, k2, c1, c2, c3, intRow]
          exact ⟨i + 1, by rw [hB]; simp, by omega, by omega⟩
        · have hB : rsOf a b (l.take (i + 1)) = { q3 with b := q3.b + 1 } := by rw [hnext]; simp [qB, isBehind, one, c1, show b ≤ t.board by omega]
          simp -implicitDefEqProofs (disch := omega) [law72_row_k3_x, rH, rOb, ht, k1, k2, c1, c2, c3, intRow]
          exact ⟨i + 1, by rw [hB]; simp, by omega, by omega⟩
      · have hB : rsOf a b (l.take (i + 1)) = { q3 with b := q3.b + 1 } := by rw [hnext]; simp [qB, isBehind, one, c1, show t.board < 0 by omega]
        simp -implicitDefEqProofs (disch := omega) [law72_row_k3_x, rH, rOb, ht, k1, k2, c1, c2, intRow]
        exact ⟨i + 1, by rw [hB]; simp, by omega, by omega⟩
    · have hB : rsOf a b (l.take (i + 1)) = q3 := by rw [hnext]; simp [qB, isBehind, one, c1]
      simp -implicitDefEqProofs (disch := omega) [law72_row_k3_x, rH, rOb, ht, k1, k2, c1, intRow]
      exact ⟨i + 1, by rw [hB]; simp, by omega, by omega⟩
  · obtain rfl : i = l.length := by omega
    simp -implicitDefEqProofs (disch := omega) [law72_row_k3_x, rH, rOb]
theorem cnt_arrive (a b : Int) (l : List Trip) : cnt_ (l.map Trip.arrive) a b = (l.map fun t => one (tin a b t.arrive)).sum := by simp only [cnt_, List.map_map]; rfl
theorem cnt_ins (a b : Int) (l : List Trip) : cnt_ (insOf l) a b = (l.map fun t => one (isIn a b t)).sum := by
  unfold cnt_ insOf isIn
  induction l with
  | nil => simp
  | cons t l ih =>
    by_cases h : 0 ≤ t.board
    · simp only [List.filter_cons, h, decide_true, if_true, List.map_cons, List.sum_cons, Bool.true_and]; rw [ih]
    · simp only [List.filter_cons, h, decide_false, Bool.false_eq_true, if_false, List.map_cons, List.sum_cons, Bool.false_and]; rw [ih]; simp [one]
theorem cnt_outs (a b : Int) (l : List Trip) : cnt_ (outsOf l) a b = (l.map fun t => one (isOut a b t)).sum := by
  unfold cnt_ outsOf isOut
  induction l with
  | nil => simp
  | cons t l ih =>
    by_cases h : 0 ≤ t.alight
    · simp only [List.filter_cons, h, decide_true, if_true, List.map_cons, List.sum_cons, Bool.true_and]; rw [ih]
    · simp only [List.filter_cons, h, decide_false, Bool.false_eq_true, if_false, List.map_cons, List.sum_cons, Bool.false_and]; rw [ih]; simp [one]
theorem row_is (l : List Trip) (a b : Int) : (⟨a, b, cnt_ (l.map Trip.arrive) a b, cnt_ (insOf l) a b, cnt_ (outsOf l) a b, waitOf a b l, behOf b l⟩ : WRow) = winOf l a b := by
  obtain ⟨h1, h2, h3, h4, h5, h6, h7⟩ := fold_frm a b l ⟨a, b, 0, 0, 0, 0, 0⟩
  rw [cnt_arrive, cnt_ins, cnt_outs]
  generalize hW : winOf l a b = W
  unfold winOf at hW
  rw [hW] at h1 h2 h3 h4 h5 h6 h7
  obtain ⟨y1, y2, y3, y4, y5, y6, y7⟩ := W
  simp only at h1 h2 h3 h4 h5 h6 h7
  simp only [WRow.mk.injEq, waitOf, behOf]
  omega
theorem law72_row_run {Γ : Env} {M : Nat} (hM : 300 ≤ M) (hW : WithinC (Γ 65)) : OfWin (run Γ M law72_row_f) := by
  intro l a b hg
  have hl := hg.1
  obtain ⟨ax, s', ⟨rfl, rfl⟩, h3⟩ := row_loop (Γ := Γ) (N := M) (M := M) (l := l) (a := a) (b := b) hW hg (by omega)
  have ok := rsOf_ok a b l hg.2
  obtain ⟨g1, g2, g3, g4, g5, g6, g7⟩ := ok
  have e1 := hW (rsOf a b l).c a b (by omega)
  have e2 := hW (rsOf a b l).n a b (by omega)
  have e3 := hW (rsOf a b l).o a b (by omega)
  have hr := row_is l a b
  have h0 : rsOf a b [] = ⟨[], [], [], 0, 0⟩ := by simp [rsOf, insOf, outsOf, waitOf, behOf]
  rw [← hr]
  have x1 : (rsOf a b l).c = l.map Trip.arrive := rfl
  have x2 : (rsOf a b l).n = insOf l := rfl
  have x3 : (rsOf a b l).o = outsOf l := rfl
  have x4 : (rsOf a b l).w = waitOf a b l := rfl
  have x5 : (rsOf a b l).b = behOf b l := rfl
  have tk : ∀ c : List Int, (c.map intRow).take c.length = c.map intRow := fun c => List.take_of_length_le (by simp)
  rw [← x1, ← x2, ← x3, ← x4, ← x5]
  generalize rsOf a b l = q at *
  simp -implicitDefEqProofs (disch := first | omega | (simp [rH, rOb, h0] <;> fail) | assumption) [-List.map_map, h3, h0, rOb, e1, e2, e3, tk]
def EqSelf (g : List AV → Option (List AV)) : Prop := ∀ l : List WRow, l.length ≤ 70000 → g [.c (.vs 7 (l.map WRow.cells)), .c (.vs 7 (l.map WRow.cells))] = some [bo true]
theorem eq_loop {Γ : Env} {N M : Nat} {l : List WRow} (hl : l.length ≤ 70000) (hM : l.length < M) :
    ∃ ax s', (ax = .ex 0 ∧ s' = (⟨[], []⟩ : St)) ∧ ∀ s, nrm [0, 1, 12, 13] [] s = ⟨[(0, .c (.vs 7 (l.map WRow.cells))), (1, .c (.vs 7 (l.map WRow.cells))), (12, i64 l.length), (13, i64 (0 : Nat))], []⟩ → lp (exec Γ N slices_Equal_Swindows_Row_windows_Row_l1) M s = some (ax, s') := by
  refine lp_all (fun i : Nat => ⟨[(0, .c (.vs 7 (l.map WRow.cells))), (1, .c (.vs 7 (l.map WRow.cells))), (12, i64 l.length), (13, i64 i)], []⟩) (fun i => i ≤ l.length) (fun i => l.length - i) (fun ax s' => (ax = .ex 0 ∧ s' = (⟨[], []⟩ : St))) 0 M (by simp) (by omega) (by omega) ?_
  intro i hi
  by_cases hlt : i < l.length
  · obtain ⟨t, ht⟩ : ∃ t, l[i]'hlt = t := ⟨_, rfl⟩
    simp -implicitDefEqProofs (disch := omega) [ht]
    exact ⟨i + 1, by omega, by omega, by omega⟩
  · obtain rfl : i = l.length := by omega
    simp -implicitDefEqProofs (disch := omega) []
theorem slices_Equal_rows_run {Γ : Env} {M : Nat} (hM : 70001 ≤ M) : EqSelf (run Γ M slices_Equal_Swindows_Row_windows_Row_f) := by
  intro l hl
  obtain ⟨ax, s', ⟨rfl, rfl⟩, h3⟩ := eq_loop (Γ := Γ) (N := M) (M := M) (l := l) hl (by omega)
  simp -implicitDefEqProofs (disch := first | omega | (simp <;> fail) | assumption) [h3]

/-! ### The law -/
theorem many_last {w h : Int} (hw : 1 ≤ w) (hh : 0 ≤ h) {k : Nat} (h1 : (k : Int) * w < h) (h2 : h ≤ k * w + w) : many w h = k + 1 := by
  have d := Int.mul_ediv_add_emod h w
  have d4 : 0 ≤ h % w := Int.emod_nonneg _ (by omega)
  have d3 : h % w < w := Int.emod_lt_of_pos _ (by omega)
  rw [Int.mul_comm w] at d
  have l1 : h / w < k + 2 := by
    have : h / w * w < (k + 2) * w := by rw [Int.add_mul]; omega
    exact Int.lt_of_mul_lt_mul_right this (by omega)
  have l2 : (k : Int) ≤ h / w := Int.le_ediv_of_mul_le (by omega) (by omega)
  unfold many
  split
  · have : h / w ≠ k + 1 := by
      intro h0
      rw [h0, Int.add_mul] at d
      omega
    omega
  · have : h / w ≠ k := by
      intro h0
      rw [h0] at d
      omega
    omega
theorem many_gt {w h : Int} (hw : 1 ≤ w) (hh : 0 ≤ h) {k : Nat} (h2 : (k : Int) * w < h) : (k : Int) < many w h := by
  have d := Int.mul_ediv_add_emod h w
  have d4 : 0 ≤ h % w := Int.emod_nonneg _ (by omega)
  have d3 : h % w < w := Int.emod_lt_of_pos _ (by omega)
  rw [Int.mul_comm w] at d
  have l2 : (k : Int) ≤ h / w := Int.le_ediv_of_mul_le (by omega) (by omega)
  unfold many
  split
  · omega
  · have : h / w ≠ k := by
      intro h0
      rw [h0] at d
      omega
    omega
def lF (l : List Trip) (w h : Int) (g : D) (k : Nat) : List (Nat × AV) := [(0, .c (.vs 7 (l.map Trip.cells))), (7, i64 w), (8, i64 h), (9, .c g), (10, i64 0), (11, .sl 11 k 0 k), (12, i64 (k * w))]
theorem rows_loop {Γ : Env} {N M : Nat} {l : List Trip} {w h : Int} {g : D} (hR : OfWin (Γ 30)) (hg : Gd l) (h1 : 1 ≤ w) (h2 : 0 ≤ h) (h3 : h ≤ 9223372036854775807) (h4 : w ≤ 9223372036854775807) (hm : many w h ≤ 300) (hM : 300 < M) :
    ∃ ax s', (ax = .ex 0 ∧ s' = (⟨[(9, .c g), (10, i64 0), (11, .sl 11 (many w h).toNat 0 (many w h).toNat)], [(11, ⟨7, aRows l w h (many w h).toNat⟩)]⟩ : St)) ∧
      ∀ s, nrm [0, 7, 8, 9, 10, 11, 12] [11, 126] s = ⟨lF l w h g 0, [(11, ⟨7, aRows l w h 0⟩)]⟩ → lp (exec Γ N law72_WindowsRows_l1) M s = some (ax, s') := by
  have m0 := many_nonneg h1 h2
  refine lp_all (fun k : Nat => ⟨lF l w h g k, [(11, ⟨7, aRows l w h k⟩)]⟩) (fun k => (k : Int) ≤ many w h) (fun k => (many w h).toNat - k)
    (fun ax s' => (ax = .ex 0 ∧ s' = (⟨[(9, .c g), (10, i64 0), (11, .sl 11 (many w h).toNat 0 (many w h).toNat)], [(11, ⟨7, aRows l w h (many w h).toNat⟩)]⟩ : St))) 0 M (by simp [lF]) (by simpa using m0) (by omega) ?_
  intro k hk
  have hlen := aRows_len l w h k
  have hp : 0 ≤ (k : Int) * w := Int.mul_nonneg (by omega) (by omega)
  by_cases hlt : (k : Int) * w < h
  · have hgt := many_gt h1 h2 hlt
    by_cases c : w < h - k * w
    · have e := hR l (k * w) (k * w + w) hg
      have hw : winAt l w h k = winOf l (k * w) (k * w + w) := by unfold winAt; rw [if_pos c]
      rw [← hw] at e
      simp only [WRow.cells] at e
      have hnx : ((k + 1 : Nat) : Int) * w = k * w + w := by rw [Int.natCast_add, Int.add_mul]; simp
      simp -implicitDefEqProofs (disch := omega) [lF, hlt, c, e, hlen, aRows_nm, aRows_lc]
      exact ⟨k + 1, ⟨⟨by omega, hnx.symm⟩, (aRows_succ l w h k).symm⟩, by omega, by omega⟩
    · have e := hR l (k * w) h hg
      have hw : winAt l w h k = winOf l (k * w) h := by unfold winAt; rw [if_neg c]
      rw [← hw] at e
      simp only [WRow.cells] at e
      have hl := many_last h1 h2 hlt (by omega)
      have hl2 : (many w h).toNat = k + 1 := by omega
      have hs := aRows_succ l w h k
      simp only [WRow.cells, toAV, List.map_cons, List.map_nil] at hs
      simp -implicitDefEqProofs (disch := omega) [lF, hlt, c, e, hlen, aRows_nm, aRows_lc, hl2, hs]
  · have hk2 : (k : Int) = many w h := by
      rcases Int.lt_or_eq_of_le hk with h0 | h0
      · exfalso
        rcases Int.lt_or_eq_of_le (show 0 ≤ h by omega) with hp2 | hp2
        · exact hlt (win_bounds h1 (by omega) h0).2.1
        · subst hp2
          have : many w 0 = 0 := by simp [many]
          omega
      · exact h0
    have hk3 : k = (many w h).toNat := by omega
    simp -implicitDefEqProofs (disch := omega) [lF, hlt, ← hk3]
def Law72R (g : List AV → Option (List AV)) : Prop := ∀ (l : List Trip) (a b w h : Int), l.length ≤ maxLen → InI64 w → InI64 h → g [.c (.vs 7 (l.map Trip.cells)), .agg [.int .i64 a, .int .i64 b], .agg [.int .i64 w, .int .i64 h]] = some [bo true]
theorem law72_WindowsRows_run {Γ : Env} {M : Nat} (hM : 300 < M) (hA : Law72_alive (Γ 16)) (hO : OfWin (Γ 15)) (hL : AllC (Γ 18)) (hG : GreatC (Γ 19)) (hE : EqSelf (Γ 29)) (hR : OfWin (Γ 30)) : Law72R (run Γ M law72_WindowsRows_f) := by
  intro l a b w h hl hw hh
  have hA : Γ 16 [] = some [bo true] := hA
  obtain ⟨g, e0, hb⟩ := hG l hl
  cases g with
  | true => simp -implicitDefEqProofs (disch := omega) [e0]
  | false =>
    have hg := hb rfl
    have e1 := hL l w h hg hw hh
    have e2 := hO l a b hg
    have e3 := hR l a b hg
    simp only [WRow.cells] at e2 e3
    obtain ⟨w1, w2⟩ := hw
    obtain ⟨hh1, hh2⟩ := hh
    by_cases c1 : w < 1
    · rw [if_pos (by omega)] at e1
      by_cases c2 : a < b
      · simp -implicitDefEqProofs (disch := omega) [e0, c1, c2, e1, e2, e3, hA]
      · simp -implicitDefEqProofs (disch := omega) [e0, c1, c2, e1, e2, e3, hA]
    by_cases c3 : h < 0
    · rw [if_pos (by omega)] at e1
      have hd : tdivK h w ≤ 0 ∧ -9223372036854775808 ≤ tdivK h w := by
        unfold tdivK
        rw [show h = -(-h) by omega, Int.neg_tdiv, Int.tdiv_eq_ediv_of_nonneg (by omega)]
        have d1 : 0 ≤ (-h) / w := Int.ediv_nonneg (by omega) (by omega)
        have d2 : (-h) / w ≤ -h := Int.ediv_le_self _ (by omega)
        omega
      obtain ⟨hd1, hd2⟩ := hd
      by_cases c2 : a < b
      · simp -implicitDefEqProofs (disch := omega) [e0, c1, c2, c3, e1, e2, e3, hA]
      · simp -implicitDefEqProofs (disch := omega) [e0, c1, c2, c3, e1, e2, e3, hA]
    have d1 : 0 ≤ h / w := Int.ediv_nonneg (by omega) (by omega)
    have d2 : h / w ≤ h := Int.ediv_le_self _ (by omega)
    have d4 : 0 ≤ h % w := Int.emod_nonneg _ (by omega)
    have d5 : h % w < w := Int.emod_lt_of_pos _ (by omega)
    rw [if_neg (by omega)] at e1
    by_cases c4 : 200 < h / w ∧ h / w < 65536
    · simp -implicitDefEqProofs (disch := omega) [e0, c1, c3]
    have c5 : h / w ≤ 200 ∨ 65536 ≤ h / w := by omega
    by_cases c6 : 65536 < many w h
    · rw [if_pos c6] at e1
      have c7 : 65536 < h / w ∨ (h / w = 65536 ∧ 0 < h % w) := by
        unfold many at c6
        split at c6 <;> omega
      rcases c7 with c7 | ⟨c7, c8⟩
      · by_cases c2 : a < b
        · simp -implicitDefEqProofs (disch := omega) [e0, c1, c2, c3, e1, e2, e3, hA]
        · simp -implicitDefEqProofs (disch := omega) [e0, c1, c2, c3, e1, e2, e3, hA]
      · by_cases c2 : a < b
        · simp -implicitDefEqProofs (disch := omega) [e0, c1, c2, c3, e1, e2, e3, hA, c7]
        · simp -implicitDefEqProofs (disch := omega) [e0, c1, c2, c3, e1, e2, e3, hA, c7]
    rw [if_neg c6] at e1
    have c7 : h / w ≤ 65536 ∧ (h / w = 65536 → h % w = 0) := by
      unfold many at c6
      split at c6 <;> omega
    by_cases c8 : 200 < h / w
    · have c9 : h / w = 65536 := by omega
      have c10 : h % w = 0 := c7.2 c9
      by_cases c2 : a < b
      · simp -implicitDefEqProofs (disch := omega) [-List.map_map, e0, c1, c2, c3, e1, e2, e3, hA, c9, c10]
      · simp -implicitDefEqProofs (disch := omega) [-List.map_map, e0, c1, c2, c3, e1, e2, e3, hA, c9, c10]
    have hm : many w h ≤ 201 := by unfold many; split <;> omega
    have m0 := many_nonneg (w := w) (h := h) (by omega) (by omega)
    obtain ⟨ax, s', ⟨rfl, rfl⟩, h3⟩ := rows_loop (Γ := Γ) (N := M) (M := M) (l := l) (w := w) (h := h) (g := .vs 7 ((allWin l w h).map WRow.cells)) hR hg (by omega) (by omega) hh2 w2 (by omega) hM
    have hz : aRows l w h 0 = [] := rfl
    have hlen := aRows_len l w h (many w h).toNat
    have ht : (List.map WRow.cells (allWin l w h)).take (many w h).toNat = List.map WRow.cells (allWin l w h) := List.take_of_length_le (by simp [allWin])
    have hv : allRows (aRows l w h (many w h).toNat) = some ((allWin l w h).map WRow.cells) := allRows_aRows l w h _
    have e4 := hE (allWin l w h) (by simp [allWin]; omega)
    generalize allWin l w h = W at *
    by_cases c2 : a < b
    · simp -implicitDefEqProofs (disch := first | omega | (simp [lF, hz] <;> fail) | assumption) [-List.map_map, e0, c1, c2, c3, e1, e2, e3, hA, h3, hlen, hv, ht, e4]
    · simp -implicitDefEqProofs (disch := first | omega | (simp [lF, hz] <;> fail) | assumption) [-List.map_map, e0, c1, c2, c3, e1, e2, e3, hA, h3, hlen, hv, ht, e4]
def rowsTab : Tab := (0, law72_WindowsRows_f, 3) :: (29, slices_Equal_Swindows_Row_windows_Row_f, 2) :: (30, law72_row_f, 2) :: (65, law72_within_f, 2) :: windowsFns
theorem rows_law : Law72R (env rowsTab noEnv 70002 8 0) := by
  have i1 (n : Nat) : InWin (env rowsTab noEnv 70002 (n + 1) 62) := fun a b x => by rw [env_run rfl rfl]; exact windows_in_run _ _ a b x
  have o1 (n : Nat) : OfWin (env rowsTab noEnv 70002 (n + 2) 15) := fun l a b h => by rw [env_run rfl rfl]; exact windows_Of_run (by omega) (i1 _) l a b h
  have c1 (n : Nat) : CountC (env rowsTab noEnv 70002 (n + 1) 61) := fun w h hw hh => by rw [env_run rfl rfl]; exact pulse_Count_run (M := 69992) w h hw hh
  have a1 (n : Nat) : AllC (env rowsTab noEnv 70002 (n + 3) 18) := fun l w h hg hw hh => by rw [env_run rfl rfl]; exact windows_All_run (by omega) (o1 _) (c1 _) l w h hg hw hh
  have s1 (n : Nat) : SumC (env rowsTab noEnv 70002 (n + 1) 17) := by
    have := windows_Sum_run (Γ := env rowsTab noEnv 70002 n) (M := 70002) (by omega)
    exact ⟨by rw [env_run rfl rfl]; exact this.1, fun l h hl hw => by rw [env_run rfl rfl]; exact this.2 l h hl hw⟩
  have g1 (n : Nat) : GreatC (env rowsTab noEnv 70002 (n + 1) 60) := fun l hl => by rw [env_run rfl rfl]; exact great24_run (by omega) l hl
  have g2 (n : Nat) : GreatC (env rowsTab noEnv 70002 (n + 2) 19) := fun l hl => by rw [env_run rfl rfl]; exact great72_run (by omega) (g1 _) l hl
  have al (n : Nat) : Law72_alive (env rowsTab noEnv 70002 (n + 3) 16) := by unfold Law72_alive; rw [env_run rfl rfl]; exact law72_alive_run (o1 _) (s1 _)
  have w1 (n : Nat) : WithinC (env rowsTab noEnv 70002 (n + 1) 65) := fun l a b h => by rw [env_run rfl rfl]; exact law72_within_run (by omega) l a b h
  have r1 (n : Nat) : OfWin (env rowsTab noEnv 70002 (n + 2) 30) := fun l a b h => by rw [env_run rfl rfl]; exact law72_row_run (by omega) (w1 _) l a b h
  have q1 (n : Nat) : EqSelf (env rowsTab noEnv 70002 (n + 1) 29) := fun l h => by rw [env_run rfl rfl]; exact slices_Equal_rows_run (by omega) l h
  intro l a b w h hl hw hh
  rw [env_run rfl rfl]
  exact law72_WindowsRows_run (by omega) (al 4) (o1 5) (a1 4) (g2 5) (q1 6) (r1 5) l a b w h hl hw hh
end Go.Am
