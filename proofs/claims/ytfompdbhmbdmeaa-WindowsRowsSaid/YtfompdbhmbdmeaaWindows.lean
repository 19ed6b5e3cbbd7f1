/- Law 72: windows. -/
import Derived.Test.YtfompdbhmbdmeaaWindowsCode
set_option linter.unusedVariables false
set_option linter.unusedSimpArgs false
set_option maxRecDepth 10000
set_option maxHeartbeats 1000000
namespace Go.Am
structure WRow where
  frm : Int
  to : Int
  came : Int
  inn : Int
  out : Int
  waited : Int
  behind : Int
  deriving DecidableEq
@[simp] def WRow.cells (r : WRow) : List D := [.int .i64 r.frm, .int .i64 r.to, .int .i64 r.came, .int .i64 r.inn, .int .i64 r.out, .int .i64 r.waited, .int .i64 r.behind]
def tin (a b x : Int) : Bool := decide (a ≤ x) && decide (x < b)
def one (c : Bool) : Int := if c then 1 else 0
def isIn (a b : Int) (t : Trip) : Bool := decide (0 ≤ t.board) && tin a b t.board
def isOut (a b : Int) (t : Trip) : Bool := decide (0 ≤ t.alight) && tin a b t.alight
def isBehind (b : Int) (t : Trip) : Bool := decide (t.arrive < b) && (decide (t.board < 0) || decide (b ≤ t.board))
def wCame (a b : Int) (t : Trip) (r : WRow) : WRow := { r with came := r.came + one (tin a b t.arrive) }
def wIn (a b : Int) (t : Trip) (r : WRow) : WRow := { r with inn := r.inn + one (isIn a b t), waited := r.waited + (if isIn a b t then t.board - t.arrive else 0) }
def wOut (a b : Int) (t : Trip) (r : WRow) : WRow := { r with out := r.out + one (isOut a b t) }
def wBeh (b : Int) (t : Trip) (r : WRow) : WRow := { r with behind := r.behind + one (isBehind b t) }
def wstep (a b : Int) (r : WRow) (t : Trip) : WRow := wBeh b t (wOut a b t (wIn a b t (wCame a b t r)))
def winOf (l : List Trip) (a b : Int) : WRow := l.foldl (wstep a b) ⟨a, b, 0, 0, 0, 0, 0⟩
/-- Ticks that don't fall far. -/
structure Tame (t : Trip) : Prop where
  a1 : -1 ≤ t.arrive
  a2 : t.arrive ≤ 1073741824
  b1 : -1 ≤ t.board
  b2 : t.board ≤ 1073741824
  c1 : -1 ≤ t.alight
  c2 : t.alight ≤ 1073741824
structure WIn (n : Int) (r : WRow) : Prop where
  a1 : 0 ≤ r.came
  a2 : r.came ≤ n
  b1 : 0 ≤ r.inn
  b2 : r.inn ≤ n
  c1 : 0 ≤ r.out
  c2 : r.out ≤ n
  d1 : -2147483648 * n ≤ r.waited
  d2 : r.waited ≤ 2147483648 * n
  e1 : 0 ≤ r.behind
  e2 : r.behind ≤ n
theorem wstep_in {n a b : Int} {r : WRow} {t : Trip} (h : WIn n r) (ht : Tame t) : WIn (n + 1) (wstep a b r t) := by
  obtain ⟨h1, h2, h3, h4, h5, h6, h7, h8, h9, h10⟩ := h
  obtain ⟨t1, t2, t3, t4, t5, t6⟩ := ht
  constructor <;> simp only [wstep, wBeh, wOut, wIn, wCame, one] <;> split <;> omega
def InWin (g : List AV → Option (List AV)) : Prop := ∀ a b x : Int, g [.agg [.int .i64 a, .int .i64 b], i64 x] = some [bo (tin a b x)]
theorem windows_in_run (Γ : Env) (M : Nat) : InWin (run Γ M windows_in_f) := by
  intro a b x
  by_cases c1 : a ≤ x
  · simp -implicitDefEqProofs (disch := omega) [tin, c1]
  · simp -implicitDefEqProofs (disch := omega) [tin, c1]

def wF (l : List Trip) (i : Nat) : List (Nat × AV) := [(3, .loc 3 0 0), (4, .loc 4 0 0), (5, .loc 5 0 0), (7, .loc 7 0 0), (10, .c (.vs 7 (l.map Trip.cells))), (11, i64 l.length), (12, i64 i)]
def wO (a b : Int) (r : WRow) (t : Trip) : List (Nat × Obj) := [(3, ⟨2, [toAV [.int .i64 a, .int .i64 b]]⟩), (4, ⟨7, [toAV (WRow.cells ⟨0, 0, 0, 0, 0, 0, 0⟩)]⟩), (5, ⟨7, [toAV r.cells]⟩), (7, ⟨7, [toAV t.cells]⟩)]
section
variable {Γ : Env} {N : Nat} {l : List Trip} {i : Nat} {a b : Int} {r : WRow} {t : Trip} {n : Int}
theorem of_k3 (hI : InWin (Γ 62)) (hn : n ≤ 200) (hr : WIn n r) (ht : Tame t) : exec Γ N windows_Of_k3 ⟨wF l i, wO a b r t⟩ = some (.norm, ⟨wF l i, wO a b (wCame a b t r) t⟩) := by
  have e := hI a b t.arrive
  obtain ⟨h1, h2, h3, h4, h5, h6, h7, h8, h9, h10⟩ := hr
  cases c : tin a b t.arrive
  · rw [c] at e
    simp -implicitDefEqProofs (disch := omega) [windows_Of_k3_x, wF, wO, wCame, one, e, c]
  · rw [c] at e
    simp -implicitDefEqProofs (disch := omega) [windows_Of_k3_x, wF, wO, wCame, one, e, c]
theorem of_k2 (hI : InWin (Γ 62)) (hn : n ≤ 200) (hr : WIn n r) (ht : Tame t) : exec Γ N windows_Of_k2 ⟨wF l i, wO a b r t⟩ = some (.norm, ⟨wF l i, wO a b (wIn a b t r) t⟩) := by
  have e := hI a b t.board
  obtain ⟨h1, h2, h3, h4, h5, h6, h7, h8, h9, h10⟩ := hr
  obtain ⟨t1, t2, t3, t4, t5, t6⟩ := ht
  by_cases c0 : 0 ≤ t.board
  · cases c : tin a b t.board
    · rw [c] at e
      simp -implicitDefEqProofs (disch := omega) [windows_Of_k2_x, wF, wO, wIn, isIn, one, e, c, c0]
    · rw [c] at e
      simp -implicitDefEqProofs (disch := omega) [windows_Of_k2_x, wF, wO, wIn, isIn, one, e, c, c0]
  · simp -implicitDefEqProofs (disch := omega) [windows_Of_k2_x, wF, wO, wIn, isIn, one, c0]
theorem of_k1 (hI : InWin (Γ 62)) (hn : n ≤ 200) (hr : WIn n r) (ht : Tame t) : exec Γ N windows_Of_k1 ⟨wF l i, wO a b r t⟩ = some (.norm, ⟨wF l i, wO a b (wOut a b t r) t⟩) := by
  have e := hI a b t.alight
  obtain ⟨h1, h2, h3, h4, h5, h6, h7, h8, h9, h10⟩ := hr
  by_cases c0 : 0 ≤ t.alight
  · cases c : tin a b t.alight
    · rw [c] at e
      simp -implicitDefEqProofs (disch := omega) [windows_Of_k1_x, wF, wO, wOut, isOut, one, e, c, c0]
    · rw [c] at e
      simp -implicitDefEqProofs (disch := omega) [windows_Of_k1_x, wF, wO, wOut, isOut, one, e, c, c0]
  · simp -implicitDefEqProofs (disch := omega) [windows_Of_k1_x, wF, wO, wOut, isOut, one, c0]
end
theorem wCame_in {n a b : Int} {r : WRow} {t : Trip} (h : WIn n r) : WIn (n + 1) (wCame a b t r) := by
  obtain ⟨h1, h2, h3, h4, h5, h6, h7, h8, h9, h10⟩ := h
  constructor <;> simp only [wCame, one] <;> (try split) <;> omega
theorem wIn_in {n a b : Int} {r : WRow} {t : Trip} (h : WIn n r) (ht : Tame t) : WIn (n + 1) (wIn a b t r) := by
  obtain ⟨h1, h2, h3, h4, h5, h6, h7, h8, h9, h10⟩ := h
  obtain ⟨t1, t2, t3, t4, t5, t6⟩ := ht
  constructor <;> simp only [wIn, one] <;> (try split) <;> omega
theorem wOut_in {n a b : Int} {r : WRow} {t : Trip} (h : WIn n r) : WIn (n + 1) (wOut a b t r) := by
  obtain ⟨h1, h2, h3, h4, h5, h6, h7, h8, h9, h10⟩ := h
  constructor <;> simp only [wOut, one] <;> (try split) <;> omega
def Gd (l : List Trip) : Prop := l.length ≤ 100 ∧ ∀ t ∈ l, Tame t
def oL (l : List Trip) (i : Nat) : List (Nat × AV) := [(3, .loc 3 0 0), (4, .loc 4 0 0), (5, .loc 5 0 0), (10, .c (.vs 7 (l.map Trip.cells))), (11, i64 l.length), (12, i64 i)]
def oO (a b : Int) (r : WRow) : List (Nat × Obj) := [(3, ⟨2, [toAV [.int .i64 a, .int .i64 b]]⟩), (4, ⟨7, [toAV (WRow.cells ⟨0, 0, 0, 0, 0, 0, 0⟩)]⟩), (5, ⟨7, [toAV r.cells]⟩)]
theorem of_loop {Γ : Env} {N M : Nat} {l : List Trip} {a b : Int} (hI : InWin (Γ 62)) (h : Gd l) (hM : l.length < M) :
    ∃ ax s', (ax = .ex 0 ∧ s' = (⟨[(4, .loc 4 0 0), (5, .loc 5 0 0)], [(4, ⟨7, [toAV (WRow.cells ⟨0, 0, 0, 0, 0, 0, 0⟩)]⟩), (5, ⟨7, [toAV (winOf l a b).cells]⟩)]⟩ : St)) ∧
      ∀ s, nrm [3, 4, 5, 10, 11, 12] [3, 4, 5] s = ⟨oL l 0, oO a b ⟨a, b, 0, 0, 0, 0, 0⟩⟩ → lp (exec Γ N windows_Of_l1) M s = some (ax, s') := by
  refine lp_all (fun q : Nat × WRow => ⟨oL l q.1, oO a b q.2⟩) (fun q => q.1 ≤ l.length ∧ WIn q.1 q.2 ∧ (l.drop q.1).foldl (wstep a b) q.2 = winOf l a b) (fun q => l.length - q.1)
    (fun ax s' => ax = .ex 0 ∧ s' = (⟨[(4, .loc 4 0 0), (5, .loc 5 0 0)], [(4, ⟨7, [toAV (WRow.cells ⟨0, 0, 0, 0, 0, 0, 0⟩)]⟩), (5, ⟨7, [toAV (winOf l a b).cells]⟩)]⟩ : St)) (0, ⟨a, b, 0, 0, 0, 0, 0⟩) M (by simp [oL, oO]) ⟨by simp, by constructor <;> simp, by simp [winOf]⟩ (by simp; omega) ?_
  rintro ⟨i, r⟩ ⟨hi, hr, hf⟩
  simp only at hi hr hf
  have hl := h.1
  by_cases hlt : i < l.length
  · obtain ⟨t, ht⟩ : ∃ t, l[i]'hlt = t := ⟨_, rfl⟩
    have tm : Tame t := by rw [← ht]; exact h.2 _ (List.getElem_mem hlt)
    have r1 := wCame_in (a := a) (b := b) (t := t) hr
    have r2 := wIn_in (a := a) (b := b) r1 tm
    have r3 := wOut_in (a := a) (b := b) (t := t) r2
    have e3 := of_k3 (Γ := Γ) (N := N) (l := l) (i := i) (a := a) (b := b) hI (by omega) hr tm
    have e2 := of_k2 (Γ := Γ) (N := N) (l := l) (i := i) (a := a) (b := b) hI (by omega) r1 tm
    have e1 := of_k1 (Γ := Γ) (N := N) (l := l) (i := i) (a := a) (b := b) hI (by omega) r2 tm
    rw [List.drop_eq_getElem_cons hlt, List.foldl_cons, ht] at hf
    have hn : WIn ((i + 1 : Nat) : Int) (wstep a b r t) := by
      have := wstep_in (a := a) (b := b) hr tm
      simpa using this
    obtain ⟨g1, g2, g3, g4, g5, g6, g7, g8, g9, g10⟩ := r3
    simp only [wF, wO, WRow.cells, Trip.cells, toAV, List.map_cons, List.map_nil] at e1 e2 e3
    generalize hq : wOut a b t (wIn a b t (wCame a b t r)) = q at *
    have hw : wstep a b r t = wBeh b t q := by rw [← hq]; rfl
    by_cases c1 : t.arrive < b
    · by_cases c2 : t.board < 0
      · simp -implicitDefEqProofs (disch := omega) [oL, oO, ht, e1, e2, e3, c1, c2]
        exact ⟨i + 1, wstep a b r t, ⟨by omega, by rw [hw]; simp [wBeh, isBehind, one, c1, c2]⟩, ⟨by omega, by simpa using hn, hf⟩, by omega⟩
      · by_cases c3 : b ≤ t.board
        · simp -implicitDefEqProofs (disch := omega) [oL, oO, ht, e1, e2, e3, c1, c2, c3]
          exact ⟨i + 1, wstep a b r t, ⟨by omega, by rw [hw]; simp [wBeh, isBehind, one, c1, c2, c3]⟩, ⟨by omega, by simpa using hn, hf⟩, by omega⟩
        · simp -implicitDefEqProofs (disch := omega) [oL, oO, ht, e1, e2, e3, c1, c2, c3]
          exact ⟨i + 1, wstep a b r t, ⟨by omega, by rw [hw]; simp [wBeh, isBehind, one, c1, c2, c3]⟩, ⟨by omega, by simpa using hn, hf⟩, by omega⟩
    · simp -implicitDefEqProofs (disch := omega) [oL, oO, ht, e1, e2, e3, c1]
      exact ⟨i + 1, wstep a b r t, ⟨by omega, by rw [hw]; simp [wBeh, isBehind, one, c1]⟩, ⟨by omega, by simpa using hn, hf⟩, by omega⟩
  · obtain rfl : i = l.length := by omega
    have hf : r = winOf l a b := by rw [← hf]; simp
    subst hf
    simp -implicitDefEqProofs (disch := omega) [oL, oO]
def OfWin (g : List AV → Option (List AV)) : Prop := ∀ (l : List Trip) (a b : Int), Gd l → g [.c (.vs 7 (l.map Trip.cells)), .agg [.int .i64 a, .int .i64 b]] = some [.agg (winOf l a b).cells]
theorem windows_Of_run {Γ : Env} {M : Nat} (hM : 200 ≤ M) (hI : InWin (Γ 62)) : OfWin (run Γ M windows_Of_f) := by
  intro l a b h
  have hl := h.1
  obtain ⟨ax, s', ⟨rfl, rfl⟩, h3⟩ := of_loop (Γ := Γ) (N := M) (M := M) (a := a) (b := b) hI h (by omega)
  simp -implicitDefEqProofs (disch := first | omega | (simp [oL, oO] <;> fail) | assumption) [h3]

/-! ### How many windows -/
def many (w h : Int) : Int := h / w + (if 0 < h % w then 1 else 0)
def CountC (g : List AV → Option (List AV)) : Prop := ∀ w h : Int, InI64 w → InI64 h → g [.c (.vs 1 []), i64 w, i64 h] = some (if w < 1 ∨ h < 0 then [.c (.vs 1 []), i64 22] else if 65536 < many w h then [.c (.vs 1 []), i64 21] else [.c (.vs 1 (List.replicate (many w h).toNat [.int .i64 0])), i64 0])
theorem pulse_Count_run {Γ : Env} {M : Nat} : CountC (run Γ (M + 10) pulse_Count_f) := by
  intro w h hw hh
  obtain ⟨w1, w2⟩ := hw
  obtain ⟨h1, h2⟩ := hh
  by_cases c1 : w < 1
  · simp -implicitDefEqProofs (disch := omega) [c1]
  by_cases c2 : h < 0
  · simp -implicitDefEqProofs (disch := omega) [c1, c2]
  have d1 : 0 ≤ h / w := Int.ediv_nonneg (by omega) (by omega)
  have d2 : h / w ≤ h := Int.ediv_le_self _ (by omega)
  have d3 : h % w < w := Int.emod_lt_of_pos _ (by omega)
  have d4 : 0 ≤ h % w := Int.emod_nonneg _ (by omega)
  by_cases c3 : 0 < h % w
  · have c5 : h / w + 1 ≤ 9223372036854775807 := by
      rcases Int.lt_or_le h 9223372036854775807 with hlt | hge
      · omega
      · obtain rfl : h = 9223372036854775807 := by omega
        rcases Int.lt_or_le 1 w with hw1 | hw1
        · have := Int.ediv_lt_of_lt_mul (a := 9223372036854775807) (b := 9223372036854775807) (c := w) (by omega) (by omega)
          omega
        · obtain rfl : w = 1 := by omega
          simp at c3
    by_cases c4 : 65536 < many w h
    · have c4' : 65536 < h / w + 1 := by simpa [many, c3] using c4
      simp -implicitDefEqProofs (disch := omega) [c1, c2, c3, c4, c4']
    · have c4' : ¬ 65536 < h / w + 1 := by simpa [many, c3] using c4
      have hm : many w h = h / w + 1 := by simp [many, c3]
      simp -implicitDefEqProofs (disch := omega) [c1, c2, c3, c4, c4', hm, lp_succ, pulse_Count_l1_x]
  · by_cases c4 : 65536 < many w h
    · have c4' : 65536 < h / w := by simpa [many, c3] using c4
      simp -implicitDefEqProofs (disch := omega) [c1, c2, c3, c4, c4']
    · have c4' : ¬ 65536 < h / w := by simpa [many, c3] using c4
      have hm : many w h = h / w := by simp [many, c3]
      simp -implicitDefEqProofs (disch := omega) [c1, c2, c3, c4, c4', hm, lp_succ, pulse_Count_l1_x]
def winAt (l : List Trip) (w h : Int) (i : Nat) : WRow := winOf l (i * w) (if w < h - i * w then i * w + w else h)
def allWin (l : List Trip) (w h : Int) : List WRow := (List.range (many w h).toNat).map (winAt l w h)
def AllC (g : List AV → Option (List AV)) : Prop := ∀ (l : List Trip) (w h : Int), Gd l → InI64 w → InI64 h → g [.c (.vs 7 (l.map Trip.cells)), i64 w, i64 h] = some (if w < 1 ∨ h < 0 then [.c (.vs 7 []), i64 22] else if 65536 < many w h then [.c (.vs 7 []), i64 21] else [.c (.vs 7 ((allWin l w h).map WRow.cells)), i64 0])
def aF (l : List Trip) (w h : Int) (m : Int) (i : Nat) : List (Nat × AV) := [(0, .c (.vs 7 (l.map Trip.cells))), (1, i64 w), (2, i64 h), (10, .sl 10 i 0 i), (23, i64 m), (24, i64 i)]
def aRows (l : List Trip) (w h : Int) (i : Nat) : List (List AV) := ((List.range i).map (winAt l w h)).map (toAV ∘ WRow.cells)
theorem aRows_len (l : List Trip) (w h : Int) (i : Nat) : (aRows l w h i).length = i := by simp [aRows]
theorem aRows_succ (l : List Trip) (w h : Int) (i : Nat) : aRows l w h (i + 1) = aRows l w h i ++ [toAV (winAt l w h i).cells] := by simp [aRows, List.range_succ]
theorem aRows_nm (l : List Trip) (w h : Int) (i k : Nat) : nmRows k (aRows l w h i) = true := nmRows_comp _ _ _
theorem aRows_lc (l : List Trip) (w h : Int) (i k : Nat) : lcRows k (aRows l w h i) = true := lcRows_comp _ _ _
theorem all_loop {Γ : Env} {N M : Nat} {l : List Trip} {w h : Int} (hO : OfWin (Γ 15)) (hg : Gd l) (h1 : 1 ≤ w) (h2 : 0 ≤ h) (h3 : h ≤ 9223372036854775807) (hm : many w h ≤ 65536) (hM : 65536 < M) :
    ∃ ax s', (ax = .ex 0 ∧ s' = (⟨[(10, .sl 10 (many w h).toNat 0 (many w h).toNat)], [(10, ⟨7, aRows l w h (many w h).toNat⟩)]⟩ : St)) ∧
      ∀ s, nrm [0, 1, 2, 10, 23, 24] [10, 48] s = ⟨aF l w h (many w h) 0, [(10, ⟨7, aRows l w h 0⟩)]⟩ → lp (exec Γ N windows_All_l1) M s = some (ax, s') := by
  have d1 : 0 ≤ h / w := Int.ediv_nonneg (by omega) (by omega)
  have m0 : 0 ≤ many w h := by unfold many; split <;> omega
  have m1 : many w h ≤ h / w + 1 := by unfold many; split <;> omega
  refine lp_all (fun i : Nat => ⟨aF l w h (many w h) i, [(10, ⟨7, aRows l w h i⟩)]⟩) (fun i => (i : Int) ≤ many w h) (fun i => (many w h).toNat - i)
    (fun ax s' => ax = .ex 0 ∧ s' = (⟨[(10, .sl 10 (many w h).toNat 0 (many w h).toNat)], [(10, ⟨7, aRows l w h (many w h).toNat⟩)]⟩ : St)) 0 M (by simp [aF]) (by simpa using m0) (by omega) ?_
  intro i hi
  have hlen := aRows_len l w h i
  by_cases hlt : (i : Int) < many w h
  · have hmul : (i : Int) * w ≤ h := Int.mul_le_of_le_ediv (by omega) (by omega)
    have hmul0 : 0 ≤ (i : Int) * w := Int.mul_nonneg (by omega) (by omega)
    by_cases c : w < h - i * w
    · have e := hO l (i * w) (i * w + w) hg
      have hw : winAt l w h i = winOf l (i * w) (i * w + w) := by unfold winAt; rw [if_pos c]
      rw [← hw] at e
      simp only [WRow.cells] at e
      simp -implicitDefEqProofs (disch := omega) [aF, hlt, c, e, hlen, aRows_nm, aRows_lc]
      exact ⟨i + 1, ⟨⟨by omega, by omega⟩, (aRows_succ l w h i).symm⟩, by omega, by omega⟩
    · have e := hO l (i * w) h hg
      have hw : winAt l w h i = winOf l (i * w) h := by unfold winAt; rw [if_neg c]
      rw [← hw] at e
      simp only [WRow.cells] at e
      simp -implicitDefEqProofs (disch := omega) [aF, hlt, c, e, hlen, aRows_nm, aRows_lc]
      exact ⟨i + 1, ⟨⟨by omega, by omega⟩, (aRows_succ l w h i).symm⟩, by omega, by omega⟩
  · have hi2 : (i : Int) = many w h := by omega
    have hi3 : i = (many w h).toNat := by omega
    simp -implicitDefEqProofs (disch := omega) [aF, hlt, ← hi3]
theorem allRows_aRows (l : List Trip) (w h : Int) (i : Nat) : allRows (aRows l w h i) = some (((List.range i).map (winAt l w h)).map WRow.cells) := by
  unfold aRows; rw [allRows_comp]
theorem many_nonneg {w h : Int} (h1 : 1 ≤ w) (h2 : 0 ≤ h) : 0 ≤ many w h := by
  have : 0 ≤ h / w := Int.ediv_nonneg (by omega) (by omega)
  unfold many; split <;> omega
theorem windows_All_run {Γ : Env} {M : Nat} (hM : 65536 < M) (hO : OfWin (Γ 15)) (hC : CountC (Γ 61)) : AllC (run Γ M windows_All_f) := by
  intro l w h hg hw hh
  have e := hC w h hw hh
  by_cases c1 : w < 1 ∨ h < 0
  · rw [if_pos c1] at e ⊢
    simp -implicitDefEqProofs (disch := omega) [e]
  rw [if_neg c1] at e ⊢
  by_cases c2 : 65536 < many w h
  · rw [if_pos c2] at e ⊢
    simp -implicitDefEqProofs (disch := omega) [e]
  rw [if_neg c2] at e ⊢
  have m0 := many_nonneg (w := w) (h := h) (by omega) (by omega)
  obtain ⟨hw1, hw2⟩ := hw
  obtain ⟨hh1, hh2⟩ := hh
  obtain ⟨ax, s', ⟨rfl, rfl⟩, h3⟩ := all_loop (Γ := Γ) (N := M) (M := M) (l := l) (w := w) (h := h) hO hg (by omega) (by omega) hh2 (by omega) hM
  have hlen := aRows_len l w h (many w h).toNat
  have ht : (List.map WRow.cells (List.map (winAt l w h) (List.range (many w h).toNat))).take (many w h).toNat = List.map WRow.cells (List.map (winAt l w h) (List.range (many w h).toNat)) := List.take_of_length_le (by simp)
  have hz : aRows l w h 0 = [] := rfl
  have hmx : max (many w h) 0 = many w h := by omega
  simp -implicitDefEqProofs (disch := first | omega | (simp [aF, hz, hmx] <;> fail) | assumption) [e, h3, hlen, allRows_aRows, allWin, hmx, -List.map_map, ht]

/-! ### Rows as one -/
def rCame (l : List WRow) : Int := (l.map WRow.came).sum
def rInn (l : List WRow) : Int := (l.map WRow.inn).sum
def rOut (l : List WRow) : Int := (l.map WRow.out).sum
def rWaited (l : List WRow) : Int := (l.map WRow.waited).sum
def sumRow (l : List WRow) (h : l ≠ []) : WRow := ⟨(l.head h).frm, (l.getLast h).to, rCame l, rInn l, rOut l, rWaited l, (l.getLast h).behind⟩
def sO (r : WRow) : List (Nat × Obj) := [(2, ⟨7, [toAV (WRow.cells ⟨0, 0, 0, 0, 0, 0, 0⟩)]⟩), (4, ⟨7, [toAV r.cells]⟩)]
def sF (l : List WRow) (i : Nat) : List (Nat × AV) := [(2, .loc 2 0 0), (4, .loc 4 0 0), (33, .c (.vs 7 (l.map WRow.cells))), (34, i64 l.length), (35, i64 i)]
structure SInv (l : List WRow) (a b e : Int) (i : Nat) (r : WRow) : Prop where
  hi : i ≤ l.length
  f1 : r.frm = a
  f2 : r.to = b
  f3 : r.behind = e
  c1 : r.came + rCame (l.drop i) = rCame l
  c2 : r.inn + rInn (l.drop i) = rInn l
  c3 : r.out + rOut (l.drop i) = rOut l
  c4 : r.waited + rWaited (l.drop i) = rWaited l
  b1 : 0 ≤ r.came ∧ r.came ≤ 100 * i
  b2 : 0 ≤ r.inn ∧ r.inn ≤ 100 * i
  b3 : 0 ≤ r.out ∧ r.out ≤ 100 * i
  b4 : -214748364800 * i ≤ r.waited ∧ r.waited ≤ 214748364800 * i
theorem sum_loop {Γ : Env} {N M : Nat} {l : List WRow} {a b e : Int} (hl : l.length ≤ 65537) (hw : ∀ r ∈ l, WIn 100 r) (hM : l.length < M) :
    ∃ ax s', (ax = .ex 0 ∧ s' = (⟨[(2, .loc 2 0 0), (4, .loc 4 0 0)], sO ⟨a, b, rCame l, rInn l, rOut l, rWaited l, e⟩⟩ : St)) ∧
      ∀ s, nrm [2, 4, 33, 34, 35] [2, 4] s = ⟨sF l 0, sO ⟨a, b, 0, 0, 0, 0, e⟩⟩ → lp (exec Γ N windows_Sum_l1) M s = some (ax, s') := by
  refine lp_all (fun q : Nat × WRow => ⟨sF l q.1, sO q.2⟩) (fun q => SInv l a b e q.1 q.2) (fun q => l.length - q.1)
    (fun ax s' => ax = .ex 0 ∧ s' = (⟨[(2, .loc 2 0 0), (4, .loc 4 0 0)], sO ⟨a, b, rCame l, rInn l, rOut l, rWaited l, e⟩⟩ : St)) (0, ⟨a, b, 0, 0, 0, 0, e⟩) M (by simp [sF, sO]) (by constructor <;> simp) (by simp; omega) ?_
  rintro ⟨i, r⟩ hv
  have hv0 := hv
  obtain ⟨hi, f1, f2, f3, c1, c2, c3, c4, ⟨p1, p2⟩, ⟨p3, p4⟩, ⟨p5, p6⟩, ⟨p7, p8⟩⟩ := hv
  simp only at hi f1 f2 f3 c1 c2 c3 c4 p1 p2 p3 p4 p5 p6 p7 p8
  by_cases hlt : i < l.length
  · obtain ⟨t, ht⟩ : ∃ t, l[i]'hlt = t := ⟨_, rfl⟩
    obtain ⟨g1, g2, g3, g4, g5, g6, g7, g8, g9, g10⟩ := hw t (by rw [← ht]; exact List.getElem_mem hlt)
    rw [List.drop_eq_getElem_cons hlt, ht] at c1 c2 c3 c4
    simp only [rCame, rInn, rOut, rWaited, List.map_cons, List.sum_cons] at c1 c2 c3 c4
    simp -implicitDefEqProofs (disch := omega) [sF, sO, ht]
    refine ⟨i + 1, ⟨r.frm, r.to, r.came + t.came, r.inn + t.inn, r.out + t.out, r.waited + t.waited, r.behind⟩, ⟨by omega, rfl, rfl, rfl, rfl, rfl, rfl, rfl⟩, ?_, by omega⟩
    constructor <;> (try simp only [rCame, rInn, rOut, rWaited]) <;> first | omega | (constructor <;> omega) | assumption
  · obtain rfl : i = l.length := by omega
    simp [rCame, rInn, rOut, rWaited] at c1 c2 c3 c4
    obtain ⟨x1, x2, x3, x4, x5, x6, x7⟩ := r
    simp only at f1 f2 f3 c1 c2 c3 c4
    subst f1 f2 f3 c1 c2 c3 c4
    simp -implicitDefEqProofs (disch := omega) [sF, sO, rCame, rInn, rOut, rWaited]
def SumC (g : List AV → Option (List AV)) : Prop := (g [.c (.vs 7 [])] = some [.agg (WRow.cells ⟨0, 0, 0, 0, 0, 0, 0⟩), bo false]) ∧ ∀ (l : List WRow) (h : l ≠ []), l.length ≤ 65537 → (∀ r ∈ l, WIn 100 r) → g [.c (.vs 7 (l.map WRow.cells))] = some [.agg (sumRow l h).cells, bo true]
theorem windows_Sum_run {Γ : Env} {M : Nat} (hM : 65537 < M) : SumC (run Γ M windows_Sum_f) := by
  constructor
  · show run Γ M windows_Sum_f [.c (.vs 7 [])] = _
    simp -implicitDefEqProofs (disch := omega) []
  intro l h hl hw
  have hpos : 0 < l.length := List.length_pos_iff.2 h
  obtain ⟨ax, s', ⟨rfl, rfl⟩, h3⟩ := sum_loop (Γ := Γ) (N := M) (M := M) (l := l) (a := (l.head h).frm) (b := (l.getLast h).to) (e := (l.getLast h).behind) hl hw (by omega)
  have e1 : l[0]'hpos = l.head h := by rw [List.head_eq_getElem]
  have e2 : l[l.length - 1]'(by omega) = l.getLast h := by rw [List.getLast_eq_getElem]
  have hk : ((l.length : Int) - 1).toNat = l.length - 1 := by omega
  have hne : ¬ (l.length : Int) = 0 := by omega
  simp -implicitDefEqProofs (disch := first | omega | (simp [sF, sO] <;> fail) | assumption) [h3, e1, e2, hk, hne, h, sO, sumRow]

/-! ### Too many, or too far -/
def GreatC (g : List AV → Option (List AV)) : Prop := ∀ l : List Trip, l.length ≤ maxLen → ∃ b, g [.c (.vs 7 (l.map Trip.cells))] = some [bo b] ∧ (b = false → Gd l)
@[simp] def grR (l : List Trip) (k : Nat) (P : Prop) (ax : AX) (s' : St) : Prop := (ax = .ex 0 ∧ s' = ⟨[], []⟩ ∧ P) ∨ (ax = .ret ∧ s' = ⟨[(k, bo true)], []⟩)
theorem great24_loop {Γ : Env} {N M : Nat} {l : List Trip} (hl : l.length ≤ 100) (hM : l.length < M) :
    ∃ ax s', grR l 2 (∀ t ∈ l, Tame t) ax s' ∧ ∀ s, nrm [0, 3] [] s = ⟨[(0, .c (.vs 7 (l.map Trip.cells))), (3, i64 (0 : Nat))], []⟩ → lp (exec Γ N law24_Great_l1) M s = some (ax, s') := by
  refine lp_all (fun i : Nat => ⟨[(0, .c (.vs 7 (l.map Trip.cells))), (3, i64 i)], []⟩) (fun i => i ≤ l.length ∧ ∀ t ∈ l.take i, Tame t) (fun i => l.length - i)
    (fun ax s' => grR l 2 (∀ t ∈ l, Tame t) ax s') 0 M (by simp) ⟨by omega, by simp⟩ (by omega) ?_
  rintro i ⟨hi, hc⟩
  by_cases hlt : i < l.length
  · obtain ⟨t, ht⟩ : ∃ t, l[i]'hlt = t := ⟨_, rfl⟩
    obtain ⟨y, hy⟩ : ∃ y, maxL .i64 t.arrive [i64 t.board, i64 t.alight] = some y := ⟨_, by simp only [maxL, if_true]; rfl⟩
    have hy2 : y ≤ 1073741824 → t.arrive ≤ 1073741824 ∧ t.board ≤ 1073741824 ∧ t.alight ≤ 1073741824 := by
      intro h
      simp only [maxL, if_true, Option.some.injEq] at hy
      subst hy
      revert h
      split <;> split <;> intro h <;> omega
    by_cases c1 : t.arrive < -1
    · simp -implicitDefEqProofs (disch := omega) [-maxL, ht, hy, c1]
    by_cases c2 : t.board < -1
    · simp -implicitDefEqProofs (disch := omega) [-maxL, ht, hy, c1, c2]
    by_cases c3 : t.alight < -1
    · simp -implicitDefEqProofs (disch := omega) [-maxL, ht, hy, c1, c2, c3]
    by_cases c4 : 1073741824 < y
    · simp -implicitDefEqProofs (disch := omega) [-maxL, ht, hy, c1, c2, c3, c4]
    have hy3 := hy2 (by omega)
    have tm : Tame t := ⟨by omega, hy3.1, by omega, hy3.2.1, by omega, hy3.2.2⟩
    simp -implicitDefEqProofs (disch := omega) [-maxL, ht, hy, c1, c2, c3, c4]
    refine ⟨i + 1, by omega, ⟨by omega, fun x hx => ?_⟩, by omega⟩
    rw [List.take_succ_eq_append_getElem hlt, List.mem_append, ht] at hx
    rcases hx with hx | hx
    · exact hc x hx
    · simp at hx; subst hx; exact tm
  · obtain rfl : i = l.length := by omega
    have hc : ∀ t ∈ l, Tame t := by simpa using hc
    simp -implicitDefEqProofs (disch := omega) []
    exact hc
theorem great24_run {Γ : Env} {M : Nat} (hM : 200 ≤ M) : GreatC (run Γ M law24_Great_f) := by
  intro l hl
  have hmax := maxLen_eq
  by_cases c : 100 < l.length
  · exact ⟨true, by simp -implicitDefEqProofs (disch := omega) [], by simp⟩
  obtain ⟨ax, s', (⟨rfl, rfl, h4⟩ | ⟨rfl, rfl⟩), h3⟩ := great24_loop (Γ := Γ) (N := M) (M := M) (l := l) (by omega) (by omega)
  · exact ⟨false, by simp -implicitDefEqProofs (disch := first | omega | (simp <;> fail) | assumption) [h3], fun _ => ⟨by omega, h4⟩⟩
  · exact ⟨true, by simp -implicitDefEqProofs (disch := first | omega | (simp <;> fail) | assumption) [h3], by simp⟩
theorem great72_loop {Γ : Env} {N M : Nat} {l : List Trip} (hl : l.length ≤ 100) (hM : l.length < M) :
    ∃ ax s', grR l 2 True ax s' ∧ ∀ s, nrm [0, 3] [] s = ⟨[(0, .c (.vs 7 (l.map Trip.cells))), (3, i64 (0 : Nat))], []⟩ → lp (exec Γ N law72_great_l1) M s = some (ax, s') := by
  refine lp_all (fun i : Nat => ⟨[(0, .c (.vs 7 (l.map Trip.cells))), (3, i64 i)], []⟩) (fun i => i ≤ l.length) (fun i => l.length - i)
    (fun ax s' => grR l 2 True ax s') 0 M (by simp) (by omega) (by omega) ?_
  intro i hi
  by_cases hlt : i < l.length
  · obtain ⟨t, ht⟩ : ∃ t, l[i]'hlt = t := ⟨_, rfl⟩
    by_cases c1 : 0 ≤ t.board
    · by_cases c2 : t.board < t.arrive
      · simp -implicitDefEqProofs (disch := omega) [ht, c1, c2]
      · simp -implicitDefEqProofs (disch := omega) [ht, c1, c2]
        exact ⟨i + 1, by omega, by omega, by omega⟩
    · simp -implicitDefEqProofs (disch := omega) [ht, c1]
      exact ⟨i + 1, by omega, by omega, by omega⟩
  · obtain rfl : i = l.length := by omega
    simp -implicitDefEqProofs (disch := omega) []
theorem great72_run {Γ : Env} {M : Nat} (hM : 200 ≤ M) (hG : GreatC (Γ 60)) : GreatC (run Γ M law72_great_f) := by
  intro l hl
  obtain ⟨b, e, hb⟩ := hG l hl
  cases b with
  | true => exact ⟨true, by simp -implicitDefEqProofs (disch := omega) [e], by simp⟩
  | false =>
    have hg := hb rfl
    have := hg.1
    obtain ⟨ax, s', (⟨rfl, rfl, _⟩ | ⟨rfl, rfl⟩), h3⟩ := great72_loop (Γ := Γ) (N := M) (M := M) (l := l) (by omega) (by omega)
    · exact ⟨false, by simp -implicitDefEqProofs (disch := first | omega | (simp <;> fail) | assumption) [e, h3], fun _ => hg⟩
    · exact ⟨true, by simp -implicitDefEqProofs (disch := first | omega | (simp <;> fail) | assumption) [e, h3], by simp⟩

/-! ### Side by side -/
theorem fold_frm (a b : Int) : ∀ (l : List Trip) (r : WRow), (l.foldl (wstep a b) r).frm = r.frm ∧ (l.foldl (wstep a b) r).to = r.to ∧
    (l.foldl (wstep a b) r).came = r.came + (l.map fun t => one (tin a b t.arrive)).sum ∧ (l.foldl (wstep a b) r).inn = r.inn + (l.map fun t => one (isIn a b t)).sum ∧
    (l.foldl (wstep a b) r).out = r.out + (l.map fun t => one (isOut a b t)).sum ∧ (l.foldl (wstep a b) r).waited = r.waited + (l.map fun t => if isIn a b t then t.board - t.arrive else 0).sum ∧
    (l.foldl (wstep a b) r).behind = r.behind + (l.map fun t => one (isBehind b t)).sum
  | [], r => by simp
  | t :: l, r => by
    obtain ⟨h1, h2, h3, h4, h5, h6, h7⟩ := fold_frm a b l (wstep a b r t)
    simp only [List.foldl_cons, List.map_cons, List.sum_cons, h1, h2, h3, h4, h5, h6, h7]
    simp only [wstep, wBeh, wOut, wIn, wCame]
    refine ⟨trivial, trivial, ?_, ?_, ?_, ?_, ?_⟩ <;> omega
theorem winOf_in {l : List Trip} {a b : Int} (h : Gd l) : WIn 100 (winOf l a b) := by
  have key : ∀ (l : List Trip) (n : Int) (r : WRow), (∀ t ∈ l, Tame t) → WIn n r → WIn (n + l.length) (l.foldl (wstep a b) r) := by
    intro l
    induction l with
    | nil => intro n r _ h; simpa using h
    | cons t l ih =>
      intro n r ht h
      have := ih (n + 1) _ (fun x hx => ht x (by simp [hx])) (wstep_in (a := a) (b := b) h (ht t (by simp)))
      simp only [List.foldl_cons, List.length_cons]
      rw [show n + ((l.length + 1 : Nat) : Int) = n + 1 + l.length by omega]
      exact this
  have := key l 0 ⟨a, b, 0, 0, 0, 0, 0⟩ h.2 (by constructor <;> simp)
  obtain ⟨h1, h2, h3, h4, h5, h6, h7, h8, h9, h10⟩ := this
  have hl := h.1
  exact ⟨h1, by unfold winOf; omega, h3, by unfold winOf; omega, h5, by unfold winOf; omega, by unfold winOf; omega, by unfold winOf; omega, h9, by unfold winOf; omega⟩
theorem sum_win {l : List Trip} {f : Int → Int → Trip → Int} (hf : ∀ a b c t, a ≤ b → b ≤ c → f a b t + f b c t = f a c t) (h0 : ∀ a t, f a a t = 0) (a b c : Int) (h1 : a ≤ b) (h2 : b ≤ c) : (l.map (f a b)).sum + (l.map (f b c)).sum = (l.map (f a c)).sum := by
  induction l with
  | nil => simp
  | cons t l ih =>
    simp only [List.map_cons, List.sum_cons]
    have := hf a b c t h1 h2
    omega
theorem tin_split {a b c x : Int} (h1 : a ≤ b) (h2 : b ≤ c) : one (tin a b x) + one (tin b c x) = one (tin a c x) := by
  unfold tin one
  by_cases c1 : a ≤ x <;> by_cases c2 : x < b <;> by_cases c3 : b ≤ x <;> by_cases c4 : x < c <;> simp [c1, c2, c3, c4] <;> omega
/-- The end of the windows that are told. -/
def upTo (w h : Int) (k : Nat) : Int := if (k : Int) * w < h then k * w else h
theorem win_bounds {w h : Int} (hw : 1 ≤ w) (hh : 1 ≤ h) {k : Nat} (hk : (k : Int) < many w h) : upTo w h k = k * w ∧ (k : Int) * w < h ∧ upTo w h (k + 1) = (if w < h - k * w then k * w + w else h) ∧ k * w ≤ upTo w h (k + 1) ∧ upTo w h (k + 1) ≤ h := by
  have d := Int.mul_ediv_add_emod h w
  have d4 : 0 ≤ h % w := Int.emod_nonneg _ (by omega)
  have d3 : h % w < w := Int.emod_lt_of_pos _ (by omega)
  have hlt : (k : Int) * w < h := by
    unfold many at hk
    split at hk
    · have : (k : Int) * w ≤ h / w * w := Int.mul_le_mul_of_nonneg_right (by omega) (by omega)
      rw [Int.mul_comm w] at d
      omega
    · have : ((k : Int) + 1) * w ≤ h / w * w := Int.mul_le_mul_of_nonneg_right (by omega) (by omega)
      rw [Int.mul_comm w] at d
      rw [Int.add_mul] at this
      omega
  have e : ((k + 1 : Nat) : Int) * w = k * w + w := by rw [Int.natCast_add, Int.add_mul]; simp
  unfold upTo
  rw [e]
  refine ⟨if_pos hlt, hlt, ?_, ?_, ?_⟩ <;> (repeat' split) <;> omega
theorem sum_all {l : List Trip} {w h : Int} (hw : 1 ≤ w) (hh : 1 ≤ h) {f : Int → Int → Trip → Int} (hf : ∀ a b c t, a ≤ b → b ≤ c → f a b t + f b c t = f a c t) (h0 : ∀ a t, f a a t = 0) {p : WRow → Int} (hp : ∀ a b, p (winOf l a b) = (l.map (f a b)).sum) :
    ∀ k : Nat, (k : Int) ≤ many w h → (((List.range k).map (winAt l w h)).map p).sum = (l.map (f 0 (upTo w h k))).sum
  | 0, _ => by
    have : upTo w h 0 = 0 := by unfold upTo; simp; omega
    rw [this]
    simp only [List.range_zero, List.map_nil, List.sum_nil]
    symm
    clear hp
    induction l with
    | nil => simp
    | cons t l ih => simp only [List.map_cons, List.sum_cons, h0, ih]; rfl
  | k + 1, hk => by
    obtain ⟨b1, b2, b3, b4, b5⟩ := win_bounds hw hh (k := k) (by omega)
    have ih := sum_all hw hh hf h0 hp k (by omega)
    rw [List.range_succ, List.map_append, List.map_append, List.sum_append, ih]
    simp only [List.map_cons, List.map_nil, List.sum_cons, List.sum_nil, Int.add_zero]
    have : winAt l w h k = winOf l (k * w) (upTo w h (k + 1)) := by unfold winAt; rw [b3]
    rw [this, hp, b1]
    exact sum_win hf h0 0 _ _ (Int.mul_nonneg (by omega) (by omega)) b4
theorem upTo_end {w h : Int} (hw : 1 ≤ w) (hh : 1 ≤ h) : upTo w h (many w h).toNat = h := by
  have d := Int.mul_ediv_add_emod h w
  have d4 : 0 ≤ h % w := Int.emod_nonneg _ (by omega)
  have d3 : h % w < w := Int.emod_lt_of_pos _ (by omega)
  have m0 := many_nonneg hw (by omega : 0 ≤ h)
  have e : (((many w h).toNat : Nat) : Int) = many w h := by omega
  unfold upTo
  rw [e]
  unfold many
  rw [Int.mul_comm w] at d
  by_cases c : 0 < h % w
  · rw [if_pos c, Int.add_mul]
    rw [if_neg (by omega)]
  · rw [if_neg c, Int.add_zero]
    have : h / w * w = h := by omega
    rw [this]; simp
theorem one_sum_split {g : Int → Int → Trip → Bool} {x : Trip → Int} {c : Trip → Bool} (hg : ∀ a b t, g a b t = (c t && tin a b (x t))) : ∀ a b d t, a ≤ b → b ≤ d → one (g a b t) + one (g b d t) = one (g a d t) := by
  intro a b d t h1 h2
  rw [hg, hg, hg]
  cases c t
  · rfl
  · simpa using tin_split h1 h2
theorem tin_none (a x : Int) : tin a a x = false := by
  unfold tin
  by_cases h : a ≤ x <;> simp [h]
theorem sum_is_whole {l : List Trip} {w h : Int} (hw : 1 ≤ w) (hh : 1 ≤ h) (hne : allWin l w h ≠ []) : sumRow (allWin l w h) hne = winOf l 0 h := by
  have m0 := many_nonneg hw (by omega : 0 ≤ h)
  have hpos : 0 < (many w h).toNat := by
    rcases Nat.eq_zero_or_pos (many w h).toNat with h0 | h0
    · exact absurd (by unfold allWin; rw [h0]; rfl) hne
    · exact h0
  have hk : (((many w h).toNat : Nat) : Int) ≤ many w h := by omega
  have he := upTo_end hw hh
  have s1 : rCame (allWin l w h) = (l.map fun t => one (tin 0 h t.arrive)).sum := by
    have := sum_all (l := l) hw hh (f := fun a b t => one (tin a b t.arrive)) (fun a b c t h1 h2 => tin_split h1 h2) (fun a t => by rw [tin_none]; rfl) (p := WRow.came) (fun a b => by unfold winOf; rw [(fold_frm a b l _).2.2.1]; simp) _ hk
    rw [he] at this; exact this
  have s2 : rInn (allWin l w h) = (l.map fun t => one (isIn 0 h t)).sum := by
    have := sum_all (l := l) hw hh (f := fun a b t => one (isIn a b t)) (one_sum_split (x := Trip.board) (c := fun t => decide (0 ≤ t.board)) fun a b t => rfl) (fun a t => by unfold isIn; rw [tin_none]; simp [one]) (p := WRow.inn) (fun a b => by unfold winOf; rw [(fold_frm a b l _).2.2.2.1]; simp) _ hk
    rw [he] at this; exact this
  have s3 : rOut (allWin l w h) = (l.map fun t => one (isOut 0 h t)).sum := by
    have := sum_all (l := l) hw hh (f := fun a b t => one (isOut a b t)) (one_sum_split (x := Trip.alight) (c := fun t => decide (0 ≤ t.alight)) fun a b t => rfl) (fun a t => by unfold isOut; rw [tin_none]; simp [one]) (p := WRow.out) (fun a b => by unfold winOf; rw [(fold_frm a b l _).2.2.2.2.1]; simp) _ hk
    rw [he] at this; exact this
  have s4 : rWaited (allWin l w h) = (l.map fun t => if isIn 0 h t then t.board - t.arrive else 0).sum := by
    have := sum_all (l := l) hw hh (f := fun a b t => if isIn a b t then t.board - t.arrive else 0) (fun a b c t h1 h2 => by
      have := one_sum_split (g := isIn) (x := Trip.board) (c := fun t => decide (0 ≤ t.board)) (fun a b t => rfl) a b c t h1 h2
      unfold one at this
      cases e1 : isIn a b t <;> cases e2 : isIn b c t <;> cases e3 : isIn a c t <;> simp [e1, e2, e3] at this ⊢) (fun a t => by unfold isIn; rw [tin_none]; simp) (p := WRow.waited) (fun a b => by unfold winOf; rw [(fold_frm a b l _).2.2.2.2.2.1]; simp) _ hk
    rw [he] at this; exact this
  obtain ⟨g1, g2, g3, g4, g5, g6, g7⟩ := fold_frm 0 h l ⟨0, h, 0, 0, 0, 0, 0⟩
  have hf : (allWin l w h).head hne = winAt l w h 0 := by
    rw [List.head_eq_getElem]
    simp [allWin]
  have hlast : (allWin l w h).getLast hne = winAt l w h ((many w h).toNat - 1) := by
    rw [List.getLast_eq_getElem]
    simp [allWin]
  obtain ⟨b1, b2, b3, b4, b5⟩ := win_bounds hw hh (k := (many w h).toNat - 1) (by omega)
  rw [show (many w h).toNat - 1 + 1 = (many w h).toNat by omega, he] at b3
  have hl2 : winAt l w h ((many w h).toNat - 1) = winOf l (((many w h).toNat - 1 : Nat) * w) h := by unfold winAt; rw [← b3]
  have f1 := (fold_frm (0 * w) (if w < h - 0 * w then 0 * w + w else h) l ⟨0 * w, if w < h - 0 * w then 0 * w + w else h, 0, 0, 0, 0, 0⟩).1
  obtain ⟨-, q2, -, -, -, -, q7⟩ := fold_frm (((many w h).toNat - 1 : Nat) * w) h l ⟨((many w h).toNat - 1 : Nat) * w, h, 0, 0, 0, 0, 0⟩
  unfold sumRow
  rw [hf, hlast, hl2, s1, s2, s3, s4]
  have x1 : (winAt l w h 0).frm = 0 := by
    unfold winAt winOf
    simpa using f1
  have x2 : (winOf l (((many w h).toNat - 1 : Nat) * w) h).to = h := q2
  have x3 : (winOf l (((many w h).toNat - 1 : Nat) * w) h).behind = 0 + (l.map fun t => one (isBehind h t)).sum := q7
  rw [x1, x2, x3]
  generalize hW : winOf l 0 h = W
  unfold winOf at hW
  rw [hW] at g1 g2 g3 g4 g5 g6 g7
  obtain ⟨y1, y2, y3, y4, y5, y6, y7⟩ := W
  simp only at g1 g2 g3 g4 g5 g6 g7
  simp only [WRow.mk.injEq]
  omega

/-! ### The law of sums -/
def Law72_alive (g : List AV → Option (List AV)) : Prop := g [] = some [bo true]
theorem law72_alive_run {Γ : Env} {M : Nat} (hO : OfWin (Γ 15)) (hS : SumC (Γ 17)) : Law72_alive (run Γ M law72_alive_f) := by
  have e1 := hS.1
  have e2 := hO [⟨0, 3, 0, 0, -1, -1, -1⟩] 0 5 ⟨by simp, by simp only [List.mem_singleton, forall_eq]; constructor <;> simp⟩
  have e3 : winOf [⟨0, 3, 0, 0, -1, -1, -1⟩] 0 5 = ⟨0, 5, 1, 0, 0, 0, 1⟩ := by decide
  rw [e3] at e2
  simp at e1 e2
  simp -implicitDefEqProofs [Law72_alive, e1, e2]
def Law72S (g : List AV → Option (List AV)) : Prop := ∀ (l : List Trip) (w h : Int), l.length ≤ maxLen → InI64 w → InI64 h → g [.c (.vs 7 (l.map Trip.cells)), i64 w, i64 h] = some [bo true]
theorem law72_WindowsSums_run {Γ : Env} {M : Nat} (hA : Law72_alive (Γ 16)) (hO : OfWin (Γ 15)) (hS : SumC (Γ 17)) (hL : AllC (Γ 18)) (hG : GreatC (Γ 19)) : Law72S (run Γ M law72_WindowsSums_f) := by
  intro l w h hl hw hh
  have hA : Γ 16 [] = some [bo true] := hA
  obtain ⟨b, e0, hb⟩ := hG l hl
  cases b with
  | true => simp -implicitDefEqProofs (disch := omega) [e0]
  | false =>
    have hg := hb rfl
    by_cases c1 : w < 1
    · simp -implicitDefEqProofs (disch := omega) [e0, c1]
    by_cases c2 : h < 1
    · simp -implicitDefEqProofs (disch := omega) [e0, c1, c2]
    by_cases c3 : 1073741824 < h
    · simp -implicitDefEqProofs (disch := omega) [e0, c1, c2, c3]
    have d1 : 0 ≤ h / w := Int.ediv_nonneg (by omega) (by omega)
    have d2 : h / w ≤ h := Int.ediv_le_self _ (by omega)
    by_cases c4 : 200 < h / w
    · simp -implicitDefEqProofs (disch := omega) [e0, c1, c2, c3, c4]
    have e1 := hL l w h hg hw hh
    have hm : many w h ≤ 201 := by unfold many; split <;> omega
    rw [if_neg (by omega), if_neg (by omega)] at e1
    have hpos : 0 < many w h := by
      have d := Int.mul_ediv_add_emod h w
      have d4 : 0 ≤ h % w := Int.emod_nonneg _ (by omega)
      unfold many
      split
      · omega
      · have hz : h % w = 0 := by omega
        rcases Int.lt_or_le 0 (h / w) with hp | hp
        · omega
        · have : h / w = 0 := by omega
          rw [this, hz] at d; simp at d; omega
    have hne : allWin l w h ≠ [] := by
      unfold allWin
      intro h0
      have := congrArg List.length h0
      simp at this
      omega
    have hlen : (allWin l w h).length ≤ 65537 := by unfold allWin; simp; omega
    have e2 := hS.2 (allWin l w h) hne hlen fun r hr => by
      unfold allWin at hr
      simp only [List.mem_map] at hr
      obtain ⟨i, _, rfl⟩ := hr
      exact winOf_in hg
    rw [sum_is_whole (by omega) (by omega) hne] at e2
    have e3 := hO l 0 h hg
    simp only [WRow.cells] at e2 e3
    simp -implicitDefEqProofs (disch := omega) [-List.map_map, e0, c1, c2, c3, c4, e1, e2, e3, hA]
def windowsFns : Tab := [(15, windows_Of_f, 2), (16, law72_alive_f, 0), (17, windows_Sum_f, 1), (18, windows_All_f, 3), (19, law72_great_f, 1), (60, law24_Great_f, 1), (61, pulse_Count_f, 3), (62, windows_in_f, 2)]
def sumsTab : Tab := (0, law72_WindowsSums_f, 3) :: windowsFns
theorem sums_law : Law72S (env sumsTab noEnv 70000 8 0) := by
  have i1 (n : Nat) : InWin (env sumsTab noEnv 70000 (n + 1) 62) := fun a b x => by rw [env_run rfl rfl]; exact windows_in_run _ _ a b x
  have o1 (n : Nat) : OfWin (env sumsTab noEnv 70000 (n + 2) 15) := fun l a b h => by rw [env_run rfl rfl]; exact windows_Of_run (by omega) (i1 _) l a b h
  have c1 (n : Nat) : CountC (env sumsTab noEnv 70000 (n + 1) 61) := fun w h hw hh => by rw [env_run rfl rfl]; exact pulse_Count_run (M := 69990) w h hw hh
  have a1 (n : Nat) : AllC (env sumsTab noEnv 70000 (n + 3) 18) := fun l w h hg hw hh => by rw [env_run rfl rfl]; exact windows_All_run (by omega) (o1 _) (c1 _) l w h hg hw hh
  have s1 (n : Nat) : SumC (env sumsTab noEnv 70000 (n + 1) 17) := by
    have := windows_Sum_run (Γ := env sumsTab noEnv 70000 n) (M := 70000) (by omega)
    exact ⟨by rw [env_run rfl rfl]; exact this.1, fun l h hl hw => by rw [env_run rfl rfl]; exact this.2 l h hl hw⟩
  have g1 (n : Nat) : GreatC (env sumsTab noEnv 70000 (n + 1) 60) := fun l hl => by rw [env_run rfl rfl]; exact great24_run (by omega) l hl
  have g2 (n : Nat) : GreatC (env sumsTab noEnv 70000 (n + 2) 19) := fun l hl => by rw [env_run rfl rfl]; exact great72_run (by omega) (g1 _) l hl
  have al (n : Nat) : Law72_alive (env sumsTab noEnv 70000 (n + 3) 16) := by unfold Law72_alive; rw [env_run rfl rfl]; exact law72_alive_run (o1 _) (s1 _)
  intro l w h hl hw hh
  rw [env_run rfl rfl]
  exact law72_WindowsSums_run (al 4) (o1 5) (s1 6) (a1 4) (g2 5) l w h hl hw hh
end Go.Am
