/- Trips: how far each is, how many are so far, how long they waited and rode. -/
import Derived.Test.YtkhbfjmckgddeaaGreatDoorRko
import Derived.Test.YtkhbfjmckgddeaaGreatDoorTrpCode
set_option linter.unusedVariables false
set_option linter.unusedSimpArgs false
set_option maxRecDepth 10000
set_option maxHeartbeats 1000000
namespace Go.Am
abbrev vT (l : List Trip) : AV := .c (.vs 7 (l.map Trip.cells))
structure Tm (t : Trip) : Prop where
  arr : -1 ≤ t.arrive ∧ t.arrive ≤ 1073741824
  brd : -1 ≤ t.board ∧ t.board ≤ 1073741824
  alt : -1 ≤ t.alight ∧ t.alight ≤ 1073741824
structure Gd (l : List Trip) : Prop where
  n : l.length ≤ 100
  all : ∀ t ∈ l, Tm t
def dn (t : Trip) : Bool := decide (0 ≤ t.alight)
def doneL (l : List Trip) : List Trip := l.filter dn
def wv (w : Bool) (t : Trip) : Int := if w then t.board - t.arrive else t.alight - t.board
def wt (w : Bool) (l : List Trip) : List Int := (doneL l).map (wv w)
def phs (t : Trip) : Int := if 0 ≤ t.alight then 2 else if 0 ≤ t.board then 1 else 0
def cntP (p : Int) (l : List Trip) : Nat := (l.filter fun t => decide (phs t = p)).length
theorem doneL_snoc (l : List Trip) (k : Nat) (h : k < l.length) : doneL (l.take (k + 1)) = doneL (l.take k) ++ if dn l[k] then [l[k]] else [] := by
  unfold doneL; rw [List.take_succ_eq_append_getElem h, List.filter_append]; congr 1; cases c : dn l[k] <;> simp [c]
theorem doneL_mem {l : List Trip} {t : Trip} (h : t ∈ doneL l) : t ∈ l := (List.mem_filter.1 h).1
theorem doneL_len (l : List Trip) : (doneL l).length ≤ l.length := List.length_filter_le _ _
theorem wt_len (w : Bool) (l : List Trip) : (wt w l).length ≤ l.length := by unfold wt; rw [List.length_map]; exact doneL_len l
theorem wt_snoc (w : Bool) (l : List Trip) (k : Nat) (h : k < l.length) : wt w (l.take (k + 1)) = wt w (l.take k) ++ if dn l[k] then [wv w l[k]] else [] := by
  unfold wt; rw [doneL_snoc l k h, List.map_append]; split <;> rfl
theorem cntP_snoc (p : Int) (l : List Trip) (k : Nat) (h : k < l.length) : cntP p (l.take (k + 1)) = cntP p (l.take k) + if phs l[k] = p then 1 else 0 := by
  unfold cntP; rw [List.take_succ_eq_append_getElem h, List.filter_append, List.length_append]; congr 1
  by_cases c : phs l[k] = p <;> simp [c]
theorem cntP_le (p : Int) (l : List Trip) : cntP p l ≤ l.length := List.length_filter_le _ _
theorem wv_in {t : Trip} (h : Tm t) (w : Bool) : -1073741825 ≤ wv w t ∧ wv w t ≤ 1073741825 := by
  obtain ⟨h1, h2, h3⟩ := h
  unfold wv; split <;> omega
theorem wt_in {l : List Trip} (h : Gd l) (w : Bool) : ∀ x ∈ wt w l, -1073741825 ≤ x ∧ x ≤ 1073741825 := by
  intro x hx
  unfold wt at hx
  rw [List.mem_map] at hx
  obtain ⟨t, ht, rfl⟩ := hx
  exact wv_in (h.all t (doneL_mem ht)) w
theorem mxL_spec : ∀ (xs : List Int) (a : Int), ∃ m, maxL .i64 a (xs.map fun x => i64 x) = some m ∧ ∀ z, m ≤ z ↔ (a ≤ z ∧ ∀ x ∈ xs, x ≤ z)
  | [], a => ⟨a, rfl, fun z => by simp⟩
  | b :: xs, a => by
    obtain ⟨m, h1, h2⟩ := mxL_spec xs (if a < b then b else a)
    refine ⟨m, by simpa [maxL] using h1, fun z => ?_⟩
    rw [h2, List.forall_mem_cons]
    constructor
    · rintro ⟨h3, h4⟩
      split at h3
      · exact ⟨by omega, h3, h4⟩
      · exact ⟨h3, by omega, h4⟩
    · rintro ⟨h3, h4, h5⟩
      refine ⟨?_, h5⟩
      split <;> assumption
theorem trip_get {l : List Trip} {k : Nat} (hlt : k < l.length) {t : Trip} (h : l[k]'hlt = t) : (l.map Trip.cells)[k]? = some t.cells := by
  rw [List.getElem?_map, List.getElem?_eq_getElem hlt, h]; rfl
def TAtC (g : List AV → Option (List AV)) : Prop := ∀ t : Trip, g [.agg t.cells] = some [i64 (phs t)]
theorem trip_At_run (Γ : Env) (M : Nat) : TAtC (run Γ M trip_At_f) := by
  intro t
  unfold phs
  by_cases c1 : 0 ≤ t.alight
  · simp -implicitDefEqProofs (disch := omega) [c1]
  · by_cases c2 : 0 ≤ t.board
    · simp -implicitDefEqProofs (disch := omega) [c1, c2]
    · simp -implicitDefEqProofs (disch := omega) [c1, c2]
theorem ref24_At_run (Γ : Env) (M : Nat) : TAtC (run Γ M ref24_At_f) := by
  intro t
  unfold phs
  by_cases c1 : 0 ≤ t.alight
  · simp -implicitDefEqProofs (disch := omega) [c1]
  · by_cases c2 : 0 ≤ t.board
    · simp -implicitDefEqProofs (disch := omega) [c1, c2]
    · simp -implicitDefEqProofs (disch := omega) [c1, c2]
theorem phs_in (t : Trip) : phs t = 0 ∨ phs t = 1 ∨ phs t = 2 := by unfold phs; split; simp; split <;> simp
theorem phs_dn (t : Trip) : dn t = decide (phs t = 2) := by
  unfold phs dn
  by_cases c1 : 0 ≤ t.alight
  · simp [c1]
  · by_cases c2 : 0 ≤ t.board <;> simp [c1, c2]
def tRows (l : List Trip) : Rows := l.map (toAV ∘ Trip.cells)
theorem tRows_len (l : List Trip) : (tRows l).length = l.length := by simp [tRows]
def DoneC (g : List AV → Option (List AV)) : Prop := ∀ l : List Trip, l.length ≤ 100 → g [vT l] = some [vT (doneL l)]
theorem trip_done_run (Γ : Env) (M : Nat) (hM : 1000 < M) (hA : TAtC (Γ 51)) : DoneC (run Γ M trip_done_f) := by
  intro l hl
  obtain ⟨ax, s', ⟨rfl, rfl⟩, hin⟩ : ∃ ax s', (ax = .ex 0 ∧ s' = ⟨[(3, .sl 3 (doneL l).length 0 (doneL l).length)], [(3, ⟨7, tRows (doneL l)⟩)]⟩) ∧ ∀ s0, nrm [3, 6, 7, 8] [3, 18] s0 = ⟨[(3, .sl 3 (doneL (l.take 0)).length 0 (doneL (l.take 0)).length), (6, vT l), (7, i64 l.length), (8, i64 (0 : Nat))], [(3, ⟨7, tRows (doneL (l.take 0))⟩)]⟩ → lp (exec Γ M trip_done_l1) M s0 = some (ax, s') := by
    refine lp_all (fun q : Nat => ⟨[(3, .sl 3 (doneL (l.take q)).length 0 (doneL (l.take q)).length), (6, vT l), (7, i64 l.length), (8, i64 q)], [(3, ⟨7, tRows (doneL (l.take q))⟩)]⟩) (fun q => q ≤ l.length) (fun q => l.length - q) _ 0 M (by simp) (by simp) (by omega) ?_
    intro k hk
    by_cases hlt : k < l.length
    · obtain ⟨t, ht⟩ : ∃ w, l[k]'hlt = w := ⟨_, rfl⟩
      have hrow := trip_get hlt ht
      have e := hA t
      have hs := doneL_snoc l k hlt
      have hle := doneL_len (l.take k)
      rw [List.length_take] at hle
      rw [ht, phs_dn] at hs
      have hrl := tRows_len (doneL (l.take k))
      have hrn : ∀ z, nmRows z (tRows (doneL (l.take k))) = true := fun z => nmRows_comp z Trip.cells _
      have hrc : ∀ z, lcRows z (tRows (doneL (l.take k))) = true := fun z => lcRows_comp z Trip.cells _
      have hsn : tRows (doneL (l.take k) ++ [t]) = tRows (doneL (l.take k)) ++ [toAV t.cells] := by simp [tRows]
      simp only [Trip.cells] at e hrow
      simp only [Trip.cells, toAV, List.map_cons, List.map_nil] at hsn
      have hgo : ∀ X : List Trip, doneL (l.take (k + 1)) = X → ∃ q', ((⟨[(3, .sl 3 X.length 0 X.length), (6, vT l), (7, i64 l.length), (8, i64 ((k : Int) + 1))], [(3, ⟨7, tRows X⟩)]⟩ : St) = ⟨[(3, .sl 3 (doneL (l.take q')).length 0 (doneL (l.take q')).length), (6, vT l), (7, i64 l.length), (8, i64 q')], [(3, ⟨7, tRows (doneL (l.take q'))⟩)]⟩) ∧ q' ≤ l.length ∧ l.length - q' < l.length - k := by
        rintro X rfl; exact ⟨k + 1, by simp, by omega, by omega⟩
      by_cases d : phs t = 2
      · simp only [d, decide_true, if_true] at hs
        obtain ⟨q', h1, h2, h3⟩ := hgo _ hs
        rw [hsn, List.length_append, List.length_singleton] at h1
        generalize tRows (doneL (l.take k)) = G at *
        generalize (doneL (l.take k)).length = n at *
        rw [d] at e
        simp -implicitDefEqProofs (disch := first | omega | (simp [hrl, hrc, hrn] <;> fail) | assumption) [hlt, hrow, e, hrl, hrc, hrn]
        exact ⟨q', by simpa using h1, h2, h3⟩
      · simp only [d, decide_false, Bool.false_eq_true, if_false, List.append_nil] at hs
        obtain ⟨q', h1, h2, h3⟩ := hgo _ hs
        generalize tRows (doneL (l.take k)) = G at *
        generalize (doneL (l.take k)).length = n at *
        simp -implicitDefEqProofs (disch := first | omega | (simp [hrl, hrc, hrn] <;> fail) | assumption) [hlt, hrow, e, hrl, hrc, hrn, d]
        exact ⟨q', by simpa using h1, h2, h3⟩
    · obtain rfl : k = l.length := by omega
      rw [List.take_length]
      simp -implicitDefEqProofs (disch := first | omega | assumption)
  have hlp := hin ⟨[(3, .sl 3 0 0 0), (6, vT l), (7, i64 l.length), (8, i64 0)], [(3, ⟨7, []⟩)]⟩ (by simp [doneL, tRows])
  have ha := allRows_comp Trip.cells (doneL l)
  have hle := doneL_len l
  have hrl := tRows_len (doneL l)
  have hF2 : ((doneL l).map Trip.cells).take (doneL l).length = (doneL l).map Trip.cells := by rw [List.take_of_length_le]; simp
  rw [show (doneL l).map (toAV ∘ Trip.cells) = tRows (doneL l) from rfl] at ha
  generalize tRows (doneL l) = G at *
  generalize hX : (doneL l).map Trip.cells = X at *
  generalize (doneL l).length = n at *
  simp -implicitDefEqProofs (disch := first | omega | assumption) [hlp, ha, hrl, hF2, hX]
end Go.Am
