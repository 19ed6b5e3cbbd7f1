/- Law 50: BenchRows. -/
import Derived.Test.YtkhbfjmckgddeaaGreatDoorBnC
set_option linter.unusedVariables false
set_option linter.unusedSimpArgs false
set_option maxRecDepth 10000
set_option maxHeartbeats 2000000
namespace Go.Am
def logR (l : List Trip) : List D := [.vs 7 (l.map Trip.cells)]
abbrev vLs (ls : List (List Trip)) : AV := .c (.vs 1 (ls.map logR))
theorem logr_row (r : List D) (h : All2 WT [.sl ctTrip] r) : ∃ l : List Trip, r = logR l ∧ True := by
  rw [all2_cons] at h
  obtain ⟨_, _, rfl, h1, h2⟩ := h
  rw [all2_nil] at h2
  rw [wt_sl] at h1
  subst h2
  obtain ⟨rows, rfl, hl, h⟩ := h1
  obtain ⟨ts, rfl, -⟩ := rows_map trip_row rows h
  exact ⟨ts, rfl, trivial⟩
theorem wt_logs {d : D} (h : WT (.sl [.sl ctTrip]) d) : ∃ ls : List (List Trip), AV.c d = vLs ls := by
  rw [wt_sl] at h
  obtain ⟨rows, rfl, hl, h⟩ := h
  obtain ⟨ts, rfl, -⟩ := rows_map logr_row rows h
  exact ⟨ts, rfl⟩
theorem mnL_spec : ∀ (xs : List Int) (a : Int), ∃ m, minL .i64 a (xs.map fun x => i64 x) = some m ∧ ∀ z, z ≤ m ↔ (z ≤ a ∧ ∀ x ∈ xs, z ≤ x)
  | [], a => ⟨a, rfl, fun z => by simp⟩
  | b :: xs, a => by
    obtain ⟨m, h1, h2⟩ := mnL_spec xs (if b < a then b else a)
    refine ⟨m, by simpa [minL] using h1, fun z => ?_⟩
    rw [h2, List.forall_mem_cons]
    constructor
    · rintro ⟨h3, h4⟩
      split at h3
      · exact ⟨by omega, h3, h4⟩
      · exact ⟨h3, by omega, h4⟩
    · rintro ⟨h3, h4, h5⟩
      refine ⟨?_, h5⟩
      split <;> assumption
structure Tq (t : Trip) : Prop where
  tm : Tm t
  o : 0 ≤ t.alight → t.arrive ≤ t.board ∧ t.board ≤ t.alight
theorem wg_of {l : List Trip} (hn : l.length ≤ 60) (h : ∀ t ∈ l, Tq t) : Wg (wt true l) := by
  constructor
  · have := wt_len true l; omega
  · intro x hx
    unfold wt at hx
    rw [List.mem_map] at hx
    obtain ⟨t, ht, rfl⟩ := hx
    have h1 := h t (doneL_mem ht)
    have h2 : dn t = true := (List.mem_filter.1 ht).2
    unfold dn at h2
    have h3 := h1.o (of_decide_eq_true h2)
    obtain ⟨⟨a1, a2, a3⟩, -⟩ := h1
    simp only [wv, if_true]
    omega
def enAt (ls : List (List Trip)) (i : Nat) : En := ⟨(i : Int) % 4 + 1, wt true (ls.getD i [])⟩
def ensN (ls : List (List Trip)) (k : Nat) : List En := (List.range k).map (enAt ls)
theorem ensN_snoc (ls : List (List Trip)) (k : Nat) : ensN ls (k + 1) = ensN ls k ++ [enAt ls k] := by unfold ensN; rw [List.range_succ, List.map_append]; rfl
theorem ensN_len (ls : List (List Trip)) (k : Nat) : (ensN ls k).length = k := by simp [ensN]
theorem ensN_get (ls : List (List Trip)) {k i : Nat} (h : i < k) : (ensN ls k)[i]'(by rw [ensN_len]; exact h) = enAt ls i := by simp [ensN]
def rbR (es : List En) : Rows := es.map (toAV ∘ En.rowB)
def rrR (es : List En) : Rows := es.map (toAV ∘ En.rowR)
theorem rbR_len (es : List En) : (rbR es).length = es.length := by simp [rbR]
theorem rrR_len (es : List En) : (rrR es).length = es.length := by simp [rrR]
theorem rbR_snoc (es : List En) (e : En) : rbR (es ++ [e]) = rbR es ++ [toAV e.rowB] := by simp [rbR]
theorem rrR_snoc (es : List En) (e : En) : rrR (es ++ [e]) = rrR es ++ [toAV e.rowR] := by simp [rrR]
theorem log_get {ls : List (List Trip)} {k : Nat} (hlt : k < ls.length) {l : List Trip} (h : ls[k]'hlt = l) : (ls.map logR)[k]? = some (logR l) := by
  rw [List.getElem?_map, List.getElem?_eq_getElem hlt, h]; rfl
theorem l3_run (Γ : Env) (M : Nat) (hM : 1000 < M) (ls : List (List Trip)) (k : Nat) (hlt : k < ls.length) (l : List Trip) (hl : ls[k]'hlt = l) (hn : l.length ≤ 60) (a3 a4 : Nat) (G3 G4 : Rows) (hn3 : ∀ z, nmRows z G3 = true) (hn4 : ∀ z, nmRows z G4 = true) :
    ∃ ax s', ((ax = .ret ∧ ∃ ob, s' = ⟨[(2, bo true)], ob⟩) ∨ (ax = .ex 2 ∧ s' = ⟨[(0, vLs ls), (3, .sl 3 a3 0 a3), (4, .sl 4 a4 0 a4), (5, i64 k)], [(3, ⟨7, G3⟩), (4, ⟨6, G4⟩)]⟩ ∧ ∀ t ∈ l, Tq t)) ∧ ∀ s0, nrm [0, 3, 4, 5, 6] [3, 4, 91, 101] s0 = ⟨[(0, vLs ls), (3, .sl 3 a3 0 a3), (4, .sl 4 a4 0 a4), (5, i64 k), (6, i64 (0 : Nat))], [(3, ⟨7, G3⟩), (4, ⟨6, G4⟩)]⟩ → lp (exec Γ M law50_BenchRows_l3) M s0 = some (ax, s') := by
  have hrow := log_get hlt hl
  simp only [logR] at hrow
  refine lp_all (fun q : Nat => ⟨[(0, vLs ls), (3, .sl 3 a3 0 a3), (4, .sl 4 a4 0 a4), (5, i64 k), (6, i64 q)], [(3, ⟨7, G3⟩), (4, ⟨6, G4⟩)]⟩) (fun q => q ≤ l.length ∧ ∀ t ∈ l.take q, Tq t) (fun q => l.length - q) _ 0 M (by simp) ⟨by simp, by simp⟩ (by omega) ?_
  rintro j ⟨hj, hq⟩
  by_cases hjl : j < l.length
  · obtain ⟨t, ht⟩ : ∃ w, l[j]'hjl = w := ⟨_, rfl⟩
    have hr2 := trip_get hjl ht
    obtain ⟨m, hm, hm2⟩ := mnL_spec [t.board, t.alight] t.arrive
    obtain ⟨x, hx, hx2⟩ := mxL_spec [t.board, t.alight] t.arrive
    have hm3 := hm2 (-1)
    have hx3 := hx2 1073741824
    simp only [List.map_cons, List.map_nil, List.forall_mem_cons, Trip.cells] at hm hx hm3 hx3 hr2
    have hnext : Tq t → ∀ x ∈ l.take (j + 1), Tq x := by
      intro h x hx
      rw [List.take_succ_eq_append_getElem hjl, ht, List.mem_append] at hx
      rcases hx with hx | hx
      · exact hq x hx
      · rw [List.mem_singleton] at hx; exact hx ▸ h
    by_cases c1 : m < -1
    · simp -implicitDefEqProofs (disch := first | omega | assumption) [-minL, -maxL, hn3, hn4, hlt, hrow, hjl, hr2, hm, hx, c1]
    by_cases c2 : 1073741824 < x
    · simp -implicitDefEqProofs (disch := first | omega | assumption) [-minL, -maxL, hn3, hn4, hlt, hrow, hjl, hr2, hm, hx, c1, c2]
    obtain ⟨d1, d2, d3, -⟩ := hm3.1 (by omega)
    obtain ⟨f1, f2, f3, -⟩ := hx3.1 (by omega)
    have htm : Tm t := ⟨⟨d1, f1⟩, ⟨d2, f2⟩, ⟨d3, f3⟩⟩
    by_cases c3 : 0 ≤ t.alight
    · by_cases c4 : t.board < t.arrive
      · simp -implicitDefEqProofs (disch := first | omega | assumption) [-minL, -maxL, hn3, hn4, hlt, hrow, hjl, hr2, hm, hx, c1, c2, c3, c4]
      by_cases c5 : t.alight < t.board
      · simp -implicitDefEqProofs (disch := first | omega | assumption) [-minL, -maxL, hn3, hn4, hlt, hrow, hjl, hr2, hm, hx, c1, c2, c3, c4, c5]
      · simp -implicitDefEqProofs (disch := first | omega | assumption) [-minL, -maxL, hn3, hn4, hlt, hrow, hjl, hr2, hm, hx, c1, c2, c3, c4, c5]
        exact ⟨j + 1, by omega, ⟨by omega, hnext ⟨htm, fun _ => by omega⟩⟩, by omega⟩
    · simp -implicitDefEqProofs (disch := first | omega | assumption) [-minL, -maxL, hn3, hn4, hlt, hrow, hjl, hr2, hm, hx, c1, c2, c3]
      exact ⟨j + 1, by omega, ⟨by omega, hnext ⟨htm, fun h => absurd h c3⟩⟩, by omega⟩
  · obtain rfl : j = l.length := by omega
    rw [List.take_length] at hq
    simp -implicitDefEqProofs (disch := first | omega | assumption) [hlt, hrow, hn3, hn4]
    exact hq
theorem rb_get {es : List En} {i : Nat} (h : i < es.length) {e : En} (he : es[i]'h = e) : ∀ h2, (rbR es)[i]'h2 = toAV e.rowB := by
  intro h2; simp only [rbR, List.getElem_map, he]; rfl
theorem rr_get {es : List En} {i : Nat} (h : i < es.length) {e : En} (he : es[i]'h = e) : ∀ h2, (rrR es)[i]'h2 = toAV e.rowR := by
  intro h2; simp only [rrR, List.getElem_map, he]; rfl
theorem l4_run {Γ : Env} {M : Nat} (hM : 1000 < M) (h1 : OfB (Γ 418)) (h2 : OfR (Γ 417)) (h3 : IsC (Γ 416)) (ls : List (List Trip)) (hn : ls.length ≤ 8) :
    ∃ ax s', ((ax = .ret ∧ ∃ ob, s' = ⟨[(2, bo true)], ob⟩) ∨ (ax = .ex 0 ∧ s' = ⟨[(3, .sl 3 ls.length 0 ls.length), (4, .sl 4 ls.length 0 ls.length)], [(3, ⟨7, rbR (ensN ls ls.length)⟩), (4, ⟨6, rrR (ensN ls ls.length)⟩)]⟩ ∧ ∀ i, i < ls.length → (enAt ls i).Ok)) ∧ ∀ s0, nrm [0, 3, 4, 5] [3, 4, 91, 101] s0 = ⟨[(0, vLs ls), (3, .sl 3 0 0 0), (4, .sl 4 0 0 0), (5, i64 (0 : Nat))], [(3, ⟨7, rbR (ensN ls 0)⟩), (4, ⟨6, rrR (ensN ls 0)⟩)]⟩ → lp (exec Γ M law50_BenchRows_l4) M s0 = some (ax, s') := by
  refine lp_all (fun q : Nat => ⟨[(0, vLs ls), (3, .sl 3 q 0 q), (4, .sl 4 q 0 q), (5, i64 q)], [(3, ⟨7, rbR (ensN ls q)⟩), (4, ⟨6, rrR (ensN ls q)⟩)]⟩) (fun q => q ≤ ls.length ∧ ∀ i, i < q → (enAt ls i).Ok) (fun q => ls.length - q) _ 0 M (by simp) ⟨by simp, by simp⟩ (by omega) ?_
  rintro k ⟨hk, hq⟩
  by_cases hlt : k < ls.length
  · obtain ⟨l, hl⟩ : ∃ w, ls[k]'hlt = w := ⟨_, rfl⟩
    have hrow := log_get hlt hl
    simp only [logR] at hrow
    by_cases hn6 : 60 < l.length
    · have hn6' : 60 < (l.length : Int) := by omega
      simp -implicitDefEqProofs (disch := first | omega | assumption) [hlt, hrow, hn6, hn6']
    have hn6' : ¬ 60 < (l.length : Int) := by omega
    obtain ⟨ax, s', hR, hin⟩ := l3_run Γ M hM ls k hlt l hl (by omega) k k (rbR (ensN ls k)) (rrR (ensN ls k)) (fun z => nmRows_comp z En.rowB _) (fun z => nmRows_comp z En.rowR _)
    have hlp := hin ⟨[(0, vLs ls), (3, .sl 3 k 0 k), (4, .sl 4 k 0 k), (5, i64 k), (6, i64 0)], [(3, ⟨7, rbR (ensN ls k)⟩), (4, ⟨6, rrR (ensN ls k)⟩)]⟩ (by simp)
    clear hin
    rcases hR with ⟨rfl, ob, rfl⟩ | ⟨rfl, rfl, hok⟩
    · simp -implicitDefEqProofs (disch := first | omega | assumption) [hlt, hrow, hn6, hn6', hlp]
    · have hg : Gd l := ⟨by omega, fun t ht => (hok t ht).tm⟩
      have hw := wg_of (by omega) hok
      have a1 := h1 ((k : Int) % 4 + 1) l hg hw
      have a2 := h2 ((k : Int) % 4 + 1) l hg hw
      have hen : enAt ls k = ⟨(k : Int) % 4 + 1, wt true l⟩ := by
        unfold enAt; rw [List.getD_eq_getElem?_getD, List.getElem?_eq_getElem hlt, hl]; rfl
      rw [← hen] at a1 a2
      have a3 := h3 (enAt ls k)
      have hrb := rbR_snoc (ensN ls k) (enAt ls k)
      have hrr := rrR_snoc (ensN ls k) (enAt ls k)
      rw [← ensN_snoc] at hrb hrr
      have hl3 := rbR_len (ensN ls k)
      have hl4 := rrR_len (ensN ls k)
      rw [ensN_len] at hl3 hl4
      have hn3 : ∀ z, nmRows z (rbR (ensN ls k)) = true := fun z => nmRows_comp z En.rowB _
      have hc3 : ∀ z, lcRows z (rbR (ensN ls k)) = true := fun z => lcRows_comp z En.rowB _
      have hn4 : ∀ z, nmRows z (rrR (ensN ls k)) = true := fun z => nmRows_comp z En.rowR _
      have hc4 : ∀ z, lcRows z (rrR (ensN ls k)) = true := fun z => lcRows_comp z En.rowR _
      have hnx : ∀ i, i < k + 1 → (enAt ls i).Ok := by
        intro i hi
        by_cases c : i = k
        · subst c; rw [hen]; exact ⟨by simp only; omega, hw⟩
        · exact hq i (by omega)
      simp only [logA, En.rowB, En.rowR, toAV, List.map_cons, List.map_nil] at a1 a2 a3 hrb hrr
      generalize rbR (ensN ls k) = G3 at *
      generalize rrR (ensN ls k) = G4 at *
      generalize (enAt ls k).d = ed at *
      generalize (enAt ls k).n = en at *
      generalize (enAt ls k).wh = ew at *
      generalize (enAt ls k).rs = er at *
      generalize (enAt ls k).hi = eh at *
      have hg3 : ∀ r : List AV, (G3 ++ [r])[k]? = some r := fun r => by rw [List.getElem?_append_right (by omega), hl3]; simp
      have hg4 : ∀ r : List AV, (G4 ++ [r])[k]? = some r := fun r => by rw [List.getElem?_append_right (by omega), hl4]; simp
      simp -implicitDefEqProofs (disch := first | omega | (simp [hl3, hl4, hn3, hc3, hn4, hc4] <;> fail) | assumption) [hlt, hrow, hn6, hn6', hlp, a1, a2, a3, hl3, hl4, hn3, hc3, hn4, hc4, hg3, hg4]
      exact ⟨k + 1, ⟨⟨by omega, by omega⟩, hrb.symm, hrr.symm⟩, ⟨by omega, hnx⟩, by omega⟩
  · obtain rfl : k = ls.length := by omega
    simp -implicitDefEqProofs (disch := first | omega | assumption)
    exact hq
theorem BenchRows_run {Γ : Env} {M : Nat} (hM : 1000 < M) (ha : Γ 413 [] = some [bo true]) (h1 : OfB (Γ 418)) (h2 : OfR (Γ 417)) (h3 : IsC (Γ 416)) (h4 : BetB (Γ 415)) (h5 : BetR (Γ 414)) (h6 : BestB (Γ 409)) (h7 : BestR (Γ 410)) (h8 : BTextC (Γ 411)) (h9 : RTextC8 (Γ 412)) (ls : List (List Trip)) :
    run Γ M law50_BenchRows_f [vLs ls] = some [bo true] := by
  by_cases hn : 8 < ls.length
  · have hn' : 8 < (ls.length : Int) := by omega
    simp -implicitDefEqProofs (disch := first | omega | assumption) [hn, hn']
  have hn' : ¬ 8 < (ls.length : Int) := by omega
  obtain ⟨ax, s', hR, hin⟩ := l4_run hM h1 h2 h3 ls (by omega)
  have hlp4 := hin ⟨[(0, vLs ls), (3, .sl 3 0 0 0), (4, .sl 4 0 0 0), (5, i64 0)], [(3, ⟨7, []⟩), (4, ⟨6, []⟩)]⟩ (by simp [ensN, rbR, rrR])
  clear hin
  rcases hR with ⟨rfl, ob, rfl⟩ | ⟨rfl, rfl, hok⟩
  · simp -implicitDefEqProofs (disch := first | omega | assumption) [hn, hn', hlp4]
  obtain ⟨n, hnn⟩ : ∃ n, ls.length = n := ⟨_, rfl⟩
  rw [hnn] at hok hlp4
  have hnl : n ≤ 8 := by omega
  obtain ⟨es, hes⟩ : ∃ es, ensN ls n = es := ⟨_, rfl⟩
  have hel : es.length = n := by rw [← hes, ensN_len]
  have heg : ∀ i (h : i < n), es[i]'(by omega) = enAt ls i := fun i h => by subst hes; exact ensN_get ls h
  have heok : ∀ e ∈ es, e.Ok := by
    intro e he
    obtain ⟨i, hi, rfl⟩ := List.mem_iff_getElem.1 he
    rw [heg i (by omega)]; exact hok i (by omega)
  rw [hes] at hlp4
  have hl3 := rbR_len es
  have hl4 := rrR_len es
  rw [hel] at hl3 hl4
  have inner : ∀ (i : Nat) (hi : i < n), ∀ s0, nrm [3, 4, 9, 10] [3, 4, 91, 101] s0 = ⟨[(3, .sl 3 n 0 n), (4, .sl 4 n 0 n), (9, i64 i), (10, i64 (0 : Nat))], [(3, ⟨7, rbR es⟩), (4, ⟨6, rrR es⟩)]⟩ → lp (exec Γ M law50_BenchRows_l1) M s0 = some (.ex 6, ⟨[(3, .sl 3 n 0 n), (4, .sl 4 n 0 n), (9, i64 i)], [(3, ⟨7, rbR es⟩), (4, ⟨6, rrR es⟩)]⟩) := by
    intro i hi
    obtain ⟨ax, s', ⟨rfl, rfl⟩, hin⟩ : ∃ ax s', (ax = .ex 6 ∧ s' = ⟨[(3, .sl 3 n 0 n), (4, .sl 4 n 0 n), (9, i64 i)], [(3, ⟨7, rbR es⟩), (4, ⟨6, rrR es⟩)]⟩) ∧ ∀ s0, nrm [3, 4, 9, 10] [3, 4, 91, 101] s0 = ⟨[(3, .sl 3 n 0 n), (4, .sl 4 n 0 n), (9, i64 i), (10, i64 (0 : Nat))], [(3, ⟨7, rbR es⟩), (4, ⟨6, rrR es⟩)]⟩ → lp (exec Γ M law50_BenchRows_l1) M s0 = some (ax, s') := by
      refine lp_all (fun q : Nat => ⟨[(3, .sl 3 n 0 n), (4, .sl 4 n 0 n), (9, i64 i), (10, i64 q)], [(3, ⟨7, rbR es⟩), (4, ⟨6, rrR es⟩)]⟩) (fun q => q ≤ n) (fun q => n - q) _ 0 M (by simp) (by simp) (by omega) ?_
      intro k hk
      by_cases hlt : k < n
      · obtain ⟨a, hae⟩ : ∃ w, es[i]'(by omega) = w := ⟨_, rfl⟩
        obtain ⟨b, hbe⟩ : ∃ w, es[k]'(by omega) = w := ⟨_, rfl⟩
        have g1 := rb_get (by omega) hae
        have g2 := rb_get (by omega) hbe
        have g3 := rr_get (by omega) hae
        have g4 := rr_get (by omega) hbe
        have o1 := heok a (hae ▸ List.getElem_mem (by omega))
        have o2 := heok b (hbe ▸ List.getElem_mem (by omega))
        have a4 := h4 a b o1 o2
        have a5 := h5 a b o1 o2
        simp only [En.rowB, En.rowR, toAV, List.map_cons, List.map_nil] at g1 g2 g3 g4 a4 a5
        simp -implicitDefEqProofs (disch := first | omega | assumption) [hlt, hi, hl3, hl4, g1, g2, g3, g4, a4, a5]
        exact ⟨k + 1, by omega, by omega, by omega⟩
      · obtain rfl : k = n := by omega
        simp -implicitDefEqProofs (disch := first | omega | assumption) [hl3]
    exact hin
  obtain ⟨ax, s', ⟨rfl, rfl⟩, hin⟩ : ∃ ax s', (ax = .ex 4 ∧ s' = ⟨[(3, .sl 3 n 0 n), (4, .sl 4 n 0 n)], [(3, ⟨7, rbR es⟩), (4, ⟨6, rrR es⟩)]⟩) ∧ ∀ s0, nrm [3, 4, 9] [3, 4, 91, 101] s0 = ⟨[(3, .sl 3 n 0 n), (4, .sl 4 n 0 n), (9, i64 (0 : Nat))], [(3, ⟨7, rbR es⟩), (4, ⟨6, rrR es⟩)]⟩ → lp (exec Γ M law50_BenchRows_l2) M s0 = some (ax, s') := by
    refine lp_all (fun q : Nat => ⟨[(3, .sl 3 n 0 n), (4, .sl 4 n 0 n), (9, i64 q)], [(3, ⟨7, rbR es⟩), (4, ⟨6, rrR es⟩)]⟩) (fun q => q ≤ n) (fun q => n - q) _ 0 M (by simp) (by simp) (by omega) ?_
    intro k hk
    by_cases hlt : k < n
    · have hlp := inner k hlt ⟨[(3, .sl 3 n 0 n), (4, .sl 4 n 0 n), (9, i64 k), (10, i64 0)], [(3, ⟨7, rbR es⟩), (4, ⟨6, rrR es⟩)]⟩ (by simp)
      simp -implicitDefEqProofs (disch := first | omega | assumption) [hlt, hl3, hl4, hlp]
      exact ⟨k + 1, by omega, by omega, by omega⟩
    · obtain rfl : k = n := by omega
      simp -implicitDefEqProofs (disch := first | omega | assumption) [hl3]
  have hlp2 := hin ⟨[(3, .sl 3 n 0 n), (4, .sl 4 n 0 n), (9, i64 0)], [(3, ⟨7, rbR es⟩), (4, ⟨6, rrR es⟩)]⟩ (by simp)
  clear hin
  have b1 := h6 es (by omega) heok
  have b2 := h7 es (by omega) heok
  have b3 := h8 es (by omega) heok
  have b4 := h9 es (by omega) heok
  have r3 := allRows_comp En.rowB es
  have r4 := allRows_comp En.rowR es
  rw [show es.map (toAV ∘ En.rowB) = rbR es from rfl] at r3
  rw [show es.map (toAV ∘ En.rowR) = rrR es from rfl] at r4
  have t3 : (es.map En.rowB).take n = es.map En.rowB := by rw [List.take_of_length_le]; simp [hel]
  have t4 : (es.map En.rowR).take n = es.map En.rowR := by rw [List.take_of_length_le]; simp [hel]
  generalize rbR es = G3 at *
  generalize rrR es = G4 at *
  generalize linesG (wid (tabN es (bestK es es.length) es.length)) (tabN es (bestK es es.length) es.length) = T at *
  generalize bestK es es.length = B at *
  generalize es.map En.rowB = X3 at *
  generalize es.map En.rowR = X4 at *
  rw [hnn] at hn hn'
  simp -implicitDefEqProofs (disch := first | omega | assumption) [hnn, hn, hn', hlp4, hlp2, hl3, hl4, r3, r4, t3, t4, b1, b2, b3, b4, ha]
end Go.Am
