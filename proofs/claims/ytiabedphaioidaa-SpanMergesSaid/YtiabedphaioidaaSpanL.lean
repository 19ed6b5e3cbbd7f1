/- Law 9: whether a row has a number, by halves; SpanSets, SpanLens. -/
import Derived.Test.YtiabedphaioidaaSpanV
set_option linter.unusedVariables false
set_option linter.unusedSimpArgs false
set_option maxRecDepth 10000
set_option maxHeartbeats 2000000
namespace Go.Am
def CmpH (g : List AV → Option (List AV)) : Prop := ∀ (s : Sp) (n : Int), g [.agg s.cells, i64 n] = some [i64 (if s.t ≤ n then -1 else 1)]
theorem span_Has_1_run (Γ : Env) (M : Nat) : CmpH (run Γ M span_Has_1_f) := by
  intro s n
  by_cases c : s.t ≤ n
  · simp -implicitDefEqProofs (disch := first | omega | assumption) [Sp.cells, c]
  · simp -implicitDefEqProofs (disch := first | omega | assumption) [Sp.cells, c]
/-- Behind how many spans that end the number is. -/
structure Cut (l : List Sp) (n : Int) (i : Nat) : Prop where
  le : i ≤ l.length
  lo : ∀ k (h : k < l.length), k < i → l[k].t ≤ n
  hi : ∀ k (h : k < l.length), i ≤ k → n < l[k].t
theorem cut_has {l : List Sp} {n : Int} {i : Nat} (hr : SRight l) (h : Cut l n i) : HasS l n ↔ ∃ hi : i < l.length, l[i].f ≤ n := by
  constructor
  · rintro ⟨s, hs, h1, h2⟩
    obtain ⟨k, hk, rfl⟩ := List.getElem_of_mem hs
    rcases Nat.lt_trichotomy k i with h3 | h3 | h3
    · have := h.lo k hk h3; omega
    · subst h3; exact ⟨hk, h1⟩
    · have h4 := h.hi i (by omega) (Nat.le_refl _)
      have := List.pairwise_iff_getElem.1 hr.apart i k (by omega) hk h3
      omega
  · rintro ⟨hi, h1⟩
    exact ⟨l[i], List.getElem_mem hi, h1, h.hi i hi (Nat.le_refl _)⟩
theorem ends_mono {l : List Sp} (hr : SRight l) {i k : Nat} (hk : k < l.length) (h : i ≤ k) : (l[i]'(by omega)).t ≤ l[k].t := by
  rcases Nat.eq_or_lt_of_le h with h1 | h1
  · subst h1; exact Int.le_refl _
  · have := List.pairwise_iff_getElem.1 hr.apart i k (by omega) hk h1
    have := hr.some l[k] (List.getElem_mem hk)
    omega
def BinC (fv : Nat) (g : St → Option (List AV × List (Nat × Obj))) : Prop := ∀ (l : List Sp) (n : Int), l.length ≤ 20000 → SRight l → ∃ (i : Nat) (b : Bool), Cut l n i ∧ ∀ gs ob, Gh gs → g ⟨(0, spL l) :: (1, i64 n) :: (2, .ot (.fn fv)) :: gs, ob⟩ = some ([i64 i, bo b], ob)
theorem bin_run (Γ : Env) (M : Nat) (hM : 20100 < M) (hc : CmpH (Γ.fv fv_span_Has_1)) : BinC fv_span_Has_1 (runP Γ M slices_BinarySearchFunc_Sapi_Span_api_Span_int_f) := by
  intro l n hl hr
  simp only [fv_span_Has_1] at hc ⊢
  obtain ⟨i, hcut⟩ : ∃ i, Cut l n i := by
    refine ⟨(l.takeWhile fun s => decide (s.t ≤ n)).length, ?_⟩
    have h0 : ∀ l : List Sp, SRight l → Cut l n (l.takeWhile fun s => decide (s.t ≤ n)).length := by
      intro l
      induction l with
      | nil => intro _; exact ⟨by simp, fun k h => by simp at h, fun k h => by simp at h⟩
      | cons s l ih =>
        intro h
        rw [List.takeWhile_cons]
        by_cases c : s.t ≤ n
        · rw [if_pos (by simpa using c)]
          obtain ⟨h1, h2, h3⟩ := ih h.tail
          refine ⟨by simp only [List.length_cons]; omega, fun k hk hk2 => ?_, fun k hk hk2 => ?_⟩
          · cases k with
            | zero => exact c
            | succ k => exact h2 k (by simpa using hk) (by simpa using hk2)
          · cases k with
            | zero => simp at hk2
            | succ k => exact h3 k (by simpa using hk) (by simpa using hk2)
        · rw [if_neg (by simpa using c)]
          refine ⟨by simp, fun k hk hk2 => by simp at hk2, fun k hk _ => ?_⟩
          cases k with
          | zero => simp only [List.getElem_cons_zero]; omega
          | succ k =>
            have hk' : k < l.length := by simpa using hk
            have := h.head.2 l[k] (List.getElem_mem hk')
            have := h.some l[k] (by simp)
            simp only [List.getElem_cons_succ]; omega
    exact h0 l hr
  have hile := hcut.le
  have loop : ∀ gs ob, Gh gs → ∀ t, nrmP [0, 1, 2, 8, 9, 10] 0 0 [] t = ⟨(0, spL l) :: (1, i64 n) :: (2, .ot (.fn fv_span_Has_1)) :: (8, i64 l.length) :: (9, i64 0) :: (10, i64 l.length) :: gs, ob⟩ → lp (exec Γ M slices_BinarySearchFunc_Sapi_Span_api_Span_int_l1) M t = some (.ex 0, ⟨(0, spL l) :: (1, i64 n) :: (2, .ot (.fn fv_span_Has_1)) :: (8, i64 l.length) :: (9, i64 i) :: gs, ob⟩) := by
    intro gs ob hg
    obtain ⟨ax, s', ⟨rfl, rfl⟩, hin⟩ : ∃ ax s', (ax = .ex 0 ∧ s' = ⟨(0, spL l) :: (1, i64 n) :: (2, .ot (.fn fv_span_Has_1)) :: (8, i64 l.length) :: (9, i64 i) :: gs, ob⟩) ∧ ∀ t, nrmP [0, 1, 2, 8, 9, 10] 0 0 [] t = ⟨(0, spL l) :: (1, i64 n) :: (2, .ot (.fn fv_span_Has_1)) :: (8, i64 l.length) :: (9, i64 (0 : Nat)) :: (10, i64 l.length) :: gs, ob⟩ → lp (exec Γ M slices_BinarySearchFunc_Sapi_Span_api_Span_int_l1) M t = some (ax, s') := by
      refine lp_allP (fun q : Nat × Nat => ⟨(0, spL l) :: (1, i64 n) :: (2, .ot (.fn fv_span_Has_1)) :: (8, i64 l.length) :: (9, i64 q.1) :: (10, i64 q.2) :: gs, ob⟩) (fun q => q.1 ≤ i ∧ i ≤ q.2 ∧ q.2 ≤ l.length) (fun q => q.2 - q.1) _ (0, l.length) M ⟨by simp, by simpa using hile, by simp⟩ (by dsimp only; omega) ?_
      rintro ⟨x, j⟩ ⟨h1, h2, h3⟩
      dsimp only at h1 h2 h3 ⊢
      by_cases hlt : x < j
      · obtain ⟨h, hh⟩ : ∃ h, (x + j) / 2 = h := ⟨_, rfl⟩
        have hhl : h < l.length := by omega
        have hdiv : ((x : Int) + j).fdiv (2 ^ min 1 IntKind.u64.bits) = h := by
          rw [show (2 : Int) ^ min 1 IntKind.u64.bits = 2 from rfl, Int.fdiv_eq_ediv_of_nonneg _ (by omega)]; omega
        obtain ⟨s, hs⟩ : ∃ t, l[h]'hhl = t := ⟨_, rfl⟩
        have e := hc s n
        by_cases c : s.t ≤ n
        · have hih : h < i := by
            rcases Nat.lt_or_ge h i with h4 | h4
            · exact h4
            · have := hcut.hi h hhl h4; rw [hs] at this; omega
          rw [if_pos c] at e
          simp only [Sp.cells] at e
          simp -implicitDefEqProofs (disch := first | omega | (simp [hg] <;> fail) | assumption) [hg, hlt, hdiv, hhl, hs, Sp.cells, e]
          exact ⟨h + 1, j, ⟨by omega, rfl⟩, by omega, by omega⟩
        · have hih : i ≤ h := by
            rcases Nat.lt_or_ge h i with h4 | h4
            · have := hcut.lo h hhl h4; rw [hs] at this; omega
            · exact h4
          rw [if_neg c] at e
          simp only [Sp.cells] at e
          simp -implicitDefEqProofs (disch := first | omega | (simp [hg] <;> fail) | assumption) [hg, hlt, hdiv, hhl, hs, Sp.cells, e]
          exact ⟨x, h, ⟨rfl, rfl⟩, by omega, by omega⟩
      · obtain rfl : x = i := by omega
        obtain rfl : x = j := by omega
        simp -implicitDefEqProofs (disch := first | omega | (simp [hg] <;> fail) | assumption) [hg]
    exact hin
  have hlp : ∀ gs ob, Gh gs → lp (exec Γ M slices_BinarySearchFunc_Sapi_Span_api_Span_int_l1) M ⟨(0, spL l) :: (1, i64 n) :: (2, .ot (.fn fv_span_Has_1)) :: (8, i64 l.length) :: (9, i64 0) :: (10, i64 l.length) :: gs, ob⟩ = some (.ex 0, ⟨(0, spL l) :: (1, i64 n) :: (2, .ot (.fn fv_span_Has_1)) :: (8, i64 l.length) :: (9, i64 i) :: gs, ob⟩) := fun gs ob hg => loop gs ob hg _ (by simp [hg])
  simp only [fv_span_Has_1] at hlp
  by_cases c : i < l.length
  · obtain ⟨s, hs⟩ : ∃ t, l[i]'c = t := ⟨_, rfl⟩
    have e := hc s n
    simp only [Sp.cells] at e
    by_cases d : s.t ≤ n
    · rw [if_pos d] at e
      refine ⟨i, false, hcut, fun gs ob hg => ?_⟩
      simp -implicitDefEqProofs (disch := first | omega | (simp [hg] <;> fail) | assumption) [hg, hlp, c, hs, Sp.cells, e]
    · rw [if_neg d] at e
      refine ⟨i, false, hcut, fun gs ob hg => ?_⟩
      simp -implicitDefEqProofs (disch := first | omega | (simp [hg] <;> fail) | assumption) [hg, hlp, c, hs, Sp.cells, e]
  · refine ⟨i, false, hcut, fun gs ob hg => ?_⟩
    simp -implicitDefEqProofs (disch := first | omega | (simp [hg] <;> fail) | assumption) [hg, hlp, c]
abbrev BinC' : (St → Option (List AV × List (Nat × Obj))) → Prop := BinC fv_span_Has_1
def HasPC (g : List AV → Option (List AV)) : Prop := ∀ (l : List Sp) (n : Int), l.length ≤ 20000 → SRight l → g [spL l, i64 n] = some [bo (decide (HasS l n))]
theorem span_Has_run (Γ : Env) (M : Nat) (hb : BinC fv_span_Has_1 (Γ.pt 302)) : HasPC (run Γ M span_Has_f) := by
  intro l n hl hr
  obtain ⟨i, b, hcut, e⟩ := hb l n hl hr
  have hh := cut_has hr hcut
  have hile := hcut.le
  simp only [fv_span_Has_1] at e
  by_cases c : i < l.length
  · obtain ⟨s, hs⟩ : ∃ t, l[i]'c = t := ⟨_, rfl⟩
    by_cases d : s.f ≤ n
    · have : HasS l n := hh.2 ⟨c, by rw [hs]; exact d⟩
      simp -implicitDefEqProofs (disch := first | omega | (simp <;> fail) | assumption) [e, c, hs, Sp.cells, d, this]
    · have : ¬ HasS l n := fun h => by obtain ⟨_, h1⟩ := hh.1 h; rw [hs] at h1; exact d h1
      simp -implicitDefEqProofs (disch := first | omega | (simp <;> fail) | assumption) [e, c, hs, Sp.cells, d, this]
  · have : ¬ HasS l n := fun h => by obtain ⟨h1, _⟩ := hh.1 h; exact c h1
    simp -implicitDefEqProofs (disch := first | omega | (simp <;> fail) | assumption) [e, c, this]
/-! ### The laws -/
theorem kindP0 (a b : List Sp) (n : Int) : kindP a b 0 n = true ↔ HasS a n := by simp [kindP]
theorem kindP1 (a b : List Sp) (n : Int) : kindP a b 1 n = true ↔ HasS a n ∧ HasS b n := by simp [kindP]
theorem kindP2 (a b : List Sp) (n : Int) : kindP a b 2 n = true ↔ HasS a n ∧ ¬ HasS b n := by simp [kindP]
theorem SpanSets_run (Γ : Env) (M : Nat) (hK : MakeC (Γ 263)) (hA : AndC (Γ 273)) (hS : SubC (Γ 274)) (hE : EqSpC (Γ 264)) (hH : HasPC (Γ 267)) (ha : Γ 269 [] = some [bo true]) (x y : List Sp) (ox : ∀ s ∈ x, s.Ok) (oy : ∀ s ∈ y, s.Ok) (n : Int) : run Γ M law09_SpanSets_f [spL x, spL y, i64 n] = some [bo true] := by
  by_cases cx : 40 < x.length
  · have cx' : 40 < (x.length : Int) := by omega
    simp -implicitDefEqProofs (disch := first | omega | assumption) [cx, cx']
  by_cases cy : 40 < y.length
  · have cx' : ¬ 40 < (x.length : Int) := by omega
    have cy' : 40 < (y.length : Int) := by omega
    simp -implicitDefEqProofs (disch := first | omega | assumption) [cx, cx', cy, cy']
  have cx' : ¬ 40 < (x.length : Int) := by omega
  have cy' : ¬ 40 < (y.length : Int) := by omega
  have k1 := hK x [] 0 (by omega) (by simp)
  have k2 := hK y [] 0 (by omega) (by simp)
  obtain ⟨ra, sa⟩ := makeS_spec x [] 0
  obtain ⟨rb, sb⟩ := makeS_spec y [] 0
  have la := makeS_len x [] 0
  have lb := makeS_len y [] 0
  have oa := makeS_ok (b := []) ox (by simp) 0
  have ob := makeS_ok (b := []) oy (by simp) 0
  simp only [List.length_nil] at la lb
  have k1 : Γ 263 [spL x, .c (.vs 2 []), i64 0] = some [spL (makeS x [] 0)] := k1
  have k2 : Γ 263 [spL y, .c (.vs 2 []), i64 0] = some [spL (makeS y [] 0)] := k2
  generalize makeS x [] 0 = a at *
  generalize makeS y [] 0 = b at *
  obtain ⟨both, e1, r1, o1, l1, s1⟩ := hA a b (by omega) (by omega) ra rb oa ob
  obtain ⟨one, e2, r2, o2, s2⟩ := hS a b (by omega) (by omega) ra rb oa ob
  have k3 := hK a b 1 (by omega) (by omega)
  have k4 := hK a b 2 (by omega) (by omega)
  obtain ⟨rc, sc⟩ := makeS_spec a b 1
  obtain ⟨rd, sd⟩ := makeS_spec a b 2
  have lc := makeS_len a b 1
  have ld := makeS_len a b 2
  have q1 : makeS a b 1 = both := sright_uniq rc r1 fun n => by rw [sc, kindP1, s1]
  have q2 : makeS a b 2 = one := sright_uniq rd r2 fun n => by rw [sd, kindP2, s2]
  rw [q1] at k3 lc
  rw [q2] at k4 ld
  have g1 := hE both (by omega)
  have g2 := hE one (by omega)
  have h1 := hH a n (by omega) ra
  have h2 := hH both n (by omega) r1
  have h3 := hH one n (by omega) r2
  have hp : decide (HasS a n) = (decide (HasS both n) || decide (HasS one n)) := by
    have t1 := s1 n
    have t2 := s2 n
    by_cases p : HasS a n <;> by_cases q : HasS b n <;> simp only [p, q, true_and, false_and, not_true_eq_false, not_false_eq_true] at t1 t2 <;> simp [p, t1, t2]
  rw [hp] at h1
  generalize decide (HasS both n) = B1 at *
  generalize decide (HasS one n) = B2 at *
  cases B1 <;> cases B2 <;> simp -implicitDefEqProofs (disch := first | omega | assumption) [cx, cx', cy, cy', k1, k2, e1, e2, k3, k4, g1, g2, h1, h2, h3, ha]
theorem SpanLens_run (Γ : Env) (M : Nat) (hM : 200 < M) (hK : MakeC (Γ 263)) (hA : AndC (Γ 273)) (hS : SubC (Γ 274)) (hL : LenC9 (Γ 272)) (ha : Γ 269 [] = some [bo true]) (hKK : ∀ a b : List Sp, True) (x y : List Sp) (ox : ∀ s ∈ x, s.Ok) (oy : ∀ s ∈ y, s.Ok) : run Γ M law09_SpanLens_f [spL x, spL y] = some [bo true] := by
  by_cases cx : 40 < x.length
  · have cx' : 40 < (x.length : Int) := by omega
    simp -implicitDefEqProofs (disch := first | omega | assumption) [cx, cx']
  by_cases cy : 40 < y.length
  · have cx' : ¬ 40 < (x.length : Int) := by omega
    have cy' : 40 < (y.length : Int) := by omega
    simp -implicitDefEqProofs (disch := first | omega | assumption) [cx, cx', cy, cy']
  have cx' : ¬ 40 < (x.length : Int) := by omega
  have cy' : ¬ 40 < (y.length : Int) := by omega
  have k1 := hK x [] 0 (by omega) (by simp)
  have k2 := hK y [] 0 (by omega) (by simp)
  obtain ⟨ra, sa⟩ := makeS_spec x [] 0
  obtain ⟨rb, sb⟩ := makeS_spec y [] 0
  have la := makeS_len x [] 0
  have lb := makeS_len y [] 0
  have oa := makeS_ok (b := []) ox (by simp) 0
  have ob := makeS_ok (b := []) oy (by simp) 0
  simp only [List.length_nil] at la lb
  have k1 : Γ 263 [spL x, .c (.vs 2 []), i64 0] = some [spL (makeS x [] 0)] := k1
  have k2 : Γ 263 [spL y, .c (.vs 2 []), i64 0] = some [spL (makeS y [] 0)] := k2
  generalize makeS x [] 0 = a at *
  generalize makeS y [] 0 = b at *
  obtain ⟨both, e1, r1, o1, l1, s1⟩ := hA a b (by omega) (by omega) ra rb oa ob
  obtain ⟨one, e2, r2, o2, s2⟩ := hS a b (by omega) (by omega) ra rb oa ob
  obtain ⟨rd, sd⟩ := makeS_spec a b 2
  have ld := makeS_len a b 2
  have q2 : makeS a b 2 = one := sright_uniq rd r2 fun n => by rw [sd, kindP2, s2]
  rw [q2] at ld
  have hsum := cnt_parts ra r1 r2 oa o1 o2 s1 s2
  have g1 := hL a (by omega)
  have g2 := hL both (by omega)
  have g3 := hL one (by omega)
  have hw : wrapK .u64 (wrapK .u64 (cntS both) + wrapK .u64 (cntS one)) = wrapK .u64 (cntS a) := by
    rw [← hsum]; simp only [wrapU]; omega
  obtain ⟨ax, s', ⟨rfl, rfl⟩, hin⟩ : ∃ ax s', (ax = .ex 0 ∧ s' = ⟨[(5, spL a), (6, spL b), (7, u64V (wrapK .u64 (cntS a)))], []⟩) ∧ ∀ s0, nrm [5, 6, 7, 8] [] s0 = ⟨[(5, spL a), (6, spL b), (7, u64V (wrapK .u64 (cntS (a.take 0)))), (8, i64 (0 : Nat))], []⟩ → lp (exec Γ M law09_SpanLens_l1) M s0 = some (ax, s') := by
    refine lp_all (fun q : Nat => ⟨[(5, spL a), (6, spL b), (7, u64V (wrapK .u64 (cntS (a.take q)))), (8, i64 q)], []⟩) (fun q => q ≤ a.length) (fun q => a.length - q) _ 0 M (by simp) (by omega) (by omega) ?_
    intro k hk
    by_cases hlt : k < a.length
    · obtain ⟨s, hs⟩ : ∃ t, a[k]'hlt = t := ⟨_, rfl⟩
      have hsn : cntS (a.take (k + 1)) = cntS (a.take k) + (s.t - s.f) := by rw [List.take_succ_eq_append_getElem hlt, hs, cntS_snoc]
      generalize cntS (a.take k) = C at *
      have hw : wrapK .u64 (wrapK .u64 C + wrapK .u64 (wrapK .u64 s.t - wrapK .u64 s.f)) = wrapK .u64 (cntS (a.take (k + 1))) := by
        rw [hsn]; simp only [wrapU]; omega
      generalize wrapK .u64 C = W at *
      simp -implicitDefEqProofs (disch := first | omega | assumption) [hlt, hs, Sp.cells, hw]
      exact ⟨k + 1, ⟨rfl, by omega⟩, by omega, by omega⟩
    · obtain rfl : k = a.length := by omega
      rw [List.take_length]
      simp -implicitDefEqProofs (disch := first | omega | assumption)
  have hlp : lp (exec Γ M law09_SpanLens_l1) M ⟨[(5, spL a), (6, spL b), (7, .c (.int .u64 0)), (8, i64 0)], []⟩ = some (.ex 0, ⟨[(5, spL a), (6, spL b), (7, u64V (wrapK .u64 (cntS a)))], []⟩) := hin _ (by simp [cntS, wrapU])
  simp -implicitDefEqProofs (disch := first | omega | assumption) [cx, cx', cy, cy', k1, k2, e1, e2, g1, g2, g3, hlp, hw, ha]
end Go.Am
