/- Law 66: the order of what is told by the program's functions; the sort; one more in its place; the same events. -/
import Derived.Test.YtkjlejpaajcahaaStK
import Derived.Test.YtkjlejpaajcahaaStoCode
set_option linter.unusedVariables false
set_option linter.unusedSimpArgs false
set_option maxRecDepth 10000
set_option maxHeartbeats 2000000
namespace Go.Am
/-! ### The order -/
def cm3 (a b : Int) : Int := if a < b then -1 else if b < a then 1 else 0
def NanC66 (g : List AV → Option (List AV)) : Prop := ∀ a : Int, g [i64 a] = some [bo false]
theorem isNaN_int_run66 (Γ : Env) (M : Nat) : NanC66 (run Γ M cmp_isNaN_int_f) := by
  intro a
  simp -implicitDefEqProofs (disch := omega)
theorem isNaN_kind_run66 (Γ : Env) (M : Nat) : NanC66 (run Γ M cmp_isNaN_story_Kind_f) := by
  intro a
  simp -implicitDefEqProofs (disch := omega)
def CmpC66 (g : List AV → Option (List AV)) : Prop := ∀ a b : Int, g [i64 a, i64 b] = some [i64 (cm3 a b)]
theorem Compare_int_run66 (Γ : Env) (M : Nat) (hN : NanC66 (Γ 75)) : CmpC66 (run Γ M cmp_Compare_int_f) := by
  intro a b
  have e1 := hN a
  have e2 := hN b
  by_cases h1 : a < b
  · simp -implicitDefEqProofs (disch := omega) [e1, e2, h1, cm3]
  · by_cases h2 : b < a
    · simp -implicitDefEqProofs (disch := omega) [e1, e2, h1, h2, cm3]
    · simp -implicitDefEqProofs (disch := omega) [e1, e2, h1, h2, cm3]
theorem Compare_kind_run66 (Γ : Env) (M : Nat) (hN : NanC66 (Γ 165)) : CmpC66 (run Γ M cmp_Compare_story_Kind_f) := by
  intro a b
  have e1 := hN a
  have e2 := hN b
  by_cases h1 : a < b
  · simp -implicitDefEqProofs (disch := omega) [e1, e2, h1, cm3]
  · by_cases h2 : b < a
    · simp -implicitDefEqProofs (disch := omega) [e1, e2, h1, h2, cm3]
    · simp -implicitDefEqProofs (disch := omega) [e1, e2, h1, h2, cm3]
def or4 (a b c d : Int) : Int := if a ≠ 0 then a else if b ≠ 0 then b else if c ≠ 0 then c else d
def OrC66 (g : List AV → Option (List AV)) : Prop := ∀ a b c d : Int, g [.c (.vs 1 [[.int .i64 a], [.int .i64 b], [.int .i64 c], [.int .i64 d]])] = some [i64 (or4 a b c d)]
theorem cmp_Or_run66 (Γ : Env) (M : Nat) : OrC66 (run Γ (M + 20) cmp_Or_int_f) := by
  intro a b c d
  by_cases h1 : a = 0
  · subst h1
    by_cases h2 : b = 0
    · subst h2
      by_cases h3 : c = 0
      · subst h3
        by_cases h4 : d = 0
        · subst h4
          simp -implicitDefEqProofs (disch := omega) [lp_succ, cmp_Or_int_l1_x, or4]
        · simp -implicitDefEqProofs (disch := omega) [lp_succ, cmp_Or_int_l1_x, or4, h4]
      · simp -implicitDefEqProofs (disch := omega) [lp_succ, cmp_Or_int_l1_x, or4, h3]
    · simp -implicitDefEqProofs (disch := omega) [lp_succ, cmp_Or_int_l1_x, or4, h2]
  · simp -implicitDefEqProofs (disch := omega) [lp_succ, cmp_Or_int_l1_x, or4, h1]
def ECmp (x y : Ev) : Int := or4 (cm3 x.t y.t) (cm3 x.k y.k) (cm3 x.c y.c) (cm3 x.i y.i)
theorem ecmp_eq (x y : Ev) : ECmp x y = cmpE x y := by
  obtain ⟨a1, a2, a3, a4⟩ := x
  obtain ⟨b1, b2, b3, b4⟩ := y
  rcases Int.lt_trichotomy a1 b1 with h | h | h
  · have p : ltE ⟨a1, a2, a3, a4⟩ ⟨b1, b2, b3, b4⟩ := by simp only [ltE]; omega
    have q : ¬ b1 < a1 := by omega
    simp only [cmpE, p, if_true]
    simp [ECmp, or4, cm3, h, q]
  · have e1 := h
    rcases Int.lt_trichotomy a2 b2 with h | h | h
    · have p : ltE ⟨a1, a2, a3, a4⟩ ⟨b1, b2, b3, b4⟩ := by simp only [ltE]; omega
      have q : ¬ b2 < a2 := by omega
      simp only [cmpE, p, if_true]
      simp [ECmp, or4, cm3, h, q, e1]
    · have e2 := h
      rcases Int.lt_trichotomy a3 b3 with h | h | h
      · have p : ltE ⟨a1, a2, a3, a4⟩ ⟨b1, b2, b3, b4⟩ := by simp only [ltE]; omega
        have q : ¬ b3 < a3 := by omega
        simp only [cmpE, p, if_true]
        simp [ECmp, or4, cm3, h, q, e1, e2]
      · have e3 := h
        rcases Int.lt_trichotomy a4 b4 with h | h | h
        · have p : ltE ⟨a1, a2, a3, a4⟩ ⟨b1, b2, b3, b4⟩ := by simp only [ltE]; omega
          have q : ¬ b4 < a4 := by omega
          simp only [cmpE, p, if_true]
          simp [ECmp, or4, cm3, h, q, e1, e2, e3]
        · have p : ¬ ltE ⟨a1, a2, a3, a4⟩ ⟨b1, b2, b3, b4⟩ := by simp only [ltE]; omega
          have p2 : ¬ ltE ⟨b1, b2, b3, b4⟩ ⟨a1, a2, a3, a4⟩ := by simp only [ltE]; omega
          simp only [cmpE, p, p2, if_false]
          simp [ECmp, or4, cm3, h, e1, e2, e3]
        · have p : ¬ ltE ⟨a1, a2, a3, a4⟩ ⟨b1, b2, b3, b4⟩ := by simp only [ltE]; omega
          have p2 : ltE ⟨b1, b2, b3, b4⟩ ⟨a1, a2, a3, a4⟩ := by simp only [ltE]; omega
          have q : ¬ a4 < b4 := by omega
          simp only [cmpE, p, p2, if_false, if_true]
          simp [ECmp, or4, cm3, h, q, e1, e2, e3]
      · have p : ¬ ltE ⟨a1, a2, a3, a4⟩ ⟨b1, b2, b3, b4⟩ := by simp only [ltE]; omega
        have p2 : ltE ⟨b1, b2, b3, b4⟩ ⟨a1, a2, a3, a4⟩ := by simp only [ltE]; omega
        have q : ¬ a3 < b3 := by omega
        simp only [cmpE, p, p2, if_false, if_true]
        simp [ECmp, or4, cm3, h, q, e1, e2]
    · have p : ¬ ltE ⟨a1, a2, a3, a4⟩ ⟨b1, b2, b3, b4⟩ := by simp only [ltE]; omega
      have p2 : ltE ⟨b1, b2, b3, b4⟩ ⟨a1, a2, a3, a4⟩ := by simp only [ltE]; omega
      have q : ¬ a2 < b2 := by omega
      simp only [cmpE, p, p2, if_false, if_true]
      simp [ECmp, or4, cm3, h, q, e1]
  · have p : ¬ ltE ⟨a1, a2, a3, a4⟩ ⟨b1, b2, b3, b4⟩ := by simp only [ltE]; omega
    have p2 : ltE ⟨b1, b2, b3, b4⟩ ⟨a1, a2, a3, a4⟩ := by simp only [ltE]; omega
    have q : ¬ a1 < b1 := by omega
    simp only [cmpE, p, p2, if_false, if_true]
    simp [ECmp, or4, cm3, h, q]
theorem story_Compare_run (Γ : Env) (M : Nat) (hC : CmpC66 (Γ 53)) (hK : CmpC66 (Γ 149)) (hO : OrC66 (Γ 54)) : CmpC (run Γ M story_Compare_f) := by
  intro x y
  rw [← ecmp_eq]
  obtain ⟨a1, a2, a3, a4⟩ := x
  obtain ⟨b1, b2, b3, b4⟩ := y
  have e1 := hC a1 b1
  have e2 := hK a2 b2
  have e3 := hC a3 b3
  have e4 := hC a4 b4
  have e5 := hO (cm3 a1 b1) (cm3 a2 b2) (cm3 a3 b3) (cm3 a4 b4)
  simp only [ECmp]
  generalize cm3 a1 b1 = u at *
  generalize cm3 a2 b2 = v at *
  generalize cm3 a3 b3 = w at *
  generalize cm3 a4 b4 = x at *
  simp -implicitDefEqProofs (disch := omega) [e1, e2, e3, e4, e5, Ev.cells]
def LessC (g : List AV → Option (List AV)) : Prop := ∀ a b : Ev, g [.agg a.cells, .agg b.cells] = some [bo (decide (ltE a b))]
theorem ref66_Less_run (Γ : Env) (M : Nat) : LessC (run Γ M ref66_Less_f) := by
  rintro ⟨a1, a2, a3, a4⟩ ⟨b1, b2, b3, b4⟩
  by_cases h1 : a1 = b1
  · subst h1
    by_cases h2 : a2 = b2
    · subst h2
      by_cases h3 : a3 = b3
      · subst h3
        simp -implicitDefEqProofs (disch := omega) [ltE, Ev.cells]
      · simp -implicitDefEqProofs (disch := omega) [ltE, Ev.cells, h3]
    · simp -implicitDefEqProofs (disch := omega) [ltE, Ev.cells, h2]
  · simp -implicitDefEqProofs (disch := omega) [ltE, Ev.cells, h1]
/-- The sort as it is called. -/
def SsfC (fv : Nat) (g : St → Option (List AV × List (Nat × Obj))) : Prop := ∀ (K : Nat) (L : List Ev) (n : Nat) (gs : List (Nat × AV)) (rest : List (Nat × Obj)), Gh gs → del rest K = rest → L.length = n → n ≤ 4096 →
  g ⟨(0, .sl K n 0 n) :: (1, .ot (.fn fv)) :: gs, (K, ⟨4, evR L⟩) :: rest⟩ = some ([], (K, ⟨4, evR (srtE L)⟩) :: rest)
theorem sortStable_run (Γ : Env) (M fv : Nat) (hS : StbC fv (Γ.pt 311)) : SsfC fv (runP Γ M slices_SortStableFunc_Sstory_Event_story_Event_f) := by
  intro K L n gs rest hg hd hL hn
  have e := fun gs h => hS K L n gs rest h hd hL hn
  have hl := evR_len L
  rw [hL] at hl
  simp -implicitDefEqProofs (disch := first | omega | (simp <;> fail) | assumption) [hg, hd, e, hl]
/-! ### One more in its place -/
theorem toE (m : List Ev) : List.map (toAV ∘ Ev.cells) m = evR m := by unfold evR; congr 1
theorem evR_take (i : Nat) (l : List Ev) : List.take i (evR l) = evR (l.take i) := by unfold evR; rw [List.map_take]
theorem evR_drop (i : Nat) (l : List Ev) : List.drop i (evR l) = evR (l.drop i) := by unfold evR; rw [List.map_drop]
theorem evR_app (l m : List Ev) : evR l ++ evR m = evR (l ++ m) := by unfold evR; rw [List.map_append]
theorem evR_snoc (l : List Ev) (a b c d : Int) : evR l ++ [[AV.c (.int .i64 a), AV.c (.int .i64 b), AV.c (.int .i64 c), AV.c (.int .i64 d)]] = evR (l ++ [⟨a, b, c, d⟩]) := by unfold evR; rw [List.map_append]; rfl
theorem allE (l : List Ev) : allRows (evR l) = some (l.map Ev.cells) := by rw [← toE, allRows_comp]
abbrev vE (l : List Ev) : AV := .c (.vs 4 (l.map Ev.cells))
theorem putE_spec (l : List Ev) (e : Ev) (hs : Sor l) (i : Nat) (hi : i ≤ l.length) (h1 : ∀ j, i ≤ j → ∀ h : j < l.length, ltE e (l[j]'h)) (h2 : i = 0 ∨ ∃ h : i - 1 < l.length, ¬ ltE e (l[i - 1]'h)) : l.take i ++ (e :: l.drop i) = srtE (l ++ [e]) := by
  refine (srt_put2 (by rw [List.take_append_drop]; exact hs) (List.Perm.of_eq (List.take_append_drop _ _)) (fun r hr => ?_) (fun r hr => ?_) (List.perm_append_singleton e l)).symm
  · obtain ⟨j, hj, rfl⟩ := List.mem_take_iff_getElem.1 hr
    rcases h2 with h2 | ⟨h, h2⟩
    · omega
    · exact leE_trans (sor_get hs (show j ≤ i - 1 by omega) h) h2
  · obtain ⟨j, hj, rfl⟩ := List.mem_drop_iff_getElem.1 hr
    exact le_of_lt (h1 _ (by omega) _)
def PutC (g : List AV → Option (List AV)) : Prop := ∀ (l : List Ev) (e : Ev), l.length ≤ 4096 → Sor l → g [vE l, .agg e.cells] = some [vE (srtE (l ++ [e]))]
theorem ref66_put_run (Γ : Env) (M : Nat) (hM : 5000 < M) (hL : LessC (Γ 210)) : PutC (run Γ M ref66_put_f) := by
  intro l e hl hs
  have hL2 : ∀ a b : Ev, Γ 210 [.agg [.int .i64 a.t, .int .i64 a.k, .int .i64 a.c, .int .i64 a.i], .agg [.int .i64 b.t, .int .i64 b.k, .int .i64 b.c, .int .i64 b.i]] = some [bo (decide (ltE a b))] := hL
  obtain ⟨ax, s', ⟨rfl, i, hi, h1, h2, rfl⟩, hin⟩ : ∃ ax s', (ax = .ex 0 ∧ ∃ i : Nat, i ≤ l.length ∧ (∀ j, i ≤ j → ∀ h : j < l.length, ltE e (l[j]'h)) ∧ (i = 0 ∨ ∃ h : i - 1 < l.length, ¬ ltE e (l[i - 1]'h)) ∧ s' = ⟨[(0, vE l), (3, .loc 3 0 0), (5, i64 i)], [(3, ⟨4, [evV e]⟩)]⟩) ∧ ∀ s0, nrm [0, 3, 5] [3] s0 = ⟨[(0, vE l), (3, .loc 3 0 0), (5, i64 l.length)], [(3, ⟨4, [evV e]⟩)]⟩ → lp (exec Γ M ref66_put_l1) M s0 = some (ax, s') := by
    refine lp_all (fun q : Nat => ⟨[(0, vE l), (3, .loc 3 0 0), (5, i64 q)], [(3, ⟨4, [evV e]⟩)]⟩) (fun q => q ≤ l.length ∧ ∀ j, q ≤ j → ∀ h : j < l.length, ltE e (l[j]'h)) (fun q => q) _ l.length M (by simp) ⟨by omega, fun j p q => by omega⟩ (by omega) ?_
    rintro q ⟨h1, h2⟩
    cases q with
    | zero =>
      simp -implicitDefEqProofs (disch := first | omega | (simp <;> fail) | assumption)
      exact ⟨0, by omega, fun j _ h => h2 j (by omega) h, .inl rfl, by simp⟩
    | succ q =>
      have hq : q < l.length := by omega
      obtain ⟨y, hy⟩ : ∃ y, l[q]'hq = y := ⟨_, rfl⟩
      have hrow : (l.map Ev.cells)[q]? = some y.cells := by simp [hq, hy]
      have t1 : ((q + 1 : Nat) : Int) - 1 = q := by omega
      have t2 : (q : Int) + 1 - 1 = q := by omega
      have t3 : (0 : Int) < (q : Int) + 1 := by omega
      by_cases c : ltE e y
      · simp -implicitDefEqProofs (disch := first | omega | (simp <;> fail) | assumption) [evV, hrow, Ev.cells, hL2, c, t1, t2, t3]
        refine ⟨q, rfl, ⟨by omega, fun j p r => ?_⟩, by omega⟩
        rcases Nat.lt_or_ge q j with w | w
        · exact h2 j (by omega) r
        · obtain rfl : j = q := by omega
          rw [hy]; exact c
      · simp -implicitDefEqProofs (disch := first | omega | (simp <;> fail) | assumption) [evV, hrow, Ev.cells, hL2, c, t1, t2, t3]
        exact ⟨q + 1, h1, h2, .inr ⟨hq, by rw [show l[q + 1 - 1] = l[q] from rfl, hy]; exact c⟩, by omega⟩
  have hin2 := hin ⟨[(0, vE l), (3, .loc 3 0 0), (5, i64 l.length)], [(3, ⟨4, [evV e]⟩)]⟩ (by simp)
  have hsp := putE_spec l e hs i hi h1 h2
  simp only [evV] at hin2
  simp -implicitDefEqProofs (disch := first | omega | (simp <;> fail) | assumption) [-List.append_assoc, hin2, Ev.cells, hi, toE, evR_take, evR_drop, evR_snoc, evR_app, nmEv, lcEv, allE, evR_len]
  rw [List.take_of_length_le (i := l.length - i) (by simp), List.take_of_length_le (by simp; omega), ← hsp]
  simp [Ev.cells]
/-- The same events. -/
def AllC (g : List AV → Option (List AV)) : Prop := ∀ l : List Ev, l.length ≤ 4096 → g [.c (.vs 4 (l.map Ev.cells))] = some [.c (.vs 4 (l.map Ev.cells))]
theorem law66_all_run (Γ : Env) (M : Nat) (hM : 5000 < M) : AllC (run Γ M law66_all_f) := by
  intro l hl
  obtain ⟨ax, s', ⟨rfl, rfl⟩, hin⟩ : ∃ ax s', (ax = .ex 0 ∧ s' = ⟨[(3, .sl 3 l.length 0 l.length)], [(3, ⟨4, evR l⟩)]⟩) ∧ ∀ t, nrm [0, 3, 4] [3, 34] t = ⟨[(0, vE l), (3, .sl 3 0 0 0), (4, i64 (0 : Nat))], [(3, ⟨4, evR (l.take 0)⟩)]⟩ → lp (exec Γ M law66_all_l1) M t = some (ax, s') := by
    refine lp_all (fun k : Nat => ⟨[(0, vE l), (3, .sl 3 k 0 k), (4, i64 k)], [(3, ⟨4, evR (l.take k)⟩)]⟩) (fun k => k ≤ l.length) (fun k => l.length - k) _ 0 M (by simp) (by omega) (by omega) ?_
    intro k hk
    by_cases hlt : k < l.length
    · obtain ⟨e, he⟩ : ∃ t, l[k]'hlt = t := ⟨_, rfl⟩
      have htk : l.take (k + 1) = l.take k ++ [e] := by rw [List.take_succ_eq_append_getElem hlt, he]
      have hlk : min k l.length = k := by omega
      have hrow : (l.map Ev.cells)[k]? = some e.cells := by simp [hlt, he]
      simp -implicitDefEqProofs (disch := first | omega | assumption) [-List.append_assoc, hlt, he, hlk, hrow, Ev.cells, evR_snoc, nmEv, lcEv, evR_len]
      exact ⟨k + 1, ⟨⟨by omega, by omega⟩, by rw [htk]⟩, by omega, by omega⟩
    · obtain rfl : k = l.length := by omega
      simp -implicitDefEqProofs (disch := first | omega | assumption)
  have hlp := hin ⟨[(0, vE l), (3, .sl 3 0 0 0), (4, i64 0)], [(3, ⟨4, []⟩)]⟩ (by simp [evR])
  simp -implicitDefEqProofs (disch := first | omega | assumption) [hlp, allE, evR_len]
  exact List.take_of_length_le (by simp)
def ESameC (g : List AV → Option (List AV)) : Prop := ∀ l : List Ev, l.length ≤ 4096 → g [.c (.vs 4 (l.map Ev.cells)), .c (.vs 4 (l.map Ev.cells))] = some [bo true]
theorem slices_Equal_E_run (Γ : Env) (M : Nat) (hM : 5000 < M) : ESameC (run Γ M slices_Equal_Sref66_E_ref66_E_f) := by
  intro ts hts
  obtain ⟨ax, s', ⟨rfl, rfl⟩, hin⟩ : ∃ ax s', (ax = .ex 0 ∧ s' = ⟨[], []⟩) ∧ ∀ s0, nrm [0, 1, 12, 13] [] s0 = ⟨[(0, .c (.vs 4 (ts.map Ev.cells))), (1, .c (.vs 4 (ts.map Ev.cells))), (12, i64 ts.length), (13, i64 (0 : Nat))], []⟩ → lp (exec Γ M slices_Equal_Sref66_E_ref66_E_l1) M s0 = some (ax, s') := by
    refine lp_all (fun k : Nat => ⟨[(0, .c (.vs 4 (ts.map Ev.cells))), (1, .c (.vs 4 (ts.map Ev.cells))), (12, i64 ts.length), (13, i64 k)], []⟩) (fun k => k ≤ ts.length) (fun k => ts.length - k) _ 0 M (by simp) (by omega) (by omega) ?_
    intro k hk
    by_cases hlt : k < ts.length
    · simp -implicitDefEqProofs (disch := first | omega | assumption) [hlt, Ev.cells]
      exact ⟨k + 1, by simp, by omega, by omega⟩
    · obtain rfl : k = ts.length := by omega
      simp -implicitDefEqProofs (disch := first | omega | assumption)
  have hlp : lp (exec Γ M slices_Equal_Sref66_E_ref66_E_l1) M ⟨[(0, .c (.vs 4 (ts.map Ev.cells))), (1, .c (.vs 4 (ts.map Ev.cells))), (12, .c (.int .i64 ts.length)), (13, .c (.int .i64 0))], []⟩ = some (.ex 0, ⟨[], []⟩) := hin _ (by simp)
  simp -implicitDefEqProofs (disch := first | omega | assumption) [hlp]
end Go.Am
