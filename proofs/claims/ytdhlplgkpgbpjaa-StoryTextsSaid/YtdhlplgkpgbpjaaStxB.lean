/- Law 66: the document's lines; the order of events. -/
import Derived.Test.YtdhlplgkpgbpjaaStx
set_option linter.unusedVariables false
set_option linter.unusedSimpArgs false
set_option maxRecDepth 10000
set_option maxHeartbeats 2000000
namespace Go.Am
theorem ref66_Text_run (Γ : Env) (M : Nat) (hM : 200 < M) (hO : Of (Γ 6)) (hw : WordC (Γ 124)) : STextC (run Γ M ref66_Text_f) := by
  intro l hl hok
  obtain ⟨ax, s', ⟨rfl, rfl⟩, hin⟩ : ∃ ax s', (ax = .ex 0 ∧ s' = ⟨[(3, st (txtE l))], []⟩) ∧ ∀ t, nrm [0, 3, 4] [] t = ⟨[(0, eL l), (3, st (txtE (l.take 0))), (4, i64 (0 : Nat))], []⟩ → lp (exec Γ M ref66_Text_l1) M t = some (ax, s') := by
    refine lp_all (fun k : Nat => ⟨[(0, eL l), (3, st (txtE (l.take k))), (4, i64 k)], []⟩) (fun k => k ≤ l.length) (fun k => l.length - k) _ 0 M (by simp) (by omega) (by omega) ?_
    intro k hk
    by_cases hlt : k < l.length
    · obtain ⟨e, he⟩ : ∃ t, l[k]'hlt = t := ⟨_, rfl⟩
      have heo := hok e (he ▸ List.getElem_mem hlt)
      have htk : txtE (l.take (k + 1)) = txtE (l.take k) ++ evT e := by rw [List.take_succ_eq_append_getElem hlt, he, txtE_snoc]
      have hle := txtE_le (l.take k)
      have hlk : (l.take k).length ≤ 100 := by simp; omega
      obtain ⟨T, hT⟩ : ∃ T, txtE (l.take k) = T := ⟨_, rfl⟩
      rw [hT] at hle htk ⊢
      have ew := hw e.kd
      by_cases h0 : wd e.kd = []
      · have h9 : evT e = [] := by unfold evT; rw [if_pos h0]
        rw [h9, List.append_nil] at htk
        rw [h0] at ew
        simp -implicitDefEqProofs (disch := first | omega | assumption) [hlt, he, ew]
        exact ⟨k + 1, by simp [htk], by omega, by omega⟩
      · have h9 : evT e = txt e.tk ++ [32] ++ wd e.kd ++ [32] ++ txt e.car ++ [32] ++ txt e.id ++ [10] := by unfold evT; rw [if_neg h0]
        have e1 := hO e.tk heo.tk
        have e2 := hO e.car heo.car
        have e3 := hO e.id heo.id
        have l1 := txt_le e.tk
        have l2 := txt_le e.car
        have l3 := txt_le e.id
        have l4 := wd_le e.kd
        rw [h9] at htk
        have hd := decide_eq_false h0
        generalize txt e.tk = X at *
        generalize txt e.car = Y at *
        generalize txt e.id = Z at *
        generalize wd e.kd = W at *
        simp -implicitDefEqProofs (disch := first | omega | ((try simp only [List.length_append, List.length_cons, List.length_nil, maxStr_eq]); omega) | assumption) [hlt, he, ew, e1, e2, e3, h0, hd, binS_add]
        exact ⟨k + 1, by simp [htk], by omega, by omega⟩
    · obtain rfl : k = l.length := by omega
      simp -implicitDefEqProofs (disch := first | omega | assumption)
  have hlp := hin ⟨[(0, eL l), (3, st (txtE (l.take 0))), (4, i64 (0 : Nat))], []⟩ (by simp)
  have t0 : txtE (l.take 0) = [] := by simp [txtE]
  rw [t0] at hlp
  simp at hlp
  simp -implicitDefEqProofs (disch := first | omega | assumption) [hlp]
/-! ### The order -/
def cm3 (a b : Int) : Int := if a < b then -1 else if b < a then 1 else 0
def NanC66 (g : List AV → Option (List AV)) : Prop := ∀ a : Int, g [i64 a] = some [bo false]
theorem isNaN_int_run66 (Γ : Env) (M : Nat) : NanC66 (run Γ M cmp_isNaN_int_f) := by
  intro a
  simp -implicitDefEqProofs (disch := omega)
theorem isNaN_kind_run66 (Γ : Env) (M : Nat) : NanC66 (run Γ M cmp_isNaN_story_Kind_f) := by
  intro a
  simp -implicitDefEqProofs (disch := omega)
def CmpC66 (g : List AV → Option (List AV)) : Prop := ∀ a b : Int, g [i64 a, i64 b] = some [i64 (cm3 a b)]
theorem Compare_int_run66 (Γ : Env) (M : Nat) (hN : NanC66 (Γ 75)) : CmpC66 (run Γ M cmp_Compare_int_f) := by
  intro a b
  have e1 := hN a
  have e2 := hN b
  by_cases h1 : a < b
  · simp -implicitDefEqProofs (disch := omega) [e1, e2, h1, cm3]
  · by_cases h2 : b < a
    · simp -implicitDefEqProofs (disch := omega) [e1, e2, h1, h2, cm3]
    · simp -implicitDefEqProofs (disch := omega) [e1, e2, h1, h2, cm3]
theorem Compare_kind_run66 (Γ : Env) (M : Nat) (hN : NanC66 (Γ 165)) : CmpC66 (run Γ M cmp_Compare_story_Kind_f) := by
  intro a b
  have e1 := hN a
  have e2 := hN b
  by_cases h1 : a < b
  · simp -implicitDefEqProofs (disch := omega) [e1, e2, h1, cm3]
  · by_cases h2 : b < a
    · simp -implicitDefEqProofs (disch := omega) [e1, e2, h1, h2, cm3]
    · simp -implicitDefEqProofs (disch := omega) [e1, e2, h1, h2, cm3]
def or4 (a b c d : Int) : Int := if a ≠ 0 then a else if b ≠ 0 then b else if c ≠ 0 then c else d
def OrC66 (g : List AV → Option (List AV)) : Prop := ∀ a b c d : Int, g [.c (.vs 1 [[.int .i64 a], [.int .i64 b], [.int .i64 c], [.int .i64 d]])] = some [i64 (or4 a b c d)]
theorem cmp_Or_run66 (Γ : Env) (M : Nat) : OrC66 (run Γ (M + 20) cmp_Or_int_f) := by
  intro a b c d
  by_cases h1 : a = 0
  · subst h1
    by_cases h2 : b = 0
    · subst h2
      by_cases h3 : c = 0
      · subst h3
        by_cases h4 : d = 0
        · subst h4
          simp -implicitDefEqProofs (disch := omega) [lp_succ, cmp_Or_int_l1_x, or4]
        · simp -implicitDefEqProofs (disch := omega) [lp_succ, cmp_Or_int_l1_x, or4, h4]
      · simp -implicitDefEqProofs (disch := omega) [lp_succ, cmp_Or_int_l1_x, or4, h3]
    · simp -implicitDefEqProofs (disch := omega) [lp_succ, cmp_Or_int_l1_x, or4, h2]
  · simp -implicitDefEqProofs (disch := omega) [lp_succ, cmp_Or_int_l1_x, or4, h1]
def evCmp (a b : Ev) : Int := or4 (cm3 a.tk b.tk) (cm3 a.kd b.kd) (cm3 a.car b.car) (cm3 a.id b.id)
def ECmpC (g : List AV → Option (List AV)) : Prop := ∀ a b : Ev, g [.agg a.cells, .agg b.cells] = some [i64 (evCmp a b)]
theorem story_Compare_run (Γ : Env) (M : Nat) (hC : CmpC66 (Γ 53)) (hK : CmpC66 (Γ 149)) (hO : OrC66 (Γ 54)) : ECmpC (run Γ M story_Compare_f) := by
  rintro ⟨a1, a2, a3, a4⟩ ⟨b1, b2, b3, b4⟩
  have e1 := hC a1 b1
  have e2 := hK a2 b2
  have e3 := hC a3 b3
  have e4 := hC a4 b4
  have e5 := hO (cm3 a1 b1) (cm3 a2 b2) (cm3 a3 b3) (cm3 a4 b4)
  simp only [evCmp]
  generalize cm3 a1 b1 = u at *
  generalize cm3 a2 b2 = v at *
  generalize cm3 a3 b3 = w at *
  generalize cm3 a4 b4 = x at *
  simp -implicitDefEqProofs (disch := omega) [e1, e2, e3, e4, e5]
def evLess (a b : Ev) : Bool := if a.tk ≠ b.tk then decide (a.tk < b.tk) else if a.kd ≠ b.kd then decide (a.kd < b.kd) else if a.car ≠ b.car then decide (a.car < b.car) else decide (a.id < b.id)
def LessC (g : List AV → Option (List AV)) : Prop := ∀ a b : Ev, g [.agg a.cells, .agg b.cells] = some [bo (evLess a b)]
theorem ref66_Less_run (Γ : Env) (M : Nat) : LessC (run Γ M ref66_Less_f) := by
  rintro ⟨a1, a2, a3, a4⟩ ⟨b1, b2, b3, b4⟩
  by_cases h1 : a1 = b1
  · subst h1
    by_cases h2 : a2 = b2
    · subst h2
      by_cases h3 : a3 = b3
      · subst h3
        simp -implicitDefEqProofs (disch := omega) [evLess]
      · simp -implicitDefEqProofs (disch := omega) [evLess, h3]
    · simp -implicitDefEqProofs (disch := omega) [evLess, h2]
  · simp -implicitDefEqProofs (disch := omega) [evLess, h1]
theorem cm3_cases (a b : Int) : (a < b ∧ cm3 a b = -1) ∨ (a = b ∧ cm3 a b = 0) ∨ (b < a ∧ cm3 a b = 1) := by
  rcases Int.lt_trichotomy a b with h | h | h
  · exact .inl ⟨h, by simp [cm3, h]⟩
  · exact .inr (.inl ⟨h, by simp [cm3, h]⟩)
  · exact .inr (.inr ⟨h, by unfold cm3; rw [if_neg (by omega), if_pos h]⟩)
/-- The order by less: as by Compare. -/
theorem ev_order (a b : Ev) : (evCmp a b = -1 ∧ evLess a b = true ∧ evLess b a = false) ∨ (evCmp a b = 0 ∧ evLess a b = false ∧ evLess b a = false) ∨ (evCmp a b = 1 ∧ evLess a b = false ∧ evLess b a = true) := by
  obtain ⟨a1, a2, a3, a4⟩ := a
  obtain ⟨b1, b2, b3, b4⟩ := b
  simp only [evCmp, evLess]
  rcases cm3_cases a1 b1 with ⟨h, e⟩ | ⟨h, e⟩ | ⟨h, e⟩
  · refine .inl ⟨by simp [or4, e], ?_, ?_⟩
    · rw [if_pos (by omega)]; simpa using h
    · rw [if_pos (by omega)]; simp; omega
  · subst h
    rcases cm3_cases a2 b2 with ⟨h, e'⟩ | ⟨h, e'⟩ | ⟨h, e'⟩
    · refine .inl ⟨by simp [or4, e, e'], ?_, ?_⟩
      · rw [if_neg (by simp), if_pos (by omega)]; simpa using h
      · rw [if_neg (by simp), if_pos (by omega)]; simp; omega
    · subst h
      rcases cm3_cases a3 b3 with ⟨h, e3⟩ | ⟨h, e3⟩ | ⟨h, e3⟩
      · refine .inl ⟨by simp [or4, e, e', e3], ?_, ?_⟩
        · rw [if_neg (by simp), if_neg (by simp), if_pos (by omega)]; simpa using h
        · rw [if_neg (by simp), if_neg (by simp), if_pos (by omega)]; simp; omega
      · subst h
        rcases cm3_cases a4 b4 with ⟨h, e4⟩ | ⟨h, e4⟩ | ⟨h, e4⟩
        · refine .inl ⟨by simp [or4, e, e', e3, e4], ?_, ?_⟩
          · simpa using h
          · simp; omega
        · subst h
          exact .inr (.inl ⟨by simp [or4, e, e', e3, e4], by simp, by simp⟩)
        · refine .inr (.inr ⟨by simp [or4, e, e', e3, e4], ?_, ?_⟩)
          · simp; omega
          · simpa using h
      · refine .inr (.inr ⟨by simp [or4, e, e', e3], ?_, ?_⟩)
        · rw [if_neg (by simp), if_neg (by simp), if_pos (by omega)]; simp; omega
        · rw [if_neg (by simp), if_neg (by simp), if_pos (by omega)]; simpa using h
    · refine .inr (.inr ⟨by simp [or4, e, e'], ?_, ?_⟩)
      · rw [if_neg (by simp), if_pos (by omega)]; simp; omega
      · rw [if_neg (by simp), if_pos (by omega)]; simpa using h
  · refine .inr (.inr ⟨by simp [or4, e], ?_, ?_⟩)
    · rw [if_pos (by omega)]; simp; omega
    · rw [if_pos (by omega)]; simpa using h
end Go.Am
