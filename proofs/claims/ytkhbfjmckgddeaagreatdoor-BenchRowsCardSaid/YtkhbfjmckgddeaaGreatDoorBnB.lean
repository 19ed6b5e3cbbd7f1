/- Law 50: rows of logs; which is better; the best. -/
import Derived.Test.YtkhbfjmckgddeaaGreatDoorBnA
set_option linter.unusedVariables false
set_option linter.unusedSimpArgs false
set_option maxRecDepth 10000
set_option maxHeartbeats 1000000
namespace Go.Am
/-- A row: the dispatcher, and how long those waited who were carried. -/
structure En where
  d : Int
  w : List Int
structure En.Ok (e : En) : Prop where
  d : 1 ≤ e.d ∧ e.d ≤ 4
  w : Wg e.w
def En.n (e : En) : Int := e.w.length
def En.wh (e : En) : Int := e.w.sum / e.w.length
def En.rs (e : En) : Int := e.w.sum % e.w.length
def En.hi (e : En) : Int := ofP 95 e.w
def En.rowB (e : En) : List D := [.int .i64 e.d, .int .i64 e.n, .int .i64 e.wh, .int .i64 e.rs, .int .i64 e.n, .bool (decide (0 < e.n)), .int .i64 e.hi]
def En.rowR (e : En) : List D := [.int .i64 e.d, .int .i64 e.n, .int .i64 e.wh, .int .i64 e.rs, .int .i64 e.n, .int .i64 e.hi]
def En.key (e : En) : Int := -(e.n * 1180591620717411303424) + e.w.sum * 4294967296 + e.hi
structure En.F (e : En) : Prop where
  n : 0 ≤ e.n ∧ e.n ≤ 100
  wh : 0 ≤ e.wh ∧ e.wh ≤ 107374182500
  rs : 0 ≤ e.rs ∧ e.rs ≤ 107374182500
  rn : e.n = 0 ∨ e.rs < e.n
  sum : 0 ≤ e.w.sum ∧ e.w.sum ≤ 107374182500
  eq : e.n * e.wh + e.rs = e.w.sum
  hi : 0 ≤ e.hi ∧ e.hi ≤ 1073741825
  z : e.n = 0 → e.wh = 0 ∧ e.rs = 0 ∧ e.hi = 0 ∧ e.w.sum = 0 ∧ e.w = []
theorem En.Ok.f {e : En} (h : e.Ok) : e.F := by
  obtain ⟨d, w⟩ := e
  obtain ⟨hd, hw⟩ := h
  simp only at hd hw
  have hS := hw.sumA
  have hn := hw.n
  by_cases h0 : w = []
  · subst h0
    constructor <;> simp [En.n, En.wh, En.rs, En.hi, ofP, srt]
  · have hpos := List.length_pos_iff.2 h0
    obtain ⟨⟨p1, p2⟩, p3, p4⟩ := div_in (l := w.sum) (c := w.length) hS.1 (by omega)
    have hh := hw.all _ (ofP_mem (p := 95) (by omega) h0)
    have he := Int.mul_ediv_add_emod w.sum w.length
    exact ⟨by simp only [En.n]; omega, by simp only [En.wh]; omega, by simp only [En.rs]; omega, .inr (by simp only [En.rs, En.n]; omega), hS, he, hh, fun h => absurd h (by simp only [En.n]; omega)⟩
/-- Which comes first, of two rows of as many. -/
theorem key_lt {a b : En} (ha : a.F) (hb : b.F) : a.key < b.key ↔ (b.n < a.n ∨ a.n = b.n ∧ (a.wh < b.wh ∨ a.wh = b.wh ∧ (a.rs < b.rs ∨ a.rs = b.rs ∧ a.hi < b.hi))) := by
  obtain ⟨a1, a2, a3, a4, a5, a6, a7, a8⟩ := ha
  obtain ⟨b1, b2, b3, b4, b5, b6, b7, b8⟩ := hb
  have hs : a.n = b.n → (a.w.sum < b.w.sum ↔ (a.wh < b.wh ∨ a.wh = b.wh ∧ a.rs < b.rs)) := by
    intro hn
    rw [← hn] at b6 b4
    rcases Int.lt_trichotomy a.n 0 with h | h | h
    · omega
    · obtain ⟨x1, x2, x3, x4, -⟩ := a8 h
      obtain ⟨y1, y2, y3, y4, -⟩ := b8 (by omega)
      rw [x1, x2, x4, y1, y2, y4]; simp
    · constructor
      · intro hlt
        rcases Int.lt_trichotomy a.wh b.wh with g | g | g
        · exact .inl g
        · rw [g] at a6; exact .inr ⟨g, by omega⟩
        · have : a.n * (b.wh + 1) ≤ a.n * a.wh := Int.mul_le_mul_of_nonneg_left (by omega) (by omega)
          rw [Int.mul_add] at this
          omega
      · rintro (g | ⟨g, g2⟩)
        · have : a.n * (a.wh + 1) ≤ a.n * b.wh := Int.mul_le_mul_of_nonneg_left (by omega) (by omega)
          rw [Int.mul_add] at this
          omega
        · rw [g] at a6; omega
  have hs2 : a.n = b.n → (a.w.sum = b.w.sum ↔ (a.wh = b.wh ∧ a.rs = b.rs)) := by
    intro hn
    have e1 := hs hn
    constructor
    · intro h
      have h1 : ¬ (a.wh < b.wh ∨ a.wh = b.wh ∧ a.rs < b.rs) := fun h2 => by have := e1.2 h2; omega
      rw [← hn] at b6 b4
      rcases Int.lt_trichotomy a.wh b.wh with g | g | g
      · exact absurd (.inl g) h1
      · rw [g] at a6; exact ⟨g, by omega⟩
      · rcases a4 with c | c
        · obtain ⟨x1, x2, x3, x4, -⟩ := a8 c
          omega
        · have : a.n * (b.wh + 1) ≤ a.n * a.wh := Int.mul_le_mul_of_nonneg_left (by omega) (by omega)
          rw [Int.mul_add] at this
          omega
    · rintro ⟨g, g2⟩
      rw [← hn] at b6
      rw [g, g2] at a6
      omega
  unfold En.key
  by_cases hn : a.n = b.n
  · have e1 := hs hn
    have e2 := hs2 hn
    constructor
    · intro h
      refine .inr ⟨hn, ?_⟩
      by_cases c : a.w.sum < b.w.sum
      · rcases e1.1 c with g | ⟨g, g2⟩
        · exact .inl g
        · exact .inr ⟨g, .inl g2⟩
      · obtain ⟨g, g2⟩ := e2.1 (by omega)
        exact .inr ⟨g, .inr ⟨g2, by omega⟩⟩
    · rintro (h | ⟨-, h | ⟨h, h2 | ⟨h2, h3⟩⟩⟩)
      · omega
      · have := e1.2 (.inl h); omega
      · have := e1.2 (.inr ⟨h, h2⟩); omega
      · have := e2.2 ⟨h, h2⟩; omega
  · constructor
    · intro h; exact .inl (by omega)
    · rintro (h | ⟨h, -⟩)
      · omega
      · exact absurd h hn
def BetB (g : List AV → Option (List AV)) : Prop := ∀ a b : En, a.Ok → b.Ok → g [.agg a.rowB, .agg b.rowB] = some [bo (decide (a.key < b.key))]
def BetR (g : List AV → Option (List AV)) : Prop := ∀ a b : En, a.Ok → b.Ok → g [.agg a.rowR, .agg b.rowR] = some [bo (decide (a.key < b.key))]
theorem cmpF_lt (w1 r1 w2 r2 : Int) : cmpF w1 r1 w2 r2 < 0 ↔ (w1 < w2 ∨ w1 = w2 ∧ r1 < r2) := by
  unfold cmpF; split
  · simp [*]
  · split <;> simp [*]
theorem cmpF_eq (w1 r1 w2 r2 : Int) : cmpF w1 r1 w2 r2 = 0 ↔ (w1 = w2 ∧ r1 = r2) := by
  unfold cmpF; split
  · rename_i h
    constructor
    · intro h; omega
    · rintro ⟨h1, h2⟩; omega
  · split <;> simp [*]
theorem bench_Better_run {Γ : Env} {M : Nat} (h1 : CmpC8 (Γ 423)) : BetB (run Γ M bench_Better_f) := by
  intro a b ha hb
  have hk := key_lt ha.f hb.f
  obtain ⟨a1, a2, a3, a4, a5, a6, a7, a8⟩ := ha.f
  obtain ⟨b1, b2, b3, b4, b5, b6, b7, b8⟩ := hb.f
  have e : a.n = b.n → a.n ≠ 0 → Γ 423 [.agg (fracD a.wh a.rs a.n), .agg (fracD b.wh b.rs b.n)] = some [i64 (cmpF a.wh a.rs b.wh b.rs)] := fun h h0 => by
    rw [← h]; exact h1 a.wh a.rs b.wh b.rs a.n (by omega) (by omega) (by omega) (by omega) (by omega)
  have c1 := cmpF_lt a.wh a.rs b.wh b.rs
  have c2 := cmpF_eq a.wh a.rs b.wh b.rs
  rw [show decide (a.key < b.key) = decide (b.n < a.n ∨ a.n = b.n ∧ (a.wh < b.wh ∨ a.wh = b.wh ∧ (a.rs < b.rs ∨ a.rs = b.rs ∧ a.hi < b.hi))) from decide_eq_decide.2 hk]
  clear hk
  simp only [En.rowB, fracD] at e ⊢
  generalize cmpF a.wh a.rs b.wh b.rs = C at *
  generalize a.n = an at *
  generalize b.n = bn at *
  generalize a.wh = aw at *
  generalize b.wh = bw at *
  generalize a.rs = ar at *
  generalize b.rs = br at *
  generalize a.hi = ah at *
  generalize b.hi = bh at *
  by_cases hn : an = bn
  · subst hn
    by_cases h0 : an = 0
    · subst h0
      obtain ⟨rfl, rfl, rfl, -, -⟩ := a8 rfl
      obtain ⟨rfl, rfl, rfl, -, -⟩ := b8 rfl
      simp -implicitDefEqProofs (disch := omega)
    · have e := e rfl h0
      have hp : 0 < an := by omega
      by_cases hc : C = 0
      · obtain ⟨rfl, rfl⟩ := c2.1 hc
        subst hc
        simp -implicitDefEqProofs (disch := omega) [h0, hp, e]
      · have hd : decide (C < 0) = decide (aw < bw ∨ aw = bw ∧ (ar < br ∨ ar = br ∧ ah < bh)) := by
          rw [decide_eq_decide, c1]
          constructor
          · rintro (h | ⟨h, h2⟩)
            · exact .inl h
            · exact .inr ⟨h, .inl h2⟩
          · rintro (h | ⟨h, h2 | ⟨h2, h3⟩⟩)
            · exact .inl h
            · exact .inr ⟨h, h2⟩
            · exact absurd (c2.2 ⟨h, h2⟩) hc
        have hd2 : decide (an < an ∨ an = an ∧ (aw < bw ∨ aw = bw ∧ (ar < br ∨ ar = br ∧ ah < bh))) = decide (C < 0) := by
          rw [hd, decide_eq_decide]; simp
        rw [hd2]
        simp -implicitDefEqProofs (disch := omega) [h0, hp, e, hc]
  · have hd2 : decide (bn < an ∨ an = bn ∧ (aw < bw ∨ aw = bw ∧ (ar < br ∨ ar = br ∧ ah < bh))) = decide (bn < an) := by
      rw [decide_eq_decide]; simp [hn]
    rw [hd2]
    simp -implicitDefEqProofs (disch := omega) [hn]
theorem ref50_Better_run {Γ : Env} {M : Nat} (h1 : CmpC8 (Γ 424)) : BetR (run Γ M ref50_Better_f) := by
  intro a b ha hb
  have hk := key_lt ha.f hb.f
  obtain ⟨a1, a2, a3, a4, a5, a6, a7, a8⟩ := ha.f
  obtain ⟨b1, b2, b3, b4, b5, b6, b7, b8⟩ := hb.f
  have e : a.n = b.n → a.n ≠ 0 → Γ 424 [.agg (fracD a.wh a.rs a.n), .agg (fracD b.wh b.rs b.n)] = some [i64 (cmpF a.wh a.rs b.wh b.rs)] := fun h h0 => by
    rw [← h]; exact h1 a.wh a.rs b.wh b.rs a.n (by omega) (by omega) (by omega) (by omega) (by omega)
  have c1 := cmpF_lt a.wh a.rs b.wh b.rs
  have c2 := cmpF_eq a.wh a.rs b.wh b.rs
  rw [show decide (a.key < b.key) = decide (b.n < a.n ∨ a.n = b.n ∧ (a.wh < b.wh ∨ a.wh = b.wh ∧ (a.rs < b.rs ∨ a.rs = b.rs ∧ a.hi < b.hi))) from decide_eq_decide.2 hk]
  clear hk
  simp only [En.rowR, fracD] at e ⊢
  generalize cmpF a.wh a.rs b.wh b.rs = C at *
  generalize a.n = an at *
  generalize b.n = bn at *
  generalize a.wh = aw at *
  generalize b.wh = bw at *
  generalize a.rs = ar at *
  generalize b.rs = br at *
  generalize a.hi = ah at *
  generalize b.hi = bh at *
  by_cases hn : an = bn
  · subst hn
    by_cases h0 : an = 0
    · subst h0
      obtain ⟨rfl, rfl, rfl, -, -⟩ := a8 rfl
      obtain ⟨rfl, rfl, rfl, -, -⟩ := b8 rfl
      simp -implicitDefEqProofs (disch := omega)
    · have e := e rfl h0
      by_cases hc : C = 0
      · obtain ⟨rfl, rfl⟩ := c2.1 hc
        subst hc
        simp -implicitDefEqProofs (disch := omega) [h0, e]
      · have hd : decide (C < 0) = decide (aw < bw ∨ aw = bw ∧ (ar < br ∨ ar = br ∧ ah < bh)) := by
          rw [decide_eq_decide, c1]
          constructor
          · rintro (h | ⟨h, h2⟩)
            · exact .inl h
            · exact .inr ⟨h, .inl h2⟩
          · rintro (h | ⟨h, h2 | ⟨h2, h3⟩⟩)
            · exact .inl h
            · exact .inr ⟨h, h2⟩
            · exact absurd (c2.2 ⟨h, h2⟩) hc
        have hd2 : decide (an < an ∨ an = an ∧ (aw < bw ∨ aw = bw ∧ (ar < br ∨ ar = br ∧ ah < bh))) = decide (C < 0) := by
          rw [hd, decide_eq_decide]; simp
        rw [hd2]
        by_cases hc2 : C < 0
        · simp -implicitDefEqProofs (disch := omega) [h0, e, hc, hc2]
        · simp -implicitDefEqProofs (disch := omega) [h0, e, hc, hc2]
  · have hd2 : decide (bn < an ∨ an = bn ∧ (aw < bw ∨ aw = bw ∧ (ar < br ∨ ar = br ∧ ah < bh))) = decide (bn < an) := by
      rw [decide_eq_decide]; simp [hn]
    rw [hd2]
    simp -implicitDefEqProofs (disch := omega) [hn]
/-! ### Rows of logs -/
abbrev logA (l : List Trip) : AV := .agg [.vs 7 (l.map Trip.cells), .vs 1 [], .int .i64 0]
def OfB (g : List AV → Option (List AV)) : Prop := ∀ (d : Int) (l : List Trip), Gd l → Wg (wt true l) → g [i64 d, logA l] = some [.agg (En.rowB ⟨d, wt true l⟩)]
def OfR (g : List AV → Option (List AV)) : Prop := ∀ (d : Int) (l : List Trip), Gd l → Wg (wt true l) → g [i64 d, logA l] = some [.agg (En.rowR ⟨d, wt true l⟩)]
theorem bench_Of_run {Γ : Env} {M : Nat} (h1 : WaitsT (Γ 405)) (h2 : MeanC8 (Γ 420)) (h3 : OfC15 (Γ 252)) : OfB (run Γ M bench_Of_f) := by
  intro d l hg hw
  have e1 := h1 l hg
  have hn := hw.n
  generalize wt true l = w at *
  by_cases h0 : w = []
  · subst h0
    simp -implicitDefEqProofs (disch := omega) [e1, En.rowB, En.n, En.wh, En.rs, En.hi, ofP, srt]
  · have e2 := h2 w hw h0
    have e3 := h3 95 w ⟨by omega, by omega⟩ (by omega)
    rw [if_pos ⟨by omega, by omega, h0⟩] at e3
    have hpos := List.length_pos_iff.2 h0
    have hp' : 0 < (w.length : Int) := by omega
    simp only [fracD] at e2
    simp -implicitDefEqProofs (disch := omega) [e1, En.rowB, En.n, En.wh, En.rs, En.hi, e2, e3, hp', hpos]
theorem ref50_Of_run {Γ : Env} {M : Nat} (h1 : RWaitsC (Γ 401)) (h2 : MeanC8 (Γ 422)) (h3 : PctC (Γ 421)) : OfR (run Γ M ref50_Of_f) := by
  intro d l hg hw
  have e1 := h1 l true hg
  have hn := hw.n
  generalize wt true l = w at *
  by_cases h0 : w = []
  · subst h0
    simp -implicitDefEqProofs (disch := omega) [e1, En.rowR, En.n, En.wh, En.rs, En.hi, ofP, srt]
  · have e2 := h2 w hw h0
    have e3 := h3 w hw h0 95 (by omega) (by omega)
    have hpos := List.length_pos_iff.2 h0
    have hp' : 0 < (w.length : Int) := by omega
    simp only [fracD] at e2
    simp -implicitDefEqProofs (disch := omega) [e1, En.rowR, En.n, En.wh, En.rs, En.hi, e2, e3, hp', hpos]
def IsC (g : List AV → Option (List AV)) : Prop := ∀ e : En, g [.agg e.rowB, .agg e.rowR] = some [bo true]
theorem law50_is_run (Γ : Env) (M : Nat) : IsC (run Γ M law50_is_f) := by
  intro e
  simp -implicitDefEqProofs (disch := omega) [En.rowB, En.rowR]
end Go.Am
