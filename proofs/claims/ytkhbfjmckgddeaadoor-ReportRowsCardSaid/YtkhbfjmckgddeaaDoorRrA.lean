/- Law 42: means, percentiles, several percentiles; equal rows. -/
import Derived.Test.YtkhbfjmckgddeaaDoorRrCode
import Derived.Test.YtkhbfjmckgddeaaDoorRko
import Derived.Test.YtkhbfjmckgddeaaDoorRb
set_option linter.unusedVariables false
set_option linter.unusedSimpArgs false
set_option maxRecDepth 10000
set_option maxHeartbeats 2000000
namespace Go.Am
def RAddC (g : List AV → Option (List AV)) : Prop := ∀ a b : Int, 0 ≤ a → a ≤ 1099511627776000 → 0 ≤ b → b ≤ 1099511627776000 → g [i64 a, i64 b] = some [i64 (a + b), bo true]
theorem ref01_Add_run (Γ : Env) (M : Nat) : RAddC (run Γ M ref01_Add_f) := by
  intro a b h1 h2 h3 h4
  simp -implicitDefEqProofs (disch := omega)
def fracD (w r b : Int) : List D := [.int .i64 w, .int .i64 r, .int .i64 b]
def FracOfC (g : List AV → Option (List AV)) : Prop := ∀ n b : Int, 0 ≤ n → n ≤ 1099511627776 → 0 ≤ b → b ≤ 1099511627776 → g [i64 n, i64 b] = some (if b = 0 then [.agg (fracD 0 0 0), i64 11] else [.agg (fracD (n / b) (n % b) b), i64 0])
theorem frac_Of_run (Γ : Env) (M : Nat) : FracOfC (run Γ M frac_Of_f) := by
  intro n b h1 h2 h3 h4
  by_cases hb : b = 0
  · simp -implicitDefEqProofs (disch := omega) [fracD, hb]
  · obtain ⟨⟨p1, p2⟩, p3, p4⟩ := div_in (l := n) (c := b) h1 (by omega)
    simp -implicitDefEqProofs (disch := omega) [fracD, hb]
structure Wg (w : List Int) : Prop where
  n : w.length ≤ 100
  all : ∀ x ∈ w, 0 ≤ x ∧ x ≤ 1073741825
theorem sumW_in {b : Int} (hb : 0 ≤ b) : ∀ l : List Int, (∀ x ∈ l, 0 ≤ x ∧ x ≤ b) → 0 ≤ l.sum ∧ l.sum ≤ b * l.length
  | [], _ => by simp
  | x :: l, h => by
    have h1 := h x (by simp)
    have h2 := sumW_in hb l fun y hy => h y (by simp [hy])
    simp only [List.sum_cons, List.length_cons]
    have h3 : b * ((l.length + 1 : Nat) : Int) = b * l.length + b := by rw [Int.natCast_add, Int.mul_add]; simp
    omega
theorem Wg.sum {w : List Int} (h : Wg w) (k : Nat) : 0 ≤ (w.take k).sum ∧ (w.take k).sum ≤ 107374182500 := by
  have h1 := sumW_in (b := 1073741825) (by omega) (w.take k) fun x hx => h.all x (List.mem_of_mem_take hx)
  have h2 : (w.take k).length ≤ 100 := by have := h.n; rw [List.length_take]; omega
  generalize (w.take k).length = n at *
  omega
theorem Wg.sumA {w : List Int} (h : Wg w) : 0 ≤ w.sum ∧ w.sum ≤ 107374182500 := by
  have := h.sum w.length
  rwa [List.take_length] at this
theorem sumk (l : List Int) (k : Nat) (h : k < l.length) : (l.take (k + 1)).sum = (l.take k).sum + l[k] := by
  rw [List.take_succ_eq_append_getElem h, List.sum_append]; simp
def MeanC8 (g : List AV → Option (List AV)) : Prop := ∀ w : List Int, Wg w → w ≠ [] → g [vI w] = some [.agg (fracD (w.sum / w.length) (w.sum % w.length) w.length), i64 0]
theorem frac_Mean_run {Γ : Env} {M : Nat} (hM : 1000 < M) (h1 : NAddC (Γ 389)) (h2 : FracOfC (Γ 387)) : MeanC8 (run Γ M frac_Mean_f) := by
  intro w hw hne
  have hn := hw.n
  have hpos := List.length_pos_iff.2 hne
  obtain ⟨ax, s', ⟨rfl, rfl⟩, hin⟩ : ∃ ax s', (ax = .ex 0 ∧ s' = ⟨[(0, vI w), (2, .loc 2 0 0), (4, i64 w.sum), (5, i64 0)], [(2, ⟨3, [[i64 0, i64 0, i64 0]]⟩)]⟩) ∧ ∀ s0, nrm [0, 2, 4, 5, 8, 9, 10] [2] s0 = ⟨[(0, vI w), (2, .loc 2 0 0), (4, i64 (w.take 0).sum), (5, i64 0), (8, vI w), (9, i64 w.length), (10, i64 (0 : Nat))], [(2, ⟨3, [[i64 0, i64 0, i64 0]]⟩)]⟩ → lp (exec Γ M frac_Mean_l1) M s0 = some (ax, s') := by
    refine lp_all (fun q : Nat => ⟨[(0, vI w), (2, .loc 2 0 0), (4, i64 (w.take q).sum), (5, i64 0), (8, vI w), (9, i64 w.length), (10, i64 q)], [(2, ⟨3, [[i64 0, i64 0, i64 0]]⟩)]⟩) (fun q => q ≤ w.length) (fun q => w.length - q) _ 0 M (by simp) (by simp) (by omega) ?_
    intro k hk
    by_cases hlt : k < w.length
    · obtain ⟨z, hz⟩ : ∃ z, w[k]'hlt = z := ⟨_, rfl⟩
      have hs := sumk w k hlt
      rw [hz] at hs
      have hb := hw.sum k
      have hzb := hw.all z (hz ▸ List.getElem_mem hlt)
      have e := h1 (w.take k).sum z (by omega) (by omega) (by omega) (by omega)
      generalize (w.take k).sum = S at *
      have hz0 : ¬ z < 0 := by omega
      simp -implicitDefEqProofs (disch := first | omega | assumption) [hlt, hz, intD, e, hz0]
      exact ⟨k + 1, ⟨by omega, by omega⟩, by omega, by omega⟩
    · obtain rfl : k = w.length := by omega
      rw [List.take_length]
      simp -implicitDefEqProofs (disch := first | omega | assumption)
  have hlp := hin ⟨[(0, vI w), (2, .loc 2 0 0), (4, i64 0), (5, i64 0), (8, vI w), (9, i64 w.length), (10, i64 0)], [(2, ⟨3, [[i64 0, i64 0, i64 0]]⟩)]⟩ (by simp)
  have hS := hw.sumA
  have e := h2 w.sum w.length (by omega) (by omega) (by omega) (by omega)
  rw [if_neg (by omega)] at e
  simp only [fracD] at e ⊢
  generalize w.sum = S at *
  simp -implicitDefEqProofs (disch := first | omega | assumption) [hlp, e]
theorem ref08_Mean_run {Γ : Env} {M : Nat} (hM : 1000 < M) (h1 : RAddC (Γ 375)) : MeanC8 (run Γ M ref08_Mean_f) := by
  intro w hw hne
  have hn := hw.n
  have hpos := List.length_pos_iff.2 hne
  obtain ⟨ax, s', ⟨rfl, rfl⟩, hin⟩ : ∃ ax s', (ax = .ex 0 ∧ s' = ⟨[(0, vI w), (2, .loc 2 0 0), (4, i64 w.sum), (5, bo true)], [(2, ⟨3, [[i64 0, i64 0, i64 0]]⟩)]⟩) ∧ ∀ s0, nrm [0, 2, 4, 5, 6] [2] s0 = ⟨[(0, vI w), (2, .loc 2 0 0), (4, i64 (w.take 0).sum), (5, bo true), (6, i64 (0 : Nat))], [(2, ⟨3, [[i64 0, i64 0, i64 0]]⟩)]⟩ → lp (exec Γ M ref08_Mean_l1) M s0 = some (ax, s') := by
    refine lp_all (fun q : Nat => ⟨[(0, vI w), (2, .loc 2 0 0), (4, i64 (w.take q).sum), (5, bo true), (6, i64 q)], [(2, ⟨3, [[i64 0, i64 0, i64 0]]⟩)]⟩) (fun q => q ≤ w.length) (fun q => w.length - q) _ 0 M (by simp) (by simp) (by omega) ?_
    intro k hk
    by_cases hlt : k < w.length
    · obtain ⟨z, hz⟩ : ∃ z, w[k]'hlt = z := ⟨_, rfl⟩
      have hs := sumk w k hlt
      rw [hz] at hs
      have hb := hw.sum k
      have hzb := hw.all z (hz ▸ List.getElem_mem hlt)
      have e := h1 (w.take k).sum z (by omega) (by omega) (by omega) (by omega)
      generalize (w.take k).sum = S at *
      have hz0 : ¬ z < 0 := by omega
      simp -implicitDefEqProofs (disch := first | omega | assumption) [hlt, hz, intD, e, hz0]
      exact ⟨k + 1, ⟨by omega, by omega⟩, by omega, by omega⟩
    · obtain rfl : k = w.length := by omega
      rw [List.take_length]
      simp -implicitDefEqProofs (disch := first | omega | assumption)
  have hlp := hin ⟨[(0, vI w), (2, .loc 2 0 0), (4, i64 0), (5, bo true), (6, i64 0)], [(2, ⟨3, [[i64 0, i64 0, i64 0]]⟩)]⟩ (by simp)
  have hS := hw.sumA
  have hd := div_in (l := w.sum) (c := w.length) hS.1 (by omega)
  have hn0 : ¬ (w.length : Int) = 0 := by omega
  simp only [fracD]
  generalize w.sum = S at *
  generalize hN : w.length = n at *
  have hn1 : ¬ n = 0 := by omega
  simp -implicitDefEqProofs (disch := first | omega | assumption) [hlp, hne, hn0, hn1, hN]
/-! ### Percentiles -/
theorem pct_best {w : List Int} (hne : w ≠ []) {p z : Int} (hp : 1 ≤ p ∧ p ≤ 100) (hz : z ∈ w) (h1 : p * w.length ≤ 100 * (cntI z w : Int)) (h2 : ∀ y ∈ w, p * w.length ≤ 100 * (cntI y w : Int) → z ≤ y) : z = ofP p w := by
  have a := h2 _ (ofP_mem hp hne) (ofP_enough hp hne)
  by_cases c : z < ofP p w
  · have := ofP_least hp hne c
    omega
  · omega
def PctC (g : List AV → Option (List AV)) : Prop := ∀ w : List Int, Wg w → w ≠ [] → ∀ p : Int, 1 ≤ p → p ≤ 100 → g [i64 p, vI w] = some [i64 (ofP p w)]
/-- The least so far with enough at or below it: some of the first k. -/
structure PcI (p : Int) (w : List Int) (k : Nat) (best : Int) (some_ : Bool) : Prop where
  kl : k ≤ w.length
  yes : some_ = true → best ∈ w ∧ p * w.length ≤ 100 * (cntI best w : Int)
  least : ∀ y ∈ w.take k, p * w.length ≤ 100 * (cntI y w : Int) → some_ = true ∧ best ≤ y
theorem ref42_Percentile_run (Γ : Env) (M : Nat) (hM : 1000 < M) : PctC (run Γ M ref42_Percentile_f) := by
  intro w hw hne p hp1 hp2
  have hn := hw.n
  have hmul : 0 ≤ p * (w.length : Int) ∧ p * (w.length : Int) ≤ 10000 := by
    have h1 : 0 ≤ p * (w.length : Int) := Int.mul_nonneg (by omega) (by omega)
    have h2 : p * (w.length : Int) ≤ 100 * (w.length : Int) := Int.mul_le_mul_of_nonneg_right hp2 (by omega)
    omega
  have inner : ∀ (b : Int) (sm : Bool) (i : Nat) (hi : i < w.length) (z : Int), w[i]'hi = z → ∀ s0, nrm [0, 1, 5, 6, 7, 8, 9] [] s0 = ⟨[(0, i64 p), (1, vI w), (5, i64 b), (6, bo sm), (7, i64 i), (8, i64 (cntI z (w.take 0))), (9, i64 (0 : Nat))], []⟩ → lp (exec Γ M ref42_Percentile_l1) M s0 = some (.ex 2, ⟨[(0, i64 p), (1, vI w), (5, i64 b), (6, bo sm), (7, i64 i), (8, i64 (cntI z w))], []⟩) := by
    intro b sm i hi z hz
    obtain ⟨ax, s', ⟨rfl, rfl⟩, hin⟩ : ∃ ax s', (ax = .ex 2 ∧ s' = ⟨[(0, i64 p), (1, vI w), (5, i64 b), (6, bo sm), (7, i64 i), (8, i64 (cntI z w))], []⟩) ∧ ∀ s0, nrm [0, 1, 5, 6, 7, 8, 9] [] s0 = ⟨[(0, i64 p), (1, vI w), (5, i64 b), (6, bo sm), (7, i64 i), (8, i64 (cntI z (w.take 0))), (9, i64 (0 : Nat))], []⟩ → lp (exec Γ M ref42_Percentile_l1) M s0 = some (ax, s') := by
      refine lp_all (fun q : Nat => ⟨[(0, i64 p), (1, vI w), (5, i64 b), (6, bo sm), (7, i64 i), (8, i64 (cntI z (w.take q))), (9, i64 q)], []⟩) (fun q => q ≤ w.length) (fun q => w.length - q) _ 0 M (by simp) (by simp) (by omega) ?_
      intro k hk
      by_cases hlt : k < w.length
      · obtain ⟨y, hy⟩ : ∃ z, w[k]'hlt = z := ⟨_, rfl⟩
        have hs := cnt_snoc z (w.take k) w[k]
        rw [← List.take_succ_eq_append_getElem hlt] at hs
        have hcl := cnt_le z (w.take k)
        rw [List.length_take] at hcl
        rw [hy] at hs
        generalize cntI z (w.take k) = C at *
        by_cases c : y ≤ z
        · rw [if_pos c] at hs
          simp -implicitDefEqProofs (disch := first | omega | assumption) [hlt, hi, hz, hy, intD, c]
          exact ⟨k + 1, ⟨by omega, by omega⟩, by omega, by omega⟩
        · rw [if_neg c] at hs
          simp -implicitDefEqProofs (disch := first | omega | assumption) [hlt, hi, hz, hy, intD, c]
          exact ⟨k + 1, ⟨by omega, by omega⟩, by omega, by omega⟩
      · obtain rfl : k = w.length := by omega
        rw [List.take_length]
        simp -implicitDefEqProofs (disch := first | omega | assumption)
    exact hin
  obtain ⟨ax, s', hR, hin⟩ : ∃ ax s', (∃ b sm, ax = .ex 0 ∧ s' = ⟨[(5, i64 b)], []⟩ ∧ PcI p w w.length b sm) ∧ ∀ s0, nrm [0, 1, 5, 6, 7] [] s0 = ⟨[(0, i64 p), (1, vI w), (5, i64 0), (6, bo false), (7, i64 (0 : Nat))], []⟩ → lp (exec Γ M ref42_Percentile_l2) M s0 = some (ax, s') := by
    refine lp_all (fun q : Nat × Int × Bool => ⟨[(0, i64 p), (1, vI w), (5, i64 q.2.1), (6, bo q.2.2), (7, i64 q.1)], []⟩) (fun q => PcI p w q.1 q.2.1 q.2.2) (fun q => w.length - q.1) _ (0, 0, false) M (by simp) ⟨by simp, by simp, fun y hy => by simp at hy⟩ (by simp only; omega) ?_
    rintro ⟨k, b, sm⟩ ⟨hk, hy, hl⟩
    simp only at hk hy hl
    by_cases hlt : k < w.length
    · obtain ⟨z, hz⟩ : ∃ z, w[k]'hlt = z := ⟨_, rfl⟩
      have hlp := inner b sm k hlt z hz ⟨[(0, i64 p), (1, vI w), (5, i64 b), (6, bo sm), (7, i64 k), (8, i64 0), (9, i64 0)], []⟩ (by simp [cntI])
      have hc := cnt_le z w
      have hzm : z ∈ w := hz ▸ List.getElem_mem hlt
      have hnext : ∀ b' sm', (sm' = true → b' ∈ w ∧ p * w.length ≤ 100 * (cntI b' w : Int)) → (sm = true → sm' = true ∧ b' ≤ b) → (p * w.length ≤ 100 * (cntI z w : Int) → sm' = true ∧ b' ≤ z) → PcI p w (k + 1) b' sm' := by
        intro b' sm' h1 h2 h3
        refine ⟨by omega, h1, fun y hy' hh => ?_⟩
        rw [List.take_succ_eq_append_getElem hlt, hz, List.mem_append] at hy'
        rcases hy' with hy' | hy'
        · obtain ⟨q1, q2⟩ := hl y hy' hh
          obtain ⟨q3, q4⟩ := h2 q1
          exact ⟨q3, by omega⟩
        · rw [List.mem_singleton] at hy'
          subst hy'
          exact h3 hh
      generalize hC : cntI z w = C at *
      by_cases c1 : p * (w.length : Int) ≤ 100 * (C : Int)
      · cases sm with
        | false =>
          simp -implicitDefEqProofs (disch := first | omega | assumption) [hlt, hz, intD, hlp, c1]
          exact ⟨k + 1, z, by simp, hnext z true (fun _ => ⟨hzm, by rw [hC]; exact c1⟩) (by simp) (fun _ => ⟨rfl, by omega⟩), by omega⟩
        | true =>
          obtain ⟨hb1, hb2⟩ := hy rfl
          by_cases c2 : z < b
          · simp -implicitDefEqProofs (disch := first | omega | assumption) [hlt, hz, intD, hlp, c1, c2]
            exact ⟨k + 1, z, by simp, hnext z true (fun _ => ⟨hzm, by rw [hC]; exact c1⟩) (fun _ => ⟨rfl, by omega⟩) (fun _ => ⟨rfl, by omega⟩), by omega⟩
          · simp -implicitDefEqProofs (disch := first | omega | assumption) [hlt, hz, intD, hlp, c1, c2]
            exact ⟨k + 1, b, by simp, hnext b true (fun _ => ⟨hb1, hb2⟩) (fun _ => ⟨rfl, by omega⟩) (fun _ => ⟨rfl, by omega⟩), by omega⟩
      · have hn2 := hnext b sm hy (fun h => ⟨h, by omega⟩) (fun h => absurd h (by omega))
        cases sm with
        | false =>
          simp -implicitDefEqProofs (disch := first | omega | assumption) [hlt, hz, intD, hlp, c1]
          exact ⟨k + 1, b, by simp, hn2, by omega⟩
        | true =>
          simp -implicitDefEqProofs (disch := first | omega | assumption) [hlt, hz, intD, hlp, c1]
          exact ⟨k + 1, b, by simp, hn2, by omega⟩
    · obtain rfl : k = w.length := by omega
      simp -implicitDefEqProofs (disch := first | omega | assumption)
      cases sm with
      | false => exact .inl ⟨hk, hy, hl⟩
      | true => exact .inr ⟨hk, hy, hl⟩
  obtain ⟨b, sm, rfl, rfl, hk, hy, hl⟩ := hR
  have hlp := hin ⟨[(0, i64 p), (1, vI w), (5, i64 0), (6, bo false), (7, i64 0)], []⟩ (by simp)
  rw [List.take_length] at hl
  obtain ⟨s1, s2⟩ := hl _ (ofP_mem ⟨hp1, hp2⟩ hne) (ofP_enough ⟨hp1, hp2⟩ hne)
  obtain ⟨s3, s4⟩ := hy s1
  have := pct_best hne ⟨hp1, hp2⟩ s3 s4 fun y hy hh => (hl y hy hh).2
  simp -implicitDefEqProofs (disch := first | omega | assumption) [hlp, this]
def goodP (ps l : List Int) : Prop := ∀ p ∈ ps, 1 ≤ p ∧ p ≤ 100 ∧ l ≠ []
def ManyC (g : List AV → Option (List AV)) : Prop := ∀ ps l : List Int, AllI ps → ps.length ≤ 60 → l.length ≤ 60000 → ((goodP ps l ∧ g [vI ps, vI l] = some [vI (ps.map (ofP · l)), i64 0]) ∨ (¬ goodP ps l ∧ g [vI ps, vI l] = some [vI [], i64 22]))
theorem intRows_eq (l : List Int) : intRows l = l.map (toAV ∘ intD) := rfl
theorem intRows_snoc (l : List Int) (k : Nat) (h : k < l.length) : intRows (l.take k) ++ [[.c (.int .i64 l[k])]] = intRows (l.take (k + 1)) := by
  rw [List.take_succ_eq_append_getElem h]; simp only [intRows, List.map_append, List.map_cons, List.map_nil]
theorem rank_Many_run (Γ : Env) (M : Nat) (hM : 100 < M) (h252 : OfC15 (Γ 252)) : ManyC (run Γ M rank_Many_f) := by
  intro ps l hI hps hl
  obtain ⟨F, hF⟩ : ∃ F, ps.map (ofP · l) = F := ⟨_, rfl⟩
  have hFl : F.length = ps.length := by rw [← hF]; simp
  have hFg : ∀ (k : Nat) (h : k < ps.length), F[k]'(by omega) = ofP ps[k] l := fun k h => by simp [← hF]
  rw [hF]
  obtain ⟨ax, s', hR, hin⟩ : ∃ ax s', ((goodP ps l ∧ ax = .ex 0 ∧ s' = ⟨[(6, .sl 6 ps.length 0 ps.length)], [(6, ⟨1, intRows F⟩)]⟩) ∨ (¬ goodP ps l ∧ ax = .ret ∧ ∃ ob, s' = ⟨[(4, .nil 1), (5, i64 22)], ob⟩)) ∧ ∀ s0, nrm [1, 6, 11, 12, 13] [6, 29] s0 = ⟨[(1, vI l), (6, .sl 6 0 0 0), (11, vI ps), (12, i64 ps.length), (13, i64 (0 : Nat))], [(6, ⟨1, intRows (F.take 0)⟩)]⟩ → lp (exec Γ M rank_Many_l1) M s0 = some (ax, s') := by
    refine lp_all (fun q : Nat => ⟨[(1, vI l), (6, .sl 6 q 0 q), (11, vI ps), (12, i64 ps.length), (13, i64 q)], [(6, ⟨1, intRows (F.take q)⟩)]⟩) (fun q => q ≤ ps.length ∧ goodP (ps.take q) l) (fun q => ps.length - q) _ 0 M (by simp) ⟨by simp, by simp [goodP]⟩ (by omega) ?_
    rintro k ⟨h1, h2⟩
    have hrl : (intRows (F.take k)).length = k := by rw [intRows_length, List.length_take]; omega
    have hrc : lcRows 6 (intRows (F.take k)) = true := lcRows_comp 6 intD _
    by_cases hlt : k < ps.length
    · obtain ⟨z, hz⟩ : ∃ z, ps[k]'hlt = z := ⟨_, rfl⟩
      have hzm : z ∈ ps := by rw [← hz]; exact List.getElem_mem hlt
      have hzI : InI64 z := hI z hzm
      have e := h252 z l hzI hl
      have hs := intRows_snoc F k (by omega)
      rw [hFg k hlt, hz] at hs
      generalize hG : intRows (F.take k) = G at *
      by_cases c : 1 ≤ z ∧ z ≤ 100 ∧ l ≠ []
      · rw [if_pos c] at e
        have hg2 : goodP (ps.take (k + 1)) l := by
          rw [List.take_succ_eq_append_getElem hlt, hz]
          intro p hp
          simp only [List.mem_append, List.mem_singleton] at hp
          rcases hp with hp | rfl
          · exact h2 p hp
          · exact c
        simp -implicitDefEqProofs (disch := first | omega | assumption) [hlt, hz, intD, e, hrl, hrc, hs]
        exact ⟨k + 1, by simp, ⟨by omega, hg2⟩, by omega⟩
      · rw [if_neg c] at e
        have hng : ¬ goodP ps l := fun h => c (h z hzm)
        simp -implicitDefEqProofs (disch := first | omega | assumption) [hlt, hz, intD, e, hrl, hrc, hs]
        exact hng
    · obtain rfl : k = ps.length := by omega
      rw [List.take_length] at h2
      have hF2 : F.take ps.length = F := by rw [← hFl, List.take_length]
      rw [hF2]
      simp -implicitDefEqProofs (disch := first | omega | assumption) [h2]
  rcases hR with ⟨hg, rfl, rfl⟩ | ⟨hg, rfl, ob, rfl⟩
  · left
    refine ⟨hg, ?_⟩
    have h0 : F.take 0 = [] := rfl
    have hin := hin ⟨[(1, vI l), (6, .sl 6 0 0 0), (11, vI ps), (12, i64 ps.length), (13, i64 (0 : Nat))], [(6, ⟨1, []⟩)]⟩ (by simp [intRows])
    simp at hin
    have ha := allRows_comp intD F
    rw [← intRows_eq] at ha
    have hF2 : (F.map intD).take ps.length = F.map intD := by rw [← hFl, ← List.length_map (f := intD), List.take_length]
    have hrl : (intRows F).length = ps.length := by rw [intRows_length, hFl]
    generalize intRows F = G at *
    simp -implicitDefEqProofs (disch := first | omega | (simp <;> fail) | assumption) [hin, hFl, ha, hF2, hrl]
  · right
    refine ⟨hg, ?_⟩
    have hin := hin ⟨[(1, vI l), (6, .sl 6 0 0 0), (11, vI ps), (12, i64 ps.length), (13, i64 (0 : Nat))], [(6, ⟨1, []⟩)]⟩ (by simp [intRows])
    simp at hin
    simp -implicitDefEqProofs (disch := first | omega | (simp <;> fail) | assumption) [hin]
def EqR (g : List AV → Option (List AV)) : Prop := ∀ r : TRow, r.length ≤ 100000 → g [vR r, vR r] = some [bo true]
theorem slices_Equal_R_run (Γ : Env) (M : Nat) (hM : 100000 < M) : EqR (run Γ M slices_Equal_Sstring_string_f) := by
  intro ts hl
  obtain ⟨ax, s', ⟨rfl, rfl⟩, hin⟩ : ∃ ax s', (ax = .ex 0 ∧ s' = ⟨[], []⟩) ∧ ∀ s0, nrm [0, 1, 12, 13] [] s0 = ⟨[(0, vR ts), (1, vR ts), (12, i64 ts.length), (13, i64 (0 : Nat))], []⟩ → lp (exec Γ M slices_Equal_Sstring_string_l1) M s0 = some (ax, s') := by
    refine lp_all (fun q : Nat => ⟨[(0, vR ts), (1, vR ts), (12, i64 ts.length), (13, i64 q)], []⟩) (fun q => q ≤ ts.length) (fun q => ts.length - q) _ 0 M (by simp) (by omega) (by omega) ?_
    intro k hk
    by_cases hlt : k < ts.length
    · simp -implicitDefEqProofs (disch := first | omega | assumption) [hlt, txQ]
      exact ⟨k + 1, by omega, by omega, by omega⟩
    · obtain rfl : k = ts.length := by omega
      simp -implicitDefEqProofs (disch := first | omega | assumption)
  simp -implicitDefEqProofs (disch := first | omega | (simp <;> fail) | assumption) [hin]
end Go.Am
