/- The document's table, what a word means; words; ticks. -/
import Derived.Test.YtkigddhdbnganaaArV
set_option linter.unusedVariables false
set_option linter.unusedSimpArgs false
set_option maxRecDepth 10000
set_option maxHeartbeats 1000000
namespace Go.Am
def RTabC (g : List AV → Option (List AV)) : Prop := ∀ rate : Nat, rate ≤ 4000 → g [i64 rate] = some [uV (tbl rate)]
theorem ref11_l3 (Γ : Env) (M : Nat) (hM : 100 < M) (l : List Nat) (hl : l.length ≤ 64) (hs : l.sum ≤ 4294967295) : lp (exec Γ M ref11_Table_l3) M ⟨[(3, uV l), (4, u64 0), (5, i64 0)], []⟩ = some (.ex 0, ⟨[(3, uV l), (4, u64 l.sum)], []⟩) := by
  obtain ⟨ax, s', ⟨rfl, rfl⟩, hin⟩ : ∃ ax s', (ax = .ex 0 ∧ s' = ⟨[(3, uV l), (4, u64 l.sum)], []⟩) ∧ ∀ s0, nrm [3, 4, 5] [] s0 = ⟨[(3, uV l), (4, u64 ((l.take 0).sum : Nat)), (5, i64 (0 : Nat))], []⟩ → lp (exec Γ M ref11_Table_l3) M s0 = some (ax, s') := by
    refine lp_all (fun q : Nat => ⟨[(3, uV l), (4, u64 ((l.take q).sum : Nat)), (5, i64 q)], []⟩) (fun q => q ≤ l.length) (fun q => l.length - q) _ 0 M (by simp) (by omega) (by omega) ?_
    intro q hq
    have hb2 := sum_take_le l (q + 1)
    by_cases hlt : q < l.length
    · have hss := sum_take_succ hlt
      obtain ⟨x, hx⟩ : ∃ x, l[q] = x := ⟨_, rfl⟩
      rw [hx] at hss
      have hs' : (((l.take (q + 1)).sum : Nat) : Int) = ((l.take q).sum : Nat) + x := by rw [hss]; push_cast; rfl
      generalize (l.take q).sum = a at *
      simp -implicitDefEqProofs (disch := first | omega | (simp <;> fail) | assumption) [hlt, hx, uD]
      exact ⟨q + 1, ⟨by rw [hs'], by simp⟩, by omega, by omega⟩
    · obtain rfl : q = l.length := by omega
      rw [List.take_length]
      simp -implicitDefEqProofs (disch := first | omega | (simp <;> fail) | assumption)
  exact hin _ (by simp)
theorem ref11_l1 (Γ : Env) (M : Nat) (hM : 100 < M) (l : List Nat) (hl : l.length ≤ 64) (hs : l.sum ≤ 4294967295) (S : Nat) (R : Rows) (i : Nat) (hi : i < l.length) (n : Nat) : lp (exec Γ M ref11_Table_l1) M ⟨[(3, uV l), (4, u64 S), (6, .sl 6 n 0 n), (7, i64 i), (8, u64 0), (9, i64 0)], [(6, ⟨1, R⟩)]⟩ = some (.ex 4, ⟨[(3, uV l), (4, u64 S), (6, .sl 6 n 0 n), (7, i64 i), (8, u64 ((l.take (i + 1)).sum : Nat))], [(6, ⟨1, R⟩)]⟩) := by
  obtain ⟨ax, s', ⟨rfl, rfl⟩, hin⟩ : ∃ ax s', (ax = .ex 4 ∧ s' = ⟨[(3, uV l), (4, u64 S), (6, .sl 6 n 0 n), (7, i64 i), (8, u64 ((l.take (i + 1)).sum : Nat))], [(6, ⟨1, R⟩)]⟩) ∧ ∀ s0, nrm [3, 4, 6, 7, 8, 9] [6, 60] s0 = ⟨[(3, uV l), (4, u64 S), (6, .sl 6 n 0 n), (7, i64 i), (8, u64 ((l.take 0).sum : Nat)), (9, i64 (0 : Nat))], [(6, ⟨1, R⟩)]⟩ → lp (exec Γ M ref11_Table_l1) M s0 = some (ax, s') := by
    refine lp_all (fun q : Nat => ⟨[(3, uV l), (4, u64 S), (6, .sl 6 n 0 n), (7, i64 i), (8, u64 ((l.take q).sum : Nat)), (9, i64 q)], [(6, ⟨1, R⟩)]⟩) (fun q => q ≤ i + 1) (fun q => i + 1 - q) _ 0 M (by simp) (by omega) (by omega) ?_
    intro q hq
    have hb2 := sum_take_le l (q + 1)
    by_cases hlt : q ≤ i
    · have hlt2 : q < l.length := by omega
      have hss := sum_take_succ hlt2
      obtain ⟨x, hx⟩ : ∃ x, l[q] = x := ⟨_, rfl⟩
      rw [hx] at hss
      have hs' : (((l.take (q + 1)).sum : Nat) : Int) = ((l.take q).sum : Nat) + x := by rw [hss]; push_cast; rfl
      generalize (l.take q).sum = a at *
      simp -implicitDefEqProofs (disch := first | omega | (simp <;> fail) | assumption) [hlt, hlt2, hx, uD]
      exact ⟨q + 1, ⟨by rw [hs'], by simp⟩, by omega, by omega⟩
    · obtain rfl : q = i + 1 := by omega
      have hlt' : ¬ ((i : Int) + 1 ≤ i) := by omega
      simp -implicitDefEqProofs (disch := first | omega | (simp <;> fail) | assumption) [hlt']
  exact hin _ (by simp)
theorem ref11_Table_run (Γ : Env) (M : Nat) (hM : 100 < M) (hW : RWtsC (Γ 501)) (hT : TimesH (Γ 378)) (hO : OverH (Γ 377)) : RTabC (run Γ M ref11_Table_f) := by
  intro rate hr
  have e := hW rate hr
  have hsum := wts_sum hr
  have hlen := wts_length rate
  have hpos := wts_pos rate
  have l3 := ref11_l3 Γ M hM (wts rate) hlen hsum
  have l1 := ref11_l1 Γ M hM (wts rate) hlen hsum (wts rate).sum
  have htl := tbl_length rate
  have tg := fun q (h : q < (tbl rate).length) => tbl_get h
  have sl := fun q => sum_take_le (wts rate) q
  generalize hT' : tbl rate = T at *
  generalize hW' : wts rate = W at *
  generalize hS' : W.sum = S at *
  have hTl : T.length ≤ 64 := by omega
  obtain ⟨ax, s', ⟨rfl, rfl⟩, hin⟩ : ∃ ax s', (ax = .ex 2 ∧ s' = ⟨[(6, .sl 6 T.length 0 T.length)], [(6, ⟨1, T.map uR⟩)]⟩) ∧ ∀ s0, nrm [3, 4, 6, 7] [6, 60] s0 = ⟨[(3, uV W), (4, u64 S), (6, .sl 6 0 0 0), (7, i64 (0 : Nat))], [(6, ⟨1, (T.take 0).map uR⟩)]⟩ → lp (exec Γ M ref11_Table_l2) M s0 = some (ax, s') := by
    refine lp_all (fun q : Nat => ⟨[(3, uV W), (4, u64 S), (6, .sl 6 q 0 q), (7, i64 q)], [(6, ⟨1, (T.take q).map uR⟩)]⟩) (fun q => q ≤ T.length) (fun q => T.length - q) _ 0 M (by simp) (by omega) (by omega) ?_
    intro q hq
    by_cases hlt : q < T.length
    · have hltW : q < W.length := by omega
      have x1 := l1 ((T.take q).map uR) q hltW q
      have hb := sl (q + 1)
      have x2 := hT (((W.take (q + 1)).sum : Nat) : Int) (by omega) (by omega)
      have x3 := hO ((((W.take (q + 1)).sum : Nat) : Int) * 4294967296) S (by omega) (by omega) (by omega) (by omega)
      have hv := tg q hlt
      have hv' : ((((W.take (q + 1)).sum : Nat) : Int) * 4294967296) / S = (T[q] : Nat) := by rw [hv, cast_div]
      rw [hv'] at x3
      obtain ⟨v, hvv⟩ : ∃ v, T[q] = v := ⟨_, rfl⟩
      have htk : (T.take (q + 1)).map uR = (T.take q).map uR ++ [[u64 v]] := by
        rw [List.take_succ_eq_append_getElem hlt, List.map_append, hvv]; rfl
      rw [hvv] at x3
      have hRl : ((T.take q).map uR).length = q := by rw [List.length_map, List.length_take]; omega
      have y1 := fun k => nmRows_uR k (T.take q)
      have y2 := fun k => lcRows_uR k (T.take q)
      generalize hRR : (T.take q).map uR = R at *
      generalize (((W.take (q + 1)).sum : Nat) : Int) = a at *
      generalize a * 4294967296 % S = a2 at *
      generalize a * 4294967296 = a1 at *
      simp -implicitDefEqProofs (disch := first | omega | (simp [y1, y2] <;> fail) | assumption) [hlt, hltW, x1, x2, x3, hRl, y1, y2]
      exact ⟨q + 1, ⟨by simp, by rw [← List.map_take, htk]⟩, by omega, by omega⟩
    · obtain rfl : q = T.length := by omega
      have hlt' : ¬ T.length < W.length := by omega
      rw [List.take_length]
      simp -implicitDefEqProofs (disch := first | omega | (simp <;> fail) | assumption) [hlt']
  have hin2 := hin ⟨[(3, uV W), (4, u64 S), (6, .sl 6 0 0 0), (7, i64 0)], [(6, ⟨1, []⟩)]⟩ (by simp)
  have htc : List.take T.length (T.map uD) = T.map uD := List.take_of_length_le (by simp)
  simp only [← uR_map] at hin2
  simp -implicitDefEqProofs (disch := first | omega | (simp <;> fail) | assumption) [e, l3, hin2, htc]
def MeansC (g : List AV → Option (List AV)) : Prop := ∀ rate w : Nat, w < 4294967296 → g [uV (tbl rate), u32 w] = some [i64 (meansF (tbl rate) w)]
theorem ref11_Means_run (Γ : Env) (M : Nat) (hM : 100 < M) : MeansC (run Γ M ref11_Means_f) := by
  intro rate w hw
  have hlen : (tbl rate).length ≤ 64 := by rw [tbl_length]; exact wts_length rate
  have hml := meansF_lt (rate := rate) hw
  have lo := meansF_low (tbl rate) w
  have at_ := meansF_at (tbl rate) w hml
  generalize tbl rate = T at *
  generalize hm : meansF T w = m at *
  obtain ⟨ax, s', ⟨rfl, rfl⟩, hin⟩ : ∃ ax s', (ax = .ex 0 ∧ s' = ⟨[(5, i64 m)], []⟩) ∧ ∀ s0, nrm [0, 1, 5] [] s0 = ⟨[(0, uV T), (1, u32 w), (5, i64 (0 : Nat))], []⟩ → lp (exec Γ M ref11_Means_l1) M s0 = some (ax, s') := by
    refine lp_all (fun q : Nat => ⟨[(0, uV T), (1, u32 w), (5, i64 q)], []⟩) (fun q => q ≤ m) (fun q => m - q) _ 0 M (by simp) (by omega) (by omega) ?_
    intro q hq
    have hlt : q < T.length := by omega
    obtain ⟨x, hx⟩ : ∃ x, T[q] = x := ⟨_, rfl⟩
    by_cases hqm : q < m
    · have hle := lo q hlt hqm
      rw [hx] at hle
      simp -implicitDefEqProofs (disch := first | omega | (simp <;> fail) | assumption) [hlt, hx, hle, uD]
      exact ⟨q + 1, by simp, by omega, by omega⟩
    · obtain rfl : q = m := by omega
      have hle : ¬ x ≤ w := by rw [← hx]; omega
      simp -implicitDefEqProofs (disch := first | omega | (simp <;> fail) | assumption) [hlt, hx, hle, uD]
  have hin2 := hin ⟨[(0, uV T), (1, u32 w), (5, i64 0)], []⟩ (by simp)
  simp -implicitDefEqProofs (disch := first | omega | (simp <;> fail) | assumption) [hin2]
/-! ### Words -/
def w3D (n : Nat) : List D := [.int .u32 n]
def strD (ws : List Nat) (a : Nat) : List D := [.vs 1 (ws.map w3D), .int .i64 a]
abbrev wV (ws : List Nat) : AV := .c (.vs 1 (ws.map w3D))
def LeftC (g : List AV → Option (List AV)) : Prop := ∀ (ws : List Nat) (a : Nat), a ≤ ws.length → ws.length ≤ 100000 → g [.agg (strD ws a)] = some [i64 ((ws.length - a : Nat) : Int)]
theorem words_Left_run (Γ : Env) (M : Nat) : LeftC (run Γ M words_Left_f) := by
  intro ws a ha hl
  have h1 : ¬ ((a : Int) < 0) := by omega
  have h2 : ¬ ((ws.length : Int) < a) := by omega
  have h3 : ((ws.length - a : Nat) : Int) = (ws.length : Int) - a := by omega
  rw [h3]
  simp -implicitDefEqProofs (disch := first | omega | (simp <;> fail) | assumption) [strD, h1, h2]
def NextWC (g : List AV → Option (List AV)) : Prop := (∀ ws : List Nat, ws.length ≤ 100000 → g [.agg (strD ws ws.length)] = some [u32 0, .agg (strD ws ws.length), i64 50]) ∧ ∀ (ws : List Nat) (a w : Nat), ws.length ≤ 100000 → ws[a]? = some w → g [.agg (strD ws a)] = some [u32 w, .agg (strD ws (a + 1)), i64 0]
theorem words_Next_run (Γ : Env) (M : Nat) (hL : LeftC (Γ 486)) : NextWC (run Γ M words_Next_f) := by
  constructor
  · intro ws hl
    have e := hL ws ws.length (Nat.le_refl _) hl
    rw [Nat.sub_self] at e
    simp only [strD] at e ⊢
    simp -implicitDefEqProofs (disch := first | omega | (simp <;> fail) | assumption) [e]
  · intro ws a w hl hw
    have ha : a < ws.length := by
      by_cases h : a < ws.length
      · exact h
      · rw [List.getElem?_eq_none (by omega)] at hw; simp at hw
    have e := hL ws a (by omega) hl
    have hne : ¬ ((ws.length - a : Nat) : Int) = 0 := by omega
    have hw2 := getI hw
    simp only [strD] at e ⊢
    generalize ((ws.length - a : Nat) : Int) = z at *
    simp -implicitDefEqProofs (disch := first | omega | (simp <;> fail) | assumption) [e, hne, hw, hw2, ha, w3D]
def DNextC (g : List AV → Option (List AV)) : Prop := (∀ (rate : Nat) (ws : List Nat), ws.length ≤ 100000 → g [uV (tbl rate), .agg (strD ws ws.length)] = some [i64 0, .agg (strD ws ws.length), i64 50]) ∧ ∀ (rate : Nat) (ws : List Nat) (a w : Nat), ws.length ≤ 100000 → ws[a]? = some w → w < 4294967296 → g [uV (tbl rate), .agg (strD ws a)] = some [i64 (meansF (tbl rate) w), .agg (strD ws (a + 1)), i64 0]
theorem draw_Next_run (Γ : Env) (M : Nat) (hR : RtbC (Γ 485)) (hN : NextWC (Γ 484)) (hD : DrawC (Γ 483)) : DNextC (run Γ M draw_Next_f) := by
  constructor
  · intro rate ws hl
    have e1 := hR rate
    have e2 := hN.1 ws hl
    simp only [strD] at e2 ⊢
    simp -implicitDefEqProofs (disch := first | omega | (simp <;> fail) | assumption) [e1, e2]
  · intro rate ws a w hl hw hw2
    have e1 := hR rate
    have e2 := hN.2 ws a w hl hw
    have e3 := hD rate w hw2
    simp only [strD] at e2 ⊢
    simp -implicitDefEqProofs (disch := first | omega | (simp <;> fail) | assumption) [e1, e2, e3]
end Go.Am
