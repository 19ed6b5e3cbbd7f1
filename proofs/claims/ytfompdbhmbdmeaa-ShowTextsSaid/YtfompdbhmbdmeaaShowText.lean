/- Law 27: the small functions. -/
import Derived.Test.YtfompdbhmbdmeaaShowLine7
set_option linter.unusedVariables false
set_option linter.unusedSimpArgs false
set_option maxRecDepth 10000
set_option maxHeartbeats 1000000
namespace Go.Am
def tplW (k : Int) : List UInt8 := if k = 1 then [117, 112, 112, 101, 97, 107] else if k = 2 then [108, 117, 110, 99, 104] else if k = 3 then [100, 111, 119, 110, 112, 101, 97, 107] else if k = 4 then [105, 110, 116, 101, 114, 102, 108, 111, 111, 114] else []
def disW (k : Int) : List UInt8 := if k = 1 then [99, 111, 108, 108, 101, 99, 116, 105, 118, 101] else if k = 2 then [115, 101, 99, 116, 111, 114, 115] else if k = 3 then [115, 111, 111, 110, 101, 115, 116] else if k = 4 then [100, 101, 115, 116, 105, 110, 97, 116, 105, 111, 110] else []
def TplC (g : List AV → Option (List AV)) : Prop := ∀ k : Int, g [i64 k] = some [st (tplW k)]
def DisC (g : List AV → Option (List AV)) : Prop := ∀ k : Int, g [i64 k] = some [st (disW k)]
theorem show_Template_run (Γ : Env) (M : Nat) : TplC (run Γ M show_Template_f) := by
  intro k
  by_cases h1 : k = 1
  · subst h1; simp [tplW]
  by_cases h2 : k = 2
  · subst h2; simp [tplW]
  by_cases h3 : k = 3
  · subst h3; simp [tplW]
  by_cases h4 : k = 4
  · subst h4; simp [tplW]
  simp [tplW, h1, h2, h3, h4]
theorem show_Dispatcher_run (Γ : Env) (M : Nat) : DisC (run Γ M show_Dispatcher_f) := by
  intro k
  by_cases h1 : k = 1
  · subst h1; simp [disW]
  by_cases h2 : k = 2
  · subst h2; simp [disW]
  by_cases h3 : k = 3
  · subst h3; simp [disW]
  by_cases h4 : k = 4
  · subst h4; simp [disW]
  simp [disW, h1, h2, h3, h4]
theorem ref27_Template_run (Γ : Env) (M : Nat) : TplC (run Γ M ref27_Template_f) := by
  intro k
  by_cases h1 : k = 1
  · subst h1; simp [tplW]
  by_cases h2 : k = 2
  · subst h2; simp [tplW]
  by_cases h3 : k = 3
  · subst h3; simp [tplW]
  by_cases h4 : k = 4
  · subst h4; simp [tplW]
  by_cases h5 : k < 1
  · simp [tplW, h1, h2, h3, h4, h5]
  · have h6 : 4 < k := by omega
    simp [tplW, h1, h2, h3, h4, h5, h6]
theorem ref27_Dispatcher_run (Γ : Env) (M : Nat) : DisC (run Γ M ref27_Dispatcher_f) := by
  intro k
  by_cases h1 : k = 1
  · subst h1; simp [disW]
  by_cases h2 : k = 2
  · subst h2; simp [disW]
  by_cases h3 : k = 3
  · subst h3; simp [disW]
  by_cases h4 : k = 4
  · subst h4; simp [disW]
  by_cases h5 : k < 1
  · simp [disW, h1, h2, h3, h4, h5]
  · have h6 : 4 < k := by omega
    simp [disW, h1, h2, h3, h4, h5, h6]
def whr (c l k : Int) : List UInt8 := if c = 0 then [] else txt l ++ [58] ++ txt k ++ [58, 32, 101, 114, 114, 111, 114, 32] ++ txt c
def WhrC (g : List AV → Option (List AV)) : Prop := ∀ c l k : Int, InI64 c → InI64 l → InI64 k → g [.agg [.int .i64 c, .int .i64 l, .int .i64 k]] = some [st (whr c l k)]
theorem txt_len (n : Int) : (txt n).length ≤ 21 := by
  unfold txt; split
  · have := dig_len (-n); simp; omega
  · have := dig_len n; omega
theorem show_Where_run (Γ : Env) (M : Nat) (h50 : Of (Γ 50)) : WhrC (run Γ M show_Where_f) := by
  intro c l k hc hl hk
  have e1 := h50 c hc
  have e2 := h50 l hl
  have e3 := h50 k hk
  have l1 := txt_len c
  have l2 := txt_len l
  have l3 := txt_len k
  by_cases h0 : c = 0
  · subst h0; simp [whr]
  · have hw : whr c l k = txt l ++ [58] ++ txt k ++ [58, 32, 101, 114, 114, 111, 114, 32] ++ txt c := if_neg h0
    rw [hw]
    generalize txt c = x at *
    generalize txt l = y at *
    generalize txt k = z at *
    simp -implicitDefEqProofs (disch := first | omega | ((try simp only [List.length_append, List.length_cons, List.length_nil, maxStr_eq]); omega) | assumption) [binS_add, h0, e1, e2, e3]
theorem ref27_Where_run (Γ : Env) (M : Nat) (h6 : Of (Γ 6)) : WhrC (run Γ M ref27_Where_f) := by
  intro c l k hc hl hk
  have e1 := h6 c hc
  have e2 := h6 l hl
  have e3 := h6 k hk
  have l1 := txt_len c
  have l2 := txt_len l
  have l3 := txt_len k
  by_cases h0 : c = 0
  · subst h0; simp [whr]
  · have hw : whr c l k = txt l ++ [58] ++ txt k ++ [58, 32, 101, 114, 114, 111, 114, 32] ++ txt c := if_neg h0
    rw [hw]
    generalize txt c = x at *
    generalize txt l = y at *
    generalize txt k = z at *
    simp -implicitDefEqProofs (disch := first | omega | ((try simp only [List.length_append, List.length_cons, List.length_nil, maxStr_eq]); omega) | assumption) [binS_add, h0, e1, e2, e3]
def RLineC (g : List AV → Option (List AV)) : Prop := ∀ (w : List UInt8) (l : List Int) (L : AV), (L = nV l ∨ (l = [] ∧ L = .nil 1)) → w.length ≤ 100 → l.length ≤ 10 → (∀ n ∈ l, InI64 n) → g [st w, L] = some [st (w ++ numsT l ++ [10])]
theorem ref27_line_run (Γ : Env) (M : Nat) (hM : 100 < M) (h6 : Of (Γ 6)) : RLineC (run Γ M ref27_line_f) := by
  intro w l L hL hw hl hI
  obtain ⟨ax, s', ⟨rfl, rfl⟩, hin⟩ : ∃ ax s', (ax = .ex 0 ∧ s' = ⟨[(0, st (w ++ numsT l))], []⟩) ∧ ∀ s0, nrm [0, 1, 5] [] s0 = ⟨[(0, st (w ++ numsT (l.take 0))), (1, L), (5, i64 (0 : Nat))], []⟩ → lp (exec Γ M ref27_line_l1) M s0 = some (ax, s') := by
    refine lp_all (fun k : Nat => ⟨[(0, st (w ++ numsT (l.take k))), (1, L), (5, i64 k)], []⟩) (fun k => k ≤ l.length) (fun k => l.length - k) _ 0 M (by simp) (by omega) (by omega) ?_
    intro k hk
    by_cases hlt : k < l.length
    · obtain rfl : L = nV l := by
        rcases hL with h | ⟨h, _⟩
        · exact h
        · subst h; simp at hlt
      have e1 := h6 l[k] (hI _ (List.getElem_mem hlt))
      have hx := txt_len l[k]
      have hlen := numsT_len (l.take k)
      have hlk : (l.take k).length ≤ 10 := by simp; omega
      have hnext : w ++ numsT (l.take (k + 1)) = (w ++ numsT (l.take k)) ++ (32 :: txt l[k]) := by
        rw [List.take_succ_eq_append_getElem hlt, numsT_app]; simp [numsT]
      have hTl : (w ++ numsT (l.take k)).length ≤ 1000 := by simp only [List.length_append]; omega
      obtain ⟨T, hTT⟩ : ∃ T, w ++ numsT (l.take k) = T := ⟨_, rfl⟩
      obtain ⟨X, hX⟩ : ∃ X, txt l[k] = X := ⟨_, rfl⟩
      rw [hTT] at hnext hTl ⊢
      rw [hX] at hnext e1 hx
      simp -implicitDefEqProofs (disch := first | omega | ((try simp only [List.length_append, List.length_cons, List.length_nil, maxStr_eq]); omega) | assumption) [binS_add, hlt, nV, e1]
      exact ⟨k + 1, ⟨hnext.symm, by simp⟩, by omega, by omega⟩
    · obtain rfl : k = l.length := by omega
      rcases hL with rfl | ⟨rfl, rfl⟩
      · simp -implicitDefEqProofs (disch := first | omega | assumption) [nV]
      · simp
  have hlp := hin ⟨[(0, st (w ++ numsT (l.take 0))), (1, L), (5, i64 (0 : Nat))], []⟩ (by simp)
  have e0 : w ++ numsT (l.take 0) = w := by simp [numsT]
  rw [e0] at hlp
  simp at hlp
  have hlen := numsT_len l
  have hTl : (w ++ numsT l).length ≤ 1000 := by simp only [List.length_append]; omega
  obtain ⟨T, hTT⟩ : ∃ T, w ++ numsT l = T := ⟨_, rfl⟩
  rw [hTT] at hlp hTl ⊢
  simp -implicitDefEqProofs (disch := first | omega | ((try simp only [List.length_append, List.length_cons, List.length_nil, maxStr_eq]); omega) | assumption) [binS_add, hlp]
end Go.Am
