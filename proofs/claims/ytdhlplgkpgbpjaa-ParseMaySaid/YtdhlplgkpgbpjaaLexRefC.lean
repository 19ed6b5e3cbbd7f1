/- Law 19: the document's scan, walked. -/
import Derived.Test.YtdhlplgkpgbpjaaLexRefB
set_option linter.unusedVariables false
set_option linter.unusedSimpArgs false
set_option maxRecDepth 10000
set_option maxHeartbeats 1000000
namespace Go.Am
def refR (R : ScR) (ax : AX) (s' : St) : Prop :=
  (R.ts = [] ∧ ax = .ret ∧ s' = ⟨[(2, .nil 5), (3, .loc 3 0 0)], [(3, ⟨3, [[i64 R.e, i64 R.l, i64 R.c]]⟩)]⟩) ∨
  (R.e = 0 ∧ R.l = 0 ∧ R.c = 0 ∧ ∃ (l c : Int) (ts : List Tk), R.ts = finT ts l c ∧ ts.length ≤ 65536 ∧ ax = .ex 0 ∧ s' = ⟨[(3, .loc 3 0 0), (4, .sl 4 ts.length 0 ts.length), (5, i64 l), (6, i64 c)], rOb ts⟩)
theorem ref_l2 (Γ : Env) (M : Nat) (hM : 65540 < M) (h68 : KindC (Γ 68)) (h67 : RNumC (Γ 67)) (s : List UInt8) (hs : s.length ≤ 65536) :
    ∃ ax s', refR (scanR s) ax s' ∧ ∀ s0, nrm [0, 3, 4, 5, 6, 7] [3, 4, 76, 88, 114, 143] s0 = ⟨rFr s 0 1 1 [], rOb []⟩ → lp (exec Γ M ref19_Scan_l2) M s0 = some (ax, s') := by
  obtain ⟨R, hR0⟩ : ∃ R, scanR s = R := ⟨_, rfl⟩
  rw [hR0]
  refine lp_all (fun q : Nat × Int × Int × List Tk => ⟨rFr s q.1 q.2.1 q.2.2.1 q.2.2.2, rOb q.2.2.2⟩)
      (fun q => q.1 ≤ s.length ∧ (1 ≤ q.2.1 ∧ q.2.1 ≤ q.1 + 1) ∧ (1 ≤ q.2.2.1 ∧ q.2.2.1 ≤ q.1 + 1) ∧ q.2.2.2.length ≤ q.1 ∧ ∀ f, s.length - q.1 < f → scl s f q.1 q.2.1 q.2.2.1 q.2.2.2 = R)
      (fun q => s.length - q.1) _ (0, 1, 1, []) M (by simp) ⟨by omega, by simp, by simp, by simp, ?_⟩ (by simp only; omega) ?_
  · intro f hf
    rw [← hR0]
    exact scl_fuel s f (s.length + 1) 0 1 1 [] (by simpa using hf) (by omega) (by omega) (by simp) (by simp)
  rintro ⟨a, l, c, ts⟩ ⟨ha, hl, hc, hts, hf⟩
  simp only at ha hl hc hts hf ⊢
  by_cases hlt : a < s.length
  · obtain ⟨E, hE, hE1, hE2, hx⟩ := nx_kd s a l c hlt
    have e68 := h68 s[a]
    have hl1 := ref_l1 Γ M hM h68 s hs a l c ts (kd s[a]) (kd_cases _) (a + 1) (by omega) ⟨rFr s a l c ts ++ [(8, i64 (kd s[a])), (9, i64 (a + 1 : Nat))], rOb ts⟩ (by simp)
    rw [hE] at hl1
    simp at hl1
    have hif : a ≤ E ∧ E ≤ s.length := by omega
    have hr := hf (s.length - a + 1) (by omega)
    simp only [scl, if_pos hlt] at hr
    have fin : ∀ (l' c' : Int) (ts' : List Tk), (1 ≤ l' ∧ l' ≤ E + 1) → (1 ≤ c' ∧ c' ≤ E + 1) → scl s (s.length - a) E l' c' ts' = R → ∀ f, s.length - E < f → scl s f E l' c' ts' = R := by
      intro l' c' ts' h1 h2 h3 f hff
      rw [scl_fuel s f (s.length - a) E l' c' ts' hff (by omega) hE2 h1 h2]
      exact h3
    rcases hx with ⟨hk, hx⟩ | ⟨hk, hx⟩ | ⟨hk, hx⟩ | ⟨hk, hx⟩ | ⟨hk, W, hW, hx⟩ | ⟨hk, W, hW, hWl, hWn, hWd, hx⟩
    · rw [hk] at e68 hl1
      rw [hx] at hr
      simp only at hr
      subst hr
      simp -implicitDefEqProofs (disch := first | omega | assumption) [hlt, e68, hl1, refR]
    · rw [hk] at e68 hl1
      rw [hx] at hr
      simp -implicitDefEqProofs (disch := first | omega | assumption) [hlt, e68, hl1]
      exact ⟨E, l, c + (E - a), ts, by simp, ⟨hE2, by omega, by omega, by omega, fin _ _ _ (by omega) (by omega) (by simpa using hr)⟩, by omega⟩
    · rw [hk] at e68 hl1
      rw [hx] at hr
      simp -implicitDefEqProofs (disch := first | omega | assumption) [hlt, e68, hl1]
      exact ⟨E, l, c + (E - a), ts, by simp, ⟨hE2, by omega, by omega, by omega, fin _ _ _ (by omega) (by omega) (by simpa using hr)⟩, by omega⟩
    · rw [hk] at e68 hl1
      rw [hx] at hr
      simp -implicitDefEqProofs (disch := first | omega | assumption) [hlt, e68, hl1]
      exact ⟨E, l + 1, 1, ts ++ [⟨3, [], 0, l, c⟩], by simp, ⟨hE2, by omega, by omega, by simp; omega, fin _ _ _ (by omega) (by omega) (by simpa using hr)⟩, by omega⟩
    · rw [hk] at e68 hl1
      rw [hx] at hr
      simp -implicitDefEqProofs (disch := first | omega | assumption) [hlt, e68, hl1, hif, hW]
      exact ⟨E, l, c + (E - a), ts ++ [⟨1, W, 0, l, c⟩], by simp, ⟨hE2, by omega, by omega, by simp; omega, fin _ _ _ (by omega) (by omega) (by simpa using hr)⟩, by omega⟩
    · rw [hk] at e68 hl1
      have e67 := h67 W (by omega) hWn hWd
      have hbd := numG_bound W 0 hWd (by omega) (by omega)
      by_cases hbad : numBad W
      · rw [hx, if_pos hbad] at hr
        simp only at hr
        subst hr
        simp -implicitDefEqProofs (disch := first | omega | assumption) [hlt, e68, hl1, hif, hW, e67, hbad, refR]
      · rw [hx, if_neg hbad] at hr
        simp -implicitDefEqProofs (disch := first | omega | assumption) [hlt, e68, hl1, hif, hW, e67, hbad]
        exact ⟨E, l, c + (E - a), ts ++ [⟨2, W, numG W 0, l, c⟩], by simp, ⟨hE2, by omega, by omega, by simp; omega, fin _ _ _ (by omega) (by omega) (by simpa using hr)⟩, by omega⟩
  · obtain rfl : a = s.length := by omega
    have hr := hf 1 (by omega)
    simp only [scl, Nat.lt_irrefl, if_false] at hr
    subst hr
    simp -implicitDefEqProofs (disch := first | omega | assumption)
    exact .inr ⟨rfl, rfl, rfl, l, c, ts, rfl, by omega, rfl, rfl⟩
end Go.Am
