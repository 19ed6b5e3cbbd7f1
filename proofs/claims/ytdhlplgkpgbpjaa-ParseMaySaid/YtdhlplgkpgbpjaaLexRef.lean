/- Law 19: the document's scan. -/
import Derived.Test.YtdhlplgkpgbpjaaLexWith
set_option linter.unusedVariables false
set_option linter.unusedSimpArgs false
set_option maxRecDepth 10000
set_option maxHeartbeats 1000000
namespace Go.Am
/-- A byte's kind. -/
def kd (b : UInt8) : Int := if isBl b then 1 else if (b.toNat : Int) = 35 then 2 else if (b.toNat : Int) = 10 then 3 else if isLt b then 4 else if isDg b then 5 else 0
def KindC (g : List AV → Option (List AV)) : Prop := ∀ b : UInt8, g [.c (.int .u8 b.toNat)] = some [i64 (kd b)]
theorem ref19_kind_run (Γ : Env) (M : Nat) : KindC (run Γ M ref19_kind_f) := by
  intro b
  have hb := b.toNat_lt
  obtain ⟨c, hc⟩ : ∃ c : Int, (b.toNat : Int) = c := ⟨_, rfl⟩
  simp only [kd, isBl, isLt, isDg, hc]
  have h0 : 0 ≤ c ∧ c ≤ 255 := by omega
  by_cases h1 : c = 32
  · subst h1; simp
  by_cases h2 : c = 9
  · subst h2; simp
  by_cases h3 : c = 13
  · subst h3; simp
  by_cases h4 : c = 35
  · subst h4; simp
  by_cases h5 : c = 10
  · subst h5; simp
  by_cases h6 : 97 ≤ c
  · by_cases h7 : c ≤ 122
    · simp [h1, h2, h3, h4, h5, h6, h7]
    · have h8 : ¬ c ≤ 57 := by omega
      have h9 : 48 ≤ c := by omega
      simp [h1, h2, h3, h4, h5, h6, h7, h8, h9]
  · by_cases h7 : 48 ≤ c
    · by_cases h8 : c ≤ 57
      · simp [h1, h2, h3, h4, h5, h6, h7, h8]
      · simp [h1, h2, h3, h4, h5, h6, h7, h8]
    · simp [h1, h2, h3, h4, h5, h6, h7]
def RNumC (g : List AV → Option (List AV)) : Prop := ∀ w : List UInt8, w.length ≤ 65536 → w ≠ [] → (∀ d ∈ w, 48 ≤ d.toNat ∧ d.toNat ≤ 57) → g [st w] = some [i64 (numG w 0), bo (!decide (numBad w))]
theorem ref19_number_run (Γ : Env) (M : Nat) (hM : 65540 < M) : RNumC (run Γ M ref19_number_f) := by
  intro W hw hne hd
  obtain ⟨w0, wr, hW⟩ : ∃ x y, W = x :: y := by cases W with | nil => exact (hne rfl).elim | cons x y => exact ⟨x, y, rfl⟩
  have hlen : 0 < W.length := by rw [hW]; simp
  have h0 : W[0]'hlen = w0 := by subst hW; rfl
  have hhd : W.head? = some w0 := by subst hW; rfl
  have hstep : ∀ k (h : k < W.length) n, numG (W.drop k) n = if 1073741824 < n then n else numG (W.drop (k + 1)) (10 * n + ((W[k]'h).toNat - 48)) := fun k h n => by
    rw [List.drop_eq_getElem_cons h]; rfl
  have hbd := numG_bound W 0 hd (by omega) (by omega)
  obtain ⟨ax, s', ⟨rfl, rfl⟩, hin⟩ : ∃ ax s', (ax = .ex 0 ∧ s' = ⟨[(0, st W), (4, i64 (numG W 0))], []⟩) ∧ ∀ t, nrm [0, 4, 5] [] t = ⟨[(0, st W), (4, i64 0), (5, i64 (0 : Nat))], []⟩ → lp (exec Γ M ref19_number_l1) M t = some (ax, s') := by
    refine lp_all (fun q : Nat × Int => ⟨[(0, st W), (4, i64 q.2), (5, i64 q.1)], []⟩) (fun q => q.1 ≤ W.length ∧ 0 ≤ q.2 ∧ q.2 ≤ 10737418249 ∧ numG W 0 = numG (W.drop q.1) q.2) (fun q => W.length - q.1) _ (0, 0) M (by simp) ⟨by omega, by omega, by omega, rfl⟩ (by simp only; omega) ?_
    rintro ⟨k, n⟩ ⟨hk, hn1, hn2, hnum⟩
    simp only at hk hn1 hn2 hnum ⊢
    by_cases hlt : k < W.length
    · by_cases hb : 1073741824 < n
      · have hnb : ¬ n ≤ 1073741824 := by omega
        have he : numG W 0 = n := by rw [hnum, numG_stop _ hb]
        simp -implicitDefEqProofs (disch := first | omega | assumption) [hlt, hnb, he]
      · have hnb : n ≤ 1073741824 := by omega
        have hdk := hd W[k] (List.getElem_mem hlt)
        have hs := hstep k hlt n
        rw [if_neg hb] at hs
        obtain ⟨d, hdd⟩ : ∃ d, W[k]'hlt = d := ⟨_, rfl⟩
        rw [hdd] at hdk hs
        simp -implicitDefEqProofs (disch := first | omega | assumption) [hlt, hnb, hdd]
        exact ⟨k + 1, 10 * n + (d.toNat - 48), ⟨by omega, by simp⟩, ⟨by omega, by omega, by omega, by rw [hnum, hs]⟩, by omega⟩
    · obtain rfl : k = W.length := by omega
      have he : numG W 0 = n := by rw [hnum]; simp [numG]
      simp -implicitDefEqProofs (disch := first | omega | assumption) [he]
  have hin1 := hin ⟨[(0, st W), (4, i64 0), (5, i64 (0 : Nat))], []⟩ (by simp)
  simp at hin1
  obtain ⟨n, hn⟩ : ∃ n, numG W 0 = n := ⟨_, rfl⟩
  have hbad : numBad W = (1073741824 < n ∨ (1 < W.length ∧ w0 = 48)) := by simp only [numBad, hn, hhd, Option.some.injEq]
  rw [hn] at hin1 ⊢
  rw [hn] at hbd
  by_cases hb : 1073741824 < n
  · have hnb : ¬ n ≤ 1073741824 := by omega
    have : numBad W := by rw [hbad]; exact .inl hb
    simp -implicitDefEqProofs (disch := first | omega | assumption) [hin1, hnb, this]
  · have hnb : n ≤ 1073741824 := by omega
    by_cases h1 : W.length = 1
    · have : ¬ numBad W := by rw [hbad]; omega
      simp -implicitDefEqProofs (disch := first | omega | assumption) [hin1, hnb, this, h1]
    · by_cases h48 : w0 = 48
      · have : numBad W := by rw [hbad]; exact .inr ⟨by omega, h48⟩
        simp -implicitDefEqProofs (disch := first | omega | assumption) [hin1, hnb, this, h1, hlen, h0, h48]
      · have : ¬ numBad W := by rw [hbad]; simp [hb, h48]
        have h48' : ¬ (w0.toNat : Int) = 48 := by
          intro h; exact h48 (UInt8.toNat_inj.1 (Int.ofNat.inj h))
        simp -implicitDefEqProofs (disch := first | omega | assumption) [hin1, hnb, this, h1, hlen, h0, h48']
end Go.Am
