/- Law 19: the document's scan: how far a token goes. -/
import Derived.Test.YtdhlplgkpgbpjaaLexRef
set_option linter.unusedVariables false
set_option linter.unusedSimpArgs false
set_option maxRecDepth 10000
set_option maxHeartbeats 1000000
namespace Go.Am
/-- What a token of a kind goes on with. -/
def pk (k : Int) (b : UInt8) : Bool := if k = 4 then decide (kd b = 4) else if k = 5 then decide (kd b = 5) else if k = 2 then !decide ((b.toNat : Int) = 10) else false
abbrev rOb (ts : List Tk) : List (Nat × Obj) := [(3, ⟨3, [[i64 0, i64 0, i64 0]]⟩), (4, ⟨5, ts.map (toAV ∘ Tk.cells)⟩)]
abbrev rFr (s : List UInt8) (a : Nat) (l c : Int) (ts : List Tk) : List (Nat × AV) := [(0, st s), (3, .loc 3 0 0), (4, .sl 4 ts.length 0 ts.length), (5, i64 l), (6, i64 c), (7, i64 a)]
theorem twl_step (p : UInt8 → Bool) (s : List UInt8) (e : Nat) (he : e < s.length) : twl p s e = if p (s[e]'he) = true then 1 + twl p s (e + 1) else 0 := by
  unfold twl
  rw [List.drop_eq_getElem_cons he, List.takeWhile_cons]
  split
  · simp [Nat.add_comm]
  · rfl
theorem kd_cases (b : UInt8) : kd b = 0 ∨ kd b = 1 ∨ kd b = 2 ∨ kd b = 3 ∨ kd b = 4 ∨ kd b = 5 := by
  unfold kd; repeat' split
  all_goals simp
theorem ref_l1 (Γ : Env) (M : Nat) (hM : 65540 < M) (h68 : KindC (Γ 68)) (s : List UInt8) (hs : s.length ≤ 65536) (a : Nat) (l c : Int) (ts : List Tk) (k : Int) (hk : k = 0 ∨ k = 1 ∨ k = 2 ∨ k = 3 ∨ k = 4 ∨ k = 5) (e : Nat) (he : e ≤ s.length) :
    ∀ s0, nrm [0, 3, 4, 5, 6, 7, 8, 9] [3, 4, 76, 88, 114, 143] s0 = ⟨rFr s a l c ts ++ [(8, i64 k), (9, i64 e)], rOb ts⟩ →
      lp (exec Γ M ref19_Scan_l1) M s0 = some (.ex 2, ⟨rFr s a l c ts ++ [(8, i64 k), (9, i64 (e + twl (pk k) s e : Nat))], rOb ts⟩) := by
  obtain ⟨ax, s', ⟨rfl, rfl⟩, hin⟩ : ∃ ax s', (ax = .ex 2 ∧ s' = ⟨rFr s a l c ts ++ [(8, i64 k), (9, i64 (e + twl (pk k) s e : Nat))], rOb ts⟩) ∧ ∀ s0, nrm [0, 3, 4, 5, 6, 7, 8, 9] [3, 4, 76, 88, 114, 143] s0 = ⟨rFr s a l c ts ++ [(8, i64 k), (9, i64 e)], rOb ts⟩ → lp (exec Γ M ref19_Scan_l1) M s0 = some (ax, s') := by
    refine lp_all (fun q : Nat => ⟨rFr s a l c ts ++ [(8, i64 k), (9, i64 q)], rOb ts⟩) (fun q => q ≤ s.length ∧ q + twl (pk k) s q = e + twl (pk k) s e) (fun q => s.length - q) _ e M (by simp) ⟨he, rfl⟩ (by omega) ?_
    rintro q ⟨hq, hqe⟩
    by_cases hlt : q < s.length
    · have hst := twl_step (pk k) s q hlt
      have e68 := h68 s[q]
      obtain ⟨b, hb⟩ : ∃ b, s[q]'hlt = b := ⟨_, rfl⟩
      rw [hb] at hst e68
      have hkb := kd_cases b
      obtain ⟨kb, hkb2⟩ : ∃ kb, kd b = kb := ⟨_, rfl⟩
      rw [hkb2] at e68 hkb
      rcases hk with rfl | rfl | rfl | rfl | rfl | rfl
      · have h0 : twl (pk 0) s q = 0 := by rw [hst]; simp [pk]
        have h1 : q = e + twl (pk 0) s e := by omega
        simp -implicitDefEqProofs (disch := first | omega | assumption) [hlt]
        omega
      · have h0 : twl (pk 1) s q = 0 := by rw [hst]; simp [pk]
        have h1 : q = e + twl (pk 1) s e := by omega
        simp -implicitDefEqProofs (disch := first | omega | assumption) [hlt]
        omega
      · by_cases h10 : (b.toNat : Int) = 10
        · have h0 : twl (pk 2) s q = 0 := by rw [hst]; simp [pk, h10]
          have h1 : q = e + twl (pk 2) s e := by omega
          simp -implicitDefEqProofs (disch := first | omega | assumption) [hlt, hb, h10]
          omega
        · have h0 : twl (pk 2) s q = 1 + twl (pk 2) s (q + 1) := by rw [hst]; simp [pk, h10]
          simp -implicitDefEqProofs (disch := first | omega | assumption) [hlt, hb, h10]
          exact ⟨q + 1, by simp, ⟨by omega, by omega⟩, by omega⟩
      · have h0 : twl (pk 3) s q = 0 := by rw [hst]; simp [pk]
        have h1 : q = e + twl (pk 3) s e := by omega
        simp -implicitDefEqProofs (disch := first | omega | assumption) [hlt]
        omega
      · by_cases h10 : kb = 4
        · have h0 : twl (pk 4) s q = 1 + twl (pk 4) s (q + 1) := by rw [hst]; simp [pk, hkb2, h10]
          simp -implicitDefEqProofs (disch := first | omega | assumption) [hlt, hb, h10, e68]
          exact ⟨q + 1, by simp, ⟨by omega, by omega⟩, by omega⟩
        · have h0 : twl (pk 4) s q = 0 := by rw [hst]; simp [pk, hkb2, h10]
          have h1 : q = e + twl (pk 4) s e := by omega
          simp -implicitDefEqProofs (disch := first | omega | assumption) [hlt, hb, h10, e68]
          omega
      · by_cases h10 : kb = 5
        · have h0 : twl (pk 5) s q = 1 + twl (pk 5) s (q + 1) := by rw [hst]; simp [pk, hkb2, h10]
          simp -implicitDefEqProofs (disch := first | omega | assumption) [hlt, hb, h10, e68]
          exact ⟨q + 1, by simp, ⟨by omega, by omega⟩, by omega⟩
        · have h0 : twl (pk 5) s q = 0 := by rw [hst]; simp [pk, hkb2, h10]
          have h1 : q = e + twl (pk 5) s e := by omega
          simp -implicitDefEqProofs (disch := first | omega | assumption) [hlt, hb, h10, e68]
          omega
    · obtain rfl : q = s.length := by omega
      have h0 : twl (pk k) s s.length = 0 := by simp [twl]
      have h1 : s.length = e + twl (pk k) s e := by omega
      simp -implicitDefEqProofs (disch := first | omega | assumption)
      omega
  exact hin
end Go.Am
