/- Law 19: the document's scan answers as scanR says. -/
import Derived.Test.YtdhlplgkpgbpjaaLexRefC
set_option linter.unusedVariables false
set_option linter.unusedSimpArgs false
set_option maxRecDepth 10000
set_option maxHeartbeats 1000000
namespace Go.Am
theorem ref_tail (Γ : Env) (M : Nat) (l c : Int) (ts : List Tk) (hts : ts.length ≤ 65536) :
    exec Γ M (.keep [3, 4, 5, 6] [3, 4, 76, 88, 114, 143] (.seq (.seq (.reg ref19_Scan_r26) (.keep [3, 4, 5, 6, 137] [3, 4, 76, 88, 114, 143] (.cond (.t 137) (.keep [3, 4, 5, 6] [3, 4, 76, 88, 114, 143] (.reg ref19_Scan_r27)) (.skip)))) (.keep [3, 4] [3, 4, 76, 88, 114, 143] (.seq (.reg ref19_Scan_r28) (.keep [2, 3] [3, 4, 76, 88, 114, 143] (.ret)))))) ⟨[(3, .loc 3 0 0), (4, .sl 4 ts.length 0 ts.length), (5, i64 l), (6, i64 c)], rOb ts⟩ = some (.ret, ⟨[(2, .sl 4 (finT ts l c).length 0 (finT ts l c).length), (3, .loc 3 0 0)], rOb (finT ts l c)⟩) := by
  cases hn : ts with
  | nil =>
    simp -implicitDefEqProofs (disch := first | omega | assumption) [finT, lastNo]
  | cons t r =>
    rw [← hn]
    obtain ⟨tl, htl⟩ : ∃ tl, ts.getLast? = some tl := by rw [hn, List.getLast?_cons]; exact ⟨_, rfl⟩
    have hpos : 0 < ts.length := by rw [hn]; simp
    have hne : ¬ ts = [] := by rw [hn]; simp
    have hle : ts.length - 1 < ts.length := by omega
    have hr : ts[ts.length - 1]'hle = tl := by
      have : ts[ts.length - 1]? = some tl := by rw [← htl, List.getLast?_eq_getElem?]
      rw [List.getElem?_eq_getElem hle] at this; simpa using this
    have hix : ((ts.length : Int) - 1).toNat = ts.length - 1 := by omega
    by_cases hk : tl.kd = 3
    · have hf : finT ts l c = ts := by simp [finT, lastNo, htl, hk]
      rw [hf]
      simp -implicitDefEqProofs (disch := first | omega | assumption) [hix, hne, hle, hr, hk, hpos]
    · have hf : finT ts l c = ts ++ [⟨3, [], 0, l, c⟩] := by simp [finT, lastNo, htl, hk]
      rw [hf]
      simp -implicitDefEqProofs (disch := first | omega | assumption) [hix, hne, hle, hr, hk, hpos]
theorem ref19_Scan_run (Γ : Env) (M : Nat) (hM : 65540 < M) (h68 : KindC (Γ 68)) (h67 : RNumC (Γ 67)) : ScanC (run Γ M ref19_Scan_f) := by
  intro s hs
  have hnl : ¬ (65536 < (s.length : Int)) := by omega
  obtain ⟨ax, s', hR, hin⟩ := ref_l2 Γ M hM h68 h67 s hs
  have hlp : lp (exec Γ M ref19_Scan_l2) M ⟨[(0, st s), (3, .loc 3 0 0), (4, .sl 4 0 0 0), (5, .c (.int .i64 1)), (6, .c (.int .i64 1)), (7, .c (.int .i64 0))], [(3, ⟨3, [[.c (.int .i64 0), .c (.int .i64 0), .c (.int .i64 0)]]⟩), (4, ⟨5, []⟩)]⟩ = some (ax, s') := hin _ (by simp)
  obtain ⟨R, hR0⟩ : ∃ R, scanR s = R := ⟨_, rfl⟩
  rw [hR0] at hR ⊢
  rcases hR with ⟨h1, rfl, rfl⟩ | ⟨h0, h1, h2, l, c, ts, h3, h4, rfl, rfl⟩
  · simp -implicitDefEqProofs (disch := first | omega | assumption) [hnl, hlp, h1]
  · have ht := ref_tail Γ M l c ts h4
    rw [h0, h1, h2, h3]
    simp -implicitDefEqProofs (disch := first | omega | assumption) at ht
    simp -implicitDefEqProofs (disch := first | omega | assumption) [hnl, hlp]
    rw [ht]
    simp
    exact List.take_of_length_le (by simp)
end Go.Am
