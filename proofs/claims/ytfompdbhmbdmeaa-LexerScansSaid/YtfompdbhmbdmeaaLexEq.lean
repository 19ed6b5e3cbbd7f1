/- Law 19: the walk of LexerScans. -/
import Derived.Test.YtfompdbhmbdmeaaLexRefD
import Derived.Test.YtfompdbhmbdmeaaLexLaw
set_option linter.unusedVariables false
set_option linter.unusedSimpArgs false
set_option maxRecDepth 10000
set_option maxHeartbeats 1000000
namespace Go.Am
def SameC (g : List AV → Option (List AV)) : Prop := ∀ ts : List Tk, ts.length ≤ 65540 → g [.c (.vs 5 (ts.map Tk.cells)), .c (.vs 5 (ts.map Tk.cells))] = some [bo true]
theorem slices_Equal_Tk_run (Γ : Env) (M : Nat) (hM : 65550 < M) : SameC (run Γ M slices_Equal_Sapi_Token_api_Token_f) := by
  intro ts hts
  obtain ⟨ax, s', ⟨rfl, rfl⟩, hin⟩ : ∃ ax s', (ax = .ex 0 ∧ s' = ⟨[], []⟩) ∧ ∀ s0, nrm [0, 1, 12, 13] [] s0 = ⟨[(0, .c (.vs 5 (ts.map Tk.cells))), (1, .c (.vs 5 (ts.map Tk.cells))), (12, i64 ts.length), (13, i64 (0 : Nat))], []⟩ → lp (exec Γ M slices_Equal_Sapi_Token_api_Token_l1) M s0 = some (ax, s') := by
    refine lp_all (fun k : Nat => ⟨[(0, .c (.vs 5 (ts.map Tk.cells))), (1, .c (.vs 5 (ts.map Tk.cells))), (12, i64 ts.length), (13, i64 k)], []⟩) (fun k => k ≤ ts.length) (fun k => ts.length - k) _ 0 M (by simp) (by omega) (by omega) ?_
    intro k hk
    by_cases hlt : k < ts.length
    · simp -implicitDefEqProofs (disch := first | omega | assumption) [hlt]
      exact ⟨k + 1, by simp, by omega, by omega⟩
    · obtain rfl : k = ts.length := by omega
      simp -implicitDefEqProofs (disch := first | omega | assumption)
  have hlp : lp (exec Γ M slices_Equal_Sapi_Token_api_Token_l1) M ⟨[(0, .c (.vs 5 (ts.map Tk.cells))), (1, .c (.vs 5 (ts.map Tk.cells))), (12, .c (.int .i64 ts.length)), (13, .c (.int .i64 0))], []⟩ = some (.ex 0, ⟨[], []⟩) := hin _ (by simp)
  simp -implicitDefEqProofs (disch := first | omega | assumption) [hlp]
theorem law19_LexerScans_run {Γ : Env} (M : Nat) (h38 : SameC (Γ 38)) (h35 : ScanC (Γ 35)) (h39 : ScanC (Γ 39)) (h34 : AliveC (Γ 34)) (s : List UInt8) (hs : s.length ≤ maxLen) :
    run Γ M law19_LexerScans_f [st s] = some [bo true] := by
  by_cases hl : 3000 < (s.length : Int)
  · simp -implicitDefEqProofs (disch := omega) [hl]
  have e35 := h35 s (by omega)
  have e39 := h39 s (by omega)
  have e34 : Γ 34 [] = some [bo true] := h34
  have hlen := scl_len s (s.length + 1) 0 1 1 [] (by omega) (by omega) (by omega) (by simp)
  change (scanR s).ts.length ≤ s.length + 1 at hlen
  have e38 := h38 (scanR s).ts (by omega)
  obtain ⟨R, hR⟩ : ∃ R, scanR s = R := ⟨_, rfl⟩
  rw [hR] at e35 e39 e38 hlen
  simp -implicitDefEqProofs (disch := first | omega | assumption) [hl, e35, e39, e38, e34]
end Go.Am
