/- Law 28: ArriveLists. -/
import Derived.Test.YtkigddhdbnganaaArH
set_option linter.unusedVariables false
set_option linter.unusedSimpArgs false
set_option maxRecDepth 10000
set_option maxHeartbeats 4000000
namespace Go.Am
def EqPC (g : List AV → Option (List AV)) : Prop := ∀ l : List P4, l.length ≤ 20000 → g [pV l, pV l] = some [bo true]
theorem slices_Equal_P_run (Γ : Env) (M : Nat) (hM : 20000 < M) : EqPC (run Γ M slices_Equal_Sapi_Passenger_api_Passenger_f) := by
  intro ts hl
  obtain ⟨ax, s', ⟨rfl, rfl⟩, hin⟩ : ∃ ax s', (ax = .ex 0 ∧ s' = ⟨[], []⟩) ∧ ∀ s0, nrm [0, 1, 12, 13] [] s0 = ⟨[(0, pV ts), (1, pV ts), (12, i64 ts.length), (13, i64 (0 : Nat))], []⟩ → lp (exec Γ M slices_Equal_Sapi_Passenger_api_Passenger_l1) M s0 = some (ax, s') := by
    refine lp_all (fun q : Nat => ⟨[(0, pV ts), (1, pV ts), (12, i64 ts.length), (13, i64 q)], []⟩) (fun q => q ≤ ts.length) (fun q => ts.length - q) _ 0 M (by simp) (by omega) (by omega) ?_
    intro k hk
    by_cases hlt : k < ts.length
    · simp -implicitDefEqProofs (disch := first | omega | assumption) [hlt, p4D]
      exact ⟨k + 1, by omega, by omega, by omega⟩
    · obtain rfl : k = ts.length := by omega
      simp -implicitDefEqProofs (disch := first | omega | assumption)
  have hin2 := hin ⟨[(0, pV ts), (1, pV ts), (12, i64 ts.length), (13, i64 0)], []⟩ (by simp)
  simp -implicitDefEqProofs (disch := first | omega | (simp <;> fail) | assumption) [hin2]
def EqUC (g : List AV → Option (List AV)) : Prop := ∀ l : List Nat, l.length ≤ 20000 → g [wV l, wV l] = some [bo true]
theorem slices_Equal_U_run (Γ : Env) (M : Nat) (hM : 20000 < M) : EqUC (run Γ M slices_Equal_Suint32_uint32_f) := by
  intro ts hl
  obtain ⟨ax, s', ⟨rfl, rfl⟩, hin⟩ : ∃ ax s', (ax = .ex 0 ∧ s' = ⟨[], []⟩) ∧ ∀ s0, nrm [0, 1, 12, 13] [] s0 = ⟨[(0, wV ts), (1, wV ts), (12, i64 ts.length), (13, i64 (0 : Nat))], []⟩ → lp (exec Γ M slices_Equal_Suint32_uint32_l1) M s0 = some (ax, s') := by
    refine lp_all (fun q : Nat => ⟨[(0, wV ts), (1, wV ts), (12, i64 ts.length), (13, i64 q)], []⟩) (fun q => q ≤ ts.length) (fun q => ts.length - q) _ 0 M (by simp) (by omega) (by omega) ?_
    intro k hk
    by_cases hlt : k < ts.length
    · simp -implicitDefEqProofs (disch := first | omega | assumption) [hlt, w3D]
      exact ⟨k + 1, by omega, by omega, by omega⟩
    · obtain rfl : k = ts.length := by omega
      simp -implicitDefEqProofs (disch := first | omega | assumption)
  have hin2 := hin ⟨[(0, wV ts), (1, wV ts), (12, i64 ts.length), (13, i64 0)], []⟩ (by simp)
  simp -implicitDefEqProofs (disch := first | omega | (simp <;> fail) | assumption) [hin2]
def smallB (s : Scn) : Bool := decide (s.segs.length ≤ 8) && decide (chkS s = 0) && decide (s.floors ≤ 20) && decide (s.horizon ≤ 300)
def SmlC (g : List AV → Option (List AV)) : Prop := ∀ s : Scn, s.segs.length ≤ maxLen → g [.agg s.cells] = some [bo (smallB s)]
theorem law28_Small_run (Γ : Env) (M : Nat) (hC : ChkC (Γ 26)) : SmlC (run Γ M law28_Small_f) := by
  intro s hl
  have e := hC s hl
  have hmax := maxLen_eq
  unfold smallB
  simp only [Scn.cells] at e ⊢
  by_cases h1 : s.segs.length ≤ 8
  · have h1' : (s.segs.length : Int) ≤ 8 := by omega
    by_cases h2 : chkS s = 0
    · rw [h2] at e
      by_cases h3 : s.floors ≤ 20
      · simp -implicitDefEqProofs (disch := first | omega | (simp <;> fail) | assumption) [h1, h1', h2, h3, e]
      · simp -implicitDefEqProofs (disch := first | omega | (simp <;> fail) | assumption) [h1, h1', h2, h3, e]
    · generalize chkS s = z at *
      simp -implicitDefEqProofs (disch := first | omega | (simp <;> fail) | assumption) [h1, h1', h2, e]
  · have h1' : ¬ (s.segs.length : Int) ≤ 8 := by omega
    simp -implicitDefEqProofs (disch := first | omega | (simp <;> fail) | assumption) [h1, h1']
theorem ArriveLists_run (Γ : Env) (M : Nat) (hC : ChkC (Γ 26)) (hL : LstC (Γ 474)) (hS : SmlC (Γ 492)) (hR : RLstC (Γ 491)) (hP : EqPC (Γ 488)) (hU : EqUC (Γ 489)) (hal : Γ 490 [] = some [bo true]) (s : Scn) (ws : List Nat) (hmax : s.segs.length ≤ maxLen) (hws : ∀ w ∈ ws, w < 4294967296) (hwm : ws.length ≤ maxLen) :
    run Γ M law28_ArriveLists_f [.agg s.cells, wV ws] = some [bo true] := by
  have hmx := maxLen_eq
  have e0 : ((0 : Nat) : Int) = 0 := rfl
  by_cases h3 : 3000 < ws.length
  · have h3' : (3000 : Int) < ws.length := by omega
    simp -implicitDefEqProofs (disch := first | omega | (simp <;> fail) | assumption) [h3, h3']
  have h3' : ¬ (3000 : Int) < ws.length := by omega
  by_cases h30 : 30 < s.segs.length
  · have h30' : (30 : Int) < s.segs.length := by omega
    simp -implicitDefEqProofs (disch := first | omega | (simp <;> fail) | assumption) [h3, h3', h30, h30']
  have h30' : ¬ (30 : Int) < s.segs.length := by omega
  have e1 := hC s hmax
  have e2 := hL s ws hmax hws (by omega)
  have e3 := hS s hmax
  by_cases hz : chkS s = 0
  · rw [hz] at e1
    by_cases hsm : smallB s = true
    · rw [hsm] at e3
      simp only [smallB, Bool.and_eq_true, decide_eq_true_eq] at hsm
      obtain ⟨⟨⟨s1, s2⟩, s3⟩, s4⟩ := hsm
      have e4 := e2.2 hz s4
      have e5 := hR s ws (sc_ok hz) s3 s4 hws (by omega)
      cases hr : runT s ws s.horizon.toNat with
      | none =>
        rw [hr] at e4 e5
        simp only [strD, Scn.cells, e0] at e1 e3 e4 e5 ⊢
        simp -implicitDefEqProofs (disch := first | omega | (simp <;> fail) | assumption) [h3, h3', h30, h30', e1, e3, e4, e5, hal]
      | some r =>
        obtain ⟨l, a⟩ := r
        rw [hr] at e4 e5
        have hb := runT_some hws hr
        have h1 := (sc_ok hz).h1
        have e6 := hP l (by omega)
        have e7 := hU ws (by omega)
        simp only [strD, Scn.cells, e0] at e1 e3 e4 e5 ⊢
        simp -implicitDefEqProofs (disch := first | omega | (simp <;> fail) | assumption) [h3, h3', h30, h30', e1, e3, e4, e5, e6, e7, hal]
    · have hsm2 : smallB s = false := by simpa using hsm
      rw [hsm2] at e3
      simp only [Scn.cells] at e1 e3 ⊢
      simp -implicitDefEqProofs (disch := first | omega | (simp <;> fail) | assumption) [h3, h3', h30, h30', e1, e3]
  · have e4 := e2.1 hz
    simp only [strD, Scn.cells, e0] at e1 e4 ⊢
    generalize chkS s = z at *
    simp -implicitDefEqProofs (disch := first | omega | (simp <;> fail) | assumption) [h3, h3', h30, h30', e1, e4, hz, hal]
end Go.Am
