/- Law 26: the words of lines, templates and dispatchers. -/
import Derived.Test.YtnjjnokckgjecaaParseCode
import Derived.Test.YtnjjnokckgjecaaLexScan
set_option linter.unusedVariables false
set_option linter.unusedSimpArgs false
set_option maxRecDepth 10000
set_option maxHeartbeats 1000000
namespace Go.Am
abbrev pBuilding : List UInt8 := [98, 117, 105, 108, 100, 105, 110, 103]
abbrev pFloors : List UInt8 := [102, 108, 111, 111, 114, 115]
abbrev pGap : List UInt8 := [103, 97, 112]
abbrev pCars : List UInt8 := [99, 97, 114, 115]
abbrev pCapacity : List UInt8 := [99, 97, 112, 97, 99, 105, 116, 121]
abbrev pDoors : List UInt8 := [100, 111, 111, 114, 115]
abbrev pOpen : List UInt8 := [111, 112, 101, 110]
abbrev pDwell : List UInt8 := [100, 119, 101, 108, 108]
abbrev pClose : List UInt8 := [99, 108, 111, 115, 101]
abbrev pTransfer : List UInt8 := [116, 114, 97, 110, 115, 102, 101, 114]
abbrev pTraffic : List UInt8 := [116, 114, 97, 102, 102, 105, 99]
abbrev pTicks : List UInt8 := [116, 105, 99, 107, 115]
abbrev pRate : List UInt8 := [114, 97, 116, 101]
abbrev pDispatcher : List UInt8 := [100, 105, 115, 112, 97, 116, 99, 104, 101, 114]
abbrev pHorizon : List UInt8 := [104, 111, 114, 105, 122, 111, 110]
abbrev pBins : List UInt8 := [98, 105, 110, 115]
abbrev pWidth : List UInt8 := [119, 105, 100, 116, 104]
def namesW (w : List UInt8) : List (List UInt8) :=
  if w = pBuilding then [pFloors, pGap] else if w = pCars then [pCars, pCapacity] else if w = pDoors then [pOpen, pDwell, pClose, pTransfer]
  else if w = pTraffic then [pTicks, pRate] else if w = pHorizon then [pHorizon] else if w = pBins then [pBins, pWidth] else []
def linesW : List (List UInt8) := [pBuilding, pCars, pDoors, pTraffic, pDispatcher, pHorizon, pBins]
abbrev t1 : List UInt8 := [117, 112, 112, 101, 97, 107]
abbrev t2 : List UInt8 := [108, 117, 110, 99, 104]
abbrev t3 : List UInt8 := [100, 111, 119, 110, 112, 101, 97, 107]
abbrev t4 : List UInt8 := [105, 110, 116, 101, 114, 102, 108, 111, 111, 114]
abbrev d1 : List UInt8 := [99, 111, 108, 108, 101, 99, 116, 105, 118, 101]
abbrev d2 : List UInt8 := [115, 101, 99, 116, 111, 114, 115]
abbrev d3 : List UInt8 := [115, 111, 111, 110, 101, 115, 116]
abbrev d4 : List UInt8 := [100, 101, 115, 116, 105, 110, 97, 116, 105, 111, 110]
def temW (w : List UInt8) : Int := if w = t1 then 1 else if w = t2 then 2 else if w = t3 then 3 else if w = t4 then 4 else 0
def dspW (w : List UInt8) : Int := if w = d1 then 1 else if w = d2 then 2 else if w = d3 then 3 else if w = d4 then 4 else 0
def strQ (s : List UInt8) : List D := [.str s]
def NamesC (g : List AV → Option (List AV)) : Prop := ∀ w : List UInt8, g [st w] = some [.c (.vs 1 ((namesW w).map strQ))]
theorem parse_Names_run (Γ : Env) (M : Nat) : NamesC (run Γ M parse_Names_f) := by
  intro w
  by_cases h1 : w = pBuilding
  · subst h1; simp [namesW, strQ]
  by_cases h2 : w = pCars
  · subst h2; simp [namesW, strQ]
  by_cases h3 : w = pDoors
  · subst h3; simp [namesW, strQ]
  by_cases h4 : w = pTraffic
  · subst h4; simp [namesW, strQ]
  by_cases h5 : w = pHorizon
  · subst h5; simp [namesW, strQ]
  by_cases h6 : w = pBins
  · subst h6; simp [namesW, strQ]
  simp [namesW, strQ, h1, h2, h3, h4, h5, h6]
def LinesC (g : List AV → Option (List AV)) : Prop := g [] = some [.c (.vs 1 (linesW.map strQ))]
theorem parse_Lines_run (Γ : Env) (M : Nat) : LinesC (run Γ M parse_Lines_f) := by
  unfold LinesC
  simp [linesW, strQ]
def TemC (g : List AV → Option (List AV)) : Prop := ∀ w : List UInt8, g [st w] = some [i64 (temW w)]
def DspC (g : List AV → Option (List AV)) : Prop := ∀ w : List UInt8, g [st w] = some [i64 (dspW w)]
theorem parse_Template_run (Γ : Env) (M : Nat) : TemC (run Γ M parse_Template_f) := by
  intro w
  by_cases h1 : w = t1
  · subst h1; simp [temW]
  by_cases h2 : w = t2
  · subst h2; simp [temW]
  by_cases h3 : w = t3
  · subst h3; simp [temW]
  by_cases h4 : w = t4
  · subst h4; simp [temW]
  simp [temW, h1, h2, h3, h4]
theorem parse_Dispatcher_run (Γ : Env) (M : Nat) : DspC (run Γ M parse_Dispatcher_f) := by
  intro w
  by_cases h1 : w = d1
  · subst h1; simp [dspW]
  by_cases h2 : w = d2
  · subst h2; simp [dspW]
  by_cases h3 : w = d3
  · subst h3; simp [dspW]
  by_cases h4 : w = d4
  · subst h4; simp [dspW]
  simp [dspW, h1, h2, h3, h4]
def WordC26 (g : List AV → Option (List AV)) : Prop := ∀ w : List UInt8, g [st [116], st w] = some [i64 (temW w)] ∧ g [st [100], st w] = some [i64 (dspW w)]
theorem ref26_Word_run (Γ : Env) (M : Nat) : WordC26 (run Γ (M + 20) ref26_Word_f) := by
  intro w
  constructor
  · by_cases h1 : w = t1
    · subst h1; simp -implicitDefEqProofs (disch := first | omega | assumption) [temW, lp_succ, ref26_Word_l1_x]
    by_cases h2 : w = t2
    · subst h2; simp -implicitDefEqProofs (disch := first | omega | assumption) [temW, lp_succ, ref26_Word_l1_x]
    by_cases h3 : w = t3
    · subst h3; simp -implicitDefEqProofs (disch := first | omega | assumption) [temW, lp_succ, ref26_Word_l1_x]
    by_cases h4 : w = t4
    · subst h4; simp -implicitDefEqProofs (disch := first | omega | assumption) [temW, lp_succ, ref26_Word_l1_x]
    have m1 := decide_eq_false (Ne.symm h1)
    have m2 := decide_eq_false (Ne.symm h2)
    have m3 := decide_eq_false (Ne.symm h3)
    have m4 := decide_eq_false (Ne.symm h4)
    simp -implicitDefEqProofs (disch := first | omega | assumption) [temW, lp_succ, ref26_Word_l1_x, h1, h2, h3, h4, m1, m2, m3, m4]
  · by_cases h1 : w = d1
    · subst h1; simp -implicitDefEqProofs (disch := first | omega | assumption) [dspW, lp_succ, ref26_Word_l1_x]
    by_cases h2 : w = d2
    · subst h2; simp -implicitDefEqProofs (disch := first | omega | assumption) [dspW, lp_succ, ref26_Word_l1_x]
    by_cases h3 : w = d3
    · subst h3; simp -implicitDefEqProofs (disch := first | omega | assumption) [dspW, lp_succ, ref26_Word_l1_x]
    by_cases h4 : w = d4
    · subst h4; simp -implicitDefEqProofs (disch := first | omega | assumption) [dspW, lp_succ, ref26_Word_l1_x]
    have m1 := decide_eq_false (Ne.symm h1)
    have m2 := decide_eq_false (Ne.symm h2)
    have m3 := decide_eq_false (Ne.symm h3)
    have m4 := decide_eq_false (Ne.symm h4)
    simp -implicitDefEqProofs (disch := first | omega | assumption) [dspW, lp_succ, ref26_Word_l1_x, h1, h2, h3, h4, m1, m2, m3, m4]
def SEqC (g : List AV → Option (List AV)) : Prop := ∀ l : List (List UInt8), l.length ≤ 900 → g [.c (.vs 1 (l.map strQ)), .c (.vs 1 (l.map strQ))] = some [bo true]
theorem slices_Equal_str_run (Γ : Env) (M : Nat) (hM : 1000 < M) : SEqC (run Γ M slices_Equal_Sstring_string_f) := by
  intro ts hts
  obtain ⟨ax, s', ⟨rfl, rfl⟩, hin⟩ : ∃ ax s', (ax = .ex 0 ∧ s' = ⟨[], []⟩) ∧ ∀ s0, nrm [0, 1, 12, 13] [] s0 = ⟨[(0, .c (.vs 1 (ts.map strQ))), (1, .c (.vs 1 (ts.map strQ))), (12, i64 ts.length), (13, i64 (0 : Nat))], []⟩ → lp (exec Γ M slices_Equal_Sstring_string_l1) M s0 = some (ax, s') := by
    refine lp_all (fun k : Nat => ⟨[(0, .c (.vs 1 (ts.map strQ))), (1, .c (.vs 1 (ts.map strQ))), (12, i64 ts.length), (13, i64 k)], []⟩) (fun k => k ≤ ts.length) (fun k => ts.length - k) _ 0 M (by simp) (by omega) (by omega) ?_
    intro k hk
    by_cases hlt : k < ts.length
    · simp -implicitDefEqProofs (disch := first | omega | assumption) [hlt, strQ]
      exact ⟨k + 1, by simp, by omega, by omega⟩
    · obtain rfl : k = ts.length := by omega
      simp -implicitDefEqProofs (disch := first | omega | assumption)
  have hlp : lp (exec Γ M slices_Equal_Sstring_string_l1) M ⟨[(0, .c (.vs 1 (ts.map strQ))), (1, .c (.vs 1 (ts.map strQ))), (12, .c (.int .i64 ts.length)), (13, .c (.int .i64 0))], []⟩ = some (.ex 0, ⟨[], []⟩) := hin _ (by simp)
  simp -implicitDefEqProofs (disch := first | omega | assumption) [hlp]
theorem law26_ParseWords_run {Γ : Env} (M : Nat) (h114 : Γ 114 [] = some [bo true]) (h117 : NamesC (Γ 117)) (h118 : SEqC (Γ 118)) (h119 : TemC (Γ 119)) (h120 : WordC26 (Γ 120)) (h121 : DspC (Γ 121)) (h122 : LinesC (Γ 122)) (w : List UInt8) (hw : w.length ≤ maxLen) :
    run Γ M law26_ParseWords_f [st w] = some [bo true] := by
  by_cases hl : 100 < (w.length : Int)
  · simp -implicitDefEqProofs (disch := omega) [hl]
  have e122 : Γ 122 [] = _ := h122
  have e1 := h118 linesW (by decide)
  have e2 := h118 (namesW w) (by unfold namesW; (repeat' split) <;> decide)
  have e3 := h117 w
  have e4 := h119 w
  have e5 := h121 w
  obtain ⟨e6, e7⟩ := h120 w
  generalize temW w = T at *
  generalize dspW w = U at *
  simp [linesW, strQ] at e122 e1
  by_cases h1 : w = pBuilding
  · subst h1
    simp [namesW, strQ] at e2 e3
    simp -implicitDefEqProofs (disch := first | omega | assumption) [hl, e122, e1, e2, e3, e4, e5, e6, e7, h114]
  by_cases h2 : w = pCars
  · subst h2
    simp [namesW, strQ] at e2 e3
    simp -implicitDefEqProofs (disch := first | omega | assumption) [hl, e122, e1, e2, e3, e4, e5, e6, e7, h114]
  by_cases h3 : w = pDoors
  · subst h3
    simp [namesW, strQ] at e2 e3
    simp -implicitDefEqProofs (disch := first | omega | assumption) [hl, e122, e1, e2, e3, e4, e5, e6, e7, h114]
  by_cases h4 : w = pTraffic
  · subst h4
    simp [namesW, strQ] at e2 e3
    simp -implicitDefEqProofs (disch := first | omega | assumption) [hl, e122, e1, e2, e3, e4, e5, e6, e7, h114]
  by_cases h5 : w = pHorizon
  · subst h5
    simp [namesW, strQ] at e2 e3
    simp -implicitDefEqProofs (disch := first | omega | assumption) [hl, e122, e1, e2, e3, e4, e5, e6, e7, h114]
  by_cases h6 : w = pBins
  · subst h6
    simp [namesW, strQ] at e2 e3
    simp -implicitDefEqProofs (disch := first | omega | assumption) [hl, e122, e1, e2, e3, e4, e5, e6, e7, h114]
  simp [namesW, strQ, h1, h2, h3, h4, h5, h6] at e2 e3
  simp -implicitDefEqProofs (disch := first | omega | assumption) [hl, e122, e1, e2, e3, e4, e5, e6, e7, h114, h1, h2, h3, h4, h5, h6]
end Go.Am
