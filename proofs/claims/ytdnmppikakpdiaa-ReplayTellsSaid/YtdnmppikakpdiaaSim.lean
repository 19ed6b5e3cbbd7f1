/- Who rides, as a slice of its own. -/
import Derived.Test.YtdnmppikakpdiaaSil
import Derived.Test.YtdnmppikakpdiaaOwn
import Derived.Test.YtdnmppikakpdiaaData
set_option linter.unusedVariables false
set_option linter.unusedSimpArgs false
set_option maxRecDepth 10000
set_option maxHeartbeats 4000000
namespace Go.Am.Si
open Go.Am
def numD (z : Int) : List D := [.int .i64 z]
/-- Does one ride in a car behind a tick? -/
def in1 (car tick : Int) (t : Trip) : Bool := decide (t.car = car) && decide (0 ≤ t.board) && decide (t.board ≤ tick) && (decide (t.alight < 0) || decide (tick < t.alight))
def loadL (ts : List Trip) (car tick : Int) : List Int := (ts.filter (in1 car tick)).map Trip.id
theorem loadL_snoc (ts : List Trip) (car tick : Int) (k : Nat) (h : k < ts.length) : loadL (ts.take (k + 1)) car tick = loadL (ts.take k) car tick ++ if in1 car tick ts[k] = true then [ts[k].id] else [] := by
  rw [List.take_succ_eq_append_getElem h]
  unfold loadL
  rw [List.filter_append, List.map_append]
  congr 1
  cases hb : in1 car tick ts[k] <;> simp [hb]
theorem loadL_le (ts : List Trip) (car tick : Int) : (loadL ts car tick).length ≤ ts.length := by
  unfold loadL; rw [List.length_map]; exact List.length_filter_le _ _
abbrev vT (ts : List Trip) : AV := .c (.vs 7 (ts.map Trip.cells))
def LoadP_C (g : St → Option (List AV × List (Nat × Obj))) : Prop := ∀ (ts : List Trip) (car tick : Int), ts.length ≤ 60 → g ⟨[(0, vT ts), (1, i64 car), (2, i64 tick)], []⟩ = some ([.sl 739007 (loadL ts car tick).length 0 (loadL ts car tick).length], [(739007, ⟨1, (loadL ts car tick).map (toAV ∘ numD)⟩)])
theorem trip_Load_P_run (Γ : Env) (M : Nat) (hM : 100 < M) : LoadP_C (runP Γ M trip_Load_P_f) := by
  intro ts car tick hl
  obtain ⟨ax, s', ⟨rfl, rfl⟩, hin⟩ : ∃ ax s', (ax = .ex 0 ∧ s' = ⟨[(7, .sl 739007 (loadL ts car tick).length 0 (loadL ts car tick).length)], [(739007, ⟨1, (loadL ts car tick).map (toAV ∘ numD)⟩)]⟩) ∧ ∀ s0, nrmP [1, 2, 7, 10, 11, 12] 739000 740000 [739007, 739046] s0 = ⟨[(1, i64 car), (2, i64 tick), (7, .sl 739007 (loadL (ts.take 0) car tick).length 0 (loadL (ts.take 0) car tick).length), (10, vT ts), (11, i64 ts.length), (12, i64 (0 : Nat))], [(739007, ⟨1, (loadL (ts.take 0) car tick).map (toAV ∘ numD)⟩)]⟩ → lp (exec Γ M trip_Load_P_l1) M s0 = some (ax, s') := by
    refine lp_allP (fun q : Nat => ⟨[(1, i64 car), (2, i64 tick), (7, .sl 739007 (loadL (ts.take q) car tick).length 0 (loadL (ts.take q) car tick).length), (10, vT ts), (11, i64 ts.length), (12, i64 q)], [(739007, ⟨1, (loadL (ts.take q) car tick).map (toAV ∘ numD)⟩)]⟩) (fun q => q ≤ ts.length) (fun q => ts.length - q) _ 0 M (by omega) (by omega) ?_
    intro k hk
    by_cases hlt : k < ts.length
    · obtain ⟨t, ht⟩ : ∃ t, ts[k]'hlt = t := ⟨_, rfl⟩
      have hs := loadL_snoc ts car tick k hlt
      rw [ht] at hs
      have hle := loadL_le (ts.take k) car tick
      rw [List.length_take] at hle
      have hrl : ((loadL (ts.take k) car tick).map (toAV ∘ numD)).length = (loadL (ts.take k) car tick).length := List.length_map _
      have hrc := lcRows_comp 739007 numD (loadL (ts.take k) car tick)
      have hrn := nmRows_comp 739009 numD (loadL (ts.take k) car tick)
      generalize hG : loadL (ts.take k) car tick = G at *
      have outF : in1 car tick t = false → ∃ q', ((G.length = (loadL (ts.take q') car tick).length ∧ (k : Int) + 1 = q') ∧ G.map (toAV ∘ numD) = (loadL (ts.take q') car tick).map (toAV ∘ numD)) ∧ q' ≤ ts.length ∧ ts.length - q' < ts.length - k := fun h => ⟨k + 1, ⟨⟨by rw [hs, h]; simp, by omega⟩, by rw [hs, h]; simp⟩, by omega, by omega⟩
      have inF : in1 car tick t = true → ∃ q', ((G.length + 1 = (loadL (ts.take q') car tick).length ∧ (k : Int) + 1 = q') ∧ G.map (toAV ∘ numD) ++ [[AV.c (D.int IntKind.i64 t.id)]] = (loadL (ts.take q') car tick).map (toAV ∘ numD)) ∧ q' ≤ ts.length ∧ ts.length - q' < ts.length - k := fun h => ⟨k + 1, ⟨⟨by rw [hs, h]; simp, by omega⟩, by rw [hs, h]; simp [numD, toAV]⟩, by omega, by omega⟩
      by_cases a1 : t.car = car
      case neg =>
        simp -implicitDefEqProofs (disch := first | omega | assumption) [hlt, ht, hrl, hrc, hrn, a1]
        exact outF (by simp [in1, a1])
      by_cases a2 : 0 ≤ t.board
      case neg =>
        simp -implicitDefEqProofs (disch := first | omega | assumption) [hlt, ht, hrl, hrc, hrn, a1, a2]
        exact outF (by simp [in1, a2])
      by_cases a3 : t.board ≤ tick
      case neg =>
        simp -implicitDefEqProofs (disch := first | omega | assumption) [hlt, ht, hrl, hrc, hrn, a1, a2, a3]
        exact outF (by simp [in1, a3])
      by_cases a4 : t.alight < 0
      · simp -implicitDefEqProofs (disch := first | omega | assumption) [hlt, ht, hrl, hrc, hrn, a1, a2, a3, a4]
        exact inF (by simp [in1, a1, a2, a3, a4])
      by_cases a5 : tick < t.alight
      · simp -implicitDefEqProofs (disch := first | omega | assumption) [hlt, ht, hrl, hrc, hrn, a1, a2, a3, a4, a5]
        exact inF (by simp [in1, a1, a2, a3, a5])
      · simp -implicitDefEqProofs (disch := first | omega | assumption) [hlt, ht, hrl, hrc, hrn, a1, a2, a3, a4, a5]
        exact outF (by simp [in1, a4, a5])
    · obtain rfl : k = ts.length := by omega
      rw [List.take_length]
      simp -implicitDefEqProofs (disch := first | omega | assumption)
  have hlp := hin ⟨[(1, i64 car), (2, i64 tick), (7, .sl 739007 0 0 0), (10, vT ts), (11, i64 ts.length), (12, i64 (0 : Nat))], [(739007, ⟨1, []⟩)]⟩ (by simp [loadL])
  simp at hlp
  have ha := allRows_comp numD (loadL ts car tick)
  have hle := loadL_le ts car tick
  have hrl : ((loadL ts car tick).map (toAV ∘ numD)).length = (loadL ts car tick).length := List.length_map _
  have hF2 : ((loadL ts car tick).map numD).take (loadL ts car tick).length = (loadL ts car tick).map numD := by rw [List.take_of_length_le]; rw [List.length_map]; omega
  generalize (loadL ts car tick).map (toAV ∘ numD) = G at *
  generalize (loadL ts car tick).map numD = K at *
  generalize (loadL ts car tick).length = N at *
  simp -implicitDefEqProofs (disch := first | omega | (simp <;> fail) | assumption) [hlp, ha, hF2, hrl]
end Go.Am.Si
