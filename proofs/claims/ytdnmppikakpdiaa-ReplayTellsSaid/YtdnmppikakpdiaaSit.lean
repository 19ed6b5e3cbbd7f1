/- Law 51: who waits, who is done, where cars are; equality of rows of numbers. -/
import Derived.Test.YtdnmppikakpdiaaSis
set_option linter.unusedVariables false
set_option linter.unusedSimpArgs false
set_option maxRecDepth 10000
set_option maxHeartbeats 2000000
namespace Go.Am.Si
open Go.Am
def wait1 (tick : Int) (t : Trip) : Bool := decide (t.arrive ≤ tick) && (decide (t.board < 0) || decide (tick < t.board))
def done1 (tick : Int) (t : Trip) : Bool := decide (0 ≤ t.alight) && decide (t.alight ≤ tick)
def idsL (p : Trip → Bool) (ts : List Trip) : List Int := (ts.filter p).map Trip.id
theorem idsL_snoc (p : Trip → Bool) (ts : List Trip) (k : Nat) (h : k < ts.length) : idsL p (ts.take (k + 1)) = idsL p (ts.take k) ++ if p ts[k] = true then [ts[k].id] else [] := by
  rw [List.take_succ_eq_append_getElem h]
  unfold idsL
  rw [List.filter_append, List.map_append]
  congr 1
  cases hb : p ts[k] <;> simp [hb]
theorem idsL_le (p : Trip → Bool) (ts : List Trip) : (idsL p ts).length ≤ ts.length := by
  unfold idsL; rw [List.length_map]; exact List.length_filter_le _ _
abbrev nuV (l : List Int) : AV := .c (.vs 1 (l.map numD))
def IdsC (p : Int → Trip → Bool) (g : List AV → Option (List AV)) : Prop := ∀ (l : Log) (tick : Int), l.trips.length ≤ 60 → g [.agg l.cells, i64 tick] = some [nuV (idsL (p tick) l.trips)]
theorem replay_Waiting_run (Γ : Env) (M : Nat) (hM : 100 < M) : IdsC wait1 (run Γ M replay_Waiting_f) := by
  rintro ⟨ts, ls, u⟩ tick hl
  dsimp only at hl ⊢
  obtain ⟨ax, s', ⟨rfl, rfl⟩, hin⟩ : ∃ ax s', (ax = .ex 0 ∧ s' = ⟨[(5, .sl 5 (idsL (wait1 tick) ts).length 0 (idsL (wait1 tick) ts).length)], [(5, ⟨1, (idsL (wait1 tick) ts).map (toAV ∘ numD)⟩)]⟩) ∧ ∀ s0, nrm [1, 5, 9, 10, 11] [5, 34] s0 = ⟨[(1, i64 tick), (5, .sl 5 (idsL (wait1 tick) (ts.take 0)).length 0 (idsL (wait1 tick) (ts.take 0)).length), (9, vT ts), (10, i64 ts.length), (11, i64 (0 : Nat))], [(5, ⟨1, (idsL (wait1 tick) (ts.take 0)).map (toAV ∘ numD)⟩)]⟩ → lp (exec Γ M replay_Waiting_l1) M s0 = some (ax, s') := by
    refine lp_all (fun q : Nat => ⟨[(1, i64 tick), (5, .sl 5 (idsL (wait1 tick) (ts.take q)).length 0 (idsL (wait1 tick) (ts.take q)).length), (9, vT ts), (10, i64 ts.length), (11, i64 q)], [(5, ⟨1, (idsL (wait1 tick) (ts.take q)).map (toAV ∘ numD)⟩)]⟩) (fun q => q ≤ ts.length) (fun q => ts.length - q) _ 0 M (by simp) (by omega) (by omega) ?_
    intro k hk
    by_cases hlt : k < ts.length
    · obtain ⟨t, ht⟩ : ∃ t, ts[k]'hlt = t := ⟨_, rfl⟩
      have hs := idsL_snoc (wait1 tick) ts k hlt
      rw [ht] at hs
      have hle := idsL_le (wait1 tick) (ts.take k)
      rw [List.length_take] at hle
      have hrl : ((idsL (wait1 tick) (ts.take k)).map (toAV ∘ numD)).length = (idsL (wait1 tick) (ts.take k)).length := List.length_map _
      have hrc := lcRows_comp 5 numD (idsL (wait1 tick) (ts.take k))
      have hrn := nmRows_comp 7 numD (idsL (wait1 tick) (ts.take k))
      generalize hG : idsL (wait1 tick) (ts.take k) = G at *
      have outF : wait1 tick t = false → ∃ q', ((G.length = (idsL (wait1 tick) (ts.take q')).length ∧ (k : Int) + 1 = q') ∧ G.map (toAV ∘ numD) = (idsL (wait1 tick) (ts.take q')).map (toAV ∘ numD)) ∧ q' ≤ ts.length ∧ ts.length - q' < ts.length - k := fun h => ⟨k + 1, ⟨⟨by rw [hs, h]; simp, by omega⟩, by rw [hs, h]; simp⟩, by omega, by omega⟩
      have inF : wait1 tick t = true → ∃ q', ((G.length + 1 = (idsL (wait1 tick) (ts.take q')).length ∧ (k : Int) + 1 = q') ∧ G.map (toAV ∘ numD) ++ [[AV.c (D.int IntKind.i64 t.id)]] = (idsL (wait1 tick) (ts.take q')).map (toAV ∘ numD)) ∧ q' ≤ ts.length ∧ ts.length - q' < ts.length - k := fun h => ⟨k + 1, ⟨⟨by rw [hs, h]; simp, by omega⟩, by rw [hs, h]; simp [numD, toAV]⟩, by omega, by omega⟩
      by_cases a1 : t.arrive ≤ tick
      case neg =>
        simp -implicitDefEqProofs (disch := first | omega | assumption) [hlt, ht, hrl, hrc, hrn, a1]
        exact outF (by simp [wait1, a1])
      by_cases a2 : t.board < 0
      · simp -implicitDefEqProofs (disch := first | omega | assumption) [hlt, ht, hrl, hrc, hrn, a1, a2]
        exact inF (by simp [wait1, a1, a2])
      by_cases a3 : tick < t.board
      · simp -implicitDefEqProofs (disch := first | omega | assumption) [hlt, ht, hrl, hrc, hrn, a1, a2, a3]
        exact inF (by simp [wait1, a1, a3])
      · simp -implicitDefEqProofs (disch := first | omega | assumption) [hlt, ht, hrl, hrc, hrn, a1, a2, a3]
        exact outF (by simp [wait1, a2, a3])
    · obtain rfl : k = ts.length := by omega
      rw [List.take_length]
      simp -implicitDefEqProofs (disch := first | omega | assumption)
  have hlp := hin ⟨[(1, i64 tick), (5, .sl 5 0 0 0), (9, vT ts), (10, i64 ts.length), (11, i64 (0 : Nat))], [(5, ⟨1, []⟩)]⟩ (by simp [idsL])
  simp at hlp
  have ha := allRows_comp numD (idsL (wait1 tick) ts)
  have hle := idsL_le (wait1 tick) ts
  have hrl : ((idsL (wait1 tick) ts).map (toAV ∘ numD)).length = (idsL (wait1 tick) ts).length := List.length_map _
  have hF2 : ((idsL (wait1 tick) ts).map numD).take (idsL (wait1 tick) ts).length = (idsL (wait1 tick) ts).map numD := by rw [List.take_of_length_le]; rw [List.length_map]; omega
  generalize (idsL (wait1 tick) ts).map (toAV ∘ numD) = G at *
  generalize hKK : (idsL (wait1 tick) ts).map numD = K at *
  generalize (idsL (wait1 tick) ts).length = N at *
  simp -implicitDefEqProofs (disch := first | omega | (simp <;> fail) | assumption) [hlp, ha, hF2, hrl]
  exact hKK.symm
theorem replay_Done_run (Γ : Env) (M : Nat) (hM : 100 < M) : IdsC done1 (run Γ M replay_Done_f) := by
  rintro ⟨ts, ls, u⟩ tick hl
  dsimp only at hl ⊢
  obtain ⟨ax, s', ⟨rfl, rfl⟩, hin⟩ : ∃ ax s', (ax = .ex 0 ∧ s' = ⟨[(5, .sl 5 (idsL (done1 tick) ts).length 0 (idsL (done1 tick) ts).length)], [(5, ⟨1, (idsL (done1 tick) ts).map (toAV ∘ numD)⟩)]⟩) ∧ ∀ s0, nrm [1, 5, 9, 10, 11] [5, 28] s0 = ⟨[(1, i64 tick), (5, .sl 5 (idsL (done1 tick) (ts.take 0)).length 0 (idsL (done1 tick) (ts.take 0)).length), (9, vT ts), (10, i64 ts.length), (11, i64 (0 : Nat))], [(5, ⟨1, (idsL (done1 tick) (ts.take 0)).map (toAV ∘ numD)⟩)]⟩ → lp (exec Γ M replay_Done_l1) M s0 = some (ax, s') := by
    refine lp_all (fun q : Nat => ⟨[(1, i64 tick), (5, .sl 5 (idsL (done1 tick) (ts.take q)).length 0 (idsL (done1 tick) (ts.take q)).length), (9, vT ts), (10, i64 ts.length), (11, i64 q)], [(5, ⟨1, (idsL (done1 tick) (ts.take q)).map (toAV ∘ numD)⟩)]⟩) (fun q => q ≤ ts.length) (fun q => ts.length - q) _ 0 M (by simp) (by omega) (by omega) ?_
    intro k hk
    by_cases hlt : k < ts.length
    · obtain ⟨t, ht⟩ : ∃ t, ts[k]'hlt = t := ⟨_, rfl⟩
      have hs := idsL_snoc (done1 tick) ts k hlt
      rw [ht] at hs
      have hle := idsL_le (done1 tick) (ts.take k)
      rw [List.length_take] at hle
      have hrl : ((idsL (done1 tick) (ts.take k)).map (toAV ∘ numD)).length = (idsL (done1 tick) (ts.take k)).length := List.length_map _
      have hrc := lcRows_comp 5 numD (idsL (done1 tick) (ts.take k))
      have hrn := nmRows_comp 7 numD (idsL (done1 tick) (ts.take k))
      generalize hG : idsL (done1 tick) (ts.take k) = G at *
      have outF : done1 tick t = false → ∃ q', ((G.length = (idsL (done1 tick) (ts.take q')).length ∧ (k : Int) + 1 = q') ∧ G.map (toAV ∘ numD) = (idsL (done1 tick) (ts.take q')).map (toAV ∘ numD)) ∧ q' ≤ ts.length ∧ ts.length - q' < ts.length - k := fun h => ⟨k + 1, ⟨⟨by rw [hs, h]; simp, by omega⟩, by rw [hs, h]; simp⟩, by omega, by omega⟩
      have inF : done1 tick t = true → ∃ q', ((G.length + 1 = (idsL (done1 tick) (ts.take q')).length ∧ (k : Int) + 1 = q') ∧ G.map (toAV ∘ numD) ++ [[AV.c (D.int IntKind.i64 t.id)]] = (idsL (done1 tick) (ts.take q')).map (toAV ∘ numD)) ∧ q' ≤ ts.length ∧ ts.length - q' < ts.length - k := fun h => ⟨k + 1, ⟨⟨by rw [hs, h]; simp, by omega⟩, by rw [hs, h]; simp [numD, toAV]⟩, by omega, by omega⟩
      by_cases a1 : 0 ≤ t.alight
      case neg =>
        simp -implicitDefEqProofs (disch := first | omega | assumption) [hlt, ht, hrl, hrc, hrn, a1]
        exact outF (by simp [done1, a1])
      by_cases a2 : t.alight ≤ tick
      · simp -implicitDefEqProofs (disch := first | omega | assumption) [hlt, ht, hrl, hrc, hrn, a1, a2]
        exact inF (by simp [done1, a1, a2])
      · simp -implicitDefEqProofs (disch := first | omega | assumption) [hlt, ht, hrl, hrc, hrn, a1, a2]
        exact outF (by simp [done1, a2])
    · obtain rfl : k = ts.length := by omega
      rw [List.take_length]
      simp -implicitDefEqProofs (disch := first | omega | assumption)
  have hlp := hin ⟨[(1, i64 tick), (5, .sl 5 0 0 0), (9, vT ts), (10, i64 ts.length), (11, i64 (0 : Nat))], [(5, ⟨1, []⟩)]⟩ (by simp [idsL])
  simp at hlp
  have ha := allRows_comp numD (idsL (done1 tick) ts)
  have hle := idsL_le (done1 tick) ts
  have hrl : ((idsL (done1 tick) ts).map (toAV ∘ numD)).length = (idsL (done1 tick) ts).length := List.length_map _
  have hF2 : ((idsL (done1 tick) ts).map numD).take (idsL (done1 tick) ts).length = (idsL (done1 tick) ts).map numD := by rw [List.take_of_length_le]; rw [List.length_map]; omega
  generalize (idsL (done1 tick) ts).map (toAV ∘ numD) = G at *
  generalize hKK : (idsL (done1 tick) ts).map numD = K at *
  generalize (idsL (done1 tick) ts).length = N at *
  simp -implicitDefEqProofs (disch := first | omega | (simp <;> fail) | assumption) [hlp, ha, hF2, hrl]
  exact hKK.symm
/-! ### Where cars are -/
def whrL (ls : List (List Leg)) (tick : Int) : List Int := ls.map fun l => (tickV l tick).1
theorem whrL_snoc (ls : List (List Leg)) (tick : Int) (k : Nat) (h : k < ls.length) : whrL (ls.take (k + 1)) tick = whrL (ls.take k) tick ++ [(tickV ls[k] tick).1] := by
  rw [List.take_succ_eq_append_getElem h]; unfold whrL; rw [List.map_append]; rfl
structure FewW (ls : List (List Leg)) : Prop where
  few : ls.length ≤ 16
  way : ∀ l ∈ ls, WayI l
abbrev vLs (ls : List (List Leg)) : AV := .c (.vs 1 (ls.map legsRow))
def WhrC (g : List AV → Option (List AV)) : Prop := ∀ (l : Log) (tick : Int), FewW l.legs → (-1073741824 ≤ tick ∧ tick ≤ 1073741824) → g [.agg l.cells, i64 tick] = some [nuV (whrL l.legs tick)]
theorem replay_Where_run (Γ : Env) (M : Nat) (hM : 100 < M) (hA : TkC (Γ 150)) : WhrC (run Γ M replay_Where_f) := by
  rintro ⟨ts, ls, u⟩ tick hw htk
  dsimp only at hw ⊢
  have hfew := hw.few
  obtain ⟨ax, s', ⟨rfl, rfl⟩, hin⟩ : ∃ ax s', (ax = .ex 0 ∧ s' = ⟨[(5, .sl 5 (whrL ls tick).length 0 (whrL ls tick).length)], [(5, ⟨1, (whrL ls tick).map (toAV ∘ numD)⟩)]⟩) ∧ ∀ s0, nrm [1, 5, 12, 13, 14] [5, 28] s0 = ⟨[(1, i64 tick), (5, .sl 5 (whrL (ls.take 0) tick).length 0 (whrL (ls.take 0) tick).length), (12, vLs ls), (13, i64 ls.length), (14, i64 (0 : Nat))], [(5, ⟨1, (whrL (ls.take 0) tick).map (toAV ∘ numD)⟩)]⟩ → lp (exec Γ M replay_Where_l1) M s0 = some (ax, s') := by
    refine lp_all (fun q : Nat => ⟨[(1, i64 tick), (5, .sl 5 (whrL (ls.take q) tick).length 0 (whrL (ls.take q) tick).length), (12, vLs ls), (13, i64 ls.length), (14, i64 q)], [(5, ⟨1, (whrL (ls.take q) tick).map (toAV ∘ numD)⟩)]⟩) (fun q => q ≤ ls.length) (fun q => ls.length - q) _ 0 M (by simp) (by omega) (by omega) ?_
    intro k hk
    by_cases hlt : k < ls.length
    · obtain ⟨t, ht⟩ : ∃ t, ls[k]'hlt = t := ⟨_, rfl⟩
      have e := hA t tick (hw.way t (by rw [← ht]; exact List.getElem_mem hlt)) htk
      have hs := whrL_snoc ls tick k hlt
      rw [ht] at hs
      have hle : (whrL (ls.take k) tick).length = k := by simp [whrL]; omega
      have hrl : ((whrL (ls.take k) tick).map (toAV ∘ numD)).length = (whrL (ls.take k) tick).length := List.length_map _
      have hrc := lcRows_comp 5 numD (whrL (ls.take k) tick)
      have hrn := nmRows_comp 7 numD (whrL (ls.take k) tick)
      generalize hG : whrL (ls.take k) tick = G at *
      simp -implicitDefEqProofs (disch := first | omega | assumption) [hlt, ht, hrl, hrc, hrn, e]
      exact ⟨k + 1, ⟨⟨by rw [hs]; simp, by omega⟩, by rw [hs]; simp [numD, toAV]⟩, by omega, by omega⟩
    · obtain rfl : k = ls.length := by omega
      rw [List.take_length]
      simp -implicitDefEqProofs (disch := first | omega | assumption)
  have hlp := hin ⟨[(1, i64 tick), (5, .sl 5 0 0 0), (12, vLs ls), (13, i64 ls.length), (14, i64 (0 : Nat))], [(5, ⟨1, []⟩)]⟩ (by simp [whrL])
  simp at hlp
  have ha := allRows_comp numD (whrL ls tick)
  have hle : (whrL ls tick).length = ls.length := by simp [whrL]
  have hrl : ((whrL ls tick).map (toAV ∘ numD)).length = (whrL ls tick).length := List.length_map _
  have hF2 : ((whrL ls tick).map numD).take (whrL ls tick).length = (whrL ls tick).map numD := by rw [List.take_of_length_le]; rw [List.length_map]; omega
  generalize (whrL ls tick).map (toAV ∘ numD) = G at *
  generalize hKK : (whrL ls tick).map numD = K at *
  generalize (whrL ls tick).length = N at *
  simp -implicitDefEqProofs (disch := first | omega | (simp <;> fail) | assumption) [hlp, ha, hF2, hrl]
  exact hKK.symm
/-! ### Equality -/
def EqN (g : List AV → Option (List AV)) : Prop := ∀ (ts : List Int), ts.length ≤ 60 → g [nuV ts, nuV ts] = some [bo true]
theorem slices_Equal_N_run (Γ : Env) (M : Nat) (hM : 100 < M) : EqN (run Γ M slices_Equal_Sint_int_f) := by
  intro ts hl
  obtain ⟨ax, s', ⟨rfl, rfl⟩, hin⟩ : ∃ ax s', (ax = .ex 0 ∧ s' = ⟨[], []⟩) ∧ ∀ s0, nrm [0, 1, 12, 13] [] s0 = ⟨[(0, nuV ts), (1, nuV ts), (12, i64 ts.length), (13, i64 (0 : Nat))], []⟩ → lp (exec Γ M slices_Equal_Sint_int_l1) M s0 = some (ax, s') := by
    refine lp_all (fun q : Nat => ⟨[(0, nuV ts), (1, nuV ts), (12, i64 ts.length), (13, i64 q)], []⟩) (fun q => q ≤ ts.length) (fun q => ts.length - q) _ 0 M (by simp) (by omega) (by omega) ?_
    intro k hk
    by_cases hlt : k < ts.length
    · simp -implicitDefEqProofs (disch := first | omega | assumption) [hlt, numD]
      exact ⟨k + 1, by omega, by omega, by omega⟩
    · obtain rfl : k = ts.length := by omega
      simp -implicitDefEqProofs (disch := first | omega | assumption)
  have hlp : lp (exec Γ M slices_Equal_Sint_int_l1) M ⟨[(0, nuV ts), (1, nuV ts), (12, .c (.int .i64 ts.length)), (13, .c (.int .i64 0))], []⟩ = some (.ex 0, ⟨[], []⟩) := hin _ (by simp)
  simp -implicitDefEqProofs (disch := first | omega | assumption) [hlp]
end Go.Am.Si
