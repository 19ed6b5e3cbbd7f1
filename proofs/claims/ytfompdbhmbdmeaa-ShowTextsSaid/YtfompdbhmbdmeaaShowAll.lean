/- Law 27: show.Text. -/
import Derived.Test.YtfompdbhmbdmeaaShowText
set_option linter.unusedVariables false
set_option linter.unusedSimpArgs false
set_option maxRecDepth 10000
set_option maxHeartbeats 1000000
namespace Go.Am
abbrev wBuilding : List UInt8 := [98, 117, 105, 108, 100, 105, 110, 103]
abbrev wCars : List UInt8 := [99, 97, 114, 115]
abbrev wDoors : List UInt8 := [100, 111, 111, 114, 115]
abbrev wTraffic : List UInt8 := [116, 114, 97, 102, 102, 105, 99]
abbrev wDispatcher : List UInt8 := [100, 105, 115, 112, 97, 116, 99, 104, 101, 114]
abbrev wHorizon : List UInt8 := [104, 111, 114, 105, 122, 111, 110]
abbrev wBins : List UInt8 := [98, 105, 110, 115]
def segsT : List Seg → List UInt8
  | [] => []
  | g :: r => lineT [wTraffic, tplW g.kind] [g.ticks, g.rate] ++ segsT r
def headT (s : Scn) : List UInt8 := lineT [wBuilding] [s.floors, s.gap] ++ lineT [wCars] [s.cars, s.capacity] ++ lineT [wDoors] [s.opn, s.dwell, s.cls, s.transfer]
def txtS (s : Scn) : List UInt8 := headT s ++ segsT s.segs ++ lineT [wDispatcher, disW s.disp] [] ++ lineT [wHorizon] [s.horizon] ++ lineT [wBins] [s.bins, s.width]
theorem segsT_app (a b : List Seg) : segsT (a ++ b) = segsT a ++ segsT b := by
  induction a with
  | nil => rfl
  | cons x a ih => simp [segsT, ih]
theorem tplW_len (k : Int) : (tplW k).length ≤ 20 := by unfold tplW; repeat' split
                                                        all_goals simp
theorem disW_len (k : Int) : (disW k).length ≤ 20 := by unfold disW; repeat' split
                                                        all_goals simp
theorem lineT_len (ws : List (List UInt8)) (l : List Int) (h1 : ws.length ≤ 3) (h2 : ∀ w ∈ ws, w.length ≤ 20) (h3 : l.length ≤ 10) : (lineT ws l).length ≤ 400 := by
  have := joinW_len ws h2
  have := numsT_len l
  simp [lineT]; omega
theorem lineT_ne (ws : List (List UInt8)) (l : List Int) : lineT ws l ≠ [] := by simp [lineT]
theorem segsT_len (l : List Seg) : (segsT l).length ≤ 400 * l.length := by
  induction l with
  | nil => simp [segsT]
  | cons g r ih =>
    have := lineT_len [wTraffic, tplW g.kind] [g.ticks, g.rate] (by simp) (by simp [tplW_len]) (by simp)
    simp only [segsT, List.length_append, List.length_cons]; omega
theorem headT_len (s : Scn) : (headT s).length ≤ 1200 := by
  have h1 := lineT_len [wBuilding] [s.floors, s.gap] (by simp) (by simp) (by simp)
  have h2 := lineT_len [wCars] [s.cars, s.capacity] (by simp) (by simp) (by simp)
  have h3 := lineT_len [wDoors] [s.opn, s.dwell, s.cls, s.transfer] (by simp) (by simp) (by simp)
  simp only [headT, List.length_append]; omega
theorem headT_ne (s : Scn) : headT s ≠ [] := by simp [headT, lineT_ne]
abbrev rS (s : Scn) : List (Nat × Obj) := [(1, ⟨13, [s.cells.map AV.c]⟩)]
theorem rS_ok (s : Scn) : RestOk (rS s) := ⟨by simp, by simp, by simp, by simp⟩
theorem get_bOb1 (t : List UInt8) (rest : List (Nat × Obj)) : get (bOb t rest) 1 = get rest 1 := by cases t <;> simp [bOb]
theorem del_bOb7 (t : List UInt8) (rest : List (Nat × Obj)) : del (bOb t rest) 7 = bOb t (del rest 7) := by cases t <;> simp [bOb]
theorem keep_bOb1 (t : List UInt8) (rest : List (Nat × Obj)) : keepF 0 1000 [1, kB] (bOb t rest) = bOb t (keepF 0 1000 [1, kB] rest) := by cases t <;> simp [bOb]
theorem keep_bOb7 (t : List UInt8) (rest : List (Nat × Obj)) : keepF 0 1000 [1, kB, 7] (bOb t rest) = bOb t (keepF 0 1000 [1, kB, 7] rest) := by cases t <;> simp [bOb]
theorem keep_bOb0 (t : List UInt8) (rest : List (Nat × Obj)) : keepF 0 1000 [kB] (bOb t rest) = bOb t (keepF 0 1000 [kB] rest) := by cases t <;> simp [bOb]
theorem nmRow_u8 (k : Nat) (b : UInt8) : nmRow k (List.map AV.c (u8row b)) = true := rfl
theorem nm_bOb7 (t : List UInt8) (rest : List (Nat × Obj)) : nmOb 7 (bOb t rest) = nmOb 7 rest := by cases t <;> simp [bOb, bRows, nmRow_u8]
theorem text_l1 (Γ : Env) (M : Nat) (hM : 100 < M) (hl7 : LineC7 (Γ.pt 70)) (h42 : TplC (Γ 42)) (s : Scn) (hs : s.Ok) (hn : s.segs.length ≤ 30) (t : List UInt8) (ht : t.length ≤ 2000) (htn : t ≠ []) :
    ∀ s0, nrmP [1, 5, 39, 40, 41] 0 1000 [1, kB] s0 = ⟨[(1, .loc 1 0 0), (5, .loc kB 0 0), (39, .c (.vs 3 (s.segs.map Seg.cells))), (40, i64 s.segs.length), (41, i64 (0 : Nat))], bOb (t ++ segsT (s.segs.take 0)) (rS s)⟩ →
      lp (exec Γ M show_Text_l1) M s0 = some (.ex 0, ⟨[(1, .loc 1 0 0), (5, .loc kB 0 0)], bOb (t ++ segsT s.segs) (rS s)⟩) := by
  obtain ⟨ax, s', ⟨rfl, rfl⟩, hin⟩ : ∃ ax s', (ax = .ex 0 ∧ s' = ⟨[(1, .loc 1 0 0), (5, .loc kB 0 0)], bOb (t ++ segsT s.segs) (rS s)⟩) ∧ ∀ s0, nrmP [1, 5, 39, 40, 41] 0 1000 [1, kB] s0 = ⟨[(1, .loc 1 0 0), (5, .loc kB 0 0), (39, .c (.vs 3 (s.segs.map Seg.cells))), (40, i64 s.segs.length), (41, i64 (0 : Nat))], bOb (t ++ segsT (s.segs.take 0)) (rS s)⟩ → lp (exec Γ M show_Text_l1) M s0 = some (ax, s') := by
    refine lp_allP (fun k : Nat => ⟨[(1, .loc 1 0 0), (5, .loc kB 0 0), (39, .c (.vs 3 (s.segs.map Seg.cells))), (40, i64 s.segs.length), (41, i64 k)], bOb (t ++ segsT (s.segs.take k)) (rS s)⟩) (fun k => k ≤ s.segs.length) (fun k => s.segs.length - k) _ 0 M (by omega) (by omega) ?_
    intro k hk
    by_cases hlt : k < s.segs.length
    · obtain ⟨g, hg⟩ : ∃ g, s.segs[k]'hlt = g := ⟨_, rfl⟩
      have hgo : g.Ok := hs.segs g (by rw [← hg]; exact List.getElem_mem hlt)
      have hsl := segsT_len (s.segs.take k)
      have hkl : (s.segs.take k).length ≤ 30 := by simp; omega
      have hnext : (t ++ segsT (s.segs.take k)) ++ lineT [wTraffic, tplW g.kind] [g.ticks, g.rate] = t ++ segsT (s.segs.take (k + 1)) := by
        rw [List.take_succ_eq_append_getElem hlt, segsT_app, hg]; simp [segsT]
      have hTl : (t ++ segsT (s.segs.take k)).length ≤ 100000 := by simp only [List.length_append]; omega
      have hTn : t ++ segsT (s.segs.take k) ≠ [] := by simp [htn]
      obtain ⟨T, hTT⟩ : ∃ T, t ++ segsT (s.segs.take k) = T := ⟨_, rfl⟩
      rw [hTT] at hnext hTl hTn ⊢
      have e42 := h42 g.kind
      have h7 := fun gs h => hl7 gs (rS s) [wTraffic, tplW g.kind] [g.ticks, g.rate] (nV [g.ticks, g.rate]) T ⟨3, [[i64 g.kind, i64 g.ticks, i64 g.rate]]⟩ h (rS_ok s) (by simp) (by simp) (.inl rfl) (by simp) (by simp [tplW_len]) (by simp) (by simp [hgo.ticks, hgo.rate]) (by omega) hTn (by simp)
      rw [hnext] at h7
      simp [gsOk_iff, wV, nV, rS] at h7
      simp -implicitDefEqProofs (disch := first | omega | (simp <;> fail) | assumption) [rS, hlt, hg, e42, h7, del_bOb7, keep_bOb1, keep_bOb7, get_bOb1, nm_bOb7]
      exact ⟨k + 1, by simp, by omega, by omega⟩
    · obtain rfl : k = s.segs.length := by omega
      simp -implicitDefEqProofs (disch := first | omega | assumption) [rS, keep_bOb1]
  exact hin
theorem bOb_nil (rest : List (Nat × Obj)) : bOb [] rest = (kB, ⟨2, [[.ot .np, .nil 1]]⟩) :: rest := rfl
def TextC (g : List AV → Option (List AV)) : Prop := ∀ s : Scn, s.Ok → s.segs.length ≤ 30 → g [.agg s.cells] = some (if chkS s = 0 then [st (txtS s), i64 0] else [st [], i64 (chkS s)])
theorem show_Text_run (Γ : Env) (M : Nat) (hM : 100 < M) (hC : ChkC (Γ 25)) (h42 : TplC (Γ 42)) (h44 : DisC (Γ 44)) (hl : LineC (Γ.pt 70)) (hl7 : LineC7 (Γ.pt 70)) (hS : StrC (Γ.pt 69)) : TextC (run Γ M show_Text_f) := by
  intro s hs hn
  have e25 := hC s (by have := hs.nsegs; omega)
  have e44 := h44 s.disp
  simp only [Scn.cells] at e25
  by_cases h0 : chkS s = 0
  · rw [if_pos h0]
    rw [h0] at e25
    have n1 := lineT_len [wBuilding] [s.floors, s.gap] (by simp) (by simp) (by simp)
    have n2 := lineT_len [wCars] [s.cars, s.capacity] (by simp) (by simp) (by simp)
    have n3 := lineT_len [wDoors] [s.opn, s.dwell, s.cls, s.transfer] (by simp) (by simp) (by simp)
    have n4 := segsT_len s.segs
    have n5 := lineT_len [wDispatcher, disW s.disp] [] (by simp) (by simp [disW_len]) (by simp)
    have n6 := lineT_len [wHorizon] [s.horizon] (by simp) (by simp) (by simp)
    have n7 := lineT_len [wBins] [s.bins, s.width] (by simp) (by simp) (by simp)
    obtain ⟨T1, hT1⟩ : ∃ T, lineT [wBuilding] [s.floors, s.gap] = T := ⟨_, rfl⟩
    obtain ⟨T2, hT2⟩ : ∃ T, T1 ++ lineT [wCars] [s.cars, s.capacity] = T := ⟨_, rfl⟩
    obtain ⟨T3, hT3⟩ : ∃ T, T2 ++ lineT [wDoors] [s.opn, s.dwell, s.cls, s.transfer] = T := ⟨_, rfl⟩
    obtain ⟨T4, hT4⟩ : ∃ T, T3 ++ segsT s.segs = T := ⟨_, rfl⟩
    obtain ⟨T5, hT5⟩ : ∃ T, T4 ++ lineT [wDispatcher, disW s.disp] [] = T := ⟨_, rfl⟩
    obtain ⟨T6, hT6⟩ : ∃ T, T5 ++ lineT [wHorizon] [s.horizon] = T := ⟨_, rfl⟩
    obtain ⟨T7, hT7⟩ : ∃ T, T6 ++ lineT [wBins] [s.bins, s.width] = T := ⟨_, rfl⟩
    have hfin : txtS s = T7 := by rw [← hT7, ← hT6, ← hT5, ← hT4, ← hT3, ← hT2, ← hT1]; simp [txtS, headT]
    have m1 : T1 ≠ [] := by rw [← hT1]; exact lineT_ne _ _
    have m2 : T2 ≠ [] := by rw [← hT2]; simp [m1]
    have m3 : T3 ≠ [] := by rw [← hT3]; simp [m2]
    have m4 : T4 ≠ [] := by rw [← hT4]; simp [m3]
    have m5 : T5 ≠ [] := by rw [← hT5]; simp [m4]
    have m6 : T6 ≠ [] := by rw [← hT6]; simp [m5]
    have m7 : T7 ≠ [] := by rw [← hT7]; simp [m6]
    have k1 : T1.length ≤ 400 := by rw [← hT1]; exact n1
    have k2 : T2.length ≤ 800 := by rw [← hT2]; simp only [List.length_append]; omega
    have k3 : T3.length ≤ 1200 := by rw [← hT3]; simp only [List.length_append]; omega
    have k4 : T4.length ≤ 20000 := by rw [← hT4]; simp only [List.length_append]; omega
    have k5 : T5.length ≤ 21000 := by rw [← hT5]; simp only [List.length_append]; omega
    have k6 : T6.length ≤ 22000 := by rw [← hT6]; simp only [List.length_append]; omega
    have k7 : T7.length ≤ 23000 := by rw [← hT7]; simp only [List.length_append]; omega
    have c1 := fun gs h => hl gs (rS s) [wBuilding] [s.floors, s.gap] (nV [s.floors, s.gap]) [] h (rS_ok s) (.inl rfl) (by simp) (by simp) (by simp) (by simp [hs.floors, hs.gap]) (by simp) ⟨_, _, rfl, .inr (by simp)⟩
    have c2 := fun gs h => hl gs (rS s) [wCars] [s.cars, s.capacity] (nV [s.cars, s.capacity]) T1 h (rS_ok s) (.inl rfl) (by simp) (by simp) (by simp) (by simp [hs.cars, hs.capacity]) (by omega) ⟨_, _, rfl, .inl m1⟩
    have c3 := fun gs h => hl gs (rS s) [wDoors] [s.opn, s.dwell, s.cls, s.transfer] (nV [s.opn, s.dwell, s.cls, s.transfer]) T2 h (rS_ok s) (.inl rfl) (by simp) (by simp) (by simp) (by simp [hs.opn, hs.dwell, hs.cls, hs.transfer]) (by omega) ⟨_, _, rfl, .inl m2⟩
    have c5 := fun gs h => hl gs (rS s) [wDispatcher, disW s.disp] [] (.nil 1) T4 h (rS_ok s) (.inr ⟨rfl, rfl⟩) (by simp) (by simp [disW_len]) (by simp) (by simp) (by omega) ⟨_, _, rfl, .inl m4⟩
    have c6 := fun gs h => hl gs (rS s) [wHorizon] [s.horizon] (nV [s.horizon]) T5 h (rS_ok s) (.inl rfl) (by simp) (by simp) (by simp) (by simp [hs.horizon]) (by omega) ⟨_, _, rfl, .inl m5⟩
    have c7 := fun gs h => hl gs (rS s) [wBins] [s.bins, s.width] (nV [s.bins, s.width]) T6 h (rS_ok s) (.inl rfl) (by simp) (by simp) (by simp) (by simp [hs.bins, hs.width]) (by omega) ⟨_, _, rfl, .inl m6⟩
    have c8 := fun gs h => hS gs [] T7 h ⟨rfl, rfl, rfl, rfl⟩ m7 (by omega)
    rw [List.nil_append, hT1] at c1
    rw [hT2] at c2
    rw [hT3] at c3
    rw [hT5] at c5
    rw [hT6] at c6
    rw [hT7] at c7
    have hlp : lp (exec Γ M show_Text_l1) M ⟨[(1, .loc 1 0 0), (5, .loc kB 0 0), (39, .c (.vs 3 (s.segs.map Seg.cells))), (40, .c (.int .i64 s.segs.length)), (41, .c (.int .i64 0))], bOb T3 (rS s)⟩ = some (.ex 0, ⟨[(1, .loc 1 0 0), (5, .loc kB 0 0)], bOb T4 (rS s)⟩) := by
      have := text_l1 Γ M hM hl7 h42 s hs hn T3 (by omega) m3 ⟨[(1, .loc 1 0 0), (5, .loc kB 0 0), (39, .c (.vs 3 (s.segs.map Seg.cells))), (40, .c (.int .i64 s.segs.length)), (41, .c (.int .i64 0))], bOb T3 (rS s)⟩ (by simp [segsT, keep_bOb1, rS])
      rw [hT4] at this
      exact this
    rw [hfin]
    rw [bOb_nil] at c1
    simp [gsOk_iff, wV, nV, rS] at c1 c2 c3 c5 c6 c7 c8
    simp [rS] at hlp
    simp -implicitDefEqProofs (disch := first | omega | (simp <;> fail) | assumption) [rS, e25, e44, hlp, c1, c2, c3, c5, c6, c7, c8, del_bOb7, keep_bOb1, keep_bOb0, get_bOb1]
  · rw [if_neg h0]
    simp -implicitDefEqProofs (disch := first | omega | (simp <;> fail) | assumption) [e25, h0]
end Go.Am
