/- Law 27: the document's text, and the law. -/
import Derived.Test.YtfompdbhmbdmeaaShowAll
set_option linter.unusedVariables false
set_option linter.unusedSimpArgs false
set_option maxRecDepth 10000
set_option maxHeartbeats 1000000
namespace Go.Am
theorem ref_text_l1 (Γ : Env) (M : Nat) (hM : 100 < M) (h71 : RLineC (Γ 71)) (h43 : TplC (Γ 43)) (s : Scn) (hs : s.Ok) (hn : s.segs.length ≤ 30) (t : List UInt8) (ht : t.length ≤ 2000) :
    ∀ s0, nrm [1, 5, 6] [1] s0 = ⟨[(1, .loc 1 0 0), (5, st (t ++ segsT (s.segs.take 0))), (6, i64 (0 : Nat))], rS s⟩ →
      lp (exec Γ M ref27_Text_l1) M s0 = some (.ex 0, ⟨[(1, .loc 1 0 0), (5, st (t ++ segsT s.segs))], rS s⟩) := by
  obtain ⟨ax, s', ⟨rfl, rfl⟩, hin⟩ : ∃ ax s', (ax = .ex 0 ∧ s' = ⟨[(1, .loc 1 0 0), (5, st (t ++ segsT s.segs))], rS s⟩) ∧ ∀ s0, nrm [1, 5, 6] [1] s0 = ⟨[(1, .loc 1 0 0), (5, st (t ++ segsT (s.segs.take 0))), (6, i64 (0 : Nat))], rS s⟩ → lp (exec Γ M ref27_Text_l1) M s0 = some (ax, s') := by
    refine lp_all (fun k : Nat => ⟨[(1, .loc 1 0 0), (5, st (t ++ segsT (s.segs.take k))), (6, i64 k)], rS s⟩) (fun k => k ≤ s.segs.length) (fun k => s.segs.length - k) _ 0 M (by simp [rS]) (by omega) (by omega) ?_
    intro k hk
    by_cases hlt : k < s.segs.length
    · obtain ⟨g, hg⟩ : ∃ g, s.segs[k]'hlt = g := ⟨_, rfl⟩
      have hgo : g.Ok := hs.segs g (by rw [← hg]; exact List.getElem_mem hlt)
      have hsl := segsT_len (s.segs.take k)
      have hkl : (s.segs.take k).length ≤ 30 := by simp; omega
      have hnext : (t ++ segsT (s.segs.take k)) ++ lineT [wTraffic, tplW g.kind] [g.ticks, g.rate] = t ++ segsT (s.segs.take (k + 1)) := by
        rw [List.take_succ_eq_append_getElem hlt, segsT_app, hg]; simp [segsT]
      have hTl : (t ++ segsT (s.segs.take k)).length ≤ 100000 := by simp only [List.length_append]; omega
      obtain ⟨T, hTT⟩ : ∃ T, t ++ segsT (s.segs.take k) = T := ⟨_, rfl⟩
      rw [hTT] at hnext hTl ⊢
      have e43 := h43 g.kind
      have hkw := tplW_len g.kind
      have hA := lineT_len [wTraffic, tplW g.kind] [g.ticks, g.rate] (by simp) (by simp [tplW_len]) (by simp)
      have e71 : Γ 71 [st (wTraffic ++ 32 :: tplW g.kind), nV [g.ticks, g.rate]] = some [st (lineT [wTraffic, tplW g.kind] [g.ticks, g.rate])] := h71 (wTraffic ++ 32 :: tplW g.kind) [g.ticks, g.rate] _ (.inl rfl) (by simp; omega) (by simp) (by simp [hgo.ticks, hgo.rate])
      obtain ⟨A, hAA⟩ : ∃ A, lineT [wTraffic, tplW g.kind] [g.ticks, g.rate] = A := ⟨_, rfl⟩
      rw [hAA] at hA hnext e71
      obtain ⟨K, hKK⟩ : ∃ K, tplW g.kind = K := ⟨_, rfl⟩
      rw [hKK] at e43 hkw e71
      simp [nV] at e71
      simp -implicitDefEqProofs (disch := first | omega | ((try simp only [List.length_append, List.length_cons, List.length_nil, maxStr_eq]); omega) | assumption) [rS, hlt, hg, e43, e71, binS_add]
      exact ⟨k + 1, ⟨hnext.symm ▸ rfl, by simp⟩, by omega, by omega⟩
    · obtain rfl : k = s.segs.length := by omega
      simp -implicitDefEqProofs (disch := first | omega | assumption) [rS]
  exact hin
theorem ref27_Text_run (Γ : Env) (M : Nat) (hM : 100 < M) (hC : ChkC (Γ 26)) (h43 : TplC (Γ 43)) (h45 : DisC (Γ 45)) (h71 : RLineC (Γ 71)) : TextC (run Γ M ref27_Text_f) := by
  intro s hs hn
  have e26 := hC s (by have := hs.nsegs; omega)
  have e45 := h45 s.disp
  simp only [Scn.cells] at e26
  by_cases h0 : chkS s = 0
  · rw [if_pos h0]
    rw [h0] at e26
    have n1 := lineT_len [wBuilding] [s.floors, s.gap] (by simp) (by simp) (by simp)
    have n2 := lineT_len [wCars] [s.cars, s.capacity] (by simp) (by simp) (by simp)
    have n3 := lineT_len [wDoors] [s.opn, s.dwell, s.cls, s.transfer] (by simp) (by simp) (by simp)
    have n4 := segsT_len s.segs
    have n5 := lineT_len [wDispatcher, disW s.disp] [] (by simp) (by simp [disW_len]) (by simp)
    have n6 := lineT_len [wHorizon] [s.horizon] (by simp) (by simp) (by simp)
    have n7 := lineT_len [wBins] [s.bins, s.width] (by simp) (by simp) (by simp)
    have hdw := disW_len s.disp
    have c1 : Γ 71 [st wBuilding, nV [s.floors, s.gap]] = some [st (lineT [wBuilding] [s.floors, s.gap])] := h71 _ _ _ (.inl rfl) (by simp) (by simp) (by simp [hs.floors, hs.gap])
    have c2 : Γ 71 [st wCars, nV [s.cars, s.capacity]] = some [st (lineT [wCars] [s.cars, s.capacity])] := h71 _ _ _ (.inl rfl) (by simp) (by simp) (by simp [hs.cars, hs.capacity])
    have c3 : Γ 71 [st wDoors, nV [s.opn, s.dwell, s.cls, s.transfer]] = some [st (lineT [wDoors] [s.opn, s.dwell, s.cls, s.transfer])] := h71 _ _ _ (.inl rfl) (by simp) (by simp) (by simp [hs.opn, hs.dwell, hs.cls, hs.transfer])
    have c5 : Γ 71 [st (wDispatcher ++ 32 :: disW s.disp), .nil 1] = some [st (lineT [wDispatcher, disW s.disp] [])] := h71 _ [] _ (.inr ⟨rfl, rfl⟩) (by simp; omega) (by simp) (by simp)
    have c5' : Γ 71 [st (wDispatcher ++ 32 :: disW s.disp), nV []] = some [st (lineT [wDispatcher, disW s.disp] [])] := h71 _ [] _ (.inl rfl) (by simp; omega) (by simp) (by simp)
    have c6 : Γ 71 [st wHorizon, nV [s.horizon]] = some [st (lineT [wHorizon] [s.horizon])] := h71 _ _ _ (.inl rfl) (by simp) (by simp) (by simp [hs.horizon])
    have c7 : Γ 71 [st wBins, nV [s.bins, s.width]] = some [st (lineT [wBins] [s.bins, s.width])] := h71 _ _ _ (.inl rfl) (by simp) (by simp) (by simp [hs.bins, hs.width])
    have hl3 : (lineT [wBuilding] [s.floors, s.gap] ++ lineT [wCars] [s.cars, s.capacity] ++ lineT [wDoors] [s.opn, s.dwell, s.cls, s.transfer]).length ≤ 2000 := by simp only [List.length_append]; omega
    have hlp0 := ref_text_l1 Γ M hM h71 h43 s hs hn _ hl3
    have hfin : txtS s = lineT [wBuilding] [s.floors, s.gap] ++ lineT [wCars] [s.cars, s.capacity] ++ lineT [wDoors] [s.opn, s.dwell, s.cls, s.transfer] ++ segsT s.segs ++ lineT [wDispatcher, disW s.disp] [] ++ lineT [wHorizon] [s.horizon] ++ lineT [wBins] [s.bins, s.width] := rfl
    rw [hfin]
    generalize lineT [wBuilding] [s.floors, s.gap] = A1 at *
    generalize lineT [wCars] [s.cars, s.capacity] = A2 at *
    generalize lineT [wDoors] [s.opn, s.dwell, s.cls, s.transfer] = A3 at *
    generalize lineT [wDispatcher, disW s.disp] [] = A5 at *
    generalize lineT [wHorizon] [s.horizon] = A6 at *
    generalize lineT [wBins] [s.bins, s.width] = A7 at *
    have hlp : lp (exec Γ M ref27_Text_l1) M ⟨[(1, .loc 1 0 0), (5, st (A1 ++ (A2 ++ A3))), (6, .c (.int .i64 0))], rS s⟩ = some (.ex 0, ⟨[(1, .loc 1 0 0), (5, st (A1 ++ (A2 ++ (A3 ++ segsT s.segs))))], rS s⟩) := by
      have := hlp0 ⟨[(1, .loc 1 0 0), (5, st (A1 ++ (A2 ++ A3))), (6, .c (.int .i64 0))], rS s⟩ (by simp [segsT, rS])
      rw [this]; simp
    generalize segsT s.segs = S4 at *
    generalize disW s.disp = W at *
    simp [nV] at c1 c2 c3 c5 c5' c6 c7
    simp [rS] at hlp
    simp -implicitDefEqProofs (disch := first | omega | ((try simp only [List.length_append, List.length_cons, List.length_nil, maxStr_eq]); omega) | assumption) [rS, e26, e45, hlp, c1, c2, c3, c5, c5', c6, c7, binS_add]
    done
  · rw [if_neg h0]
    simp -implicitDefEqProofs (disch := first | omega | (simp <;> fail) | assumption) [e26, h0]
end Go.Am
