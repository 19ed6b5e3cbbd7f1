/- The document's list of all who come. -/
import Derived.Test.YtkigddhdbnganaaArC
set_option linter.unusedVariables false
set_option linter.unusedSimpArgs false
set_option maxRecDepth 10000
set_option maxHeartbeats 4000000
namespace Go.Am
abbrev pV (l : List P4) : AV := .c (.vs 4 (l.map p4D))
theorem psgF_take_succ (K : List W3) (t a i p : Nat) (ws : List Nat) (h : a + i < ws.length) : psgF K t ((ws.drop a).take (i + 1)) p = psgF K t ((ws.drop a).take i) p ++ [(p + i, t, pairF K ws[a + i])] := by
  have hd : i < (ws.drop a).length := by rw [List.length_drop]; omega
  rw [List.take_succ_eq_append_getElem hd, List.getElem_drop, psgF_append, List.length_take, Nat.min_eq_left (by omega)]; rfl
theorem psgF_take_len (K : List W3) (t a i p : Nat) (ws : List Nat) (h : a + i ≤ ws.length) : (psgF K t ((ws.drop a).take i) p).length = i := by
  rw [psgF_length, List.length_take, List.length_drop]; omega
theorem nm_p4R' (k : Nat) (l : List P4) : nmRows k (l.map p4R) = true := by induction l <;> simp_all
theorem lc_p4R' (k : Nat) (l : List P4) : lcRows k (l.map p4R) = true := by induction l <;> simp_all
theorem ref28_inner (Γ : Env) (M : Nat) (hM : 1000 < M) (hO : ROfC (Γ 285)) (s : Scn) (ws : List Nat) (k a n f : Nat) (l : List P4) (K : List W3) (hK : KOk K f) (hws : ∀ w ∈ ws, w < 4294967296) (hwl : ws.length ≤ 100000) (hn : n < 64) (hl : l.length ≤ 100000) (ha : a + n ≤ ws.length) :
    lp (exec Γ M ref28_List_l1) M ⟨[(1, wV ws), (2, .loc 2 0 0), (7, .sl 7 l.length 0 l.length), (8, i64 a), (9, i64 k), (12, i64 n), (13, dW K), (14, i64 0)], [(2, ⟨13, [scRow s]⟩), (7, ⟨4, l.map p4R⟩)]⟩ = some (.ex 2, ⟨[(1, wV ws), (2, .loc 2 0 0), (7, .sl 7 (l.length + n) 0 (l.length + n)), (8, i64 (a + n : Nat)), (9, i64 k)], [(2, ⟨13, [scRow s]⟩), (7, ⟨4, (l ++ psgF K k ((ws.drop a).take n) l.length).map p4R⟩)]⟩) := by
  obtain ⟨ax, s', ⟨rfl, rfl⟩, hin⟩ : ∃ ax s', (ax = .ex 2 ∧ s' = ⟨[(1, wV ws), (2, .loc 2 0 0), (7, .sl 7 (l.length + n) 0 (l.length + n)), (8, i64 (a + n : Nat)), (9, i64 k)], [(2, ⟨13, [scRow s]⟩), (7, ⟨4, (l ++ psgF K k ((ws.drop a).take n) l.length).map p4R⟩)]⟩) ∧ ∀ s0, nrm [1, 2, 7, 8, 9, 12, 13, 14] [2, 7, 94] s0 = ⟨[(1, wV ws), (2, .loc 2 0 0), (7, .sl 7 (l.length + 0) 0 (l.length + 0)), (8, i64 (a + 0 : Nat)), (9, i64 k), (12, i64 n), (13, dW K), (14, i64 (0 : Nat))], [(2, ⟨13, [scRow s]⟩), (7, ⟨4, (l ++ psgF K k ((ws.drop a).take 0) l.length).map p4R⟩)]⟩ → lp (exec Γ M ref28_List_l1) M s0 = some (ax, s') := by
    refine lp_all (fun i : Nat => ⟨[(1, wV ws), (2, .loc 2 0 0), (7, .sl 7 (l.length + i) 0 (l.length + i)), (8, i64 (a + i : Nat)), (9, i64 k), (12, i64 n), (13, dW K), (14, i64 i)], [(2, ⟨13, [scRow s]⟩), (7, ⟨4, (l ++ psgF K k ((ws.drop a).take i) l.length).map p4R⟩)]⟩) (fun i => i ≤ n) (fun i => n - i) _ 0 M (by simp) (by omega) (by omega) ?_
    intro i hi
    have hlen := psgF_take_len K k a i l.length ws (by omega)
    by_cases hlt : i < n
    · have hlw : a + i < ws.length := by omega
      obtain ⟨w, hw⟩ : ∃ w, ws[a + i] = w := ⟨_, rfl⟩
      have hw2 := hws w (by rw [← hw]; exact List.getElem_mem hlw)
      have hs := psgF_take_succ K k a i l.length ws hlw
      rw [hw] at hs
      have e := hO w K (by have := hK.len; omega) hK.vals (by omega) (by omega)
      rw [hK.ans w hw2] at e
      simp only at e
      generalize hP : psgF K k ((ws.drop a).take i) l.length = P at *
      generalize hP2 : psgF K k ((ws.drop a).take (i + 1)) l.length = P2 at *
      have hRl : ((l ++ P).map p4R).length = l.length + i := by rw [List.length_map, List.length_append, hlen]
      have hRn : (l ++ P2).map p4R = (l ++ P).map p4R ++ [p4R (l.length + i, k, pairF K w)] := by rw [hs, ← List.append_assoc, List.map_append]; rfl
      have y1 := fun k => nm_p4R' k (l ++ P)
      have y2 := fun k => lc_p4R' k (l ++ P)
      generalize (l ++ P).map p4R = R at *
      have hai : ((a : Int) + i) < ws.length := by omega
      have htn : ((a : Int) + i).toNat = a + i := by omega
      have hw' : ∀ h, ws[((a : Int) + i).toNat]'h = w := fun h => by simp only [htn]; exact hw
      simp -implicitDefEqProofs (disch := first | omega | (simp [y1, y2] <;> fail) | assumption) [hlt, hlw, hw, e, hRl, y1, y2, w3D, hai, hw', htn]
      exact ⟨i + 1, by
        simp [hP2, Nat.add_assoc, Int.add_assoc]
        rw [← List.map_append, hRn]; rfl, by omega, by omega⟩
    · obtain rfl : i = n := by omega
      simp -implicitDefEqProofs (disch := first | omega | (simp <;> fail) | assumption)
  exact hin _ (by simp [psgF])
def RLstC (g : List AV → Option (List AV)) : Prop := ∀ (s : Scn) (ws : List Nat), ScOk s → s.floors ≤ 20 → s.horizon ≤ 300 → (∀ w ∈ ws, w < 4294967296) → ws.length ≤ 3000 →
  g [.agg s.cells, wV ws] = some (match runT s ws s.horizon.toNat with | some (l, a) => [pV l, i64 a, bo true] | none => [pV [], i64 0, bo false])
theorem ref28_List_run (Γ : Env) (M : Nat) (hM : 1000 < M) (hS : RSegC (Γ 500)) (hT : RTabC (Γ 499)) (hN : MeansC (Γ 498)) (hA : RAllC (Γ 279)) (hO : ROfC (Γ 285)) : RLstC (run Γ M ref28_List_f) := by
  intro s ws hs hf hh hws hwl
  have h1 := hs.h1
  obtain ⟨H, hH⟩ : ∃ H : Nat, s.horizon = H := ⟨s.horizon.toNat, by omega⟩
  have hHt : s.horizon.toNat = H := by omega
  have hsg := hs.segs
  rw [hHt]
  obtain ⟨ax, s', hR, hin⟩ : ∃ ax s', ((runT s ws H = none ∧ ax = .ret ∧ s' = ⟨[(4, .nil 4), (5, i64 0), (6, bo false)], []⟩) ∨ (∃ l a, runT s ws H = some (l, a) ∧ ax = .ex 0 ∧ s' = ⟨[(7, .sl 7 l.length 0 l.length), (8, i64 (a : Nat))], [(7, ⟨4, l.map p4R⟩)]⟩)) ∧ ∀ s0, nrm [1, 2, 7, 8, 9] [2, 7, 94] s0 = ⟨[(1, wV ws), (2, .loc 2 0 0), (7, .sl 7 ([] : List P4).length 0 ([] : List P4).length), (8, i64 (0 : Nat)), (9, i64 (0 : Nat))], [(2, ⟨13, [scRow s]⟩), (7, ⟨4, ([] : List P4).map p4R⟩)]⟩ → lp (exec Γ M ref28_List_l2) M s0 = some (ax, s') := by
    refine lp_all (fun q : Nat × List P4 × Nat => ⟨[(1, wV ws), (2, .loc 2 0 0), (7, .sl 7 q.2.1.length 0 q.2.1.length), (8, i64 q.2.2), (9, i64 q.1)], [(2, ⟨13, [scRow s]⟩), (7, ⟨4, q.2.1.map p4R⟩)]⟩) (fun q => q.1 ≤ H ∧ runT s ws q.1 = some q.2) (fun q => H - q.1) _ (0, [], 0) M (by simp) ⟨by simp, rfl⟩ (by simp only; omega) ?_
    rintro ⟨k, l, a⟩ ⟨hk, hr⟩
    simp only at hk hr ⊢
    obtain ⟨hb1, hb2⟩ := runT_some hws hr
    have y1 := fun k => nm_p4R' k l
    have y2 := fun k => lc_p4R' k l
    have hlR : (l.map p4R).length = l.length := List.length_map ..
    by_cases hlt : k < H
    · have e1 := hS s.segs k hsg (by omega) (by omega)
      have hsucc := runT_succ hr
      cases hat : atF s.segs (k : Int) with
      | none =>
        rw [hat] at e1
        simp only [zSeg, Seg.cells] at e1
        have hst : stepT s ws k a l.length = some ([], a) := by unfold stepT; simp only [hat]
        rw [hst] at hsucc
        simp only [List.append_nil] at hsucc
        generalize hRR : l.map p4R = R at *
        simp -implicitDefEqProofs (disch := first | omega | (simp <;> fail) | assumption) [hH, hlt, e1, y1, y2]
        exact ⟨k + 1, l, a, by simp [hRR], ⟨by omega, hsucc⟩, by omega⟩
      | some j =>
        have hjl := atF_get hat
        obtain ⟨⟨kd, td, rt⟩, hgj⟩ : ∃ g, s.segs[j] = g := ⟨_, rfl⟩
        have hgd : s.segs.getD j zSeg = ⟨kd, td, rt⟩ := by simp [hjl, hgj]
        have hsg2 := hsg.all ⟨kd, td, rt⟩ (by rw [← hgj]; exact List.getElem_mem hjl)
        have hst := stepT_at (a := a) (p := l.length) (ws := ws) hat hgd
        rw [hst] at hsucc
        rw [hat] at e1
        simp only [hgd, Seg.cells] at e1 hsucc
        obtain ⟨k1, k4, _, _, r0, r1⟩ := hsg2
        simp only at k1 k4 r0 r1
        by_cases hr0 : rt = 0
        · subst hr0
          simp only [if_true, List.append_nil] at hsucc
          generalize hRR : l.map p4R = R at *
          simp -implicitDefEqProofs (disch := first | omega | (simp <;> fail) | assumption) [hH, hlt, e1, y1, y2]
          exact ⟨k + 1, l, a, by simp [hRR], ⟨by omega, hsucc⟩, by omega⟩
        · rw [if_neg hr0] at hsucc
          cases hwa : ws[a]? with
          | none =>
            have hal : a = ws.length := by
              by_cases h : a < ws.length
              · rw [List.getElem?_eq_getElem h] at hwa; simp at hwa
              · omega
            rw [hwa] at hsucc
            have hrH := runT_none hsucc H (by omega)
            generalize l.map p4R = R at *
            subst hal
            simp -implicitDefEqProofs (disch := first | omega | (simp <;> fail) | assumption) [hH, hlt, e1, y1, y2, hr0, hrH]
          | some w =>
            have hal : a < ws.length := by
              by_cases h : a < ws.length
              · exact h
              · rw [List.getElem?_eq_none (by omega)] at hwa; simp at hwa
            have hw2 := hws w (List.mem_of_getElem? hwa)
            have hwg : ws[a] = w := getI hwa hal
            rw [hwa] at hsucc
            have e2 := hT rt.toNat (by omega)
            have e3 := hN rt.toNat w hw2
            have hrn : ((rt.toNat : Nat) : Int) = rt := by omega
            rw [hrn] at e2
            have hn64 := means_64 (rate := rt.toNat) hw2
            have hane : ¬ (a : Int) = ws.length := by omega
            simp only at hsucc
            generalize meansF (tbl rt.toNat) w = n at *
            generalize tbl rt.toNat = TL at *
            by_cases hshort : ws.length < a + 1 + n
            · rw [if_pos hshort] at hsucc
              have hrH := runT_none hsucc H (by omega)
              have hn0 : (0 : Int) < n := by omega
              have hlt2 : (ws.length : Int) - (a + 1) < n := by omega
              generalize l.map p4R = R at *
              simp -implicitDefEqProofs (disch := first | omega | (simp <;> fail) | assumption) [hH, hlt, e1, e2, e3, y1, y2, hr0, hrH, hane, hal, hwa, hwg, hn0, hlt2, w3D]
            · rw [if_neg hshort] at hsucc
              simp only at hsucc
              have hlt2 : ¬ (ws.length : Int) - (a + 1) < n := by omega
              by_cases hn0 : n = 0
              · subst hn0
                simp only [List.take_zero, psgF, List.append_nil, Nat.add_zero] at hsucc
                generalize hRR : l.map p4R = R at *
                simp -implicitDefEqProofs (disch := first | omega | (simp <;> fail) | assumption) [hH, hlt, e1, e2, e3, y1, y2, hr0, hane, hal, hwa, hwg, w3D]
                exact ⟨k + 1, l, a + 1, by simp [hRR], ⟨by omega, hsucc⟩, by omega⟩
              · have hnp : (0 : Int) < n := by omega
                have hnz : ¬ (n : Int) = 0 := by omega
                obtain ⟨F, hF⟩ : ∃ F : Nat, s.floors = F := ⟨s.floors.toNat, by have := hs.f2; omega⟩
                have hFt : s.floors.toNat = F := by omega
                have e4 := hA kd F k1 k4 (by have := hs.f2; omega) (by omega)
                rw [← hF] at e4
                have hK := allW_ok k1 k4 (f := F) (by have := hs.f2; omega) (by omega)
                have hin := ref28_inner Γ M hM hO s ws k (a + 1) n F l (allW kd F F) hK hws (by omega) hn64 (by omega) (by omega)
                have hsK : segK s ⟨kd, td, rt⟩ = allW kd F F := by unfold segK; rw [hFt]
                rw [hsK] at hsucc
                have e0 : ((a + 1 : Nat) : Int) = (a : Int) + 1 := rfl
                rw [e0] at hin
                generalize allW kd F F = K at *
                have hml : (psgF K k ((ws.drop (a + 1)).take n) l.length).length = n := psgF_take_len K k (a + 1) n l.length ws (by omega)
                have hRl2 : (l ++ psgF K k ((ws.drop (a + 1)).take n) l.length).length = l.length + n := by rw [List.length_append, hml]
                obtain ⟨L2, hL2⟩ : ∃ L2, l ++ psgF K k ((ws.drop (a + 1)).take n) l.length = L2 := ⟨_, rfl⟩
                rw [hL2] at hin hsucc hRl2
                rw [← hRl2] at hin
                generalize hRR : l.map p4R = R at *
                generalize hRR2 : L2.map p4R = R2 at *
                simp -implicitDefEqProofs (disch := first | omega | (simp <;> fail) | assumption) [hH, hlt, e1, e2, e3, e4, y1, y2, hr0, hane, hal, hwa, hwg, w3D, hnp, hnz, hlt2, hin]
                exact ⟨k + 1, L2, a + 1 + n, by simp [hRR2], ⟨by omega, hsucc⟩, by omega⟩
    · obtain rfl : k = H := by omega
      generalize hRR : l.map p4R = R at *
      simp -implicitDefEqProofs (disch := first | omega | (simp <;> fail) | assumption) [hH, hlt]
      exact ⟨l, a, hr, ⟨rfl, rfl⟩, hRR.symm⟩
  have hin2 := hin ⟨[(1, wV ws), (2, .loc 2 0 0), (7, .sl 7 0 0 0), (8, i64 0), (9, i64 0)], [(2, ⟨13, [scRow s]⟩), (7, ⟨4, []⟩)]⟩ (by simp)
  simp only [Scn.cells]
  rcases hR with ⟨hr, rfl, rfl⟩ | ⟨l, a, hr, rfl, rfl⟩
  · rw [hr]
    simp -implicitDefEqProofs (disch := first | omega | (simp <;> fail) | assumption) [hin2]
  · rw [hr]
    have htc : List.take l.length (l.map p4D) = l.map p4D := List.take_of_length_le (by simp)
    simp only [← p4R_map] at hin2
    simp -implicitDefEqProofs (disch := first | omega | (simp <;> fail) | assumption) [hin2, htc]
end Go.Am
