/- Law 42: a row of means and percentiles, by the program and by the document. -/
import Derived.Test.YtkhbfjmckgddeaaDoorRrA
import Derived.Test.YtkhbfjmckgddeaaDoorRep
set_option linter.unusedVariables false
set_option linter.unusedSimpArgs false
set_option maxRecDepth 10000
set_option maxHeartbeats 2000000
namespace Go.Am
def nA : List UInt8 := [110, 47, 97]
/-- A quotient's text, with 'sep' between the whole and what is left. -/
def fracT (sep : UInt8) (w r b : Int) : List UInt8 := if r = 0 then txt w else txt w ++ sep :: (txt r ++ 47 :: txt b)
def FTxtC (g : List AV → Option (List AV)) : Prop := ∀ w r b : Int, 0 ≤ w → w ≤ 1099511627776 → 0 ≤ r → r ≤ 1099511627776 → 0 ≤ b → b ≤ 1099511627776 → g [.agg (fracD w r b)] = some [st (fracT 32 w r b)]
theorem frac_Text_run {Γ : Env} {M : Nat} (h : Of (Γ 50)) : FTxtC (run Γ M frac_Text_f) := by
  intro w r b hw0 hw hr0 hr hb0 hb
  have e1 := h w ⟨by omega, by omega⟩
  have e2 := h r ⟨by omega, by omega⟩
  have e3 := h b ⟨by omega, by omega⟩
  have l1 := txtL hw0
  have l2 := txtL hr0
  have l3 := txtL hb0
  have hms : (1000 : Nat) ≤ maxStr := by decide
  unfold fracT
  generalize txt w = A at *
  generalize txt r = B at *
  generalize txt b = C at *
  by_cases c : r = 0
  · simp -implicitDefEqProofs (disch := first | omega | ((try simp only [List.length_append, List.length_cons, List.length_nil, maxStr_eq]); omega) | assumption) [fracD, e1, c]
  · simp -implicitDefEqProofs (disch := first | omega | ((try simp only [List.length_append, List.length_cons, List.length_nil, maxStr_eq]); omega) | assumption) [fracD, e1, e2, e3, c, binS_add]
def RanksC (g : List AV → Option (List AV)) : Prop := g [] = some [vI [50, 90, 95, 100]]
theorem report_ranks_run (Γ : Env) (M : Nat) : RanksC (run Γ M report_ranks_f) := by
  unfold RanksC
  simp -implicitDefEqProofs (disch := omega) [vI, intD]
def RepC (g : List AV → Option (List AV)) : Prop := ∀ s : List UInt8, s.length ≤ 1000 → g [st s, st [32], st [43]] = some [st (Go.Lib.replaceAll s [32] [43])]
theorem repS_C : RepC repS := fun s hs => by simp only [repS, hs, if_true]
theorem rep_frac {w r b : Int} (hw : 0 ≤ w) (hr : 0 ≤ r) (hb : 0 ≤ b) : Go.Lib.replaceAll (fracT 32 w r b) [32] [43] = fracT 43 w r b := by
  have h1 := (txt_word hw).2
  have h2 := (txt_word hr).2
  have h3 := (txt_word hb).2
  unfold fracT
  split
  · exact rep_none h1
  · exact rep_one h1 (by simp [h2, h3])
def pcts : List Int := [50, 90, 95, 100]
def statsT (name : List UInt8) (l : List Int) : TRow := if l = [] then [name, nA, nA, nA, nA, nA] else name :: fracT 43 (l.sum / l.length) (l.sum % l.length) l.length :: pcts.map fun p => txt (ofP p l)
def StatsC (g : List AV → Option (List AV)) : Prop := ∀ (name : List UInt8) (l : List Int), Wg l → g [st name, vI l] = some [vR (statsT name l)]
def txR (r : TRow) : Rows := r.map (toAV ∘ txQ)
theorem txR_len (r : TRow) : (txR r).length = r.length := by simp [txR]
theorem txR_snoc (r : TRow) (s : List UInt8) : txR (r ++ [s]) = txR r ++ [[st s]] := by simp [txR, txQ, toAV]
theorem report_Stats_run {Γ : Env} {M : Nat} (hM : 1000 < M) (h1 : RanksC (Γ 436)) (h2 : MeanC8 (Γ 420)) (h3 : FTxtC (Γ 437)) (h4 : RepC (Γ 438)) (h5 : ManyC (Γ 259)) (h6 : Of (Γ 50)) : StatsC (run Γ M report_Stats_f) := by
  intro name l hl
  have hn := hl.n
  unfold RanksC at h1
  by_cases h0 : l = []
  · subst h0
    have hst : statsT name [] = [name] ++ List.replicate 5 nA := rfl
    obtain ⟨ax, s', ⟨rfl, rfl⟩, hin⟩ : ∃ ax s', (ax = .ex 0 ∧ s' = ⟨[(5, .sl 13 6 0 6)], [(13, ⟨1, txR ([name] ++ List.replicate 5 nA)⟩)]⟩) ∧ ∀ s0, nrm [5, 19, 20] [5, 13, 24, 37, 54] s0 = ⟨[(5, .sl 13 (0 + 1) 0 (0 + 1)), (19, i64 5), (20, i64 (0 : Nat))], [(13, ⟨1, txR ([name] ++ List.replicate 0 nA)⟩)]⟩ → lp (exec Γ M report_Stats_l2) M s0 = some (ax, s') := by
      refine lp_all (fun q : Nat => ⟨[(5, .sl 13 (q + 1) 0 (q + 1)), (19, i64 5), (20, i64 q)], [(13, ⟨1, txR ([name] ++ List.replicate q nA)⟩)]⟩) (fun q => q ≤ 5) (fun q => 5 - q) _ 0 M (by simp) (by simp) (by omega) ?_
      intro k hk
      by_cases hlt : k < 5
      · have hlt' : (k : Int) < 5 := by omega
        have hrl : (txR ([name] ++ List.replicate k nA)).length = k + 1 := by rw [txR_len]; simp
        have hrc : ∀ z, lcRows z (txR ([name] ++ List.replicate k nA)) = true := fun z => lcRows_comp z txQ _
        have hrn : ∀ z, nmRows z (txR ([name] ++ List.replicate k nA)) = true := fun z => nmRows_comp z txQ _
        have hgoal : txR ([name] ++ List.replicate (k + 1) nA) = txR ([name] ++ List.replicate k nA) ++ [[st nA]] := by rw [List.replicate_succ', ← List.append_assoc, txR_snoc]
        rw [show nA = [110, 47, 97] from rfl] at hgoal hrl hrc hrn ⊢
        generalize txR ([name] ++ List.replicate k [110, 47, 97]) = G at *
        simp -implicitDefEqProofs (disch := first | omega | (simp [hrl, hrc, hrn] <;> fail) | assumption) [hlt', hrl, hrc, hrn]
        exact ⟨k + 1, ⟨⟨by omega, by omega⟩, by rw [← hgoal]; simp⟩, by omega, by omega⟩
      · obtain rfl : k = 5 := by omega
        generalize txR ([name] ++ List.replicate 5 nA) = G at *
        simp -implicitDefEqProofs (disch := first | omega | assumption)
    have hlp := hin ⟨[(5, .sl 13 1 0 1), (19, i64 5), (20, i64 0)], [(13, ⟨1, [[st name]]⟩)]⟩ (by simp [txR, txQ, toAV])
    rw [hst]
    have ha := allRows_comp txQ ([name] ++ List.replicate 5 nA)
    rw [show ([name] ++ List.replicate 5 nA).map (toAV ∘ txQ) = txR ([name] ++ List.replicate 5 nA) from rfl] at ha
    have hrl : (txR ([name] ++ List.replicate 5 nA)).length = 6 := rfl
    have hF2 : (([name] ++ List.replicate 5 nA).map txQ).take 6 = ([name] ++ List.replicate 5 nA).map txQ := rfl
    simp only [vR]
    generalize txR ([name] ++ List.replicate 5 nA) = G at *
    generalize ([name] ++ List.replicate 5 nA).map txQ = X at *
    simp only [vI, List.map_cons, List.map_nil, intD] at h1
    simp -implicitDefEqProofs (disch := first | omega | assumption) [vI, h1, hlp, ha, hrl, hF2]
  · have hS := hl.sumA
    have hpos := List.length_pos_iff.2 h0
    have hd := div_in (l := l.sum) (c := l.length) hS.1 (by omega)
    obtain ⟨⟨d1, d2⟩, d3, d4⟩ := hd
    have e2 := h2 l hl h0
    have e3 := h3 (l.sum / l.length) (l.sum % l.length) l.length d1 (by omega) d3 (by omega) (by omega) (by omega)
    have hlen : (fracT 32 (l.sum / l.length) (l.sum % l.length) l.length).length ≤ 1000 := by
      have l1 := txtL d1
      have l2 := txtL d3
      have l3 := txtL (n := (l.length : Int)) (by omega)
      unfold fracT
      split
      · omega
      · simp only [List.length_append, List.length_cons]; omega
    have e4 := h4 _ hlen
    rw [rep_frac d1 d3 (by omega)] at e4
    have hI : AllI [50, 90, 95, 100] := by intro z hz; simp at hz; rcases hz with rfl | rfl | rfl | rfl <;> exact ⟨by omega, by omega⟩
    have hgp : goodP [50, 90, 95, 100] l := by intro p hp; simp at hp; rcases hp with rfl | rfl | rfl | rfl <;> exact ⟨by omega, by omega, h0⟩
    have e5 : Γ 259 [vI [50, 90, 95, 100], vI l] = some [vI (pcts.map (ofP · l)), i64 0] := by
      rcases h5 [50, 90, 95, 100] l hI (by simp) (by omega) with ⟨-, h⟩ | ⟨h, -⟩
      · exact h
      · exact absurd hgp h
    have hst : statsT name l = [name, fracT 43 (l.sum / l.length) (l.sum % l.length) l.length] ++ (pcts.map (ofP · l)).map txt := by
      unfold statsT; rw [if_neg h0]; simp [List.map_map]
    have hin0 : ∀ x ∈ pcts.map (ofP · l), 0 ≤ x ∧ x ≤ 1073741825 := by
      intro x hx
      obtain ⟨p, hp, rfl⟩ := List.mem_map.1 hx
      obtain ⟨p1, p2, -⟩ := hgp p (by simpa [pcts] using hp)
      exact hl.all _ (ofP_mem ⟨p1, p2⟩ h0)
    have hQl : (pcts.map (ofP · l)).length = 4 := rfl
    rw [hst]
    generalize fracT 43 (l.sum / l.length) (l.sum % l.length) l.length = F43 at *
    generalize fracT 32 (l.sum / l.length) (l.sum % l.length) l.length = F32 at *
    generalize pcts.map (ofP · l) = Q at *
    obtain ⟨ax, s', ⟨rfl, rfl⟩, hin⟩ : ∃ ax s', (ax = .ex 2 ∧ s' = ⟨[(5, .sl 13 6 0 6)], [(13, ⟨1, txR ([name, F43] ++ Q.map txt)⟩)]⟩) ∧ ∀ s0, nrm [5, 44, 45, 46] [5, 13, 24, 37, 54] s0 = ⟨[(5, .sl 13 (0 + 2) 0 (0 + 2)), (44, vI Q), (45, i64 4), (46, i64 (0 : Nat))], [(13, ⟨1, txR ([name, F43] ++ (Q.take 0).map txt)⟩)]⟩ → lp (exec Γ M report_Stats_l1) M s0 = some (ax, s') := by
      refine lp_all (fun q : Nat => ⟨[(5, .sl 13 (q + 2) 0 (q + 2)), (44, vI Q), (45, i64 4), (46, i64 q)], [(13, ⟨1, txR ([name, F43] ++ (Q.take q).map txt)⟩)]⟩) (fun q => q ≤ 4) (fun q => 4 - q) _ 0 M (by simp) (by simp) (by omega) ?_
      intro k hk
      by_cases hlt : k < 4
      · have hlt' : (k : Int) < 4 := by omega
        have hkQ : k < Q.length := by omega
        obtain ⟨x, hx⟩ : ∃ z, Q[k]'hkQ = z := ⟨_, rfl⟩
        have hxb := hin0 x (hx ▸ List.getElem_mem hkQ)
        have a1 := h6 x ⟨by omega, by omega⟩
        have hrl : (txR ([name, F43] ++ (Q.take k).map txt)).length = k + 2 := by rw [txR_len]; simp; omega
        have hrc : ∀ z, lcRows z (txR ([name, F43] ++ (Q.take k).map txt)) = true := fun z => lcRows_comp z txQ _
        have hrn : ∀ z, nmRows z (txR ([name, F43] ++ (Q.take k).map txt)) = true := fun z => nmRows_comp z txQ _
        have hgoal : txR ([name, F43] ++ (Q.take (k + 1)).map txt) = txR ([name, F43] ++ (Q.take k).map txt) ++ [[st (txt x)]] := by rw [List.take_succ_eq_append_getElem hkQ, hx, List.map_append, ← List.append_assoc, List.map_singleton, txR_snoc]
        have hgo : ∃ q' : Nat, (⟨[(5, .sl 13 (k + 3) 0 (k + 3)), (44, vI Q), (45, i64 4), (46, i64 ((k : Int) + 1))], [(13, ⟨1, txR ([name, F43] ++ (Q.take k).map txt) ++ [[st (txt x)]]⟩)]⟩ : St) = ⟨[(5, .sl 13 (q' + 2) 0 (q' + 2)), (44, vI Q), (45, i64 4), (46, i64 q')], [(13, ⟨1, txR ([name, F43] ++ (Q.take q').map txt)⟩)]⟩ ∧ q' ≤ 4 ∧ 4 - q' < 4 - k := ⟨k + 1, by rw [← hgoal]; simp, by omega, by omega⟩
        obtain ⟨q', q1, q2, q3⟩ := hgo
        generalize txR ([name, F43] ++ (Q.take k).map txt) = G at *
        simp -implicitDefEqProofs (disch := first | omega | (simp [hrl, hrc, hrn] <;> fail) | assumption) [hlt', hkQ, hx, intD, a1, hrl, hrc, hrn]
        exact ⟨q', by first | (simp at q1 ⊢; exact q1) | simpa using q1, q2, q3⟩
      · obtain rfl : k = 4 := by omega
        rw [show Q.take 4 = Q by rw [← hQl, List.take_length]]
        generalize txR ([name, F43] ++ Q.map txt) = G at *
        simp -implicitDefEqProofs (disch := first | omega | assumption)
    have hlp := hin ⟨[(5, .sl 13 2 0 2), (44, vI Q), (45, i64 4), (46, i64 0)], [(13, ⟨1, [[st name], [st F43]]⟩)]⟩ (by simp [txR, txQ, toAV])
    have ha := allRows_comp txQ ([name, F43] ++ Q.map txt)
    rw [show ([name, F43] ++ Q.map txt).map (toAV ∘ txQ) = txR ([name, F43] ++ Q.map txt) from rfl] at ha
    have hrl : (txR ([name, F43] ++ Q.map txt)).length = 6 := by rw [txR_len]; simp [hQl]
    have hF2 : (([name, F43] ++ Q.map txt).map txQ).take 6 = ([name, F43] ++ Q.map txt).map txQ := by rw [List.take_of_length_le]; simp [hQl]
    simp only [vR]
    generalize txR ([name, F43] ++ Q.map txt) = G at *
    generalize ([name, F43] ++ Q.map txt).map txQ = X at *
    simp only [fracD] at e2 e3
    have hln : ¬ (l.length : Int) = 0 := by omega
    have e5' : Γ 259 [.c (.vs 1 [[.int .i64 50], [.int .i64 90], [.int .i64 95], [.int .i64 100]]), vI l] = some [vI Q, i64 0] := e5
    have h1' : Γ 436 [] = some [.c (.vs 1 [[.int .i64 50], [.int .i64 90], [.int .i64 95], [.int .i64 100]])] := h1
    have hQl' : (Q.map intD).length = 4 := by rw [List.length_map, hQl]
    simp -implicitDefEqProofs (disch := first | omega | assumption) [h0, hln, e2, e3, e4, h1', e5', hQl, hQl', hlp, ha, hrl, hF2]
end Go.Am
