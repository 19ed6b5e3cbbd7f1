/- Law 42: the document's rows; ReportRows. -/
import Derived.Test.YtkhbfjmckgddeaaDoorRrB
set_option linter.unusedVariables false
set_option linter.unusedSimpArgs false
set_option maxRecDepth 10000
set_option maxHeartbeats 2000000
namespace Go.Am
theorem ref42_Stats_run {Γ : Env} {M : Nat} (hM : 1000 < M) (h2 : MeanC8 (Γ 422)) (h5 : PctC (Γ 421)) (h6 : Of (Γ 6)) : StatsC (run Γ M ref42_Stats_f) := by
  intro name l hl
  have hn := hl.n
  by_cases h0 : l = []
  · subst h0
    have hst : statsT name [] = [name, [110, 47, 97], [110, 47, 97], [110, 47, 97], [110, 47, 97], [110, 47, 97]] := rfl
    rw [hst]
    simp -implicitDefEqProofs (disch := first | omega | assumption) [vR, txQ]
  · have hS := hl.sumA
    have hpos := List.length_pos_iff.2 h0
    have hd := div_in (l := l.sum) (c := l.length) hS.1 (by omega)
    obtain ⟨⟨d1, d2⟩, d3, d4⟩ := hd
    have e2 := h2 l hl h0
    have a1 := h6 (l.sum / l.length) ⟨by omega, by omega⟩
    have a2 := h6 (l.sum % l.length) ⟨by omega, by omega⟩
    have a3 := h6 l.length ⟨by omega, by omega⟩
    have l1 := txtL d1
    have l2 := txtL d3
    have l3 := txtL (n := (l.length : Int)) (by omega)
    have hms : (1000 : Nat) ≤ maxStr := by decide
    have hst : statsT name l = [name, fracT 43 (l.sum / l.length) (l.sum % l.length) l.length] ++ (pcts.map (ofP · l)).map txt := by
      unfold statsT; rw [if_neg h0]; simp [List.map_map]
    have hin0 : ∀ p ∈ pcts, 0 ≤ ofP p l ∧ ofP p l ≤ 1073741825 ∧ Γ 421 [i64 p, vI l] = some [i64 (ofP p l)] := by
      intro p hp
      have p12 : 1 ≤ p ∧ p ≤ 100 := by simp [pcts] at hp; omega
      have := hl.all _ (ofP_mem p12 h0)
      exact ⟨this.1, this.2, h5 l hl h0 p p12.1 p12.2⟩
    rw [hst]
    obtain ⟨F43, hF43⟩ : ∃ F, fracT 43 (l.sum / l.length) (l.sum % l.length) l.length = F := ⟨_, rfl⟩
    rw [hF43]
    obtain ⟨ax, s', ⟨rfl, rfl⟩, hin⟩ : ∃ ax s', (ax = .ex 0 ∧ s' = ⟨[(5, .sl 12 6 0 6)], [(12, ⟨1, txR ([name, F43] ++ (pcts.map (ofP · l)).map txt)⟩)]⟩) ∧ ∀ s0, nrm [1, 5, 9, 10] [5, 9, 12, 44, 58] s0 = ⟨[(1, vI l), (5, .sl 12 (0 + 2) 0 (0 + 2)), (9, .loc 9 0 0), (10, i64 (0 : Nat))], [(9, ⟨4, [[i64 50, i64 90, i64 95, i64 100]]⟩), (12, ⟨1, txR ([name, F43] ++ ((pcts.take 0).map (ofP · l)).map txt)⟩)]⟩ → lp (exec Γ M ref42_Stats_l1) M s0 = some (ax, s') := by
      refine lp_all (fun q : Nat => ⟨[(1, vI l), (5, .sl 12 (q + 2) 0 (q + 2)), (9, .loc 9 0 0), (10, i64 q)], [(9, ⟨4, [[i64 50, i64 90, i64 95, i64 100]]⟩), (12, ⟨1, txR ([name, F43] ++ ((pcts.take q).map (ofP · l)).map txt)⟩)]⟩) (fun q => q ≤ 4) (fun q => 4 - q) _ 0 M (by simp) (by simp) (by omega) ?_
      intro k hk
      by_cases hlt : k < 4
      · have hlt' : (k : Int) < 4 := by omega
        have hkp : k < pcts.length := hlt
        obtain ⟨p, hp⟩ : ∃ z, pcts[k]'hkp = z := ⟨_, rfl⟩
        obtain ⟨b1, b2, b3⟩ := hin0 p (hp ▸ List.getElem_mem hkp)
        have c1 := h6 (ofP p l) ⟨by omega, by omega⟩
        have hrl : (txR ([name, F43] ++ ((pcts.take k).map (ofP · l)).map txt)).length = k + 2 := by rw [txR_len]; simp [pcts]; omega
        have hrc : ∀ z, lcRows z (txR ([name, F43] ++ ((pcts.take k).map (ofP · l)).map txt)) = true := fun z => lcRows_comp z txQ _
        have hrn : ∀ z, nmRows z (txR ([name, F43] ++ ((pcts.take k).map (ofP · l)).map txt)) = true := fun z => nmRows_comp z txQ _
        have hgoal : txR ([name, F43] ++ ((pcts.take (k + 1)).map (ofP · l)).map txt) = txR ([name, F43] ++ ((pcts.take k).map (ofP · l)).map txt) ++ [[st (txt (ofP p l))]] := by rw [List.take_succ_eq_append_getElem hkp, hp, List.map_append, List.map_append, ← List.append_assoc, List.map_singleton, List.map_singleton, txR_snoc]
        have hgo : ∃ q' : Nat, (⟨[(1, vI l), (5, .sl 12 (k + 3) 0 (k + 3)), (9, .loc 9 0 0), (10, i64 ((k : Int) + 1))], [(9, ⟨4, [[i64 50, i64 90, i64 95, i64 100]]⟩), (12, ⟨1, txR ([name, F43] ++ ((pcts.take k).map (ofP · l)).map txt) ++ [[st (txt (ofP p l))]]⟩)]⟩ : St) = ⟨[(1, vI l), (5, .sl 12 (q' + 2) 0 (q' + 2)), (9, .loc 9 0 0), (10, i64 q')], [(9, ⟨4, [[i64 50, i64 90, i64 95, i64 100]]⟩), (12, ⟨1, txR ([name, F43] ++ ((pcts.take q').map (ofP · l)).map txt)⟩)]⟩ ∧ q' ≤ 4 ∧ 4 - q' < 4 - k := ⟨k + 1, by rw [← hgoal]; simp, by omega, by omega⟩
        obtain ⟨q', q1, q2, q3⟩ := hgo
        generalize txR ([name, F43] ++ ((pcts.take k).map (ofP · l)).map txt) = G at *
        have hpk : ∀ X : List AV, X = [i64 50, i64 90, i64 95, i64 100] → X[k]? = some (i64 p) := by
          rintro X rfl
          rcases k with _ | _ | _ | _ | k
          · simp [pcts] at hp; subst hp; rfl
          · simp [pcts] at hp; subst hp; rfl
          · simp [pcts] at hp; subst hp; rfl
          · simp [pcts] at hp; subst hp; rfl
          · omega
        have hpk1 := hpk _ rfl
        have hpk2 : ∀ h, ([i64 50, i64 90, i64 95, i64 100] : List AV)[k]'h = i64 p := fun h => by
          rw [List.getElem?_eq_getElem h] at hpk1; exact Option.some.inj hpk1
        simp -implicitDefEqProofs (disch := first | omega | (simp [hrl, hrc, hrn] <;> fail) | assumption) [hlt, hlt', show k ≤ 3 by omega, hpk1, hpk2, b3, c1, hrl, hrc, hrn]
        exact ⟨q', by first | (simp at q1 ⊢; exact q1) | simpa using q1, q2, q3⟩
      · obtain rfl : k = 4 := by omega
        rw [show pcts.take 4 = pcts from rfl]
        generalize txR ([name, F43] ++ (pcts.map (ofP · l)).map txt) = G at *
        simp -implicitDefEqProofs (disch := first | omega | assumption)
    have hlp := hin ⟨[(1, vI l), (5, .sl 12 2 0 2), (9, .loc 9 0 0), (10, i64 0)], [(9, ⟨4, [[i64 50, i64 90, i64 95, i64 100]]⟩), (12, ⟨1, [[st name], [st F43]]⟩)]⟩ (by simp [txR, txQ, toAV])
    have ha := allRows_comp txQ ([name, F43] ++ (pcts.map (ofP · l)).map txt)
    rw [show ([name, F43] ++ (pcts.map (ofP · l)).map txt).map (toAV ∘ txQ) = txR ([name, F43] ++ (pcts.map (ofP · l)).map txt) from rfl] at ha
    have hrl : (txR ([name, F43] ++ (pcts.map (ofP · l)).map txt)).length = 6 := by rw [txR_len]; rfl
    have hF2 : (([name, F43] ++ (pcts.map (ofP · l)).map txt).map txQ).take 6 = ([name, F43] ++ (pcts.map (ofP · l)).map txt).map txQ := by rw [List.take_of_length_le]; simp [pcts]
    simp only [vR]
    generalize txR ([name, F43] ++ (pcts.map (ofP · l)).map txt) = G at *
    generalize ([name, F43] ++ (pcts.map (ofP · l)).map txt).map txQ = X at *
    simp only [fracD] at e2
    have hln : ¬ (l.length : Int) = 0 := by omega
    unfold fracT at hF43
    by_cases c : l.sum % l.length = 0
    · rw [if_pos c] at hF43
      have c' : ¬ 0 < l.sum % l.length := by omega
      generalize l.sum / l.length = W at *
      generalize l.sum % l.length = R at *
      simp -implicitDefEqProofs (disch := first | omega | ((try simp only [List.length_append, List.length_cons, List.length_nil, maxStr_eq]); omega) | assumption) [h0, hln, e2, a1, hF43, c', hlp, ha, hrl, hF2]
    · rw [if_neg c] at hF43
      have c' : 0 < l.sum % l.length := by omega
      generalize l.sum / l.length = W at *
      generalize l.sum % l.length = R at *
      have hF44 : txt W ++ 43 :: (txt R ++ 47 :: txt (l.length : Int)) = F43 := hF43
      simp -implicitDefEqProofs (disch := first | omega | ((try simp only [List.length_append, List.length_cons, List.length_nil, maxStr_eq]); omega) | assumption) [h0, hln, e2, a1, a2, a3, hF44, c', hlp, ha, hrl, hF2, binS_add]
/-! ### Bins -/
def WithinC (g : List AV → Option (List AV)) : Prop := ∀ (b w : Int) (i : Nat) (l : List Int), Bw b w → (i : Int) < b → Ns l → g [i64 b, i64 w, i64 i, vZ l] = some [i64 (binC b w l i)]
theorem bin_iff {b w x : Int} {i : Nat} (hbw : Bw b w) (hi : (i : Int) < b) (hx : 0 ≤ x) : binOf b w x = i ↔ ((i : Int) * w ≤ x ∧ (x < (i : Int) * w + w ∨ (i : Int) = b - 1)) := by
  obtain ⟨⟨b1, b2⟩, w1, w2⟩ := hbw
  have hq : w * (x / w) + x % w = x := Int.mul_ediv_add_emod x w
  have hr0 : 0 ≤ x % w := Int.emod_nonneg _ (by omega)
  have hr1 : x % w < w := Int.emod_lt_of_pos _ (by omega)
  have key : ∀ j : Int, j * w ≤ x ↔ j ≤ x / w := fun j => by rw [Int.le_ediv_iff_mul_le (by omega)]
  have k1 := key i
  have k2 := key (i + 1)
  rw [Int.add_mul, Int.one_mul] at k2
  unfold binOf
  constructor
  · intro h
    have h1 : (i : Int) ≤ x / w := by omega
    refine ⟨k1.2 h1, ?_⟩
    by_cases c : (i : Int) = b - 1
    · exact .inr c
    · left
      have : ¬ (i : Int) + 1 ≤ x / w := by omega
      have := mt k2.1 this
      omega
  · rintro ⟨h1, h2⟩
    have h3 := k1.1 h1
    rcases h2 with h2 | h2
    · have : ¬ (i : Int) + 1 ≤ x / w := fun h => by have := k2.2 h; omega
      omega
    · omega
theorem binC_take (b w : Int) (l : List Int) (k : Nat) (h : k < l.length) (i : Nat) : binC b w (l.take (k + 1)) i = binC b w (l.take k) i + if binOf b w l[k] = i then 1 else 0 := by
  rw [List.take_succ_eq_append_getElem h, binC_snoc]
theorem ref42_within_run (Γ : Env) (M : Nat) (hM : 1000 < M) : WithinC (run Γ M ref42_within_f) := by
  intro b w i l hbw hi hl
  have hn := hl.n
  obtain ⟨⟨m1, m2⟩, m3, m4⟩ := edge_in hbw hi
  have hbd := hbw.b
  have hwd := hbw.w
  obtain ⟨ax, s', ⟨rfl, rfl⟩, hin⟩ : ∃ ax s', (ax = .ex 0 ∧ s' = ⟨[(9, i64 (binC b w l i))], []⟩) ∧ ∀ s0, nrm [0, 1, 2, 3, 9, 10] [] s0 = ⟨[(0, i64 b), (1, i64 w), (2, i64 i), (3, vZ l), (9, i64 (binC b w (l.take 0) i)), (10, i64 (0 : Nat))], []⟩ → lp (exec Γ M ref42_within_l1) M s0 = some (ax, s') := by
    refine lp_all (fun q : Nat => ⟨[(0, i64 b), (1, i64 w), (2, i64 i), (3, vZ l), (9, i64 (binC b w (l.take q) i)), (10, i64 q)], []⟩) (fun q => q ≤ l.length) (fun q => l.length - q) _ 0 M (by simp) (by simp) (by omega) ?_
    intro k hk
    by_cases hlt : k < l.length
    · obtain ⟨x, hx⟩ : ∃ z, l[k]'hlt = z := ⟨_, rfl⟩
      have hxb := hl.all x (hx ▸ List.getElem_mem hlt)
      have hs := binC_take b w l k hlt i
      rw [hx] at hs
      have hiff := bin_iff hbw hi hxb.1
      have hc := binC_le b w (l.take k) i
      rw [List.length_take] at hc
      generalize binC b w (l.take k) i = C at *
      obtain ⟨P, hP⟩ : ∃ P, (i : Int) * w = P := ⟨_, rfl⟩
      rw [hP] at m1 m2 hiff
      by_cases c1 : P ≤ x
      · by_cases c2 : x < P + w
        · rw [if_pos (hiff.2 ⟨c1, .inl c2⟩)] at hs
          simp -implicitDefEqProofs (disch := first | omega | assumption) [hlt, hx, numQ, hP, c1, c2]
          exact ⟨k + 1, by omega, by omega, by omega⟩
        · by_cases c3 : (i : Int) = b - 1
          · rw [if_pos (hiff.2 ⟨c1, .inr c3⟩)] at hs
            have c3' : (decide ((i : Int) = b - 1)) = true := decide_eq_true c3
            simp -implicitDefEqProofs (disch := first | omega | assumption) [hlt, hx, numQ, hP, c1, c2, c3']
            exact ⟨k + 1, by omega, by omega, by omega⟩
          · rw [if_neg fun h => by rcases (hiff.1 h).2 with h | h; exact c2 h; exact c3 h] at hs
            simp -implicitDefEqProofs (disch := first | omega | assumption) [hlt, hx, numQ, hP, c1, c2, c3]
            exact ⟨k + 1, by omega, by omega, by omega⟩
      · rw [if_neg fun h => c1 (hiff.1 h).1] at hs
        simp -implicitDefEqProofs (disch := first | omega | assumption) [hlt, hx, numQ, hP, c1]
        exact ⟨k + 1, by omega, by omega, by omega⟩
    · obtain rfl : k = l.length := by omega
      rw [List.take_length]
      simp -implicitDefEqProofs (disch := first | omega | assumption)
  have hlp := hin ⟨[(0, i64 b), (1, i64 w), (2, i64 i), (3, vZ l), (9, i64 0), (10, i64 0)], []⟩ (by simp [binC])
  simp -implicitDefEqProofs (disch := first | omega | assumption) [hlp]
theorem ref42_Bins_run {Γ : Env} {M : Nat} (hM : 1000 < M) (h1 : WithinC (Γ 441)) (h3 : Of (Γ 6)) : BinsC (run Γ M ref42_Bins_f) := by
  intro b w l m hbw hl hm
  obtain ⟨N, hN⟩ : ∃ N, b.toNat = N := ⟨_, rfl⟩
  have hb := hbw.b
  have hbN : b = (N : Int) := by omega
  have hln := hl.n
  have hmn := hm.n
  rw [hN]
  obtain ⟨ax, s', ⟨rfl, rfl⟩, hin⟩ : ∃ ax s', (ax = .ex 0 ∧ s' = ⟨[(9, .sl 13 (N + 1) 0 (N + 1))], [(13, ⟨1, trM (tabRb b w l m N)⟩)]⟩) ∧ ∀ s0, nrm [0, 1, 2, 3, 9, 10] [9, 13, 55] s0 = ⟨[(0, i64 b), (1, i64 w), (2, vZ l), (3, vZ m), (9, .sl 13 (0 + 1) 0 (0 + 1)), (10, i64 (0 : Nat))], [(13, ⟨1, trM (tabRb b w l m 0)⟩)]⟩ → lp (exec Γ M ref42_Bins_l1) M s0 = some (ax, s') := by
    refine lp_all (fun q : Nat => ⟨[(0, i64 b), (1, i64 w), (2, vZ l), (3, vZ m), (9, .sl 13 (q + 1) 0 (q + 1)), (10, i64 q)], [(13, ⟨1, trM (tabRb b w l m q)⟩)]⟩) (fun q => q ≤ N) (fun q => N - q) _ 0 M (by simp) (by simp) (by omega) ?_
    intro k hk
    by_cases hlt : k < N
    · have hkb : (k : Int) < b := by omega
      obtain ⟨⟨m1, m2⟩, m3, m4⟩ := edge_in hbw hkb
      have h3w : ((k : Int) + 1) * w = k * w + w := by rw [Int.add_mul]; simp
      have a0 := h3 ((k : Int) * w) ⟨by omega, by omega⟩
      have a00 := h3 ((k : Int) * w + w - 1) ⟨by omega, by omega⟩
      have b1 := h1 b w k l hbw hkb hl
      have b2 := h1 b w k m hbw hkb hm
      have c1 := binC_le b w l k
      have c2 := binC_le b w m k
      have a2 := h3 (binC b w l k) ⟨by omega, by omega⟩
      have a3 := h3 (binC b w m k) ⟨by omega, by omega⟩
      have l0 := txtL m1
      have l00 := txtL (n := (k : Int) * w + w - 1) (by omega)
      have hms : (1000 : Nat) ≤ maxStr := by decide
      have hrl := trM_len (tabRb b w l m k)
      rw [tabRb_len] at hrl
      have hrn : ∀ z, nmRows z (trM (tabRb b w l m k)) = true := fun z => nmRows_comp z rowQ _
      have hrc : ∀ z, lcRows z (trM (tabRb b w l m k)) = true := fun z => lcRows_comp z rowQ _
      have hgoal : trM (tabRb b w l m (k + 1)) = trM (tabRb b w l m k) ++ [[vR [edgeT b w k, txt (binC b w l k), txt (binC b w m k)]]] := by rw [tabRb_snoc, trM_snoc]; rfl
      unfold edgeT at hgoal
      rw [h3w] at hgoal
      generalize trM (tabRb b w l m k) = G at *
      generalize binC b w l k = c3 at *
      generalize binC b w m k = c4 at *
      have hbw0 := hbw.w
      obtain ⟨P, hP⟩ : ∃ P, (k : Int) * w = P := ⟨_, rfl⟩
      rw [hP] at m1 m2 a0 a00 l0 l00 hgoal
      by_cases c : (k : Int) = b - 1
      · rw [if_pos c] at hgoal
        have c' : (decide ((k : Int) = b - 1)) = true := decide_eq_true c
        generalize txt P = T at *
        simp -implicitDefEqProofs (disch := first | omega | (simp [hrl, hrc, hrn] <;> fail) | ((try simp only [List.length_append, List.length_cons, List.length_nil, maxStr_eq]); omega) | assumption) [hkb, hP, c', a0, b1, b2, a2, a3, hrl, hrc, hrn, binS_add]
        exact ⟨k + 1, ⟨⟨by omega, by omega⟩, hgoal.symm⟩, by omega, by omega⟩
      · rw [if_neg c] at hgoal
        generalize txt P = T at *
        generalize txt (P + w - 1) = T2 at *
        simp -implicitDefEqProofs (disch := first | omega | (simp [hrl, hrc, hrn] <;> fail) | ((try simp only [List.length_append, List.length_cons, List.length_nil, maxStr_eq]); omega) | assumption) [hkb, hP, c, a0, a00, b1, b2, a2, a3, hrl, hrc, hrn, binS_add]
        exact ⟨k + 1, ⟨⟨by omega, by omega⟩, hgoal.symm⟩, by omega, by omega⟩
    · obtain rfl : N = k := by omega
      have hkb : ¬ (N : Int) < b := by omega
      simp -implicitDefEqProofs (disch := first | omega | assumption) [hkb]
  have hlp := hin ⟨[(0, i64 b), (1, i64 w), (2, vZ l), (3, vZ m), (9, .sl 13 1 0 1), (10, i64 0)], [(13, ⟨1, [[vR headRb]]⟩)]⟩ (by simp [tabRb, trM, rowQ, toAV])
  simp only [vR, headRb, List.map_cons, List.map_nil, txQ] at hlp
  have ha := allRows_comp rowQ (tabRb b w l m N)
  have hrl := trM_len (tabRb b w l m N)
  rw [tabRb_len] at hrl
  have hF2 : ((tabRb b w l m N).map rowQ).take (N + 1) = (tabRb b w l m N).map rowQ := by rw [List.take_of_length_le]; rw [List.length_map, tabRb_len]; omega
  rw [show (tabRb b w l m N).map (toAV ∘ rowQ) = trM (tabRb b w l m N) from rfl] at ha
  generalize trM (tabRb b w l m N) = G at *
  simp only [vRs]
  generalize (tabRb b w l m N).map rowQ = K at *
  simp -implicitDefEqProofs (disch := first | omega | assumption) [hlp, ha, hrl, hF2]
/-! ### The law -/
def SameC42 (g : List AV → Option (List AV)) : Prop := ∀ rs : List TRow, rs.length ≤ 100 → (∀ r ∈ rs, r.length ≤ 100) → g [vRs rs, vRs rs] = some [bo true]
theorem law42_same_run {Γ : Env} {M : Nat} (hM : 1000 < M) (hE : EqR (Γ 118)) : SameC42 (run Γ M law42_same_f) := by
  intro rs hn hr
  obtain ⟨ax, s', ⟨rfl, rfl⟩, hin⟩ : ∃ ax s', (ax = .ex 0 ∧ s' = ⟨[], []⟩) ∧ ∀ s0, nrm [0, 1, 5] [] s0 = ⟨[(0, vRs rs), (1, vRs rs), (5, i64 (0 : Nat))], []⟩ → lp (exec Γ M law42_same_l1) M s0 = some (ax, s') := by
    refine lp_all (fun q : Nat => ⟨[(0, vRs rs), (1, vRs rs), (5, i64 q)], []⟩) (fun q => q ≤ rs.length) (fun q => rs.length - q) _ 0 M (by simp) (by simp) (by omega) ?_
    intro k hk
    by_cases hlt : k < rs.length
    · obtain ⟨r, hrr⟩ : ∃ z, rs[k]'hlt = z := ⟨_, rfl⟩
      have e := hE r (by have := hr r (hrr ▸ List.getElem_mem hlt); omega)
      simp -implicitDefEqProofs (disch := first | omega | assumption) [hlt, hrr, rowQ, e]
      exact ⟨k + 1, by omega, by omega, by omega⟩
    · obtain rfl : k = rs.length := by omega
      simp -implicitDefEqProofs (disch := first | omega | assumption)
  have hlp := hin ⟨[(0, vRs rs), (1, vRs rs), (5, i64 0)], []⟩ (by simp)
  simp -implicitDefEqProofs (disch := first | omega | assumption) [hlp]
theorem ReportRows_run {Γ : Env} {M : Nat} (ha : Γ 426 [] = some [bo true]) (h1 : GreatC42 (Γ 432)) (h2 : StatsC (Γ 429)) (h3 : StatsC (Γ 430)) (h4 : EqR (Γ 118)) (h5 : BinsC (Γ 431)) (h6 : BinsC (Γ 428)) (h7 : SameC42 (Γ 427)) (l m : List Int) (b w : Int) (hb : InI64 b) (hw : InI64 w) :
    run Γ M law42_ReportRows_f [vZ l, vZ m, .agg [.int .i64 b, .int .i64 w]] = some [bo true] := by
  obtain ⟨g1, e1, hl⟩ := h1 l
  obtain ⟨g2, e2, hm⟩ := h1 m
  cases g1 with
  | true => simp -implicitDefEqProofs (disch := first | omega | assumption) [e1]
  | false =>
  cases g2 with
  | true => simp -implicitDefEqProofs (disch := first | omega | assumption) [e1, e2]
  | false =>
  by_cases c1 : b < 1
  · simp -implicitDefEqProofs (disch := first | omega | assumption) [e1, e2, c1]
  by_cases c2 : 64 < b
  · simp -implicitDefEqProofs (disch := first | omega | assumption) [e1, e2, c1, c2]
  by_cases c3 : w < 1
  · simp -implicitDefEqProofs (disch := first | omega | assumption) [e1, e2, c1, c2, c3]
  by_cases c4 : 4096 < w
  · simp -implicitDefEqProofs (disch := first | omega | assumption) [e1, e2, c1, c2, c3, c4]
  have hl := hl rfl
  have hm := hm rfl
  have hbw : Bw b w := ⟨⟨by omega, by omega⟩, by omega, by omega⟩
  have hwg : Wg l := ⟨hl.n, fun x hx => by have := hl.all x hx; omega⟩
  have e3 : Γ 429 [st [120], vZ l] = some [vR (statsT [120] l)] := h2 [120] l hwg
  have e4 : Γ 430 [st [120], vZ l] = some [vR (statsT [120] l)] := h3 [120] l hwg
  have hsl : (statsT [120] l).length = 6 := by unfold statsT; split <;> simp [pcts]
  have e5 := h4 (statsT [120] l) (by omega)
  have e6 := h5 b w l m hbw hl hm
  have e7 := h6 b w l m hbw hl hm
  have hbt : b.toNat ≤ 64 := by omega
  have e8 := h7 (tabRb b w l m b.toNat) (by rw [tabRb_len]; omega) (fun r hr => by
    unfold tabRb at hr
    rw [List.mem_cons] at hr
    rcases hr with rfl | hr
    · decide
    · obtain ⟨i, -, rfl⟩ := List.mem_map.1 hr
      simp [rowRb])
  generalize statsT [120] l = S at *
  generalize tabRb b w l m b.toNat = T at *
  simp -implicitDefEqProofs (disch := first | omega | assumption) [e1, e2, c1, c2, c3, c4, e3, e4, e5, e6, e7, e8, ha]
/-! ### ReplaceAll and the sort of numbers, from outside -/
def rpX : Env := ⟨fun f ds => if f = 438 then repS ds else none, fun f s => if f = 290 then sortPt s else none, fun _ _ => none⟩
theorem rpX_fn : rpX 438 = repS := by funext s; simp [rpX]
theorem rpX_pt : rpX.pt 290 = sortPt := by funext s; simp [rpX]
theorem rpX_ok {P : Go.Program} {nm : Nat → Option Nat} {T : Tab} {τ : Go.Shelf.Ren} {g : Nat} (L : Go.Proofs.Lays.n189 P τ) (h : nm 290 = some (τ.f 189)) (hr : nm 438 = some g) (hS : Spec P g repS) : XOk P nm T rpX where
  fn := fun f k hg _ => by
    by_cases hf : f = 438
    · subst hf
      rw [hr] at hg; simp only [Option.some.injEq] at hg; subst hg
      rw [rpX_fn]; exact hS
    · intro F w ds vs rs _ _ h
      simp [rpX, hf] at h
  pt := fun f g hg _ => by
    by_cases hf : f = 290
    · subst hf
      rw [h] at hg
      simp only [Option.some.injEq] at hg
      subst hg
      rw [rpX_pt]; exact sort_specP L
    · have : rpX.pt f = fun _ => none := by funext s; simp [rpX, hf]
      rw [this]; exact SpecP.none
  mono := fun f s rs ob R hR h => by
    by_cases hf : f = 290
    · subst hf
      rw [rpX_pt] at h ⊢
      exact sort_mono s rs ob R hR h
    · simp [rpX, hf] at h
theorem env_rp {T : Tab} {V : List (Nat × Nat)} {M n : Nat} (h : get T 438 = none) : RepC (env T V rpX M n 438) := by
  have : env T V rpX M n 438 = repS := by
    rw [← rpX_fn]
    funext s
    cases n <;> simp [env, envFn, h]
  rw [this]; exact repS_C
theorem env_rs {T : Tab} {V : List (Nat × Nat)} {M n : Nat} (h : get T 290 = none) : (env T V rpX M n).pt 290 = sortPt := by
  rw [← rpX_pt]
  funext s
  cases n <;> simp [env, envPt, h]
end Go.Am
