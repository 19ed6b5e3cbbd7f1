/- Law 42: bins by the program; ReportBins. -/
import Derived.Test.YtkhbfjmckgddeaaDoorRbCode
import Derived.Test.YtkhbfjmckgddeaaDoorRbP
import Derived.Test.YtkhbfjmckgddeaaDoorNum
set_option linter.unusedVariables false
set_option linter.unusedSimpArgs false
set_option maxRecDepth 10000
set_option maxHeartbeats 1000000
namespace Go.Am
abbrev vZ (l : List Int) : AV := .c (.vs 1 (l.map numQ))
def iR (l : List Int) : Rows := l.map (toAV ∘ numQ)
theorem iR_len (l : List Int) : (iR l).length = l.length := by simp [iR]
theorem iR_set (l : List Int) (j : Nat) (z : Int) : iR (l.set j z) = (iR l).set j [i64 z] := by
  unfold iR; rw [List.map_set]; rfl
structure Ns (l : List Int) : Prop where
  n : l.length ≤ 100
  all : ∀ x ∈ l, 0 ≤ x ∧ x ≤ 1073741824
structure Bw (b w : Int) : Prop where
  b : 1 ≤ b ∧ b ≤ 64
  w : 1 ≤ w ∧ w ≤ 4096
def GreatC42 (g : List AV → Option (List AV)) : Prop := ∀ l : List Int, ∃ b, g [vZ l] = some [bo b] ∧ (b = false → Ns l)
theorem law42_great_run (Γ : Env) (M : Nat) (hM : 1000 < M) : GreatC42 (run Γ M law42_great_f) := by
  intro l
  by_cases c : 100 < l.length
  · have c' : 100 < (l.length : Int) := by omega
    exact ⟨true, by simp -implicitDefEqProofs (disch := first | omega | assumption) [c, c'], by simp⟩
  have c' : ¬ 100 < (l.length : Int) := by omega
  obtain ⟨ax, s', hR, hin⟩ : ∃ ax s', ((ax = .ex 0 ∧ s' = ⟨[], []⟩ ∧ ∀ x ∈ l, 0 ≤ x ∧ x ≤ 1073741824) ∨ (ax = .ret ∧ s' = ⟨[(2, bo true)], []⟩)) ∧ ∀ s0, nrm [0, 3] [] s0 = ⟨[(0, vZ l), (3, i64 (0 : Nat))], []⟩ → lp (exec Γ M law42_great_l1) M s0 = some (ax, s') := by
    refine lp_all (fun q : Nat => ⟨[(0, vZ l), (3, i64 q)], []⟩) (fun q => q ≤ l.length ∧ ∀ x ∈ l.take q, 0 ≤ x ∧ x ≤ 1073741824) (fun q => l.length - q) _ 0 M (by simp) ⟨by simp, by simp⟩ (by omega) ?_
    rintro k ⟨hk, hq⟩
    by_cases hlt : k < l.length
    · obtain ⟨t, ht⟩ : ∃ w, l[k]'hlt = w := ⟨_, rfl⟩
      have hnext : 0 ≤ t ∧ t ≤ 1073741824 → ∀ x ∈ l.take (k + 1), 0 ≤ x ∧ x ≤ 1073741824 := by
        intro h x hx
        rw [List.take_succ_eq_append_getElem hlt, ht, List.mem_append] at hx
        rcases hx with hx | hx
        · exact hq x hx
        · rw [List.mem_singleton] at hx; exact hx ▸ h
      by_cases c1 : t < 0
      · simp -implicitDefEqProofs (disch := first | omega | assumption) [hlt, ht, numQ, c1]
      by_cases c2 : 1073741824 < t
      · simp -implicitDefEqProofs (disch := first | omega | assumption) [hlt, ht, numQ, c1, c2]
      · have hn := hnext ⟨by omega, by omega⟩
        simp -implicitDefEqProofs (disch := first | omega | assumption) [hlt, ht, numQ, c1, c2]
        exact ⟨k + 1, by omega, ⟨by omega, hn⟩, by omega⟩
    · obtain rfl : k = l.length := by omega
      rw [List.take_length] at hq
      simp -implicitDefEqProofs (disch := first | omega | assumption)
      exact hq
  rcases hR with ⟨rfl, rfl, hok⟩ | ⟨rfl, rfl⟩
  · exact ⟨false, by simp -implicitDefEqProofs (disch := first | omega | (simp <;> fail) | assumption) [c, c', hin], fun _ => ⟨by omega, hok⟩⟩
  · exact ⟨true, by simp -implicitDefEqProofs (disch := first | omega | (simp <;> fail) | assumption) [c, c', hin], by simp⟩
def HRightC (g : List AV → Option (List AV)) : Prop := ∀ b w : Int, Bw b w → g [i64 b, i64 w] = some [bo true]
theorem hist_Right_run (Γ : Env) (M : Nat) : HRightC (run Γ M hist_Right_f) := by
  rintro b w ⟨⟨h1, h2⟩, h3, h4⟩
  simp -implicitDefEqProofs (disch := omega)
def HBinC (g : List AV → Option (List AV)) : Prop := ∀ b w x : Int, Bw b w → 0 ≤ x → x ≤ 1073741824 → g [i64 b, i64 w, i64 x] = some [i64 (binOf b w x), i64 0]
theorem hist_Bin_run {Γ : Env} {M : Nat} (h1 : HRightC (Γ 443)) : HBinC (run Γ M hist_Bin_f) := by
  intro b w x hbw hx0 hx
  have e1 := h1 b w hbw
  obtain ⟨⟨b1, b2⟩, w1, w2⟩ := hbw
  have p1 : 0 ≤ x / w := Int.ediv_nonneg hx0 (by omega)
  have p2 : x / w ≤ x := Int.ediv_le_self _ hx0
  have hx1 : ¬ x < 0 := by omega
  have hw0 : ¬ w = 0 := by omega
  unfold binOf
  by_cases c : b - 1 < x / w
  · simp -implicitDefEqProofs (disch := omega) [e1, hx1, hw0, c]
    omega
  · simp -implicitDefEqProofs (disch := omega) [e1, hx1, hw0, c]
    omega
def HEdgeC (g : List AV → Option (List AV)) : Prop := ∀ (b w : Int) (i : Nat), Bw b w → (i : Int) < b → g [i64 b, i64 w, i64 i] = some (if (i : Int) = b - 1 then [i64 (i * w), i64 0, bo false] else [i64 (i * w), i64 ((i + 1) * w), bo true])
theorem edge_in {b w : Int} {i : Nat} (h : Bw b w) (hi : (i : Int) < b) : (0 ≤ (i : Int) * w ∧ (i : Int) * w ≤ 300000) ∧ (1 ≤ ((i : Int) + 1) * w ∧ ((i : Int) + 1) * w ≤ 300000) := by
  obtain ⟨⟨b1, b2⟩, w1, w2⟩ := h
  have h1 : 0 ≤ (i : Int) * w := Int.mul_nonneg (by omega) (by omega)
  have h2 : (i : Int) * w ≤ 64 * w := Int.mul_le_mul_of_nonneg_right (by omega) (by omega)
  have h3 : ((i : Int) + 1) * w = i * w + w := by rw [Int.add_mul]; simp
  omega
theorem hist_Edge_run {Γ : Env} {M : Nat} (h1 : HRightC (Γ 443)) : HEdgeC (run Γ M hist_Edge_f) := by
  intro b w i hbw hi
  have e1 := h1 b w hbw
  obtain ⟨⟨m1, m2⟩, m3, m4⟩ := edge_in hbw hi
  obtain ⟨⟨b1, b2⟩, w1, w2⟩ := hbw
  by_cases c : (i : Int) = b - 1
  · simp only [if_pos c]
    simp -implicitDefEqProofs (disch := omega) [e1, c]
    rw [← c]
    exact wrapK_i64 (by omega) (by omega)
  · simp only [if_neg c]
    simp -implicitDefEqProofs (disch := omega) [e1, c]
def edgeT (b w : Int) (i : Nat) : List UInt8 := if (i : Int) = b - 1 then txt (i * w) ++ [43] else txt (i * w) ++ 45 :: txt ((i + 1) * w - 1)
def EdgeC (g : List AV → Option (List AV)) : Prop := ∀ (b w : Int) (i : Nat), Bw b w → (i : Int) < b → g [i64 b, i64 w, i64 i] = some [st (edgeT b w i)]
theorem report_edge_run {Γ : Env} {M : Nat} (h1 : HEdgeC (Γ 444)) (h2 : Of (Γ 50)) : EdgeC (run Γ M report_edge_f) := by
  intro b w i hbw hi
  have e1 := h1 b w i hbw hi
  obtain ⟨⟨m1, m2⟩, m3, m4⟩ := edge_in hbw hi
  have e2 := h2 (i * w) ⟨by omega, by omega⟩
  have e3 := h2 ((i + 1) * w - 1) ⟨by omega, by omega⟩
  have l2 := txtL m1
  have l3 := txtL (n := ((i : Int) + 1) * w - 1) (by omega)
  have hms : (1000 : Nat) ≤ maxStr := by decide
  unfold edgeT
  generalize ((i : Int) + 1) * w = B at *
  generalize (i : Int) * w = A at *
  by_cases c : (i : Int) = b - 1
  · rw [if_pos c] at e1 ⊢
    generalize txt A = T at *
    simp -implicitDefEqProofs (disch := first | omega | ((try simp only [List.length_append, List.length_cons, List.length_nil, maxStr_eq]); omega) | assumption) [e1, e2, binS_add]
  · rw [if_neg c] at e1 ⊢
    generalize txt A = T at *
    generalize txt (B - 1) = T2 at *
    simp -implicitDefEqProofs (disch := first | omega | ((try simp only [List.length_append, List.length_cons, List.length_nil, maxStr_eq]); omega) | assumption) [e1, e2, e3, binS_add]
def HOfC (g : List AV → Option (List AV)) : Prop := ∀ (b w : Int) (l : List Int), Bw b w → Ns l → g [i64 b, i64 w, vZ l] = some [vZ (binsL b w l), i64 0]
theorem hist_Of_run {Γ : Env} {M : Nat} (hM : 1000 < M) (h1 : HRightC (Γ 443)) (h2 : HBinC (Γ 442)) : HOfC (run Γ M hist_Of_f) := by
  intro b w l hbw hl
  have e1 := h1 b w hbw
  have hn := hl.n
  have hb := hbw.b
  obtain ⟨N, hN⟩ : ∃ N, b.toNat = N := ⟨_, rfl⟩
  have hbN : b = (N : Int) := by omega
  have hz := binsL_nil b w
  rw [hN] at hz
  obtain ⟨ax, s', ⟨rfl, rfl⟩, hin⟩ : ∃ ax s', (ax = .ex 0 ∧ s' = ⟨[(8, .sl 18 N 0 N)], [(18, ⟨1, iR (binsL b w l)⟩)]⟩) ∧ ∀ s0, nrm [0, 1, 8, 19, 20, 21] [18] s0 = ⟨[(0, i64 b), (1, i64 w), (8, .sl 18 N 0 N), (19, vZ l), (20, i64 l.length), (21, i64 (0 : Nat))], [(18, ⟨1, iR (binsL b w (l.take 0))⟩)]⟩ → lp (exec Γ M hist_Of_l1) M s0 = some (ax, s') := by
    refine lp_all (fun q : Nat => ⟨[(0, i64 b), (1, i64 w), (8, .sl 18 N 0 N), (19, vZ l), (20, i64 l.length), (21, i64 q)], [(18, ⟨1, iR (binsL b w (l.take q))⟩)]⟩) (fun q => q ≤ l.length) (fun q => l.length - q) _ 0 M (by simp) (by simp) (by omega) ?_
    intro k hk
    by_cases hlt : k < l.length
    · obtain ⟨x, hx⟩ : ∃ z, l[k]'hlt = z := ⟨_, rfl⟩
      have hxb := hl.all x (hx ▸ List.getElem_mem hlt)
      have e2 := h2 b w x hbw hxb.1 hxb.2
      have hbi := binOf_in (x := x) hb.1 hbw.w.1 hxb.1
      obtain ⟨j, hj⟩ : ∃ j : Nat, binOf b w x = j := ⟨(binOf b w x).toNat, by omega⟩
      have hjN : j < N := by omega
      have hs := binsL_snoc (l.take k) hj (by omega)
      rw [← hx, ← List.take_succ_eq_append_getElem hlt] at hs
      have hc := binC_le b w (l.take k) j
      rw [List.length_take] at hc
      have hg : ∀ h, (iR (binsL b w (l.take k)))[j]'h = [i64 (binC b w (l.take k) j)] := by
        intro h; simp only [iR, List.getElem_map]; rw [binsL_get b w _ (by omega)]; rfl
      have hrl : (iR (binsL b w (l.take k))).length = N := by rw [iR_len, binsL_len]; omega
      have hgoal : iR (binsL b w (l.take (k + 1))) = (iR (binsL b w (l.take k))).set j [i64 ((binC b w (l.take k) j : Int) + 1)] := by rw [hs, iR_set]
      rw [hj] at e2
      generalize iR (binsL b w (l.take k)) = G at *
      generalize binC b w (l.take k) j = C at *
      simp -implicitDefEqProofs (disch := first | omega | (simp [hrl] <;> fail) | assumption) [hlt, hx, numQ, e2, hjN, hg, hrl]
      rw [List.set_eq_take_append_cons_drop, if_pos (by omega)] at hgoal
      exact ⟨k + 1, ⟨by omega, hgoal.symm⟩, by omega, by omega⟩
    · obtain rfl : k = l.length := by omega
      rw [List.take_length]
      simp -implicitDefEqProofs (disch := first | omega | assumption)
  have hlp := hin ⟨[(0, i64 b), (1, i64 w), (8, .sl 18 N 0 N), (19, vZ l), (20, i64 l.length), (21, i64 0)], [(18, ⟨1, iR (List.replicate N 0)⟩)]⟩ (by simp [hz])
  have ha := allRows_comp numQ (binsL b w l)
  have hrl : (iR (binsL b w l)).length = N := by rw [iR_len, binsL_len]; omega
  have hF2 : ((binsL b w l).map numQ).take N = (binsL b w l).map numQ := by rw [List.take_of_length_le]; rw [List.length_map, binsL_len]; omega
  have hir : iR (List.replicate N 0) = List.replicate N [i64 0] := by simp [iR, numQ, toAV]
  rw [hir] at hlp
  rw [show (binsL b w l).map (toAV ∘ numQ) = iR (binsL b w l) from rfl] at ha
  generalize iR (binsL b w l) = G at *
  simp only [vZ]
  generalize (binsL b w l).map numQ = X at *
  subst hbN
  simp -implicitDefEqProofs (disch := first | omega | assumption) [e1, hlp, ha, hrl, hF2]
/-! ### The rows -/
def rowRb (b w : Int) (l m : List Int) (i : Nat) : TRow := [edgeT b w i, txt (binC b w l i), txt (binC b w m i)]
def headRb : TRow := [[116, 105, 99, 107, 115], [119, 97, 105, 116], [116, 114, 97, 110, 115, 105, 116]]
def tabRb (b w : Int) (l m : List Int) (k : Nat) : List TRow := headRb :: (List.range k).map (rowRb b w l m)
theorem tabRb_snoc (b w : Int) (l m : List Int) (k : Nat) : tabRb b w l m (k + 1) = tabRb b w l m k ++ [rowRb b w l m k] := by
  unfold tabRb; rw [List.range_succ, List.map_append]; rfl
theorem tabRb_len (b w : Int) (l m : List Int) (k : Nat) : (tabRb b w l m k).length = k + 1 := by simp [tabRb]
def trM (rs : List TRow) : Rows := rs.map (toAV ∘ rowQ)
theorem trM_len (rs : List TRow) : (trM rs).length = rs.length := by simp [trM]
theorem trM_snoc (rs : List TRow) (r : TRow) : trM (rs ++ [r]) = trM rs ++ [[vR r]] := by simp [trM, rowQ, toAV]
def BinsC (g : List AV → Option (List AV)) : Prop := ∀ (b w : Int) (l m : List Int), Bw b w → Ns l → Ns m → g [i64 b, i64 w, vZ l, vZ m] = some [vRs (tabRb b w l m b.toNat)]
theorem report_Bins_run {Γ : Env} {M : Nat} (hM : 1000 < M) (h1 : HOfC (Γ 440)) (h2 : EdgeC (Γ 439)) (h3 : Of (Γ 50)) : BinsC (run Γ M report_Bins_f) := by
  intro b w l m hbw hl hm
  have e1 := h1 b w l hbw hl
  have e2 := h1 b w m hbw hm
  obtain ⟨N, hN⟩ : ∃ N, b.toNat = N := ⟨_, rfl⟩
  have hb := hbw.b
  have hbN : b = (N : Int) := by omega
  obtain ⟨A, hAe⟩ : ∃ A, A = binsL b w l := ⟨_, rfl⟩
  obtain ⟨B, hBe⟩ : ∃ B, B = binsL b w m := ⟨_, rfl⟩
  have hA : A.length = N := by rw [hAe, binsL_len, hN]
  have hB : B.length = N := by rw [hBe, binsL_len, hN]
  have hAg : ∀ i (h : i < N) (h2 : i < A.length), A[i]'h2 = binC b w l i := fun i h h2 => by subst hAe; exact binsL_get b w l (by omega)
  have hBg : ∀ i (h : i < N) (h2 : i < B.length), B[i]'h2 = binC b w m i := fun i h h2 => by subst hBe; exact binsL_get b w m (by omega)
  rw [← hAe] at e1
  rw [← hBe] at e2
  rw [hN]
  have hln := hl.n
  have hmn := hm.n
  obtain ⟨ax, s', ⟨rfl, rfl⟩, hin⟩ : ∃ ax s', (ax = .ex 0 ∧ s' = ⟨[(13, .sl 30 (N + 1) 0 (N + 1))], [(30, ⟨1, trM (tabRb b w l m N)⟩)]⟩) ∧ ∀ s0, nrm [0, 1, 9, 11, 13, 32, 33] [13, 30, 53] s0 = ⟨[(0, i64 b), (1, i64 w), (9, vZ A), (11, vZ B), (13, .sl 30 (0 + 1) 0 (0 + 1)), (32, i64 N), (33, i64 (0 : Nat))], [(30, ⟨1, trM (tabRb b w l m 0)⟩)]⟩ → lp (exec Γ M report_Bins_l1) M s0 = some (ax, s') := by
    refine lp_all (fun q : Nat => ⟨[(0, i64 b), (1, i64 w), (9, vZ A), (11, vZ B), (13, .sl 30 (q + 1) 0 (q + 1)), (32, i64 N), (33, i64 q)], [(30, ⟨1, trM (tabRb b w l m q)⟩)]⟩) (fun q => q ≤ N) (fun q => N - q) _ 0 M (by simp) (by simp) (by omega) ?_
    intro k hk
    by_cases hlt : k < N
    · have hlA : k < A.length := by omega
      have hlB : k < B.length := by omega
      have ga := hAg k hlt
      have gb := hBg k hlt
      have a1 := h2 b w k hbw (by omega)
      have c1 := binC_le b w l k
      have c2 := binC_le b w m k
      have a2 := h3 (binC b w l k) ⟨by omega, by omega⟩
      have a3 := h3 (binC b w m k) ⟨by omega, by omega⟩
      have hrl := trM_len (tabRb b w l m k)
      rw [tabRb_len] at hrl
      have hrn : ∀ z, nmRows z (trM (tabRb b w l m k)) = true := fun z => nmRows_comp z rowQ _
      have hrc : ∀ z, lcRows z (trM (tabRb b w l m k)) = true := fun z => lcRows_comp z rowQ _
      have hgoal : trM (tabRb b w l m (k + 1)) = trM (tabRb b w l m k) ++ [[vR [edgeT b w k, txt (binC b w l k), txt (binC b w m k)]]] := by rw [tabRb_snoc, trM_snoc]; rfl
      generalize trM (tabRb b w l m k) = G at *
      generalize edgeT b w k = E at *
      generalize binC b w l k = c3 at *
      generalize binC b w m k = c4 at *
      simp -implicitDefEqProofs (disch := first | omega | (simp [hrl, hrc, hrn] <;> fail) | assumption) [hlt, hlA, hlB, ga, gb, numQ, a1, a2, a3, hrl, hrc, hrn]
      exact ⟨k + 1, ⟨⟨by omega, by omega⟩, hgoal.symm⟩, by omega, by omega⟩
    · obtain rfl : k = N := by omega
      simp -implicitDefEqProofs (disch := first | omega | assumption)
  have hlp := hin ⟨[(0, i64 b), (1, i64 w), (9, vZ A), (11, vZ B), (13, .sl 30 1 0 1), (32, i64 N), (33, i64 0)], [(30, ⟨1, [[vR headRb]]⟩)]⟩ (by simp [tabRb, trM, rowQ, toAV])
  simp only [vR, headRb, List.map_cons, List.map_nil, txQ] at hlp
  have ha := allRows_comp rowQ (tabRb b w l m N)
  have hrl := trM_len (tabRb b w l m N)
  rw [tabRb_len] at hrl
  have hF2 : ((tabRb b w l m N).map rowQ).take (N + 1) = (tabRb b w l m N).map rowQ := by rw [List.take_of_length_le]; rw [List.length_map, tabRb_len]; omega
  rw [show (tabRb b w l m N).map (toAV ∘ rowQ) = trM (tabRb b w l m N) from rfl] at ha
  generalize trM (tabRb b w l m N) = G at *
  simp only [vRs]
  generalize (tabRb b w l m N).map rowQ = K at *
  simp -implicitDefEqProofs (disch := first | omega | assumption) [e1, e2, hlp, ha, hrl, hF2, hA]
/-! ### Numbers are read back -/
def RdC (g : List AV → Option (List AV)) : Prop := ∀ n : Nat, n ≤ 100 → g [st (txt n)] = some [i64 n, i64 0]
theorem digits_Read_run {Γ : Env} {M : Nat} (hM : 1000 < M) (h1 : NMulS (Γ 391)) (h2 : NAddC (Γ 389)) : RdC (run Γ M digits_Read_f) := by
  intro n hn
  have hg := goodD_all n (by omega)
  have hin := digF_in 20 n (by omega)
  have hne : dig (n : Int) ≠ [] := digF_ne 20 n (by omega)
  rw [show txt (n : Int) = dig n by unfold txt; rw [if_neg (by omega)]]
  rw [show digF 20 (n : Int) = dig n from rfl] at hin
  unfold goodD at hg
  simp only [Bool.and_eq_true, decide_eq_true_eq, Bool.or_eq_true, List.all_eq_true, List.mem_range] at hg
  obtain ⟨⟨⟨g1, g2⟩, g3⟩, g4⟩ := hg
  generalize dig (n : Int) = L at *
  obtain ⟨b, t, rfl⟩ := List.exists_cons_of_ne_nil hne
  have hb := hin b (by simp)
  have hb45 : ¬ b = 45 := by rintro rfl; simp at hb
  have hb48 : b = 48 → t = [] := by
    rintro rfl
    rcases g3 with g3 | g3
    · simpa using g3
    · simp at g3
  generalize hLL : b :: t = L at *
  obtain ⟨ax, s', ⟨rfl, rfl⟩, hinn⟩ : ∃ ax s', (ax = .ex 0 ∧ s' = ⟨[(5, i64 n), (6, i64 0)], []⟩) ∧ ∀ s0, nrm [0, 4, 5, 6, 36, 37] [] s0 = ⟨[(0, st L), (4, bo false), (5, i64 (valD (L.take 0))), (6, i64 0), (36, i64 L.length), (37, i64 (0 : Nat))], []⟩ → lp (exec Γ M digits_Read_l1) M s0 = some (ax, s') := by
    refine lp_all (fun q : Nat => ⟨[(0, st L), (4, bo false), (5, i64 (valD (L.take q))), (6, i64 0), (36, i64 L.length), (37, i64 q)], []⟩) (fun q => q ≤ L.length) (fun q => L.length - q) _ 0 M (by simp) (by simp) (by omega) ?_
    intro k hk
    by_cases hlt : k < L.length
    · obtain ⟨c, hc⟩ : ∃ z, L[k]'hlt = z := ⟨_, rfl⟩
      have hci := hin c (hc ▸ List.getElem_mem hlt)
      have hv := valD_take L k hlt
      rw [hc] at hv
      obtain ⟨v1, v2⟩ := g4 k (by omega)
      have e1 := h1 (valD (L.take k)) 10 v1 (by omega) (by omega) (by omega)
      have e2 := h2 (valD (L.take k) * 10) ((c.toNat : Int) - 48) (by omega) (by omega) (by omega) (by omega)
      generalize valD (L.take k) = V at *
      have c1 : ¬ c < 48 := by rw [UInt8.lt_iff_toNat_lt]; simp; omega
      have c2 : ¬ 57 < c := by rw [UInt8.lt_iff_toNat_lt]; simp; omega
      simp -implicitDefEqProofs (disch := first | omega | assumption) [hlt, hc, e1, e2, c1, c2]
      exact ⟨k + 1, ⟨by rw [hv]; omega, by omega⟩, by omega, by omega⟩
    · obtain rfl : k = L.length := by omega
      rw [List.take_length]
      simp -implicitDefEqProofs (disch := first | omega | assumption)
      exact g2
  have hlp := hinn ⟨[(0, st L), (4, bo false), (5, i64 0), (6, i64 0), (36, i64 L.length), (37, i64 0)], []⟩ (by simp [valD])
  have h0 : ∀ h, L[0]'h = b := by subst hLL; intro h; rfl
  have hL0 : 0 < L.length := by subst hLL; simp
  have hLn : ¬ L = [] := by subst hLL; simp
  by_cases c48 : b = 48
  · have ht := hb48 c48
    subst c48; subst ht
    have hL1 : L.length = 1 := by subst hLL; rfl
    rw [hL1, show ((1 : Nat) : Int) = 1 from rfl] at hlp
    simp -implicitDefEqProofs (disch := first | omega | assumption) [h0, hL0, hLn, hL1, hlp]
  · have hbt : ¬ (b.toNat : Int) = 48 := fun h => c48 (UInt8.toNat_inj.1 (by simp; omega))
    simp -implicitDefEqProofs (disch := first | omega | assumption) [h0, hL0, hLn, hb45, c48, hbt, hlp]
theorem zs_row (r : List D) (h : All2 WT [ctI] r) : ∃ z : Int, r = numQ z ∧ True := by
  simp only [all2_cons, all2_nil, wt_i64] at h
  obtain ⟨_, _, rfl, ⟨a, rfl, ha⟩, rfl⟩ := h
  exact ⟨a, rfl, trivial⟩
theorem wt_zs {d : D} (h : WT (.sl [ctI]) d) : ∃ l : List Int, AV.c d = vZ l := by
  rw [wt_sl] at h
  obtain ⟨rows, rfl, hl, h⟩ := h
  obtain ⟨ts, rfl, -⟩ := rows_map zs_row rows h
  exact ⟨ts, rfl⟩
/-! ### The law -/
theorem edgeT_word {b w : Int} {i : Nat} (h : Bw b w) (hi : (i : Int) < b) : edgeT b w i ≠ [] ∧ (32 : UInt8) ∉ edgeT b w i ∧ (edgeT b w i).length ≤ 41 := by
  obtain ⟨⟨m1, m2⟩, m3, m4⟩ := edge_in h hi
  have h1 := txt_word m1
  have h2 := txt_word (n := ((i : Int) + 1) * w - 1) (by omega)
  have l1 := txtL m1
  have l2 := txtL (n := ((i : Int) + 1) * w - 1) (by omega)
  unfold edgeT
  split
  · refine ⟨by simp, by simp [h1.2], by simp; omega⟩
  · refine ⟨by simp, by simp [h1.2, h2.2], by simp; omega⟩
theorem rowRb_ok {b w : Int} {l m : List Int} {i : Nat} (h : Bw b w) (hi : (i : Int) < b) : WordsR (rowRb b w l m i) ∧ SmallR (rowRb b w l m i) := by
  obtain ⟨e1, e2, e3⟩ := edgeT_word h hi
  have h1 := txt_word (n := (binC b w l i : Int)) (by omega)
  have h2 := txt_word (n := (binC b w m i : Int)) (by omega)
  have l1 := txtL (n := (binC b w l i : Int)) (by omega)
  have l2 := txtL (n := (binC b w m i : Int)) (by omega)
  refine ⟨fun x hx => ?_, by simp [rowRb], fun x hx => ?_⟩
  · simp only [rowRb, List.mem_cons, List.not_mem_nil, or_false] at hx
    rcases hx with rfl | rfl | rfl
    · exact ⟨e1, e2⟩
    · exact h1
    · exact h2
  · simp only [rowRb, List.mem_cons, List.not_mem_nil, or_false] at hx
    rcases hx with rfl | rfl | rfl <;> omega
theorem tab_get {b w : Int} {l m : List Int} {n i : Nat} (h : i < n) : ((tabRb b w l m n).map rowQ)[i + 1]? = some (rowQ (rowRb b w l m i)) := by
  unfold tabRb
  rw [List.map_cons, List.getElem?_cons_succ, List.getElem?_map, List.getElem?_map, List.getElem?_range h]; rfl
theorem ReportBins_run {Γ : Env} {M : Nat} (hM : 1000 < M) (ha : Γ 426 [] = some [bo true]) (h1 : GreatC42 (Γ 432)) (h2 : BinsC (Γ 431)) (h3 : LineC16 (Γ 187)) (h4 : CellsC16 (Γ 188)) (h5 : RdC (Γ 434)) (l m : List Int) (b w : Int) (hb : InI64 b) (hw : InI64 w) :
    run Γ M law42_ReportBins_f [vZ l, vZ m, .agg [.int .i64 b, .int .i64 w]] = some [bo true] := by
  obtain ⟨g1, e1, hl⟩ := h1 l
  obtain ⟨g2, e2, hm⟩ := h1 m
  cases g1 with
  | true => simp -implicitDefEqProofs (disch := first | omega | assumption) [e1]
  | false =>
  cases g2 with
  | true => simp -implicitDefEqProofs (disch := first | omega | assumption) [e1, e2]
  | false =>
  by_cases c1 : b < 1
  · simp -implicitDefEqProofs (disch := first | omega | assumption) [e1, e2, c1]
  by_cases c2 : 64 < b
  · simp -implicitDefEqProofs (disch := first | omega | assumption) [e1, e2, c1, c2]
  by_cases c3 : w < 1
  · simp -implicitDefEqProofs (disch := first | omega | assumption) [e1, e2, c1, c2, c3]
  by_cases c4 : 4096 < w
  · simp -implicitDefEqProofs (disch := first | omega | assumption) [e1, e2, c1, c2, c3, c4]
  have hl := hl rfl
  have hm := hm rfl
  have hbw : Bw b w := ⟨⟨by omega, by omega⟩, by omega, by omega⟩
  have e3 := h2 b w l m hbw hl hm
  obtain ⟨N, hN⟩ : ∃ N, b.toNat = N := ⟨_, rfl⟩
  have hbN : b = (N : Int) := by omega
  have hN1 : 1 ≤ N := by omega
  rw [hN] at e3
  have hTl : ((tabRb b w l m N).map rowQ).length = N + 1 := by rw [List.length_map, tabRb_len]
  have hTg : ∀ i, i < N → ((tabRb b w l m N).map rowQ)[i + 1]? = some (rowQ (rowRb b w l m i)) := fun i h => tab_get h
  have hln := hl.n
  have hmn := hm.n
  have hsl := sumB_all hbw.b.1 hbw.w.1 l fun x hx => (hl.all x hx).1
  have hsm := sumB_all hbw.b.1 hbw.w.1 m fun x hx => (hm.all x hx).1
  rw [hN] at hsl hsm
  simp only [vRs] at e3
  generalize (tabRb b w l m N).map rowQ = T at *
  obtain ⟨ax, s', ⟨rfl, rfl⟩, hin⟩ : ∃ ax s', (ax = .ex 0 ∧ s' = ⟨[(0, vZ l), (1, vZ m), (8, i64 l.length), (9, i64 m.length)], []⟩) ∧ ∀ s0, nrm [0, 1, 7, 8, 9, 10] [] s0 = ⟨[(0, vZ l), (1, vZ m), (7, .c (.vs 1 T)), (8, i64 (sumB b w l 0)), (9, i64 (sumB b w m 0)), (10, i64 ((0 : Nat) + 1 : Int))], []⟩ → lp (exec Γ M law42_ReportBins_l1) M s0 = some (ax, s') := by
    refine lp_all (fun q : Nat => ⟨[(0, vZ l), (1, vZ m), (7, .c (.vs 1 T)), (8, i64 (sumB b w l q)), (9, i64 (sumB b w m q)), (10, i64 ((q : Int) + 1))], []⟩) (fun q => q ≤ N) (fun q => N - q) _ 0 M (by simp) (by simp) (by omega) ?_
    intro k hk
    by_cases hlt : k < N
    · have hrow : ∀ h, T[k + 1]'h = rowQ (rowRb b w l m k) := fun h => by
        have := hTg k hlt
        rw [List.getElem?_eq_getElem h] at this
        exact Option.some.inj this
      obtain ⟨hwd, hsm2⟩ := rowRb_ok (l := l) (m := m) hbw (show (k : Int) < b by omega)
      have a1 := h3 [] (rowRb b w l m k) (by simp) (by simp) hsm2
      have a2 := h4 (lineG [] (rowRb b w l m k)) (lineG_short [] (by simp) _ hsm2)
      rw [splitW_line [] _ hwd] at a2
      have b1 := binC_le b w l k
      have b2 := binC_le b w m k
      have a3 := h5 (binC b w l k) (by omega)
      have a4 := h5 (binC b w m k) (by omega)
      have s1 := sumB_in b w l k
      have s2 := sumB_in b w m k
      have q1 : (k : Int) * l.length ≤ 6400 := by
        have : (k : Int) * l.length ≤ 64 * l.length := Int.mul_le_mul_of_nonneg_right (by omega) (by omega)
        omega
      have q2 : (k : Int) * m.length ≤ 6400 := by
        have : (k : Int) * m.length ≤ 64 * m.length := Int.mul_le_mul_of_nonneg_right (by omega) (by omega)
        omega
      have n1 : sumB b w l (k + 1) = sumB b w l k + binC b w l k := rfl
      have n2 : sumB b w m (k + 1) = sumB b w m k + binC b w m k := rfl
      simp only [rowQ, vR, vN, List.map_nil] at hrow a1 a2
      generalize lineG [] (rowRb b w l m k) = Ln at *
      have hR : (rowRb b w l m k).map txQ = [[.str (edgeT b w k)], [.str (txt (binC b w l k))], [.str (txt (binC b w m k))]] := rfl
      rw [hR] at hrow a1 a2
      generalize edgeT b w k = E at *
      generalize binC b w l k = c5 at *
      generalize binC b w m k = c6 at *
      generalize sumB b w l k = S1 at *
      generalize sumB b w m k = S2 at *
      simp -implicitDefEqProofs (disch := first | omega | assumption) [hlt, hTl, hrow, a1, a2, a3, a4]
      exact ⟨k + 1, ⟨by omega, by omega, by omega⟩, by omega, by omega⟩
    · obtain rfl : k = N := by omega
      rw [hsl, hsm]
      simp -implicitDefEqProofs (disch := first | omega | assumption) [hTl]
  have hlp := hin ⟨[(0, vZ l), (1, vZ m), (7, .c (.vs 1 T)), (8, i64 0), (9, i64 0), (10, i64 1)], []⟩ (by simp [sumB])
  rw [hbN] at e3 c1 c2
  subst hbN
  simp -implicitDefEqProofs (disch := first | omega | assumption) [e1, e2, c1, c2, c3, c4, e3, hTl, hlp, ha]
end Go.Am
