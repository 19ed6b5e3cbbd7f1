/- Trips: how long those waited, or rode, who are done; numbers' equality. -/
import Derived.Test.YtkhbfjmckgddeaaGreatDoorTrp
set_option linter.unusedVariables false
set_option linter.unusedSimpArgs false
set_option maxRecDepth 10000
set_option maxHeartbeats 1000000
namespace Go.Am
theorem done_get {l : List Trip} {k : Nat} (hlt : k < l.length) {t : Trip} (h : l[k]'hlt = t) : (l.map Trip.cells)[k]? = some t.cells := trip_get hlt h
theorem iRows_len (l : List Int) : (intRows l).length = l.length := by simp [intRows]
theorem iRows_snoc (l : List Int) (x : Int) : intRows (l ++ [x]) = intRows l ++ [[i64 x]] := by simp [intRows]
def WaitsC (w : Bool) (g : List AV → Option (List AV)) : Prop := ∀ l : List Trip, Gd l → g [vT l] = some [vI (wt w l)]
def WaitsT (g : List AV → Option (List AV)) : Prop := ∀ l : List Trip, Gd l → g [vT l] = some [vI (wt true l)]
def WaitsF (g : List AV → Option (List AV)) : Prop := ∀ l : List Trip, Gd l → g [vT l] = some [vI (wt false l)]
theorem trip_Waits_run (Γ : Env) (M : Nat) (hM : 1000 < M) (hD : DoneC (Γ 408)) : WaitsT (run Γ M trip_Waits_f) := by
  intro l hg
  have eD := hD l hg.n
  have hdl := doneL_len l
  have hgn := hg.n
  have htm : ∀ t ∈ doneL l, Tm t := fun t ht => hg.all t (doneL_mem ht)
  unfold wt
  generalize doneL l = L at *
  obtain ⟨W, hW⟩ : ∃ W, L.map (wv true) = W := ⟨_, rfl⟩
  have hWl : W.length = L.length := by rw [← hW]; simp
  have hWg : ∀ k (h : k < L.length), W[k]'(by omega) = wv true (L[k]'h) := by subst hW; intro k h; simp
  rw [hW]
  obtain ⟨ax, s', ⟨rfl, rfl⟩, hin⟩ : ∃ ax s', (ax = .ex 0 ∧ s' = ⟨[(3, .sl 3 L.length 0 L.length)], [(3, ⟨1, intRows W⟩)]⟩) ∧ ∀ s0, nrm [3, 7, 8, 9] [3, 20] s0 = ⟨[(3, .sl 3 0 0 0), (7, vT L), (8, i64 L.length), (9, i64 (0 : Nat))], [(3, ⟨1, intRows (W.take 0)⟩)]⟩ → lp (exec Γ M trip_Waits_l1) M s0 = some (ax, s') := by
    refine lp_all (fun q : Nat => ⟨[(3, .sl 3 q 0 q), (7, vT L), (8, i64 L.length), (9, i64 q)], [(3, ⟨1, intRows (W.take q)⟩)]⟩) (fun q => q ≤ L.length) (fun q => L.length - q) _ 0 M (by simp) (by simp) (by omega) ?_
    intro k hk
    by_cases hlt : k < L.length
    · obtain ⟨t, ht⟩ : ∃ w, L[k]'hlt = w := ⟨_, rfl⟩
      have hrow := trip_get hlt ht
      obtain ⟨b1, b2, b3⟩ := htm t (ht ▸ List.getElem_mem hlt)
      have hrl : (intRows (W.take k)).length = k := by rw [iRows_len, List.length_take]; omega
      have hrc : ∀ z, lcRows z (intRows (W.take k)) = true := fun z => lcRows_comp z intD _
      have hrn : ∀ z, nmRows z (intRows (W.take k)) = true := fun z => nmRows_comp z intD _
      have hsn : intRows (W.take (k + 1)) = intRows (W.take k) ++ [[i64 (t.board - t.arrive)]] := by
        rw [List.take_succ_eq_append_getElem (by omega), hWg k hlt, ht, iRows_snoc]; rfl
      simp only [Trip.cells] at hrow
      generalize intRows (W.take k) = G at *
      simp -implicitDefEqProofs (disch := first | omega | (simp [hrl, hrc, hrn] <;> fail) | assumption) [hlt, hrow, hrl, hrc, hrn]
      exact ⟨k + 1, ⟨⟨by omega, by omega⟩, hsn.symm⟩, by omega, by omega⟩
    · obtain rfl : k = L.length := by omega
      rw [← hWl, List.take_length]
      simp -implicitDefEqProofs (disch := first | omega | assumption) [hWl]
  have hlp := hin ⟨[(3, .sl 3 0 0 0), (7, vT L), (8, i64 L.length), (9, i64 0)], [(3, ⟨1, []⟩)]⟩ (by simp [intRows])
  have ha := allRows_comp intD W
  have hrl := iRows_len W
  rw [hWl] at hrl
  have hF2 : (W.map intD).take L.length = W.map intD := by rw [List.take_of_length_le]; simp [hWl]
  rw [show W.map (toAV ∘ intD) = intRows W from rfl] at ha
  generalize intRows W = G at *
  simp only [vI]
  generalize W.map intD = X at *
  simp -implicitDefEqProofs (disch := first | omega | assumption) [eD, hlp, ha, hrl, hF2]
def RWaitsC (g : List AV → Option (List AV)) : Prop := ∀ (l : List Trip) (w : Bool), Gd l → g [vT l, bo w] = some [vI (wt w l)]
theorem ref24_Waits_run (Γ : Env) (M : Nat) (hM : 1000 < M) (hA : TAtC (Γ 407)) : RWaitsC (run Γ M ref24_Waits_f) := by
  intro l w hg
  have hgn := hg.n
  obtain ⟨ax, s', ⟨rfl, rfl⟩, hin⟩ : ∃ ax s', (ax = .ex 0 ∧ s' = ⟨[(5, .sl 5 (wt w l).length 0 (wt w l).length)], [(5, ⟨1, intRows (wt w l)⟩)]⟩) ∧ ∀ s0, nrm [0, 1, 5, 6] [5, 33, 47] s0 = ⟨[(0, vT l), (1, bo w), (5, .sl 5 (wt w (l.take 0)).length 0 (wt w (l.take 0)).length), (6, i64 (0 : Nat))], [(5, ⟨1, intRows (wt w (l.take 0))⟩)]⟩ → lp (exec Γ M ref24_Waits_l1) M s0 = some (ax, s') := by
    refine lp_all (fun q : Nat => ⟨[(0, vT l), (1, bo w), (5, .sl 5 (wt w (l.take q)).length 0 (wt w (l.take q)).length), (6, i64 q)], [(5, ⟨1, intRows (wt w (l.take q))⟩)]⟩) (fun q => q ≤ l.length) (fun q => l.length - q) _ 0 M (by simp) (by simp) (by omega) ?_
    intro k hk
    by_cases hlt : k < l.length
    · obtain ⟨t, ht⟩ : ∃ w, l[k]'hlt = w := ⟨_, rfl⟩
      have hrow := trip_get hlt ht
      obtain ⟨b1, b2, b3⟩ := hg.all t (ht ▸ List.getElem_mem hlt)
      have e := hA t
      have hs := wt_snoc w l k hlt
      have hle := wt_len w (l.take k)
      rw [List.length_take] at hle
      rw [ht, phs_dn] at hs
      have hrl := iRows_len (wt w (l.take k))
      have hrn : ∀ z, nmRows z (intRows (wt w (l.take k))) = true := fun z => nmRows_comp z intD _
      have hrc : ∀ z, lcRows z (intRows (wt w (l.take k))) = true := fun z => lcRows_comp z intD _
      have hsn := iRows_snoc (wt w (l.take k)) (wv w t)
      simp only [Trip.cells] at e hrow
      have hgo : ∀ X : List Int, wt w (l.take (k + 1)) = X → ∃ q', ((⟨[(0, vT l), (1, bo w), (5, .sl 5 X.length 0 X.length), (6, i64 ((k : Int) + 1))], [(5, ⟨1, intRows X⟩)]⟩ : St) = ⟨[(0, vT l), (1, bo w), (5, .sl 5 (wt w (l.take q')).length 0 (wt w (l.take q')).length), (6, i64 q')], [(5, ⟨1, intRows (wt w (l.take q'))⟩)]⟩) ∧ q' ≤ l.length ∧ l.length - q' < l.length - k := by
        rintro X rfl; exact ⟨k + 1, by simp, by omega, by omega⟩
      by_cases d : phs t = 2
      · simp only [d, decide_true, if_true] at hs
        obtain ⟨q', h1, h2, h3⟩ := hgo _ hs
        rw [hsn, List.length_append, List.length_singleton] at h1
        generalize intRows (wt w (l.take k)) = G at *
        generalize (wt w (l.take k)).length = n at *
        rw [d] at e
        cases w with
        | true =>
          rw [show wv true t = t.board - t.arrive from rfl] at h1
          simp -implicitDefEqProofs (disch := first | omega | (simp [hrl, hrc, hrn] <;> fail) | assumption) [hlt, ht, hrow, e, hrl, hrc, hrn]
          exact ⟨q', by simpa using h1, h2, h3⟩
        | false =>
          rw [show wv false t = t.alight - t.board from rfl] at h1
          simp -implicitDefEqProofs (disch := first | omega | (simp [hrl, hrc, hrn] <;> fail) | assumption) [hlt, ht, hrow, e, hrl, hrc, hrn]
          exact ⟨q', by simpa using h1, h2, h3⟩
      · simp only [d, decide_false, Bool.false_eq_true, if_false, List.append_nil] at hs
        obtain ⟨q', h1, h2, h3⟩ := hgo _ hs
        generalize intRows (wt w (l.take k)) = G at *
        generalize (wt w (l.take k)).length = n at *
        simp -implicitDefEqProofs (disch := first | omega | (simp [hrl, hrc, hrn] <;> fail) | assumption) [hlt, ht, hrow, e, hrl, hrc, hrn, d]
        exact ⟨q', by simpa using h1, h2, h3⟩
    · obtain rfl : k = l.length := by omega
      rw [List.take_length]
      simp -implicitDefEqProofs (disch := first | omega | assumption)
  have hlp := hin ⟨[(0, vT l), (1, bo w), (5, .sl 5 0 0 0), (6, i64 0)], [(5, ⟨1, []⟩)]⟩ (by simp [wt, doneL, intRows])
  have ha := allRows_comp intD (wt w l)
  have hrl := iRows_len (wt w l)
  have hle := wt_len w l
  have hF2 : ((wt w l).map intD).take (wt w l).length = (wt w l).map intD := by rw [List.take_of_length_le]; simp
  rw [show (wt w l).map (toAV ∘ intD) = intRows (wt w l) from rfl] at ha
  generalize intRows (wt w l) = G at *
  simp only [vI]
  generalize (wt w l).map intD = X at *
  generalize (wt w l).length = n at *
  simp -implicitDefEqProofs (disch := first | omega | assumption) [hlp, ha, hrl, hF2]
end Go.Am
