/- Law 51: who rides, put in order one by one. -/
import Derived.Test.YtdnmppikakpdiaaSiu
set_option linter.unusedVariables false
set_option linter.unusedSimpArgs false
set_option maxRecDepth 10000
set_option maxHeartbeats 4000000
namespace Go.Am.Si
open Go.Am
/-- Of the trips: their riders, in order. -/
def rdL (ts : List Trip) (car tick : Int) (k : Nat) : List Ev := srtE (evsR (ts.take k) car tick)
theorem evsR_snoc (ts : List Trip) (car tick : Int) (k : Nat) (h : k < ts.length) : evsR (ts.take (k + 1)) car tick = evsR (ts.take k) car tick ++ if in1 car tick ts[k] = true then [evT ts[k]] else [] := by
  rw [List.take_succ_eq_append_getElem h]
  unfold evsR
  rw [List.filter_append, List.map_append]
  congr 1
  cases hb : in1 car tick ts[k] <;> simp [hb]
theorem rdL_mem {ts : List Trip} (hF : FewT ts) {car tick : Int} {k : Nat} (hk : k ≤ ts.length) {e : Ev} (he : e ∈ rdL ts car tick k) : ∃ (j : Nat) (hj : j < ts.length), j < k ∧ e = evT ts[j] ∧ e.i = j := by
  have h1 := (srtE_perm _).mem_iff.1 he
  obtain ⟨t, ht, rfl⟩ := List.mem_map.1 h1
  obtain ⟨j, hj, h3⟩ := List.getElem_of_mem (List.mem_filter.1 ht).1
  rw [List.length_take] at hj
  rw [List.getElem_take] at h3
  exact ⟨j, by omega, by omega, by rw [h3], by rw [← h3]; exact hF.id j (by omega)⟩
theorem rdL_len (ts : List Trip) (car tick : Int) (k : Nat) : (rdL ts car tick k).length ≤ k := by
  unfold rdL
  rw [srtE_len]
  unfold evsR
  rw [List.length_map]
  exact Nat.le_trans (List.length_filter_le _ _) (by rw [List.length_take]; omega)
/-- Put in at a place. -/
def putAt (L : List Ev) (p : Nat) (x : Ev) : List Ev := L.take p ++ x :: L.drop p
theorem rdL_put {ts : List Trip} (hF : FewT ts) {car tick : Int} {k : Nat} (hk : k < ts.length) (hin : in1 car tick ts[k] = true) {p : Nat} (hp : p ≤ (rdL ts car tick k).length)
    (h1 : ∀ j (h : j < (rdL ts car tick k).length), p ≤ j → ts[k].board < (rdL ts car tick k)[j].b) (h2 : ∀ (h : 0 < p) (h2 : p - 1 < (rdL ts car tick k).length), (rdL ts car tick k)[p - 1].b ≤ ts[k].board) :
    rdL ts car tick (k + 1) = putAt (rdL ts car tick k) p (evT ts[k]) := by
  have hs : Sor (rdL ts car tick k) := srtE_sor _
  show srtE (evsR (ts.take (k + 1)) car tick) = _
  rw [evsR_snoc ts car tick k hk, if_pos hin]
  refine srt_put (A := evsR (ts.take k) car tick) (R1 := (rdL ts car tick k).take p) (R2 := (rdL ts car tick k).drop p) (List.take_append_drop _ _).symm (fun r hr => ?_) fun r hr => ?_
  · obtain ⟨j, hj, rfl⟩ := List.getElem_of_mem hr
    rw [List.length_take] at hj
    rw [List.getElem_take]
    have hjl : j < (rdL ts car tick k).length := by omega
    have a := sor_get hs (i := j) (j := p - 1) (by omega) (by omega)
    have b := h2 (by omega) (by omega)
    obtain ⟨m, hm, hmk, he, hei⟩ := rdL_mem hF (by omega) (List.getElem_mem hjl)
    have hid := hF.id k hk
    unfold leE ltE at a ⊢
    simp only [evT]
    rw [hei, hid]
    omega
  · obtain ⟨j, hj, rfl⟩ := List.getElem_of_mem hr
    rw [List.length_drop] at hj
    rw [List.getElem_drop]
    have := h1 (p + j) (by omega) (by omega)
    left
    exact this
/-- The row so far: nil as long as nobody is in it. -/
def rdV (L : List Ev) : AV := if L = [] then .nil 1 else .c (.vs 1 (L.map Ev.cells))
theorem rdV_nil : rdV [] = .nil 1 := rfl
theorem rdV_pos {L : List Ev} (h : 0 < L.length) : rdV L = .c (.vs 1 (L.map Ev.cells)) := by
  unfold rdV; rw [if_neg (by intro e; subst e; simp at h)]
theorem rdV_names (k : Nat) (L : List Ev) : AV.names k (rdV L) = false := by unfold rdV; split <;> rfl
def LRidC (g : List AV → Option (List AV)) : Prop := ∀ (ts : List Trip) (car tick : Int), FewT ts → g [vT ts, i64 car, i64 tick] = some [.c (.vs 1 ((srtE (evsR ts car tick)).map Ev.cells))]
theorem law51_riders_run (Γ : Env) (M : Nat) (hM : 100 < M) : LRidC (run Γ M law51_riders_f) := by
  intro ts car tick hF
  have hfew := hF.few
  obtain ⟨ax, s', ⟨rfl, rfl⟩, hin⟩ : ∃ ax s', (ax = .ex 0 ∧ s' = ⟨[(7, rdV (rdL ts car tick ts.length))], []⟩) ∧ ∀ s0, nrm [0, 1, 2, 7, 8] [] s0 = ⟨[(0, vT ts), (1, i64 car), (2, i64 tick), (7, rdV (rdL ts car tick 0)), (8, i64 (0 : Nat))], []⟩ → lp (exec Γ M law51_riders_l2) M s0 = some (ax, s') := by
    refine lp_all (fun q : Nat => ⟨[(0, vT ts), (1, i64 car), (2, i64 tick), (7, rdV (rdL ts car tick q)), (8, i64 q)], []⟩) (fun q => q ≤ ts.length) (fun q => ts.length - q) _ 0 M (by simp) (by omega) (by omega) ?_
    intro k hk
    by_cases hlt : k < ts.length
    · obtain ⟨t, ht⟩ : ∃ t, ts[k]'hlt = t := ⟨_, rfl⟩
      have hll := rdL_len ts car tick k
      have outF : in1 car tick t = false → ∃ q' : Nat, (rdV (rdL ts car tick k) = rdV (rdL ts car tick q') ∧ (k : Int) + 1 = q') ∧ q' ≤ ts.length ∧ ts.length - q' < ts.length - k := fun h => ⟨k + 1, ⟨by unfold rdL; rw [evsR_snoc ts car tick k hlt, ht, h]; simp, by omega⟩, by omega, by omega⟩
      have inF : in1 car tick t = true → ∃ p, p ≤ (rdL ts car tick k).length ∧ rdL ts car tick (k + 1) = putAt (rdL ts car tick k) p (evT t) ∧ lp (exec Γ M law51_riders_l1) M ⟨[(0, vT ts), (1, i64 car), (2, i64 tick), (7, rdV (rdL ts car tick k)), (8, i64 k), (9, .loc 9 0 0), (10, i64 (rdL ts car tick k).length)], [(9, ⟨7, [toAV t.cells]⟩)]⟩ = some (.ex 2, ⟨[(0, vT ts), (1, i64 car), (2, i64 tick), (7, rdV (rdL ts car tick k)), (8, i64 k), (10, i64 p)], []⟩) := by
        intro hin1
        have hput := fun p => rdL_put (car := car) (tick := tick) hF hlt (by rw [ht]; exact hin1) (p := p)
        have hmem := fun e he => rdL_mem (car := car) (tick := tick) hF hk (e := e) he
        simp only [ht] at hput
        clear outF
        revert hput hmem hll
        generalize rdL ts car tick k = L
        intro hll hmem hput
        obtain ⟨ax, s', ⟨p, rfl, rfl, hp1, hp2, hp3⟩, hin2⟩ : ∃ ax s', (∃ p : Nat, ax = .ex 2 ∧ s' = ⟨[(0, vT ts), (1, i64 car), (2, i64 tick), (7, rdV L), (8, i64 k), (10, i64 p)], []⟩ ∧ p ≤ L.length ∧ (∀ j (h : j < L.length), p ≤ j → t.board < L[j].b) ∧ ∀ (h : 0 < p) (h2 : p - 1 < L.length), L[p - 1].b ≤ t.board) ∧ ∀ s0, nrm [0, 1, 2, 7, 8, 9, 10] [9] s0 = ⟨[(0, vT ts), (1, i64 car), (2, i64 tick), (7, rdV L), (8, i64 k), (9, .loc 9 0 0), (10, i64 L.length)], [(9, ⟨7, [toAV t.cells]⟩)]⟩ → lp (exec Γ M law51_riders_l1) M s0 = some (ax, s') := by
          refine lp_all (fun q : Nat => ⟨[(0, vT ts), (1, i64 car), (2, i64 tick), (7, rdV L), (8, i64 k), (9, .loc 9 0 0), (10, i64 q)], [(9, ⟨7, [toAV t.cells]⟩)]⟩) (fun q => q ≤ L.length ∧ ∀ j (h : j < L.length), q ≤ j → t.board < L[j].b) (fun q => q) _ L.length M (by simp) ⟨by omega, fun j h1 h2 => by omega⟩ (by omega) ?_
          rintro q ⟨hq1, hq2⟩
          by_cases h0 : 0 < q
          · obtain ⟨r, rfl⟩ : ∃ r, q = r + 1 := ⟨q - 1, by omega⟩
            have hr : r < L.length := by omega
            obtain ⟨e, he⟩ : ∃ e, L[r]'hr = e := ⟨_, rfl⟩
            obtain ⟨j, hj, hjk, h4, h5⟩ := hmem e (by rw [← he]; exact List.getElem_mem hr)
            obtain ⟨t2, ht2⟩ : ∃ t2, ts[j]'hj = t2 := ⟨_, rfl⟩
            rw [ht2] at h4
            have hb : t2.board = e.b := by rw [h4]; rfl
            have hi2 : e.i = j := h5
            rw [rdV_pos (by omega)]
            by_cases c : t.board < e.b
            · simp -implicitDefEqProofs (disch := first | omega | assumption) [he, Ev.cells, hi2, ht2, hb, c]
              refine ⟨r, rfl, ⟨by omega, fun m hm1 hm2 => ?_⟩, by omega⟩
              rcases Nat.lt_or_ge r m with x | x
              · exact hq2 m hm1 x
              · obtain rfl : m = r := by omega
                rw [he]; exact c
            · simp -implicitDefEqProofs (disch := first | omega | assumption) [he, Ev.cells, hi2, ht2, hb, c]
              exact ⟨r + 1, rfl, by omega, hq2, fun _ _ => by simp only [Nat.add_sub_cancel]; rw [he]; omega⟩
          · obtain rfl : q = 0 := by omega
            simp -implicitDefEqProofs (disch := first | omega | assumption) []
            exact ⟨0, rfl, by omega, hq2, fun h => absurd h (by omega)⟩
        exact ⟨p, hp1, hput p hp1 hp2 hp3, hin2 _ (by simp)⟩
      have fin : in1 car tick t = true → ∀ p : Nat, p ≤ (rdL ts car tick k).length → rdL ts car tick (k + 1) = putAt (rdL ts car tick k) p (evT t) → ∃ q' : Nat, (AV.c (.vs 1 (((rdL ts car tick k).take p).map Ev.cells ++ [.int .i64 k] :: ((rdL ts car tick k).drop p).map Ev.cells)) = rdV (rdL ts car tick q') ∧ (k : Int) + 1 = q') ∧ q' ≤ ts.length ∧ ts.length - q' < ts.length - k := fun _ p _ h => ⟨k + 1, ⟨by
        rw [h, rdV_pos (by simp only [putAt, List.length_append, List.length_cons]; omega)]
        have := hF.id k hlt
        rw [ht] at this
        simp [putAt, Ev.cells, evT, this], by omega⟩, by omega, by omega⟩
      have v1 := rdV_names 9 (rdL ts car tick k)
      by_cases a1 : t.car = car
      case neg =>
        simp -implicitDefEqProofs (disch := first | omega | assumption) [hlt, ht, v1, a1]
        exact outF (by simp [in1, a1])
      by_cases a2 : 0 ≤ t.board
      case neg =>
        simp -implicitDefEqProofs (disch := first | omega | assumption) [hlt, ht, v1, a1, a2]
        exact outF (by simp [in1, a2])
      by_cases a3 : t.board ≤ tick
      case neg =>
        simp -implicitDefEqProofs (disch := first | omega | assumption) [hlt, ht, v1, a1, a2, a3]
        exact outF (by simp [in1, a3])
      have body : (t.alight < 0 ∨ tick < t.alight) → LPost (fun q : Nat => (⟨[(0, vT ts), (1, i64 car), (2, i64 tick), (7, rdV (rdL ts car tick q)), (8, i64 q)], []⟩ : St)) (fun q => q ≤ ts.length) (fun q => ts.length - q) [0, 1, 2, 7, 8] [] (fun ax s' => ax = .ex 0 ∧ s' = ⟨[(7, rdV (rdL ts car tick ts.length))], []⟩) k (exec Γ M law51_riders_l2b ⟨[(0, vT ts), (1, i64 car), (2, i64 tick), (7, rdV (rdL ts car tick k)), (8, i64 k)], []⟩) := by
        intro a4
        have hin1 : in1 car tick t = true := by
          rcases a4 with h | h <;> simp [in1, a1, a2, a3, h]
        obtain ⟨p, hp, hput, hlp⟩ := inF hin1
        have fin2 := fin hin1 p hp hput
        clear inF outF fin
        have a5 : (!decide (t.alight < 0) && decide (t.alight ≤ tick)) = false := by
          rcases a4 with h | h
          · simp [h]
          · simp; omega
        by_cases hL : 0 < (rdL ts car tick k).length
        · rw [rdV_pos hL] at hlp v1 ⊢
          simp [a1] at hlp
          have hX : ((rdL ts car tick k).map Ev.cells).take p = ((rdL ts car tick k).take p).map Ev.cells := by rw [List.map_take]
          have hY : (((rdL ts car tick k).map Ev.cells).drop p).take ((rdL ts car tick k).length - p) = ((rdL ts car tick k).drop p).map Ev.cells := by rw [← List.map_drop, List.take_of_length_le (by rw [List.length_map, List.length_drop]; omega)]
          have hXl : (((rdL ts car tick k).take p).map Ev.cells).length = p := by rw [List.length_map, List.length_take]; omega
          have hYl : (((rdL ts car tick k).drop p).map Ev.cells).length = (rdL ts car tick k).length - p := by rw [List.length_map, List.length_drop]
          have hRl : ((rdL ts car tick k).map Ev.cells).length = (rdL ts car tick k).length := List.length_map _
          generalize ((rdL ts car tick k).take p).map Ev.cells = X at *
          generalize ((rdL ts car tick k).drop p).map Ev.cells = Y at *
          generalize (rdL ts car tick k).map Ev.cells = R at *
          have hn : (rdL ts car tick k).length ≤ 60 := by omega
          generalize (rdL ts car tick k).length = n at *
          have f0 : p + (n - p + 1) = p + 1 + (n - p) := by omega
          have f1 : (X ++ [.int .i64 k] :: Y).take (p + 1 + (n - p)) = X ++ [.int .i64 k] :: Y := List.take_of_length_le (by rw [List.length_append, List.length_cons]; omega)
          have f2 : allRows (X.map toAV ++ [AV.c (.int .i64 k)] :: Y.map toAV) = some (X ++ [.int .i64 k] :: Y) := by
            rw [show X.map toAV ++ [AV.c (.int .i64 k)] :: Y.map toAV = (X ++ [.int .i64 k] :: Y).map toAV by simp [toAV], allRows_toAV]
          rcases a4 with h | h
          · simp -implicitDefEqProofs (disch := first | omega | assumption) [hlt, ht, v1, a1, a2, a3, h, hlp, hp, hX, hY, hXl, hYl, hRl, f0, f1, f2]
            exact fin2
          · by_cases h2 : t.alight < 0
            · omega
            · simp -implicitDefEqProofs (disch := first | omega | assumption) [hlt, ht, v1, a1, a2, a3, h, h2, hlp, hp, hX, hY, hXl, hYl, hRl, f0, f1, f2]
              exact fin2
        · have hnil : rdL ts car tick k = [] := List.length_eq_zero_iff.1 (by omega)
          rw [hnil] at hlp v1 fin2 hp ⊢
          obtain rfl : p = 0 := by simpa using hp
          rw [rdV_nil] at hlp v1 ⊢
          simp at fin2
          simp [a1] at hlp
          rcases a4 with h | h
          · simp -implicitDefEqProofs (disch := first | omega | assumption) [hlt, ht, v1, a1, a2, a3, h, hlp]
            exact fin2
          · by_cases h2 : t.alight < 0
            · omega
            · simp -implicitDefEqProofs (disch := first | omega | assumption) [hlt, ht, v1, a1, a2, a3, h, h2, hlp]
              exact fin2
      by_cases a4 : t.alight < 0
      · exact body (.inl a4)
      by_cases a5 : tick < t.alight
      · exact body (.inr a5)
      simp -implicitDefEqProofs (disch := first | omega | assumption) [hlt, ht, v1, a1, a2, a3, a4, a5]
      exact outF (by simp [in1, a4, a5])
    · obtain rfl : k = ts.length := by omega
      simp -implicitDefEqProofs (disch := first | omega | assumption)
  have hlp := hin ⟨[(0, vT ts), (1, i64 car), (2, i64 tick), (7, .nil 1), (8, i64 (0 : Nat))], []⟩ (by simp [rdL, evsR, srtE, rdV])
  simp at hlp
  have he : srtE (evsR ts car tick) = rdL ts car tick ts.length := by unfold rdL; rw [List.take_length]
  rw [he]
  generalize rdL ts car tick ts.length = L at *
  by_cases hL : 0 < L.length
  · rw [rdV_pos hL] at hlp
    simp -implicitDefEqProofs (disch := first | omega | (simp <;> fail) | assumption) [hlp]
  · obtain rfl : L = [] := List.length_eq_zero_iff.1 (by omega)
    rw [rdV_nil] at hlp
    simp -implicitDefEqProofs (disch := first | omega | (simp <;> fail) | assumption) [hlp]
end Go.Am.Si
