/- Law 50: the best row; the tables. -/
import Derived.Test.YtkhbfjmckgddeaaGreatDoorBnB
import Derived.Test.YtkhbfjmckgddeaaGreatDoorColsM
set_option linter.unusedVariables false
set_option linter.unusedSimpArgs false
set_option maxRecDepth 10000
set_option maxHeartbeats 2000000
namespace Go.Am
def e0 : En := ⟨1, []⟩
def keyA (es : List En) (i : Nat) : Int := (es.getD i e0).key
def bestK (es : List En) : Nat → Int
  | 0 => -1
  | k + 1 => if bestK es k < 0 ∨ keyA es k < keyA es (bestK es k).toNat then k else bestK es k
theorem bestK_prop (es : List En) : ∀ k : Nat, 0 < k → ∃ i : Nat, bestK es k = i ∧ i < k ∧ (∀ j, j < k → keyA es i ≤ keyA es j) ∧ ∀ j, j < i → keyA es i < keyA es j
  | 0, h => by omega
  | k + 1, _ => by
    rcases Nat.eq_zero_or_pos k with rfl | hk
    · refine ⟨0, by simp [bestK], by omega, fun j hj => ?_, fun j hj => by omega⟩
      obtain rfl : j = 0 := by omega
      exact Int.le_refl _
    · obtain ⟨i, h1, h2, h3, h4⟩ := bestK_prop es k hk
      by_cases c : keyA es k < keyA es i
      · refine ⟨k, ?_, by omega, fun j hj => ?_, fun j hj => ?_⟩
        · rw [bestK, h1, if_pos (.inr (by simpa using c))]
        · by_cases hjk : j = k
          · subst hjk; exact Int.le_refl _
          · have := h3 j (by omega); omega
        · have := h3 j (by omega); omega
      · refine ⟨i, ?_, by omega, fun j hj => ?_, fun j hj => h4 j hj⟩
        · rw [bestK, h1, if_neg]
          rintro (h | h)
          · omega
          · exact c (by simpa using h)
        · by_cases hjk : j = k
          · subst hjk; omega
          · exact h3 j (by omega)
theorem en_get {f : En → List D} {l : List En} {k : Nat} (hlt : k < l.length) {t : En} (h : l[k]'hlt = t) : (l.map f)[k]? = some (f t) := by
  rw [List.getElem?_map, List.getElem?_eq_getElem hlt, h]; rfl
theorem keyA_get {l : List En} {k : Nat} (hlt : k < l.length) {t : En} (h : l[k]'hlt = t) : keyA l k = t.key := by
  unfold keyA; rw [List.getD_eq_getElem?_getD, List.getElem?_eq_getElem hlt, h]; rfl
def BestB (g : List AV → Option (List AV)) : Prop := ∀ es : List En, es.length ≤ 60 → (∀ e ∈ es, e.Ok) → g [.c (.vs 7 (es.map En.rowB))] = some [i64 (bestK es es.length)]
theorem bench_Best_run {Γ : Env} {M : Nat} (hM : 1000 < M) (h1 : BetB (Γ 415)) : BestB (run Γ M bench_Best_f) := by
  intro es hl hok
  obtain ⟨ax, s', ⟨rfl, rfl⟩, hin⟩ : ∃ ax s', (ax = .ex 0 ∧ s' = ⟨[(3, i64 (bestK es es.length))], []⟩) ∧ ∀ s0, nrm [0, 3, 6, 7, 8] [] s0 = ⟨[(0, .c (.vs 7 (es.map En.rowB))), (3, i64 (bestK es 0)), (6, .c (.vs 7 (es.map En.rowB))), (7, i64 es.length), (8, i64 (0 : Nat))], []⟩ → lp (exec Γ M bench_Best_l1) M s0 = some (ax, s') := by
    refine lp_all (fun q : Nat => ⟨[(0, .c (.vs 7 (es.map En.rowB))), (3, i64 (bestK es q)), (6, .c (.vs 7 (es.map En.rowB))), (7, i64 es.length), (8, i64 q)], []⟩) (fun q => q ≤ es.length) (fun q => es.length - q) _ 0 M (by simp) (by simp) (by omega) ?_
    intro k hk
    by_cases hlt : k < es.length
    · obtain ⟨e, he⟩ : ∃ w, es[k]'hlt = w := ⟨_, rfl⟩
      have hrow := en_get (f := En.rowB) hlt he
      have hok1 := hok e (he ▸ List.getElem_mem hlt)
      have hke := keyA_get hlt he
      rcases Nat.eq_zero_or_pos k with rfl | hpos
      · simp only [En.rowB] at hrow
        have hb0 : bestK es 0 = -1 := rfl
        have hb1 : bestK es 1 = 0 := by simp [bestK]
        simp -implicitDefEqProofs (disch := first | omega | assumption) [hlt, hrow, hb0]
        exact ⟨1, ⟨by rw [hb1], by omega⟩, by omega, by omega⟩
      · obtain ⟨i, hi, hik, -⟩ := bestK_prop es k hpos
        obtain ⟨b, hb⟩ : ∃ w, es[i]'(by omega) = w := ⟨_, rfl⟩
        have hrow2 := en_get (f := En.rowB) (by omega) hb
        have hok2 := hok b (hb ▸ List.getElem_mem (by omega))
        have hkb := keyA_get (by omega) hb
        have e1 := h1 e b hok1 hok2
        have hnx : bestK es (k + 1) = if e.key < b.key then (k : Int) else i := by
          rw [bestK, hi, hke, Int.toNat_natCast, hkb]
          by_cases c : e.key < b.key
          · rw [if_pos (.inr c), if_pos c]
          · rw [if_neg (by rintro (h | h); omega; exact c h), if_neg c]
        simp only [En.rowB] at hrow hrow2 e1
        rw [hi]
        have hil : i < es.length := by omega
        have hi0 : ¬ (i : Int) < 0 := by omega
        by_cases c : e.key < b.key
        · rw [if_pos c] at hnx
          simp -implicitDefEqProofs (disch := first | omega | assumption) [hlt, hrow, hrow2, hil, hi0, e1, c]
          exact ⟨k + 1, ⟨by rw [hnx], by omega⟩, by omega, by omega⟩
        · rw [if_neg c] at hnx
          simp -implicitDefEqProofs (disch := first | omega | assumption) [hlt, hrow, hrow2, hil, hi0, e1, c]
          exact ⟨k + 1, ⟨by rw [hnx], by omega⟩, by omega, by omega⟩
    · obtain rfl : k = es.length := by omega
      simp -implicitDefEqProofs (disch := first | omega | assumption)
  have hlp := hin ⟨[(0, .c (.vs 7 (es.map En.rowB))), (3, i64 (-1)), (6, .c (.vs 7 (es.map En.rowB))), (7, i64 es.length), (8, i64 0)], []⟩ (by simp [bestK])
  simp -implicitDefEqProofs (disch := first | omega | assumption) [hlp]
def BestR (g : List AV → Option (List AV)) : Prop := ∀ es : List En, es.length ≤ 60 → (∀ e ∈ es, e.Ok) → g [.c (.vs 6 (es.map En.rowR))] = some [i64 (bestK es es.length)]
def btn (es : List En) (i k : Nat) : Bool := (List.range k).any fun j => decide (keyA es j < keyA es i)
theorem btn_snoc (es : List En) (i k : Nat) : btn es i (k + 1) = (btn es i k || decide (keyA es k < keyA es i)) := by
  unfold btn; rw [List.range_succ, List.any_append]; simp
theorem btn_true {es : List En} {i k : Nat} : btn es i k = true ↔ ∃ j, j < k ∧ keyA es j < keyA es i := by
  unfold btn; rw [List.any_eq_true]
  constructor
  · rintro ⟨j, h1, h2⟩; exact ⟨j, List.mem_range.1 h1, of_decide_eq_true h2⟩
  · rintro ⟨j, h1, h2⟩; exact ⟨j, List.mem_range.2 h1, decide_eq_true h2⟩
theorem ref50_Best_run {Γ : Env} {M : Nat} (hM : 1000 < M) (h1 : BetR (Γ 414)) : BestR (run Γ M ref50_Best_f) := by
  intro es hl hok
  have inner : ∀ (i : Nat) (hi : i < es.length), ∀ s0, nrm [0, 3, 4, 5] [] s0 = ⟨[(0, .c (.vs 6 (es.map En.rowR))), (3, i64 i), (4, bo (btn es i 0)), (5, i64 (0 : Nat))], []⟩ → lp (exec Γ M ref50_Best_l1) M s0 = some (.ex 2, ⟨[(0, .c (.vs 6 (es.map En.rowR))), (3, i64 i), (4, bo (btn es i es.length))], []⟩) := by
    intro i hi
    obtain ⟨b, hb⟩ : ∃ w, es[i]'hi = w := ⟨_, rfl⟩
    have hrow2 := en_get (f := En.rowR) hi hb
    have hok2 := hok b (hb ▸ List.getElem_mem hi)
    have hkb := keyA_get hi hb
    obtain ⟨ax, s', ⟨rfl, rfl⟩, hin⟩ : ∃ ax s', (ax = .ex 2 ∧ s' = ⟨[(0, .c (.vs 6 (es.map En.rowR))), (3, i64 i), (4, bo (btn es i es.length))], []⟩) ∧ ∀ s0, nrm [0, 3, 4, 5] [] s0 = ⟨[(0, .c (.vs 6 (es.map En.rowR))), (3, i64 i), (4, bo (btn es i 0)), (5, i64 (0 : Nat))], []⟩ → lp (exec Γ M ref50_Best_l1) M s0 = some (ax, s') := by
      refine lp_all (fun q : Nat => ⟨[(0, .c (.vs 6 (es.map En.rowR))), (3, i64 i), (4, bo (btn es i q)), (5, i64 q)], []⟩) (fun q => q ≤ es.length) (fun q => es.length - q) _ 0 M (by simp) (by simp) (by omega) ?_
      intro k hk
      by_cases hlt : k < es.length
      · obtain ⟨e, he⟩ : ∃ w, es[k]'hlt = w := ⟨_, rfl⟩
        have hrow := en_get (f := En.rowR) hlt he
        have hok1 := hok e (he ▸ List.getElem_mem hlt)
        have hke := keyA_get hlt he
        have e1 := h1 e b hok1 hok2
        have hs := btn_snoc es i k
        rw [hke, hkb] at hs
        simp only [En.rowR] at hrow hrow2 e1
        cases hB : btn es i k with
        | true =>
          rw [hB, Bool.true_or] at hs
          simp -implicitDefEqProofs (disch := first | omega | assumption) [hlt]
          exact ⟨k + 1, ⟨by rw [hs], by omega⟩, by omega, by omega⟩
        | false =>
          rw [hB, Bool.false_or] at hs
          simp -implicitDefEqProofs (disch := first | omega | assumption) [hlt, hi, hrow, hrow2, e1]
          exact ⟨k + 1, ⟨by rw [hs], by omega⟩, by omega, by omega⟩
      · obtain rfl : k = es.length := by omega
        simp -implicitDefEqProofs (disch := first | omega | assumption)
    exact hin
  obtain ⟨ax, s', hR, hin⟩ : ∃ ax s', ((ax = .ex 0 ∧ s' = ⟨[], []⟩ ∧ ∀ i, i < es.length → btn es i es.length = true) ∨ (∃ i : Nat, i < es.length ∧ ax = .ret ∧ s' = ⟨[(2, i64 i)], []⟩ ∧ btn es i es.length = false ∧ ∀ j, j < i → btn es j es.length = true)) ∧ ∀ s0, nrm [0, 3] [] s0 = ⟨[(0, .c (.vs 6 (es.map En.rowR))), (3, i64 (0 : Nat))], []⟩ → lp (exec Γ M ref50_Best_l2) M s0 = some (ax, s') := by
    refine lp_all (fun q : Nat => ⟨[(0, .c (.vs 6 (es.map En.rowR))), (3, i64 q)], []⟩) (fun q => q ≤ es.length ∧ ∀ i, i < q → btn es i es.length = true) (fun q => es.length - q) _ 0 M (by simp) ⟨by simp, by simp⟩ (by omega) ?_
    rintro k ⟨hk, hq⟩
    by_cases hlt : k < es.length
    · have hlp := inner k hlt ⟨[(0, .c (.vs 6 (es.map En.rowR))), (3, i64 k), (4, bo false), (5, i64 0)], []⟩ (by simp [btn])
      cases hB : btn es k es.length with
      | true =>
        rw [hB] at hlp
        simp -implicitDefEqProofs (disch := first | omega | assumption) [hlt, hlp]
        refine ⟨k + 1, by omega, ⟨by omega, fun i hi => ?_⟩, by omega⟩
        by_cases c : i = k
        · subst c; exact hB
        · exact hq i (by omega)
      | false =>
        rw [hB] at hlp
        simp -implicitDefEqProofs (disch := first | omega | assumption) [hlt, hlp]
        exact ⟨k, hlt, rfl, hB, hq⟩
    · obtain rfl : k = es.length := by omega
      simp -implicitDefEqProofs (disch := first | omega | assumption)
      exact hq
  have hlp := hin ⟨[(0, .c (.vs 6 (es.map En.rowR))), (3, i64 0)], []⟩ (by simp)
  rcases hR with ⟨rfl, rfl, hall⟩ | ⟨i, hi, rfl, rfl, hB, hall⟩
  · rcases Nat.eq_zero_or_pos es.length with h0 | hpos
    · have hb : bestK es es.length = -1 := by rw [h0]; rfl
      rw [hb]
      simp -implicitDefEqProofs (disch := first | omega | assumption) [hlp]
    · obtain ⟨i, -, h2, h3, -⟩ := bestK_prop es es.length hpos
      obtain ⟨j, h5, h6⟩ := btn_true.1 (hall i h2)
      have := h3 j h5
      omega
  · obtain ⟨m, h1', h2, h3, h4⟩ := bestK_prop es es.length (by omega)
    have hmi : m = i := by
      rcases Nat.lt_trichotomy m i with c | c | c
      · obtain ⟨j, h5, h6⟩ := btn_true.1 (hall m c)
        have := h3 j h5
        omega
      · exact c
      · exfalso
        have h7 := h4 i c
        have : btn es i es.length = true := btn_true.2 ⟨m, h2, h7⟩
        rw [hB] at this; exact absurd this (by simp)
    rw [h1', hmi]
    simp -implicitDefEqProofs (disch := first | omega | assumption) [hlp]
/-! ### The tables -/
def disT (d : Int) : List UInt8 := if d = 1 then [99, 111, 108, 108, 101, 99, 116, 105, 118, 101] else if d = 2 then [115, 101, 99, 116, 111, 114, 115] else if d = 3 then [115, 111, 111, 110, 101, 115, 116] else [100, 101, 115, 116, 105, 110, 97, 116, 105, 111, 110]
def DisC8 (g : List AV → Option (List AV)) : Prop := ∀ d : Int, 1 ≤ d → d ≤ 4 → g [i64 d] = some [st (disT d)]
theorem show_Dispatcher_run (Γ : Env) (M : Nat) : DisC8 (run Γ M show_Dispatcher_f) := by
  intro d h1 h2
  unfold disT
  by_cases c1 : d = 1
  · subst c1; simp -implicitDefEqProofs (disch := omega)
  by_cases c2 : d = 2
  · subst c2; simp -implicitDefEqProofs (disch := omega)
  by_cases c3 : d = 3
  · subst c3; simp -implicitDefEqProofs (disch := omega)
  obtain rfl : d = 4 := by omega
  simp -implicitDefEqProofs (disch := omega)
theorem ref27_Dispatcher_run (Γ : Env) (M : Nat) : DisC8 (run Γ M ref27_Dispatcher_f) := by
  intro d h1 h2
  unfold disT
  by_cases c1 : d = 1
  · subst c1; simp -implicitDefEqProofs (disch := omega)
  by_cases c2 : d = 2
  · subst c2; simp -implicitDefEqProofs (disch := omega)
  by_cases c3 : d = 3
  · subst c3; simp -implicitDefEqProofs (disch := omega)
  obtain rfl : d = 4 := by omega
  simp -implicitDefEqProofs (disch := omega)
def hunE (e : En) : Int := 100 * e.wh + 100 * e.rs / e.n
def cellsN (e : En) (s : Bool) : TRow := [disT e.d, txt e.n, if 0 < e.n then fixT (hunE e) else [110, 47, 97], if 0 < e.n then txt e.hi else [110, 47, 97], if s then [42] else [45]]
def headN : TRow := [[100, 105, 115, 112, 97, 116, 99, 104, 101, 114], [100, 101, 108, 105, 118, 101, 114, 101, 100], [119, 97, 105, 116], [112, 57, 53], [98, 101, 115, 116]]
def tabN (es : List En) (b : Int) (k : Nat) : List TRow := headN :: (List.range k).map fun i : Nat => cellsN (es.getD i e0) (decide ((i : Int) = b))
theorem tabN_snoc (es : List En) (b : Int) {k : Nat} (hlt : k < es.length) {e : En} (h : es[k]'hlt = e) : tabN es b (k + 1) = tabN es b k ++ [cellsN e (decide ((k : Int) = b))] := by
  unfold tabN
  rw [List.range_succ, List.map_append]
  have : es.getD k e0 = e := by rw [List.getD_eq_getElem?_getD, List.getElem?_eq_getElem hlt, h]; rfl
  simp only [List.map_cons, List.map_nil, this]
  rfl
theorem tabN_len (es : List En) (b : Int) (k : Nat) : (tabN es b k).length = k + 1 := by unfold tabN; simp
theorem txtN_len {n : Int} (h0 : 0 ≤ n) : (txt n).length ≤ 20 := by
  unfold txt; rw [if_neg (by omega)]; exact dig_len n
theorem disT_len (d : Int) : (disT d).length ≤ 11 := by unfold disT; split; simp; split; simp; split <;> simp
theorem hunE_in {e : En} (h : e.F) (hn : 0 < e.n) : 0 ≤ hunE e ∧ hunE e ≤ 10737418250100 := by
  have h1 := hund_in h.rs.1 (by rcases h.rn with c | c <;> omega)
  have h2 := h.wh
  unfold hunE
  omega
theorem cellsN_small {e : En} (h : e.Ok) (s : Bool) : SmallR (cellsN e s) := by
  have hf := h.f
  constructor
  · simp [cellsN]
  · intro w hw
    simp only [cellsN, List.mem_cons, List.not_mem_nil, or_false] at hw
    have c1 := disT_len e.d
    have c2 := txtN_len hf.n.1
    have c3 := txtN_len hf.hi.1
    rcases hw with rfl | rfl | rfl | rfl | rfl
    · omega
    · omega
    · split
      · have := dig_len (hunE e / 100)
        unfold fixT dig2; simp; omega
      · simp
    · split
      · omega
      · simp
    · split <;> simp
theorem e0_ok : e0.Ok := ⟨by simp [e0], ⟨by simp [e0], by simp [e0]⟩⟩
theorem tabN_small {es : List En} (hl : es.length ≤ 60) (h : ∀ e ∈ es, e.Ok) (b : Int) : Small (tabN es b es.length) := by
  constructor
  · rw [tabN_len]; omega
  · intro r hr
    unfold tabN at hr
    rw [List.mem_cons] at hr
    rcases hr with rfl | hr
    · constructor <;> decide
    · rw [List.mem_map] at hr
      obtain ⟨i, hi, rfl⟩ := hr
      rw [List.mem_range] at hi
      apply cellsN_small
      rw [List.getD_eq_getElem?_getD, List.getElem?_eq_getElem hi]
      exact h _ (List.getElem_mem _)
def trN (rs : List TRow) : Rows := rs.map (toAV ∘ rowQ)
theorem trN_len (rs : List TRow) : (trN rs).length = rs.length := by simp [trN]
theorem trN_snoc (rs : List TRow) (r : TRow) : trN (rs ++ [r]) = trN rs ++ [[vR r]] := by simp [trN, rowQ, toAV]
def BTextC (g : List AV → Option (List AV)) : Prop := ∀ es : List En, es.length ≤ 60 → (∀ e ∈ es, e.Ok) → g [.c (.vs 7 (es.map En.rowB))] = some [st (linesG (wid (tabN es (bestK es es.length) es.length)) (tabN es (bestK es es.length) es.length))]
def RTextC8 (g : List AV → Option (List AV)) : Prop := ∀ es : List En, es.length ≤ 60 → (∀ e ∈ es, e.Ok) → g [.c (.vs 6 (es.map En.rowR))] = some [st (linesG (wid (tabN es (bestK es es.length) es.length)) (tabN es (bestK es es.length) es.length))]
theorem bench_Text_run {Γ : Env} {M : Nat} (hM : 1000 < M) (h1 : BestB (Γ 409)) (h2 : HundC (Γ 386)) (h3 : FixC (Γ 385)) (h4 : Of (Γ 50)) (h5 : DisC8 (Γ 44)) (h6 : TextC16 (Γ 183)) : BTextC (run Γ M bench_Text_f) := by
  intro es hl hok
  have eB := h1 es hl hok
  obtain ⟨b, hb⟩ : ∃ b, bestK es es.length = b := ⟨_, rfl⟩
  rw [hb] at eB ⊢
  have hT := h6 _ (tabN_small hl hok b)
  obtain ⟨ax, s', ⟨rfl, rfl⟩, hin⟩ : ∃ ax s', (ax = .ex 0 ∧ s' = ⟨[(3, .sl 13 (es.length + 1) 0 (es.length + 1))], [(13, ⟨1, trN (tabN es b es.length)⟩)]⟩) ∧ ∀ s0, nrm [3, 4, 16, 17, 18] [3, 13, 53] s0 = ⟨[(3, .sl 13 (0 + 1) 0 (0 + 1)), (4, i64 b), (16, .c (.vs 7 (es.map En.rowB))), (17, i64 es.length), (18, i64 (0 : Nat))], [(13, ⟨1, trN (tabN es b 0)⟩)]⟩ → lp (exec Γ M bench_Text_l1) M s0 = some (ax, s') := by
    refine lp_all (fun q : Nat => ⟨[(3, .sl 13 (q + 1) 0 (q + 1)), (4, i64 b), (16, .c (.vs 7 (es.map En.rowB))), (17, i64 es.length), (18, i64 q)], [(13, ⟨1, trN (tabN es b q)⟩)]⟩) (fun q => q ≤ es.length) (fun q => es.length - q) _ 0 M (by simp) (by simp) (by omega) ?_
    intro k hk
    by_cases hlt : k < es.length
    · obtain ⟨e, he⟩ : ∃ w, es[k]'hlt = w := ⟨_, rfl⟩
      have hrow := en_get (f := En.rowB) hlt he
      have hok1 := hok e (he ▸ List.getElem_mem hlt)
      have hf := hok1.f
      have hsn := tabN_snoc es b hlt he
      have hrl := trN_len (tabN es b k)
      rw [tabN_len] at hrl
      have hrn : ∀ z, nmRows z (trN (tabN es b k)) = true := fun z => nmRows_comp z rowQ _
      have hrc : ∀ z, lcRows z (trN (tabN es b k)) = true := fun z => lcRows_comp z rowQ _
      have hgoal : trN (tabN es b (k + 1)) = trN (tabN es b k) ++ [[vR (cellsN e (decide ((k : Int) = b)))]] := by rw [hsn, trN_snoc]
      have hcr : cellsN e (decide ((k : Int) = b)) = [disT e.d, txt e.n, if 0 < e.n then fixT (hunE e) else [110, 47, 97], if 0 < e.n then txt e.hi else [110, 47, 97], if (decide ((k : Int) = b)) = true then [42] else [45]] := rfl
      rw [hcr] at hgoal
      have a1 := h5 e.d hok1.d.1 hok1.d.2
      have a2 := h4 e.n ⟨by have := hf.n; omega, by have := hf.n; omega⟩
      simp only [En.rowB] at hrow
      generalize trN (tabN es b k) = G at *
      generalize disT e.d = c1 at *
      by_cases hn : 0 < e.n
      · have a3 := h4 e.hi ⟨by have := hf.hi; omega, by have := hf.hi; omega⟩
        have a4 := h2 e.wh e.rs e.n hf.wh.1 (by have := hf.wh; omega) hf.rs.1 (by rcases hf.rn with c | c <;> omega) (by have := hf.n; omega)
        have hu := hunE_in hf hn
        rw [show 100 * e.wh + 100 * e.rs / e.n = hunE e from rfl] at a4
        have a5 := h3 (hunE e) hu.1 (by omega)
        simp only [if_pos hn] at hgoal
        simp only [fracD] at a4
        generalize hunE e = H at *
        generalize fixT H = T at *
        by_cases c : (k : Int) = b
        · subst c
          simp only [decide_true, if_true] at hgoal
          simp -implicitDefEqProofs (disch := first | omega | (simp [hrl, hrc, hrn] <;> fail) | assumption) [hlt, hrow, a1, a2, a3, a4, a5, hn, hrl, hrc, hrn]
          exact ⟨k + 1, ⟨⟨by omega, by omega⟩, hgoal.symm⟩, by omega, by omega⟩
        · simp only [c, decide_false, Bool.false_eq_true, if_false] at hgoal
          simp -implicitDefEqProofs (disch := first | omega | (simp [hrl, hrc, hrn] <;> fail) | assumption) [hlt, hrow, a1, a2, a3, a4, a5, hn, hrl, hrc, hrn, c]
          exact ⟨k + 1, ⟨⟨by omega, by omega⟩, hgoal.symm⟩, by omega, by omega⟩
      · simp only [if_neg hn] at hgoal
        by_cases c : (k : Int) = b
        · subst c
          simp only [decide_true, if_true] at hgoal
          simp -implicitDefEqProofs (disch := first | omega | (simp [hrl, hrc, hrn] <;> fail) | assumption) [hlt, hrow, a1, a2, hn, hrl, hrc, hrn]
          exact ⟨k + 1, ⟨⟨by omega, by omega⟩, hgoal.symm⟩, by omega, by omega⟩
        · simp only [c, decide_false, Bool.false_eq_true, if_false] at hgoal
          simp -implicitDefEqProofs (disch := first | omega | (simp [hrl, hrc, hrn] <;> fail) | assumption) [hlt, hrow, a1, a2, hn, hrl, hrc, hrn, c]
          exact ⟨k + 1, ⟨⟨by omega, by omega⟩, hgoal.symm⟩, by omega, by omega⟩
    · obtain rfl : k = es.length := by omega
      simp -implicitDefEqProofs (disch := first | omega | assumption)
  have hlp := hin ⟨[(3, .sl 13 1 0 1), (4, i64 b), (16, .c (.vs 7 (es.map En.rowB))), (17, i64 es.length), (18, i64 0)], [(13, ⟨1, [[vR headN]]⟩)]⟩ (by simp [tabN, trN, rowQ, toAV])
  simp only [vR, headN, List.map_cons, List.map_nil, txQ] at hlp
  have ha := allRows_comp rowQ (tabN es b es.length)
  have hrl := trN_len (tabN es b es.length)
  rw [tabN_len] at hrl
  have hF2 : ((tabN es b es.length).map rowQ).take (es.length + 1) = (tabN es b es.length).map rowQ := by rw [List.take_of_length_le]; rw [List.length_map, tabN_len]; omega
  rw [show (tabN es b es.length).map (toAV ∘ rowQ) = trN (tabN es b es.length) from rfl] at ha
  generalize trN (tabN es b es.length) = G at *
  generalize linesG (wid (tabN es b es.length)) (tabN es b es.length) = T at *
  simp only [vRs] at hT
  generalize (tabN es b es.length).map rowQ = K at *
  simp -implicitDefEqProofs (disch := first | omega | assumption) [eB, hlp, ha, hrl, hF2, hT]
theorem ref50_Text_run {Γ : Env} {M : Nat} (hM : 1000 < M) (h1 : BestR (Γ 410)) (h2 : HundC (Γ 373)) (h3 : FixC (Γ 372)) (h4 : Of (Γ 6)) (h5 : DisC8 (Γ 45)) (h6 : TextC16 (Γ 184)) : RTextC8 (run Γ M ref50_Text_f) := by
  intro es hl hok
  have eB := h1 es hl hok
  obtain ⟨b, hb⟩ : ∃ b, bestK es es.length = b := ⟨_, rfl⟩
  rw [hb] at eB ⊢
  have hT := h6 _ (tabN_small hl hok b)
  obtain ⟨ax, s', ⟨rfl, rfl⟩, hin⟩ : ∃ ax s', (ax = .ex 0 ∧ s' = ⟨[(3, .sl 11 (es.length + 1) 0 (es.length + 1))], [(11, ⟨1, trN (tabN es b es.length)⟩)]⟩) ∧ ∀ s0, nrm [0, 3, 4] [3, 11, 63] s0 = ⟨[(0, .c (.vs 6 (es.map En.rowR))), (3, .sl 11 (0 + 1) 0 (0 + 1)), (4, i64 (0 : Nat))], [(11, ⟨1, trN (tabN es b 0)⟩)]⟩ → lp (exec Γ M ref50_Text_l1) M s0 = some (ax, s') := by
    refine lp_all (fun q : Nat => ⟨[(0, .c (.vs 6 (es.map En.rowR))), (3, .sl 11 (q + 1) 0 (q + 1)), (4, i64 q)], [(11, ⟨1, trN (tabN es b q)⟩)]⟩) (fun q => q ≤ es.length) (fun q => es.length - q) _ 0 M (by simp) (by simp) (by omega) ?_
    intro k hk
    by_cases hlt : k < es.length
    · obtain ⟨e, he⟩ : ∃ w, es[k]'hlt = w := ⟨_, rfl⟩
      have hrow := en_get (f := En.rowR) hlt he
      have hok1 := hok e (he ▸ List.getElem_mem hlt)
      have hf := hok1.f
      have hsn := tabN_snoc es b hlt he
      have hrl := trN_len (tabN es b k)
      rw [tabN_len] at hrl
      have hrn : ∀ z, nmRows z (trN (tabN es b k)) = true := fun z => nmRows_comp z rowQ _
      have hrc : ∀ z, lcRows z (trN (tabN es b k)) = true := fun z => lcRows_comp z rowQ _
      have hgoal : trN (tabN es b (k + 1)) = trN (tabN es b k) ++ [[vR (cellsN e (decide ((k : Int) = b)))]] := by rw [hsn, trN_snoc]
      have hcr : cellsN e (decide ((k : Int) = b)) = [disT e.d, txt e.n, if 0 < e.n then fixT (hunE e) else [110, 47, 97], if 0 < e.n then txt e.hi else [110, 47, 97], if (decide ((k : Int) = b)) = true then [42] else [45]] := rfl
      rw [hcr] at hgoal
      have a1 := h5 e.d hok1.d.1 hok1.d.2
      have a2 := h4 e.n ⟨by have := hf.n; omega, by have := hf.n; omega⟩
      simp only [En.rowR] at hrow
      generalize trN (tabN es b k) = G at *
      generalize disT e.d = c1 at *
      by_cases hn : 0 < e.n
      · have a3 := h4 e.hi ⟨by have := hf.hi; omega, by have := hf.hi; omega⟩
        have a4 := h2 e.wh e.rs e.n hf.wh.1 (by have := hf.wh; omega) hf.rs.1 (by rcases hf.rn with c | c <;> omega) (by have := hf.n; omega)
        have hu := hunE_in hf hn
        rw [show 100 * e.wh + 100 * e.rs / e.n = hunE e from rfl] at a4
        have a5 := h3 (hunE e) hu.1 (by omega)
        simp only [if_pos hn] at hgoal
        simp only [fracD] at a4
        generalize hunE e = H at *
        generalize fixT H = T at *
        by_cases c : (k : Int) = b
        · subst c
          simp only [decide_true, if_true] at hgoal
          simp -implicitDefEqProofs (disch := first | omega | (simp [hrl, hrc, hrn] <;> fail) | assumption) [hlt, hrow, a1, a2, a3, a4, a5, hn, hrl, hrc, hrn, eB]
          exact ⟨k + 1, ⟨⟨by omega, by omega⟩, hgoal.symm⟩, by omega, by omega⟩
        · simp only [c, decide_false, Bool.false_eq_true, if_false] at hgoal
          simp -implicitDefEqProofs (disch := first | omega | (simp [hrl, hrc, hrn] <;> fail) | assumption) [hlt, hrow, a1, a2, a3, a4, a5, hn, hrl, hrc, hrn, c, eB]
          exact ⟨k + 1, ⟨⟨by omega, by omega⟩, hgoal.symm⟩, by omega, by omega⟩
      · simp only [if_neg hn] at hgoal
        by_cases c : (k : Int) = b
        · subst c
          simp only [decide_true, if_true] at hgoal
          simp -implicitDefEqProofs (disch := first | omega | (simp [hrl, hrc, hrn] <;> fail) | assumption) [hlt, hrow, a1, a2, hn, hrl, hrc, hrn, eB]
          exact ⟨k + 1, ⟨⟨by omega, by omega⟩, hgoal.symm⟩, by omega, by omega⟩
        · simp only [c, decide_false, Bool.false_eq_true, if_false] at hgoal
          simp -implicitDefEqProofs (disch := first | omega | (simp [hrl, hrc, hrn] <;> fail) | assumption) [hlt, hrow, a1, a2, hn, hrl, hrc, hrn, c, eB]
          exact ⟨k + 1, ⟨⟨by omega, by omega⟩, hgoal.symm⟩, by omega, by omega⟩
    · obtain rfl : k = es.length := by omega
      simp -implicitDefEqProofs (disch := first | omega | assumption)
  have hlp := hin ⟨[(0, .c (.vs 6 (es.map En.rowR))), (3, .sl 11 1 0 1), (4, i64 0)], [(11, ⟨1, [[vR headN]]⟩)]⟩ (by simp [tabN, trN, rowQ, toAV])
  simp only [vR, headN, List.map_cons, List.map_nil, txQ] at hlp
  have ha := allRows_comp rowQ (tabN es b es.length)
  have hrl := trN_len (tabN es b es.length)
  rw [tabN_len] at hrl
  have hF2 : ((tabN es b es.length).map rowQ).take (es.length + 1) = (tabN es b es.length).map rowQ := by rw [List.take_of_length_le]; rw [List.length_map, tabN_len]; omega
  rw [show (tabN es b es.length).map (toAV ∘ rowQ) = trN (tabN es b es.length) from rfl] at ha
  generalize trN (tabN es b es.length) = G at *
  generalize linesG (wid (tabN es b es.length)) (tabN es b es.length) = T at *
  simp only [vRs] at hT
  generalize (tabN es b es.length).map rowQ = K at *
  simp -implicitDefEqProofs (disch := first | omega | assumption) [hlp, ha, hrl, hF2, hT]
end Go.Am
