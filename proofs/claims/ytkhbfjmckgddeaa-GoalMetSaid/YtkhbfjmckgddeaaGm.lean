/- Law 59: whether goals are met; GoalMet. -/
import Derived.Test.YtkhbfjmckgddeaaTrw
set_option linter.unusedVariables false
set_option linter.unusedSimpArgs false
set_option maxRecDepth 10000
set_option maxHeartbeats 1000000
namespace Go.Am
structure Gl where
  of : Int
  p : Int
  most : Int
def Gl.cells (g : Gl) : List D := [.int .i64 g.of, .int .i64 g.p, .int .i64 g.most]
structure Gl.Right (g : Gl) : Prop where
  of : g.of = 1 ∨ g.of = 2 ∨ (g.of = 3 ∧ g.p = 0)
  p : 0 ≤ g.p ∧ g.p ≤ 100
  most : 0 ≤ g.most ∧ g.most ≤ 1048576
def ctGl : List CT := [ctI, ctI, ctI]
theorem gl_row (r : List D) (h : All2 WT ctGl r) : ∃ t : Gl, r = t.cells ∧ True := by
  simp only [ctGl, all2_cons, all2_nil, wt_i64] at h
  obtain ⟨_, _, rfl, ⟨a, rfl, ha⟩, _, _, rfl, ⟨b, rfl, hb⟩, _, _, rfl, ⟨c, rfl, hc⟩, rfl⟩ := h
  exact ⟨⟨a, b, c⟩, rfl, trivial⟩
theorem wt_gls {d : D} (h : WT (.sl ctGl) d) : ∃ l : List Gl, AV.c d = .c (.vs 3 (l.map Gl.cells)) := by
  rw [wt_sl] at h
  obtain ⟨rows, rfl, hl, h⟩ := h
  obtain ⟨ts, rfl, -⟩ := rows_map gl_row rows h
  exact ⟨ts, rfl⟩
theorem wt_trips {d : D} (h : WT (.sl ctTrip) d) : ∃ l : List Trip, AV.c d = vT l := by
  rw [wt_sl] at h
  obtain ⟨rows, rfl, hl, h⟩ := h
  obtain ⟨ts, rfl, -⟩ := rows_map trip_row rows h
  exact ⟨ts, rfl⟩
/-! ### Plain -/
theorem cntI_mono {a b : Int} (h : a ≤ b) (l : List Int) : cntI a l ≤ cntI b l := by
  induction l with
  | nil => simp [cntI]
  | cons x l ih =>
    have e : ∀ n, cntI n (x :: l) = (if x ≤ n then 1 else 0) + cntI n l := fun n => by
      unfold cntI
      by_cases c : x ≤ n <;> simp [c]; omega
    rw [e, e]
    split <;> split <;> omega
def metN (p m : Int) (l : List Int) : Bool := if l = [] then true else if 0 < p then decide (ofP p l ≤ m) else decide (l.sum ≤ m * l.length)
def metG (g : Gl) (l : List Trip) : Bool := if g.of = 1 then metN g.p g.most (wt true l) else if g.of = 2 then metN g.p g.most (wt false l) else decide (g.most * l.length ≤ 100 * cntP 2 l)
def metW (p m : Int) (w : List Int) : Bool := if p = 0 then decide (w.sum ≤ m * w.length) else decide (p * w.length ≤ 100 * cntI m w)
def metR (g : Gl) (l : List Trip) : Bool := if g.of = 3 then decide (g.most * l.length ≤ 100 * cntP 2 l) else metW g.p g.most (wt (decide (g.of = 1)) l)
theorem metN_eq {p m : Int} (hp : 0 ≤ p ∧ p ≤ 100) (w : List Int) : metN p m w = metW p m w := by
  unfold metN metW
  by_cases h0 : w = []
  · subst h0
    by_cases c : p = 0 <;> simp [c, cntI]
  · rw [if_neg h0]
    by_cases c : p = 0
    · subst c; simp
    · have hp1 : 1 ≤ p ∧ p ≤ 100 := by omega
      rw [if_pos (by omega), if_neg c]
      congr 1
      rw [eq_iff_iff]
      constructor
      · intro h
        have h1 := ofP_enough hp1 h0
        have h2 := cntI_mono h w
        omega
      · intro h
        by_cases c2 : ofP p w ≤ m
        · exact c2
        · have := ofP_least hp1 h0 (show m < ofP p w by omega)
          omega
theorem met_eq {g : Gl} (h : g.Right) (l : List Trip) : metG g l = metR g l := by
  unfold metG metR
  rcases h.of with c | c | ⟨c, -⟩
  · simp [c, metN_eq h.p]
  · simp [c, metN_eq h.p]
  · simp [c]
theorem sum_in {b : Int} (hb : 0 ≤ b) : ∀ l : List Int, (∀ x ∈ l, -b ≤ x ∧ x ≤ b) → -(b * l.length) ≤ l.sum ∧ l.sum ≤ b * l.length
  | [], _ => by simp
  | x :: l, h => by
    have h1 := h x (by simp)
    have h2 := sum_in hb l fun y hy => h y (by simp [hy])
    simp only [List.sum_cons, List.length_cons]
    have h3 : b * ((l.length + 1 : Nat) : Int) = b * l.length + b := by rw [Int.natCast_add, Int.mul_add]; simp
    omega
theorem sum_snoc (l : List Int) (k : Nat) (h : k < l.length) : (l.take (k + 1)).sum = (l.take k).sum + l[k] := by
  rw [List.take_succ_eq_append_getElem h, List.sum_append]; simp
theorem take_sum_in {l : List Int} (hl : l.length ≤ 100) (h : ∀ x ∈ l, -1073741825 ≤ x ∧ x ≤ 1073741825) (k : Nat) : -107374182500 ≤ (l.take k).sum ∧ (l.take k).sum ≤ 107374182500 := by
  have h1 := sum_in (b := 1073741825) (by omega) (l.take k) fun x hx => h x (List.mem_of_mem_take hx)
  have h2 : (l.take k).length ≤ 100 := by rw [List.length_take]; omega
  generalize (l.take k).length = n at *
  omega
theorem mul_in {m : Int} {n : Nat} (h0 : 0 ≤ m) (h : m ≤ 1048576) (hn : n ≤ 100) : 0 ≤ m * n ∧ m * n ≤ 104857600 := by
  have h1 : 0 ≤ m * n := Int.mul_nonneg h0 (by omega)
  have h2 : m * n ≤ 1048576 * n := Int.mul_le_mul_of_nonneg_right h (by omega)
  omega
/-! ### Walks -/
def NumC (g : List AV → Option (List AV)) : Prop := ∀ (x : Gl) (w : List Int), 0 ≤ x.p → x.p ≤ 100 → 0 ≤ x.most → x.most ≤ 1048576 → w.length ≤ 100 → (∀ x ∈ w, -1073741825 ≤ x ∧ x ≤ 1073741825) → g [.agg x.cells, vI w] = some [bo (metN x.p x.most w)]
theorem goal_numbers_run (Γ : Env) (M : Nat) (hM : 1000 < M) (hO : OfC15 (Γ 252)) : NumC (run Γ M goal_numbers_f) := by
  rintro ⟨o, p, m⟩ w hp0 hp hm0 hm hw hwi
  simp only at hp0 hp hm0 hm
  have hmi := mul_in hm0 hm hw
  unfold metN
  by_cases h0 : w = []
  · subst h0
    simp -implicitDefEqProofs (disch := omega) [Gl.cells]
  · have hwl := List.length_pos_iff.2 h0
    have h0' : ¬ (w.length : Int) = 0 := by omega
    by_cases hp1 : 0 < p
    · have e := hO p w ⟨by omega, by omega⟩ (by omega)
      rw [if_pos ⟨by omega, by omega, h0⟩] at e
      simp -implicitDefEqProofs (disch := omega) [Gl.cells, h0, h0', hp1, e]
    · obtain ⟨ax, s', ⟨rfl, rfl⟩, hin⟩ : ∃ ax s', (ax = .ex 0 ∧ s' = ⟨[(1, vI w), (2, .loc 2 0 0), (7, i64 w.sum)], [(2, ⟨3, [[i64 o, i64 p, i64 m]]⟩)]⟩) ∧ ∀ s0, nrm [1, 2, 7, 27, 28, 29] [2] s0 = ⟨[(1, vI w), (2, .loc 2 0 0), (7, i64 (w.take 0).sum), (27, vI w), (28, i64 w.length), (29, i64 (0 : Nat))], [(2, ⟨3, [[i64 o, i64 p, i64 m]]⟩)]⟩ → lp (exec Γ M goal_numbers_l1) M s0 = some (ax, s') := by
        refine lp_all (fun q : Nat => ⟨[(1, vI w), (2, .loc 2 0 0), (7, i64 (w.take q).sum), (27, vI w), (28, i64 w.length), (29, i64 q)], [(2, ⟨3, [[i64 o, i64 p, i64 m]]⟩)]⟩) (fun q => q ≤ w.length) (fun q => w.length - q) _ 0 M (by simp) (by simp) (by omega) ?_
        intro k hk
        by_cases hlt : k < w.length
        · obtain ⟨z, hz⟩ : ∃ z, w[k]'hlt = z := ⟨_, rfl⟩
          have hs := sum_snoc w k hlt
          rw [hz] at hs
          have h1 := take_sum_in hw hwi k
          have h2 := hwi z (hz ▸ List.getElem_mem hlt)
          generalize (w.take k).sum = S at *
          simp -implicitDefEqProofs (disch := first | omega | assumption) [hlt, hz, intD]
          exact ⟨k + 1, ⟨by omega, by omega⟩, by omega, by omega⟩
        · obtain rfl : k = w.length := by omega
          rw [List.take_length]
          simp -implicitDefEqProofs (disch := first | omega | assumption)
      have hlp := hin ⟨[(1, vI w), (2, .loc 2 0 0), (7, i64 0), (27, vI w), (28, i64 w.length), (29, i64 0)], [(2, ⟨3, [[i64 o, i64 p, i64 m]]⟩)]⟩ (by simp)
      simp -implicitDefEqProofs (disch := first | omega | assumption) [Gl.cells, h0, h0', hp1, hlp]
def MetC (f : Gl → List Trip → Bool) (g : List AV → Option (List AV)) : Prop := ∀ (x : Gl) (l : List Trip), x.Right → Gd l → g [.agg x.cells, vT l] = some [bo (f x l)]
def MetCG (g : List AV → Option (List AV)) : Prop := ∀ (x : Gl) (l : List Trip), x.Right → Gd l → g [.agg x.cells, vT l] = some [bo (metG x l)]
def MetCR (g : List AV → Option (List AV)) : Prop := ∀ (x : Gl) (l : List Trip), x.Right → Gd l → g [.agg x.cells, vT l] = some [bo (metR x l)]
theorem goal_Met_run {Γ : Env} {M : Nat} (h1 : NumC (Γ 404)) (h2 : WaitsT (Γ 405)) (h3 : WaitsF (Γ 406)) (h4 : CountsC (Γ 403)) : MetCG (run Γ M goal_Met_f) := by
  rintro ⟨o, p, m⟩ l ⟨ho, hp, hm⟩ hg
  simp only at ho hp hm
  have e2 := h2 l hg
  have e3 := h3 l hg
  have e4 := h4 l hg.n
  have l2 := wt_len true l
  have l3 := wt_len false l
  have hgn := hg.n
  have n2 := h1 ⟨o, p, m⟩ (wt true l) hp.1 hp.2 hm.1 hm.2 (by omega) (wt_in hg true)
  have n3 := h1 ⟨o, p, m⟩ (wt false l) hp.1 hp.2 hm.1 hm.2 (by omega) (wt_in hg false)
  have hmi := mul_in hm.1 hm.2 hgn
  have hc := cntP_le 2 l
  unfold metG
  simp only [Gl.cells] at n2 n3 ⊢
  generalize wt true l = W2 at *
  generalize wt false l = W3 at *
  generalize cntP 2 l = C2 at *
  rcases ho with rfl | rfl | ⟨rfl, rfl⟩
  · simp -implicitDefEqProofs (disch := omega) [e2, n2]
  · simp -implicitDefEqProofs (disch := omega) [e3, n3]
  · simp -implicitDefEqProofs (disch := omega) [e4]
theorem ref59_Met_run {Γ : Env} {M : Nat} (hM : 1000 < M) (h1 : ManyC24 (Γ 402)) (h2 : RWaitsC (Γ 401)) : MetCR (run Γ M ref59_Met_f) := by
  rintro ⟨o, p, m⟩ l ⟨ho, hp, hm⟩ hg
  simp only at ho hp hm
  have hgn := hg.n
  have e1 := h1 l 2 hgn
  have hc := cntP_le 2 l
  have hmi := mul_in hm.1 hm.2 hgn
  unfold metR
  simp only [Gl.cells]
  by_cases h3 : o = 3
  · subst h3
    generalize cntP 2 l = C2 at *
    simp -implicitDefEqProofs (disch := omega) [e1]
  · have e2 := h2 l (decide (o = 1)) hg
    have hwl := wt_len (decide (o = 1)) l
    have hwi := wt_in hg (decide (o = 1))
    unfold metW
    generalize wt (decide (o = 1)) l = w at *
    have hw : w.length ≤ 100 := by omega
    have hmi2 := mul_in hm.1 hm.2 hw
    have hmi3 := mul_in (m := p) hp.1 (by omega) hw
    have hcn := cnt_le m w
    obtain ⟨ax, s', ⟨rfl, rfl⟩, hin⟩ : ∃ ax s', (ax = .ex 0 ∧ s' = ⟨[(2, .loc 2 0 0), (5, vI w), (6, i64 w.sum), (7, i64 (cntI m w))], [(2, ⟨3, [[i64 o, i64 p, i64 m]]⟩)]⟩) ∧ ∀ s0, nrm [2, 5, 6, 7, 8] [2] s0 = ⟨[(2, .loc 2 0 0), (5, vI w), (6, i64 (w.take 0).sum), (7, i64 (cntI m (w.take 0))), (8, i64 (0 : Nat))], [(2, ⟨3, [[i64 o, i64 p, i64 m]]⟩)]⟩ → lp (exec Γ M ref59_Met_l1) M s0 = some (ax, s') := by
      refine lp_all (fun q : Nat => ⟨[(2, .loc 2 0 0), (5, vI w), (6, i64 (w.take q).sum), (7, i64 (cntI m (w.take q))), (8, i64 q)], [(2, ⟨3, [[i64 o, i64 p, i64 m]]⟩)]⟩) (fun q => q ≤ w.length) (fun q => w.length - q) _ 0 M (by simp) (by simp) (by omega) ?_
      intro k hk
      by_cases hlt : k < w.length
      · obtain ⟨z, hz⟩ : ∃ z, w[k]'hlt = z := ⟨_, rfl⟩
        have hs := sum_snoc w k hlt
        have hs2 := cnt_snoc m (w.take k) w[k]
        rw [← List.take_succ_eq_append_getElem hlt] at hs2
        have hcl := cnt_le m (w.take k)
        rw [List.length_take] at hcl
        rw [hz] at hs hs2
        have h1 := take_sum_in hw hwi k
        have h2 := hwi z (hz ▸ List.getElem_mem hlt)
        generalize (w.take k).sum = S at *
        generalize cntI m (w.take k) = C at *
        by_cases c : z ≤ m
        · rw [if_pos c] at hs2
          simp -implicitDefEqProofs (disch := first | omega | assumption) [hlt, hz, intD, c]
          exact ⟨k + 1, ⟨by omega, by omega, by omega⟩, by omega, by omega⟩
        · rw [if_neg c] at hs2
          simp -implicitDefEqProofs (disch := first | omega | assumption) [hlt, hz, intD, c]
          exact ⟨k + 1, ⟨by omega, by omega, by omega⟩, by omega, by omega⟩
      · obtain rfl : k = w.length := by omega
        rw [List.take_length]
        simp -implicitDefEqProofs (disch := first | omega | assumption)
    have hlp := hin ⟨[(2, .loc 2 0 0), (5, vI w), (6, i64 0), (7, i64 0), (8, i64 0)], [(2, ⟨3, [[i64 o, i64 p, i64 m]]⟩)]⟩ (by simp [cntI])
    by_cases c : p = 0
    · subst c
      simp -implicitDefEqProofs (disch := first | omega | assumption) [h3, e2, hlp]
    · simp -implicitDefEqProofs (disch := first | omega | assumption) [h3, e2, hlp, c]
/-! ### The law -/
theorem gl_get {l : List Gl} {k : Nat} (hlt : k < l.length) {t : Gl} (h : l[k]'hlt = t) : (l.map Gl.cells)[k]? = some t.cells := by
  rw [List.getElem?_map, List.getElem?_eq_getElem hlt, h]; rfl
/-- The places of goals that aren't met, of the first k. -/
def failF (f : Gl → Bool) (gs : List Gl) (k : Nat) : List Int := ((List.range k).filter fun i => !(f (gs.getD i ⟨0, 0, 0⟩))).map fun i : Nat => (i : Int)
theorem failF_snoc (f : Gl → Bool) (gs : List Gl) (k : Nat) (h : k < gs.length) {t : Gl} (ht : gs[k] = t) : failF f gs (k + 1) = failF f gs k ++ if f t then [] else [(k : Int)] := by
  unfold failF
  rw [List.range_succ, List.filter_append, List.map_append]
  congr 1
  have : gs.getD k ⟨0, 0, 0⟩ = t := by rw [List.getD_eq_getElem?_getD, List.getElem?_eq_getElem h, ht]; rfl
  cases c : f t <;> simp only [List.filter_cons, List.filter_nil, this, c, Bool.not_true, Bool.not_false, if_true, if_false, Bool.false_eq_true, List.map_cons, List.map_nil]
theorem failF_len (f : Gl → Bool) (gs : List Gl) (k : Nat) : (failF f gs k).length ≤ k := by
  unfold failF; rw [List.length_map]; exact Nat.le_trans (List.length_filter_le _ _) (by simp)
theorem failF_congr {f g : Gl → Bool} {gs : List Gl} (h : ∀ x ∈ gs, f x = g x) {k : Nat} (hk : k ≤ gs.length) : failF f gs k = failF g gs k := by
  unfold failF
  congr 1
  apply List.filter_congr
  intro i hi
  rw [List.mem_range] at hi
  have : gs.getD i ⟨0, 0, 0⟩ = gs[i] := by rw [List.getD_eq_getElem?_getD, List.getElem?_eq_getElem (by omega)]; rfl
  rw [this, h _ (List.getElem_mem _)]
def FailC (g : List AV → Option (List AV)) : Prop := ∀ (gs : List Gl) (l : List Trip), gs.length ≤ 60 → (∀ x ∈ gs, x.Right) → Gd l → g [.c (.vs 3 (gs.map Gl.cells)), vT l] = some [vI (failF (metG · l) gs gs.length)]
theorem goal_Failed_run {Γ : Env} {M : Nat} (hM : 1000 < M) (h1 : MetCG (Γ 398)) : FailC (run Γ M goal_Failed_f) := by
  intro gs l hgl hr hg
  obtain ⟨F, hF⟩ : ∃ F, (fun k => failF (metG · l) gs k) = F := ⟨_, rfl⟩
  have hFk : ∀ k, failF (metG · l) gs k = F k := fun k => congrFun hF k
  have hF0 : F 0 = [] := by rw [← hFk]; rfl
  rw [hFk]
  obtain ⟨ax, s', ⟨rfl, rfl⟩, hin⟩ : ∃ ax s', (ax = .ex 0 ∧ s' = ⟨[(5, .sl 5 (F gs.length).length 0 (F gs.length).length)], [(5, ⟨1, intRows (F gs.length)⟩)]⟩) ∧ ∀ s0, nrm [1, 5, 8, 9, 10] [5, 22] s0 = ⟨[(1, vT l), (5, .sl 5 (F 0).length 0 (F 0).length), (8, .c (.vs 3 (gs.map Gl.cells))), (9, i64 gs.length), (10, i64 (0 : Nat))], [(5, ⟨1, intRows (F 0)⟩)]⟩ → lp (exec Γ M goal_Failed_l1) M s0 = some (ax, s') := by
    refine lp_all (fun q : Nat => ⟨[(1, vT l), (5, .sl 5 (F q).length 0 (F q).length), (8, .c (.vs 3 (gs.map Gl.cells))), (9, i64 gs.length), (10, i64 q)], [(5, ⟨1, intRows (F q)⟩)]⟩) (fun q => q ≤ gs.length) (fun q => gs.length - q) _ 0 M (by simp) (by simp) (by omega) ?_
    intro k hk
    by_cases hlt : k < gs.length
    · obtain ⟨t, ht⟩ : ∃ w, gs[k]'hlt = w := ⟨_, rfl⟩
      have hrow := gl_get hlt ht
      have e := h1 t l (hr t (ht ▸ List.getElem_mem hlt)) hg
      have hs := failF_snoc (metG · l) gs k hlt ht
      have hle := failF_len (metG · l) gs k
      rw [hFk, hFk] at hs
      rw [hFk] at hle
      have hrl := iRows_len (F k)
      have hrn : ∀ z, nmRows z (intRows (F k)) = true := fun z => nmRows_comp z intD _
      have hrc : ∀ z, lcRows z (intRows (F k)) = true := fun z => lcRows_comp z intD _
      have hsn := iRows_snoc (F k) k
      simp only [Gl.cells] at e hrow
      have hgo : ∀ X : List Int, F (k + 1) = X → ∃ q', ((⟨[(1, vT l), (5, .sl 5 X.length 0 X.length), (8, .c (.vs 3 (gs.map Gl.cells))), (9, i64 gs.length), (10, i64 ((k : Int) + 1))], [(5, ⟨1, intRows X⟩)]⟩ : St) = ⟨[(1, vT l), (5, .sl 5 (F q').length 0 (F q').length), (8, .c (.vs 3 (gs.map Gl.cells))), (9, i64 gs.length), (10, i64 q')], [(5, ⟨1, intRows (F q')⟩)]⟩) ∧ q' ≤ gs.length ∧ gs.length - q' < gs.length - k := by
        rintro X rfl; exact ⟨k + 1, by simp, by omega, by omega⟩
      cases d : metG t l with
      | true =>
        rw [d] at hs e
        simp only [if_true, List.append_nil] at hs
        obtain ⟨q', h1, h2, h3⟩ := hgo _ hs
        generalize intRows (F k) = G at *
        generalize (F k).length = n at *
        simp -implicitDefEqProofs (disch := first | omega | (simp [hrl, hrc, hrn] <;> fail) | assumption) [hlt, hrow, e, hrl, hrc, hrn]
        exact ⟨q', by simpa using h1, h2, h3⟩
      | false =>
        rw [d] at hs e
        simp only [Bool.false_eq_true, if_false] at hs
        obtain ⟨q', h1, h2, h3⟩ := hgo _ hs
        rw [hsn, List.length_append, List.length_singleton] at h1
        generalize intRows (F k) = G at *
        generalize (F k).length = n at *
        simp -implicitDefEqProofs (disch := first | omega | (simp [hrl, hrc, hrn] <;> fail) | assumption) [hlt, hrow, e, hrl, hrc, hrn]
        exact ⟨q', by simpa using h1, h2, h3⟩
    · obtain rfl : k = gs.length := by omega
      simp -implicitDefEqProofs (disch := first | omega | assumption)
  have hlp := hin ⟨[(1, vT l), (5, .sl 5 0 0 0), (8, .c (.vs 3 (gs.map Gl.cells))), (9, i64 gs.length), (10, i64 0)], [(5, ⟨1, []⟩)]⟩ (by simp [hF0, intRows])
  have ha := allRows_comp intD (F gs.length)
  have hrl := iRows_len (F gs.length)
  have hle := failF_len (metG · l) gs gs.length
  rw [hFk] at hle
  have hF2 : ((F gs.length).map intD).take (F gs.length).length = (F gs.length).map intD := by rw [List.take_of_length_le]; simp
  rw [show (F gs.length).map (toAV ∘ intD) = intRows (F gs.length) from rfl] at ha
  generalize intRows (F gs.length) = G at *
  simp only [vI]
  generalize (F gs.length).map intD = X at *
  generalize (F gs.length).length = n at *
  simp -implicitDefEqProofs (disch := first | omega | assumption) [hlp, ha, hrl, hF2]
def RRightC (g : List AV → Option (List AV)) : Prop := ∀ x : Gl, ∃ b, g [.agg x.cells] = some [bo b] ∧ (b = true → x.Right)
theorem ref59_Right_run (Γ : Env) (M : Nat) : RRightC (run Γ M ref59_Right_f) := by
  rintro ⟨o, p, m⟩
  by_cases h3 : o = 3
  · subst h3
    refine ⟨decide (p = 0) && decide (0 ≤ m) && decide (m ≤ 100), ?_, ?_⟩
    · by_cases c1 : p = 0
      · subst c1
        by_cases c2 : 0 ≤ m
        · simp -implicitDefEqProofs (disch := omega) [Gl.cells, c2]
        · simp -implicitDefEqProofs (disch := omega) [Gl.cells, c2]
      · simp -implicitDefEqProofs (disch := omega) [Gl.cells, c1]
    · intro h
      simp at h
      exact ⟨.inr (.inr ⟨rfl, h.1.1⟩), by simp only; omega, by simp only; omega⟩
  · refine ⟨(decide (o = 1) || decide (o = 2)) && decide (0 ≤ p) && decide (p ≤ 100) && decide (0 ≤ m) && decide (m ≤ 1048576), ?_, ?_⟩
    · by_cases c0 : o = 1
      · subst c0
        by_cases c1 : 0 ≤ p
        · by_cases c2 : p ≤ 100
          · by_cases c3 : 0 ≤ m
            · simp -implicitDefEqProofs (disch := omega) [Gl.cells, c1, c2, c3]
            · simp -implicitDefEqProofs (disch := omega) [Gl.cells, c1, c2, c3]
          · simp -implicitDefEqProofs (disch := omega) [Gl.cells, c1, c2]
        · simp -implicitDefEqProofs (disch := omega) [Gl.cells, c1]
      · by_cases c0' : o = 2
        · subst c0'
          by_cases c1 : 0 ≤ p
          · by_cases c2 : p ≤ 100
            · by_cases c3 : 0 ≤ m
              · simp -implicitDefEqProofs (disch := omega) [Gl.cells, c1, c2, c3]
              · simp -implicitDefEqProofs (disch := omega) [Gl.cells, c1, c2, c3]
            · simp -implicitDefEqProofs (disch := omega) [Gl.cells, c1, c2]
          · simp -implicitDefEqProofs (disch := omega) [Gl.cells, c1]
        · simp -implicitDefEqProofs (disch := omega) [Gl.cells, h3, c0, c0']
    · intro h
      simp at h
      exact ⟨h.1.1.1.1.elim .inl fun c => .inr (.inl c), by simp only; omega, by simp only; omega⟩
def OfC59 (g : List AV → Option (List AV)) : Prop := ∀ x : Gl, g [.agg x.cells] = some [.agg x.cells]
theorem law59_of_run (Γ : Env) (M : Nat) : OfC59 (run Γ M law59_of_f) := by
  rintro ⟨o, p, m⟩
  simp -implicitDefEqProofs (disch := omega) [Gl.cells]
def EqI (g : List AV → Option (List AV)) : Prop := ∀ l : List Int, l.length ≤ 60000 → g [vI l, vI l] = some [bo true]
theorem slices_Equal_I_run (Γ : Env) (M : Nat) (hM : 60010 < M) : EqI (run Γ M slices_Equal_Sint_int_f) := by
  intro ts hl
  obtain ⟨ax, s', ⟨rfl, rfl⟩, hin⟩ : ∃ ax s', (ax = .ex 0 ∧ s' = ⟨[], []⟩) ∧ ∀ s0, nrm [0, 1, 12, 13] [] s0 = ⟨[(0, .c (.vs 1 (ts.map intD))), (1, .c (.vs 1 (ts.map intD))), (12, i64 ts.length), (13, i64 (0 : Nat))], []⟩ → lp (exec Γ M slices_Equal_Sint_int_l1) M s0 = some (ax, s') := by
    refine lp_all (fun q : Nat => ⟨[(0, .c (.vs 1 (ts.map intD))), (1, .c (.vs 1 (ts.map intD))), (12, i64 ts.length), (13, i64 q)], []⟩) (fun q => q ≤ ts.length) (fun q => ts.length - q) _ 0 M (by simp) (by omega) (by omega) ?_
    intro k hk
    by_cases hlt : k < ts.length
    · simp -implicitDefEqProofs (disch := first | omega | assumption) [hlt, intD]
      exact ⟨k + 1, by omega, by omega, by omega⟩
    · obtain rfl : k = ts.length := by omega
      simp -implicitDefEqProofs (disch := first | omega | assumption)
  have hlp : lp (exec Γ M slices_Equal_Sint_int_l1) M ⟨[(0, .c (.vs 1 (ts.map intD))), (1, .c (.vs 1 (ts.map intD))), (12, .c (.int .i64 ts.length)), (13, .c (.int .i64 0))], []⟩ = some (.ex 0, ⟨[], []⟩) := hin _ (by simp)
  simp -implicitDefEqProofs (disch := first | omega | assumption) [hlp]
theorem GoalMet_run {Γ : Env} {M : Nat} (hM : 1000 < M) (ha : Γ 96 [] = some [bo true]) (h1 : Great24 (Γ 60)) (h2 : RRightC (Γ 100)) (h3 : OfC59 (Γ 99)) (h4 : MetCR (Γ 399)) (h5 : MetCG (Γ 398)) (h6 : FailC (Γ 397)) (h7 : EqI (Γ 109)) (gs : List Gl) (l : List Trip) :
    run Γ M law59_GoalMet_f [.c (.vs 3 (gs.map Gl.cells)), vT l] = some [bo true] := by
  by_cases hgl : 60 < gs.length
  · have hgl' : 60 < (gs.length : Int) := by omega
    simp -implicitDefEqProofs (disch := first | omega | assumption) [hgl, hgl']
  have hgl' : ¬ 60 < (gs.length : Int) := by omega
  obtain ⟨b, hb, hg⟩ := h1 l
  cases b with
  | true => simp -implicitDefEqProofs (disch := first | omega | assumption) [hgl, hgl', hb]
  | false =>
  have hg := hg rfl
  obtain ⟨ax, s', hR, hin⟩ : ∃ ax s', ((ax = .ex 0 ∧ s' = ⟨[(0, .c (.vs 3 (gs.map Gl.cells))), (1, vT l)], []⟩) ∨ (ax = .ret ∧ s' = ⟨[(4, bo true)], []⟩)) ∧ ∀ s0, nrm [0, 1, 5] [] s0 = ⟨[(0, .c (.vs 3 (gs.map Gl.cells))), (1, vT l), (5, i64 (0 : Nat))], []⟩ → lp (exec Γ M law59_GoalMet_l2) M s0 = some (ax, s') := by
    refine lp_all (fun q : Nat => ⟨[(0, .c (.vs 3 (gs.map Gl.cells))), (1, vT l), (5, i64 q)], []⟩) (fun q => q ≤ l.length) (fun q => l.length - q) _ 0 M (by simp) (by simp) (by have := hg.n; omega) ?_
    intro k hk
    by_cases hlt : k < l.length
    · obtain ⟨t, ht⟩ : ∃ w, l[k]'hlt = w := ⟨_, rfl⟩
      have hrow := trip_get hlt ht
      simp only [Trip.cells] at hrow
      have hn := hg.n
      by_cases c1 : 0 ≤ t.alight
      · by_cases c2 : t.alight < t.board
        · simp -implicitDefEqProofs (disch := first | omega | assumption) [hlt, hrow, c1, c2]
        · by_cases c3 : t.board < t.arrive
          · simp -implicitDefEqProofs (disch := first | omega | assumption) [hlt, hrow, c1, c2, c3]
          · simp -implicitDefEqProofs (disch := first | omega | assumption) [hlt, hrow, c1, c2, c3]
            exact ⟨k + 1, by omega, by omega, by omega⟩
      · simp -implicitDefEqProofs (disch := first | omega | assumption) [hlt, hrow, c1]
        exact ⟨k + 1, by omega, by omega, by omega⟩
    · obtain rfl : k = l.length := by omega
      simp -implicitDefEqProofs (disch := first | omega | assumption)
  have hlp1 := hin ⟨[(0, .c (.vs 3 (gs.map Gl.cells))), (1, vT l), (5, i64 0)], []⟩ (by simp)
  clear hin
  rcases hR with ⟨rfl, rfl⟩ | ⟨rfl, rfl⟩
  rotate_left
  · simp -implicitDefEqProofs (disch := first | omega | assumption) [hgl, hgl', hb, hlp1]
  obtain ⟨F, hF⟩ : ∃ F, (fun k => failF (metR · l) gs k) = F := ⟨_, rfl⟩
  have hFk : ∀ k, failF (metR · l) gs k = F k := fun k => congrFun hF k
  have hF0 : F 0 = [] := by rw [← hFk]; rfl
  obtain ⟨ax, s', hR, hin⟩ : ∃ ax s', ((ax = .ex 2 ∧ s' = ⟨[(0, .c (.vs 3 (gs.map Gl.cells))), (1, vT l), (7, .sl 7 (F gs.length).length 0 (F gs.length).length)], [(7, ⟨1, intRows (F gs.length)⟩)]⟩ ∧ ∀ x ∈ gs, x.Right) ∨ (ax = .ret ∧ ∃ ob, s' = ⟨[(4, bo true)], ob⟩)) ∧ ∀ s0, nrm [0, 1, 7, 8] [7, 73] s0 = ⟨[(0, .c (.vs 3 (gs.map Gl.cells))), (1, vT l), (7, .sl 7 (F 0).length 0 (F 0).length), (8, i64 (0 : Nat))], [(7, ⟨1, intRows (F 0)⟩)]⟩ → lp (exec Γ M law59_GoalMet_l1) M s0 = some (ax, s') := by
    refine lp_all (fun q : Nat => ⟨[(0, .c (.vs 3 (gs.map Gl.cells))), (1, vT l), (7, .sl 7 (F q).length 0 (F q).length), (8, i64 q)], [(7, ⟨1, intRows (F q)⟩)]⟩) (fun q => q ≤ gs.length ∧ ∀ x ∈ gs.take q, x.Right) (fun q => gs.length - q) _ 0 M (by simp) ⟨by simp, by simp⟩ (by omega) ?_
    rintro k ⟨hk, hq⟩
    by_cases hlt : k < gs.length
    · obtain ⟨t, ht⟩ : ∃ w, gs[k]'hlt = w := ⟨_, rfl⟩
      have hrow := gl_get hlt ht
      have e3 := h3 t
      obtain ⟨b2, e2, hr⟩ := h2 t
      have hs := failF_snoc (metR · l) gs k hlt ht
      have hle := failF_len (metR · l) gs k
      rw [hFk, hFk] at hs
      rw [hFk] at hle
      have hrl := iRows_len (F k)
      have hrn : ∀ z, nmRows z (intRows (F k)) = true := fun z => nmRows_comp z intD _
      have hrc : ∀ z, lcRows z (intRows (F k)) = true := fun z => lcRows_comp z intD _
      have hsn := iRows_snoc (F k) k
      have hnext : t.Right → ∀ x ∈ gs.take (k + 1), x.Right := by
        intro h x hx
        rw [List.take_succ_eq_append_getElem hlt, ht, List.mem_append] at hx
        rcases hx with hx | hx
        · exact hq x hx
        · rw [List.mem_singleton] at hx; exact hx ▸ h
      have hgo : ∀ X : List Int, F (k + 1) = X → t.Right → ∃ q', ((⟨[(0, .c (.vs 3 (gs.map Gl.cells))), (1, vT l), (7, .sl 7 X.length 0 X.length), (8, i64 ((k : Int) + 1))], [(7, ⟨1, intRows X⟩)]⟩ : St) = ⟨[(0, .c (.vs 3 (gs.map Gl.cells))), (1, vT l), (7, .sl 7 (F q').length 0 (F q').length), (8, i64 q')], [(7, ⟨1, intRows (F q')⟩)]⟩) ∧ (q' ≤ gs.length ∧ ∀ x ∈ gs.take q', x.Right) ∧ gs.length - q' < gs.length - k := by
        rintro X rfl hr; exact ⟨k + 1, by simp, ⟨by omega, hnext hr⟩, by omega⟩
      cases b2 with
      | false =>
        simp only [Gl.cells] at e2 e3 hrow
        generalize intRows (F k) = G at *
        generalize (F k).length = n at *
        simp -implicitDefEqProofs (disch := first | omega | (simp [hrl, hrc, hrn] <;> fail) | assumption) [hlt, hrow, e2, e3, hrl, hrc, hrn]
      | true =>
        have hr := hr rfl
        have e4 := h4 t l hr hg
        have e5 := h5 t l hr hg
        rw [met_eq hr] at e5
        simp only [Gl.cells] at e2 e3 e4 e5 hrow
        cases d : metR t l with
        | true =>
          rw [d] at hs e4 e5
          simp only [if_true, List.append_nil] at hs
          obtain ⟨q', h1, h2, h3⟩ := hgo _ hs hr
          generalize intRows (F k) = G at *
          generalize (F k).length = n at *
          simp -implicitDefEqProofs (disch := first | omega | (simp [hrl, hrc, hrn] <;> fail) | assumption) [hlt, hrow, e2, e3, e4, e5, hrl, hrc, hrn]
          exact ⟨q', by simpa using h1, h2, h3⟩
        | false =>
          rw [d] at hs e4 e5
          simp only [Bool.false_eq_true, if_false] at hs
          obtain ⟨q', h1, h2, h3⟩ := hgo _ hs hr
          rw [hsn, List.length_append, List.length_singleton] at h1
          generalize intRows (F k) = G at *
          generalize (F k).length = n at *
          simp -implicitDefEqProofs (disch := first | omega | (simp [hrl, hrc, hrn] <;> fail) | assumption) [hlt, hrow, e2, e3, e4, e5, hrl, hrc, hrn]
          exact ⟨q', by simpa using h1, h2, h3⟩
    · obtain rfl : k = gs.length := by omega
      rw [List.take_length] at hq
      simp -implicitDefEqProofs (disch := first | omega | assumption)
      exact hq
  have hlp2 := hin ⟨[(0, .c (.vs 3 (gs.map Gl.cells))), (1, vT l), (7, .sl 7 0 0 0), (8, i64 0)], [(7, ⟨1, []⟩)]⟩ (by simp [hF0, intRows])
  rcases hR with ⟨rfl, rfl, hr⟩ | ⟨rfl, ob, rfl⟩
  rotate_left
  · simp -implicitDefEqProofs (disch := first | omega | assumption) [hgl, hgl', hb, hlp1, hlp2]
  have e6 := h6 gs l (by omega) hr hg
  rw [failF_congr (g := (metR · l)) (fun x hx => met_eq (hr x hx) l) (Nat.le_refl _), hFk] at e6
  have hle := failF_len (metR · l) gs gs.length
  rw [hFk] at hle
  have e7 := h7 (F gs.length) (by omega)
  have ha2 := allRows_comp intD (F gs.length)
  have hrl := iRows_len (F gs.length)
  have hF2 : ((F gs.length).map intD).take (F gs.length).length = (F gs.length).map intD := by rw [List.take_of_length_le]; simp
  rw [show (F gs.length).map (toAV ∘ intD) = intRows (F gs.length) from rfl] at ha2
  generalize intRows (F gs.length) = G at *
  simp only [vI] at e6 e7
  generalize (F gs.length).map intD = X at *
  generalize (F gs.length).length = n at *
  simp -implicitDefEqProofs (disch := first | omega | assumption) [hgl, hgl', hb, hlp1, hlp2, ha, ha2, hrl, hF2, e6, e7]
end Go.Am
