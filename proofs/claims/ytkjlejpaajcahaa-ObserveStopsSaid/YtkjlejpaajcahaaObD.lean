/- Law 58: the grid of trips. -/
import Derived.Test.YtkjlejpaajcahaaObC
set_option linter.unusedVariables false
set_option linter.unusedSimpArgs false
set_option maxRecDepth 10000
set_option maxHeartbeats 2000000
namespace Go.Am
def gG (L : List P2) : GSt := if L = [] then none else some (cntE L)
def GAt (gk : Nat) (G : GSt) (ob : List (Nat × Obj)) : Prop := match G with
  | none => get ob gk = some ⟨1, [[.ot .nm]]⟩
  | some (z, es) => get ob gk = some ⟨1, [[.mp 1461501637330902918203684832716283019655932598995]]⟩ ∧ get ob 1461501637330902918203684832716283019655932598995 = some ⟨z, roE es⟩
structure GtOk (gk : Nat) (gs : List (Nat × AV)) (ob : List (Nat × Obj)) : Prop where
  g : Gh gs
  n3 : nmFr 57003 gs = true
  k : ∀ os, keepF 57000 58000 os ob = ob
  o3 : nmOb 57003 ob = true
  d3 : del ob 57003 = ob
  gk : ¬ 57003 = gk
def GetC58 (g : St → Option (List AV × List (Nat × Obj))) : Prop := ∀ gk (L : List P2) (x y : Int) gs ob, GtOk gk gs ob → GAt gk (gG L) ob →
  g ⟨(0, .loc gk 0 0) :: (1, .agg [.int .i64 x, .int .i64 y]) :: gs, ob⟩ = some ([i64 (L.count (x, y) : Int)], ob)
theorem mfind_cnt (L : List P2) (k : P2) : (∃ i : Nat, mfind kkP (.agg [.int .i64 k.1, .int .i64 k.2]) (roE (cntE L).2) 0 = some (some (i, .c (.int .i64 (L.count k : Int))))) ∨ (mfind kkP (.agg [.int .i64 k.1, .int .i64 k.2]) (roE (cntE L).2) 0 = some none ∧ L.count k = 0) := by
  have hv := val_cnt (cn_cnt L) k
  unfold valE at hv
  unfold roE
  rw [mfind_pidx]
  cases hp : pidx k.1 k.2 (cntE L).2 0 with
  | none => rw [hp] at hv; simp only at hv; exact .inr ⟨rfl, by omega⟩
  | some q => obtain ⟨i, n⟩ := q; rw [hp] at hv; simp only at hv; subst hv; exact .inl ⟨i, rfl⟩
theorem grid_Get_run (Γ : Env) (M : Nat) : GetC58 (runP Γ M grid_Grid_Get_f) := by
  rintro gk L x y gs ob ⟨g, n3, k, o3, d3, hgk⟩ hG
  have hgk' : ¬ gk = 57003 := Ne.symm hgk
  unfold gG GAt at hG
  by_cases hL : L = []
  · subst hL
    simp only [if_true] at hG
    simp -implicitDefEqProofs (disch := first | omega | (simp <;> fail) | assumption) [g, n3, k, o3, d3, hgk, hgk', hG]
  · rw [if_neg hL] at hG
    simp only at hG
    obtain ⟨h1, h2⟩ := hG
    have hmk : ¬ 57003 = 1461501637330902918203684832716283019655932598995 := by decide
    rcases mfind_cnt L (x, y) with ⟨i, hf⟩ | ⟨hf, h0⟩
    · simp only [kkP] at hf
      generalize roE (cntE L).2 = R at *
      simp -implicitDefEqProofs (disch := first | omega | (simp <;> fail) | assumption) [g, n3, k, o3, d3, hgk, hgk', h1, h2, hf]
    · simp only [kkP] at hf
      generalize roE (cntE L).2 = R at *
      simp -implicitDefEqProofs (disch := first | omega | (simp <;> fail) | assumption) [g, n3, k, o3, d3, hgk, hgk', h1, h2, hf, h0]
/-- A pair's number is one more. -/
theorem set_ways (L : List P2) (hl : L.length ≤ 1000) (k : P2) : ∃ R2 z2, (R2 = roE (cntE (L ++ [k])).2 ∧ z2 = (cntE (L ++ [k])).1) ∧
    ((∃ (i : Nat) (b : Int), mfind kkP (.agg [.int .i64 k.1, .int .i64 k.2]) (roE (cntE L).2) 0 = some (some (i, .c (.int .i64 (L.count k : Int)))) ∧ z2 = (cntE L).1 ∧ stampAt (roE (cntE L).2) i = .c (.int .i64 b) ∧
        setRow (roE (cntE L).2) i [.c (.int .i64 b), .agg [.int .i64 k.1, .int .i64 k.2], .c (.int .i64 ((L.count k : Int) + 1))] = R2) ∨
     (mfind kkP (.agg [.int .i64 k.1, .int .i64 k.2]) (roE (cntE L).2) 0 = some none ∧ roE (cntE L).2 ++ [[.c (.int .i64 ((cntE L).1 : Int)), .agg [.int .i64 k.1, .int .i64 k.2], .c (.int .i64 ((L.count k : Int) + 1))]] = R2 ∧ z2 = (cntE L).1 + 1)) := by
  have hc := cn_cnt L
  refine ⟨_, _, ⟨rfl, rfl⟩, ?_⟩
  rw [cntE_snoc]
  have hv := val_cnt hc k
  unfold valE at hv
  rcases addE_cases (cntE L) k with ⟨A, e, B, c1, c2, c0, c3⟩ | ⟨c1, c0, c3⟩
  · obtain ⟨f1, st, fi, at_, set, r2, z2⟩ := inc_some hc _ c1 c2 c0 c3
    rw [c0] at hv; simp only at hv
    rw [← hv]
    exact .inl ⟨A.length, e.b, f1, z2.symm, st, set⟩
  · rw [c0] at hv; simp only at hv
    rw [← hv]
    refine .inr ⟨inc_miss hc k c0, ?_, by rw [c3]⟩
    rw [c3]; simp [roE, En.row]
abbrev GK : Nat := 459007
abbrev trO (t : Trip) : Nat × Obj := (459005, ⟨7, [t.cells.map .c]⟩)
structure GaOk (gs : List (Nat × AV)) : Prop where
  g : Gh gs
  n3 : nmFr 57003 gs = true
  n4 : nmFr 58004 gs = true
  n5 : nmFr 56004 gs = true
  nm : nmFr 1461501637330902918203684832716283019655932598995 gs = true
structure GsOk58 (gs : List (Nat × AV)) : Prop where
  g : Gh gs
  n5 : nmFr 56004 gs = true
  nm : nmFr 1461501637330902918203684832716283019655932598995 gs = true
def SetC58 (g : St → Option (List AV × List (Nat × Obj))) : Prop := ∀ (L : List P2) (t : Trip) (x y : Int) gs, L.length ≤ 1000 → GsOk58 gs →
  g ⟨(0, .loc 459007 0 0) :: (1, .agg [.int .i64 x, .int .i64 y]) :: (2, i64 ((L.count (x, y) : Int) + 1)) :: gs, (58004, ⟨2, [[i64 x, i64 y]]⟩) :: (459005, ⟨7, [t.cells.map .c]⟩) :: grOb 459007 (gG L)⟩ = some ([], (1461501637330902918203684832716283019655932598995, ⟨(cntE (L ++ [(x, y)])).1, roE (cntE (L ++ [(x, y)])).2⟩) :: if L = [] then [(459007, ⟨1, [[.mp 1461501637330902918203684832716283019655932598995]]⟩), (58004, ⟨2, [[i64 x, i64 y]]⟩), (459005, ⟨7, [t.cells.map .c]⟩)] else [(58004, ⟨2, [[i64 x, i64 y]]⟩), (459005, ⟨7, [t.cells.map .c]⟩), (459007, ⟨1, [[.mp 1461501637330902918203684832716283019655932598995]]⟩)])
theorem grid_Set58_run (Γ : Env) (M : Nat) : SetC58 (runP Γ M grid_Grid_Set_f) := by
  rintro L t x y gs hl ⟨g, n5, nm⟩
  have hne : ¬ ((L.count (x, y) : Int) + 1 = 0) := by omega
  by_cases hL : L = []
  · subst hL
    have h1 : cntE ([] ++ [(x, y)]) = (1, [⟨0, x, y, 1⟩]) := rfl
    rw [h1]
    simp -implicitDefEqProofs (disch := first | omega | (simp <;> fail) | assumption) [-setRow, -stampAt, setRow_one, gG, grOb, g, n5, nm, mupd, mfind, roE, En.row]
  · have hg : gG L = some (cntE L) := by unfold gG; rw [if_neg hL]
    obtain ⟨R2, z2, ⟨hR2, hz2⟩, hw⟩ := set_ways L hl (x, y)
    rw [← hR2, ← hz2, hg]
    have a0 := fun k => nmRows_roE k (cntE L).2
    have a2 : ∀ k, nmRows k R2 = true := fun k => by rw [hR2]; exact nmRows_roE k _
    have e0 : ∀ es : List En, es.map En.row = roE es := fun _ => rfl
    have hlt : (L.count (x, y) : Int) ≤ 1000 := by have := List.count_le_length (a := (x, y)) (l := L); omega
    clear hR2 hz2
    simp only [grOb, e0, if_neg hL]
    generalize roE (cntE L).2 = R at *
    generalize (cntE L).1 = z at *
    generalize (L.count (x, y) : Int) = c at *
    simp only [kkP] at hw
    rcases hw with ⟨i, b, f1, rfl, f3, f4⟩ | ⟨f1, f2, rfl⟩ <;>
    simp -implicitDefEqProofs (disch := first | omega | (simp <;> fail) | assumption) [-setRow, -stampAt, mupd, *]
def AddC58 (g : St → Option (List AV × List (Nat × Obj))) : Prop := ∀ (L : List P2) (t : Trip) (x y : Int) gs, L.length ≤ 1000 → GaOk gs →
  g ⟨(0, .loc 459007 0 0) :: (1, .agg [.int .i64 x, .int .i64 y]) :: (2, i64 1) :: gs, (459005, ⟨7, [t.cells.map .c]⟩) :: grOb 459007 (gG L)⟩ = some ([], (1461501637330902918203684832716283019655932598995, ⟨(cntE (L ++ [(x, y)])).1, roE (cntE (L ++ [(x, y)])).2⟩) :: if L = [] then [(459007, ⟨1, [[.mp 1461501637330902918203684832716283019655932598995]]⟩), (459005, ⟨7, [t.cells.map .c]⟩)] else [(459005, ⟨7, [t.cells.map .c]⟩), (459007, ⟨1, [[.mp 1461501637330902918203684832716283019655932598995]]⟩)])
theorem gAt_gr (L : List P2) (pre : List (Nat × Obj)) (h1 : get pre 459007 = none) (h2 : get pre 1461501637330902918203684832716283019655932598995 = none) : GAt 459007 (gG L) (pre ++ grOb 459007 (gG L)) := by
  have hga : ∀ (l m : List (Nat × Obj)) (k : Nat), get l k = none → get (l ++ m) k = get m k := by
    intro l m k h
    induction l with
    | nil => rfl
    | cons p l ih =>
      obtain ⟨i, v⟩ := p
      simp only [Go.Am.get] at h
      split at h
      · simp at h
      · rename_i hne
        simp only [List.cons_append, Go.Am.get, if_neg hne]; exact ih h
  unfold GAt gG
  by_cases hL : L = []
  · simp only [if_pos hL, hga _ _ _ h1]; rfl
  · simp only [if_neg hL, hga _ _ _ h1, hga _ _ _ h2]
    exact ⟨rfl, rfl⟩
theorem grid_Add58_run (Γ : Env) (M : Nat) (hG : GetC58 (Γ.pt 57)) (hS : SetC58 (Γ.pt 56)) : AddC58 (runP Γ M grid_Grid_Add_f) := by
  rintro L t x y gs hl ⟨g, n3, n4, n5, nm⟩
  have hlt : (L.count (x, y) : Int) ≤ 1000 := by have := List.count_le_length (a := (x, y)) (l := L); omega
  have hc0 : (0 : Int) ≤ (L.count (x, y) : Int) := by omega
  have eG : ∀ gs', Gh gs' → nmFr 57003 gs' = true → Γ.pt 57 ⟨(0, .loc 459007 0 0) :: (1, .agg [.int .i64 x, .int .i64 y]) :: gs', (58004, ⟨2, [[i64 x, i64 y]]⟩) :: (459005, ⟨7, [t.cells.map .c]⟩) :: grOb 459007 (gG L)⟩ = some ([i64 (L.count (x, y) : Int)], (58004, ⟨2, [[i64 x, i64 y]]⟩) :: (459005, ⟨7, [t.cells.map .c]⟩) :: grOb 459007 (gG L)) := by
    intro gs' h1 h2
    refine hG 459007 L x y gs' _ ?_ (gAt_gr L [(58004, ⟨2, [[i64 x, i64 y]]⟩), (459005, ⟨7, [t.cells.map .c]⟩)] rfl rfl)
    refine ⟨h1, h2, fun os => ?_, ?_, ?_, by decide⟩
    · unfold gG; split <;> simp [grOb]
    · unfold gG; split <;> simp [grOb, nmRows_row]
    · unfold gG; split <;> simp [grOb]
  have eS := fun gs' a b c => hS L t x y gs' hl ⟨a, b, c⟩
  have hkf : ∀ os, keepF 58000 59000 os (grOb 459007 (gG L)) = grOb 459007 (gG L) := fun os => by unfold gG; split <;> simp [grOb]
  have hnm : nmOb 58004 (grOb 459007 (gG L)) = true := by unfold gG; split <;> simp [grOb, nmRows_row]
  have hdl : del (grOb 459007 (gG L)) 58004 = grOb 459007 (gG L) := by unfold gG; split <;> simp [grOb]
  simp only [Trip.cells, List.map_cons, List.map_nil] at eG eS ⊢
  generalize grOb 459007 (gG L) = O at *
  generalize (L.count (x, y) : Int) = c at *
  by_cases hL : L = []
  · simp only [if_pos hL] at eS ⊢
    simp -implicitDefEqProofs (disch := first | omega | (simp [g, n3, n4, n5, nm] <;> fail) | assumption) [g, n3, n4, n5, nm, eG, eS, hkf, hnm, hdl]
  · simp only [if_neg hL] at eS ⊢
    simp -implicitDefEqProofs (disch := first | omega | (simp [g, n3, n4, n5, nm] <;> fail) | assumption) [g, n3, n4, n5, nm, eG, eS, hkf, hnm, hdl]
structure GoOk (gs : List (Nat × AV)) : Prop where
  a : GaOk gs
  n5 : nmFr 459005 gs = true
  n7 : nmFr 459007 gs = true
def GridC58 (g : St → Option (List AV × List (Nat × Obj))) : Prop := ∀ (l : List Trip) gs, l.length ≤ 100 → GoOk gs → g ⟨(0, vT l) :: gs, []⟩ = some ([.loc 459007 0 0], grOb 459007 (gG (wnO l)))
theorem wnO_take {l : List Trip} {k : Nat} (h : k < l.length) : wnO (l.take (k + 1)) = wnO (l.take k) ++ [(l[k].frm, l[k].to)] := by
  unfold wnO
  rw [List.take_succ_eq_append_getElem h, List.map_append]; rfl
theorem gG_snoc (L : List P2) (k : P2) : gG (L ++ [k]) = some (cntE (L ++ [k])) := by unfold gG; rw [if_neg (by simp)]
theorem observe_Grid_run (Γ : Env) (M : Nat) (hM : 1000 < M) (hA : AddC58 (Γ.pt 58)) : GridC58 (runP Γ M observe_Grid_f) := by
  rintro l gs hl ⟨⟨g, n3, n4, n5, nm⟩, n55, n57⟩
  have hkf : ∀ L os, 459007 ∈ os → keepF 459000 460000 os (grOb 459007 (gG L)) = grOb 459007 (gG L) := fun L os h => by unfold gG; split <;> simp [grOb, h]
  have hnm : ∀ L, nmOb 459005 (grOb 459007 (gG L)) = true := fun L => by unfold gG; split <;> simp [grOb, nmRows_row]
  have hdl : ∀ L, del (grOb 459007 (gG L)) 459005 = grOb 459007 (gG L) := fun L => by unfold gG; split <;> simp [grOb]
  have hgt : ∀ L, ∃ o, get (grOb 459007 (gG L)) 459007 = some o := fun L => by unfold gG; split <;> exact ⟨_, rfl⟩
  obtain ⟨ax, s', ⟨rfl, rfl⟩, hin⟩ : ∃ ax s', (ax = .ex 0 ∧ s' = ⟨[(3, .loc 459007 0 0)] ++ gs, grOb 459007 (gG (wnO l))⟩) ∧ ∀ s0, nrmP [3, 8, 9, 10] 459000 460000 [459007] s0 = ⟨[(3, .loc 459007 0 0), (8, vT l), (9, i64 l.length), (10, i64 (0 : Nat))] ++ gs, grOb 459007 (gG (wnO (l.take 0)))⟩ → lp (exec Γ M observe_Grid_l1) M s0 = some (ax, s') := by
    refine lp_allP (fun q : Nat => ⟨[(3, .loc 459007 0 0), (8, vT l), (9, i64 l.length), (10, i64 q)] ++ gs, grOb 459007 (gG (wnO (l.take q)))⟩) (fun q => q ≤ l.length) (fun q => l.length - q) _ 0 M (by omega) (by omega) ?_
    intro q hq
    by_cases hlt : q < l.length
    · obtain ⟨t, ht⟩ : ∃ w, l[q]'hlt = w := ⟨_, rfl⟩
      have hrow : (l.map Trip.cells)[q]? = some t.cells := by simp [hlt, ht]
      have hev := wnO_take hlt
      rw [ht] at hev
      have hle : (wnO (l.take q)).length ≤ 1000 := by unfold wnO; rw [List.length_map, List.length_take]; omega
      have fin : ∀ O, grOb 459007 (gG (wnO (l.take q) ++ [(t.frm, t.to)])) = O → ∃ q' : Nat, (⟨[(3, .loc 459007 0 0), (8, vT l), (9, i64 l.length), (10, i64 ((q : Int) + 1))] ++ gs, O⟩ : St) = ⟨[(3, .loc 459007 0 0), (8, vT l), (9, i64 l.length), (10, i64 q')] ++ gs, grOb 459007 (gG (wnO (l.take q')))⟩ ∧ q' ≤ l.length ∧ l.length - q' < l.length - q := by
        rintro O rfl
        exact ⟨q + 1, by rw [hev]; simp, by omega, by omega⟩
      have eA := fun gs' a b c d e => hA (wnO (l.take q)) t t.frm t.to gs' hle ⟨a, b, c, d, e⟩
      have h1 := hkf (wnO (l.take q))
      have h2 := hnm (wnO (l.take q))
      have h3 := hdl (wnO (l.take q))
      obtain ⟨o4, h4⟩ := hgt (wnO (l.take q))
      rw [gG_snoc] at fin
      simp only [Trip.cells, List.map_cons, List.map_nil] at hrow eA
      generalize wnO (l.take q) = L at *
      obtain ⟨q', fq⟩ := fin [(1461501637330902918203684832716283019655932598995, ⟨(cntE (L ++ [(t.frm, t.to)])).1, roE (cntE (L ++ [(t.frm, t.to)])).2⟩), (459007, ⟨1, [[.mp 1461501637330902918203684832716283019655932598995]]⟩)] rfl
      generalize grOb 459007 (gG L) = O at *
      generalize (cntE (L ++ [(t.frm, t.to)])).1 = z at *
      generalize roE (cntE (L ++ [(t.frm, t.to)])).2 = R at *
      by_cases hL : L = []
      · simp only [if_pos hL] at eA
        simp -implicitDefEqProofs (disch := first | omega | (simp [g, n3, n4, n5, nm] <;> fail) | assumption) [hlt, hrow, g, n3, n4, n5, nm, n55, n57, eA, h1, h2, h3, h4]
        exact ⟨q', by simpa using fq⟩
      · simp only [if_neg hL] at eA
        simp -implicitDefEqProofs (disch := first | omega | (simp [g, n3, n4, n5, nm] <;> fail) | assumption) [hlt, hrow, g, n3, n4, n5, nm, n55, n57, eA, h1, h2, h3, h4]
        exact ⟨q', by simpa using fq⟩
    · obtain rfl : q = l.length := by omega
      rw [List.take_length]
      have h1 := hkf (wnO l)
      generalize grOb 459007 (gG (wnO l)) = O at *
      simp -implicitDefEqProofs (disch := first | omega | (simp <;> fail) | assumption) [g, h1]
  have hin2 := hin ⟨[(3, .loc 459007 0 0), (8, vT l), (9, i64 l.length), (10, .c (.int .i64 0))] ++ gs, [(459007, ⟨1, [[.ot .nm]]⟩)]⟩ (by
    simp -implicitDefEqProofs (disch := first | omega | (simp <;> fail) | assumption) [g, wnO, gG, grOb])
  simp only [List.cons_append, List.nil_append] at hin2
  have h1 := hkf (wnO l)
  generalize grOb 459007 (gG (wnO l)) = O at *
  simp -implicitDefEqProofs (disch := first | omega | (simp <;> fail) | assumption) [g, n57, hin2, h1]
end Go.Am
