/- A passenger; is it over. -/
import Derived.Test.YtkigddhdbnganaaArC
set_option linter.unusedVariables false
set_option linter.unusedSimpArgs false
set_option maxRecDepth 10000
set_option maxHeartbeats 4000000
namespace Go.Am
theorem nmFrB_nm {d k : Nat} : ∀ {l : List (Nat × AV)}, nmFr k l = true → nmFrB d k l = true
  | [], _ => rfl
  | (i, v) :: r, h => by
    simp only [nmFr, Bool.and_eq_true] at h
    simp only [nmFrB, h.1, nmFrB_nm h.2, Bool.or_true, Bool.and_self]
structure OneF (gs : List (Nat × AV)) : Prop where
  g : Gh gs
  n3 : nmFr 276003 gs = true
  n4 : nmFr 276004 gs = true
  ni : nmFr 2923003274661805836407369665432566039311865361962 gs = true
  o4 : nmFr 286004 gs = true
  o7 : nmFr 286007 gs = true
  o9 : nmFr 286009 gs = true
  p3 : nmFr 478003 gs = true
  p4 : nmFr 478004 gs = true
  p7 : nmFr 478007 gs = true
  p9 : nmFr 478009 gs = true
  p11 : nmFr 478011 gs = true
structure OneB (ob : List (Nat × Obj)) : Prop where
  k : Kf 286000 287000 ob
  k2 : Kf 478000 479000 ob
  n3 : nmOb 276003 ob = true
  n4 : nmOb 276004 ob = true
  ni : nmOb 2923003274661805836407369665432566039311865361962 ob = true
  o4 : nmOb 286004 ob = true
  o7 : nmOb 286007 ob = true
  o9 : nmOb 286009 ob = true
  p3 : nmOb 478003 ob = true
  p4 : nmOb 478004 ob = true
  p7 : nmOb 478007 ob = true
  p9 : nmOb 478009 ob = true
  p11 : nmOb 478011 ob = true
def oneOb (s : Scn) (ws : List Nat) (a : Nat) (sl : AV) (t p : Nat) (K : List W3) (ob : List (Nat × Obj)) : List (Nat × Obj) :=
  (473022, ⟨18, [genRow s ws (a + 1) sl t (p + 1)]⟩) :: (276003, ⟨3, K.map out3⟩) :: del (keepF 276000 277000 [] ob) 473022
def OneC (g : St → Option (List AV × List (Nat × Obj))) : Prop := ∀ (s : Scn) (ws : List Nat) (a t p n f : Nat) (T : AV) (gA mA : Nat) (K : List W3) gs ob, ws.length ≤ 100000 → t ≤ 10000000 → p ≤ 10000000 → KOk K f → OneF gs → OneB ob → GrAt gA mA K ob → (∃ R, T = .c (.vs 1 R)) →
  get ob 473022 = some ⟨18, [genRow s ws a (.sl 1000475 n 0 n) t p]⟩ →
  (a = ws.length → g ⟨(0, .loc 473022 0 0) :: (1, .ags [T, .loc gA 0 0]) :: gs, ob⟩ = some ([.agg [.int .i64 0, .int .i64 0, .int .i64 0, .int .i64 0], i64 50], ob)) ∧
  (∀ w, ws[a]? = some w → w < 4294967296 → g ⟨(0, .loc 473022 0 0) :: (1, .ags [T, .loc gA 0 0]) :: gs, ob⟩ = some ([.agg (p4D (p, t, pairF K w)), i64 0], oneOb s ws a (.sl 1000475 n 0 n) t p K ob))
theorem arrive_one_run (Γ : Env) (M : Nat) (hN : NextWC (Γ 484)) (hO : OfG (Γ.pt 286)) : OneC (runP Γ M arrive_Gen_one_f) := by
  rintro s ws a t p n f T gA mA K gs ob hws ht hp hK hF hB hG ⟨R, rfl⟩ hgen
  obtain ⟨g, n3, n4, ni, o4, o7, o9, p3, p4, p7, p9, p11⟩ := hF
  obtain ⟨k, k2, b3, b4, bi, c4, c7, c9, q3, q4, q7, q9, q11⟩ := hB
  have hKT := KT_eq
  have dK : ∀ j, 478000 ≤ j → j < 479000 → del ob j = ob := fun j h1 h2 => del_kf k2 (by rw [hKT]; omega) (by rw [hKT]; omega)
  have d3 := dK 478003 (by omega) (by omega)
  have d4 := dK 478004 (by omega) (by omega)
  have d7 := dK 478007 (by omega) (by omega)
  have d9 := dK 478009 (by omega) (by omega)
  have d11 := dK 478011 (by omega) (by omega)
  obtain ⟨hg1, hg1'⟩ := hi_ne hG.hg (j := 478003) (by decide)
  obtain ⟨hg2, hg2'⟩ := hi_ne hG.hg (j := 478004) (by decide)
  obtain ⟨hg3, hg3'⟩ := hi_ne hG.hg (j := 478007) (by decide)
  obtain ⟨hg4, hg4'⟩ := hi_ne hG.hg (j := 478009) (by decide)
  obtain ⟨hg5, hg5'⟩ := hi_ne hG.hg (j := 478011) (by decide)
  constructor
  · rintro rfl
    have e1 := hN.1 ws hws
    simp only [strD] at e1
    simp -implicitDefEqProofs (disch := first | omega | (simp [g, p3, p4, p7] <;> fail) | assumption) [g, k2, d3, d4, d7, p3, p4, p7, q3, q4, q7, hgen, e1, hg1, hg2, hg3, hg1', hg2', hg3']
  · intro w hw hw2
    have e1 := hN.2 ws a w hws hw
    simp only [strD] at e1
    have e2 := fun gs ob x1 x2 x3 x4 x5 x6 x7 y1 y2 y3 y4 y5 y6 y7 z1 z2 => hO gA mA K w gs ob hK.lex hK.len hK.vals (by omega) (by omega) ⟨x1, x2, x3, x4, x5, x6, x7⟩ ⟨y1, y2, y3, y4, y5, y6, y7⟩ ⟨z1, z2, hG.hg, hG.hm⟩
    have ha := hK.ans w hw2
    rw [ha] at e2
    simp only at e2
    obtain ⟨hm1, hm1'⟩ := hi_ne hG.hm (j := 478003) (by decide)
    obtain ⟨hm2, hm2'⟩ := hi_ne hG.hm (j := 478004) (by decide)
    obtain ⟨hm3, hm3'⟩ := hi_ne hG.hm (j := 478007) (by decide)
    obtain ⟨hn1, hn1'⟩ := hi_ne hG.hg (j := 276003) (by decide)
    obtain ⟨hn2, hn2'⟩ := hi_ne hG.hg (j := 276004) (by decide)
    obtain ⟨hn3, hn3'⟩ := hi_ne' hG.hg (j := 2923003274661805836407369665432566039311865361962) (by decide)
    obtain ⟨hn4, hn4'⟩ := hi_ne hG.hg (j := 286004) (by decide)
    obtain ⟨hn5, hn5'⟩ := hi_ne hG.hg (j := 286007) (by decide)
    obtain ⟨hn6, hn6'⟩ := hi_ne hG.hg (j := 286009) (by decide)
    have hgg := hG.g
    have hgm := hG.m
    have k2' := kf_keep (a := 276000) (b := 277000) (os := []) k2
    have dK' : ∀ j, 478000 ≤ j → j < 479000 → del (keepF 276000 277000 [] ob) j = keepF 276000 277000 [] ob := fun j h1 h2 => del_kf k2' (by rw [hKT]; omega) (by rw [hKT]; omega)
    have f3 := dK' 478003 (by omega) (by omega)
    have f4 := dK' 478004 (by omega) (by omega)
    have f7 := dK' 478007 (by omega) (by omega)
    have f9 := dK' 478009 (by omega) (by omega)
    have f11 := dK' 478011 (by omega) (by omega)
    have r9 := nmOb_keep (lo := 276000) (hi := 277000) (os := []) q9
    have r11 := nmOb_keep (lo := 276000) (hi := 277000) (os := []) q11
    have hgen' : get (keepF 276000 277000 [] ob) 473022 = some ⟨18, [genRow s ws a (.sl 1000475 n 0 n) t p]⟩ := by
      rw [get_keepM (.inr (.inl (by rw [hKT]; omega))), hgen]
    have y1 := fun k => nmRows_out3 k K
    have k3 := kf_delO (k := 473022) k2'
    have u11 := get_kf (k := 478011) k3 (by rw [hKT]; omega) (by rw [hKT]; omega)
    have v4 := del_kf (k := 478004) k3 (by rw [hKT]; omega) (by rw [hKT]; omega)
    have v9 := del_kf (k := 478009) k3 (by rw [hKT]; omega) (by rw [hKT]; omega)
    have v11 := del_kf (k := 478011) k3 (by rw [hKT]; omega) (by rw [hKT]; omega)
    have w11 := nmOb_delO (j := 473022) r11
    have nb11 := nmFrB_nm (d := 11) p11
    have dd := del_del (keepF 276000 277000 [] ob) 473022
    unfold oneOb
    generalize hob1 : keepF 276000 277000 [] ob = ob1 at *
    have hga1 : (a : Int) + 1 = ((a + 1 : Nat) : Int) := rfl
    have hga2 : (p : Int) + 1 = ((p + 1 : Nat) : Int) := rfl
    simp -implicitDefEqProofs (disch := first | omega | (simp [g, n3, n4, ni, o4, o7, o9, k, k2, b3, b4, bi, c4, c7, c9, hn1, hn2, hn3, hn4, hn5, hn6, hg1', hg2', hg3', hm1', hm2', hm3', hgg, hgm, hob1] <;> fail) | assumption) [g, k2, k2', d3, d4, d7, p3, p4, p7, p9, p11, q3, q4, q7, hgen, hgen', e1, e2, hg1, hg2, hg3, hg1', hg2', hg3', hg4, hg5, hg4', hg5', hob1, f3, f4, f7, f9, f11, r9, r11, y1, p4D, k3, u11, v4, v9, v11, w11, dd, nb11]
end Go.Am
