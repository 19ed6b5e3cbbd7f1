/- Law 21: the sum, the choice of a pair; the reference's. -/
import Derived.Test.YtiabedphaioidaaDemH
set_option linter.unusedVariables false
set_option linter.unusedSimpArgs false
set_option maxRecDepth 10000
set_option maxHeartbeats 1000000
namespace Go.Am
/-! ### What the grid's list is -/
def tri (z : List Int) : W3 := (z.getD 0 0, z.getD 1 0, z.getD 2 0)
def allM (G : GSt) : List W3 := (resF ltW ((entsG G).map En.w)).map tri
theorem swo_ltW : Go.Sort.SWO ltW := by rw [← lt_cfW]; exact swo_cfW
theorem allM_out (G : GSt) : (resF ltW ((entsG G).map En.w)).map rowI = (allM G).map out3 := by
  unfold allM
  rw [List.map_map]
  refine List.map_congr_left fun z hz => ?_
  obtain ⟨e, _, rfl⟩ := List.mem_map.1 ((resF_perm swo_ltW _).mem_iff.1 hz)
  rfl
theorem allM_length (G : GSt) : (allM G).length = (entsG G).length := by
  unfold allM
  rw [List.length_map, (resF_perm swo_ltW _).length_eq, List.length_map]
theorem allM_mem {G : GSt} {m : W3} (h : m ∈ allM G) : ∃ e ∈ entsG G, m = (e.x, e.y, e.n) := by
  obtain ⟨z, hz, rfl⟩ := List.mem_map.1 h
  obtain ⟨e, he, rfl⟩ := List.mem_map.1 ((resF_perm swo_ltW _).mem_iff.1 hz)
  exact ⟨e, he, rfl⟩
theorem entsG_grow (l : List W3) : entsG (growG l) = enL 0 l := by cases l <;> rfl
theorem allM_grow {l : List W3} (h : Lex l) : allM (growG l) = l := by
  unfold allM
  rw [entsG_grow, enL_w, lex_resF h, List.map_map]
  exact List.map_id'' (fun _ => rfl) l
theorem gok_grow {l : List W3} (h : Lex l) (hl : l.length ≤ 200000) : GOk (growG l) := ⟨by rw [entsG_grow]; exact bornB_enL l 0, by rw [entsG_grow, enL_length]; exact hl, by rw [entsG_grow, enL_w]; exact lex_noTies h⟩
/-! ### What is asked of what else is there -/
structure QsOk (gs : List (Nat × AV)) : Prop where
  g : Gh gs
  n3 : nmFr 276003 gs = true
  n4 : nmFr 276004 gs = true
  ni : nmFr 2923003274661805836407369665432566039311865361962 gs = true
  l3 : lcFr 276003 gs = true
  o4 : nmFr 286004 gs = true
  o7 : nmFr 286007 gs = true
  o9 : nmFr 286009 gs = true
  l7 : lcFr 286007 gs = true
  s5 : nmFr 304005 gs = true
structure QrOk (gk : Nat) (rest : List (Nat × Obj)) : Prop where
  g1 : gk < 10000000
  g2 : gk < 56000 ∨ 57000 ≤ gk
  g3 : gk < 276000 ∨ 277000 ≤ gk
  g4 : gk < 286000 ∨ 287000 ≤ gk
  g5 : gk < 304000 ∨ 305000 ≤ gk
  k : Kf 276000 277000 rest
  k2 : Kf 286000 287000 rest
  k3 : Kf 304000 305000 rest
  n3 : nmOb 276003 rest = true
  n4 : nmOb 276004 rest = true
  ni : nmOb 2923003274661805836407369665432566039311865361962 rest = true
  l3 : lcOb 276003 rest = true
  o4 : nmOb 286004 rest = true
  o7 : nmOb 286007 rest = true
  o9 : nmOb 286009 rest = true
  l7 : lcOb 286007 rest = true
  s5 : nmOb 304005 rest = true
  d3 : del rest 276003 = rest
  d4 : del rest 286004 = rest
  d7 : del rest 286007 = rest
  d9 : del rest 286009 = rest
  d5 : del rest 304005 = rest
theorem nmOb_gr {k gk : Nat} {G : GSt} {rest : List (Nat × Obj)} (h : nmOb k rest = true) (hk : ¬ k = 1461501637330902918203684832716283019655932598995) : nmOb k (grOb gk G ++ rest) = true := by
  have hk' : ¬ 1461501637330902918203684832716283019655932598995 = k := Ne.symm hk
  cases G with
  | none => simp [grOb, h]
  | some p => obtain ⟨z, es⟩ := p; simp [grOb, h, nmRows_row, hk']
theorem lcOb_gr {k gk : Nat} {G : GSt} {rest : List (Nat × Obj)} (h : lcOb k rest = true) : lcOb k (grOb gk G ++ rest) = true := by
  cases G with
  | none => simp [grOb, h]
  | some p => obtain ⟨z, es⟩ := p; simp [grOb, h, lcRows_row]
theorem del_gr {k gk : Nat} {G : GSt} {rest : List (Nat × Obj)} (h : del rest k = rest) (hk : ¬ k = 1461501637330902918203684832716283019655932598995) (hg : ¬ k = gk) : del (grOb gk G ++ rest) k = grOb gk G ++ rest := by
  have hk' : ¬ 1461501637330902918203684832716283019655932598995 = k := Ne.symm hk
  have hg' : ¬ gk = k := Ne.symm hg
  cases G with
  | none => simp [grOb, h, hg']
  | some p => obtain ⟨z, es⟩ := p; simp [grOb, h, hk', hg']
/-- All, with some objects ahead of the grid. -/
theorem all_at2 {gk : Nat} {G : GSt} {ob rest pre : List (Nat × Obj)} (hG : GOk G) (hr : QrOk gk rest) (hp : keepF 276000 277000 [] ob = pre ++ (grOb gk G ++ rest)) (hp1 : get pre gk = none) (hp2 : get pre 1461501637330902918203684832716283019655932598995 = none)
    (p3 : nmOb 276003 pre = true) (p4 : nmOb 276004 pre = true) (pi : nmOb 2923003274661805836407369665432566039311865361962 pre = true) (q3 : lcOb 276003 pre = true) (fr : List (Nat × AV)) (h0 : get fr 0 = some (.loc gk 0 0)) (n3 : nmFr 276003 fr = true) (n4 : nmFr 276004 fr = true) (ni : nmFr 2923003274661805836407369665432566039311865361962 fr = true) (l3 : lcFr 276003 fr = true) :
    allPt ⟨fr, ob⟩ = some ([.sl 276003 (allM G).length 0 (allM G).length], (276003, ⟨3, (allM G).map out3⟩) :: (pre ++ (grOb gk G ++ rest))) := by
  have hga : ∀ (l m : List (Nat × Obj)) (k : Nat), get l k = none → get (l ++ m) k = get m k := by
    intro l m k h
    induction l with
    | nil => rfl
    | cons p l ih =>
      obtain ⟨i, v⟩ := p
      simp only [Go.Am.get] at h
      split at h
      · simp at h
      · rename_i hne
        simp only [List.cons_append, Go.Am.get, if_neg hne]; exact ih h
  have hna : ∀ (k : Nat) (l m : List (Nat × Obj)), nmOb k l = true → nmOb k m = true → nmOb k (l ++ m) = true := by
    intro k l m h h2
    induction l with
    | nil => exact h2
    | cons p l ih =>
      obtain ⟨i, v⟩ := p
      simp only [nmOb, Bool.and_eq_true] at h
      simp only [List.cons_append, nmOb, h.1, ih h.2, Bool.and_self]
  have hla : ∀ (k : Nat) (l m : List (Nat × Obj)), lcOb k l = true → lcOb k m = true → lcOb k (l ++ m) = true := by
    intro k l m h h2
    induction l with
    | nil => exact h2
    | cons p l ih =>
      obtain ⟨i, v⟩ := p
      simp only [lcOb, Bool.and_eq_true] at h
      simp only [List.cons_append, lcOb, h.1, ih h.2, Bool.and_self]
  rw [allM_length, ← allM_out]
  have := allPt_gr (fr := fr) (ob := ob) h0 hG (by
    rw [hp, hga _ _ _ hp1, hga _ _ _ hp2]
    have hne : ¬ 1461501637330902918203684832716283019655932598995 = gk := by have := hr.g1; omega
    cases G with
    | none => simp [grOb]
    | some p => obtain ⟨z, es⟩ := p; simp [grOb, hne]) (by
    simp only [allSide, obA, hp, n3, n4, ni, l3, hna _ _ _ p3 (nmOb_gr hr.n3 (by decide)), hna _ _ _ p4 (nmOb_gr hr.n4 (by decide)), hna _ _ _ pi (nmOb_gr hr.ni (by decide)), hla _ _ _ q3 (lcOb_gr hr.l3), Bool.and_self])
  rw [this, hp]
theorem all_at {gk : Nat} {G : GSt} {rest pre : List (Nat × Obj)} (hG : GOk G) (hr : QrOk gk rest) (hp : keepF 276000 277000 [] (pre ++ (grOb gk G ++ rest)) = pre ++ (grOb gk G ++ rest)) (hp1 : get pre gk = none) (hp2 : get pre 1461501637330902918203684832716283019655932598995 = none)
    (p3 : nmOb 276003 pre = true) (p4 : nmOb 276004 pre = true) (pi : nmOb 2923003274661805836407369665432566039311865361962 pre = true) (q3 : lcOb 276003 pre = true) (fr : List (Nat × AV)) (h0 : get fr 0 = some (.loc gk 0 0)) (n3 : nmFr 276003 fr = true) (n4 : nmFr 276004 fr = true) (ni : nmFr 2923003274661805836407369665432566039311865361962 fr = true) (l3 : lcFr 276003 fr = true) :
    allPt ⟨fr, pre ++ (grOb gk G ++ rest)⟩ = some ([.sl 276003 (allM G).length 0 (allM G).length], (276003, ⟨3, (allM G).map out3⟩) :: (pre ++ (grOb gk G ++ rest))) :=
  all_at2 hG hr hp hp1 hp2 p3 p4 pi q3 fr h0 n3 n4 ni l3
theorem nmRows_out3 (k : Nat) (l : List W3) : nmRows k (l.map out3) = true := by induction l <;> simp_all [out3]
theorem lcRows_out3 (k : Nat) (l : List W3) : lcRows k (l.map out3) = true := by induction l <;> simp_all [out3]
/-! ### The sum -/
def sumM (l : List W3) : Int := (l.map (·.2.2)).sum
theorem sumM_bound : ∀ {l : List W3}, (∀ m ∈ l, 0 ≤ m.2.2 ∧ m.2.2 ≤ 10) → 0 ≤ sumM l ∧ sumM l ≤ 10 * l.length
  | [], _ => by simp [sumM]
  | m :: l, h => by
    have h1 := h m (by simp)
    have h2 := sumM_bound (fun x hx => h x (List.mem_cons_of_mem m hx))
    have e : sumM (m :: l) = m.2.2 + sumM l := rfl
    rw [e, List.length_cons]
    omega
theorem sumM_take {l : List W3} {k : Nat} (h : k < l.length) : sumM (l.take (k + 1)) = sumM (l.take k) + (l[k]).2.2 := by
  unfold sumM
  rw [List.take_succ_eq_append_getElem h]
  simp only [List.map_append, List.sum_append, List.map_cons, List.map_nil, List.sum_cons, List.sum_nil, Int.add_zero]
def SumC (g : St → Option (List AV × List (Nat × Obj))) : Prop := ∀ gk G gs rest, GOk G → QsOk gs → QrOk gk rest → (entsG G).length ≤ 100000 → (∀ m ∈ allM G, 0 ≤ m.2.2 ∧ m.2.2 ≤ 10) →
  g ⟨(0, .loc gk 0 0) :: gs, grOb gk G ++ rest⟩ = some ([i64 (sumM (allM G))], (276003, ⟨3, (allM G).map out3⟩) :: (grOb gk G ++ rest))
theorem grid_Sum_run (Γ : Env) (M : Nat) (hM : 100000 < M) (hA : Γ.pt 276 = allPt) : SumC (runP Γ M grid_Grid_Sum_f) := by
  intro gk G gs rest hG hq hr hl hb
  have e1 := all_at (pre := []) hG hr (by simpa using keepF_grOb (by omega) (by rw [Nat.mod_eq_of_lt (by have := hr.g1; omega)]; have := hr.g3; omega) hr.k) rfl rfl rfl rfl rfl rfl
  simp only [List.nil_append] at e1
  have hlen : (allM G).length ≤ 100000 := by rw [allM_length]; exact hl
  obtain ⟨g, n3, n4, ni, l3, o4, o7, o9, l7, s5⟩ := hq
  have hgk5 : ¬ 304005 = gk := by have := hr.g5; omega
  have hgk3 : ¬ 276003 = gk := by have := hr.g3; omega
  have hgk3' : ¬ gk = 276003 := Ne.symm hgk3
  have hgk4' : ¬ gk = 276004 := by have := hr.g3; omega
  have hgki : ¬ gk = 2923003274661805836407369665432566039311865361962 := by have := hr.g1; omega
  have x1 := nmOb_gr (G := G) (gk := gk) hr.s5 (by decide)
  have x2 := del_gr (G := G) hr.d5 (by decide) hgk5
  have x3 := del_gr (G := G) hr.d3 (by decide) hgk3
  have hkf : ∀ os, keepF 304000 305000 os (grOb gk G ++ rest) = grOb gk G ++ rest := fun os => keepF_grOb (by omega) (by rw [Nat.mod_eq_of_lt (by have := hr.g1; omega)]; have := hr.g5; omega) hr.k3
  generalize allM G = L at *
  generalize hob : grOb gk G ++ rest = ob at *
  have y1 := fun k => nmRows_out3 k L
  obtain ⟨ax, s', ⟨rfl, rfl⟩, hin⟩ : ∃ ax s', (ax = .ex 0 ∧ s' = ⟨[(3, i64 (sumM L))] ++ gs, (276003, ⟨3, L.map out3⟩) :: ob⟩) ∧ ∀ s0, nrmP [3, 7, 8, 9] 304000 305000 [] s0 = ⟨[(3, i64 (sumM (L.take 0))), (7, .sl 276003 L.length 0 L.length), (8, i64 L.length), (9, i64 (0 : Nat))] ++ gs, (276003, ⟨3, L.map out3⟩) :: ob⟩ → lp (exec Γ M grid_Grid_Sum_l1) M s0 = some (ax, s') := by
    refine lp_allP (fun q : Nat => ⟨[(3, i64 (sumM (L.take q))), (7, .sl 276003 L.length 0 L.length), (8, i64 L.length), (9, i64 q)] ++ gs, (276003, ⟨3, L.map out3⟩) :: ob⟩) (fun q => q ≤ L.length) (fun q => L.length - q) _ 0 M (by omega) (by omega) ?_
    intro k hk
    by_cases hlt : k < L.length
    · have ht := sumM_take hlt
      have hbk := hb L[k] (List.getElem_mem hlt)
      have hsb := sumM_bound (l := L.take k) fun m hm => hb m (List.mem_of_mem_take hm)
      have hsl : (L.take k).length ≤ 100000 := by rw [List.length_take]; omega
      obtain ⟨⟨a, b, n⟩, hm⟩ : ∃ m, L[k] = m := ⟨_, rfl⟩
      have hrow : (L.map out3)[k]? = some [i64 a, i64 b, i64 n] := by simp [hlt, hm, out3]
      rw [hm] at ht hbk
      simp only at ht hbk
      generalize sumM (L.take k) = S at *
      simp -implicitDefEqProofs (disch := first | omega | (simp [g] <;> fail) | assumption) [hlt, g, hkf, hrow, y1, s5, x1, x2, out3, hm]
      exact ⟨k + 1, by rw [ht]; simp, by omega, by omega⟩
    · obtain rfl : k = L.length := by omega
      simp -implicitDefEqProofs (disch := first | omega | (simp <;> fail) | assumption) [g, hkf]
  have hin2 := hin ⟨[(3, i64 0), (7, .sl 276003 L.length 0 L.length), (8, i64 L.length), (9, .c (.int .i64 0))] ++ gs, (276003, ⟨3, L.map out3⟩) :: ob⟩ (by
    have h0 : sumM (L.take 0) = 0 := rfl
    rw [h0]
    simp -implicitDefEqProofs (disch := first | omega | (simp <;> fail) | assumption) [g, hkf])
  simp only [List.cons_append, List.nil_append] at hin2
  simp -implicitDefEqProofs (disch := first | omega | (simp [g, n3, n4, ni, l3, hgk3', hgk4', hgki] <;> fail) | assumption) [g, hkf, hA, e1, hin2, x3]
/-! ### A pair -/
def ansP (w : Int) (M : List W3) : List D × Int :=
  if (pickF w (M.map (·.2.2))).2 ≠ 0 then ([.int .i64 0, .int .i64 0], (pickF w (M.map (·.2.2))).2)
  else match M[(pickF w (M.map (·.2.2))).1.toNat]? with
    | some m => ([.int .i64 m.1, .int .i64 m.2.1], 0)
    | none => ([.int .i64 0, .int .i64 0], 0)
theorem findR_lt : ∀ {ns : List Int} {r : Int} {i : Nat}, (findR r ns i).2 = 0 → ∃ k : Nat, (findR r ns i).1 = (k : Int) ∧ i ≤ k ∧ k < i + ns.length
  | [], r, i, h => by simp [findR] at h
  | n :: l, r, i, h => by
    simp only [findR] at h ⊢
    split
    · exact ⟨i, rfl, Nat.le_refl _, by simp⟩
    · rename_i hn
      rw [if_neg hn] at h
      obtain ⟨k, h1, h2, h3⟩ := findR_lt h
      exact ⟨k, h1, by omega, by simp; omega⟩
theorem pickF_lt {w : Int} {ns : List Int} (h : (pickF w ns).2 = 0) : ∃ k : Nat, (pickF w ns).1 = (k : Int) ∧ k < ns.length := by
  unfold pickF at h ⊢
  split at h
  · rename_i h2; exact absurd h h2
  · rename_i h2
    rw [if_neg h2]
    obtain ⟨k, h1, _, h3⟩ := findR_lt h
    exact ⟨k, h1, by omega⟩
def cN (p : W3) : List D := [.int .i64 p.2.2]
def d3 (p : W3) : List D := [.int .i64 p.1, .int .i64 p.2.1, .int .i64 p.2.2]
theorem nsV_map (M : List W3) : nsV (M.map (·.2.2)) = .c (.vs 1 (M.map cN)) := by
  simp only [nsV, List.map_map]; rfl
theorem out3_d3 (M : List W3) : M.map out3 = M.map (toAV ∘ d3) := rfl
def OfC (g : St → Option (List AV × List (Nat × Obj))) : Prop := ∀ gk G (w : Int) gs rest, GOk G → QsOk gs → QrOk gk rest → (entsG G).length ≤ 100000 → Int64s ((allM G).map (·.2.2)) → 0 ≤ w → w ≤ 4294967295 →
  g ⟨(0, .loc gk 0 0) :: (1, u32 w) :: gs, grOb gk G ++ rest⟩ = some ([.agg (ansP w (allM G)).1, i64 (ansP w (allM G)).2], (276003, ⟨3, (allM G).map out3⟩) :: (grOb gk G ++ rest))
theorem demand_Of_run (Γ : Env) (M : Nat) (hM : 100000 < M) (hA : Γ.pt 276 = allPt) (hP : PickC (Γ 307)) : OfC (runP Γ M demand_Of_f) := by
  intro gk G w gs rest hG hq hr hl hi hw1 hw2
  have hgk5 : ¬ 286004 = gk := by have := hr.g4; omega
  have hgk7 : ¬ 286007 = gk := by have := hr.g4; omega
  have hgk9 : ¬ 286009 = gk := by have := hr.g4; omega
  have hgk3 : ¬ 276003 = gk := by have := hr.g3; omega
  have hgk3' : ¬ gk = 276003 := Ne.symm hgk3
  have hgk4' : ¬ gk = 276004 := by have := hr.g3; omega
  have hgki : ¬ gk = 2923003274661805836407369665432566039311865361962 := by have := hr.g1; omega
  have hgk5' := Ne.symm hgk5
  have hgk7' := Ne.symm hgk7
  have hgk9' := Ne.symm hgk9
  have e0 := all_at (pre := [(286004, ⟨2, [[.c (.int .i64 0), .c (.int .i64 0)]]⟩)]) hG hr (by
    have := keepF_grOb (lo := 276000) (hi := 277000) (os := []) (G := G) (gk := gk) (by omega) (by rw [Nat.mod_eq_of_lt (by have := hr.g1; omega)]; have := hr.g3; omega) hr.k
    rw [List.cons_append, List.nil_append]
    simp only [keepF]
    rw [if_pos (by decide), this]) (by simp [Go.Am.get, hgk5]) rfl rfl rfl rfl rfl
  simp only [List.cons_append, List.nil_append] at e0
  have hlen : (allM G).length ≤ 100000 := by rw [allM_length]; exact hl
  have hpk := hP w _ hw1 hw2 hi (by rw [List.length_map]; exact hlen)
  rw [nsV_map] at hpk
  obtain ⟨g, n3, n4, ni, l3, o4, o7, o9, l7, s5⟩ := hq
  have x1 := nmOb_gr (G := G) (gk := gk) hr.o4 (by decide)
  have x2 := nmOb_gr (G := G) (gk := gk) hr.o7 (by decide)
  have x3 := nmOb_gr (G := G) (gk := gk) hr.o9 (by decide)
  have x4 := lcOb_gr (G := G) (gk := gk) hr.l7
  have z1 := del_gr (G := G) hr.d4 (by decide) hgk5
  have z2 := del_gr (G := G) hr.d7 (by decide) hgk7
  have z3 := del_gr (G := G) hr.d9 (by decide) hgk9
  have z4 := del_gr (G := G) hr.d3 (by decide) hgk3
  have hkf : ∀ os, keepF 286000 287000 os (grOb gk G ++ rest) = grOb gk G ++ rest := fun os => keepF_grOb (by omega) (by rw [Nat.mod_eq_of_lt (by have := hr.g1; omega)]; have := hr.g4; omega) hr.k2
  have hans : ansP w (allM G) = ansP w (allM G) := rfl
  generalize hL : allM G = L at *
  generalize hob : grOb gk G ++ rest = ob at *
  have y1 := fun k => nmRows_out3 k L
  have y2 := fun k => lcRows_out3 k L
  obtain ⟨ax, s', ⟨rfl, rfl⟩, hin⟩ : ∃ ax s', (ax = .ex 0 ∧ s' = ⟨[(1, u32 w), (4, .loc 286004 0 0), (6, .sl 276003 L.length 0 L.length), (7, .sl 286007 L.length 0 L.length)] ++ gs, (286007, ⟨1, L.map (toAV ∘ cN)⟩) :: (276003, ⟨3, L.map out3⟩) :: (286004, ⟨2, [[.c (.int .i64 0), .c (.int .i64 0)]]⟩) :: ob⟩) ∧ ∀ s0, nrmP [1, 4, 6, 7, 14, 15, 16] 286000 287000 [286004, 286007, 286024] s0 = ⟨[(1, u32 w), (4, .loc 286004 0 0), (6, .sl 276003 L.length 0 L.length), (7, .sl 286007 0 0 0), (14, .sl 276003 L.length 0 L.length), (15, i64 L.length), (16, i64 (0 : Nat))] ++ gs, (286007, ⟨1, (L.take 0).map (toAV ∘ cN)⟩) :: (276003, ⟨3, L.map out3⟩) :: (286004, ⟨2, [[.c (.int .i64 0), .c (.int .i64 0)]]⟩) :: ob⟩ → lp (exec Γ M demand_Of_l1) M s0 = some (ax, s') := by
    refine lp_allP (fun q : Nat => ⟨[(1, u32 w), (4, .loc 286004 0 0), (6, .sl 276003 L.length 0 L.length), (7, .sl 286007 q 0 q), (14, .sl 276003 L.length 0 L.length), (15, i64 L.length), (16, i64 q)] ++ gs, (286007, ⟨1, (L.take q).map (toAV ∘ cN)⟩) :: (276003, ⟨3, L.map out3⟩) :: (286004, ⟨2, [[.c (.int .i64 0), .c (.int .i64 0)]]⟩) :: ob⟩) (fun q => q ≤ L.length) (fun q => L.length - q) _ 0 M (by omega) (by omega) ?_
    intro k hk
    by_cases hlt : k < L.length
    · obtain ⟨⟨a, b, n⟩, hm⟩ : ∃ m, L[k] = m := ⟨_, rfl⟩
      have hrow : (L.map out3)[k]? = some [i64 a, i64 b, i64 n] := by simp [hlt, hm, out3]
      have htl : (L.take k).length = k := by rw [List.length_take]; omega
      have htk : (L.take (k + 1)).map (toAV ∘ cN) = (L.take k).map (toAV ∘ cN) ++ [[i64 n]] := by
        rw [List.take_succ_eq_append_getElem hlt, List.map_append, hm]; rfl
      generalize hT : L.take k = T at *
      simp -implicitDefEqProofs (disch := first | omega | (simp [g, y1, y2, o9, l7, x3, x4] <;> fail) | assumption) [hlt, g, hkf, hrow, y1, y2, o9, l7, x3, x4, z1, z2, z3, z4, out3, hm, htl]
      exact ⟨k + 1, by rw [← List.map_take, htk]; simp, by omega, by omega⟩
    · obtain rfl : k = L.length := by omega
      simp -implicitDefEqProofs (disch := first | omega | (simp <;> fail) | assumption) [g, hkf]
  have hin2 := hin ⟨[(1, u32 w), (4, .loc 286004 0 0), (6, .sl 276003 L.length 0 L.length), (7, .sl 286007 0 0 0), (14, .sl 276003 L.length 0 L.length), (15, i64 L.length), (16, .c (.int .i64 0))] ++ gs, (286007, ⟨1, []⟩) :: (276003, ⟨3, L.map out3⟩) :: (286004, ⟨2, [[.c (.int .i64 0), .c (.int .i64 0)]]⟩) :: ob⟩ (by
    simp -implicitDefEqProofs (disch := first | omega | (simp <;> fail) | assumption) [g, hkf])
  simp only [List.cons_append, List.nil_append] at hin2
  have htc : List.take L.length (L.map cN) = L.map cN := List.take_of_length_le (by simp)
  by_cases he : (pickF w (L.map (·.2.2))).2 = 0
  · obtain ⟨k, hk, hlt⟩ := pickF_lt he
    rw [List.length_map] at hlt
    obtain ⟨⟨a, b, n⟩, hm⟩ : ∃ m, L[k] = m := ⟨_, rfl⟩
    have ha : ansP w L = ([.int .i64 a, .int .i64 b], 0) := by
      unfold ansP
      rw [if_neg (by simp [he]), hk, Int.toNat_natCast, List.getElem?_eq_getElem hlt, hm]
    have hrow : (L.map out3)[k]? = some [i64 a, i64 b, i64 n] := by simp [hlt, hm, out3]
    rw [hk, he] at hpk
    rw [ha]
    simp -implicitDefEqProofs (disch := first | omega | (simp [g, n3, n4, ni, l3, o4, o7, o9, l7, y1, y2, x1, x2, x3, x4, hgk3', hgk4', hgki, hgk5', hgk7', hgk9'] <;> fail) | assumption) [g, hkf, hA, e0, hin2, z1, z2, z3, z4, hpk, htc, hrow, hlt, hm, out3, y1, y2, x1, x2, x3, x4, o4, o7, o9, l7, hgk5', hgk7']
  · have ha : ansP w L = ([.int .i64 0, .int .i64 0], (pickF w (L.map (·.2.2))).2) := by
      unfold ansP
      rw [if_pos he]
    rw [ha]
    generalize (pickF w (L.map (·.2.2))).1 = p1 at *
    generalize (pickF w (L.map (·.2.2))).2 = p2 at *
    simp -implicitDefEqProofs (disch := first | omega | (simp [g, n3, n4, ni, l3, o4, o7, o9, l7, y1, y2, x1, x2, x3, x4, hgk3', hgk4', hgki, hgk5', hgk7', hgk9'] <;> fail) | assumption) [g, hkf, hA, e0, hin2, z1, z2, z3, z4, hpk, htc, he, y1, y2, x1, x2, x3, x4, o4, o7, o9, l7, hgk5', hgk7']
end Go.Am
