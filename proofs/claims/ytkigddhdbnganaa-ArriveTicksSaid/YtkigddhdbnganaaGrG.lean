/- Grids: a pair is set; what is asked of what else is there; the sum. -/
import Derived.Test.YtkigddhdbnganaaGrA
set_option linter.unusedVariables false
set_option linter.unusedSimpArgs false
set_option maxRecDepth 10000
set_option maxHeartbeats 1000000
namespace Go.Am
/-- A grid: its map is nil, or its clock and its entries. -/
abbrev GSt := Option (Nat × List En)
def grOb (gk : Nat) : GSt → List (Nat × Obj)
  | none => [(gk, ⟨1, [[.ot .nm]]⟩)]
  | some (z, es) => [(1461501637330902918203684832716283019655932598995, ⟨z, es.map En.row⟩), (gk, ⟨1, [[.mp 1461501637330902918203684832716283019655932598995]]⟩)]
def pidx (x y : Int) : List En → Nat → Option (Nat × Int)
  | [], _ => none
  | e :: l, i => if x = e.x ∧ y = e.y then some (i, e.n) else pidx x y l (i + 1)
def bAt (es : List En) (i : Nat) : Int := match es[i]? with
  | some e => e.b
  | none => 0
def setG (G : GSt) (x y n : Int) : GSt :=
  if n = 0 then match G with
    | none => none
    | some (z, es) => match pidx x y es 0 with
      | some (i, _) => some (z, es.eraseIdx i)
      | none => some (z, es)
  else match G with
    | none => some (1, [⟨0, x, y, n⟩])
    | some (z, es) => match pidx x y es 0 with
      | some (i, _) => some (z, es.take i ++ ⟨bAt es i, x, y, n⟩ :: es.drop (i + 1))
      | none => some (z + 1, es ++ [⟨z, x, y, n⟩])
theorem pidx_lt {x y : Int} : ∀ {es : List En} {k i : Nat} {n : Int}, pidx x y es k = some (i, n) → k ≤ i ∧ i < k + es.length ∧ ∃ e, es[i - k]? = some e ∧ e.x = x ∧ e.y = y
  | e :: l, k, i, n, h => by
    simp only [pidx] at h
    split at h
    · rename_i hh
      simp only [Option.some.injEq, Prod.mk.injEq] at h
      obtain ⟨rfl, _⟩ := h
      exact ⟨Nat.le_refl _, by simp, e, by simp, hh.1.symm, hh.2.symm⟩
    · obtain ⟨h1, h2, e', h3, h4⟩ := pidx_lt h
      refine ⟨by omega, by simp; omega, e', ?_, h4⟩
      rw [show i - k = (i - (k + 1)) + 1 by omega, List.getElem?_cons_succ]; exact h3
abbrev kkP : KK := (true, [.int .i64, .int .i64])
theorem mfind_pidx (x y : Int) : ∀ (es : List En) (k : Nat), mfind kkP (.agg [.int .i64 x, .int .i64 y]) (es.map En.row) k = some ((pidx x y es k).map fun p => (p.1, .c (.int .i64 p.2)))
  | [], k => rfl
  | e :: l, k => by
    have hm : mkeq kkP (.agg [.int .i64 x, .int .i64 y]) (.agg [.int .i64 e.x, .int .i64 e.y]) = some (decide (x = e.x ∧ y = e.y)) := by
      simp [mkeq, eqKs, eqK]
    rw [List.map_cons, En.row, mfind, hm]
    by_cases h : x = e.x ∧ y = e.y
    · simp only [decide_eq_true h, pidx, if_pos h, Option.map_some]
    · simp only [decide_eq_false h, pidx, if_neg h]; exact mfind_pidx x y l (k + 1)
theorem stampAt_row {es : List En} {i : Nat} (h : i < es.length) : stampAt (es.map En.row) i = .c (.int .i64 (bAt es i)) := by
  simp [stampAt, bAt, h, En.row]
theorem eraseIdx_row (es : List En) (i : Nat) : (es.map En.row).eraseIdx i = (es.eraseIdx i).map En.row := by
  induction es generalizing i with
  | nil => simp
  | cons e l ih => cases i <;> simp [ih]
theorem nmRows_row (k : Nat) (l : List En) : nmRows k (l.map En.row) = true := by induction l <;> simp_all [En.row]
theorem lcRows_row (k : Nat) (l : List En) : lcRows k (l.map En.row) = true := by induction l <;> simp_all [En.row]
abbrev W3 := Int × Int × Int
theorem keepF_grOb {lo hi : Nat} {os : List Nat} {G : GSt} {rest : List (Nat × Obj)} (hm : 56019 < lo ∨ hi ≤ 56019 ∨ 1461501637330902918203684832716283019655932598995 ∈ os) {gk : Nat} (hg : gk % 18446744073709551616 < lo ∨ hi ≤ gk % 18446744073709551616 ∨ gk ∈ os) (hk : Kf lo hi rest) : keepF lo hi os (grOb gk G ++ rest) = grOb gk G ++ rest := by
  have hm' : 1461501637330902918203684832716283019655932598995 % KT < lo ∨ hi ≤ 1461501637330902918203684832716283019655932598995 % KT ∨ 1461501637330902918203684832716283019655932598995 ∈ os := hm
  have hg' : gk % KT < lo ∨ hi ≤ gk % KT ∨ gk ∈ os := hg
  cases G with
  | none =>
    simp only [grOb, List.cons_append, List.nil_append, keepF]
    rw [if_pos hg', hk.eq]
  | some p =>
    obtain ⟨z, es⟩ := p
    simp only [grOb, List.cons_append, List.nil_append, keepF]
    rw [if_pos hm', if_pos hg', hk.eq]
theorem nmFr_gho (k : Nat) : ∀ gs : List (Nat × AV), nmFr k (gho gs) = nmFr k gs
  | [] => rfl
  | (i, v) :: r => by simp only [gho, nmFr, nmFr_gho k r]
theorem lcFr_gho (k : Nat) : ∀ gs : List (Nat × AV), lcFr k (gho gs) = lcFr k gs
  | [] => rfl
  | (i, v) :: r => by simp only [gho, lcFr, lcFr_gho k r]
attribute [simp] nmFr_gho lcFr_gho
def out3 (p : W3) : List AV := [i64 p.1, i64 p.2.1, i64 p.2.2]
/-- What is known of a grid's entries, where they are asked for. -/
def entsG : GSt → List En
  | none => []
  | some (_, es) => es
structure GOk (G : GSt) : Prop where
  b : bornB (entsG G) = true
  l : (entsG G).length ≤ 200000
  t : noTies ltW ((entsG G).map En.w) = true
theorem allPt_gr {fr : List (Nat × AV)} {ob : List (Nat × Obj)} {gk : Nat} {G : GSt} (h0 : get fr 0 = some (.loc gk 0 0)) (hG : GOk G)
    (hg : match G with
      | none => get (keepF 276000 277000 [] ob) gk = some ⟨1, [[.ot .nm]]⟩
      | some (z, es) => get (keepF 276000 277000 [] ob) gk = some ⟨1, [[.mp 1461501637330902918203684832716283019655932598995]]⟩ ∧ get (keepF 276000 277000 [] ob) 1461501637330902918203684832716283019655932598995 = some ⟨z, es.map En.row⟩)
    (hs : allSide ⟨fr, ob⟩ = true) : allPt ⟨fr, ob⟩ = some ([.sl 276003 (entsG G).length 0 (entsG G).length], (276003, ⟨3, (resF ltW ((entsG G).map En.w)).map rowI⟩) :: keepF 276000 277000 [] ob) := by
  have he : allEnts ⟨fr, ob⟩ = some (entsG G) := by
    unfold allEnts
    simp only [h0, obA]
    cases G with
    | none => simp only at hg; rw [hg]; rfl
    | some p =>
      obtain ⟨z, es⟩ := p
      simp only at hg
      rw [hg.1]
      simp only [hg.2, gEnts_map]; rfl
  unfold allPt
  rw [he]
  simp only [hG.b, hG.t, hs, hG.l, decide_true, Bool.and_self, if_true, obA]
/-! ### What the grid's list is -/
def tri (z : List Int) : W3 := (z.getD 0 0, z.getD 1 0, z.getD 2 0)
def allM (G : GSt) : List W3 := (resF ltW ((entsG G).map En.w)).map tri
theorem swo_ltW : Go.Sort.SWO ltW := by rw [← lt_cfW]; exact swo_cfW
theorem allM_out (G : GSt) : (resF ltW ((entsG G).map En.w)).map rowI = (allM G).map out3 := by
  unfold allM
  rw [List.map_map]
  refine List.map_congr_left fun z hz => ?_
  obtain ⟨e, _, rfl⟩ := List.mem_map.1 ((resF_perm swo_ltW _).mem_iff.1 hz)
  rfl
theorem allM_length (G : GSt) : (allM G).length = (entsG G).length := by
  unfold allM
  rw [List.length_map, (resF_perm swo_ltW _).length_eq, List.length_map]
theorem allM_mem {G : GSt} {m : W3} (h : m ∈ allM G) : ∃ e ∈ entsG G, m = (e.x, e.y, e.n) := by
  obtain ⟨z, hz, rfl⟩ := List.mem_map.1 h
  obtain ⟨e, he, rfl⟩ := List.mem_map.1 ((resF_perm swo_ltW _).mem_iff.1 hz)
  exact ⟨e, he, rfl⟩
/-! ### What is asked of what else is there -/
structure QsOk (gs : List (Nat × AV)) : Prop where
  g : Gh gs
  n3 : nmFr 276003 gs = true
  n4 : nmFr 276004 gs = true
  ni : nmFr 2923003274661805836407369665432566039311865361962 gs = true
  l3 : lcFr 276003 gs = true
  o4 : nmFr 286004 gs = true
  o7 : nmFr 286007 gs = true
  o9 : nmFr 286009 gs = true
  l7 : lcFr 286007 gs = true
  s5 : nmFr 304005 gs = true
structure QrOk (gk : Nat) (rest : List (Nat × Obj)) : Prop where
  g1 : gk < 10000000
  g2 : gk < 56000 ∨ 57000 ≤ gk
  g3 : gk < 276000 ∨ 277000 ≤ gk
  g4 : gk < 286000 ∨ 287000 ≤ gk
  g5 : gk < 304000 ∨ 305000 ≤ gk
  k : Kf 276000 277000 rest
  k2 : Kf 286000 287000 rest
  k3 : Kf 304000 305000 rest
  n3 : nmOb 276003 rest = true
  n4 : nmOb 276004 rest = true
  ni : nmOb 2923003274661805836407369665432566039311865361962 rest = true
  l3 : lcOb 276003 rest = true
  o4 : nmOb 286004 rest = true
  o7 : nmOb 286007 rest = true
  o9 : nmOb 286009 rest = true
  l7 : lcOb 286007 rest = true
  s5 : nmOb 304005 rest = true
  d3 : del rest 276003 = rest
  d4 : del rest 286004 = rest
  d7 : del rest 286007 = rest
  d9 : del rest 286009 = rest
  d5 : del rest 304005 = rest
theorem nmOb_gr {k gk : Nat} {G : GSt} {rest : List (Nat × Obj)} (h : nmOb k rest = true) (hk : ¬ k = 1461501637330902918203684832716283019655932598995) : nmOb k (grOb gk G ++ rest) = true := by
  have hk' : ¬ 1461501637330902918203684832716283019655932598995 = k := Ne.symm hk
  cases G with
  | none => simp [grOb, h]
  | some p => obtain ⟨z, es⟩ := p; simp [grOb, h, nmRows_row, hk']
theorem lcOb_gr {k gk : Nat} {G : GSt} {rest : List (Nat × Obj)} (h : lcOb k rest = true) : lcOb k (grOb gk G ++ rest) = true := by
  cases G with
  | none => simp [grOb, h]
  | some p => obtain ⟨z, es⟩ := p; simp [grOb, h, lcRows_row]
theorem del_gr {k gk : Nat} {G : GSt} {rest : List (Nat × Obj)} (h : del rest k = rest) (hk : ¬ k = 1461501637330902918203684832716283019655932598995) (hg : ¬ k = gk) : del (grOb gk G ++ rest) k = grOb gk G ++ rest := by
  have hk' : ¬ 1461501637330902918203684832716283019655932598995 = k := Ne.symm hk
  have hg' : ¬ gk = k := Ne.symm hg
  cases G with
  | none => simp [grOb, h, hg']
  | some p => obtain ⟨z, es⟩ := p; simp [grOb, h, hk', hg']
/-- All, with some objects ahead of the grid. -/
theorem all_at2 {gk : Nat} {G : GSt} {ob rest pre : List (Nat × Obj)} (hG : GOk G) (hr : QrOk gk rest) (hp : keepF 276000 277000 [] ob = pre ++ (grOb gk G ++ rest)) (hp1 : get pre gk = none) (hp2 : get pre 1461501637330902918203684832716283019655932598995 = none)
    (p3 : nmOb 276003 pre = true) (p4 : nmOb 276004 pre = true) (pi : nmOb 2923003274661805836407369665432566039311865361962 pre = true) (q3 : lcOb 276003 pre = true) (fr : List (Nat × AV)) (h0 : get fr 0 = some (.loc gk 0 0)) (n3 : nmFr 276003 fr = true) (n4 : nmFr 276004 fr = true) (ni : nmFr 2923003274661805836407369665432566039311865361962 fr = true) (l3 : lcFr 276003 fr = true) :
    allPt ⟨fr, ob⟩ = some ([.sl 276003 (allM G).length 0 (allM G).length], (276003, ⟨3, (allM G).map out3⟩) :: (pre ++ (grOb gk G ++ rest))) := by
  have hga : ∀ (l m : List (Nat × Obj)) (k : Nat), get l k = none → get (l ++ m) k = get m k := by
    intro l m k h
    induction l with
    | nil => rfl
    | cons p l ih =>
      obtain ⟨i, v⟩ := p
      simp only [Go.Am.get] at h
      split at h
      · simp at h
      · rename_i hne
        simp only [List.cons_append, Go.Am.get, if_neg hne]; exact ih h
  have hna : ∀ (k : Nat) (l m : List (Nat × Obj)), nmOb k l = true → nmOb k m = true → nmOb k (l ++ m) = true := by
    intro k l m h h2
    induction l with
    | nil => exact h2
    | cons p l ih =>
      obtain ⟨i, v⟩ := p
      simp only [nmOb, Bool.and_eq_true] at h
      simp only [List.cons_append, nmOb, h.1, ih h.2, Bool.and_self]
  have hla : ∀ (k : Nat) (l m : List (Nat × Obj)), lcOb k l = true → lcOb k m = true → lcOb k (l ++ m) = true := by
    intro k l m h h2
    induction l with
    | nil => exact h2
    | cons p l ih =>
      obtain ⟨i, v⟩ := p
      simp only [lcOb, Bool.and_eq_true] at h
      simp only [List.cons_append, lcOb, h.1, ih h.2, Bool.and_self]
  rw [allM_length, ← allM_out]
  have := allPt_gr (fr := fr) (ob := ob) h0 hG (by
    rw [hp, hga _ _ _ hp1, hga _ _ _ hp2]
    have hne : ¬ 1461501637330902918203684832716283019655932598995 = gk := by have := hr.g1; omega
    cases G with
    | none => simp [grOb]
    | some p => obtain ⟨z, es⟩ := p; simp [grOb, hne]) (by
    simp only [allSide, obA, hp, n3, n4, ni, l3, hna _ _ _ p3 (nmOb_gr hr.n3 (by decide)), hna _ _ _ p4 (nmOb_gr hr.n4 (by decide)), hna _ _ _ pi (nmOb_gr hr.ni (by decide)), hla _ _ _ q3 (lcOb_gr hr.l3), Bool.and_self])
  rw [this, hp]
theorem all_at {gk : Nat} {G : GSt} {rest pre : List (Nat × Obj)} (hG : GOk G) (hr : QrOk gk rest) (hp : keepF 276000 277000 [] (pre ++ (grOb gk G ++ rest)) = pre ++ (grOb gk G ++ rest)) (hp1 : get pre gk = none) (hp2 : get pre 1461501637330902918203684832716283019655932598995 = none)
    (p3 : nmOb 276003 pre = true) (p4 : nmOb 276004 pre = true) (pi : nmOb 2923003274661805836407369665432566039311865361962 pre = true) (q3 : lcOb 276003 pre = true) (fr : List (Nat × AV)) (h0 : get fr 0 = some (.loc gk 0 0)) (n3 : nmFr 276003 fr = true) (n4 : nmFr 276004 fr = true) (ni : nmFr 2923003274661805836407369665432566039311865361962 fr = true) (l3 : lcFr 276003 fr = true) :
    allPt ⟨fr, pre ++ (grOb gk G ++ rest)⟩ = some ([.sl 276003 (allM G).length 0 (allM G).length], (276003, ⟨3, (allM G).map out3⟩) :: (pre ++ (grOb gk G ++ rest))) :=
  all_at2 hG hr hp hp1 hp2 p3 p4 pi q3 fr h0 n3 n4 ni l3
theorem nmRows_out3 (k : Nat) (l : List W3) : nmRows k (l.map out3) = true := by induction l <;> simp_all [out3]
theorem lcRows_out3 (k : Nat) (l : List W3) : lcRows k (l.map out3) = true := by induction l <;> simp_all [out3]
/-! ### The sum -/
def sumM (l : List W3) : Int := (l.map (·.2.2)).sum
theorem sumM_bound : ∀ {l : List W3}, (∀ m ∈ l, 0 ≤ m.2.2 ∧ m.2.2 ≤ 1000) → 0 ≤ sumM l ∧ sumM l ≤ 1000 * l.length
  | [], _ => by simp [sumM]
  | m :: l, h => by
    have h1 := h m (by simp)
    have h2 := sumM_bound (fun x hx => h x (List.mem_cons_of_mem m hx))
    have e : sumM (m :: l) = m.2.2 + sumM l := rfl
    rw [e, List.length_cons]
    omega
theorem sumM_take {l : List W3} {k : Nat} (h : k < l.length) : sumM (l.take (k + 1)) = sumM (l.take k) + (l[k]).2.2 := by
  unfold sumM
  rw [List.take_succ_eq_append_getElem h]
  simp only [List.map_append, List.sum_append, List.map_cons, List.map_nil, List.sum_cons, List.sum_nil, Int.add_zero]
end Go.Am
