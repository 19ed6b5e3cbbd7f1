/- A generator is made: its grids side by side. -/
import Derived.Test.YtkigddhdbnganaaArA
set_option linter.unusedVariables false
set_option linter.unusedSimpArgs false
set_option maxRecDepth 10000
set_option maxHeartbeats 4000000
namespace Go.Am
abbrev gk (j : Nat) : Nat := 1000000000000000000 + 2 * j
abbrev mk (j : Nat) : Nat := 1461501637330902918203684832716283019655932542976 + 1000000000000000000 + (2 * j + 1)
abbrev genRow (s : Scn) (ws : List Nat) (a : Nat) (sl : AV) (t p : Nat) : List AV := [i64 s.floors, i64 s.gap, i64 s.cars, i64 s.capacity, i64 s.opn, i64 s.dwell, i64 s.cls, i64 s.transfer, segV s.segs, i64 s.disp, i64 s.horizon, i64 s.bins, i64 s.width, wV ws, i64 a, sl, i64 t, i64 p]
abbrev scRow (s : Scn) : List AV := [i64 s.floors, i64 s.gap, i64 s.cars, i64 s.capacity, i64 s.opn, i64 s.dwell, i64 s.cls, i64 s.transfer, segV s.segs, i64 s.disp, i64 s.horizon, i64 s.bins, i64 s.width]
def srcR : List Seg → Nat → Rows
  | [], _ => []
  | g :: l, j => [uV (tbl g.rate.toNat), .loc (gk j) 0 0] :: srcR l (j + 1)
theorem srcR_append : ∀ (l m : List Seg) (j : Nat), srcR (l ++ m) j = srcR l j ++ srcR m (j + l.length)
  | [], m, j => by simp [srcR]
  | g :: l, m, j => by simp only [List.cons_append, srcR, srcR_append l m (j + 1), List.length_cons]; rw [show j + 1 + l.length = j + (l.length + 1) by omega]
theorem srcR_length : ∀ (l : List Seg) (j : Nat), (srcR l j).length = l.length
  | [], _ => rfl
  | g :: l, j => by simp [srcR, srcR_length l]
theorem srcR_get : ∀ (l : List Seg) (j i : Nat) (g : Seg), l[i]? = some g → (srcR l j)[i]? = some [uV (tbl g.rate.toNat), .loc (gk (j + i)) 0 0]
  | [], j, i, g, h => by simp at h
  | a :: l, j, 0, g, h => by simp only [List.getElem?_cons_zero, Option.some.injEq] at h; subst h; simp [srcR]
  | a :: l, j, i + 1, g, h => by
    simp only [List.getElem?_cons_succ] at h
    simp only [srcR, List.getElem?_cons_succ]
    rw [srcR_get l (j + 1) i g h]
    rw [show j + 1 + i = j + (i + 1) by omega]
theorem keepF_id {lo hi : Nat} {os : List Nat} : ∀ {ob : List (Nat × Obj)}, (∀ p ∈ ob, p.1 % KT < lo ∨ hi ≤ p.1 % KT ∨ p.1 ∈ os) → keepF lo hi os ob = ob
  | [], _ => rfl
  | (k, o) :: ob, h => by
    simp only [keepF]
    rw [if_pos (h (k, o) (by simp)), keepF_id fun p hp => h p (List.mem_cons_of_mem _ hp)]
theorem get_key_none {k : Nat} {ob : List (Nat × Obj)} (h : ∀ p ∈ ob, p.1 ≠ k) : get ob k = none := by
  cases hg : get ob k with
  | none => rfl
  | some o => exact absurd rfl (h _ (get_mem hg))
theorem mem_del_ne {k : Nat} : ∀ {ob : List (Nat × Obj)} {p : Nat × Obj}, p ∈ del ob k → p.1 ≠ k
  | [], p, h => by simp [del] at h
  | (j, o) :: ob, p, h => by
    simp only [del] at h
    split at h
    · exact mem_del_ne h
    · rename_i hj
      rcases List.mem_cons.1 h with rfl | h
      · exact hj
      · exact mem_del_ne h
def slA (i : Nat) : AV := if i = 0 then .nil 2 else .sl 1000475 i 0 i
structure MkI (s : Scn) (ws : List Nat) (ob0 : List (Nat × Obj)) (i : Nat) (ob : List (Nat × Obj)) : Prop where
  le : i ≤ s.segs.length
  key : ∀ p ∈ ob, p.1 < 1000 ∨ p.1 = 473002 ∨ p.1 = 473022 ∨ p.1 = 473052 ∨ p.1 = 1000475 ∨ p.1 = 900000000000000000 ∨ ∃ j < i, p.1 = gk j ∨ p.1 = mk j
  nm : ∀ k, 0 ≤ k → k ≠ 1000475 → (∀ j < i, k ≠ gk j ∧ k ≠ mk j) → nmOb k ob = true
  sc : get ob 473002 = some ⟨13, [scRow s]⟩
  gen : get ob 473022 = some ⟨18, [genRow s ws 0 (slA i) 0 0]⟩
  src : 0 < i → get ob 1000475 = some ⟨2, srcR (s.segs.take i) 0⟩
  gr : ∀ j g, j < i → s.segs[j]? = some g → GrAt (gk j) (mk j) (segK s g) ob
  nm0 : i = 0 → nmOb 1000475 ob = true
  lc : lcOb 1000475 ob = true
  cnt : cntX (get ob 900000000000000000) = 2 * i
  ext : ∀ k, k < 1000 → get ob k = get ob0 k
structure MkG (gs : List (Nat × AV)) : Prop where
  g : Gh gs
  n : ∀ k, 1000 ≤ k → nmFr k gs = true
theorem renRows_row (a b : Nat) (l : List En) : renRows a b (l.map En.row) = l.map En.row := renRows_nm (nmRows_row a l)
theorem nm_srcR {k : Nat} : ∀ (l : List Seg) (j : Nat), (∀ m, j ≤ m → m < j + l.length → k ≠ gk m) → nmRows k (srcR l j) = true
  | [], j, _ => rfl
  | g :: l, j, h => by
    have h1 := h j (Nat.le_refl _) (by simp)
    have h2 := nm_srcR (k := k) l (j + 1) (fun m a b => h m (by omega) (by simp; omega))
    have h3 : ¬ gk j = k := Ne.symm h1
    simp [srcR, h2, nmRow, AV.names, AV.names1, h3]
theorem lc_srcR {k : Nat} (hk : k < 1000000000000000000) : ∀ (l : List Seg) (j : Nat), lcRows k (srcR l j) = true
  | [], j => rfl
  | g :: l, j => by
    have h2 := lc_srcR hk l (j + 1)
    have h3 : ¬ 1000000000000000000 + 2 * j = k := by omega
    simp [srcR, h2, lcRow, AV.isLoc, AV.isLoc1, h3]
theorem lcOb_delO {k j : Nat} : ∀ {l : List (Nat × Obj)}, lcOb k l = true → lcOb k (del l j) = true
  | [], _ => rfl
  | (m, v) :: l, h => by
    simp only [lcOb, Bool.and_eq_true] at h
    simp only [del]
    split
    · exact lcOb_delO h.2
    · simp only [lcOb, h.1, lcOb_delO h.2, Bool.and_self]
theorem mk_next {s : Scn} {ws : List Nat} {ob0 : List (Nat × Obj)} {i : Nat} {ob : List (Nat × Obj)} (hI : MkI s ws ob0 i ob) (hi : i < s.segs.length) {x : Seg} (hx : s.segs[i] = x) (h8 : s.segs.length ≤ 8) :
    MkI s ws ob0 (i + 1) ((473022, ⟨18, [genRow s ws 0 (.sl 1000475 (i + 1) 0 (i + 1)) 0 0]⟩) :: (1000475, ⟨2, srcR (s.segs.take (i + 1)) 0⟩) :: (473052, ⟨2, [[uV (tbl x.rate.toNat), .loc (gk i) 0 0]]⟩) :: (900000000000000000, ⟨2 * i + 1 + 1, []⟩) :: (mk i, ⟨(segK s x).length, (enL 0 (segK s x)).map En.row⟩) :: (gk i, ⟨1, [[.mp (mk i)]]⟩) :: del (del (del (del ob 900000000000000000) 473052) 1000475) 473022) := by
  have gd : ∀ k, k ≠ 473022 → k ≠ 1000475 → k ≠ 473052 → k ≠ 900000000000000000 → k ≠ mk i → k ≠ gk i → get ((473022, (⟨18, [genRow s ws 0 (.sl 1000475 (i + 1) 0 (i + 1)) 0 0]⟩ : Obj)) :: (1000475, ⟨2, srcR (s.segs.take (i + 1)) 0⟩) :: (473052, ⟨2, [[uV (tbl x.rate.toNat), .loc (gk i) 0 0]]⟩) :: (900000000000000000, ⟨2 * i + 1 + 1, []⟩) :: (mk i, ⟨(segK s x).length, (enL 0 (segK s x)).map En.row⟩) :: (gk i, ⟨1, [[.mp (mk i)]]⟩) :: del (del (del (del ob 900000000000000000) 473052) 1000475) 473022) k = get ob k := fun k a1 a2 a3 a4 a5 a6 => by
    simp only [Go.Am.get, if_neg (Ne.symm a1), if_neg (Ne.symm a2), if_neg (Ne.symm a3), if_neg (Ne.symm a4), if_neg (Ne.symm a5), if_neg (Ne.symm a6), get_del, if_neg a1, if_neg a2, if_neg a3, if_neg a4]
  refine ⟨by omega, fun p hp => ?_, fun k a1 a2 a3 => ?_, ?_, ?_, fun _ => ?_, fun j g hj hg => ?_, fun h => absurd h (by omega), ?_, ?_, fun k hk => ?_⟩
  · simp only [List.mem_cons] at hp
    rcases hp with rfl | rfl | rfl | rfl | rfl | rfl | hp
    · exact .inr (.inr (.inl rfl))
    · exact .inr (.inr (.inr (.inr (.inl rfl))))
    · exact .inr (.inr (.inr (.inl rfl)))
    · exact .inr (.inr (.inr (.inr (.inr (.inl rfl)))))
    · exact .inr (.inr (.inr (.inr (.inr (.inr ⟨i, by omega, .inr rfl⟩)))))
    · exact .inr (.inr (.inr (.inr (.inr (.inr ⟨i, by omega, .inl rfl⟩)))))
    · have hp := mem_delO (mem_delO (mem_delO (mem_delO hp)))
      rcases hI.key p hp with h | h | h | h | h | h | ⟨j, hj, h⟩
      · exact .inl h
      · exact .inr (.inl h)
      · exact .inr (.inr (.inl h))
      · exact .inr (.inr (.inr (.inl h)))
      · exact .inr (.inr (.inr (.inr (.inl h))))
      · exact .inr (.inr (.inr (.inr (.inr (.inl h)))))
      · exact .inr (.inr (.inr (.inr (.inr (.inr ⟨j, by omega, h⟩)))))
  · have b1 := a3 i (by omega)
    have b2 : ¬ gk i = k := Ne.symm b1.1
    have b3 : ¬ mk i = k := Ne.symm b1.2
    have b4 : ¬ 1000475 = k := Ne.symm a2
    have c1 := nm_srcR (k := k) (s.segs.take (i + 1)) 0 fun m h1 h2 => (a3 m (by rw [List.length_take] at h2; omega)).1
    have c2 := nmRows_row k (enL 0 (segK s x))
    have c3 : nmOb k (del (del (del (del ob 900000000000000000) 473052) 1000475) 473022) = true := nmOb_delO (nmOb_delO (nmOb_delO (nmOb_delO (hI.nm k a1 a2 fun j hj => a3 j (by omega)))))
    simp only [gk, mk] at b2 b3
    simp [nmOb, nmRows, nmRow, AV.names, AV.names1, c1, c2, c3, b2, b3, b4]
  · rw [gd _ (by omega) (by omega) (by omega) (by omega) (by simp only [mk]; omega) (by simp only [gk]; omega)]
    exact hI.sc
  · simp only [Go.Am.get, if_true, slA]
    rw [if_neg (by omega)]
  · rfl
  · by_cases hji : j = i
    · subst hji
      have : x = g := by rw [List.getElem?_eq_getElem hi, hx] at hg; simpa using hg
      subst this
      refine ⟨?_, ?_, by unfold Hi; rw [KT_eq]; simp only [gk]; omega, by unfold Hi; rw [KT_eq]; simp only [mk]; omega⟩
      · simp only [Go.Am.get]
        rw [if_neg (by simp only [gk]; omega), if_neg (by simp only [gk]; omega), if_neg (by simp only [gk]; omega), if_neg (by simp only [gk]; omega), if_neg (by simp only [gk, mk]; omega), if_pos trivial]
      · simp only [Go.Am.get]
        rw [if_neg (by simp only [mk]; omega), if_neg (by simp only [mk]; omega), if_neg (by simp only [mk]; omega), if_neg (by simp only [mk]; omega), if_pos trivial]
    · have h := hI.gr j g (by omega) hg
      refine ⟨?_, ?_, h.hg, h.hm⟩
      · rw [gd _ (by simp only [gk]; omega) (by simp only [gk]; omega) (by simp only [gk]; omega) (by simp only [gk]; omega) (by simp only [gk, mk]; omega) (by simp only [gk]; omega)]
        exact h.g
      · rw [gd _ (by simp only [mk]; omega) (by simp only [mk]; omega) (by simp only [mk]; omega) (by simp only [mk]; omega) (by simp only [mk]; omega) (by simp only [gk, mk]; omega)]
        exact h.m
  · have c1 := lc_srcR (k := 1000475) (by omega) (s.segs.take (i + 1)) 0
    have c2 := lcRows_row 1000475 (enL 0 (segK s x))
    have c3 : lcOb 1000475 (del (del (del (del ob 900000000000000000) 473052) 1000475) 473022) = true := lcOb_delO (lcOb_delO (lcOb_delO (lcOb_delO hI.lc)))
    have c4 : ¬ 1000000000000000000 + 2 * i = 1000475 := by omega
    simp [lcOb, lcRows, lcRow, AV.isLoc, AV.isLoc1, c1, c2, c3, c4]
  · simp only [Go.Am.get]
    rw [if_neg (by omega), if_neg (by omega), if_neg (by omega), if_pos trivial]
    simp only [cntX_some]; omega
  · rw [gd _ (by omega) (by omega) (by omega) (by omega) (by simp only [mk]; omega) (by simp only [gk]; omega)]
    exact hI.ext k hk
theorem nbeq {a b : Nat} (h : ¬ a = b ∧ ¬ b = a) : (a == b) = false ∧ (b == a) = false := ⟨by simpa using h.1, by simpa using h.2⟩
theorem make_step (Γ : Env) (M : Nat) (s : Scn) (ws : List Nat) (ob0 gs) (hs : ScOk s) (hT : TabC (Γ 476)) (hG : GridC (Γ.pt 282)) (hg : MkG gs) (i : Nat) (ob : List (Nat × Obj)) (hI : MkI s ws ob0 i ob) (hi : i < s.segs.length) (h0 : 0 < i) :
    ∃ s' ob', exec Γ M arrive_Make_l1b ⟨[(2, .loc 473002 0 0), (7, .loc 473022 0 0), (24, segV s.segs), (25, i64 s.segs.length), (26, i64 i)] ++ gs, ob⟩ = some (.norm, s') ∧ nrmP [2, 7, 24, 25, 26] 473000 474000 [473002, 473022, 473052] s' = ⟨[(2, .loc 473002 0 0), (7, .loc 473022 0 0), (24, segV s.segs), (25, i64 s.segs.length), (26, i64 (i + 1 : Nat))] ++ gs, ob'⟩ ∧ MkI s ws ob0 (i + 1) ob' := by
  obtain ⟨g, gn⟩ := hg
  obtain ⟨k1, n1, c1, c2, c3, c4, c5, c6⟩ : True ∧ True ∧ True ∧ True ∧ True ∧ True ∧ True ∧ True := by simp
  have hKT := KT_eq
  obtain ⟨x, hx⟩ : ∃ x, s.segs[i] = x := ⟨_, rfl⟩
  have hxo := hs.segs.all x (by rw [← hx]; exact List.getElem_mem hi)
  have hl8 := hs.segs.l8
  have hkey := hI.key
  have kfo : ∀ lo hi, 1000 ≤ lo → hi ≤ 473000 → Kf lo hi ob := fun lo hi h1 h2 => kf_iff.2 fun p hp => by
    rw [hKT]
    rcases hkey p hp with h | h | h | h | h | h | ⟨j, hj, h | h⟩ <;> (try simp only [gk, mk] at h) <;> omega
  have kf1 := kfo 282000 283000 (by omega) (by omega)
  have kf2 := kfo 56000 57000 (by omega) (by omega)
  have kid : ∀ os, 473002 ∈ os → 473022 ∈ os → 473052 ∈ os → keepF 473000 474000 os ob = ob := fun os h1 h2 h3 => keepF_id fun p hp => by
    rw [hKT]
    rcases hkey p hp with h | h | h | h | h | h | ⟨j, hj, h | h⟩
    · exact .inl (by omega)
    · exact .inr (.inr (h ▸ h1))
    · exact .inr (.inr (h ▸ h2))
    · exact .inr (.inr (h ▸ h3))
    · exact .inr (.inl (by omega))
    · exact .inr (.inl (by omega))
    · exact .inr (.inl (by simp only [gk] at h; omega))
    · exact .inr (.inl (by simp only [mk] at h; omega))
  have gno : ∀ k, 1000 ≤ k → k ≠ 473002 → k ≠ 473022 → k ≠ 473052 → k ≠ 1000475 → k ≠ 900000000000000000 → (∀ j < i, k ≠ gk j ∧ k ≠ mk j) → get ob k = none := fun k a1 a2 a3 a4 a5 a6 a7 => get_key_none fun p hp => by
    rcases hkey p hp with h | h | h | h | h | h | ⟨j, hj, h | h⟩
    · omega
    · rw [h]; exact Ne.symm a2
    · rw [h]; exact Ne.symm a3
    · rw [h]; exact Ne.symm a4
    · rw [h]; exact Ne.symm a5
    · rw [h]; exact Ne.symm a6
    · rw [h]; exact Ne.symm (a7 j hj).1
    · rw [h]; exact Ne.symm (a7 j hj).2
  have G1 := gno (gk i) (by unfold gk; omega) (by unfold gk; omega) (by unfold gk; omega) (by unfold gk; omega) (by unfold gk; omega) (by unfold gk; omega) (fun j hj => by unfold gk mk; omega)
  have G2 := gno (mk i) (by unfold mk; omega) (by unfold mk; omega) (by unfold mk; omega) (by unfold mk; omega) (by unfold mk; omega) (by unfold mk; omega) (fun j hj => by unfold gk mk; omega)
  have G3 := gno 282022 (by omega) (by omega) (by omega) (by omega) (by omega) (by omega) (fun j hj => by unfold gk mk; omega)
  have G4 := gno 1461501637330902918203684832716283019655932598995 (by omega) (by omega) (by omega) (by omega) (by omega) (by omega) (fun j hj => by unfold gk mk; omega)
  have G5 := gno 56004 (by omega) (by omega) (by omega) (by omega) (by omega) (by omega) (fun j hj => by unfold gk mk; omega)
  have G6 := gno 473009 (by omega) (by omega) (by omega) (by omega) (by omega) (by omega) (fun j hj => by unfold gk mk; omega)
  have N1 := hI.nm (gk i) (by unfold gk; omega) (by unfold gk; omega) (fun j hj => by unfold gk mk; omega)
  have N2 := hI.nm (mk i) (by unfold mk; omega) (by unfold mk; omega) (fun j hj => by unfold gk mk; omega)
  have N3 := hI.nm 282022 (by omega) (by omega) (fun j hj => by unfold gk mk; omega)
  have N4 := hI.nm 1461501637330902918203684832716283019655932598995 (by omega) (by omega) (fun j hj => by unfold gk mk; omega)
  have N5 := hI.nm 56004 (by omega) (by omega) (fun j hj => by unfold gk mk; omega)
  have N6 := hI.nm 473009 (by omega) (by omega) (fun j hj => by unfold gk mk; omega)
  have N7 := hI.nm 473052 (by omega) (by omega) (fun j hj => by unfold gk mk; omega)
  have N8 := hI.nm 900000000000000000 (by omega) (by omega) (fun j hj => by unfold gk mk; omega)
  have D3 := del_absent _ _ G3
  have D4 := del_absent _ _ G4
  have D5 := del_absent _ _ G5
  have D6 := del_absent _ _ G6
  have hKok := allW_ok hxo.k1 hxo.k4 (f := s.floors.toNat) (by have := hs.f2; omega) (by have := hs.f3; omega)
  obtain ⟨a0, l0, hKc⟩ := hKok.some
  have hfl : ((s.floors.toNat : Nat) : Int) = s.floors := by have := hs.f2; omega
  have eG := fun gs rest a b c d e1 e2 e3 e4 e5 e6 e7 e8 => hG.2.2 x.kind s.floors.toNat gs rest ⟨a, b, c, d⟩ ⟨⟨e1, e2, e3, e4, e5, e6⟩, e7, e8⟩ hxo.k1 hxo.k4 (by have := hs.f2; omega) (by have := hs.f3; omega)
  rw [hfl, hKc, growG_some (by simp)] at eG
  simp only [grOb] at eG
  have eT := hT x.rate.toNat (by have := hxo.r1; omega)
  rw [show ((x.rate.toNat : Nat) : Int) = x.rate by have := hxo.r0; omega] at eT
  have rr := fun a b => renRows_row a b (enL 0 (a0 :: l0))
  have RF1 : ∀ b, renFr 282022 b gs = gs := fun b => renFr_nm (gn _ (by omega))
  have RF2 : ∀ b, renFr 1461501637330902918203684832716283019655932598995 b gs = gs := fun b => renFr_nm (gn _ (by omega))
  have nr := fun k => nmRows_row k (enL 0 (a0 :: l0))
  have lr := fun k => lcRows_row k (enL 0 (a0 :: l0))
  have lg := lcFr_nm (gn 1000475 (by omega))
  have R1 : ∀ b, renOb 282022 b (del ob 900000000000000000) = del ob 900000000000000000 := fun b => renOb_nm (nmOb_delO N3) (by rw [get_del, if_neg (by decide)]; exact G3)
  have R2 : ∀ b, renOb 1461501637330902918203684832716283019655932598995 b (del ob 900000000000000000) = del ob 900000000000000000 := fun b => renOb_nm (nmOb_delO N4) (by rw [get_del, if_neg (by decide)]; exact G4)
  have hsc := hI.sc
  have hge := hI.gen
  have hsr := hI.src h0
  have hct := hI.cnt
  have hslA : slA i = .sl 1000475 i 0 i := by unfold slA; rw [if_neg (by omega)]
  rw [hslA] at hge
  have gC : ∀ k, k ≠ 900000000000000000 → get (del ob 900000000000000000) k = get ob k := fun k hk => by rw [get_del, if_neg hk]
  have C0 := gC (gk i) (by unfold gk; omega)
  have C1 := gC (mk i) (by unfold mk; omega)
  have C2 := gC 473022 (by omega)
  have C3 := gC 473002 (by omega)
  have C4 := gC 1000475 (by omega)
  rw [G1] at C0
  rw [G2] at C1
  rw [hge] at C2
  rw [hsc] at C3
  rw [hsr] at C4
  have M1 := nmOb_delO (j := 900000000000000000) N1
  have M2 := nmOb_delO (j := 900000000000000000) N2
  have M7 := nmOb_delO (j := 900000000000000000) N7
  have M8 := nmOb_delO (j := 900000000000000000) N8
  have dd := del_del ob 900000000000000000
  have oDg : ∀ k, k ≠ 900000000000000000 → k ≠ 473052 → get (del (del ob 900000000000000000) 473052) k = get ob k := fun k h1 h2 => by rw [get_del, if_neg h2, gC k h1]
  have E1 := oDg 1000475 (by omega) (by omega)
  have E2 := oDg 473022 (by omega) (by omega)
  rw [hsr] at E1
  rw [hge] at E2
  have E3 : get (del (del (del ob 900000000000000000) 473052) 1000475) 473022 = some ⟨18, [genRow s ws 0 (.sl 1000475 i 0 i) 0 0]⟩ := by rw [get_del, if_neg (by omega), E2]
  have E4 : nmOb 473052 (del (del ob 900000000000000000) 473052) = true := nmOb_delO M7
  have lcD : ∀ {k j : Nat} {l : List (Nat × Obj)}, lcOb k l = true → lcOb k (del l j) = true := by
    intro k j l
    induction l with
    | nil => intro _; rfl
    | cons q l ih =>
      obtain ⟨m, v⟩ := q
      intro h
      simp only [lcOb, Bool.and_eq_true] at h
      simp only [del]
      split
      · exact ih h.2
      · simp only [lcOb, h.1, ih h.2, Bool.and_self]
  have E5 : lcOb 1000475 (del (del ob 900000000000000000) 473052) = true := lcD (lcD hI.lc)
  have E6 : lcOb 1000475 (del (del (del ob 900000000000000000) 473052) 1000475) = true := lcD E5
  have E7 : keepF 473000 474000 [473002, 473022, 473052] (del (del (del (del ob 900000000000000000) 473052) 1000475) 473022) = del (del (del (del ob 900000000000000000) 473052) 1000475) 473022 := keepF_id fun p hp => by
    have hp := mem_delO (mem_delO (mem_delO (mem_delO hp)))
    have := kid [473002, 473022, 473052] (by simp) (by simp) (by simp)
    rw [hKT]
    rcases hkey p hp with h | h | h | h | h | h | ⟨j, hj, h | h⟩
    · exact .inl (by omega)
    · exact .inr (.inr (by rw [h]; simp))
    · exact .inr (.inr (by rw [h]; simp))
    · exact .inr (.inr (by rw [h]; simp))
    · exact .inr (.inl (by omega))
    · exact .inr (.inl (by omega))
    · exact .inr (.inl (by simp only [gk] at h; omega))
    · exact .inr (.inl (by simp only [mk] at h; omega))
  have hsK : segK s x = a0 :: l0 := hKc
  have hfin := mk_next hI hi hx hl8
  have hsrc : srcR (s.segs.take (i + 1)) 0 = srcR (s.segs.take i) 0 ++ [[uV (tbl x.rate.toNat), .loc (gk i) 0 0]] := by
    rw [List.take_succ_eq_append_getElem hi, srcR_append, hx, List.length_take, Nat.min_eq_left (by omega), Nat.zero_add]; rfl
  rw [hsK, List.length_cons, hsrc] at hfin
  have hlq : (srcR (s.segs.take i) 0).length = i := by rw [srcR_length, List.length_take]; omega
  simp only [gk, mk] at C0 C1 M1 M2 N1 N2 G1 G2 hfin
  obtain ⟨GA, hGA⟩ : ∃ GA, 1000000000000000000 + 2 * i = GA := ⟨_, rfl⟩
  have ne1 : 1000000000000000000 ≤ GA ∧ GA < 1000000000000000016 := by omega
  have ne2 : ∀ j, j < 1000000000000000000 → ¬ GA = j ∧ ¬ j = GA := fun j hj => by omega
  have ne3 : ∀ j, 1461501637330902918203684832716283019655932542976 ≤ j → ¬ GA = j ∧ ¬ j = GA := fun j hj => by omega
  have A1 := ne2 473002 (by omega)
  have A2 := ne2 473022 (by omega)
  have A3 := ne2 282022 (by omega)
  have A4 := ne3 1461501637330902918203684832716283019655932598995 (by omega)
  have A5 := ne2 473052 (by omega)
  have A6 := ne2 1000475 (by omega)
  have A7 := ne2 900000000000000000 (by omega)
  obtain ⟨MB, hMB⟩ : ∃ MB, 1461501637330902918203684832717283019655932542976 + (2 * i + 1) = MB := ⟨_, rfl⟩
  have hMB' : 1461501637330902918203684832716283019655932542976 + 1000000000000000000 + (2 * i + 1) = MB := hMB
  have neM : ∀ j, j < 1461501637330902918203684832717283019655932542976 → ¬ MB = j ∧ ¬ j = MB := fun j hj => by omega
  have B1 := neM 473002 (by omega)
  have B2 := neM 473022 (by omega)
  have B3 := neM GA (by omega)
  have B4 := neM 1461501637330902918203684832716283019655932598995 (by omega)
  have B5 := neM 473052 (by omega)
  have B6 := neM 1000475 (by omega)
  have B7 := neM 900000000000000000 (by omega)
  rw [hMB'] at C1 M2 N2 G2 hfin
  have DM := del_absent _ _ C1
  have hGm : GA % 18446744073709551616 = GA := by omega
  have hMm : 474000 ≤ MB % 18446744073709551616 := by omega
  have hGm2 : 474000 ≤ GA := by omega
  rw [hGA] at C0 M1 N1 G1 hfin
  have DA := del_absent _ _ G1
  generalize hM : (enL 0 (a0 :: l0)).map En.row = RM at *
  obtain ⟨xk, xt, xr⟩ := x
  simp only at hxo eG eT hfin
  generalize hSR : srcR (s.segs.take i) 0 = SR at *
  generalize hoC : del ob 900000000000000000 = oC at *
  have hoC' := hoC
  simp -implicitDefEqProofs (disch := first | omega | (simp [g, gn, kf1, kf2, N3, N4, N5, D3, D4, D5] <;> fail) | assumption) [hi, hx, g, gn, RF1, RF2, kid, eT, eG, D3, D4, D5, D6, N1, N2, N3, N4, N5, N6, N7, N8, G1, G2, G3, G4, G5, G6, hsc, hge, hsr, hct, kf1, kf2, rr, nr, R1, R2, hoC, C0, C1, C2, C3, C4, M1, M2, M7, M8, dd, hGA, A1, A2, A3, A4, A5, A6, A7, DA, nbeq A1, nbeq A2, nbeq A3, nbeq A4, nbeq A5, nbeq A6, nbeq A7, hMB, B1, B2, B3, B4, B5, B6, B7, nbeq B1, nbeq B2, nbeq B3, nbeq B4, nbeq B5, nbeq B6, nbeq B7, DM, hoC', E1, E2, E3, E4, E5, E6, E7, hlq, lr, lg, hGm, hMm, hGm2]
  exact hfin
theorem make_step0 (Γ : Env) (M : Nat) (s : Scn) (ws : List Nat) (ob0 gs) (hs : ScOk s) (hT : TabC (Γ 476)) (hG : GridC (Γ.pt 282)) (hg : MkG gs) (i : Nat) (ob : List (Nat × Obj)) (hI : MkI s ws ob0 i ob) (hi : i < s.segs.length) (h0 : i = 0) :
    ∃ s' ob', exec Γ M arrive_Make_l1b ⟨[(2, .loc 473002 0 0), (7, .loc 473022 0 0), (24, segV s.segs), (25, i64 s.segs.length), (26, i64 i)] ++ gs, ob⟩ = some (.norm, s') ∧ nrmP [2, 7, 24, 25, 26] 473000 474000 [473002, 473022, 473052] s' = ⟨[(2, .loc 473002 0 0), (7, .loc 473022 0 0), (24, segV s.segs), (25, i64 s.segs.length), (26, i64 (i + 1 : Nat))] ++ gs, ob'⟩ ∧ MkI s ws ob0 (i + 1) ob' := by
  obtain ⟨g, gn⟩ := hg
  obtain ⟨k1, n1, c1, c2, c3, c4, c5, c6⟩ : True ∧ True ∧ True ∧ True ∧ True ∧ True ∧ True ∧ True := by simp
  have hKT := KT_eq
  obtain ⟨x, hx⟩ : ∃ x, s.segs[i] = x := ⟨_, rfl⟩
  have hxo := hs.segs.all x (by rw [← hx]; exact List.getElem_mem hi)
  have hl8 := hs.segs.l8
  have hkey := hI.key
  have kfo : ∀ lo hi, 1000 ≤ lo → hi ≤ 473000 → Kf lo hi ob := fun lo hi h1 h2 => kf_iff.2 fun p hp => by
    rw [hKT]
    rcases hkey p hp with h | h | h | h | h | h | ⟨j, hj, h | h⟩ <;> (try simp only [gk, mk] at h) <;> omega
  have kf1 := kfo 282000 283000 (by omega) (by omega)
  have kf2 := kfo 56000 57000 (by omega) (by omega)
  have kid : ∀ os, 473002 ∈ os → 473022 ∈ os → 473052 ∈ os → keepF 473000 474000 os ob = ob := fun os h1 h2 h3 => keepF_id fun p hp => by
    rw [hKT]
    rcases hkey p hp with h | h | h | h | h | h | ⟨j, hj, h | h⟩
    · exact .inl (by omega)
    · exact .inr (.inr (h ▸ h1))
    · exact .inr (.inr (h ▸ h2))
    · exact .inr (.inr (h ▸ h3))
    · exact .inr (.inl (by omega))
    · exact .inr (.inl (by omega))
    · exact .inr (.inl (by simp only [gk] at h; omega))
    · exact .inr (.inl (by simp only [mk] at h; omega))
  have gno : ∀ k, 1000 ≤ k → k ≠ 473002 → k ≠ 473022 → k ≠ 473052 → k ≠ 1000475 → k ≠ 900000000000000000 → (∀ j < i, k ≠ gk j ∧ k ≠ mk j) → get ob k = none := fun k a1 a2 a3 a4 a5 a6 a7 => get_key_none fun p hp => by
    rcases hkey p hp with h | h | h | h | h | h | ⟨j, hj, h | h⟩
    · omega
    · rw [h]; exact Ne.symm a2
    · rw [h]; exact Ne.symm a3
    · rw [h]; exact Ne.symm a4
    · rw [h]; exact Ne.symm a5
    · rw [h]; exact Ne.symm a6
    · rw [h]; exact Ne.symm (a7 j hj).1
    · rw [h]; exact Ne.symm (a7 j hj).2
  have G1 := gno (gk i) (by unfold gk; omega) (by unfold gk; omega) (by unfold gk; omega) (by unfold gk; omega) (by unfold gk; omega) (by unfold gk; omega) (fun j hj => by unfold gk mk; omega)
  have G2 := gno (mk i) (by unfold mk; omega) (by unfold mk; omega) (by unfold mk; omega) (by unfold mk; omega) (by unfold mk; omega) (by unfold mk; omega) (fun j hj => by unfold gk mk; omega)
  have G3 := gno 282022 (by omega) (by omega) (by omega) (by omega) (by omega) (by omega) (fun j hj => by unfold gk mk; omega)
  have G4 := gno 1461501637330902918203684832716283019655932598995 (by omega) (by omega) (by omega) (by omega) (by omega) (by omega) (fun j hj => by unfold gk mk; omega)
  have G5 := gno 56004 (by omega) (by omega) (by omega) (by omega) (by omega) (by omega) (fun j hj => by unfold gk mk; omega)
  have G6 := gno 473009 (by omega) (by omega) (by omega) (by omega) (by omega) (by omega) (fun j hj => by unfold gk mk; omega)
  have N1 := hI.nm (gk i) (by unfold gk; omega) (by unfold gk; omega) (fun j hj => by unfold gk mk; omega)
  have N2 := hI.nm (mk i) (by unfold mk; omega) (by unfold mk; omega) (fun j hj => by unfold gk mk; omega)
  have N3 := hI.nm 282022 (by omega) (by omega) (fun j hj => by unfold gk mk; omega)
  have N4 := hI.nm 1461501637330902918203684832716283019655932598995 (by omega) (by omega) (fun j hj => by unfold gk mk; omega)
  have N5 := hI.nm 56004 (by omega) (by omega) (fun j hj => by unfold gk mk; omega)
  have N6 := hI.nm 473009 (by omega) (by omega) (fun j hj => by unfold gk mk; omega)
  have N7 := hI.nm 473052 (by omega) (by omega) (fun j hj => by unfold gk mk; omega)
  have N8 := hI.nm 900000000000000000 (by omega) (by omega) (fun j hj => by unfold gk mk; omega)
  have D3 := del_absent _ _ G3
  have D4 := del_absent _ _ G4
  have D5 := del_absent _ _ G5
  have D6 := del_absent _ _ G6
  have hKok := allW_ok hxo.k1 hxo.k4 (f := s.floors.toNat) (by have := hs.f2; omega) (by have := hs.f3; omega)
  obtain ⟨a0, l0, hKc⟩ := hKok.some
  have hfl : ((s.floors.toNat : Nat) : Int) = s.floors := by have := hs.f2; omega
  have eG := fun gs rest a b c d e1 e2 e3 e4 e5 e6 e7 e8 => hG.2.2 x.kind s.floors.toNat gs rest ⟨a, b, c, d⟩ ⟨⟨e1, e2, e3, e4, e5, e6⟩, e7, e8⟩ hxo.k1 hxo.k4 (by have := hs.f2; omega) (by have := hs.f3; omega)
  rw [hfl, hKc, growG_some (by simp)] at eG
  simp only [grOb] at eG
  have eT := hT x.rate.toNat (by have := hxo.r1; omega)
  rw [show ((x.rate.toNat : Nat) : Int) = x.rate by have := hxo.r0; omega] at eT
  have rr := fun a b => renRows_row a b (enL 0 (a0 :: l0))
  have RF1 : ∀ b, renFr 282022 b gs = gs := fun b => renFr_nm (gn _ (by omega))
  have RF2 : ∀ b, renFr 1461501637330902918203684832716283019655932598995 b gs = gs := fun b => renFr_nm (gn _ (by omega))
  have nr := fun k => nmRows_row k (enL 0 (a0 :: l0))
  have lr := fun k => lcRows_row k (enL 0 (a0 :: l0))
  have lg := lcFr_nm (gn 1000475 (by omega))
  have R1 : ∀ b, renOb 282022 b (del ob 900000000000000000) = del ob 900000000000000000 := fun b => renOb_nm (nmOb_delO N3) (by rw [get_del, if_neg (by decide)]; exact G3)
  have R2 : ∀ b, renOb 1461501637330902918203684832716283019655932598995 b (del ob 900000000000000000) = del ob 900000000000000000 := fun b => renOb_nm (nmOb_delO N4) (by rw [get_del, if_neg (by decide)]; exact G4)
  have hsc := hI.sc
  have hge := hI.gen
  have hct := hI.cnt
  have hslA : slA i = .nil 2 := by unfold slA; rw [if_pos h0]
  rw [hslA] at hge
  have gC : ∀ k, k ≠ 900000000000000000 → get (del ob 900000000000000000) k = get ob k := fun k hk => by rw [get_del, if_neg hk]
  have C0 := gC (gk i) (by unfold gk; omega)
  have C1 := gC (mk i) (by unfold mk; omega)
  have C2 := gC 473022 (by omega)
  have C3 := gC 473002 (by omega)
  rw [G1] at C0
  rw [G2] at C1
  rw [hge] at C2
  rw [hsc] at C3
  have M1 := nmOb_delO (j := 900000000000000000) N1
  have M2 := nmOb_delO (j := 900000000000000000) N2
  have M7 := nmOb_delO (j := 900000000000000000) N7
  have M8 := nmOb_delO (j := 900000000000000000) N8
  have dd := del_del ob 900000000000000000
  have oDg : ∀ k, k ≠ 900000000000000000 → k ≠ 473052 → get (del (del ob 900000000000000000) 473052) k = get ob k := fun k h1 h2 => by rw [get_del, if_neg h2, gC k h1]
  have E2 := oDg 473022 (by omega) (by omega)
  have E1 : nmOb 1000475 (del (del (del ob 900000000000000000) 473052) 1000475) = true := nmOb_delO (nmOb_delO (nmOb_delO (hI.nm0 h0)))
  rw [hge] at E2
  have E3 : get (del (del (del ob 900000000000000000) 473052) 1000475) 473022 = some ⟨18, [genRow s ws 0 (.nil 2) 0 0]⟩ := by rw [get_del, if_neg (by omega), E2]
  have E4 : nmOb 473052 (del (del ob 900000000000000000) 473052) = true := nmOb_delO M7
  have lcD : ∀ {k j : Nat} {l : List (Nat × Obj)}, lcOb k l = true → lcOb k (del l j) = true := by
    intro k j l
    induction l with
    | nil => intro _; rfl
    | cons q l ih =>
      obtain ⟨m, v⟩ := q
      intro h
      simp only [lcOb, Bool.and_eq_true] at h
      simp only [del]
      split
      · exact ih h.2
      · simp only [lcOb, h.1, ih h.2, Bool.and_self]
  have E5 : lcOb 1000475 (del (del ob 900000000000000000) 473052) = true := lcD (lcD hI.lc)
  have E6 : lcOb 1000475 (del (del (del ob 900000000000000000) 473052) 1000475) = true := lcD E5
  have E7 : keepF 473000 474000 [473002, 473022, 473052] (del (del (del (del ob 900000000000000000) 473052) 1000475) 473022) = del (del (del (del ob 900000000000000000) 473052) 1000475) 473022 := keepF_id fun p hp => by
    have hp := mem_delO (mem_delO (mem_delO (mem_delO hp)))
    have := kid [473002, 473022, 473052] (by simp) (by simp) (by simp)
    rw [hKT]
    rcases hkey p hp with h | h | h | h | h | h | ⟨j, hj, h | h⟩
    · exact .inl (by omega)
    · exact .inr (.inr (by rw [h]; simp))
    · exact .inr (.inr (by rw [h]; simp))
    · exact .inr (.inr (by rw [h]; simp))
    · exact .inr (.inl (by omega))
    · exact .inr (.inl (by omega))
    · exact .inr (.inl (by simp only [gk] at h; omega))
    · exact .inr (.inl (by simp only [mk] at h; omega))
  have hsK : segK s x = a0 :: l0 := hKc
  have hfin := mk_next hI hi hx hl8
  have hsrc : srcR (s.segs.take (i + 1)) 0 = srcR (s.segs.take i) 0 ++ [[uV (tbl x.rate.toNat), .loc (gk i) 0 0]] := by
    rw [List.take_succ_eq_append_getElem hi, srcR_append, hx, List.length_take, Nat.min_eq_left (by omega), Nat.zero_add]; rfl
  have hSR0 : srcR (s.segs.take i) 0 = [] := by rw [h0]; rfl
  rw [hsK, List.length_cons, hsrc, hSR0, List.nil_append] at hfin
  have hlq : (srcR (s.segs.take i) 0).length = i := by rw [srcR_length, List.length_take]; omega
  simp only [gk, mk] at C0 C1 M1 M2 N1 N2 G1 G2 hfin
  obtain ⟨GA, hGA⟩ : ∃ GA, 1000000000000000000 + 2 * i = GA := ⟨_, rfl⟩
  have ne1 : 1000000000000000000 ≤ GA ∧ GA < 1000000000000000016 := by omega
  have ne2 : ∀ j, j < 1000000000000000000 → ¬ GA = j ∧ ¬ j = GA := fun j hj => by omega
  have ne3 : ∀ j, 1461501637330902918203684832716283019655932542976 ≤ j → ¬ GA = j ∧ ¬ j = GA := fun j hj => by omega
  have A1 := ne2 473002 (by omega)
  have A2 := ne2 473022 (by omega)
  have A3 := ne2 282022 (by omega)
  have A4 := ne3 1461501637330902918203684832716283019655932598995 (by omega)
  have A5 := ne2 473052 (by omega)
  have A6 := ne2 1000475 (by omega)
  have A7 := ne2 900000000000000000 (by omega)
  obtain ⟨MB, hMB⟩ : ∃ MB, 1461501637330902918203684832717283019655932542976 + (2 * i + 1) = MB := ⟨_, rfl⟩
  have hMB' : 1461501637330902918203684832716283019655932542976 + 1000000000000000000 + (2 * i + 1) = MB := hMB
  have neM : ∀ j, j < 1461501637330902918203684832717283019655932542976 → ¬ MB = j ∧ ¬ j = MB := fun j hj => by omega
  have B1 := neM 473002 (by omega)
  have B2 := neM 473022 (by omega)
  have B3 := neM GA (by omega)
  have B4 := neM 1461501637330902918203684832716283019655932598995 (by omega)
  have B5 := neM 473052 (by omega)
  have B6 := neM 1000475 (by omega)
  have B7 := neM 900000000000000000 (by omega)
  rw [hMB'] at C1 M2 N2 G2 hfin
  have DM := del_absent _ _ C1
  have hGm : GA % 18446744073709551616 = GA := by omega
  have hMm : 474000 ≤ MB % 18446744073709551616 := by omega
  have hGm2 : 474000 ≤ GA := by omega
  rw [hGA] at C0 M1 N1 G1 hfin
  have DA := del_absent _ _ G1
  generalize hM : (enL 0 (a0 :: l0)).map En.row = RM at *
  obtain ⟨xk, xt, xr⟩ := x
  simp only at hxo eG eT hfin
  generalize hoC : del ob 900000000000000000 = oC at *
  have hoC' := hoC
  simp -implicitDefEqProofs (disch := first | omega | (simp [g, gn, kf1, kf2, N3, N4, N5, D3, D4, D5] <;> fail) | assumption) [hi, hx, g, gn, RF1, RF2, kid, eT, eG, D3, D4, D5, D6, N1, N2, N3, N4, N5, N6, N7, N8, G1, G2, G3, G4, G5, G6, hsc, hge, hct, kf1, kf2, rr, nr, R1, R2, hoC, C0, C1, C2, C3, M1, M2, M7, M8, dd, hGA, A1, A2, A3, A4, A5, A6, A7, DA, nbeq A1, nbeq A2, nbeq A3, nbeq A4, nbeq A5, nbeq A6, nbeq A7, hMB, B1, B2, B3, B4, B5, B6, B7, nbeq B1, nbeq B2, nbeq B3, nbeq B4, nbeq B5, nbeq B6, nbeq B7, DM, hoC', E1, E2, E3, E4, E5, E6, E7, hlq, lr, lg, hGm, hMm, hGm2]
  have h1 : i + 1 = 1 := by omega
  simp only [h1] at hfin ⊢
  exact hfin
end Go.Am
