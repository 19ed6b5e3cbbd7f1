import Derived.Test.YtdnmppikakpdiaaCB
set_option maxHeartbeats 4000000
set_option maxRecDepth 20000
set_option linter.unusedVariables false
set_option linter.unusedSimpArgs false
set_option linter.unnecessarySimpa false
namespace Go.Am
def LV (z : Nat) (rows : List (List D)) (v : AV) : Prop := v = .c (.vs z rows) ∨ (rows = [] ∧ v = .nil z)
theorem sgnI_dir (a b : Int) : sgnI (b - a) = if b > a then 1 else if b < a then -1 else 0 := by
 unfold sgnI
 split <;> split <;> first | omega | rfl | skip
 all_goals (split <;> first | omega | rfl)
def Dir29C (g : List AV → Option (List AV)) : Prop := ∀ a b : Int, g [i64 a, i64 b] = some [i64 (sgnI (b - a))]
theorem law29_dir_run (Γ : Env) (M : Nat) : Dir29C (run Γ M law29_dir_f) := by
 intro a b
 rw [sgnI_dir]
 by_cases h1 : b > a
 ·simp -implicitDefEqProofs (disch := omega) [h1]
 ·by_cases h2 : b < a
  ·simp -implicitDefEqProofs (disch := omega) [h1, h2]
  ·simp -implicitDefEqProofs (disch := omega) [h1, h2]
structure Op29 where
 kind : Int
 w : W4
 free : Bool
def op29D (o : Op29) : List D := [.int .i64 o.kind, .int .i64 o.w.1, .int .i64 o.w.2.1, .int .i64 o.w.2.2.1, .int .i64 o.w.2.2.2, .bool o.free]
def keyO (o : Op29) : K3 := (o.w.2.1, sgnI (o.w.2.2.1 - o.w.2.1), if o.free then -1 else o.w.2.2.2)
def Key29C (g : List AV → Option (List AV)) : Prop := ∀ o : Op29, g [.agg (op29D o)] = some [.agg (k3D (keyO o))]
theorem law29_key_run (Γ : Env) (M : Nat) (hD : Dir29C (Γ 519)) : Key29C (run Γ M law29_key_f) := by
 intro o
 obtain ⟨kd, ⟨a, b, c, d⟩, fr⟩ := o
 have e := hD b c
 cases fr <;> simp -implicitDefEqProofs (disch := omega) [e, op29D, k3D, keyO]
def findX : List K3 → Int → Int → Int → Int
 | [], _, _, _ => -1
 | e :: r, f, d, i => if e.1 = f ∧ e.2.1 = d then i else findX r f d (i + 1)
def Find29C (g : St → Option (List AV × List (Nat × Obj))) : Prop := ∀ (mk : Nat) (lv cv : AV) (n : Int) (cs : List K3) (f d : Int) gs ob, Gh gs → get ob mk = some ⟨3, [[lv, cv, i64 n]]⟩ → LV 3 (cs.map k3D) cv → cs.length ≤ 1000 → g ⟨(0, .loc mk 0 0) :: (1, i64 f) :: (2, i64 d) :: gs, ob⟩ = some ([i64 (findX cs f d 0)], ob)
theorem law29_m_find_run (Γ : Env) (M : Nat) (hM : 2000 < M) : Find29C (runP Γ M law29_m_find_f) := by
 intro mk lv cv n cs f d gs ob g hm hcv hl
 rcases hcv with rfl | ⟨hcs, rfl⟩
 ·have hin : ∃ ax s', ((ax = .ret ∧ s' = ⟨(6, i64 (findX cs f d 0)) :: gs, ob⟩) ∨ (ax = .ex 0 ∧ findX cs f d 0 = -1 ∧ s' = ⟨gs, ob⟩)) ∧ ∀ s0, nrmP [0, 1, 2, 7] 0 0 [] s0 = ⟨(0, .loc mk 0 0) :: (1, i64 f) :: (2, i64 d) :: (7, i64 (0 : Nat)) :: gs, ob⟩ → lp (exec Γ M law29_m_find_l1) M s0 = some (ax, s') := by
   refine lp_allP (fun q : Nat => ⟨(0, .loc mk 0 0) :: (1, i64 f) :: (2, i64 d) :: (7, i64 q) :: gs, ob⟩) (fun q => q ≤ cs.length ∧ findX cs f d 0 = findX (cs.drop q) f d q) (fun q => cs.length - q) _ 0 M ⟨by omega, rfl⟩ (by omega) ?_
   intro q ⟨hq, hfx⟩
   by_cases hlt : q < cs.length
   ·obtain ⟨e, he⟩ : ∃ e, cs[q] = e := ⟨_, rfl⟩
    have hdr : cs.drop q = e :: cs.drop (q + 1) := by rw [List.drop_eq_getElem_cons hlt, he]
    rw [hdr, findX] at hfx
    have hrow : (cs.map k3D)[q]? = some (k3D e) := by simp [hlt, he]
    have hrow2 : ∀ h, (cs.map k3D)[q]'h = k3D e := fun h => by rw [List.getElem?_eq_getElem h] at hrow; simpa using hrow
    obtain ⟨a, b, c⟩ := e
    by_cases h1 : a = f
    ·by_cases h2 : b = d
     ·subst h1 h2
      rw [if_pos ⟨rfl, rfl⟩] at hfx
      simp -implicitDefEqProofs (disch := first | omega | (simp [g] <;> fail) | assumption) [hlt, hm, g, hrow, hrow2, he, k3D, hfx]
     ·rw [if_neg (fun h => h2 h.2)] at hfx
      simp -implicitDefEqProofs (disch := first | omega | (simp [g] <;> fail) | assumption) [hlt, hm, g, hrow, hrow2, he, k3D, h1, h2]
      exact ⟨q + 1, by simp, ⟨by omega, by rw [hfx]; congr 1⟩, by omega⟩
    ·rw [if_neg (fun h => h1 h.1)] at hfx
     simp -implicitDefEqProofs (disch := first | omega | (simp [g] <;> fail) | assumption) [hlt, hm, g, hrow, hrow2, he, k3D, h1]
     exact ⟨q + 1, by simp, ⟨by omega, by rw [hfx]; congr 1⟩, by omega⟩
   ·obtain rfl : q = cs.length := by omega
    rw [List.drop_length, findX] at hfx
    simp -implicitDefEqProofs (disch := first | omega | (simp [g] <;> fail) | assumption) [hm, g, hfx]
  obtain ⟨ax, s', hR, hlp⟩ := hin
  have hlp2 := hlp ⟨(0, .loc mk 0 0) :: (1, i64 f) :: (2, i64 d) :: (7, i64 0) :: gs, ob⟩ (by simp [g])
  rcases hR with ⟨rfl, rfl⟩ | ⟨rfl, hx, rfl⟩
  ·simp -implicitDefEqProofs (disch := first | omega | (simp [g] <;> fail) | assumption) [hm, g, hlp2]
  ·rw [hx]
   simp -implicitDefEqProofs (disch := first | omega | (simp [g] <;> fail) | assumption) [hm, g, hlp2]
 ·have hcs : cs = [] := by simpa using hcs
  subst hcs
  simp only [findX]
  obtain ⟨M', rfl⟩ : ∃ M', M = M' + 1 := ⟨M - 1, by omega⟩
  simp -implicitDefEqProofs (disch := first | omega | (simp [g] <;> fail) | assumption) [hm, g, lp_succ (exec Γ (M' + 1) law29_m_find_l1), law29_m_find_l1_x]
end Go.Am
namespace Go.Am
def idxs : List W4 → K3 → Int → List Int
 | [], _, _ => []
 | w :: r, k, i => if keyW w = k then i :: idxs r k (i + 1) else idxs r k (i + 1)
theorem idxs_append (k : K3) : ∀ (a b : List W4) (i : Int), idxs (a ++ b) k i = idxs a k i ++ idxs b k (i + a.length)
 | [], b, i => by simp [idxs]
 | w :: a, b, i => by
  simp only [List.cons_append, idxs, idxs_append k a b (i + 1), List.length_cons]
  rw [show i + 1 + (a.length : Int) = i + ((a.length + 1 : Nat) : Int) by omega]
  split <;> rfl
def iR (n : Int) : List AV := [i64 n]
def iD (n : Int) : List D := [.int .i64 n]
theorem nmRows_iR (k : Nat) (l : List Int) : nmRows k (l.map iR) = true := by induction l <;> simp_all [iR]
theorem lcRows_iR (k : Nat) (l : List Int) : lcRows k (l.map iR) = true := by induction l <;> simp_all [iR]
def Row29C (g : St → Option (List AV × List (Nat × Obj))) : Prop := ∀ (mk : Nat) (lv cv : AV) (n : Int) (l : List W4) (k : K3) gs ob, NoO [522] ob → NoF [522] gs → get ob mk = some ⟨3, [[lv, cv, i64 n]]⟩ → LV 4 (l.map w4D) lv → l.length ≤ 1000 →
 g ⟨(0, .loc mk 0 0) :: (1, .agg (k3D k)) :: gs, ob⟩ = some ([.sl 522005 (idxs l k 0).length 0 (idxs l k 0).length], (522005, ⟨1, (idxs l k 0).map iR⟩) :: ob)
theorem law29_m_row_run (Γ : Env) (M : Nat) (hM : 2000 < M) (hD : Dir29C (Γ 519)) : Row29C (runP Γ M law29_m_row_f) := by
 intro mk lv cv n l k gs ob hO hF hm hlv hl
 have g := hF.1
 have n3 := hO.nm (k := 522003) (by decide)
 have d3 := hO.del (k := 522003) (by decide)
 have f3 := hF.nm (k := 522003) (by decide)
 have n5 := hO.nm (k := 522005) (by decide)
 have d5 := hO.del (k := 522005) (by decide)
 have f5 := hF.nm (k := 522005) (by decide)
 have n7 := hO.nm (k := 522007) (by decide)
 have d7 := hO.del (k := 522007) (by decide)
 have f7 := hF.nm (k := 522007) (by decide)
 have k1 := hO.kf (f := 522) (by simp)
 have m3 := some_ne hO hm (k := 522003) (by decide)
 have m5 := some_ne hO hm (k := 522005) (by decide)
 have m7 := some_ne hO hm (k := 522007) (by decide)
 have m3' := Ne.symm m3
 have m5' := Ne.symm m5
 have m7' := Ne.symm m7
 have b5 : (mk == 522005) = false := beq_false_of_ne m5
 have l5 := lcFr_nm f5
 have p5 := lcOb_nm n5
 rcases hlv with rfl | ⟨hcs, rfl⟩
 ·have hin : ∃ ax s', (ax = .ex 0 ∧ s' = ⟨(5, .sl 522005 (idxs l k 0).length 0 (idxs l k 0).length) :: gs, (522005, ⟨1, (idxs l k 0).map iR⟩) :: ob⟩) ∧ ∀ s0, nrmP [0, 3, 5, 6] 522000 523000 [522003, 522005, 522049] s0 = ⟨(0, .loc mk 0 0) :: (3, .loc 522003 0 0) :: (5, .sl 522005 (idxs (l.take 0) k 0).length 0 (idxs (l.take 0) k 0).length) :: (6, i64 (0 : Nat)) :: gs, (522005, ⟨1, (idxs (l.take 0) k 0).map iR⟩) :: (522003, ⟨3, [toAV (k3D k)]⟩) :: ob⟩ → lp (exec Γ M law29_m_row_l1) M s0 = some (ax, s') := by
   refine lp_allP (fun q : Nat => ⟨(0, .loc mk 0 0) :: (3, .loc 522003 0 0) :: (5, .sl 522005 (idxs (l.take q) k 0).length 0 (idxs (l.take q) k 0).length) :: (6, i64 q) :: gs, (522005, ⟨1, (idxs (l.take q) k 0).map iR⟩) :: (522003, ⟨3, [toAV (k3D k)]⟩) :: ob⟩) (fun q => q ≤ l.length) (fun q => l.length - q) _ 0 M (by omega) (by omega) ?_
   intro q hq
   by_cases hlt : q < l.length
   ·obtain ⟨e, he⟩ : ∃ e, l[q] = e := ⟨_, rfl⟩
    have hrow : (l.map w4D)[q]? = some (w4D e) := by simp [hlt, he]
    have hrow2 : ∀ h, (l.map w4D)[q]'h = w4D e := fun h => by rw [List.getElem?_eq_getElem h] at hrow; simpa using hrow
    have htk : idxs (l.take (q + 1)) k 0 = idxs (l.take q) k 0 ++ idxs [e] k q := by
     rw [List.take_succ_eq_append_getElem hlt, he, idxs_append, List.length_take, Nat.min_eq_left hq, Int.zero_add]
    have hll : (idxs (l.take q) k 0).length ≤ 1000 := by
     have : ∀ (l : List W4) (i : Int), (idxs l k i).length ≤ l.length := by
      intro l
      induction l with
      | nil => intro i; simp [idxs]
      | cons w l ih => intro i; simp only [idxs]; have := ih (i + 1); split <;> simp <;> omega
     have := this (l.take q) 0
     rw [List.length_take] at this
     omega
    have y1 := fun j => nmRows_iR j (idxs (l.take q) k 0)
    have y2 := fun j => lcRows_iR j (idxs (l.take q) k 0)
    have hlen : ((idxs (l.take q) k 0).map iR).length = (idxs (l.take q) k 0).length := List.length_map _
    obtain ⟨a, b, c, d⟩ := e
    obtain ⟨k1', k2, k3⟩ := k
    have eD := hD b c
    by_cases h1 : b = k1'
    ·subst h1
     by_cases h2 : sgnI (c - b) = k2
     ·subst h2
      by_cases h3 : d = k3
      ·subst h3
       have hi : idxs [(a, b, c, d)] (b, sgnI (c - b), d) q = [(q : Int)] := by simp [idxs, keyW]
       rw [hi] at htk
       generalize hT : idxs (l.take q) (b, sgnI (c - b), d) 0 = T at *
       simp -implicitDefEqProofs (disch := first | omega | (simp [g] <;> fail) | assumption) [hlt, hm, g, hrow, hrow2, he, k3D, w4D, m3, m5, m7, m3', m5', m7', n3, n5, n7, d3, d5, d7, f3, f5, f7, k1, l5, p5, y1, y2, hlen, eD]
       exact ⟨q + 1, by rw [htk]; simp [iR], by omega, by omega⟩
      ·have hi : idxs [(a, b, c, d)] (b, sgnI (c - b), k3) q = [] := by simp [idxs, keyW, h3]
       rw [hi, List.append_nil] at htk
       generalize hT : idxs (l.take q) (b, sgnI (c - b), k3) 0 = T at *
       simp -implicitDefEqProofs (disch := first | omega | (simp [g] <;> fail) | assumption) [hlt, hm, g, hrow, hrow2, he, k3D, w4D, m3, m5, m7, m3', m5', m7', n3, n5, n7, d3, d5, d7, f3, f5, f7, k1, l5, p5, y1, y2, hlen, eD, h3]
       exact ⟨q + 1, by rw [htk]; simp, by omega, by omega⟩
     ·have hi : idxs [(a, b, c, d)] (b, k2, k3) q = [] := by simp [idxs, keyW, h2]
      rw [hi, List.append_nil] at htk
      generalize hT : idxs (l.take q) (b, k2, k3) 0 = T at *
      simp -implicitDefEqProofs (disch := first | omega | (simp [g] <;> fail) | assumption) [hlt, hm, g, hrow, hrow2, he, k3D, w4D, m3, m5, m7, m3', m5', m7', n3, n5, n7, d3, d5, d7, f3, f5, f7, k1, l5, p5, y1, y2, hlen, eD, h2]
      exact ⟨q + 1, by rw [htk]; simp, by omega, by omega⟩
    ·have hi : idxs [(a, b, c, d)] (k1', k2, k3) q = [] := by simp [idxs, keyW, h1]
     rw [hi, List.append_nil] at htk
     generalize hT : idxs (l.take q) (k1', k2, k3) 0 = T at *
     simp -implicitDefEqProofs (disch := first | omega | (simp [g] <;> fail) | assumption) [hlt, hm, g, hrow, hrow2, he, k3D, w4D, m3, m5, m7, m3', m5', m7', n3, n5, n7, d3, d5, d7, f3, f5, f7, k1, l5, p5, y1, y2, hlen, eD, h1]
     exact ⟨q + 1, by rw [htk]; simp, by omega, by omega⟩
   ·obtain rfl : q = l.length := by omega
    rw [List.take_length]
    generalize hT : idxs l k 0 = T at *
    simp -implicitDefEqProofs (disch := first | omega | (simp [g] <;> fail) | assumption) [hm, g, k1, m3, m5, m3', m5', d3, d5, d7]
  obtain ⟨ax, s', ⟨rfl, rfl⟩, hlp⟩ := hin
  generalize hT : idxs l k 0 = T at *
  have hlp2 := hlp ⟨(0, .loc mk 0 0) :: (3, .loc 522003 0 0) :: (5, .sl 522005 0 0 0) :: (6, i64 0) :: gs, (522005, ⟨1, []⟩) :: (522003, ⟨3, [toAV (k3D k)]⟩) :: ob⟩ (by simp [g, k1, idxs])
  simp only [k3D, toAV, List.map_cons, List.map_nil] at hlp2
  simp -implicitDefEqProofs (disch := first | omega | (simp [g] <;> fail) | assumption) [hm, g, hlp2, k3D, k1, m3, m5, m3', m5', n3, n5, d3, d5, f3, f5, b5]
 ·have hcs : l = [] := by simpa using hcs
  subst hcs
  simp only [idxs]
  obtain ⟨M', rfl⟩ : ∃ M', M = M' + 1 := ⟨M - 1, by omega⟩
  simp -implicitDefEqProofs (disch := first | omega | (simp [g] <;> fail) | assumption) [hm, g, lp_succ (exec Γ (M' + 1) law29_m_row_l1), law29_m_row_l1_x, k3D, k1, m3, m5, m3', m5', n3, n5, d3, d5, f3, f5, b5]
end Go.Am
namespace Go.Am
def bD (p : Nat → Bool) : List D := (List.range 128).map fun m => D.bool (p m)
def bR (p : Nat → Bool) : List AV := (List.range 128).map fun m => AV.c (.bool (p m))
theorem bR_len (p : Nat → Bool) : (bR p).length = 128 := by simp [bR]
theorem bD_len (p : Nat → Bool) : (bD p).length = 128 := by simp [bD]
theorem bR_get (p : Nat → Bool) {m : Nat} (h : m < 128) : (bR p)[m]? = some (.c (.bool (p m))) := by simp [bR, h]
theorem bR_toAV (p : Nat → Bool) : toAV (bD p) = bR p := by simp [bD, bR, toAV]
theorem nmRow_bR (k : Nat) (p : Nat → Bool) : nmRow k (bR p) = true := by
 unfold bR
 generalize List.range 128 = l
 induction l <;> simp_all
theorem bD_cell (p : Nat → Bool) : List.map D.cell (bD p) = bR p := by
 unfold bD bR
 rw [List.map_map]; rfl
theorem allD_bR (p : Nat → Bool) : allD (bR p) = some (bD p) := by rw [← bR_toAV]; exact allD_toAV _
theorem bR_set (p : Nat → Bool) (n : Nat) (h : n < 128) : (bR p).take n ++ AV.c (.bool true) :: (bR p).drop (n + 1) = bR (addP p n) := by
 apply List.ext_getElem?
 intro i
 have hl := bR_len p
 by_cases hi : i < 128
 ·rw [bR_get _ hi]
  rcases Nat.lt_trichotomy i n with h1 | h1 | h1
  ·rw [List.getElem?_append_left (by rw [List.length_take]; omega), List.getElem?_take, if_pos h1, bR_get _ hi]
   have : ¬ (i : Int) = n := by omega
   simp [addP, this]
  ·subst h1
   rw [List.getElem?_append_right (by rw [List.length_take]; omega), List.length_take, hl, Nat.min_eq_left (by omega), Nat.sub_self]
   simp [addP]
  ·rw [List.getElem?_append_right (by rw [List.length_take]; omega), List.length_take, hl, Nat.min_eq_left (by omega)]
   obtain ⟨j, rfl⟩ : ∃ j, i = n + 1 + j := ⟨i - (n + 1), by omega⟩
   rw [show n + 1 + j - n = j + 1 by omega, List.getElem?_cons_succ, List.getElem?_drop, bR_get _ hi]
   have : ¬ ((n + 1 + j : Nat) : Int) = n := by omega
   simp only [addP, this, decide_false, Bool.or_false]
 ·rw [List.getElem?_eq_none (l := bR (addP p n)) (by rw [bR_len]; omega), List.getElem?_eq_none (by simp only [List.length_append, List.length_take, List.length_cons, List.length_drop]; omega)]
def MakeC (g : List AV → Option (List AV)) : Prop := ∀ p : Nat → Bool, g [.agg (bD p)] = some [setA p]
def w0At (p : Nat → Bool) (c : Nat) : Nat := wb p c (64 - c)
def w1At (p : Nat → Bool) (c : Nat) : Nat := if c < 64 then wb p 64 64 else wb p c (128 - c)
theorem ref03_Make_run (Γ : Env) (M : Nat) (hM : 200 < M) : MakeC (run Γ M ref03_Make_f) := by
 intro p
 have hin : ∃ ax s', (ax = .ex 0 ∧ s' = ⟨[(2, .loc 2 0 0), (3, .loc 3 0 0)], [(2, ⟨2, [z2R]⟩), (3, ⟨2, [setR p]⟩)]⟩) ∧ ∀ s0, nrm [1, 2, 3, 4] [1, 2, 3] s0 = ⟨[(1, .loc 1 0 0), (2, .loc 2 0 0), (3, .loc 3 0 0), (4, i64 ((128 : Nat) - 1 : Int))], [(1, ⟨128, [bR p]⟩), (2, ⟨2, [z2R]⟩), (3, ⟨2, [[.c (.int .u64 (w0At p 128 : Nat)), .c (.int .u64 (w1At p 128 : Nat))]]⟩)]⟩ → lp (exec Γ M ref03_Make_l1) M s0 = some (ax, s') := by
  refine lp_all (fun c : Nat => ⟨[(1, .loc 1 0 0), (2, .loc 2 0 0), (3, .loc 3 0 0), (4, i64 ((c : Nat) - 1 : Int))], [(1, ⟨128, [bR p]⟩), (2, ⟨2, [z2R]⟩), (3, ⟨2, [[.c (.int .u64 (w0At p c : Nat)), .c (.int .u64 (w1At p c : Nat))]]⟩)]⟩) (fun c => c ≤ 128) (fun c => c) _ 128 M (by simp) (by omega) (by omega) ?_
  intro c hc
  by_cases h0 : c = 0
  ·subst h0
   have e0 : w0At p 0 = wb p 0 64 := rfl
   have e1 : w1At p 0 = wb p 64 64 := rfl
   rw [e0, e1]
   simp -implicitDefEqProofs (disch := first | omega | (simp <;> fail) | assumption)
  ·obtain ⟨n, rfl⟩ : ∃ n, c = n + 1 := ⟨c - 1, by omega⟩
   have e : (((n + 1 : Nat) : Int)) - 1 = n := by omega
   have hn : n < 128 := by omega
   have hn' : n ≤ 127 := by omega
   have hb := bR_get p hn
   have hbl := bR_len p
   have hb2 : ∀ h, (bR p)[n]'h = .c (.bool (p n)) := fun h => by rw [List.getElem?_eq_getElem h] at hb; simpa using hb
   rw [e]
   generalize bR p = R at *
   by_cases h64 : n < 64
   ·have d0 : (n : Int) / 64 = 0 := by omega
    have u1 : w1At p (n + 1) = w1At p n := by
     unfold w1At
     rw [if_pos h64]
     split
     ·rfl
     ·obtain rfl : n = 63 := by omega
      rfl
    have u0 : w0At p n = 2 * w0At p (n + 1) + (if p n then 1 else 0) := by
     unfold w0At
     rw [show 64 - n = (64 - (n + 1)) + 1 by omega, wb_up]
    have lt0 : w0At p (n + 1) ≤ 9223372036854775807 := by
     have := wb_lt p (n + 1) (64 - (n + 1))
     have h2 : 2 ^ (64 - (n + 1)) ≤ 2 ^ 63 := Nat.pow_le_pow_right (by omega) (by omega)
     unfold w0At; omega
    generalize w1At p (n + 1) = x1 at u1 ⊢
    generalize w0At p (n + 1) = x0 at u0 lt0 ⊢
    cases hp : p n
    ·rw [hp] at hb hb2
     simp -implicitDefEqProofs (disch := first | omega | (simp <;> fail) | assumption) [hn, hn', hb, hb2, hbl, d0]
     exact ⟨n, by rw [u0, hp, ← u1]; simp, by omega, by omega⟩
    ·rw [hp] at hb hb2
     simp -implicitDefEqProofs (disch := first | omega | (simp <;> fail) | assumption) [hn, hn', hb, hb2, hbl, d0]
     exact ⟨n, by rw [u0, hp, ← u1]; simp, by omega, by omega⟩
   ·have d0 : (n : Int) / 64 = 1 := by omega
    have u0 : w0At p n = 0 ∧ w0At p (n + 1) = 0 := by
     unfold w0At
     rw [show 64 - n = 0 by omega, show 64 - (n + 1) = 0 by omega]
     exact ⟨rfl, rfl⟩
    have u1 : w1At p n = 2 * w1At p (n + 1) + (if p n then 1 else 0) := by
     unfold w1At
     rw [if_neg h64, if_neg (by omega), show 128 - n = (128 - (n + 1)) + 1 by omega, wb_up]
    have lt1 : w1At p (n + 1) ≤ 9223372036854775807 := by
     have := wb_lt p (n + 1) (128 - (n + 1))
     have h2 : 2 ^ (128 - (n + 1)) ≤ 2 ^ 63 := Nat.pow_le_pow_right (by omega) (by omega)
     unfold w1At
     rw [if_neg (by omega)]
     omega
    obtain ⟨u2, u3⟩ := u0
    rw [u3]
    generalize w1At p (n + 1) = x0 at u1 lt1 ⊢
    cases hp : p n
    ·rw [hp] at hb hb2
     simp -implicitDefEqProofs (disch := first | omega | (simp <;> fail) | assumption) [hn, hn', hb, hb2, hbl, d0]
     exact ⟨n, by rw [u1, hp, u2]; simp, by omega, by omega⟩
    ·rw [hp] at hb hb2
     simp -implicitDefEqProofs (disch := first | omega | (simp <;> fail) | assumption) [hn, hn', hb, hb2, hbl, d0]
     exact ⟨n, by rw [u1, hp, u2]; simp, by omega, by omega⟩
 obtain ⟨ax, s', ⟨rfl, rfl⟩, hlp⟩ := hin
 have z0 : w0At p 128 = 0 := rfl
 have z1 : w1At p 128 = 0 := by unfold w1At; rw [if_neg (by omega)]; rfl
 rw [z0, z1] at hlp
 have hbt : List.map D.cell (bD p) = bR p := bD_cell p
 have hnm : ∀ k, nmRow k (bR p) = true := fun k => nmRow_bR k p
 have hlp2 := hlp ⟨[(1, .loc 1 0 0), (2, .loc 2 0 0), (3, .loc 3 0 0), (4, i64 127)], [(1, ⟨128, [bR p]⟩), (2, ⟨2, [z2R]⟩), (3, ⟨2, [z2R]⟩)]⟩ (by simp)
 have hdl := bD_len p
 have hrl := bR_len p
 generalize bD p = B at *
 generalize bR p = R at *
 simp -implicitDefEqProofs (disch := first | omega | (simp <;> fail) | assumption) [hlp2, hdl, hbt, hnm, hrl]
def OfC3 (g : List AV → Option (List AV)) : Prop := ∀ l : List Int, l.length ≤ 1000 → g [.c (.vs 1 (l.map iD))] = some [setA (setOf l)]
theorem bR_nil : List.replicate 128 (AV.c (.bool false)) = bR (setOf []) := by
 have : ∀ m, setOf [] m = false := fun m => by simp [setOf]
 unfold bR
 simp only [this]
 rfl
theorem ref03_Of_run (Γ : Env) (M : Nat) (hM : 2000 < M) (hMk : MakeC (Γ 533)) : OfC3 (run Γ M ref03_Of_f) := by
 intro l hl
 have hr1 : r528_1 = .op (some 3) (.alc 3 (List.replicate 128 (AV.c (.bool false)))) .done := rfl
 rw [bR_nil] at hr1
 have hb0 : bR (setOf (l.take 0)) = bR (setOf []) := rfl
 have hin : ∃ ax s', (ax = .ex 0 ∧ s' = ⟨[(2, .loc 2 0 0), (3, .loc 3 0 0)], [(2, ⟨2, [z2R]⟩), (3, ⟨128, [bR (setOf l)]⟩)]⟩) ∧ ∀ s0, nrm [0, 2, 3, 4] [2, 3] s0 = ⟨[(0, .c (.vs 1 (l.map iD))), (2, .loc 2 0 0), (3, .loc 3 0 0), (4, i64 (0 : Nat))], [(2, ⟨2, [z2R]⟩), (3, ⟨128, [bR (setOf (l.take 0))]⟩)]⟩ → lp (exec Γ M ref03_Of_l1) M s0 = some (ax, s') := by
  refine lp_all (fun q : Nat => ⟨[(0, .c (.vs 1 (l.map iD))), (2, .loc 2 0 0), (3, .loc 3 0 0), (4, i64 q)], [(2, ⟨2, [z2R]⟩), (3, ⟨128, [bR (setOf (l.take q))]⟩)]⟩) (fun q => q ≤ l.length) (fun q => l.length - q) _ 0 M (by simp) (by omega) (by omega) ?_
  intro q hq
  by_cases hlt : q < l.length
  ·obtain ⟨n, hn⟩ : ∃ n, l[q] = n := ⟨_, rfl⟩
   have hrow : (l.map iD)[q]? = some [.int .i64 n] := by simp [hlt, hn, iD]
   have hrow2 : ∀ h, (l.map iD)[q]'h = [.int .i64 n] := fun h => by rw [List.getElem?_eq_getElem h] at hrow; simpa using hrow
   have htk : setOf (l.take (q + 1)) = addP (setOf (l.take q)) n := by rw [addP_setOf, List.take_succ_eq_append_getElem hlt, hn]
   have hbl := bR_len (setOf (l.take q))
   have hnm : ∀ k, nmRow k (bR (setOf (l.take q))) = true := fun k => nmRow_bR k _
   by_cases h0 : 0 ≤ n ∧ n < 128
   ·obtain ⟨m, rfl⟩ : ∃ m : Nat, n = m := ⟨n.toNat, by omega⟩
    have hm : m < 128 := by omega
    have hm' : m ≤ 127 := by omega
    have hset := bR_set (setOf (l.take q)) m hm
    rw [← htk] at hset
    generalize bR (setOf (l.take q)) = R at *
    simp -implicitDefEqProofs (disch := first | omega | (simp <;> fail) | assumption) [hlt, hn, hrow, hrow2, hbl, hm, hm', hset]
    exact ⟨q + 1, by simp, by omega, by omega⟩
   ·have hsame : bR (setOf (l.take (q + 1))) = bR (setOf (l.take q)) := by
     rw [htk]
     unfold bR
     refine List.map_congr_left fun m hm => ?_
     rw [List.mem_range] at hm
     have : ¬ (m : Int) = n := by omega
     simp [addP, this]
    generalize bR (setOf (l.take q)) = R at *
    by_cases h1 : 0 ≤ n
    ·have h2 : ¬ n < 128 := by omega
     simp -implicitDefEqProofs (disch := first | omega | (simp <;> fail) | assumption) [hlt, hn, hrow, hrow2, hbl, h1, h2]
     exact ⟨q + 1, by rw [hsame]; simp, by omega, by omega⟩
    ·simp -implicitDefEqProofs (disch := first | omega | (simp <;> fail) | assumption) [hlt, hn, hrow, hrow2, hbl, h1]
     exact ⟨q + 1, by rw [hsame]; simp, by omega, by omega⟩
  ·obtain rfl : q = l.length := by omega
   rw [List.take_length]
   generalize bR (setOf l) = R at *
   simp -implicitDefEqProofs (disch := first | omega | (simp <;> fail) | assumption)
 obtain ⟨ax, s', ⟨rfl, rfl⟩, hlp⟩ := hin
 rw [hb0] at hlp
 have hlp2 := hlp ⟨[(0, .c (.vs 1 (l.map iD))), (2, .loc 2 0 0), (3, .loc 3 0 0), (4, i64 0)], [(2, ⟨2, [z2R]⟩), (3, ⟨128, [bR (setOf [])]⟩)]⟩ (by generalize bR (setOf []) = R; simp)
 have hbl := bR_len (setOf [])
 have hbl2 := bR_len (setOf l)
 have hnm : ∀ k, nmRow k (bR (setOf [])) = true := fun k => nmRow_bR k _
 have hall := allD_bR (setOf l)
 have hmk := hMk (setOf l)
 have hdl := bD_len (setOf l)
 have htk1 : List.take 128 (bR (setOf l)) = bR (setOf l) := List.take_of_length_le (by omega)
 generalize bR (setOf []) = R0 at *
 generalize bR (setOf l) = R1 at *
 generalize bD (setOf l) = B1 at *
 simp -implicitDefEqProofs (disch := first | omega | (simp <;> fail) | assumption) [-r528_1, hr1, hlp2, hbl, hbl2, hnm, hall, hmk, hdl, htk1]
end Go.Am
namespace Go.Am
def EqWC (g : List AV → Option (List AV)) : Prop := ∀ a b : List W4, a.length ≤ 1000 → b.length ≤ 1000 → g [.c (.vs 4 (a.map w4D)), .c (.vs 4 (b.map w4D))] = some [bo (decide (a = b))]
theorem slices_Equal_Sapi_Waiter_api_Waiter_run (Γ : Env) (M : Nat) (hM : 2000 < M) : EqWC (run Γ M slices_Equal_Sapi_Waiter_api_Waiter_f) := by
 intro a b ha hb
 by_cases hl : a.length = b.length
 ·have hin : ∃ ax s', ((ax = .ret ∧ ¬ a = b ∧ s' = ⟨[(4, bo false)], []⟩) ∨ (ax = .ex 0 ∧ a = b ∧ s' = ⟨[], []⟩)) ∧ ∀ s0, nrm [0, 1, 12, 13] [] s0 = ⟨[(0, .c (.vs 4 (a.map w4D))), (1, .c (.vs 4 (b.map w4D))), (12, i64 b.length), (13, i64 (0 : Nat))], []⟩ → lp (exec Γ M slices_Equal_Sapi_Waiter_api_Waiter_l1) M s0 = some (ax, s') := by
   refine lp_all (fun q : Nat => ⟨[(0, .c (.vs 4 (a.map w4D))), (1, .c (.vs 4 (b.map w4D))), (12, i64 b.length), (13, i64 q)], []⟩) (fun q => q ≤ b.length ∧ a.take q = b.take q) (fun q => b.length - q) _ 0 M (by simp) ⟨by omega, rfl⟩ (by omega) ?_
   intro q ⟨hq, hpre⟩
   by_cases hlt : q < b.length
   ·have hlt2 : q < a.length := by omega
    obtain ⟨x, hx⟩ : ∃ x, a[q] = x := ⟨_, rfl⟩
    obtain ⟨y, hy⟩ : ∃ y, b[q] = y := ⟨_, rfl⟩
    have hr1 : (a.map w4D)[q]? = some (w4D x) := by simp [hlt2, hx]
    have hr2 : (b.map w4D)[q]? = some (w4D y) := by simp [hlt, hy]
    have hr3 : ∀ h, (a.map w4D)[q]'h = w4D x := fun h => by rw [List.getElem?_eq_getElem h] at hr1; simpa using hr1
    have hr4 : ∀ h, (b.map w4D)[q]'h = w4D y := fun h => by rw [List.getElem?_eq_getElem h] at hr2; simpa using hr2
    by_cases hxy : x = y
    ·have hp2 : a.take (q + 1) = b.take (q + 1) := by rw [List.take_succ_eq_append_getElem hlt, List.take_succ_eq_append_getElem hlt2, hpre, hx, hy, hxy]
     subst hxy
     obtain ⟨x1, x2, x3, x4⟩ := x
     simp -implicitDefEqProofs (disch := first | omega | (simp <;> fail) | assumption) [hlt, hlt2, hx, hy, hr1, hr2, hr3, hr4, w4D]
     exact ⟨q + 1, by simp, ⟨by omega, hp2⟩, by omega⟩
    ·have hne : ¬ a = b := fun h => hxy (by subst h; rw [← hx, ← hy])
     obtain ⟨x1, x2, x3, x4⟩ := x
     obtain ⟨y1, y2, y3, y4⟩ := y
     simp only [Prod.mk.injEq] at hxy
     have hbb : (!decide (x1 = y1) || (!decide (x2 = y2) || (!decide (x3 = y3) || !decide (x4 = y4)))) = true := by simp only [Bool.or_eq_true, Bool.not_eq_true', decide_eq_false_iff_not]; omega
     simp -implicitDefEqProofs (disch := first | omega | (simp <;> fail) | assumption) [hlt, hlt2, hx, hy, hr1, hr2, hr3, hr4, w4D, hbb, hne]
   ·obtain rfl : q = b.length := by omega
    have hab : a = b := by rw [List.take_length, ← hl, List.take_length] at hpre; exact hpre
    simp -implicitDefEqProofs (disch := first | omega | (simp <;> fail) | assumption) [hab]
  obtain ⟨ax, s', hR, hlp⟩ := hin
  have hlp2 := hlp ⟨[(0, .c (.vs 4 (a.map w4D))), (1, .c (.vs 4 (b.map w4D))), (12, i64 b.length), (13, i64 0)], []⟩ (by simp)
  rcases hR with ⟨rfl, hne, rfl⟩ | ⟨rfl, hab, rfl⟩
  ·simp -implicitDefEqProofs (disch := first | omega | (simp <;> fail) | assumption) [hl, hlp2, hne]
  ·subst hab
   simp -implicitDefEqProofs (disch := first | omega | (simp <;> fail) | assumption) [hlp2]
 ·have hne : ¬ a = b := fun h => hl (by rw [h])
  simp -implicitDefEqProofs (disch := first | omega | (simp <;> fail) | assumption) [hl, hne]
def EqKC (g : List AV → Option (List AV)) : Prop := ∀ a b : List K3, a.length ≤ 1000 → b.length ≤ 1000 → g [.c (.vs 3 (a.map k3D)), .c (.vs 3 (b.map k3D))] = some [bo (decide (a = b))]
theorem slices_Equal_Sapi_Call_api_Call_run (Γ : Env) (M : Nat) (hM : 2000 < M) : EqKC (run Γ M slices_Equal_Sapi_Call_api_Call_f) := by
 intro a b ha hb
 by_cases hl : a.length = b.length
 ·have hin : ∃ ax s', ((ax = .ret ∧ ¬ a = b ∧ s' = ⟨[(4, bo false)], []⟩) ∨ (ax = .ex 0 ∧ a = b ∧ s' = ⟨[], []⟩)) ∧ ∀ s0, nrm [0, 1, 12, 13] [] s0 = ⟨[(0, .c (.vs 3 (a.map k3D))), (1, .c (.vs 3 (b.map k3D))), (12, i64 b.length), (13, i64 (0 : Nat))], []⟩ → lp (exec Γ M slices_Equal_Sapi_Call_api_Call_l1) M s0 = some (ax, s') := by
   refine lp_all (fun q : Nat => ⟨[(0, .c (.vs 3 (a.map k3D))), (1, .c (.vs 3 (b.map k3D))), (12, i64 b.length), (13, i64 q)], []⟩) (fun q => q ≤ b.length ∧ a.take q = b.take q) (fun q => b.length - q) _ 0 M (by simp) ⟨by omega, rfl⟩ (by omega) ?_
   intro q ⟨hq, hpre⟩
   by_cases hlt : q < b.length
   ·have hlt2 : q < a.length := by omega
    obtain ⟨x, hx⟩ : ∃ x, a[q] = x := ⟨_, rfl⟩
    obtain ⟨y, hy⟩ : ∃ y, b[q] = y := ⟨_, rfl⟩
    have hr1 : (a.map k3D)[q]? = some (k3D x) := by simp [hlt2, hx]
    have hr2 : (b.map k3D)[q]? = some (k3D y) := by simp [hlt, hy]
    have hr3 : ∀ h, (a.map k3D)[q]'h = k3D x := fun h => by rw [List.getElem?_eq_getElem h] at hr1; simpa using hr1
    have hr4 : ∀ h, (b.map k3D)[q]'h = k3D y := fun h => by rw [List.getElem?_eq_getElem h] at hr2; simpa using hr2
    by_cases hxy : x = y
    ·have hp2 : a.take (q + 1) = b.take (q + 1) := by rw [List.take_succ_eq_append_getElem hlt, List.take_succ_eq_append_getElem hlt2, hpre, hx, hy, hxy]
     subst hxy
     obtain ⟨x1, x2, x3⟩ := x
     simp -implicitDefEqProofs (disch := first | omega | (simp <;> fail) | assumption) [hlt, hlt2, hx, hy, hr1, hr2, hr3, hr4, k3D]
     exact ⟨q + 1, by simp, ⟨by omega, hp2⟩, by omega⟩
    ·have hne : ¬ a = b := fun h => hxy (by subst h; rw [← hx, ← hy])
     obtain ⟨x1, x2, x3⟩ := x
     obtain ⟨y1, y2, y3⟩ := y
     simp only [Prod.mk.injEq] at hxy
     have hbb : (!decide (x1 = y1) || (!decide (x2 = y2) || !decide (x3 = y3))) = true := by simp only [Bool.or_eq_true, Bool.not_eq_true', decide_eq_false_iff_not]; omega
     simp -implicitDefEqProofs (disch := first | omega | (simp <;> fail) | assumption) [hlt, hlt2, hx, hy, hr1, hr2, hr3, hr4, k3D, hbb, hne]
   ·obtain rfl : q = b.length := by omega
    have hab : a = b := by rw [List.take_length, ← hl, List.take_length] at hpre; exact hpre
    simp -implicitDefEqProofs (disch := first | omega | (simp <;> fail) | assumption) [hab]
  obtain ⟨ax, s', hR, hlp⟩ := hin
  have hlp2 := hlp ⟨[(0, .c (.vs 3 (a.map k3D))), (1, .c (.vs 3 (b.map k3D))), (12, i64 b.length), (13, i64 0)], []⟩ (by simp)
  rcases hR with ⟨rfl, hne, rfl⟩ | ⟨rfl, hab, rfl⟩
  ·simp -implicitDefEqProofs (disch := first | omega | (simp <;> fail) | assumption) [hl, hlp2, hne]
  ·subst hab
   simp -implicitDefEqProofs (disch := first | omega | (simp <;> fail) | assumption) [hlp2]
 ·have hne : ¬ a = b := fun h => hl (by rw [h])
  simp -implicitDefEqProofs (disch := first | omega | (simp <;> fail) | assumption) [hl, hne]
end Go.Am
namespace Go.Am
def selX (car dir : Int) (l : List K3) : List Int := (l.filter fun e => decide (e.2.2 = car) && decide (e.2.1 = dir)).map (·.1)
def selY (car dir : Int) (l : List W4) : List Int := (l.filter fun w => decide (w.2.2.2 = car) && decide (0 ≤ car) && decide (sgnI (w.2.2.1 - w.2.1) = dir)).map (·.2.1)
theorem selX_len (car dir : Int) (l : List K3) : (selX car dir l).length ≤ l.length := by unfold selX; rw [List.length_map]; exact List.length_filter_le _ _
theorem selY_len (car dir : Int) (l : List W4) : (selY car dir l).length ≤ l.length := by unfold selY; rw [List.length_map]; exact List.length_filter_le _ _
def Lands29C (g : St → Option (List AV × List (Nat × Obj))) : Prop := ∀ (mk : Nat) (lv cv : AV) (n : Int) (l : List W4) (cs : List K3) (car dir : Int) gs ob, NoO [513] ob → NoF [513] gs → get ob mk = some ⟨3, [[lv, cv, i64 n]]⟩ → LV 4 (l.map w4D) lv → LV 3 (cs.map k3D) cv → l.length ≤ 100 → cs.length ≤ 100 →
 g ⟨(0, .loc mk 0 0) :: (1, i64 car) :: (2, i64 dir) :: gs, ob⟩ = some ([setA (setOf (selX car dir cs ++ selY car dir l))], ob)
section
variable {Γ : Env} {M : Nat} {gs : List (Nat × AV)} {ob : List (Nat × Obj)} {mk : Nat} {n : Int} {car dir : Int}
theorem lands29_l2 (hM : 2000 < M) (lv cv : AV) (cs : List K3) (hO : NoO [513] ob) (hF : NoF [513] gs) (hm : get ob mk = some ⟨3, [[lv, cv, i64 n]]⟩) (hcv : LV 3 (cs.map k3D) cv) (hl : cs.length ≤ 100) :
  lp (exec Γ M law29_m_lands_l2) M ⟨(0, .loc mk 0 0) :: (1, i64 car) :: (2, i64 dir) :: (6, .loc 513006 0 0) :: (7, .sl 513007 0 0 0) :: (8, i64 0) :: gs, (513007, ⟨1, []⟩) :: (513006, ⟨2, [z2R]⟩) :: ob⟩ = some (.ex 0, ⟨(0, .loc mk 0 0) :: (1, i64 car) :: (2, i64 dir) :: (6, .loc 513006 0 0) :: (7, .sl 513007 (selX car dir cs).length 0 (selX car dir cs).length) :: gs, (513007, ⟨1, (selX car dir cs).map iR⟩) :: (513006, ⟨2, [z2R]⟩) :: ob⟩) := by
 have g := hF.1
 have n6 := hO.nm (k := 513006) (by decide)
 have d6 := hO.del (k := 513006) (by decide)
 have f6 := hF.nm (k := 513006) (by decide)
 have n7 := hO.nm (k := 513007) (by decide)
 have d7 := hO.del (k := 513007) (by decide)
 have f7 := hF.nm (k := 513007) (by decide)
 have k1 := hO.kf (f := 513) (by simp)
 have m6 := some_ne hO hm (k := 513006) (by decide)
 have m7 := some_ne hO hm (k := 513007) (by decide)
 have m6' := Ne.symm m6
 have m7' := Ne.symm m7
 have l7 := lcFr_nm f7
 have p7 := lcOb_nm n7
 rcases hcv with rfl | ⟨hcs, rfl⟩
 ·have hin : ∃ ax s', (ax = .ex 0 ∧ s' = ⟨(0, .loc mk 0 0) :: (1, i64 car) :: (2, i64 dir) :: (6, .loc 513006 0 0) :: (7, .sl 513007 (selX car dir cs).length 0 (selX car dir cs).length) :: gs, (513007, ⟨1, (selX car dir cs).map iR⟩) :: (513006, ⟨2, [z2R]⟩) :: ob⟩) ∧ ∀ s0, nrmP [0, 1, 2, 6, 7, 8] 513000 514000 [513006, 513007, 513051, 513106] s0 = ⟨(0, .loc mk 0 0) :: (1, i64 car) :: (2, i64 dir) :: (6, .loc 513006 0 0) :: (7, .sl 513007 (selX car dir (cs.take 0)).length 0 (selX car dir (cs.take 0)).length) :: (8, i64 (0 : Nat)) :: gs, (513007, ⟨1, (selX car dir (cs.take 0)).map iR⟩) :: (513006, ⟨2, [z2R]⟩) :: ob⟩ → lp (exec Γ M law29_m_lands_l2) M s0 = some (ax, s') := by
   refine lp_allP (fun q : Nat => ⟨(0, .loc mk 0 0) :: (1, i64 car) :: (2, i64 dir) :: (6, .loc 513006 0 0) :: (7, .sl 513007 (selX car dir (cs.take q)).length 0 (selX car dir (cs.take q)).length) :: (8, i64 q) :: gs, (513007, ⟨1, (selX car dir (cs.take q)).map iR⟩) :: (513006, ⟨2, [z2R]⟩) :: ob⟩) (fun q => q ≤ cs.length) (fun q => cs.length - q) _ 0 M (by omega) (by omega) ?_
   intro q hq
   by_cases hlt : q < cs.length
   ·obtain ⟨e, he⟩ : ∃ e, cs[q] = e := ⟨_, rfl⟩
    have hrow : (cs.map k3D)[q]? = some (k3D e) := by simp [hlt, he]
    have hrow2 : ∀ h, (cs.map k3D)[q]'h = k3D e := fun h => by rw [List.getElem?_eq_getElem h] at hrow; simpa using hrow
    have htk : selX car dir (cs.take (q + 1)) = selX car dir (cs.take q) ++ selX car dir [e] := by
     unfold selX
     rw [List.take_succ_eq_append_getElem hlt, he, List.filter_append, List.map_append]
    have hll : (selX car dir (cs.take q)).length ≤ 100 := by
     have := selX_len car dir (cs.take q)
     rw [List.length_take] at this; omega
    have y1 := fun j => nmRows_iR j (selX car dir (cs.take q))
    have y2 := fun j => lcRows_iR j (selX car dir (cs.take q))
    have hlen : ((selX car dir (cs.take q)).map iR).length = (selX car dir (cs.take q)).length := List.length_map _
    obtain ⟨a, b, c⟩ := e
    by_cases h1 : c = car
    ·by_cases h2 : b = dir
     ·have hi : selX car dir [(a, b, c)] = [a] := by simp [selX, h1, h2]
      rw [hi] at htk
      subst h1 h2
      generalize hT : selX c b (cs.take q) = T at *
      simp -implicitDefEqProofs (disch := first | omega | (simp [g] <;> fail) | assumption) [hlt, hm, g, hrow, hrow2, he, k3D, m6, m7, m6', m7', n6, n7, d6, d7, f6, f7, k1, l7, p7, y1, y2, hlen]
      exact ⟨q + 1, by rw [htk]; simp [iR], by omega, by omega⟩
     ·have hi : selX car dir [(a, b, c)] = [] := by simp [selX, h2]
      rw [hi, List.append_nil] at htk
      subst h1
      generalize hT : selX c dir (cs.take q) = T at *
      simp -implicitDefEqProofs (disch := first | omega | (simp [g] <;> fail) | assumption) [hlt, hm, g, hrow, hrow2, he, k3D, m6, m7, m6', m7', n6, n7, d6, d7, f6, f7, k1, l7, p7, y1, y2, hlen, h2]
      exact ⟨q + 1, by rw [htk]; simp, by omega, by omega⟩
    ·have hi : selX car dir [(a, b, c)] = [] := by simp [selX, h1]
     rw [hi, List.append_nil] at htk
     generalize hT : selX car dir (cs.take q) = T at *
     simp -implicitDefEqProofs (disch := first | omega | (simp [g] <;> fail) | assumption) [hlt, hm, g, hrow, hrow2, he, k3D, m6, m7, m6', m7', n6, n7, d6, d7, f6, f7, k1, l7, p7, y1, y2, hlen, h1]
     exact ⟨q + 1, by rw [htk]; simp, by omega, by omega⟩
   ·obtain rfl : q = cs.length := by omega
    rw [List.take_length]
    generalize hT : selX car dir cs = T at *
    simp -implicitDefEqProofs (disch := first | omega | (simp [g] <;> fail) | assumption) [hm, g, k1, m6, m7, m6', m7', d6, d7]
  obtain ⟨ax, s', ⟨rfl, rfl⟩, hlp⟩ := hin
  exact hlp _ (by simp [g, k1, selX])
 ·have hcs : cs = [] := by simpa using hcs
  subst hcs
  obtain ⟨M', rfl⟩ : ∃ M', M = M' + 1 := ⟨M - 1, by omega⟩
  simp -implicitDefEqProofs (disch := first | omega | (simp [g] <;> fail) | assumption) [hm, g, lp_succ (exec Γ (M' + 1) law29_m_lands_l2), law29_m_lands_l2_x, k1, m6, m7, m6', m7', selX]
theorem lands29_l1 (hM : 2000 < M) (hD : Dir29C (Γ 519)) (lv cv : AV) (l : List W4) (X : List Int) (hX : X.length ≤ 100) (hO : NoO [513] ob) (hF : NoF [513] gs) (hm : get ob mk = some ⟨3, [[lv, cv, i64 n]]⟩) (hlv : LV 4 (l.map w4D) lv) (hl : l.length ≤ 100) :
  lp (exec Γ M law29_m_lands_l1) M ⟨(0, .loc mk 0 0) :: (1, i64 car) :: (2, i64 dir) :: (6, .loc 513006 0 0) :: (7, .sl 513007 X.length 0 X.length) :: (9, i64 0) :: gs, (513007, ⟨1, X.map iR⟩) :: (513006, ⟨2, [z2R]⟩) :: ob⟩ = some (.ex 2, ⟨(6, .loc 513006 0 0) :: (7, .sl 513007 (X ++ selY car dir l).length 0 (X ++ selY car dir l).length) :: gs, (513007, ⟨1, (X ++ selY car dir l).map iR⟩) :: (513006, ⟨2, [z2R]⟩) :: ob⟩) := by
 have g := hF.1
 have n6 := hO.nm (k := 513006) (by decide)
 have d6 := hO.del (k := 513006) (by decide)
 have f6 := hF.nm (k := 513006) (by decide)
 have n7 := hO.nm (k := 513007) (by decide)
 have d7 := hO.del (k := 513007) (by decide)
 have f7 := hF.nm (k := 513007) (by decide)
 have k1 := hO.kf (f := 513) (by simp)
 have m6 := some_ne hO hm (k := 513006) (by decide)
 have m7 := some_ne hO hm (k := 513007) (by decide)
 have m6' := Ne.symm m6
 have m7' := Ne.symm m7
 have l7 := lcFr_nm f7
 have p7 := lcOb_nm n7
 rcases hlv with rfl | ⟨hcs, rfl⟩
 ·have hin : ∃ ax s', (ax = .ex 2 ∧ s' = ⟨(6, .loc 513006 0 0) :: (7, .sl 513007 (X ++ selY car dir l).length 0 (X ++ selY car dir l).length) :: gs, (513007, ⟨1, (X ++ selY car dir l).map iR⟩) :: (513006, ⟨2, [z2R]⟩) :: ob⟩) ∧ ∀ s0, nrmP [0, 1, 2, 6, 7, 9] 513000 514000 [513006, 513007, 513051, 513106] s0 = ⟨(0, .loc mk 0 0) :: (1, i64 car) :: (2, i64 dir) :: (6, .loc 513006 0 0) :: (7, .sl 513007 (X ++ selY car dir (l.take 0)).length 0 (X ++ selY car dir (l.take 0)).length) :: (9, i64 (0 : Nat)) :: gs, (513007, ⟨1, (X ++ selY car dir (l.take 0)).map iR⟩) :: (513006, ⟨2, [z2R]⟩) :: ob⟩ → lp (exec Γ M law29_m_lands_l1) M s0 = some (ax, s') := by
   refine lp_allP (fun q : Nat => ⟨(0, .loc mk 0 0) :: (1, i64 car) :: (2, i64 dir) :: (6, .loc 513006 0 0) :: (7, .sl 513007 (X ++ selY car dir (l.take q)).length 0 (X ++ selY car dir (l.take q)).length) :: (9, i64 q) :: gs, (513007, ⟨1, (X ++ selY car dir (l.take q)).map iR⟩) :: (513006, ⟨2, [z2R]⟩) :: ob⟩) (fun q => q ≤ l.length) (fun q => l.length - q) _ 0 M (by omega) (by omega) ?_
   intro q hq
   by_cases hlt : q < l.length
   ·obtain ⟨e, he⟩ : ∃ e, l[q] = e := ⟨_, rfl⟩
    have hrow : (l.map w4D)[q]? = some (w4D e) := by simp [hlt, he]
    have hrow2 : ∀ h, (l.map w4D)[q]'h = w4D e := fun h => by rw [List.getElem?_eq_getElem h] at hrow; simpa using hrow
    have htk : X ++ selY car dir (l.take (q + 1)) = X ++ selY car dir (l.take q) ++ selY car dir [e] := by
     unfold selY
     rw [List.take_succ_eq_append_getElem hlt, he, List.filter_append, List.map_append, List.append_assoc]
    have hll : (X ++ selY car dir (l.take q)).length ≤ 200 := by
     have := selY_len car dir (l.take q)
     rw [List.length_take] at this
     rw [List.length_append]; omega
    have y1 := fun j => nmRows_iR j (X ++ selY car dir (l.take q))
    have y2 := fun j => lcRows_iR j (X ++ selY car dir (l.take q))
    have hlen : ((X ++ selY car dir (l.take q)).map iR).length = (X ++ selY car dir (l.take q)).length := List.length_map _
    obtain ⟨i, a, b, c⟩ := e
    have eD := hD a b
    by_cases h1 : c = car
    ·by_cases h0 : 0 ≤ car
     ·by_cases h2 : sgnI (b - a) = dir
      ·have hi : selY car dir [(i, a, b, c)] = [a] := by simp [selY, h1, h2, h0]
       rw [hi] at htk
       subst h1 h2
       generalize hT : X ++ selY c (sgnI (b - a)) (l.take q) = T at *
       simp -implicitDefEqProofs (disch := first | omega | (simp [g] <;> fail) | assumption) [hlt, hm, g, hrow, hrow2, he, w4D, m6, m7, m6', m7', n6, n7, d6, d7, f6, f7, k1, l7, p7, y1, y2, hlen, eD, h0]
       exact ⟨q + 1, by rw [← List.length_append, ← List.map_append, htk]; simp [iR], by omega, by omega⟩
      ·have hi : selY car dir [(i, a, b, c)] = [] := by simp [selY, h2]
       rw [hi, List.append_nil] at htk
       subst h1
       generalize hT : X ++ selY c dir (l.take q) = T at *
       simp -implicitDefEqProofs (disch := first | omega | (simp [g] <;> fail) | assumption) [hlt, hm, g, hrow, hrow2, he, w4D, m6, m7, m6', m7', n6, n7, d6, d7, f6, f7, k1, l7, p7, y1, y2, hlen, eD, h0, h2]
       exact ⟨q + 1, by rw [← List.length_append, ← List.map_append, htk]; simp, by omega, by omega⟩
     ·have hi : selY car dir [(i, a, b, c)] = [] := by simp [selY, h0]
      rw [hi, List.append_nil] at htk
      subst h1
      generalize hT : X ++ selY c dir (l.take q) = T at *
      simp -implicitDefEqProofs (disch := first | omega | (simp [g] <;> fail) | assumption) [hlt, hm, g, hrow, hrow2, he, w4D, m6, m7, m6', m7', n6, n7, d6, d7, f6, f7, k1, l7, p7, y1, y2, hlen, eD, h0]
      exact ⟨q + 1, by rw [← List.length_append, ← List.map_append, htk]; simp, by omega, by omega⟩
    ·have hi : selY car dir [(i, a, b, c)] = [] := by simp [selY, h1]
     rw [hi, List.append_nil] at htk
     generalize hT : X ++ selY car dir (l.take q) = T at *
     simp -implicitDefEqProofs (disch := first | omega | (simp [g] <;> fail) | assumption) [hlt, hm, g, hrow, hrow2, he, w4D, m6, m7, m6', m7', n6, n7, d6, d7, f6, f7, k1, l7, p7, y1, y2, hlen, eD, h1]
     exact ⟨q + 1, by rw [← List.length_append, ← List.map_append, htk]; simp, by omega, by omega⟩
   ·obtain rfl : q = l.length := by omega
    rw [List.take_length]
    generalize hT : X ++ selY car dir l = T at *
    simp -implicitDefEqProofs (disch := first | omega | (simp [g] <;> fail) | assumption) [hm, g, k1, m6, m7, m6', m7', d6, d7]
  obtain ⟨ax, s', ⟨rfl, rfl⟩, hlp⟩ := hin
  exact hlp _ (by simp [g, k1, selY])
 ·have hcs : l = [] := by simpa using hcs
  subst hcs
  obtain ⟨M', rfl⟩ : ∃ M', M = M' + 1 := ⟨M - 1, by omega⟩
  have h0 : selY car dir [] = [] := rfl
  rw [h0, List.append_nil]
  simp -implicitDefEqProofs (disch := first | omega | (simp [g] <;> fail) | assumption) [hm, g, lp_succ (exec Γ (M' + 1) law29_m_lands_l1), law29_m_lands_l1_x, k1, m6, m7, m6', m7']
end
theorem law29_m_lands_run (Γ : Env) (M : Nat) (hM : 2000 < M) (hD : Dir29C (Γ 519)) (hOf : OfC3 (Γ 528)) : Lands29C (runP Γ M law29_m_lands_f) := by
 intro mk lv cv n l cs car dir gs ob hO hF hm hlv hcv hl hl2
 have h2 := lands29_l2 (Γ := Γ) (car := car) (dir := dir) hM lv cv cs hO hF hm hcv hl2
 have hx := selX_len car dir cs
 have hy := selY_len car dir l
 have h1 := lands29_l1 (Γ := Γ) (car := car) (dir := dir) hM hD lv cv l (selX car dir cs) (by omega) hO hF hm hlv hl
 have hof := hOf (selX car dir cs ++ selY car dir l) (by rw [List.length_append]; omega)
 have hal : ∀ l : List Int, allRows (l.map iR) = some (l.map iD) := fun l => allRows_comp iD l
 have hal := hal (selX car dir cs ++ selY car dir l)
 have hlen : ((selX car dir cs ++ selY car dir l).map iR).length = (selX car dir cs ++ selY car dir l).length := List.length_map _
 have hlen2 : ((selX car dir cs ++ selY car dir l).map iD).length = (selX car dir cs ++ selY car dir l).length := List.length_map _
 have htk : List.take (selX car dir cs ++ selY car dir l).length ((selX car dir cs ++ selY car dir l).map iD) = (selX car dir cs ++ selY car dir l).map iD := List.take_of_length_le (by rw [hlen2]; exact Nat.le_refl _)
 generalize selX car dir cs ++ selY car dir l = L at *
 generalize selX car dir cs = X at *
 generalize L.map iD = LD at *
 generalize L.map iR = LR at *
 generalize setOf L = P at *
 have g := hF.1
 have n6 := hO.nm (k := 513006) (by decide)
 have d6 := hO.del (k := 513006) (by decide)
 have f6 := hF.nm (k := 513006) (by decide)
 have n7 := hO.nm (k := 513007) (by decide)
 have d7 := hO.del (k := 513007) (by decide)
 have f7 := hF.nm (k := 513007) (by decide)
 have k1 := hO.kf (f := 513) (by simp)
 have m6 := some_ne hO hm (k := 513006) (by decide)
 have m7 := some_ne hO hm (k := 513007) (by decide)
 have m6' := Ne.symm m6
 have m7' := Ne.symm m7
 have b7 : (mk == 513007) = false := beq_false_of_ne m7
 simp -implicitDefEqProofs (disch := first | omega | (simp [g] <;> fail) | assumption) [hm, g, k1, m6, m7, m6', m7', n6, n7, d6, d7, f6, f7, b7, h1, h2, hof, hal, hlen, hlen2, htk]
end Go.Am
namespace Go.Am
open Go.Proofs Go.Shelf Go.RowKit Go.Sort
theorem cn_push {c k0 : Nat} {o : Obj} {ob : List (Nat × Obj)} (h : Cn c ob) (h1 : k0 < CK) (hn : ∀ k, nmRows k o.rows = true) : Cn c ((k0, o) :: ob) := by
 have hdb : DB = 1000000000000000000 := rfl
 have hck : CK = 900000000000000000 := rfl
 have hne : ∀ k, CK ≤ k → get ((k0, o) :: ob) k = get ob k := fun k hk => by
  simp only [Go.Am.get]; rw [if_neg (by omega)]
 have hnm : ∀ k, nmOb k ob = true → nmOb k ((k0, o) :: ob) = true := fun k h => by simp only [nmOb, hn, h, Bool.and_self]
 refine ⟨?_, h.le, fun i a b => ⟨?_, hnm _ (h.a i a b).2⟩, fun i a b => ⟨?_, hnm _ (h.m i a b).2⟩, hnm _ h.nck⟩
 ·have := h.cnt
  unfold cntOf at this ⊢
  rw [hne _ (Nat.le_refl _)]; exact this
 ·rw [hne _ (by omega)]; exact (h.a i a b).1
 ·rw [hne _ (by omega)]; exact (h.m i a b).1
theorem cn_keep {c lo hi : Nat} {os : List Nat} {ob : List (Nat × Obj)} (h : Cn c ob) (hh : hi ≤ CK) : Cn c (keepF lo hi os ob) := by
 have hdb : DB = 1000000000000000000 := rfl
 have hck : CK = 900000000000000000 := rfl
 have hkt : KT = 18446744073709551616 := KT_eq
 have h0 : ∀ k, hi ≤ k % KT → get (keepF lo hi os ob) k = get ob k := fun k hk => by rw [get_keepK, if_pos (.inr (.inl hk))]
 refine ⟨?_, h.le, fun i a b => ⟨?_, nmOb_keep (h.a i a b).2⟩, fun i a b => ⟨?_, nmOb_keep (h.m i a b).2⟩, nmOb_keep h.nck⟩
 ·have := h.cnt
  unfold cntOf at this ⊢
  rw [h0 _ (by rw [hck, hkt]; omega)]; exact this
 ·rw [h0 _ (by rw [(modDB b).1]; omega)]; exact (h.a i a b).1
 ·rw [h0 _ (by rw [(modDB b).2]; omega)]; exact (h.m i a b).1
theorem HallI.keep {hk : Nat} {wm cm : Option Nat} {qs : List HQ} {cs : List HC} {n : Int} {c lo hi : Nat} {os : List Nat} {ob : List (Nat × Obj)} (h : HallI hk wm cm qs cs n c ob) (hh : hk % KT < lo ∨ hi ≤ hk % KT ∨ hk ∈ os) (hhi : hi ≤ CK) (hc : c ≤ 1000000000) : HallI hk wm cm qs cs n c (keepF lo hi os ob) := by
 have hdb : DB = 1000000000000000000 := rfl
 have hck : CK = 900000000000000000 := rfl
 have hm : ∀ k, MK + DB ≤ k → k < MK + DB + c → get (keepF lo hi os ob) k = get ob k := fun k h1 h2 => by
  obtain ⟨i, rfl⟩ : ∃ i, k = MK + DB + i := ⟨k - (MK + DB), by omega⟩
  rw [get_keepK, if_pos (.inr (.inl (by rw [(modDB (n := i) (by omega)).2]; omega)))]
 have hd : ∀ k, DB ≤ k → k < DB + c → get (keepF lo hi os ob) k = get ob k := fun k h1 h2 => by
  obtain ⟨i, rfl⟩ : ∃ i, k = DB + i := ⟨k - DB, by omega⟩
  rw [get_keepK, if_pos (.inr (.inl (by rw [(modDB (n := i) (by omega)).1]; omega)))]
 refine ⟨by rw [get_keepK, if_pos hh]; exact h.hall, ?_, ?_, h.wk, h.ck, h.wc, fun e he => ?_, h.qb, h.qy, h.qk, h.cb, h.cd, h.hb⟩
 ·obtain ⟨z, h1, h2⟩ := h.wz
  refine ⟨z, ?_, h2⟩
  cases hw : wm with
  | none => rw [hw] at h1; exact h1
  | some k => rw [hw] at h1; have := h.wk k hw; simp only [MapAt] at h1 ⊢; rw [hm k this.1 this.2]; exact h1
 ·obtain ⟨z, h1, h2⟩ := h.cz
  refine ⟨z, ?_, h2⟩
  cases hw : cm with
  | none => rw [hw] at h1; exact h1
  | some k => rw [hw] at h1; have := h.ck k hw; simp only [MapAt] at h1 ⊢; rw [hm k this.1 this.2]; exact h1
 ·obtain ⟨h1, h2, h3, h4⟩ := h.q e he
  exact ⟨by rw [hd _ h2 h3]; exact h1, h2, h3, h4⟩
theorem Stp.drop {O O' : Nat → Prop} {c c' f k0 : Nat} {o : Obj} {os : List Nat} {ob ob2 : List (Nat × Obj)} (h : Stp O O' c c' ((k0, o) :: ob) ob2) (hO : NoO [f] ob) (hf : f < 1000000) (hk : 1000 * f ≤ k0 ∧ k0 < 1000 * f + 1000) (hn : ∀ k, nmRows k o.rows = true) (hO0 : ∀ k, O k → inR [f] k = false) (hc : c' ≤ 1000000000) (hos : k0 ∉ os) (hos2 : ∀ k ∈ os, k < KT) :
  Stp O O' c c' ob (keepF (1000 * f) (1000 * f + 1000) os ob2) ∧ Kf (1000 * f) (1000 * f + 1000) (keepF (1000 * f) (1000 * f + 1000) os ob2) ∧ NoO [f] (keepF (1000 * f) (1000 * f + 1000) os ob2) := by
 have hdb : DB = 1000000000000000000 := rfl
 have hck : CK = 900000000000000000 := rfl
 have hkt : KT = 18446744073709551616 := KT_eq
 have hin : ∀ k, inR [f] k = true ↔ 1000 * f ≤ k % KT ∧ k % KT < 1000 * f + 1000 := fun k => by
  simp only [inR, List.contains_eq_mem, List.mem_singleton, decide_eq_true_eq]; omega
 have hk0 : k0 % KT = k0 := Nat.mod_eq_of_lt (by omega)
 have hnew : ∀ k, New c c' k → inR [f] k = false := fun k hk => by
  rcases hk with ⟨i, _, h2, rfl⟩ | ⟨i, _, h2, rfl⟩
  ·exact (inR_big (fs := [f]) (by simpa using hf) (n := i) (by omega)).1
  ·exact (inR_big (fs := [f]) (by simpa using hf) (n := i) (by omega)).2.1
 have hCK : inR [f] CK = false := (inR_big (fs := [f]) (by simpa using hf) (n := 0) (by omega)).2.2
 have hg : ∀ k, inR [f] k = true → k ≠ k0 → get ob2 k = none := fun k hk hne => by
  rw [h.fr k (fun h => by rw [hO0 k h] at hk; simp at hk) (fun h => by rw [hnew k h] at hk; simp at hk) (by rintro rfl; rw [hCK] at hk; simp at hk)]
  simp only [Go.Am.get]
  rw [if_neg (Ne.symm hne), hO.none hk]
 have hnone : ∀ k, inR [f] k = true → get (keepF (1000 * f) (1000 * f + 1000) os ob2) k = none := fun k hk => by
  rw [get_keepK]
  split
  ·by_cases he : k = k0
   ·subst he
    rename_i hc
    exfalso
    rcases hc with h1 | h1 | h1
    ·omega
    ·omega
    ·exact hos h1
   ·exact hg k hk he
  ·rfl
 have memN : ∀ {l : List (Nat × Obj)} {p : Nat × Obj}, p ∈ l → get l p.1 ≠ none := by
  intro l
  induction l with
  | nil => intro p h; simp at h
  | cons q l ih =>
   intro p h
   simp only [Go.Am.get]
   split
   ·simp
   ·rcases List.mem_cons.1 h with rfl | h
    ·rename_i hne; exact absurd rfl hne
    ·exact ih h
 have hnm1 : ∀ k, ¬ New c c' k → nmOb k ob = true → nmOb k (keepF (1000 * f) (1000 * f + 1000) os ob2) = true := fun k hk h1 => nmOb_keep (h.nm k hk (by simp only [nmOb, hn, h1, Bool.and_self]))
 have hNf : NoO [f] (keepF (1000 * f) (1000 * f + 1000) os ob2) := fun p hp => by
  refine ⟨?_, fun r hr v hv k hk => ?_⟩
  ·cases hp1 : inR [f] p.1 with
   | false => rfl
   | true => exact absurd (hnone p.1 hp1) (memN hp)
  ·have h1 := hnm1 k (fun h => by rw [hnew k h] at hk; simp at hk) (hO.nm hk)
   exact nmRows_iff.1 (nmOb_iff.1 h1 p hp) r hr v hv
 refine ⟨⟨fun k a1 a2 a3 => ?_, h.own, fun fs hfs hno => ?_, hnm1, fun hcn => ?_⟩, hNf.kf (by simp), hNf⟩
 ·cases hk1 : inR [f] k with
  | true => rw [hnone k hk1, hO.none hk1]
  | false =>
   have hne : k ≠ k0 := by
    rintro rfl
    have := (hin k).2 (by rw [hk0]; exact hk)
    rw [hk1] at this; simp at this
   have hc : k % KT < 1000 * f ∨ 1000 * f + 1000 ≤ k % KT := by
    rcases Nat.lt_or_ge (k % KT) (1000 * f) with h1 | h1
    ·exact .inl h1
    ·refine .inr (Nat.not_lt.1 fun h2 => ?_)
     have := (hin k).2 ⟨h1, h2⟩
     rw [hk1] at this; simp at this
   rw [get_keepK, if_pos (hc.imp id .inl), h.fr k a1 a2 a3]
   simp only [Go.Am.get]
   rw [if_neg (Ne.symm hne)]
 ·
  have hfs' : NoO (fs.filter (· != f)) ((k0, o) :: ob) := by
   refine noO_cons.2 ⟨?_, fun j _ => hn j, hno.mono fun g hg => (List.mem_filter.1 hg).1⟩
   simp only [inR, List.contains_eq_mem, decide_eq_false_iff_not, List.mem_filter, not_and]
   intro _ hne
   have : k0 % KT / 1000 = f := by omega
   exact absurd this (by simpa using hne)
  have h2 := h.no _ (fun g hg => hfs g (List.mem_filter.1 hg).1) hfs'
  intro p hp
  obtain ⟨q1, q2⟩ := h2 p (mem_keepF hp)
  obtain ⟨q3, q4⟩ := hNf p hp
  have hsp : ∀ k, inR fs k = true → inR (fs.filter (· != f)) k = true ∨ inR [f] k = true := fun k hk => by
   simp only [inR, List.contains_eq_mem, decide_eq_true_eq, List.mem_filter, List.mem_singleton] at hk ⊢
   by_cases he : k % KT / 1000 = f
   ·exact .inr he
   ·exact .inl ⟨hk, by simpa using he⟩
  refine ⟨?_, fun r hr v hv k hk => (hsp k hk).elim (q2 r hr v hv k) (q4 r hr v hv k)⟩
  cases hp1 : inR fs p.1 with
  | false => rfl
  | true => rcases hsp _ hp1 with h | h <;> simp_all
 ·exact cn_keep (h.cn (cn_push hcn (by omega) hn)) (by omega)
theorem keepF_nil {lo hi : Nat} {ob : List (Nat × Obj)} (h : Kf lo hi ob) : keepF lo hi [] ob = ob := h []
theorem hallQs_of {hk : Nat} {wm cm : Option Nat} {qs : List HQ} {cs : List HC} {n : Int} {c : Nat} {ob : List (Nat × Obj)} (h : HallI hk wm cm qs cs n c ob) : hallQs hk ob = some (wm, qs) := by
 have hh := h.hall
 obtain ⟨z, hz, _⟩ := h.wz
 unfold hallQs
 cases hw : wm with
 | none =>
  rw [hw] at hh hz
  have : qs = [] := by simpa [MapAt] using hz
  simp only [hh, mapV, this]
 | some K =>
  rw [hw] at hh hz
  have hz : get ob K = some ⟨z, qs.map HQ.row⟩ := hz
  simp only [hh, mapV, hz, gHQs_map fun e he => (h.q e he).1, Option.map_some]
theorem hallCs_ofI {hk key : Nat} {wm cm : Option Nat} {qs : List HQ} {cs : List HC} {n : Int} {c : Nat} {ob : List (Nat × Obj)} (h : HallI hk wm cm qs cs n c ob) (hne : ¬ hk = key) : hallCs key hk ob = some cs := by
 have hh := h.hall
 obtain ⟨z, hz, _⟩ := h.cz
 unfold hallCs
 rw [if_neg hne]
 cases hw : cm with
 | none =>
  rw [hw] at hh hz
  have : cs = [] := by simpa [MapAt] using hz
  simp only [hh, mapV, this]
 | some K =>
  rw [hw] at hh hz
  have hz : get ob K = some ⟨z, cs.map HC.row⟩ := hz
  simp only [hh, mapV, hz, gHCs_map]
theorem wait_at {hk : Nat} {wm cm : Option Nat} {qs : List HQ} {cs : List HC} {n : Int} {c : Nat} {gs : List (Nat × AV)} {ob : List (Nat × Obj)} (h : HallI hk wm cm qs cs n c ob) (hO : NoO [514] ob) (hF : NoF [514] gs) (hl : (allW qs).length ≤ 200000) (hl2 : qs.length ≤ 200000) (hn : noTies ltId ((allW qs).map w4L) = true) {R : List W4} (hR : resF ltId ((allW qs).map w4L) = R.map w4L) :
  frzPt waitPt ⟨(0, .loc hk 0 0) :: gs, ob⟩ = some ([.c (.vs 4 (R.map w4D))], ob) := by
 have hk1 := keepF_nil (hO.kf (f := 514) (by simp))
 have hlen : R.length = (allW qs).length := by
  have := (resF_perm (lt := ltId) (swo_cmpInt _) ((allW qs).map w4L)).length_eq
  rw [hR] at this; simpa using this
 have n3 : nmFr 514003 ((0, .loc hk 0 0) :: gs) = true := by
  have h1 := hF.nm (k := 514003) (by decide)
  have h2 := hall_ne hO h (k := 514003) (by decide)
  simp only [nmFr, h1, names_loc, Bool.and_true]; simp [h2]
 have ni : nmFr 2923003274661805836407369665432566039311865599962 ((0, .loc hk 0 0) :: gs) = true := by
  have h1 := hF.nm (k := 2923003274661805836407369665432566039311865599962) (by decide)
  have h2 := hall_ne hO h (k := 2923003274661805836407369665432566039311865599962) (by decide)
  simp only [nmFr, h1, names_loc, Bool.and_true]; simp [h2]
 have hq : waitQs ⟨(0, .loc hk 0 0) :: gs, ob⟩ = some qs := by
  simp only [waitQs, Go.Am.get, if_true, obW, hk1, hallQs_of h, Option.map_some]
 have hw : waitPt ⟨(0, .loc hk 0 0) :: gs, ob⟩ = some ([.sl 514003 (allW qs).length 0 (allW qs).length], (514003, ⟨4, (resF ltId ((allW qs).map w4L)).map rowI⟩) :: ob) := by
  unfold waitPt
  rw [hq]
  have hb := nodupB_iff.2 h.qb
  have o3 := hO.nm (k := 514003) (by decide)
  have oi := hO.nm (k := 2923003274661805836407369665432566039311865599962) (by decide)
  simp only [hb, hl, hl2, hn, waitSide, obW, hk1, n3, ni, o3, oi, decide_true, Bool.and_self, if_true]
 unfold frzPt
 rw [hw, hR, ← w4R_rowI, ← hlen]
 have hall : allRows (R.map w4R) = some (R.map w4D) := allRows_comp w4D R
 have d3 := hO.del (k := 514003) (by decide)
 have htk : List.take R.length (R.map w4D) = R.map w4D := List.take_of_length_le (by simp)
 simp [St.frzs, St.frz, St.view, Go.Am.get, hall, kill, Am.del, d3, htk]
theorem calls_at {hk : Nat} {wm cm : Option Nat} {qs : List HQ} {cs : List HC} {n : Int} {c : Nat} {gs : List (Nat × AV)} {ob : List (Nat × Obj)} (h : HallI hk wm cm qs cs n c ob) (hO : NoO [516] ob) (hF : NoF [516] gs) (hl : cs.length ≤ 200000) (hn : noTies (ltN cs) (cs.map cL) = true) {R : List K3} (hR : outC cs cs = R.map fun k => toAV (k3D k)) (hRl : R.length = cs.length) :
  frzPt callsPt ⟨(0, .loc hk 0 0) :: gs, ob⟩ = some ([.c (.vs 3 (R.map k3D))], ob) := by
 have hkf := hO.kf (f := 516) (by simp)
 have hk1 := keepF_nil hkf
 have hnk : noKeys 516000 517000 ob = true := List.all_eq_true.2 fun p hp => by
  have := kf_iff.1 hkf p hp
  simp only [Bool.or_eq_true, decide_eq_true_eq]; exact this
 have hq : callsCs ⟨(0, .loc hk 0 0) :: gs, ob⟩ = some cs := by
  simp only [callsCs, Go.Am.get, if_true, obC, hk1, hallCs_ofI h (hall_ne hO h (k := 516003) (by decide))]
 have hs : callsSide ⟨(0, .loc hk 0 0) :: gs, ob⟩ = true := by
  simp only [callsSide, Bool.and_eq_true, hnk, true_and, List.all_eq_true, obC, hk1]
  have hin : ∀ k ∈ ownC, inR [516] k = true := by decide
  intro k hk
  refine ⟨?_, hO.nm (hin k hk)⟩
  have h2 := hall_ne hO h (hin k hk)
  simp only [nmFr, hF.nm (hin k hk), names_loc, Bool.and_true]; simp [h2]
 have hw : callsPt ⟨(0, .loc hk 0 0) :: gs, ob⟩ = some ([.sl 516005 cs.length 0 cs.length], (516005, ⟨3, outC cs cs⟩) :: ob) := by
  unfold callsPt
  rw [hq]
  have hb := nodupB_iff.2 h.cb
  simp only [hb, hl, hn, hs, obC, hk1, decide_true, Bool.and_self, if_true]
 unfold frzPt
 rw [hw, hR, ← hRl]
 have hall : allRows (R.map fun k => toAV (k3D k)) = some (R.map k3D) := allRows_comp k3D R
 have d3 := hO.del (k := 516005) (by decide)
 have htk : List.take R.length (R.map k3D) = R.map k3D := List.take_of_length_le (by simp)
 generalize R.map (fun k => toAV (k3D k)) = LR at *
 have hlr : LR.length = R.length := by
  have : ∀ {r : Rows} {d : List (List D)}, allRows r = some d → r.length = d.length := by
   intro r
   induction r with
   | nil => intro d h; simp only [allRows, Option.some.injEq] at h; subst h; rfl
   | cons x r ih =>
    intro d h
    simp only [allRows] at h
    split at h
    ·rename_i y l _ h2
     simp only [Option.some.injEq] at h; subst h
     simp [ih h2]
    ·simp at h
  rw [this hall]; simp
 simp [St.frzs, St.frz, St.view, Go.Am.get, hall, kill, Am.del, d3, htk, hlr]
theorem lands_at {hk : Nat} {wm cm : Option Nat} {qs : List HQ} {cs : List HC} {n car dir : Int} {c : Nat} {gs : List (Nat × AV)} {ob : List (Nat × Obj)} (h : HallI hk wm cm qs cs n c ob) (hO : NoO [518] ob) (hF : NoF [518] gs) (hl : cs.length ≤ 200000) (hl2 : qs.length ≤ 200000) :
  landsPt ⟨(0, .loc hk 0 0) :: (1, i64 car) :: (2, i64 dir) :: gs, ob⟩ = some ([setA (setOf (selC car dir cs ++ selQ car dir qs))], ob) := by
 have hkf := hO.kf (f := 518) (by simp)
 have hnk : noKeys 518000 519000 ob = true := List.all_eq_true.2 fun p hp => by
  have := kf_iff.1 hkf p hp
  simp only [Bool.or_eq_true, decide_eq_true_eq]; exact this
 have hq : landsIn ⟨(0, .loc hk 0 0) :: (1, i64 car) :: (2, i64 dir) :: gs, ob⟩ = some (car, dir, cs, qs) := by
  have e1 := hallCs_ofI h (hall_ne hO h (k := 518006) (by decide))
  have e2 := hallQs_of h
  simp [landsIn, Go.Am.get, e1, e2]
 have hs : landsSide ⟨(0, .loc hk 0 0) :: (1, i64 car) :: (2, i64 dir) :: gs, ob⟩ = true := by
  simp only [landsSide, Bool.and_eq_true, hnk, true_and, List.all_eq_true]
  have hin : ∀ k ∈ ownL, inR [518] k = true := by decide
  intro k hk
  refine ⟨?_, hO.nm (hin k hk)⟩
  have h2 := hall_ne hO h (hin k hk)
  simp only [nmFr, hF.nm (hin k hk), names_loc, names_c, Bool.and_true]; simp [h2]
 unfold landsPt
 rw [hq]
 have hb := nodupB_iff.2 h.qb
 have hb2 := nodupB_iff.2 h.cb
 simp only [hb, hb2, hl, hl2, hs, decide_true, Bool.and_self, if_true]
end Go.Am
namespace Go.Am
open Go.Proofs Go.Shelf Go.RowKit Go.Sort
def NmS (fs : List Nat) (v : AV) : Prop := ∀ k, inR fs k = true → v.names k = false
theorem nmS_c (fs : List Nat) (d : D) : NmS fs (.c d) := nms_c
theorem nmS_agg (fs : List Nat) (ds : List D) : NmS fs (.agg ds) := nms_agg
theorem nmS_loc (fs : List Nat) (j a b : Nat) (h : inR fs j = false) : NmS fs (.loc j a b) := nms_loc h
theorem nmS_tup (fs : List Nat) : NmS fs (.tup []) := fun k hk => by simp
theorem nmS_vp (fs : List Nat) (r : List D) (o : Nat) : NmS fs (.vp r o) := fun k hk => by simp
theorem nmS_nil (fs : List Nat) (z : Nat) : NmS fs (.nil z) := fun k hk => by simp
theorem nmS_ot (fs : List Nat) (x : Oth) : NmS fs (.ot x) := fun k hk => by simp
theorem noF_c {fs : List Nat} {i : Nat} {v : AV} {gs : List (Nat × AV)} : NoF fs ((i, v) :: gs) ↔ 100000 ≤ i ∧ NmS fs v ∧ NoF fs gs := noF_cons
structure XS where
 l : List W4
 cs : List K3
 came : Int
def tri (e : HC) : K3 := (e.f, e.d, e.c)
structure Rl (x : XS) (qs : List HQ) (cs : List HC) (n : Int) : Prop where
 wt : ∀ k, wait qs k = x.l.filter fun w => decide (keyW w = k)
 ids : x.l.Pairwise fun a b => a.1 < b.1
 idl : ∀ w ∈ x.l, w.1 < x.came
 cl : cs.map tri = x.cs
 ns : cs.Pairwise fun a b => a.n < b.n
 nl : ∀ e ∈ cs, e.n ≤ n
theorem resF_of {lt : List Int → List Int → Bool} (hO : SWO lt) {s l : List (List Int)} (hs : s.Pairwise fun a b => lt a b = true) (hp : s.Perm l) : noTies lt l = true ∧ resF lt l = s := by
 have tot : ∀ x ∈ s, ∀ y ∈ s, lt x y = true ∨ lt y x = true ∨ x = y := by
  induction s generalizing l with
  | nil => intro x hx; simp at hx
  | cons a s ih =>
   have h1 := List.pairwise_cons.1 hs
   intro x hx y hy
   rcases List.mem_cons.1 hx with rfl | hx'
   ·rcases List.mem_cons.1 hy with rfl | hy'
    ·exact .inr (.inr rfl)
    ·exact .inl (h1.1 y hy')
   ·rcases List.mem_cons.1 hy with rfl | hy'
    ·exact .inr (.inl (h1.1 x hx'))
    ·exact ih (l := s) h1.2 (.refl _) x hx' y hy'
 have hn : noTies lt l = true := by
  unfold noTies
  rw [List.all_eq_true]
  intro x hx
  rw [List.all_eq_true]
  intro y hy
  rcases tot x (hp.mem_iff.2 hx) y (hp.mem_iff.2 hy) with h | h | h
  ·simp [h]
  ·simp [h]
  ·simp [h]
 refine ⟨hn, ?_⟩
 refine sortedL_unique hO (resF_sorted hO l) (hs.imp fun h => swo_asym hO h) ((resF_perm hO l).trans hp.symm) fun x hx y hy h1 h2 => ?_
 have hx' := hp.mem_iff.2 ((resF_perm hO l).mem_iff.1 hx)
 have hy' := hp.mem_iff.2 ((resF_perm hO l).mem_iff.1 hy)
 rcases tot x hx' y hy' with h | h | h
 ·rw [h1] at h; simp at h
 ·rw [h2] at h; simp at h
 ·exact h
theorem wait_self {qs : List HQ} (hk : (qs.map (·.k)).Nodup) {e : HQ} (he : e ∈ qs) : wait qs e.k = e.l := by
 induction qs with
 | nil => simp at he
 | cons x qs ih =>
  rw [List.map_cons, List.nodup_cons] at hk
  simp only [wait]
  rcases List.mem_cons.1 he with rfl | he
  ·rw [if_pos rfl]
  ·rw [if_neg (fun h => hk.1 (List.mem_map.2 ⟨e, he, h.symm⟩)), ih hk.2 he]
theorem wait_mem {qs : List HQ} {k : K3} (h : wait qs k ≠ []) : ∃ e ∈ qs, e.k = k := by
 induction qs with
 | nil => exact absurd rfl h
 | cons x qs ih =>
  simp only [wait] at h
  split at h
  ·rename_i hx; exact ⟨x, by simp, hx⟩
  ·obtain ⟨e, he, hk⟩ := ih h; exact ⟨e, by simp [he], hk⟩
theorem perm_all : ∀ (qs : List HQ) (l : List W4), (∀ w ∈ l, ∃ e ∈ qs, e.k = keyW w) → (∀ e ∈ qs, e.l = l.filter fun w => decide (keyW w = e.k)) → (qs.map (·.k)).Nodup → l.Perm (allW qs)
 | [], l, h1, _, _ => by
  cases l with
  | nil => simp [allW]
  | cons w l => obtain ⟨e, he, _⟩ := h1 w (by simp); simp at he
 | e :: qs, l, h1, h2, h3 => by
  rw [List.map_cons, List.nodup_cons] at h3
  have hsplit : l.Perm ((l.filter fun w => decide (keyW w = e.k)) ++ l.filter fun w => !decide (keyW w = e.k)) := (List.filter_append_perm _ l).symm
  have ih := perm_all qs (l.filter fun w => !decide (keyW w = e.k)) (fun w hw => by
   obtain ⟨hw, hne⟩ := List.mem_filter.1 hw
   obtain ⟨f, hf, hk⟩ := h1 w hw
   rcases List.mem_cons.1 hf with rfl | hf
   ·simp [hk] at hne
   ·exact ⟨f, hf, hk⟩) (fun f hf => by
   rw [h2 f (List.mem_cons_of_mem _ hf), List.filter_filter]
   refine List.filter_congr fun w hw => ?_
   by_cases hk : keyW w = f.k
   ·have : ¬ keyW w = e.k := fun he => h3.1 (List.mem_map.2 ⟨f, hf, by rw [← hk, he]⟩)
    simp [hk]
    intro h
    exact this (by rw [hk, h])
   ·simp [hk]) h3.2
  have he : allW (e :: qs) = e.l ++ allW qs := by simp [allW]
  rw [he, h2 e (by simp)]
  exact hsplit.trans (ih.append_left _)
theorem Rl.perm {x : XS} {qs : List HQ} {cs : List HC} {n : Int} (h : Rl x qs cs n) (hk : (qs.map (·.k)).Nodup) : x.l.Perm (allW qs) := by
 refine perm_all qs x.l (fun w hw => ?_) (fun e he => ?_) hk
 ·refine wait_mem fun h0 => ?_
  rw [h.wt] at h0
  have := List.filter_eq_nil_iff.1 h0 w hw
  simp at this
 ·rw [← wait_self hk he, h.wt]
theorem qs_len {qs : List HQ} (h : ∀ e ∈ qs, e.l ≠ []) : qs.length ≤ (allW qs).length := by
 induction qs with
 | nil => simp
 | cons e qs ih =>
  have h1 := ih fun f hf => h f (List.mem_cons_of_mem _ hf)
  have h2 := List.length_pos_iff.2 (h e (by simp))
  have : allW (e :: qs) = e.l ++ allW qs := by simp [allW]
  rw [this, List.length_append, List.length_cons]; omega
theorem Rl.sorted {x : XS} {qs : List HQ} {cs : List HC} {n : Int} (h : Rl x qs cs n) (hk : (qs.map (·.k)).Nodup) : noTies ltId ((allW qs).map w4L) = true ∧ resF ltId ((allW qs).map w4L) = x.l.map w4L := by
 refine resF_of (swo_cmpInt _) ?_ ((h.perm hk).map w4L)
 rw [List.pairwise_map]
 refine h.ids.imp fun {a b} hab => ?_
 show ltOf (fun (x y : List Int) => Lib.compareInt (x.getD 0 0) (y.getD 0 0)) _ _ = true
 rw [lt_cmpInt]
 simpa [w4L] using hab
theorem findC_self {cs : List HC} (hd : (cs.map fun e => (e.f, e.d)).Nodup) {e : HC} (he : e ∈ cs) (i : Nat) : ∃ j, findC cs e.f e.d i = some (j, e) := by
 induction cs generalizing i with
 | nil => simp at he
 | cons x cs ih =>
  rw [List.map_cons, List.nodup_cons] at hd
  simp only [findC]
  rcases List.mem_cons.1 he with rfl | he
  ·exact ⟨i, by rw [if_pos ⟨rfl, rfl⟩]⟩
  ·rw [if_neg (fun h => hd.1 (List.mem_map.2 ⟨e, he, by rw [h.1, h.2]⟩))]
   exact ih hd.2 he (i + 1)
theorem nOf_self {cs : List HC} (hd : (cs.map fun e => (e.f, e.d)).Nodup) {e : HC} (he : e ∈ cs) : nOf cs (cL e) = e.n ∧ cOf cs (cL e) = e.c := by
 obtain ⟨j, hj⟩ := findC_self hd he 0
 have h1 : (cL e).getD 0 0 = e.f := rfl
 have h2 : (cL e).getD 1 0 = e.d := rfl
 unfold nOf cOf
 rw [h1, h2, hj]
 exact ⟨rfl, rfl⟩
theorem Rl.calls {x : XS} {qs : List HQ} {cs : List HC} {n : Int} (h : Rl x qs cs n) (hd : (cs.map fun e => (e.f, e.d)).Nodup) : noTies (ltN cs) (cs.map cL) = true ∧ outC cs cs = x.cs.map fun k => toAV (k3D k) := by
 have hp : (cs.map cL).Pairwise fun a b => ltN cs a b = true := by
  rw [List.pairwise_map]
  refine (List.Pairwise.and_mem.1 h.ns).imp fun {a b} hab => ?_
  obtain ⟨ha, hb, hlt⟩ := hab
  show ltOf (fun x y => Lib.compareInt (nOf cs x) (nOf cs y)) _ _ = true
  rw [lt_cmpInt, (nOf_self hd ha).1, (nOf_self hd hb).1]
  simpa using hlt
 obtain ⟨h1, h2⟩ := resF_of (lt := ltN cs) (swo_cmpInt _) hp (.refl _)
 refine ⟨h1, ?_⟩
 unfold outC
 rw [h2, ← h.cl, List.map_map, List.map_map]
 refine List.map_congr_left fun e he => ?_
 simp only [Function.comp, (nOf_self hd he).2, tri, k3D, toAV, List.map_cons, List.map_nil]
 rfl
theorem findX_map (f d : Int) : ∀ (cs : List HC) (j : Nat), findX (cs.map tri) f d j = match findC cs f d j with | some (i, _) => (i : Int) | none => -1
 | [], j => rfl
 | e :: cs, j => by
  simp only [List.map_cons, findX, findC, tri]
  by_cases h : e.f = f ∧ e.d = d
  ·rw [if_pos h, if_pos h]
  ·rw [if_neg h, if_neg h]
   have := findX_map f d cs (j + 1)
   rw [show ((j : Int) + 1) = ((j + 1 : Nat) : Int) by omega]
   exact this
theorem selC_tri (car dir : Int) (cs : List HC) : selC car dir cs = selX car dir (cs.map tri) := by
 unfold selC selX
 rw [List.filter_map, List.map_map]
 rfl
theorem Rl.lands {x : XS} {qs : List HQ} {cs : List HC} {n : Int} (h : Rl x qs cs n) (hk : (qs.map (·.k)).Nodup) (hne : ∀ e ∈ qs, e.l ≠ []) (car dir : Int) : setOf (selC car dir cs ++ selQ car dir qs) = setOf (selX car dir x.cs ++ selY car dir x.l) := by
 rw [selC_tri, h.cl]
 have hm : ∀ m : Int, m ∈ selQ car dir qs ↔ m ∈ selY car dir x.l := by
  intro m
  unfold selQ selY
  simp only [List.mem_map, List.mem_filter, Bool.and_eq_true, decide_eq_true_eq]
  constructor
  ·rintro ⟨e, ⟨he, ⟨h1, h2⟩, h3⟩, rfl⟩
   have hl := wait_self hk he
   rw [h.wt] at hl
   obtain ⟨w, hw⟩ := List.exists_mem_of_ne_nil _ (hne e he)
   rw [← hl] at hw
   obtain ⟨hw, hkw⟩ := List.mem_filter.1 hw
   have hkw : keyW w = e.k := by simpa using hkw
   refine ⟨w, ⟨hw, ⟨?_, h3⟩, ?_⟩, ?_⟩
   ·rw [← h1, ← hkw]; rfl
   ·rw [← h2, ← hkw]; rfl
   ·rw [← hkw]; rfl
  ·rintro ⟨w, ⟨hw, ⟨h1, h3⟩, h2⟩, rfl⟩
   obtain ⟨e, he, hek⟩ := wait_mem (qs := qs) (k := keyW w) fun h0 => by
    rw [h.wt] at h0
    have := List.filter_eq_nil_iff.1 h0 w hw
    simp at this
   refine ⟨e, ⟨he, ⟨?_, ?_⟩, h3⟩, ?_⟩
   ·rw [hek]; exact h1
   ·rw [hek]; exact h2
   ·rw [hek]; rfl
 funext m
 unfold setOf
 rw [List.any_append, List.any_append]
 congr 1
 rw [Bool.eq_iff_iff, List.any_eq_true, List.any_eq_true]
 exact ⟨fun ⟨y, hy, he⟩ => ⟨y, (hm y).1 hy, he⟩, fun ⟨y, hy, he⟩ => ⟨y, (hm y).2 hy, he⟩⟩
end Go.Am
namespace Go.Am
def RowF29C (g : St → Option (List AV × List (Nat × Obj))) : Prop := ∀ (mk : Nat) (lv cv : AV) (n : Int) (l : List W4) (k : K3) gs ob, NoO [522] ob → NoF [522] gs → get ob mk = some ⟨3, [[lv, cv, i64 n]]⟩ → LV 4 (l.map w4D) lv → l.length ≤ 1000 →
 g ⟨(0, .loc mk 0 0) :: (1, .agg (k3D k)) :: gs, ob⟩ = some ([.c (.vs 1 ((idxs l k 0).map iD))], ob)
theorem row_frz {g : St → Option (List AV × List (Nat × Obj))} (h : Row29C g) : RowF29C (frzPt g) := by
 intro mk lv cv n l k gs ob hO hF hm hlv hl
 unfold frzPt
 rw [h mk lv cv n l k gs ob hO hF hm hlv hl]
 have hal : ∀ l : List Int, allRows (l.map iR) = some (l.map iD) := fun l => allRows_comp iD l
 have hal := hal (idxs l k 0)
 have d3 := hO.del (k := 522005) (by decide)
 generalize idxs l k 0 = I at *
 have hlen : (I.map iR).length = I.length := List.length_map _
 have htk : List.take I.length (I.map iD) = I.map iD := List.take_of_length_le (by simp)
 generalize I.map iR = IR at *
 simp [St.frzs, St.frz, St.view, Go.Am.get, hal, kill, Am.del, d3, htk, hlen]
theorem idxs_nil {k : K3} : ∀ {l : List W4} {i : Int}, idxs l k i = [] → (l.filter fun w => decide (keyW w = k)) = []
 | [], i, _ => rfl
 | w :: l, i, h => by
  simp only [idxs] at h
  split at h
  ·simp at h
  ·rename_i hw
   rw [List.filter_cons, if_neg (by simpa using hw)]
   exact idxs_nil h
theorem idxs_cons {k : K3} : ∀ {l : List W4} {i j : Int} {r : List Int}, idxs l k i = j :: r → ∃ a w b, l = a ++ w :: b ∧ j = i + a.length ∧ (l.filter fun w => decide (keyW w = k)) = w :: (b.filter fun w => decide (keyW w = k)) ∧ keyW w = k ∧ ∀ u ∈ a, ¬ keyW u = k
 | [], i, j, r, h => by simp [idxs] at h
 | w :: l, i, j, r, h => by
  simp only [idxs] at h
  split at h
  ·rename_i hw
   simp only [List.cons.injEq] at h
   exact ⟨[], w, l, rfl, by simp [h.1], by rw [List.filter_cons, if_pos (by simpa using hw)], hw, by simp⟩
  ·rename_i hw
   obtain ⟨a, u, b, h1, h2, h3, h4, h5⟩ := idxs_cons h
   refine ⟨w :: a, u, b, by rw [h1]; rfl, by rw [h2, List.length_cons]; omega, by rw [List.filter_cons, if_neg (by simpa using hw), h3], h4, fun v hv => ?_⟩
   rcases List.mem_cons.1 hv with rfl | hv
   ·exact hw
   ·exact h5 v hv
def toldA : AC := .draw r505_5q [] [] r505_5
def toldB : AC := .draw r505_7q [] [] r505_7
abbrev toldO (k : K3) (w : W4) (ob : List (Nat × Obj)) : List (Nat × Obj) := (505008, ⟨4, [w4R w]⟩) :: (505005, ⟨3, [toAV (k3D k)]⟩) :: ob
theorem toldA_run (Γ : Env) (M : Nat) (lv cv : AV) (came : Int) (l : List W4) (cs : List K3) (k : K3) (W : List W4) (I : List Int) (i c : Int) (is : Bool) (gs : List (Nat × AV)) (ob : List (Nat × Obj)) (g : Gh gs) (hm : get ob 13 = some ⟨3, [[lv, cv, i64 came]]⟩) (hlv : LV 4 (l.map w4D) lv) (hcv : LV 3 (cs.map k3D) cv)
  (hLen : ∀ fr, NoF [525] fr → Γ.pt 525 ⟨(0, .loc 11 0 0) :: (1, .agg (k3D k)) :: fr, toldO k (hd0 W) ob⟩ = some ([i64 W.length], toldO k (hd0 W) ob)) (hF : NoF [525] gs)
  (hI : I.length = W.length) (hW : ∀ w r, W = w :: r → ∃ (j : Nat) (I' : List Int), I = (j : Int) :: I' ∧ (l.map w4D)[j]? = some (w4D w)) (hl : l.length ≤ 1000)
  (hi : is = decide (0 ≤ i)) (hi2 : is = false → c = 0) (hi3 : is = true → ∃ (j : Nat) (e : K3), i = j ∧ (cs.map k3D)[j]? = some (k3D e) ∧ e.2.2 = c) :
  (exec Γ M toldA ⟨(0, .loc 13 0 0) :: (1, .loc 11 0 0) :: (5, .loc 505005 0 0) :: (7, .c (.vs 1 (I.map iD))) :: (8, .loc 505008 0 0) :: (9, bo (decide (W ≠ []))) :: (10, i64 i) :: (11, i64 c) :: (12, bo is) :: gs, toldO k (hd0 W) ob⟩).map (fun p => (p.1, get p.2.fr 0, get p.2.fr 1, get p.2.fr 5, get p.2.fr 103, ghs p.2.fr, p.2.ob)) = some (.norm, some (.loc 13 0 0), some (.loc 11 0 0), some (.loc 505005 0 0), some (bo false), gs, toldO k (hd0 W) ob) := by
 have hFg := hF.gho
 simp only [k3D] at hLen
 unfold toldO at *
 simp only [w4R, w4D, toAV, k3D, List.map_cons, List.map_nil] at hLen ⊢
 have hpI : ∀ (x : Int) (xs : List Int), ((x :: xs).map iD) = [.int .i64 x] :: xs.map iD := fun _ _ => rfl
 have hcvs : is = true → ∀ (j : Nat) (e : K3), (cs.map k3D)[j]? = some (k3D e) → cv = .c (.vs 3 (cs.map k3D)) := fun _ j e hj => by
  rcases hcv with h | ⟨h, _⟩
  ·exact h
  ·rw [h] at hj; simp at hj
 cases W with
 | nil =>
  have hI0 : I = [] := List.eq_nil_of_length_eq_zero (by simpa using hI)
  subst hI0
  simp only [hd0] at hLen ⊢
  cases is with
  | false =>
   have hi0 : ¬ 0 ≤ i := by simpa using hi
   have hc := hi2 rfl
   subst hc
   simp -implicitDefEqProofs (disch := first | omega | (simp [g] <;> fail) | (simp [noF_c, nmS_c, nmS_agg, nmS_loc, nmS_tup, nmS_vp, nmS_nil, nmS_ot, inR, hFg] <;> fail) | assumption) [toldA, g, hm, hLen, hi0]
  | true =>
   have hi0 : 0 ≤ i := by simpa using hi
   obtain ⟨j, e, rfl, hj, hec⟩ := hi3 rfl
   have hcv := hcvs rfl j e hj
   subst hcv
   have hj2 : ∀ h, (cs.map k3D)[j]'h = k3D e := fun h => by rw [List.getElem?_eq_getElem h] at hj; simpa using hj
   have hjl : j < cs.length := by have := (List.getElem?_eq_some_iff.1 hj).1; simpa using this
   obtain ⟨e1, e2, e3⟩ := e
   simp only at hec
   subst hec
   simp -implicitDefEqProofs (disch := first | omega | (simp [g] <;> fail) | (simp [noF_c, nmS_c, nmS_agg, nmS_loc, nmS_tup, nmS_vp, nmS_nil, nmS_ot, inR, hFg] <;> fail) | assumption) [toldA, g, hm, hLen, hi0, hj, hj2, hjl, k3D]
 | cons w r =>
  obtain ⟨q, I', rfl, hq⟩ := hW w r rfl
  have hlv : lv = .c (.vs 4 (l.map w4D)) := by
   rcases hlv with h | ⟨h, _⟩
   ·exact h
   ·rw [h] at hq; simp at hq
  subst hlv
  have hq2 : ∀ h, (l.map w4D)[q]'h = w4D w := fun h => by rw [List.getElem?_eq_getElem h] at hq; simpa using hq
  have hql : q < l.length := by have := (List.getElem?_eq_some_iff.1 hq).1; simpa using this
  have hI : I'.length = r.length := by simpa using hI
  have hlenI : (I'.map iD).length = r.length := by rw [List.length_map, hI]
  rw [hpI]
  generalize I'.map iD = IR at *
  obtain ⟨w1, w2, w3, w4⟩ := w
  simp only [hd0] at hLen ⊢
  cases is with
  | false =>
   have hi0 : ¬ 0 ≤ i := by simpa using hi
   have hc := hi2 rfl
   subst hc
   simp -implicitDefEqProofs (disch := first | omega | (simp [g] <;> fail) | (simp [noF_c, nmS_c, nmS_agg, nmS_loc, nmS_tup, nmS_vp, nmS_nil, nmS_ot, inR, hFg] <;> fail) | assumption) [toldA, g, hm, hLen, hi0, hq, hq2, hql, hlenI, w4D]
  | true =>
   have hi0 : 0 ≤ i := by simpa using hi
   obtain ⟨j, e, rfl, hj, hec⟩ := hi3 rfl
   have hcv := hcvs rfl j e hj
   subst hcv
   have hj2 : ∀ h, (cs.map k3D)[j]'h = k3D e := fun h => by rw [List.getElem?_eq_getElem h] at hj; simpa using hj
   have hjl : j < cs.length := by have := (List.getElem?_eq_some_iff.1 hj).1; simpa using this
   obtain ⟨e1, e2, e3⟩ := e
   simp only at hec
   subst hec
   simp -implicitDefEqProofs (disch := first | omega | (simp [g] <;> fail) | (simp [noF_c, nmS_c, nmS_agg, nmS_loc, nmS_tup, nmS_vp, nmS_nil, nmS_ot, inR, hFg] <;> fail) | assumption) [toldA, g, hm, hLen, hi0, hj, hj2, hjl, k3D, hq, hq2, hql, hlenI, w4D]
end Go.Am
namespace Go.Am
theorem toldB_run (Γ : Env) (M : Nat) (lv cv : AV) (came : Int) (l : List W4) (cs : List K3) (k : K3) (P : Nat → Bool) (gs : List (Nat × AV)) (ob : List (Nat × Obj)) (hm : get ob 13 = some ⟨3, [[lv, cv, i64 came]]⟩) (hlv : LV 4 (l.map w4D) lv) (hcv : LV 3 (cs.map k3D) cv)
  (hWt : ∀ fr, NoF [514] fr → Γ.pt 514 ⟨(0, .loc 11 0 0) :: fr, (505005, ⟨3, [toAV (k3D k)]⟩) :: ob⟩ = some ([.c (.vs 4 (l.map w4D))], (505005, ⟨3, [toAV (k3D k)]⟩) :: ob))
  (hCs : ∀ fr, NoF [516] fr → Γ.pt 516 ⟨(0, .loc 11 0 0) :: fr, (505005, ⟨3, [toAV (k3D k)]⟩) :: ob⟩ = some ([.c (.vs 3 (cs.map k3D))], (505005, ⟨3, [toAV (k3D k)]⟩) :: ob))
  (hLa : ∀ fr, NoF [518] fr → Γ.pt 518 ⟨(0, .loc 11 0 0) :: (1, i64 k.2.2) :: (2, i64 k.2.1) :: fr, (505005, ⟨3, [toAV (k3D k)]⟩) :: ob⟩ = some ([setA P], (505005, ⟨3, [toAV (k3D k)]⟩) :: ob))
  (hLm : ∀ fr, NoF [513] fr → Γ.pt 513 ⟨(0, .loc 13 0 0) :: (1, i64 k.2.2) :: (2, i64 k.2.1) :: fr, (505005, ⟨3, [toAV (k3D k)]⟩) :: ob⟩ = some ([setA P], (505005, ⟨3, [toAV (k3D k)]⟩) :: ob))
  (hEW : EqWC (Γ 515)) (hEK : EqKC (Γ 517)) (hl : l.length ≤ 1000) (hl2 : cs.length ≤ 1000) (hF : NoF [513, 514, 516, 518] gs) :
  (exec Γ M toldB ⟨(0, .loc 13 0 0) :: (1, .loc 11 0 0) :: (5, .loc 505005 0 0) :: gs, (505005, ⟨3, [toAV (k3D k)]⟩) :: ob⟩).map (fun p => (p.1, get p.2.fr 6, ghs p.2.fr, p.2.ob)) = some (.norm, some (bo true), gs, (505005, ⟨3, [toAV (k3D k)]⟩) :: ob) := by
 have g := hF.1
 have hFg := (hF.mono (fs' := [513]) (by simp)).gho
 have hFg2 := (hF.mono (fs' := [514]) (by simp)).gho
 have hFg3 := (hF.mono (fs' := [516]) (by simp)).gho
 have hFg4 := (hF.mono (fs' := [518]) (by simp)).gho
 have eW := hEW l l hl hl
 have eK := hEK cs cs hl2 hl2
 simp only [toAV, k3D, List.map_cons, List.map_nil, setA, setD] at hWt hCs hLa hLm ⊢
 generalize (wb P 0 64) = p0 at *
 generalize (wb P 64 64) = p1 at *
 rcases hlv with rfl | ⟨hl0, rfl⟩ <;> rcases hcv with rfl | ⟨hc0, rfl⟩
 ·generalize l.map w4D = LD at *
  generalize cs.map k3D = CD at *
  simp -implicitDefEqProofs (disch := first | omega | (simp [g] <;> fail) | (simp [noF_c, nmS_c, nmS_agg, nmS_loc, nmS_tup, nmS_vp, nmS_nil, nmS_ot, inR, hFg, hFg2, hFg3, hFg4] <;> fail) | assumption) [toldB, g, hm, hWt, hCs, hLa, hLm, eW, eK]
 ·rw [hc0] at hCs eK
  generalize l.map w4D = LD at *
  simp -implicitDefEqProofs (disch := first | omega | (simp [g] <;> fail) | (simp [noF_c, nmS_c, nmS_agg, nmS_loc, nmS_tup, nmS_vp, nmS_nil, nmS_ot, inR, hFg, hFg2, hFg3, hFg4] <;> fail) | assumption) [toldB, g, hm, hWt, hCs, hLa, hLm, eW, eK]
 ·rw [hl0] at hWt eW
  generalize cs.map k3D = CD at *
  simp -implicitDefEqProofs (disch := first | omega | (simp [g] <;> fail) | (simp [noF_c, nmS_c, nmS_agg, nmS_loc, nmS_tup, nmS_vp, nmS_nil, nmS_ot, inR, hFg, hFg2, hFg3, hFg4] <;> fail) | assumption) [toldB, g, hm, hWt, hCs, hLa, hLm, eW, eK]
 ·rw [hl0] at hWt eW
  rw [hc0] at hCs eK
  simp -implicitDefEqProofs (disch := first | omega | (simp [g] <;> fail) | (simp [noF_c, nmS_c, nmS_agg, nmS_loc, nmS_tup, nmS_vp, nmS_nil, nmS_ot, inR, hFg, hFg2, hFg3, hFg4] <;> fail) | assumption) [toldB, g, hm, hWt, hCs, hLa, hLm, eW, eK]
end Go.Am
namespace Go.Am
theorem noO_push {fs : List Nat} {k0 : Nat} {o : Obj} {ob : List (Nat × Obj)} (h : NoO fs ob) (hk : inR fs k0 = false) (hn : ∀ j, nmRows j o.rows = true) : NoO fs ((k0, o) :: ob) := noO_cons.2 ⟨hk, fun j _ => hn j, h⟩
abbrev FS : List Nat := [503, 505, 508, 509, 510, 511, 513, 514, 516, 518, 520, 521, 522, 524, 525]
def MI (x : XS) (ob : List (Nat × Obj)) : Prop := ∃ lv cv, get ob 13 = some ⟨3, [[lv, cv, i64 x.came]]⟩ ∧ LV 4 (x.l.map w4D) lv ∧ LV 3 (x.cs.map k3D) cv
structure QI (i : Nat) (x : XS) (wm cm : Option Nat) (qs : List HQ) (cs : List HC) (n : Int) (c : Nat) (ob : List (Nat × Obj)) : Prop where
 hall : HallI 11 wm cm qs cs n c ob
 cn : Cn c ob
 cl : c ≤ 2 * i
 n0 : 0 ≤ n
 nl : n ≤ i
 m : MI x ob
 no : NoO FS ob
 rl : Rl x qs cs n
 ll : x.l.length ≤ i
 lc : x.cs.length ≤ i
 fl : ∀ w ∈ x.l, SmW w
theorem MI.push {x : XS} {k0 : Nat} {o : Obj} {ob : List (Nat × Obj)} (h : MI x ob) (hk : k0 ≠ 13) : MI x ((k0, o) :: ob) := by
 obtain ⟨lv, cv, h1, h2, h3⟩ := h
 exact ⟨lv, cv, by simp only [Go.Am.get]; rw [if_neg hk]; exact h1, h2, h3⟩
theorem QI.pushH {i : Nat} {x : XS} {wm cm : Option Nat} {qs : List HQ} {cs : List HC} {n : Int} {c : Nat} {ob : List (Nat × Obj)} (h : QI i x wm cm qs cs n c ob) {k0 : Nat} {o : Obj} (hk : get ob k0 = none) : HallI 11 wm cm qs cs n c ((k0, o) :: ob) := h.hall.push hk
structure TEnv (Γ : Env) : Prop where
 row : RowF29C (Γ.pt 522)
 fi : FirstC (Γ.pt 524)
 find : Find29C (Γ.pt 512)
 call : CallC (Γ.pt 520)
 len : LenC (Γ.pt 525)
 wt : Γ.pt 514 = frzPt waitPt
 cs : Γ.pt 516 = frzPt callsPt
 la : Γ.pt 518 = landsPt
 lm : Lands29C (Γ.pt 513)
 ew : EqWC (Γ 515)
 ek : EqKC (Γ 517)
def ToldC (g : St → Option (List AV × List (Nat × Obj))) : Prop := ∀ (i : Nat) (x : XS) (wm cm : Option Nat) (qs : List HQ) (cs : List HC) (n : Int) (c : Nat) (k : K3) gs ob, i ≤ 100 → QI i x wm cm qs cs n c ob → NoF FS gs → g ⟨(0, .loc 13 0 0) :: (1, .loc 11 0 0) :: (2, .agg (k3D k)) :: gs, ob⟩ = some ([bo true], ob)
theorem findX_facts {x : XS} {cs : List HC} (h : cs.map tri = x.cs) (f d : Int) : isC cs f d = decide (0 ≤ findX x.cs f d 0) ∧ (isC cs f d = false → carC cs f d = 0) ∧ (isC cs f d = true → ∃ (j : Nat) (e : K3), findX x.cs f d 0 = j ∧ (x.cs.map k3D)[j]? = some (k3D e) ∧ e.2.2 = carC cs f d) := by
 have hx := findX_map f d cs 0
 rw [h] at hx
 have hx : findX x.cs f d 0 = match findC cs f d 0 with | some (i, _) => (i : Int) | none => -1 := hx
 unfold isC carC
 cases hf : findC cs f d 0 with
 | none =>
  rw [hf] at hx
  simp only at hx
  rw [hx]
  exact ⟨rfl, fun _ => rfl, fun h => by simp at h⟩
 | some p =>
  obtain ⟨j, e⟩ := p
  rw [hf] at hx
  simp only at hx
  rw [hx]
  obtain ⟨_, h2, _⟩ := findC_spec hf
  rw [Nat.sub_zero] at h2
  refine ⟨by simp, fun h => by simp at h, fun _ => ⟨j, tri e, rfl, ?_, rfl⟩⟩
  rw [← h, List.getElem?_map, List.getElem?_map, h2]; rfl
theorem idxs_facts {x : XS} {qs : List HQ} {cs : List HC} {n : Int} (h : Rl x qs cs n) (k : K3) : (idxs x.l k 0).length = (wait qs k).length ∧ ∀ w r, wait qs k = w :: r → ∃ (j : Nat) (I' : List Int), idxs x.l k 0 = (j : Int) :: I' ∧ (x.l.map w4D)[j]? = some (w4D w) := by
 rw [h.wt]
 have hlen : ∀ (l : List W4) (i : Int), (idxs l k i).length = (l.filter fun w => decide (keyW w = k)).length := by
  intro l
  induction l with
  | nil => intro i; rfl
  | cons w l ih =>
   intro i
   simp only [idxs, List.filter_cons]
   by_cases hw : keyW w = k
   ·simp [hw, ih]
   ·simp [hw, ih]
 refine ⟨hlen _ _, fun w r hw => ?_⟩
 cases hi : idxs x.l k 0 with
 | nil => rw [idxs_nil hi] at hw; simp at hw
 | cons j I' =>
  obtain ⟨a, u, b, h1, h2, h3, _⟩ := idxs_cons hi
  rw [h3] at hw
  simp only [List.cons.injEq] at hw
  refine ⟨a.length, I', by rw [h2]; simp, ?_⟩
  rw [h1, List.map_append, List.getElem?_append_right (by simp), List.length_map, Nat.sub_self, List.map_cons, List.getElem?_cons_zero, hw.1]
theorem law29_m_told_run (Γ : Env) (M : Nat) (hT : TEnv Γ) : ToldC (runP Γ M law29_m_told_f) := by
 intro i x wm cm qs cs n c k gs ob hi hQ hF
 obtain ⟨lv, cv, hm, hlv, hcv⟩ := hQ.m
 have hO := hQ.no
 have hll := hQ.ll
 have hlc := hQ.lc
 have x5 := hO.none (k := 505005) (by decide)
 have x8 := hO.none (k := 505008) (by decide)
 have n5 := hO.nm (k := 505005) (by decide)
 have d5 := hO.del (k := 505005) (by decide)
 have f5 := hF.nm (k := 505005) (by decide)
 have n8 := hO.nm (k := 505008) (by decide)
 have d8 := hO.del (k := 505008) (by decide)
 have f8 := hF.nm (k := 505008) (by decide)
 have k1 := hO.kf (f := 505) (by simp)
 have g := hF.1
 have nk : ∀ j, nmRows j [toAV (k3D k)] = true := fun j => by simp [k3D]
 have nw : ∀ j (w : W4), nmRows j [w4R w] = true := fun j w => by have := nmRows_w4 j [w]; simpa only [List.map_cons, List.map_nil] using this
 have hO1 : NoO [513, 514, 516, 518, 520, 522, 524, 525] ((505005, ⟨3, [toAV (k3D k)]⟩) :: ob) := noO_push (hO.mono (by simp)) (by decide) nk
 have hH1 := hQ.pushH (o := ⟨3, [toAV (k3D k)]⟩) x5
 have hm1 : get ((505005, (⟨3, [toAV (k3D k)]⟩ : Obj)) :: ob) 13 = some ⟨3, [[lv, cv, i64 x.came]]⟩ := by simp only [Go.Am.get]; rw [if_neg (by omega)]; exact hm
 generalize hw0 : hd0 (wait qs k) = w0
 have hO2 : NoO [513, 514, 516, 518, 520, 522, 524, 525] (toldO k w0 ob) := noO_push hO1 (by decide) (fun j => nw j w0)
 have hH2 : HallI 11 wm cm qs cs n c (toldO k w0 ob) := hH1.push (by simp only [Go.Am.get]; rw [if_neg (by omega)]; exact x8)
 have hm2 : get (toldO k w0 ob) 13 = some ⟨3, [[lv, cv, i64 x.came]]⟩ := by simp only [Go.Am.get]; rw [if_neg (by omega), if_neg (by omega)]; exact hm
 obtain ⟨i1, i2⟩ := idxs_facts hQ.rl k
 obtain ⟨c1, c2, c3⟩ := findX_facts hQ.rl.cl k.1 k.2.1
 obtain ⟨s1, s2⟩ := hQ.rl.sorted hQ.hall.qk
 obtain ⟨t1, t2⟩ := hQ.rl.calls hQ.hall.cd
 have hpl := (hQ.rl.perm hQ.hall.qk).length_eq
 have hql := qs_len fun e he => (hQ.hall.q e he).2.2.2
 have hcl : cs.length = x.cs.length := by rw [← hQ.rl.cl, List.length_map]
 have hLenF : ∀ fr, NoF [525] fr → Γ.pt 525 ⟨(0, .loc 11 0 0) :: (1, .agg (k3D k)) :: fr, toldO k (hd0 (wait qs k)) ob⟩ = some ([i64 (wait qs k).length], toldO k (hd0 (wait qs k)) ob) := fun fr hfr => hT.len 11 wm cm qs cs n c k fr _ (by rw [hw0]; exact hO2.mono (by simp)) hfr (by rw [hw0]; exact hH2)
 have hA := toldA_run Γ M lv cv x.came x.l x.cs k (wait qs k) (idxs x.l k 0) (findX x.cs k.1 k.2.1 0) (carC cs k.1 k.2.1) (isC cs k.1 k.2.1) gs ob g hm hlv hcv hLenF (hF.mono (by simp)) i1 i2 (by omega) c1 c2 c3
 have hB := toldB_run Γ M lv cv x.came x.l x.cs k (setOf (selX k.2.2 k.2.1 x.cs ++ selY k.2.2 k.2.1 x.l)) gs ob hm hlv hcv
  (fun fr hfr => by rw [hT.wt]; exact wait_at hH1 (hO1.mono (by simp)) hfr (by omega) (by omega) s1 s2)
  (fun fr hfr => by rw [hT.cs]; exact calls_at hH1 (hO1.mono (by simp)) hfr (by omega) t1 t2 hcl.symm)
  (fun fr hfr => by rw [hT.la, ← hQ.rl.lands hQ.hall.qk (fun e he => (hQ.hall.q e he).2.2.2)]; exact lands_at hH1 (hO1.mono (by simp)) hfr (by omega) (by omega))
  (fun fr hfr => hT.lm 13 lv cv x.came x.l x.cs k.2.2 k.2.1 fr _ (hO1.mono (by simp)) hfr hm1 hlv hcv (by omega) (by omega))
  hT.ew hT.ek (by omega) (by omega) (hF.mono (by simp))
 have e1 := fun fr h => hT.row 13 lv cv x.came x.l k fr _ (hO1.mono (fs' := [522]) (by simp)) h hm1 hlv (by omega)
 have e2 := fun fr h => hT.fi 11 wm cm qs cs n c k fr _ (hO1.mono (fs' := [524]) (by simp)) h hH1
 have e3 := fun fr (h : Gh fr) => hT.find 13 lv cv x.came x.cs k.1 k.2.1 fr (toldO k w0 ob) h hm2 hcv (by omega)
 have e4 := fun fr h => hT.call 11 wm cm qs cs n c k.1 k.2.1 fr (toldO k w0 ob) (hO2.mono (fs' := [520]) (by simp)) h hH2
 rw [hw0] at hA e2
 clear hLenF i2 c3 s1 s2 t1 t2
 simp only [Option.map_eq_some_iff, Prod.mk.injEq] at hA hB
 obtain ⟨⟨ax, s2⟩, a1, a2, a3, a4, a5, a6, a7, a8⟩ := hA
 simp only at a2 a3 a4 a5 a6 a7 a8
 subst a2
 obtain ⟨⟨ax3, s3⟩, b1, b2, b3, b4, b5⟩ := hB
 simp only at b2 b3 b4 b5
 subst b2
 have hF1 := (hF.mono (fs' := [520]) (by simp)).gho
 have hF2 := (hF.mono (fs' := [522]) (by simp)).gho
 have hF3 := (hF.mono (fs' := [524]) (by simp)).gho
 have hgg := gh_gho gs
 have eA : toldA = .draw r505_5q [] [] r505_5 := rfl
 have eB : toldB = .draw r505_7q [] [] r505_7 := rfl
 generalize (idxs x.l k 0).map iD = IR at *
 generalize findX x.cs k.1 k.2.1 0 = fx at *
 generalize carC cs k.1 k.2.1 = cc at *
 generalize isC cs k.1 k.2.1 = ic at *
 generalize decide (wait qs k ≠ []) = wn at *
 simp only [toldO, w4R, w4D, k3D, toAV, List.map_cons, List.map_nil] at e1 e2 e3 e4 a1 a8 b1 b5 ⊢
 unfold runP law29_m_told_f law29_m_told_c
 try simp only [Cx.sr, Cx.pP, Cx.pQ, Cx.p0, Cx.rg, Cx.cd, Nat.reduceMul, Nat.reduceAdd]
 rw [← eA, ← eB]
 generalize toldA = A at *
 generalize toldB = B at *
 simp -implicitDefEqProofs (disch := first | omega | (simp [g] <;> fail) | (simp [noF_c, nmS_c, nmS_agg, nmS_loc, nmS_tup, nmS_vp, nmS_nil, nmS_ot, inR, hF1, hF2, hF3] <;> fail) | assumption) [g, n5, d5, f5, n8, d8, f8, k1, x5, x8, e1, e2, e3, e4, a1, a3, a4, a5, a6, a7, a8, b1, b3, b4, b5]
end Go.Am
namespace Go.Am
theorem nmRows_av (k : Nat) (A : List (List D)) : nmRows k (A.map toAV) = true := nmRows_iff.2 fun r hr v hv => by
 obtain ⟨ds, _, rfl⟩ := List.mem_map.1 hr
 obtain ⟨d, _, rfl⟩ := List.mem_map.1 hv
 rfl
def takT : AC := .seq (.seq (.reg r509_3) (.keepP [0, 7, 8, 9, 22] 509000 510000 [509008, 509040, 509049, 509059] (.cond (.t 22) (.keepP [8, 9] 509000 510000 [509008, 509040, 509049, 509059] (.seq (.reg r509_4) (.keepP [6] 509000 510000 [509040, 509049, 509059] (.ret)))) (.skip)))) (.keepP [0, 7, 8, 9] 509000 510000 [509008, 509040, 509049, 509059] (.seq (.draw r509_5q [(509010, 10, [.c (.int .i64 0), .c (.int .i64 0), .c (.int .i64 0), .c (.int .i64 0)])] [] r509_5) (.keepP [0, 7, 8, 9, 10] 509000 510000 [509008, 509010, 509040, 509049, 509059] (.seq (.draw r509_6q [] [(1, (some 40), .bso 509040 4 [.int .i64 0, .int .i64 0, .int .i64 0, .int .i64 0] 0 [], [0, 7, 41, 42, 43, 44, 45, 46, 47, 50, 51, 52, 53, 54, 55, 56, 57], []), (10, (some 49), .app 509049 4 32 (.t 40) (.t 48), [0, 7, 50, 51, 52, 53, 54, 55, 56, 57], [1, 2, 3, 4, 5, 6, 7, 8, 9]), (20, (some 59), .app 509059 4 32 (.t 49) (.t 58), [0], [1, 2, 3, 4, 5, 6, 7, 8, 9, 10, 11, 12, 13, 14, 15, 16, 17, 18, 19])] r509_6) (.keepP [8, 9, 10] 509000 510000 [509008, 509010, 509040, 509049, 509059] (.seq (.reg r509_7) (.keepP [6] 509000 510000 [509040, 509049, 509059] (.ret))))))))
theorem tak_nil (Γ : Env) (M : Nat) (gs : List (Nat × AV)) (ob : List (Nat × Obj)) (g : Gh gs) (k1 : Kf 509000 510000 ob) :
  (exec Γ M takT ⟨(0, .loc 13 0 0) :: (7, .c (.vs 1 [])) :: (8, .loc 509008 0 0) :: (9, bo false) :: gs, (509008, ⟨4, [w4R (0, 0, 0, 0)]⟩) :: ob⟩).map (fun p => (p.1, get p.2.fr 6, p.2.ob)) = some (.ret, some (bo true), ob) := by
 simp -implicitDefEqProofs (disch := first | omega | (simp [g] <;> fail) | assumption) [takT, g, k1, w4R, w4D]
theorem tak_cons (Γ : Env) (M : Nat) (cv : AV) (came : Int) (a b : List W4) (w : W4) (I' : List Int) (gs : List (Nat × AV)) (ob : List (Nat × Obj)) (hO : NoO [509] ob) (hF : NoF [509] gs) (hm : get ob 13 = some ⟨3, [[.c (.vs 4 ((a ++ w :: b).map w4D)), cv, i64 came]]⟩) (hl : (a ++ w :: b).length ≤ 1000) :
  (exec Γ M takT ⟨(0, .loc 13 0 0) :: (7, .c (.vs 1 ((((a.length : Nat) : Int) :: I').map iD))) :: (8, .loc 509008 0 0) :: (9, bo true) :: gs, (509008, ⟨4, [w4R w]⟩) :: ob⟩).map (fun p => (p.1, get p.2.fr 6, p.2.ob)) = some (.ret, some (bo true), (13, ⟨3, [[.c (.vs 4 ((a ++ b).map w4D)), cv, i64 came]]⟩) :: del ob 13) := by
 have g := hF.1
 have n8 := hO.nm (k := 509008) (by decide)
 have d8 := hO.del (k := 509008) (by decide)
 have f8 := hF.nm (k := 509008) (by decide)
 have n0 := hO.nm (k := 509010) (by decide)
 have d0 := hO.del (k := 509010) (by decide)
 have f0 := hF.nm (k := 509010) (by decide)
 have n4 := hO.nm (k := 509040) (by decide)
 have d4 := hO.del (k := 509040) (by decide)
 have f4 := hF.nm (k := 509040) (by decide)
 have fb := nmFrB_nmH (d := 10) f0
 have x0 := hO.none (k := 509010) (by decide)
 have x4 := hO.none (k := 509040) (by decide)
 have x8 := hO.none (k := 509008) (by decide)
 have k1 := hO.kf (f := 509) (by simp)
 have k2 : Kf 509000 510000 (del ob 13) := kf_delO k1
 have hpI : (((a.length : Nat) : Int) :: I').map iD = [.int .i64 (a.length : Nat)] :: I'.map iD := rfl
 rw [hpI]
 generalize I'.map iD = IR
 obtain ⟨R, hR⟩ : ∃ R, (a ++ w :: b).map w4D = R := ⟨_, rfl⟩
 have r1 : R[a.length]? = some (w4D w) := by rw [← hR]; simp
 have r2 : ∀ h, R[a.length]'h = w4D w := fun h => by rw [List.getElem?_eq_getElem h] at r1; simpa using r1
 have r3 : R.take a.length = a.map w4D := by rw [← hR, ← List.map_take, List.take_left' rfl]
 have r4 : R.drop (a.length + 1) = b.map w4D := by
  rw [← hR, ← List.map_drop]
  congr 1
  rw [List.drop_append, List.drop_eq_nil_of_le (by omega), show a.length + 1 - a.length = 1 by omega]; rfl
 have r5 : R.length = a.length + 1 + b.length := by rw [← hR]; simp; omega
 have hll : a.length + 1 + b.length ≤ 1000 := by
  have : (a ++ w :: b).length = a.length + 1 + b.length := by simp; omega
  omega
 rw [hR] at hm
 obtain ⟨A, hA⟩ : ∃ A, a.map w4D = A := ⟨_, rfl⟩
 obtain ⟨B, hB⟩ : ∃ B, b.map w4D = B := ⟨_, rfl⟩
 have hAl : A.length = a.length := by rw [← hA]; simp
 have hBl : B.length = b.length := by rw [← hB]; simp
 have hAB : (a ++ b).map w4D = A ++ B := by rw [List.map_append, hA, hB]
 rw [hA] at r3
 rw [hB] at r4
 rw [hAB]
 obtain ⟨w1, w2, w3, w4⟩ := w
 simp only [w4R, w4D, toAV, List.map_cons, List.map_nil] at r1 r2 ⊢
 generalize a.length = la at *
 generalize b.length = lb at *
 have l4 := lcFr_nm f4
 have p4 := lcOb_nm n4
 have htB : List.take lb B = B := List.take_of_length_le (by omega)
 have htA : List.take la A = A := List.take_of_length_le (by omega)
 have y1 := fun k (A : List (List D)) => nmRows_av k A
 have y2 := fun k (A : List (List D)) => lcRows_nm _ _ (nmRows_av k A)
 have hal : allRows (A.map toAV ++ B.map toAV) = some (A ++ B) := by rw [← List.map_append, allRows_toAV]
 have htAB : List.take (la + lb) (A ++ B) = A ++ B := List.take_of_length_le (by rw [List.length_append]; omega)
 have hb1 : la ≤ la + 1 + lb := by omega
 have hb2 : la + 1 ≤ la + 1 + lb := by omega
 simp -implicitDefEqProofs (disch := first | omega | (simp [g] <;> fail) | assumption) [hb1, hb2, hal, htAB, kill, l4, p4, htB, htA, y1, y2, takT, g, k1, k2, fb, x0, x4, x8, n8, d8, f8, n0, d0, f0, n4, d4, f4, hm, r1, r2, r3, r4, r5, hAl, hBl]
end Go.Am
