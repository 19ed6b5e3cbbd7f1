/- The grid of a template: pairs are set; what its list is; what a word means of it. -/
import Derived.Test.YtkigddhdbnganaaPk
set_option linter.unusedVariables false
set_option linter.unusedSimpArgs false
set_option maxRecDepth 10000
set_option maxHeartbeats 1000000
namespace Go.Am
/-- What else is there. -/
structure RsOk (gk : Nat) (rest : List (Nat × Obj)) : Prop where
  k : Kf 56000 57000 rest
  n4 : nmOb 56004 rest = true
  d4 : del rest 56004 = rest
  nm : nmOb 1461501637330902918203684832716283019655932598995 rest = true
  dm : del rest 1461501637330902918203684832716283019655932598995 = rest
  dg : del rest gk = rest
theorem rsOk_nil (gk : Nat) : RsOk gk [] := ⟨kf_nil _ _, rfl, rfl, rfl, rfl, rfl⟩
def SetC (g : St → Option (List AV × List (Nat × Obj))) : Prop := ∀ gk G (x y n : Int) gs rest, Gh gs → nmFr 56004 gs = true → nmFr 1461501637330902918203684832716283019655932598995 gs = true → gk < 10000000 → (gk < 56000 ∨ 57000 ≤ gk) → RsOk gk rest →
  g ⟨(0, .loc gk 0 0) :: (1, .agg [.int .i64 x, .int .i64 y]) :: (2, i64 n) :: gs, grOb gk G ++ rest⟩ = some ([], grOb gk (setG G x y n) ++ rest)
theorem grid_Set_run (Γ : Env) (M : Nat) : SetC (runP Γ M grid_Grid_Set_f) := by
  intro gk G x y n gs rest hg n4 nm hk hkk ⟨k, rn4, d4, rnm, dm, dg⟩
  have hmod : gk % 18446744073709551616 = gk := Nat.mod_eq_of_lt (by omega)
  have hne4 : ¬ gk = 56004 := by omega
  have hne4' : ¬ 56004 = gk := by omega
  have hnem : ¬ gk = 1461501637330902918203684832716283019655932598995 := by omega
  have hnem' : ¬ 1461501637330902918203684832716283019655932598995 = gk := by omega
  have a1 := nmRows_row
  have hkk' : gk < 56000 ∨ 57000 ≤ gk ∨ gk = 56004 ∨ gk = 1461501637330902918203684832716283019655932598995 := by omega
  have hkk2 : gk < 56000 ∨ 57000 ≤ gk ∨ gk = 1461501637330902918203684832716283019655932598995 := by omega
  have mf := mfind_pidx x y
  simp only [kkP] at mf
  by_cases h0 : n = 0
  · subst h0
    cases G with
    | none =>
      simp -implicitDefEqProofs (disch := first | omega | (simp <;> fail) | assumption) [grOb, setG, hg, n4, nm, k, rn4, d4, rnm, dm, dg, hmod, hne4, hne4', hnem, hnem', a1, hkk, hkk', hkk2]
    | some p =>
      obtain ⟨z, es⟩ := p
      have mf1 := mf es 0
      cases hp : pidx x y es 0 with
      | none =>
        rw [hp] at mf1
        simp only [Option.map_none] at mf1
        simp -implicitDefEqProofs (disch := first | omega | (simp <;> fail) | assumption) [grOb, setG, hg, n4, nm, k, rn4, d4, rnm, dm, dg, hmod, hne4, hne4', hnem, hnem', a1, hkk, hkk', hkk2, hp, mf1]
      | some p =>
        obtain ⟨i, m⟩ := p
        rw [hp] at mf1
        simp only [Option.map_some] at mf1
        simp -implicitDefEqProofs (disch := first | omega | (simp <;> fail) | assumption) [grOb, setG, hg, n4, nm, k, rn4, d4, rnm, dm, dg, hmod, hne4, hne4', hnem, hnem', a1, hkk, hkk', hkk2, hp, mf1, eraseIdx_row]
  · cases G with
    | none =>
      simp -implicitDefEqProofs (disch := first | omega | (simp <;> fail) | assumption) [grOb, setG, hg, n4, nm, k, rn4, d4, rnm, dm, dg, hmod, hne4, hne4', hnem, hnem', a1, hkk, hkk', hkk2, h0, mupd, mfind, En.row]
    | some p =>
      obtain ⟨z, es⟩ := p
      have mf1 := mf es 0
      cases hp : pidx x y es 0 with
      | none =>
        rw [hp] at mf1
        simp only [Option.map_none] at mf1
        simp -implicitDefEqProofs (disch := first | omega | (simp <;> fail) | assumption) [grOb, setG, hg, n4, nm, k, rn4, d4, rnm, dm, dg, hmod, hne4, hne4', hnem, hnem', a1, hkk, hkk', hkk2, h0, mupd, hp, mf1, En.row]
      | some p =>
        obtain ⟨i, m⟩ := p
        rw [hp] at mf1
        simp only [Option.map_some] at mf1
        have hi := (pidx_lt hp).2.1
        rw [Nat.zero_add] at hi
        have hst := stampAt_row hi
        simp -implicitDefEqProofs (disch := first | omega | (simp <;> fail) | assumption) [-stampAt, -setRow, grOb, setG, hg, n4, nm, k, rn4, d4, rnm, dm, dg, hmod, hne4, hne4', hnem, hnem', a1, hkk, hkk', hkk2, h0, mupd, hp, mf1, hst]
        simp [setRow, En.row]
def wD (t x y : Int) : Int := if t = 4 then 1 else if t = 1 ∧ x = 0 then 10 else if t = 3 ∧ y = 0 then 10 else if t = 2 ∧ (x = 0 ∨ y = 0) then 5 else if x = 0 ∨ y = 0 then 1 else 0
def WeightC (g : List AV → Option (List AV)) : Prop := ∀ t x y : Int, g [i64 t, .agg [.int .i64 x, .int .i64 y]] = some [i64 (wD t x y)]
theorem demand_weight_run (Γ : Env) (M : Nat) : WeightC (run Γ M demand_weight_f) := by
  intro t x y
  by_cases h4 : t = 4
  · subst h4
    simp -implicitDefEqProofs (disch := first | omega | (simp <;> fail) | assumption) [wD]
  · by_cases h1 : t = 1
    · subst h1
      by_cases hx : x = 0
      · subst hx
        simp -implicitDefEqProofs (disch := first | omega | (simp <;> fail) | assumption) [wD]
      · by_cases hy : y = 0
        · subst hy
          simp -implicitDefEqProofs (disch := first | omega | (simp <;> fail) | assumption) [wD, hx]
        · simp -implicitDefEqProofs (disch := first | omega | (simp <;> fail) | assumption) [wD, hx, hy]
    · by_cases h3 : t = 3
      · subst h3
        by_cases hy : y = 0
        · subst hy
          simp -implicitDefEqProofs (disch := first | omega | (simp <;> fail) | assumption) [wD]
        · by_cases hx : x = 0
          · subst hx
            simp -implicitDefEqProofs (disch := first | omega | (simp <;> fail) | assumption) [wD, hy]
          · simp -implicitDefEqProofs (disch := first | omega | (simp <;> fail) | assumption) [wD, hx, hy]
      · by_cases hx : x = 0
        · subst hx
          by_cases h2 : t = 2
          · subst h2
            simp -implicitDefEqProofs (disch := first | omega | (simp <;> fail) | assumption) [wD]
          · simp -implicitDefEqProofs (disch := first | omega | (simp <;> fail) | assumption) [wD, h1, h2, h3, h4]
        · by_cases hy : y = 0
          · subst hy
            by_cases h2 : t = 2
            · subst h2
              simp -implicitDefEqProofs (disch := first | omega | (simp <;> fail) | assumption) [wD, hx]
            · simp -implicitDefEqProofs (disch := first | omega | (simp <;> fail) | assumption) [wD, h1, h2, h3, h4, hx]
          · by_cases h2 : t = 2
            · subst h2
              simp -implicitDefEqProofs (disch := first | omega | (simp <;> fail) | assumption) [wD, hx, hy]
            · simp -implicitDefEqProofs (disch := first | omega | (simp <;> fail) | assumption) [wD, h1, h2, h3, h4, hx, hy]
/-! ### All weights, in order -/
def cellW (t : Int) (x y : Nat) : List W3 := if x = y then [] else if wD t x y = 0 then [] else [((x : Int), (y : Int), wD t x y)]
def rowW (t : Int) (x k : Nat) : List W3 := (List.range k).flatMap (cellW t x)
def allW (t : Int) (f k : Nat) : List W3 := (List.range k).flatMap fun x => rowW t x f
theorem rowW_succ (t : Int) (x k : Nat) : rowW t x (k + 1) = rowW t x k ++ cellW t x k := by simp [rowW, List.range_succ]
theorem allW_succ (t : Int) (f k : Nat) : allW t f (k + 1) = allW t f k ++ rowW t k f := by simp [allW, List.range_succ]
theorem mem_cellW {t : Int} {x y : Nat} {p : W3} (h : p ∈ cellW t x y) : x ≠ y ∧ p = ((x : Int), (y : Int), wD t x y) ∧ wD t x y ≠ 0 := by
  unfold cellW at h
  split at h
  · simp at h
  · split at h
    · simp at h
    · rename_i h1 h2
      exact ⟨h1, by simpa using h, h2⟩
theorem mem_rowW {t : Int} {x k : Nat} {p : W3} (h : p ∈ rowW t x k) : ∃ y < k, x ≠ y ∧ p = ((x : Int), (y : Int), wD t x y) ∧ wD t x y ≠ 0 := by
  obtain ⟨y, hy, hp⟩ := List.mem_flatMap.1 h
  exact ⟨y, List.mem_range.1 hy, mem_cellW hp⟩
theorem mem_allW {t : Int} {f k : Nat} {p : W3} (h : p ∈ allW t f k) : ∃ x < k, ∃ y < f, x ≠ y ∧ p = ((x : Int), (y : Int), wD t x y) ∧ wD t x y ≠ 0 := by
  obtain ⟨x, hx, hp⟩ := List.mem_flatMap.1 h
  exact ⟨x, List.mem_range.1 hx, mem_rowW hp⟩
def enL : Nat → List W3 → List En
  | _, [] => []
  | k, (x, y, n) :: l => ⟨k, x, y, n⟩ :: enL (k + 1) l
theorem enL_append : ∀ (l m : List W3) (k : Nat), enL k (l ++ m) = enL k l ++ enL (k + l.length) m
  | [], m, k => by simp [enL]
  | (x, y, n) :: l, m, k => by simp only [List.cons_append, enL, enL_append l m (k + 1), List.length_cons]; rw [show k + 1 + l.length = k + (l.length + 1) by omega]
theorem enL_length : ∀ (l : List W3) (k : Nat), (enL k l).length = l.length
  | [], k => rfl
  | (x, y, n) :: l, k => by simp [enL, enL_length l]
def growG (l : List W3) : GSt := match l with
  | [] => none
  | l => some (l.length, enL 0 l)
theorem pidx_enL {x y : Int} : ∀ {l : List W3} {k i : Nat}, (∀ p ∈ l, ¬ (p.1 = x ∧ p.2.1 = y)) → pidx x y (enL k l) i = none
  | [], k, i, h => rfl
  | (a, b, n) :: l, k, i, h => by
    have h1 := h (a, b, n) (by simp)
    simp only at h1
    simp only [enL, pidx]
    rw [if_neg (fun hh => h1 ⟨hh.1.symm, hh.2.symm⟩)]
    exact pidx_enL fun p hp => h p (by simp [hp])
theorem growG_some {l : List W3} (h : l ≠ []) : growG l = some (l.length, enL 0 l) := by
  cases l with
  | nil => exact absurd rfl h
  | cons a l => rfl
theorem setG_new {l : List W3} {x y n : Int} (hn : n ≠ 0) (h : ∀ p ∈ l, ¬ (p.1 = x ∧ p.2.1 = y)) : setG (growG l) x y n = growG (l ++ [(x, y, n)]) := by
  cases l with
  | nil => simp [growG, setG, hn, enL]
  | cons a l =>
    rw [growG_some (by simp), growG_some (by simp)]
    unfold setG
    rw [if_neg hn]
    simp only [pidx_enL h]
    rw [enL_append]
    simp [enL]
theorem setG_none {l : List W3} {x y : Int} (h : ∀ p ∈ l, ¬ (p.1 = x ∧ p.2.1 = y)) : setG (growG l) x y 0 = growG l := by
  cases l with
  | nil => simp [growG, setG]
  | cons a l =>
    rw [growG_some (by simp)]
    unfold setG
    rw [if_pos rfl]
    simp only [pidx_enL h]
theorem setG_cell {t : Int} {f x y : Nat} (hxy : x ≠ y) : setG (growG (allW t f x ++ rowW t x y)) x y (wD t x y) = growG (allW t f x ++ rowW t x (y + 1)) := by
  have h : ∀ p ∈ allW t f x ++ rowW t x y, ¬ (p.1 = (x : Int) ∧ p.2.1 = (y : Int)) := by
    intro p hp
    rcases List.mem_append.1 hp with hp | hp
    · obtain ⟨x', hx, y', hy, _, rfl, _⟩ := mem_allW hp
      simp only; omega
    · obtain ⟨y', hy, _, rfl, _⟩ := mem_rowW hp
      simp only; omega
  rw [rowW_succ, cellW, if_neg hxy]
  by_cases h0 : wD t x y = 0
  · rw [if_pos h0, h0, setG_none h, List.append_nil]
  · rw [if_neg h0, setG_new h0 h, List.append_assoc]
/-! ### The walk -/
structure RdOk (rest : List (Nat × Obj)) : Prop where
  s : RsOk 282022 rest
  k : Kf 282000 283000 rest
  n : nmOb 282022 rest = true
structure GdOk (gs : List (Nat × AV)) : Prop where
  g : Gh gs
  n4 : nmFr 56004 gs = true
  nm : nmFr 1461501637330902918203684832716283019655932598995 gs = true
  n2 : nmFr 282022 gs = true
def GridC (g : St → Option (List AV × List (Nat × Obj))) : Prop := (∀ (t f : Int) gs rest, GdOk gs → RdOk rest → t < 1 ∨ 4 < t → g ⟨(0, i64 t) :: (1, i64 f) :: gs, rest⟩ = some ([.ot .np, i64 260], rest)) ∧
  (∀ (t f : Int) gs rest, GdOk gs → RdOk rest → 1 ≤ t → t ≤ 4 → f < 2 ∨ 128 < f → g ⟨(0, i64 t) :: (1, i64 f) :: gs, rest⟩ = some ([.ot .np, i64 22], rest)) ∧
  (∀ (t : Int) (f : Nat) gs rest, GdOk gs → RdOk rest → 1 ≤ t → t ≤ 4 → 2 ≤ f → f ≤ 128 → g ⟨(0, i64 t) :: (1, i64 f) :: gs, rest⟩ = some ([.loc 282022 0 0, i64 0], grOb 282022 (growG (allW t f f)) ++ rest))
theorem demand_Grid_run (Γ : Env) (M : Nat) (hM : 200 < M) (hS : SetC (Γ.pt 56)) (hW : WeightC (Γ 303)) : GridC (runP Γ M demand_Grid_f) := by
  refine ⟨?_, ?_, ?_⟩
  · rintro t f gs rest ⟨g, n4, nm, n2⟩ ⟨⟨k, rn4, d4, rnm, dm, dg⟩, k2, rn2⟩ ht
    rcases ht with ht | ht
    · simp -implicitDefEqProofs (disch := first | omega | (simp <;> fail) | assumption) [ht, g, k2]
    · have ht1 : ¬ t < 1 := by omega
      simp -implicitDefEqProofs (disch := first | omega | (simp <;> fail) | assumption) [ht, ht1, g, k2]
  · rintro t f gs rest ⟨g, n4, nm, n2⟩ ⟨⟨k, rn4, d4, rnm, dm, dg⟩, k2, rn2⟩ h1 h4 hf
    have ht1 : ¬ t < 1 := by omega
    have ht4 : ¬ 4 < t := by omega
    rcases hf with hf | hf
    · simp -implicitDefEqProofs (disch := first | omega | (simp <;> fail) | assumption) [ht1, ht4, hf, g, k2]
    · have hf1 : ¬ f < 2 := by omega
      simp -implicitDefEqProofs (disch := first | omega | (simp <;> fail) | assumption) [ht1, ht4, hf, hf1, g, k2]
  · rintro t f gs rest hgd hrd h1 h4 hf2 hf
    have hgd' := hgd
    have hrd' := hrd
    obtain ⟨g, n4, nm, n2⟩ := hgd
    obtain ⟨hrs, k2, rn2⟩ := hrd
    have hrs' := hrs
    obtain ⟨k, rn4, d4, rnm, dm, dg⟩ := hrs
    have ht1 : ¬ t < 1 := by omega
    have ht4 : ¬ 4 < t := by omega
    have hf1 : ¬ (f : Int) < 2 := by omega
    have hf2' : ¬ 128 < (f : Int) := by omega
    have e1 := fun G x y n gs a b c => hS 282022 G x y n gs rest a b c (by omega) (by omega) hrs'
    have inner : ∀ x : Nat, ∃ ax s', (ax = .ex 2 ∧ s' = ⟨[(0, i64 t), (1, i64 f), (6, .loc 282022 0 0), (23, i64 f), (24, i64 x)] ++ gs, grOb 282022 (growG (allW t f (x + 1))) ++ rest⟩) ∧ ∀ s0, nrmP [0, 1, 6, 7, 23, 24, 27, 28] 282000 283000 [282022] s0 = ⟨[(0, i64 t), (1, i64 f), (6, .loc 282022 0 0), (7, i64 x), (23, i64 f), (24, i64 x), (27, i64 f), (28, i64 (0 : Nat))] ++ gs, grOb 282022 (growG (allW t f x ++ rowW t x 0)) ++ rest⟩ → lp (exec Γ M demand_Grid_l1) M s0 = some (ax, s') := by
      intro x
      refine lp_allP (fun q : Nat => ⟨[(0, i64 t), (1, i64 f), (6, .loc 282022 0 0), (7, i64 x), (23, i64 f), (24, i64 x), (27, i64 f), (28, i64 q)] ++ gs, grOb 282022 (growG (allW t f x ++ rowW t x q)) ++ rest⟩) (fun q => q ≤ f) (fun q => f - q) _ 0 M (by omega) (by omega) ?_
      intro y hy
      by_cases hlt : y < f
      · by_cases hxy : x = y
        · subst hxy
          have hr : rowW t x (x + 1) = rowW t x x := by rw [rowW_succ, cellW, if_pos rfl, List.append_nil]
          simp -implicitDefEqProofs (disch := first | omega | (simp <;> fail) | assumption) [hlt, g, keepF_grOb]
          exact ⟨x + 1, by rw [hr]; simp, by omega, by omega⟩
        · have hc := setG_cell (t := t) (f := f) hxy
          have hw := hW t x y
          simp -implicitDefEqProofs (disch := first | omega | (simp [g, n4, nm] <;> fail) | assumption) [hlt, g, keepF_grOb, hxy, hw, e1, hc]
          exact ⟨y + 1, by simp, by omega, by omega⟩
      · obtain rfl : y = f := by omega
        simp -implicitDefEqProofs (disch := first | omega | (simp <;> fail) | assumption) [g, keepF_grOb, allW_succ]
    have hrow0 : ∀ x, rowW t x 0 = [] := fun x => rfl
    obtain ⟨ax, s', ⟨rfl, rfl⟩, hout⟩ : ∃ ax s', (ax = .ex 0 ∧ s' = ⟨[(6, .loc 282022 0 0)] ++ gs, grOb 282022 (growG (allW t f f)) ++ rest⟩) ∧ ∀ s0, nrmP [0, 1, 6, 23, 24] 282000 283000 [282022] s0 = ⟨[(0, i64 t), (1, i64 f), (6, .loc 282022 0 0), (23, i64 f), (24, i64 (0 : Nat))] ++ gs, grOb 282022 (growG (allW t f 0)) ++ rest⟩ → lp (exec Γ M demand_Grid_l2) M s0 = some (ax, s') := by
      refine lp_allP (fun q : Nat => ⟨[(0, i64 t), (1, i64 f), (6, .loc 282022 0 0), (23, i64 f), (24, i64 q)] ++ gs, grOb 282022 (growG (allW t f q)) ++ rest⟩) (fun q => q ≤ f) (fun q => f - q) _ 0 M (by omega) (by omega) ?_
      intro x hx
      by_cases hlt : x < f
      · obtain ⟨ax, s', ⟨rfl, rfl⟩, hin⟩ := inner x
        rw [hrow0, List.append_nil] at hin
        have hin2 := hin ⟨[(0, i64 t), (1, i64 f), (6, .loc 282022 0 0), (7, i64 x), (23, i64 f), (24, i64 x), (27, i64 f), (28, .c (.int .i64 0))] ++ gs, grOb 282022 (growG (allW t f x)) ++ rest⟩ (by
          simp -implicitDefEqProofs (disch := first | omega | (simp <;> fail) | assumption) [g, keepF_grOb])
        simp only [List.cons_append, List.nil_append] at hin2
        simp -implicitDefEqProofs (disch := first | omega | (simp [g] <;> fail) | assumption) [hlt, g, keepF_grOb, hin2]
        exact ⟨x + 1, by simp, by omega, by omega⟩
      · obtain rfl : x = f := by omega
        simp -implicitDefEqProofs (disch := first | omega | (simp <;> fail) | assumption) [g, keepF_grOb]
    have h00 : growG (allW t f 0) = none := rfl
    have hin : lp (exec Γ M demand_Grid_l2) M ⟨[(0, i64 t), (1, i64 f), (6, .loc 282022 0 0), (23, i64 f), (24, i64 0)] ++ gs, (282022, ⟨1, [[.ot .nm]]⟩) :: rest⟩ = some (.ex 0, ⟨[(6, .loc 282022 0 0)] ++ gs, grOb 282022 (growG (allW t f f)) ++ rest⟩) := hout _ (by
      rw [h00]
      simp -implicitDefEqProofs (disch := first | omega | (simp <;> fail) | assumption) [g, grOb, k2])
    simp only [List.cons_append, List.nil_append] at hin
    simp -implicitDefEqProofs (disch := first | omega | (simp <;> fail) | assumption) [ht1, ht4, hf1, hf2', g, k2, hin, keepF_grOb, n2, rn2, dg]
/-! ### All of them -/
def w3 (p : W3) : List Int := [p.1, p.2.1, p.2.2]
theorem enL_w : ∀ (l : List W3) (k : Nat), (enL k l).map En.w = l.map w3
  | [], k => rfl
  | (x, y, n) :: l, k => by simp only [enL, List.map_cons, enL_w l (k + 1)]; rfl
theorem bornB_enL : ∀ (l : List W3) (k : Nat), bornB (enL k l) = true
  | [], k => rfl
  | (x, y, n) :: l, k => by
    have hb : ∀ (l : List W3) (k : Nat), ∀ e ∈ enL k l, (k : Int) ≤ e.b := by
      intro l
      induction l with
      | nil => intro k e he; simp [enL] at he
      | cons p l ih =>
        intro k e he
        obtain ⟨a, b, c⟩ := p
        simp only [enL, List.mem_cons] at he
        rcases he with rfl | he
        · simp
        · have := ih (k + 1) e he; omega
    simp only [enL, bornB, Bool.and_eq_true, List.all_eq_true, Bool.not_eq_true', decide_eq_false_iff_not]
    exact ⟨fun e he h => by have := hb l (k + 1) e he; omega, bornB_enL l (k + 1)⟩
/-- Sorted by their pairs, none twice. -/
def Lex (l : List W3) : Prop := l.Pairwise fun a b => a.1 < b.1 ∨ (a.1 = b.1 ∧ a.2.1 < b.2.1)
theorem lex_noTies {l : List W3} (h : Lex l) : noTies ltW (l.map w3) = true := by
  unfold noTies
  rw [List.all_eq_true]
  intro x hx
  rw [List.all_eq_true]
  intro y hy
  obtain ⟨a, ha, rfl⟩ := List.mem_map.1 hx
  obtain ⟨b, hb, rfl⟩ := List.mem_map.1 hy
  obtain ⟨i, hi, rfl⟩ := List.getElem_of_mem ha
  obtain ⟨j, hj, rfl⟩ := List.getElem_of_mem hb
  have hp := List.pairwise_iff_getElem.1 h
  rcases Nat.lt_trichotomy i j with hij | hij | hij
  · have := hp i j hi hj hij
    simp only [ltW, w3, List.getD_cons_zero, List.getD_cons_succ, Bool.or_eq_true, Bool.and_eq_true, decide_eq_true_eq]
    exact .inl (.inl this)
  · subst hij; simp
  · have := hp j i hj hi hij
    simp only [ltW, w3, List.getD_cons_zero, List.getD_cons_succ, Bool.or_eq_true, Bool.and_eq_true, decide_eq_true_eq]
    exact .inl (.inr this)
theorem lex_resF {l : List W3} (h : Lex l) : resF ltW (l.map w3) = l.map w3 := by
  have hO : Go.Sort.SWO ltW := by rw [← lt_cfW]; exact swo_cfW
  have hn := lex_noTies h
  unfold resF
  rw [if_pos hn]
  refine sortedL_unique hO (srtL_sorted hO _) ?_ (srtL_perm ltW _) fun x hx y hy h1 h2 => ?_
  · rw [List.pairwise_map]
    refine h.imp ?_
    intro a b hab
    simp only [ltW, w3, List.getD_cons_zero, List.getD_cons_succ, Bool.or_eq_false_iff, Bool.and_eq_false_iff, decide_eq_false_iff_not]
    omega
  · unfold noTies at hn
    have := List.all_eq_true.1 (List.all_eq_true.1 hn x ((srtL_perm ltW _).mem_iff.1 hx)) y ((srtL_perm ltW _).mem_iff.1 hy)
    simpa [h1, h2] using this
theorem lex_rowW (t : Int) (x k : Nat) : Lex (rowW t x k) := by
  induction k with
  | zero => exact .nil
  | succ k ih =>
    rw [rowW_succ]
    refine List.pairwise_append.2 ⟨ih, ?_, ?_⟩
    · unfold cellW; split
      · exact .nil
      · split
        · exact .nil
        · exact List.pairwise_singleton _ _
    · intro a ha b hb
      obtain ⟨y, hy, _, rfl, _⟩ := mem_rowW ha
      obtain ⟨_, rfl, _⟩ := mem_cellW hb
      show (x : Int) < x ∨ ((x : Int) = x ∧ (y : Int) < k)
      omega
theorem lex_allW (t : Int) (f k : Nat) : Lex (allW t f k) := by
  induction k with
  | zero => exact .nil
  | succ k ih =>
    rw [allW_succ]
    refine List.pairwise_append.2 ⟨ih, lex_rowW t k f, ?_⟩
    intro a ha b hb
    obtain ⟨x, hx, y, hy, _, rfl, _⟩ := mem_allW ha
    obtain ⟨y', _, _, rfl, _⟩ := mem_rowW hb
    show (x : Int) < k ∨ ((x : Int) = k ∧ (y : Int) < y')
    omega
theorem entsG_grow (l : List W3) : entsG (growG l) = enL 0 l := by cases l <;> rfl
theorem allM_grow {l : List W3} (h : Lex l) : allM (growG l) = l := by
  unfold allM
  rw [entsG_grow, enL_w, lex_resF h, List.map_map]
  exact List.map_id'' (fun _ => rfl) l
theorem gok_grow {l : List W3} (h : Lex l) (hl : l.length ≤ 200000) : GOk (growG l) := ⟨by rw [entsG_grow]; exact bornB_enL l 0, by rw [entsG_grow, enL_length]; exact hl, by rw [entsG_grow, enL_w]; exact lex_noTies h⟩
/-! ### A pair -/
def ansP (w : Int) (M : List W3) : List D × Int :=
  if (pickF w (M.map (·.2.2))).2 ≠ 0 then ([.int .i64 0, .int .i64 0], (pickF w (M.map (·.2.2))).2)
  else match M[(pickF w (M.map (·.2.2))).1.toNat]? with
    | some m => ([.int .i64 m.1, .int .i64 m.2.1], 0)
    | none => ([.int .i64 0, .int .i64 0], 0)
theorem findR_lt : ∀ {ns : List Int} {r : Int} {i : Nat}, (findR r ns i).2 = 0 → ∃ k : Nat, (findR r ns i).1 = (k : Int) ∧ i ≤ k ∧ k < i + ns.length
  | [], r, i, h => by simp [findR] at h
  | n :: l, r, i, h => by
    simp only [findR] at h ⊢
    split
    · exact ⟨i, rfl, Nat.le_refl _, by simp⟩
    · rename_i hn
      rw [if_neg hn] at h
      obtain ⟨k, h1, h2, h3⟩ := findR_lt h
      exact ⟨k, h1, by omega, by simp; omega⟩
theorem pickF_lt {w : Int} {ns : List Int} (h : (pickF w ns).2 = 0) : ∃ k : Nat, (pickF w ns).1 = (k : Int) ∧ k < ns.length := by
  unfold pickF at h ⊢
  split at h
  · rename_i h2; exact absurd h h2
  · rename_i h2
    rw [if_neg h2]
    obtain ⟨k, h1, _, h3⟩ := findR_lt h
    exact ⟨k, h1, by omega⟩
def cN (p : W3) : List D := [.int .i64 p.2.2]
def d3 (p : W3) : List D := [.int .i64 p.1, .int .i64 p.2.1, .int .i64 p.2.2]
theorem nsV_map (M : List W3) : nsV (M.map (·.2.2)) = .c (.vs 1 (M.map cN)) := by
  simp only [nsV, List.map_map]; rfl
theorem out3_d3 (M : List W3) : M.map out3 = M.map (toAV ∘ d3) := rfl
end Go.Am
