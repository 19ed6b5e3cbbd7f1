/- Law 21: grids: a pair is set; weights. -/
import Derived.Test.YtiabedphaioidaaDemP
set_option linter.unusedVariables false
set_option linter.unusedSimpArgs false
set_option maxRecDepth 10000
set_option maxHeartbeats 1000000
namespace Go.Am
/-- A grid: its map is nil, or its clock and its entries. -/
abbrev GSt := Option (Nat × List En)
def grOb (gk : Nat) : GSt → List (Nat × Obj)
  | none => [(gk, ⟨1, [[.ot .nm]]⟩)]
  | some (z, es) => [(1461501637330902918203684832716283019655932598995, ⟨z, es.map En.row⟩), (gk, ⟨1, [[.mp 1461501637330902918203684832716283019655932598995]]⟩)]
def pidx (x y : Int) : List En → Nat → Option (Nat × Int)
  | [], _ => none
  | e :: l, i => if x = e.x ∧ y = e.y then some (i, e.n) else pidx x y l (i + 1)
def bAt (es : List En) (i : Nat) : Int := match es[i]? with
  | some e => e.b
  | none => 0
def setG (G : GSt) (x y n : Int) : GSt :=
  if n = 0 then match G with
    | none => none
    | some (z, es) => match pidx x y es 0 with
      | some (i, _) => some (z, es.eraseIdx i)
      | none => some (z, es)
  else match G with
    | none => some (1, [⟨0, x, y, n⟩])
    | some (z, es) => match pidx x y es 0 with
      | some (i, _) => some (z, es.take i ++ ⟨bAt es i, x, y, n⟩ :: es.drop (i + 1))
      | none => some (z + 1, es ++ [⟨z, x, y, n⟩])
theorem pidx_lt {x y : Int} : ∀ {es : List En} {k i : Nat} {n : Int}, pidx x y es k = some (i, n) → k ≤ i ∧ i < k + es.length ∧ ∃ e, es[i - k]? = some e ∧ e.x = x ∧ e.y = y
  | e :: l, k, i, n, h => by
    simp only [pidx] at h
    split at h
    · rename_i hh
      simp only [Option.some.injEq, Prod.mk.injEq] at h
      obtain ⟨rfl, _⟩ := h
      exact ⟨Nat.le_refl _, by simp, e, by simp, hh.1.symm, hh.2.symm⟩
    · obtain ⟨h1, h2, e', h3, h4⟩ := pidx_lt h
      refine ⟨by omega, by simp; omega, e', ?_, h4⟩
      rw [show i - k = (i - (k + 1)) + 1 by omega, List.getElem?_cons_succ]; exact h3
abbrev kkP : KK := (true, [.int .i64, .int .i64])
theorem mfind_pidx (x y : Int) : ∀ (es : List En) (k : Nat), mfind kkP (.agg [.int .i64 x, .int .i64 y]) (es.map En.row) k = some ((pidx x y es k).map fun p => (p.1, .c (.int .i64 p.2)))
  | [], k => rfl
  | e :: l, k => by
    have hm : mkeq kkP (.agg [.int .i64 x, .int .i64 y]) (.agg [.int .i64 e.x, .int .i64 e.y]) = some (decide (x = e.x ∧ y = e.y)) := by
      simp [mkeq, eqKs, eqK]
    rw [List.map_cons, En.row, mfind, hm]
    by_cases h : x = e.x ∧ y = e.y
    · simp only [decide_eq_true h, pidx, if_pos h, Option.map_some]
    · simp only [decide_eq_false h, pidx, if_neg h]; exact mfind_pidx x y l (k + 1)
theorem stampAt_row {es : List En} {i : Nat} (h : i < es.length) : stampAt (es.map En.row) i = .c (.int .i64 (bAt es i)) := by
  simp [stampAt, bAt, h, En.row]
theorem eraseIdx_row (es : List En) (i : Nat) : (es.map En.row).eraseIdx i = (es.eraseIdx i).map En.row := by
  induction es generalizing i with
  | nil => simp
  | cons e l ih => cases i <;> simp [ih]
theorem nmRows_row (k : Nat) (l : List En) : nmRows k (l.map En.row) = true := by induction l <;> simp_all [En.row]
theorem lcRows_row (k : Nat) (l : List En) : lcRows k (l.map En.row) = true := by induction l <;> simp_all [En.row]
/-- What else is there. -/
structure RsOk (gk : Nat) (rest : List (Nat × Obj)) : Prop where
  k : Kf 56000 57000 rest
  n4 : nmOb 56004 rest = true
  d4 : del rest 56004 = rest
  nm : nmOb 1461501637330902918203684832716283019655932598995 rest = true
  dm : del rest 1461501637330902918203684832716283019655932598995 = rest
  dg : del rest gk = rest
theorem rsOk_nil (gk : Nat) : RsOk gk [] := ⟨kf_nil _ _, rfl, rfl, rfl, rfl, rfl⟩
def SetC (g : St → Option (List AV × List (Nat × Obj))) : Prop := ∀ gk G (x y n : Int) gs rest, Gh gs → nmFr 56004 gs = true → nmFr 1461501637330902918203684832716283019655932598995 gs = true → gk < 10000000 → (gk < 56000 ∨ 57000 ≤ gk) → RsOk gk rest →
  g ⟨(0, .loc gk 0 0) :: (1, .agg [.int .i64 x, .int .i64 y]) :: (2, i64 n) :: gs, grOb gk G ++ rest⟩ = some ([], grOb gk (setG G x y n) ++ rest)
theorem grid_Set_run (Γ : Env) (M : Nat) : SetC (runP Γ M grid_Grid_Set_f) := by
  intro gk G x y n gs rest hg n4 nm hk hkk ⟨k, rn4, d4, rnm, dm, dg⟩
  have hmod : gk % 18446744073709551616 = gk := Nat.mod_eq_of_lt (by omega)
  have hne4 : ¬ gk = 56004 := by omega
  have hne4' : ¬ 56004 = gk := by omega
  have hnem : ¬ gk = 1461501637330902918203684832716283019655932598995 := by omega
  have hnem' : ¬ 1461501637330902918203684832716283019655932598995 = gk := by omega
  have a1 := nmRows_row
  have hkk' : gk < 56000 ∨ 57000 ≤ gk ∨ gk = 56004 ∨ gk = 1461501637330902918203684832716283019655932598995 := by omega
  have hkk2 : gk < 56000 ∨ 57000 ≤ gk ∨ gk = 1461501637330902918203684832716283019655932598995 := by omega
  have mf := mfind_pidx x y
  simp only [kkP] at mf
  by_cases h0 : n = 0
  · subst h0
    cases G with
    | none =>
      simp -implicitDefEqProofs (disch := first | omega | (simp <;> fail) | assumption) [grOb, setG, hg, n4, nm, k, rn4, d4, rnm, dm, dg, hmod, hne4, hne4', hnem, hnem', a1, hkk, hkk', hkk2]
    | some p =>
      obtain ⟨z, es⟩ := p
      have mf1 := mf es 0
      cases hp : pidx x y es 0 with
      | none =>
        rw [hp] at mf1
        simp only [Option.map_none] at mf1
        simp -implicitDefEqProofs (disch := first | omega | (simp <;> fail) | assumption) [grOb, setG, hg, n4, nm, k, rn4, d4, rnm, dm, dg, hmod, hne4, hne4', hnem, hnem', a1, hkk, hkk', hkk2, hp, mf1]
      | some p =>
        obtain ⟨i, m⟩ := p
        rw [hp] at mf1
        simp only [Option.map_some] at mf1
        simp -implicitDefEqProofs (disch := first | omega | (simp <;> fail) | assumption) [grOb, setG, hg, n4, nm, k, rn4, d4, rnm, dm, dg, hmod, hne4, hne4', hnem, hnem', a1, hkk, hkk', hkk2, hp, mf1, eraseIdx_row]
  · cases G with
    | none =>
      simp -implicitDefEqProofs (disch := first | omega | (simp <;> fail) | assumption) [grOb, setG, hg, n4, nm, k, rn4, d4, rnm, dm, dg, hmod, hne4, hne4', hnem, hnem', a1, hkk, hkk', hkk2, h0, mupd, mfind, En.row]
    | some p =>
      obtain ⟨z, es⟩ := p
      have mf1 := mf es 0
      cases hp : pidx x y es 0 with
      | none =>
        rw [hp] at mf1
        simp only [Option.map_none] at mf1
        simp -implicitDefEqProofs (disch := first | omega | (simp <;> fail) | assumption) [grOb, setG, hg, n4, nm, k, rn4, d4, rnm, dm, dg, hmod, hne4, hne4', hnem, hnem', a1, hkk, hkk', hkk2, h0, mupd, hp, mf1, En.row]
      | some p =>
        obtain ⟨i, m⟩ := p
        rw [hp] at mf1
        simp only [Option.map_some] at mf1
        have hi := (pidx_lt hp).2.1
        rw [Nat.zero_add] at hi
        have hst := stampAt_row hi
        simp -implicitDefEqProofs (disch := first | omega | (simp <;> fail) | assumption) [-stampAt, -setRow, grOb, setG, hg, n4, nm, k, rn4, d4, rnm, dm, dg, hmod, hne4, hne4', hnem, hnem', a1, hkk, hkk', hkk2, h0, mupd, hp, mf1, hst]
        simp [setRow, En.row]
end Go.Am
