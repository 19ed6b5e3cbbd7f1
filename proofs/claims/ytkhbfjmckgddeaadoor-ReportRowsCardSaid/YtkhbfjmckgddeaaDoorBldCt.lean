/- What is written into a strings.Builder (text of a template: Ct). -/
import Derived.Test.YtkhbfjmckgddeaaDoorColsCode
set_option linter.unusedVariables false
set_option linter.unusedSimpArgs false
set_option maxRecDepth 10000
set_option maxHeartbeats 1000000
namespace Go.Am.Ct
/-- The builder's key. -/
@[simp] abbrev kB : Nat := kt_cols_Text_4
def bRows (t : List UInt8) : List (List AV) := t.map (toAV ∘ u8row)
/-- The builder with a text written, before other objects. -/
def bOb (t : List UInt8) (rest : List (Nat × Obj)) : List (Nat × Obj) := match t with
  | [] => (kB, ⟨2, [[.ot .np, .nil 1]]⟩) :: rest
  | b :: r => (kB, ⟨2, [[.loc kB 0 0, .sl kt_buf (r.length + 1) 0 (r.length + 1)]]⟩) :: (kt_buf, ⟨1, bRows (b :: r)⟩) :: rest
/-- Other objects: none of the builder's. -/
structure RestOk (rest : List (Nat × Obj)) : Prop where
  dK : del rest kB = rest
  dB : del rest kt_buf = rest
  nB : nmOb kt_buf rest = true
  lB : lcOb kt_buf rest = true
structure GsOk (gs : List (Nat × AV)) : Prop where
  g : Gh gs
  nB : nmFr kt_buf gs = true
  lB : lcFr kt_buf gs = true
def CopyC (g : St → Option (List AV × List (Nat × Obj))) : Prop := ∀ gs rest v, Gh gs → del rest kB = rest →
  (g ⟨(0, .loc kB 0 0) :: gs, (kB, ⟨2, [[.ot .np, v]]⟩) :: rest⟩ = some ([], (kB, ⟨2, [[.loc kB 0 0, v]]⟩) :: rest) ∧ g ⟨(0, .loc kB 0 0) :: gs, (kB, ⟨2, [[.loc kB 0 0, v]]⟩) :: rest⟩ = some ([], (kB, ⟨2, [[.loc kB 0 0, v]]⟩) :: rest))
def CopyC7 (g : St → Option (List AV × List (Nat × Obj))) : Prop := ∀ gs ob v, Gh gs → get ob kB = some ⟨2, [[.loc kB 0 0, v]]⟩ → g ⟨(0, .loc kB 0 0) :: gs, ob⟩ = some ([], ob)
theorem copyCheck_run7 (Γ : Env) (M : Nat) : CopyC7 (runP Γ M strings_Builder_copyCheck_f) := by
  intro gs ob v hg hr
  simp only [kB, kt_cols_Text_4] at hr
  simp -implicitDefEqProofs (disch := first | omega | (simp [hg] <;> fail) | assumption) [hg, hr]
theorem copyCheck_run (Γ : Env) (M : Nat) : CopyC (runP Γ M strings_Builder_copyCheck_f) := by
  intro gs rest v hg hr
  constructor
  · simp -implicitDefEqProofs (disch := first | omega | (simp [hg] <;> fail) | assumption) [hg, hr]
  · simp -implicitDefEqProofs (disch := first | omega | (simp [hg] <;> fail) | assumption) [hg, hr]
theorem lcRow_u8 (k : Nat) (b : UInt8) : lcRow k (List.map AV.c (u8row b)) = true := rfl
def WrC (g : St → Option (List AV × List (Nat × Obj))) : Prop := ∀ gs rest t s, GsOk gs → RestOk rest → (t ≠ [] ∨ s ≠ []) → t.length + s.length ≤ 1000000 →
  g ⟨(0, .loc kB 0 0) :: (1, st s) :: gs, bOb t rest⟩ = some ([i64 s.length, .ot .ni], bOb (t ++ s) rest)
theorem WriteString_run (Γ : Env) (M : Nat) (hc : CopyC (Γ.pt 228)) : WrC (runP Γ M strings_Builder_WriteString_f) := by
  intro gs rest t s ⟨hg, hn, hl⟩ ⟨r1, r2, r3, r4⟩ hne hlen
  cases t with
  | nil =>
    obtain ⟨b, r, rfl⟩ : ∃ b r, s = b :: r := by cases s with | nil => simp at hne | cons b r => exact ⟨b, r, rfl⟩
    have hcc := fun gs h => (hc gs rest (.nil 1) h r1).1
    simp only [List.length_cons, List.length_nil] at hlen
    simp only [bOb, List.nil_append]
    simp -implicitDefEqProofs (disch := first | omega | (simp [hg] <;> fail) | assumption) [hg, hn, hl, r1, r2, r3, r4, hcc, bRows]
  | cons b r =>
    have hcc := fun gs h => (hc gs ((kt_buf, ⟨1, bRows (b :: r)⟩) :: rest) (.sl kt_buf (r.length + 1) 0 (r.length + 1)) h (by simp [r1])).2
    simp [bRows] at hcc
    simp only [List.length_cons] at hlen
    simp only [bOb, List.cons_append]
    have hcm : r.length + s.length + 1 = r.length + 1 + s.length := by omega
    simp -implicitDefEqProofs (disch := first | omega | (simp [hg] <;> fail) | assumption) [hg, hn, hl, r1, r2, r3, r4, hcc, bRows, lcRow_u8, hcm]
/-- As WrC, where one more object lies in front. -/
def WrC7 (g : St → Option (List AV × List (Nat × Obj))) : Prop := ∀ gs rest t s (o : Obj), GsOk gs → RestOk rest → nmRows kt_buf o.rows = true → lcRows kt_buf o.rows = true → t ≠ [] → t.length + s.length ≤ 1000000 →
  g ⟨(0, .loc kB 0 0) :: (1, st s) :: gs, (7, o) :: bOb t rest⟩ = some ([i64 s.length, .ot .ni], bOb (t ++ s) ((7, o) :: rest))
theorem WriteString_run7 (Γ : Env) (M : Nat) (hc : CopyC7 (Γ.pt 228)) : WrC7 (runP Γ M strings_Builder_WriteString_f) := by
  intro gs rest t s o ⟨hg, hn, hl⟩ ⟨r1, r2, r3, r4⟩ ho1 ho2 hne hlen
  cases t with
  | nil => exact (hne rfl).elim
  | cons b r =>
    have hcc := fun gs h => hc gs ((7, o) :: (kB, ⟨2, [[.loc kB 0 0, .sl kt_buf (r.length + 1) 0 (r.length + 1)]]⟩) :: (kt_buf, ⟨1, bRows (b :: r)⟩) :: rest) (.sl kt_buf (r.length + 1) 0 (r.length + 1)) h (by simp)
    simp [bRows] at hcc
    simp only [List.length_cons] at hlen
    simp only [bOb, List.cons_append]
    have hcm : r.length + s.length + 1 = r.length + 1 + s.length := by omega
    simp -implicitDefEqProofs (disch := first | omega | (simp [hg] <;> fail) | assumption) [hg, hn, hl, r1, r2, r3, r4, ho1, ho2, hcc, bRows, lcRow_u8, hcm]
theorem RestOk.seven {rest : List (Nat × Obj)} {o : Obj} (h : RestOk rest) (h1 : nmRows kt_buf o.rows = true) (h2 : lcRows kt_buf o.rows = true) : RestOk ((7, o) :: rest) :=
  ⟨by simp [h.dK], by simp [h.dB], by simp [h.nB, h1], by simp [h.lB, h2]⟩
def StrC (g : St → Option (List AV × List (Nat × Obj))) : Prop := ∀ gs rest t, GsOk gs → RestOk rest → t ≠ [] → t.length ≤ 1000000 →
  g ⟨(0, .loc kB 0 0) :: gs, bOb t rest⟩ = some ([st t], (kB, ⟨2, [[.loc kB 0 0, .sl kt_buf t.length 0 t.length]]⟩) :: rest)
attribute [-simp] isU8 isByte u8of
theorem u8le (a : UInt8) : (a.toNat : Int) ≤ 255 := by have := a.toNat_lt; omega
theorem allD_u8 (b : UInt8) : allD (List.map AV.c (u8row b)) = some (u8row b) := rfl
theorem isU8_all (r : List UInt8) : ∀ x ∈ List.map u8row r, isU8 x = true := by
  intro x hx
  have := u8row_all r
  rw [List.all_eq_true] at this
  exact this x hx
theorem u8comp : u8of ∘ u8row = id := funext fun b => by simp [u8row, u8of]
theorem isByte_row (b : UInt8) : isByte (u8row b) = true := by
  have := u8le b
  simp [u8row, isByte, this]
theorem isU8_row (b : UInt8) : isU8 (u8row b) = true := by
  have := isU8_all [b] (u8row b) (by simp)
  exact this
theorem u8of_row (b : UInt8) : u8of (u8row b) = b := congrFun u8comp b
theorem BString_run (Γ : Env) (M : Nat) : StrC (runP Γ M strings_Builder_String_f) := by
  intro gs rest t ⟨hg, hn, hl⟩ ⟨r1, r2, r3, r4⟩ hne hlen
  obtain ⟨b, r, rfl⟩ : ∃ b r, t = b :: r := by cases t with | nil => simp at hne | cons b r => exact ⟨b, r, rfl⟩
  simp only [List.length_cons] at hlen
  have hle : (r.length : Int) + 1 ≤ 9223372036854775807 := by omega
  simp only [bOb]
  simp -implicitDefEqProofs (disch := first | omega | (simp [hg] <;> fail) | assumption) [hg, hn, hl, r1, r2, r3, r4, bRows, allD_u8, u8comp, isU8_row, isByte_row, u8of_row, hle]
/-- With an object in front. -/
def CopyK (g : St → Option (List AV × List (Nat × Obj))) : Prop := ∀ gs rest v (K : Nat) (o : Obj), Gh gs → del rest kB = rest → K < 1000 →
  g ⟨(0, .loc kB 0 0) :: gs, (K, o) :: (kB, ⟨2, [[.ot .np, v]]⟩) :: rest⟩ = some ([], (kB, ⟨2, [[.loc kB 0 0, v]]⟩) :: (K, o) :: rest)
theorem copyCheck_runK (Γ : Env) (M : Nat) : CopyK (runP Γ M strings_Builder_copyCheck_f) := by
  intro gs rest v K o hg hr hK
  have n1 : ¬ K = kB := by simp only [kB, kt_cols_Text_4]; omega
  simp only [kB, kt_cols_Text_4] at n1
  simp -implicitDefEqProofs (disch := first | omega | (simp [hg] <;> fail) | assumption) [hg, hr, n1]
def WrK (g : St → Option (List AV × List (Nat × Obj))) : Prop := ∀ gs rest t s (K : Nat) (o : Obj), GsOk gs → RestOk rest → K < 1000 → nmRows kt_buf o.rows = true → lcRows kt_buf o.rows = true → (t ≠ [] ∨ s ≠ []) → t.length + s.length ≤ 1000000 →
  g ⟨(0, .loc kB 0 0) :: (1, st s) :: gs, (K, o) :: bOb t rest⟩ = some ([i64 s.length, .ot .ni], bOb (t ++ s) ((K, o) :: rest))
theorem WriteString_runK (Γ : Env) (M : Nat) (hc : CopyC7 (Γ.pt 228)) (hk : CopyK (Γ.pt 228)) : WrK (runP Γ M strings_Builder_WriteString_f) := by
  intro gs rest t s K o ⟨hg, hn, hl⟩ ⟨r1, r2, r3, r4⟩ hK ho1 ho2 hne hlen
  have n1 : ¬ K = kB := by simp only [kB, kt_cols_Text_4]; omega
  have n2 : ¬ K = kt_buf := by simp only [kt_buf]; omega
  simp only [kB, kt_cols_Text_4, kt_buf] at n1 n2
  have n2' : ¬ kt_buf = K := by simp only [kt_buf]; omega
  cases t with
  | nil =>
    obtain ⟨b, r, rfl⟩ : ∃ b r, s = b :: r := by cases s with | nil => simp at hne | cons b r => exact ⟨b, r, rfl⟩
    have hcc := fun gs h => hk gs rest (.nil 1) K o h r1 hK
    simp only [List.length_cons, List.length_nil] at hlen
    simp only [bOb, List.nil_append]
    simp -implicitDefEqProofs (disch := first | omega | (simp [hg] <;> fail) | assumption) [hg, hn, hl, r1, r2, r3, r4, ho1, ho2, hcc, bRows, n1, n2]
  | cons b r =>
    have hcc := fun gs h => hc gs ((K, o) :: (kB, ⟨2, [[.loc kB 0 0, .sl kt_buf (r.length + 1) 0 (r.length + 1)]]⟩) :: (kt_buf, ⟨1, bRows (b :: r)⟩) :: rest) (.sl kt_buf (r.length + 1) 0 (r.length + 1)) h (by simp [n1])
    simp [bRows] at hcc
    simp only [List.length_cons] at hlen
    simp only [bOb, List.cons_append]
    have hcm : r.length + s.length + 1 = r.length + 1 + s.length := by omega
    simp -implicitDefEqProofs (disch := first | omega | (simp [hg] <;> fail) | assumption) [hg, hn, hl, r1, r2, r3, r4, ho1, ho2, hcc, bRows, lcRow_u8, hcm, n1, n2]
/-- Nothing was written. -/
def StrC0 (g : St → Option (List AV × List (Nat × Obj))) : Prop := ∀ gs rest, Gh gs → g ⟨(0, .loc kB 0 0) :: gs, bOb [] rest⟩ = some ([st []], bOb [] rest)
theorem BString_run0 (Γ : Env) (M : Nat) : StrC0 (runP Γ M strings_Builder_String_f) := by
  intro gs rest hg
  simp only [bOb]
  simp -implicitDefEqProofs (disch := first | omega | (simp [hg] <;> fail) | assumption) [hg]
end Go.Am.Ct
