/- What is written into a strings.Builder, empty texts as well (text of a template: Ct). -/
import Derived.Test.YtkhbfjmckgddeaaDoorBldCt
set_option linter.unusedVariables false
set_option linter.unusedSimpArgs false
set_option maxRecDepth 10000
set_option maxHeartbeats 1000000
namespace Go.Am.Ct
/-- The builder, written into. -/
def bT (t : List UInt8) (rest : List (Nat × Obj)) : List (Nat × Obj) := (kB, ⟨2, [[.loc kB 0 0, .sl kt_buf t.length 0 t.length]]⟩) :: (kt_buf, ⟨1, bRows t⟩) :: rest
/-- The builder, not yet written into. -/
def bN (rest : List (Nat × Obj)) : List (Nat × Obj) := (kB, ⟨2, [[.ot .np, .nil 1]]⟩) :: rest
theorem bOb_bT {t : List UInt8} (h : t ≠ []) (rest : List (Nat × Obj)) : bOb t rest = bT t rest := by
  cases t with
  | nil => exact (h rfl).elim
  | cons b r => rfl
def WrA (g : St → Option (List AV × List (Nat × Obj))) : Prop := ∀ gs rest t s, GsOk gs → RestOk rest → t.length + s.length ≤ 1000000 →
  g ⟨(0, .loc kB 0 0) :: (1, st s) :: gs, bT t rest⟩ = some ([i64 s.length, .ot .ni], bT (t ++ s) rest)
theorem WriteString_runA (Γ : Env) (M : Nat) (hc : CopyC (Γ.pt 228)) : WrA (runP Γ M strings_Builder_WriteString_f) := by
  intro gs rest t s h r hl
  by_cases ht : t = []
  · subst ht
    have hcc := fun gs h => (hc gs ((kt_buf, ⟨1, []⟩) :: rest) (.sl kt_buf 0 0 0) h (by simp [r.dK])).2
    obtain ⟨hg, hn, hl'⟩ := h
    obtain ⟨r1, r2, r3, r4⟩ := r
    have h0 : 0 + s.length = s.length := by omega
    simp only [bT, List.nil_append, List.length_nil]
    simp -implicitDefEqProofs (disch := first | omega | (simp [hg] <;> fail) | assumption) [hg, hn, hl', r1, r2, r3, r4, hcc, bRows]
  · rw [← bOb_bT ht, ← bOb_bT (by simp [ht])]
    exact WriteString_run Γ M hc gs rest t s h r (.inl ht) hl
def WrN (g : St → Option (List AV × List (Nat × Obj))) : Prop := ∀ gs rest s, GsOk gs → RestOk rest → s.length ≤ 1000000 →
  g ⟨(0, .loc kB 0 0) :: (1, st s) :: gs, bN rest⟩ = some ([i64 s.length, .ot .ni], bT s rest)
theorem WriteString_runN (Γ : Env) (M : Nat) (hc : CopyC (Γ.pt 228)) : WrN (runP Γ M strings_Builder_WriteString_f) := by
  intro gs rest s h r hl
  by_cases hs : s = []
  · subst hs
    have hcc := fun gs h => (hc gs rest (.nil 1) h r.dK).1
    obtain ⟨hg, hn, hl'⟩ := h
    obtain ⟨r1, r2, r3, r4⟩ := r
    simp only [bT, bN, List.length_nil]
    simp -implicitDefEqProofs (disch := first | omega | (simp [hg] <;> fail) | assumption) [hg, hn, hl', r1, r2, r3, r4, hcc, bRows]
  · rw [← bOb_bT hs]
    exact WriteString_run Γ M hc gs rest [] s h r (.inr hs) (by simp; omega)
/-- What was written. -/
def StrA (g : St → Option (List AV × List (Nat × Obj))) : Prop := ∀ gs rest t, GsOk gs → RestOk rest → t.length ≤ 1000000 →
  g ⟨(0, .loc kB 0 0) :: gs, bT t rest⟩ = some ([st t], if t = [] then bT t rest else (kB, ⟨2, [[.loc kB 0 0, .sl kt_buf t.length 0 t.length]]⟩) :: rest)
theorem BString_runA (Γ : Env) (M : Nat) : StrA (runP Γ M strings_Builder_String_f) := by
  intro gs rest t h r hl
  by_cases ht : t = []
  · subst ht
    obtain ⟨hg, hn, hl'⟩ := h
    obtain ⟨r1, r2, r3, r4⟩ := r
    simp only [bT, List.length_nil, if_true]
    simp -implicitDefEqProofs (disch := first | omega | (simp [hg] <;> fail) | assumption) [hg, hn, hl', r1, r2, r3, r4, bRows]
  · rw [← bOb_bT ht, if_neg ht]
    exact BString_run Γ M gs rest t h r ht hl
end Go.Am.Ct
