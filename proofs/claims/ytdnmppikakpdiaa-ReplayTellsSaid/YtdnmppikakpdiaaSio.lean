/- The order of what is told, and lists in order. -/
import Derived.Test.YtdnmppikakpdiaaSic
set_option linter.unusedVariables false
set_option linter.unusedSimpArgs false
set_option maxRecDepth 10000
set_option maxHeartbeats 2000000
namespace Go.Am.Si
open Go.Am
def ltE (x y : Ev) : Prop := x.b < y.b ∨ x.b = y.b ∧ x.i < y.i
instance (x y : Ev) : Decidable (ltE x y) := by unfold ltE; infer_instance
def cmpE (x y : Ev) : Int := if ltE x y then -1 else if ltE y x then 1 else 0
def leE (x y : Ev) : Prop := ¬ ltE y x
theorem cmpE_lt (x y : Ev) : (cmpE x y < 0) = (ltE x y) := by
  unfold cmpE; split <;> simp_all; split <;> omega
theorem leE_refl (x : Ev) : leE x x := by unfold leE ltE; omega
theorem leE_total (x y : Ev) : leE x y ∨ leE y x := by unfold leE ltE; omega
theorem leE_trans {x y z : Ev} (h : leE x y) (h2 : leE y z) : leE x z := by unfold leE ltE at *; omega
theorem leE_anti {x y : Ev} (h : leE x y) (h2 : leE y x) : x = y := by
  cases x; cases y
  simp only [leE, ltE] at h h2
  simp only [Ev.mk.injEq]
  omega
theorem le_of_lt {x y : Ev} (h : ltE x y) : leE x y := by unfold leE ltE at *; omega
theorem lt_le {x y z : Ev} (h : ltE x y) (h2 : leE y z) : ltE x z := by unfold leE ltE at *; omega
theorem le_lt {x y z : Ev} (h : leE x y) (h2 : ltE y z) : ltE x z := by unfold leE ltE at *; omega
theorem ltE_of_not_le {x y : Ev} (h : ¬ leE x y) : ltE y x := by unfold leE at h; exact Decidable.not_not.1 h
def Sor (l : List Ev) : Prop := l.Pairwise leE
def insE (x : Ev) : List Ev → List Ev
  | [] => [x]
  | y :: l => if ltE y x then y :: insE x l else x :: y :: l
def srtE : List Ev → List Ev
  | [] => []
  | x :: l => insE x (srtE l)
theorem insE_perm (x : Ev) (l : List Ev) : (insE x l).Perm (x :: l) := by
  induction l with
  | nil => exact List.Perm.refl _
  | cons y l ih =>
    unfold insE; split
    · exact (ih.cons y).trans (List.Perm.swap _ _ _)
    · exact List.Perm.refl _
theorem insE_sor (x : Ev) (l : List Ev) (h : Sor l) : Sor (insE x l) := by
  induction l with
  | nil => simp [insE, Sor]
  | cons y l ih =>
    unfold Sor at h ih ⊢
    rw [List.pairwise_cons] at h
    unfold insE; split
    · rename_i hl
      rw [List.pairwise_cons]
      refine ⟨fun z hz => ?_, ih h.2⟩
      rcases List.mem_cons.1 ((insE_perm x l).mem_iff.1 hz) with rfl | hz
      · exact le_of_lt hl
      · exact h.1 z hz
    · rename_i hl
      rw [List.pairwise_cons, List.pairwise_cons]
      refine ⟨fun z hz => ?_, h⟩
      rcases List.mem_cons.1 hz with rfl | hz
      · exact hl
      · exact leE_trans hl (h.1 z hz)
theorem srtE_perm (l : List Ev) : (srtE l).Perm l := by
  induction l with
  | nil => exact List.Perm.refl _
  | cons x l ih => exact (insE_perm x _).trans (ih.cons x)
theorem srtE_sor (l : List Ev) : Sor (srtE l) := by
  induction l with
  | nil => simp [srtE, Sor]
  | cons x l ih => exact insE_sor x _ ih
theorem srtE_uniq {l m : List Ev} (h : Sor l) (hp : l.Perm m) : l = srtE m :=
  List.Perm.eq_of_pairwise (fun a b _ _ h1 h2 => leE_anti h1 h2) h (srtE_sor m) (hp.trans (srtE_perm m).symm)
theorem srtE_len (l : List Ev) : (srtE l).length = l.length := (srtE_perm l).length_eq
theorem srtE_congr {l m : List Ev} (hp : l.Perm m) : srtE l = srtE m := srtE_uniq (srtE_sor l) ((srtE_perm l).trans hp)
theorem srtE_id {l : List Ev} (h : Sor l) : srtE l = l := (srtE_uniq h (List.Perm.refl _)).symm
theorem sor_app {l m : List Ev} : Sor (l ++ m) ↔ Sor l ∧ Sor m ∧ ∀ a ∈ l, ∀ b ∈ m, leE a b := List.pairwise_append
theorem sor_cons {x : Ev} {m : List Ev} : Sor (x :: m) ↔ (∀ b ∈ m, leE x b) ∧ Sor m := List.pairwise_cons
theorem sor_nil : Sor [] := List.Pairwise.nil
/-- In a row in order the places are in order. -/
theorem sor_get {l : List Ev} (h : Sor l) {i j : Nat} (hij : i ≤ j) (hj : j < l.length) : leE (l[i]'(by omega)) l[j] := by
  rcases Nat.lt_or_ge i j with hlt | hge
  · exact List.pairwise_iff_getElem.1 h i j (by omega) hj hlt
  · obtain rfl : i = j := by omega
    exact leE_refl _
/-- One more is put behind all that are not greater. -/
theorem srt_put {A R1 R2 : List Ev} {x : Ev} (hs : srtE A = R1 ++ R2) (h1 : ∀ r ∈ R1, leE r x) (h2 : ∀ r ∈ R2, ltE x r) : srtE (A ++ [x]) = R1 ++ x :: R2 := by
  refine (srtE_uniq ?_ ?_).symm
  · have := srtE_sor A
    rw [hs, sor_app] at this
    rw [sor_app, sor_cons]
    refine ⟨this.1, ⟨fun b hb => le_of_lt (h2 b hb), this.2.1⟩, fun a ha b hb => ?_⟩
    rcases List.mem_cons.1 hb with rfl | hb
    · exact h1 a ha
    · exact this.2.2 a ha b hb
  · have := srtE_perm A
    rw [hs] at this
    exact List.perm_middle.trans ((this.cons x).trans (List.perm_append_singleton x A).symm)
end Go.Am.Si
