/- Lists of objects: what is left out, what is named. -/
import Derived.Test.YtkigddhdbnganaaAs
set_option linter.unusedVariables false
set_option linter.unusedSimpArgs false
namespace Go.Am
theorem kf_iff {lo hi : Nat} : ∀ {ob : List (Nat × Obj)}, Kf lo hi ob ↔ ∀ p ∈ ob, p.1 % KT < lo ∨ hi ≤ p.1 % KT
  | [] => by simp
  | (k, o) :: ob => by
    constructor
    · intro h p hp
      have h0 := h []
      simp only [keepF, List.not_mem_nil, or_false] at h0
      split at h0
      · rename_i hk
        rcases List.mem_cons.1 hp with rfl | hp
        · exact hk
        · exact (kf_iff.1 ((kf_cons hk).1 h)) p hp
      · exfalso
        have hl : ∀ l : List (Nat × Obj), (keepF lo hi [] l).length ≤ l.length := by
          intro l
          induction l with
          | nil => simp [keepF]
          | cons q l ih =>
            obtain ⟨i, v⟩ := q
            simp only [keepF]
            split
            · simpa using ih
            · simp only [List.length_cons]; omega
        have := hl ob
        rw [h0] at this
        simp at this
        omega
    · intro h
      exact (kf_cons (h (k, o) (by simp))).2 (kf_iff.2 fun p hp => h p (List.mem_cons_of_mem _ hp))
theorem mem_keepF {lo hi : Nat} {os : List Nat} : ∀ {ob : List (Nat × Obj)} {p : Nat × Obj}, p ∈ keepF lo hi os ob → p ∈ ob
  | [], p, h => by simp [keepF] at h
  | (k, o) :: ob, p, h => by
    simp only [keepF] at h
    split at h
    · rcases List.mem_cons.1 h with rfl | h
      · simp
      · exact List.mem_cons_of_mem _ (mem_keepF h)
    · exact List.mem_cons_of_mem _ (mem_keepF h)
theorem mem_delO {k : Nat} : ∀ {ob : List (Nat × Obj)} {p : Nat × Obj}, p ∈ del ob k → p ∈ ob
  | [], p, h => by simp [del] at h
  | (j, o) :: ob, p, h => by
    simp only [del] at h
    split at h
    · exact List.mem_cons_of_mem _ (mem_delO h)
    · rcases List.mem_cons.1 h with rfl | h
      · simp
      · exact List.mem_cons_of_mem _ (mem_delO h)
theorem kf_keep {lo hi a b : Nat} {os : List Nat} {ob : List (Nat × Obj)} (h : Kf lo hi ob) : Kf lo hi (keepF a b os ob) := kf_iff.2 fun p hp => kf_iff.1 h p (mem_keepF hp)
theorem kf_kept (lo hi : Nat) (ob : List (Nat × Obj)) : Kf lo hi (keepF lo hi [] ob) := by
  induction ob with
  | nil => simp [keepF]
  | cons p ob ih =>
    obtain ⟨k, o⟩ := p
    simp only [keepF, List.not_mem_nil, or_false]
    split
    · rename_i hk; exact (kf_cons hk).2 ih
    · exact ih
theorem kf_delO {lo hi k : Nat} {ob : List (Nat × Obj)} (h : Kf lo hi ob) : Kf lo hi (del ob k) := kf_iff.2 fun p hp => kf_iff.1 h p (mem_delO hp)
theorem nmOb_iff {k : Nat} : ∀ {ob : List (Nat × Obj)}, nmOb k ob = true ↔ ∀ p ∈ ob, nmRows k p.2.rows = true
  | [] => by simp
  | (j, o) :: ob => by simp [nmOb, nmOb_iff (ob := ob)]
theorem nmOb_keep {k lo hi : Nat} {os : List Nat} {ob : List (Nat × Obj)} (h : nmOb k ob = true) : nmOb k (keepF lo hi os ob) = true := nmOb_iff.2 fun p hp => nmOb_iff.1 h p (mem_keepF hp)
theorem nmOb_delO {k j : Nat} {ob : List (Nat × Obj)} (h : nmOb k ob = true) : nmOb k (del ob j) = true := nmOb_iff.2 fun p hp => nmOb_iff.1 h p (mem_delO hp)
theorem isLoc_names (k : Nat) (v : AV) (h : v.names k = false) : v.isLoc k = false := by
  cases v <;> simp_all [AV.names, AV.isLoc, AV.names1, AV.isLoc1]
  case tup vs => intro x hx; have := h x hx; cases x <;> simp_all [AV.names1, AV.isLoc1]
  case ags vs => intro x hx; have := h x hx; cases x <;> simp_all [AV.names1, AV.isLoc1]
theorem lcRow_nm (k : Nat) : ∀ r : List AV, nmRow k r = true → lcRow k r = true
  | [], _ => rfl
  | v :: r, h => by
    simp only [nmRow, Bool.and_eq_true, Bool.not_eq_true'] at h
    simp only [lcRow, isLoc_names k v h.1, lcRow_nm k r h.2, Bool.not_false, Bool.and_self]
theorem lcRows_nm (k : Nat) : ∀ r : Rows, nmRows k r = true → lcRows k r = true
  | [], _ => rfl
  | v :: r, h => by
    simp only [nmRows, Bool.and_eq_true] at h
    simp only [lcRows, lcRow_nm k v h.1, lcRows_nm k r h.2, Bool.and_self]
theorem lcOb_nm {k : Nat} : ∀ {ob : List (Nat × Obj)}, nmOb k ob = true → lcOb k ob = true
  | [], _ => rfl
  | (j, o) :: r, h => by
    simp only [nmOb, Bool.and_eq_true] at h
    simp only [lcOb, lcRows_nm k _ h.1, lcOb_nm h.2, Bool.and_self]
theorem lcFr_nm {k : Nat} : ∀ {l : List (Nat × AV)}, nmFr k l = true → lcFr k l = true
  | [], _ => rfl
  | (j, v) :: r, h => by
    simp only [nmFr, Bool.and_eq_true, Bool.not_eq_true'] at h
    simp only [lcFr, isLoc_names k v h.1, lcFr_nm h.2, Bool.not_false, Bool.and_self]
theorem del_kf {lo hi k : Nat} {ob : List (Nat × Obj)} (h : Kf lo hi ob) (h1 : lo ≤ k % KT) (h2 : k % KT < hi) : del ob k = ob := by
  refine del_absent _ _ ?_
  cases hg : get ob k with
  | none => rfl
  | some o =>
    exfalso
    have : ∀ {l : List (Nat × Obj)} {o : Obj}, get l k = some o → ∃ p ∈ l, p.1 = k := by
      intro l
      induction l with
      | nil => intro o h; simp [Go.Am.get] at h
      | cons q l ih =>
        intro o h
        obtain ⟨i, v⟩ := q
        simp only [Go.Am.get] at h
        split at h
        · rename_i hik; exact ⟨(i, v), by simp, hik⟩
        · obtain ⟨p, hp, he⟩ := ih h
          exact ⟨p, List.mem_cons_of_mem _ hp, he⟩
    obtain ⟨p, hp, rfl⟩ := this hg
    have := kf_iff.1 h p hp
    omega
theorem get_kf {lo hi k : Nat} {ob : List (Nat × Obj)} (h : Kf lo hi ob) (h1 : lo ≤ k % KT) (h2 : k % KT < hi) : get ob k = none := by
  rw [← del_kf h h1 h2, get_del, if_pos rfl]
theorem get_keepO {lo hi k : Nat} {os : List Nat} (hk : k % KT < lo ∨ hi ≤ k % KT) : ∀ ob : List (Nat × Obj), get (keepF lo hi os ob) k = get ob k
  | [] => rfl
  | (j, o) :: ob => by
    simp only [keepF]
    split
    · simp only [Go.Am.get, get_keepO hk ob]
    · rename_i hj
      have : ¬ j = k := by rintro rfl; exact hj (hk.elim .inl fun h => .inr (.inl h))
      simp only [Go.Am.get, if_neg this, get_keepO hk ob]
theorem get_nm {k i : Nat} {o : Obj} {ob : List (Nat × Obj)} (h : nmOb k ob = true) (hg : get ob i = some o) : nmRows k o.rows = true := by
  induction ob with
  | nil => simp [Go.Am.get] at hg
  | cons q l ih =>
    obtain ⟨j, v⟩ := q
    simp only [nmOb, Bool.and_eq_true] at h
    simp only [Go.Am.get] at hg
    split at hg
    · simp only [Option.some.injEq] at hg; subst hg; exact h.1
    · exact ih h.2 hg
end Go.Am
