/- Law 70, plain: All's rows are the document's, in order. -/
import Derived.Test.YtkhbfjmckgddeaaDoorBfB
set_option linter.unusedVariables false
set_option linter.unusedSimpArgs false
set_option maxRecDepth 10000
set_option maxHeartbeats 1000000
namespace Go.Am
open Go.Sort
/-- What became of those who came at a floor, for a direction. -/
def rowL (l : List Trip) (f d : Int) : BE := l.foldl (fun e t => if t.frm = f ∧ dirT t = d then e.add t else e) ⟨0, f, d, 0, 0, 0, 0⟩
theorem rowL_snoc (l : List Trip) (t : Trip) (f d : Int) : rowL (l ++ [t]) f d = if t.frm = f ∧ dirT t = d then (rowL l f d).add t else rowL l f d := by unfold rowL; rw [List.foldl_append]; rfl
theorem rowL_take (l : List Trip) (k : Nat) (h : k < l.length) (f d : Int) : rowL (l.take (k + 1)) f d = if l[k].frm = f ∧ dirT l[k] = d then (rowL (l.take k) f d).add l[k] else rowL (l.take k) f d := by
  rw [List.take_succ_eq_append_getElem h, rowL_snoc]
theorem rowL_none : ∀ (l : List Trip) (f d : Int), (∀ t ∈ l, ¬ (t.frm = f ∧ dirT t = d)) → rowL l f d = ⟨0, f, d, 0, 0, 0, 0⟩ := by
  intro l f d h
  unfold rowL
  induction l with
  | nil => rfl
  | cons t l ih =>
    rw [List.foldl_cons, if_neg (h t (by simp))]
    exact ih fun x hx => h x (by simp [hx])
theorem rowL_xy (l : List Trip) (f d : Int) : ∀ k, k ≤ l.length → (rowL (l.take k) f d).x = f ∧ (rowL (l.take k) f d).y = d
  | 0, _ => by simp [rowL]
  | k + 1, hk => by
    rw [rowL_take l k (by omega)]
    have := rowL_xy l f d k (by omega)
    split
    · rw [BE.add_x, BE.add_y]; exact this
    · exact this
theorem rowL_x (l : List Trip) (f d : Int) : (rowL l f d).x = f ∧ (rowL l f d).y = d := by
  have := rowL_xy l f d l.length (Nat.le_refl _)
  rwa [List.take_length] at this
theorem rowL_in {l : List Trip} (h : ∀ t ∈ l, Tb t) (f d : Int) : ∀ k : Nat, k ≤ l.length → (rowL (l.take k) f d).In k
  | 0, _ => by simp [rowL]; exact ⟨by simp, by simp, by simp, by simp⟩
  | k + 1, hk => by
    rw [rowL_take l k (by omega)]
    have := rowL_in h f d k (by omega)
    split
    · simpa using BE.add_in this (h _ (List.getElem_mem (by omega : k < l.length)))
    · exact this.mono (by omega)
theorem rowL_inA {l : List Trip} (h : ∀ t ∈ l, Tb t) (f d : Int) : (rowL l f d).In l.length := by
  have := rowL_in h f d l.length (Nat.le_refl _)
  rwa [List.take_length] at this
theorem add_w {e e' : BE} (h : e.w = e'.w) (t : Trip) : (e.add t).w = (e'.add t).w := by
  obtain ⟨b, x, y, c, s, u, m⟩ := e
  obtain ⟨b', x', y', c', s', u', m'⟩ := e'
  simp only [BE.w, List.cons.injEq, and_true] at h
  obtain ⟨rfl, rfl, rfl, rfl, rfl, rfl⟩ := h
  unfold BE.add
  split <;> rfl
theorem add_c (e : BE) (t : Trip) : (e.add t).c = e.c + 1 := by unfold BE.add; split <;> rfl
/-- The map's rows are the document's. -/
structure MInv (q : List BE × Nat) (l : List Trip) : Prop where
  row : ∀ e ∈ q.1, e.w = (rowL l e.x e.y).w ∧ 0 < e.c
  all : ∀ t ∈ l, ∃ e ∈ q.1, e.x = t.frm ∧ e.y = dirT t
theorem minv_snoc {q : List BE × Nat} {l : List Trip} (hE : EInv q) (h : MInv q l) (t : Trip) : MInv (addE q t) (l ++ [t]) := by
  obtain ⟨h1, h2⟩ := h
  unfold addE
  split
  · rename_i i e0 hi
    obtain ⟨-, hil, hg, hx, hy⟩ := bidx_lt hi
    simp only [Nat.sub_zero, Nat.zero_add] at hg hil
    obtain ⟨hi', he⟩ := List.getElem?_eq_some_iff.1 hg
    have hsplit : q.1 = q.1.take i ++ e0 :: q.1.drop (i + 1) := by rw [← he, List.getElem_cons_drop, List.take_append_drop]
    have hk := hE.key
    rw [hsplit, List.map_append, List.map_cons, List.nodup_append, List.nodup_cons] at hk
    obtain ⟨k1, ⟨k2, k3⟩, k4⟩ := hk
    have he0 := h1 e0 (List.mem_of_getElem? hg)
    have other : ∀ e, e ∈ q.1.take i ∨ e ∈ q.1.drop (i + 1) → e.w = (rowL (l ++ [t]) e.x e.y).w ∧ 0 < e.c := by
      intro e hm
      have hmem : e ∈ q.1 := hm.elim List.mem_of_mem_take List.mem_of_mem_drop
      have hne : ¬ (t.frm = e.x ∧ dirT t = e.y) := by
        rintro ⟨c1, c2⟩
        rcases hm with hm | hm
        · exact k4 (e.x, e.y) (List.mem_map.2 ⟨e, hm, rfl⟩) (e0.x, e0.y) (by simp) (by rw [hx, hy, c1, c2])
        · exact k2 (List.mem_map.2 ⟨e, hm, by rw [hx, hy, c1, c2]⟩)
      rw [rowL_snoc, if_neg hne]
      exact h1 e hmem
    refine ⟨fun e hm => ?_, fun t' ht' => ?_⟩
    · simp only [List.mem_append, List.mem_cons] at hm
      rcases hm with hm | rfl | hm
      · exact other e (.inl hm)
      · refine ⟨?_, ?_⟩
        · rw [BE.add_x, BE.add_y, rowL_snoc, if_pos ⟨hx.symm, hy.symm⟩]
          exact add_w he0.1 t
        · rw [add_c]; omega
      · exact other e (.inr hm)
    · have hset : ∀ e ∈ q.1, ∃ e' ∈ q.1.take i ++ e0.add t :: q.1.drop (i + 1), e'.x = e.x ∧ e'.y = e.y := by
        intro e hm
        rw [hsplit] at hm
        simp only [List.mem_append, List.mem_cons] at hm
        rcases hm with hm | rfl | hm
        · exact ⟨e, by simp [hm], rfl, rfl⟩
        · exact ⟨e.add t, by simp, BE.add_x _ _, BE.add_y _ _⟩
        · exact ⟨e, by simp [hm], rfl, rfl⟩
      rw [List.mem_append, List.mem_singleton] at ht'
      rcases ht' with ht' | rfl
      · obtain ⟨e, hm, c1, c2⟩ := h2 t' ht'
        obtain ⟨e', hm', d1, d2⟩ := hset e hm
        exact ⟨e', hm', by rw [d1, c1], by rw [d2, c2]⟩
      · obtain ⟨e', hm', d1, d2⟩ := hset e0 (List.mem_of_getElem? hg)
        exact ⟨e', hm', by rw [d1, hx], by rw [d2, hy]⟩
  · rename_i hi
    have hn := bidx_none hi
    have hz : rowL l t.frm (dirT t) = ⟨0, t.frm, dirT t, 0, 0, 0, 0⟩ := rowL_none l _ _ fun t' ht' c => by
      obtain ⟨e, hm, c1, c2⟩ := h2 t' ht'
      exact hn e hm ⟨by rw [c1, c.1], by rw [c2, c.2]⟩
    refine ⟨fun e hm => ?_, fun t' ht' => ?_⟩
    · simp only [List.mem_append, List.mem_singleton] at hm
      rcases hm with hm | rfl
      · have hne : ¬ (t.frm = e.x ∧ dirT t = e.y) := fun c => hn e hm ⟨c.1.symm, c.2.symm⟩
        rw [rowL_snoc, if_neg hne]
        exact h1 e hm
      · refine ⟨?_, ?_⟩
        · rw [BE.add_x, BE.add_y, rowL_snoc, if_pos ⟨rfl, rfl⟩, hz]
          exact add_w (e := ⟨q.2, t.frm, dirT t, 0, 0, 0, 0⟩) (e' := ⟨0, t.frm, dirT t, 0, 0, 0, 0⟩) rfl t
        · rw [add_c]; simp
    · rw [List.mem_append, List.mem_singleton] at ht'
      rcases ht' with ht' | rfl
      · obtain ⟨e, hm, c1, c2⟩ := h2 t' ht'
        exact ⟨e, by simp [hm], c1, c2⟩
      · exact ⟨BE.add ⟨q.2, t'.frm, dirT t', 0, 0, 0, 0⟩ t', by simp, BE.add_x _ _, BE.add_y _ _⟩
theorem entsB_minv (l : List Trip) : MInv (entsB l) l := by
  have key : ∀ k, k ≤ l.length → MInv (entsB (l.take k)) (l.take k) ∧ EInv (entsB (l.take k)) := by
    intro k
    induction k with
    | zero => intro _; simp only [List.take_zero, entsB, List.foldl_nil]; exact ⟨⟨by simp, by simp⟩, ⟨by simp, by simp, by simp⟩⟩
    | succ k ih =>
      intro hk
      rw [entsB_snoc l k (by omega), List.take_succ_eq_append_getElem (by omega)]
      exact ⟨minv_snoc (ih (by omega)).2 (ih (by omega)).1 _, addE_inv (ih (by omega)).2 _⟩
  have := (key l.length (Nat.le_refl _)).1
  rwa [List.take_length] at this
/-! ### The document's rows -/
def fAt (i : Nat) : Int := ((i / 3 : Nat) : Int)
def dAt (i : Nat) : Int := 1 - ((i % 3 : Nat) : Int)
def rowI3 (l : List Trip) (i : Nat) : BE := rowL l (fAt i) (dAt i)
def wantN (l : List Trip) (n : Nat) : List (List Int) := ((List.range n).filter fun i => decide ((rowI3 l i).c ≠ 0)).map fun i => (rowI3 l i).w
theorem wantN_snoc (l : List Trip) (n : Nat) : wantN l (n + 1) = wantN l n ++ if (rowI3 l n).c = 0 then [] else [(rowI3 l n).w] := by
  unfold wantN
  rw [List.range_succ, List.filter_append, List.map_append]
  congr 1
  by_cases c : (rowI3 l n).c = 0 <;> simp [c]
theorem wantN_len (l : List Trip) (n : Nat) : (wantN l n).length ≤ n := by
  unfold wantN; rw [List.length_map]; exact Nat.le_trans (List.length_filter_le _ _) (by simp)
theorem w0 (e : BE) : e.w.getD 0 0 = e.x := rfl
theorem w1 (e : BE) : e.w.getD 1 0 = e.y := rfl
theorem rowI3_x (l : List Trip) (i : Nat) : (rowI3 l i).x = fAt i ∧ (rowI3 l i).y = dAt i := rowL_x l _ _
theorem want_lt (l : List Trip) {i j : Nat} (h : i < j) : ltB (rowI3 l i).w (rowI3 l j).w = true ∧ ltB (rowI3 l j).w (rowI3 l i).w = false := by
  have h1 := rowI3_x l i
  have h2 := rowI3_x l j
  simp only [ltB, w0, w1, h1.1, h1.2, h2.1, h2.2]
  unfold fAt dAt
  have hc : i / 3 < j / 3 ∨ i / 3 = j / 3 ∧ i % 3 < j % 3 := by omega
  generalize i / 3 = a at *
  generalize j / 3 = b at *
  generalize i % 3 = c at *
  generalize j % 3 = d at *
  constructor
  · simp only [Bool.or_eq_true, Bool.and_eq_true, decide_eq_true_eq]; omega
  · simp only [Bool.or_eq_false_iff, Bool.and_eq_false_iff, decide_eq_false_iff_not]; omega
theorem wantN_sorted (l : List Trip) (n : Nat) : (wantN l n).Pairwise (fun a b => ltB b a = false) := by
  unfold wantN
  rw [List.pairwise_map]
  exact (List.Pairwise.filter _ List.pairwise_lt_range).imp fun h => (want_lt l h).2
theorem wantN_nodup (l : List Trip) (n : Nat) : (wantN l n).Nodup := by
  unfold wantN
  rw [List.Nodup, List.pairwise_map]
  refine (List.Pairwise.filter _ List.pairwise_lt_range).imp fun h he => ?_
  have := want_lt l h
  rw [he, this.2] at this
  exact absurd this.1 (by simp)
theorem wantN_mem {l : List Trip} (hl : ∀ t ∈ l, Tb t) {f d : Int} (hc : (rowL l f d).c ≠ 0) : (rowL l f d).w ∈ wantN l 384 := by
  have hex : ∃ t ∈ l, t.frm = f ∧ dirT t = d := by
    apply Classical.byContradiction
    intro hno
    apply hc
    rw [rowL_none l f d fun t ht c => hno ⟨t, ht, c⟩]
  obtain ⟨t, ht, rfl, rfl⟩ := hex
  obtain ⟨⟨t1, t2⟩, -⟩ := hl t ht
  have hd : dirT t = 1 ∨ dirT t = 0 ∨ dirT t = -1 := by unfold dirT; split; simp; split <;> simp
  obtain ⟨i, hi, h1, h2⟩ : ∃ i : Nat, i < 384 ∧ fAt i = t.frm ∧ dAt i = dirT t := by
    refine ⟨3 * t.frm.toNat + (1 - dirT t).toNat, by omega, ?_, ?_⟩
    · unfold fAt; omega
    · unfold dAt; omega
  unfold wantN
  rw [List.mem_map]
  refine ⟨i, ?_, by unfold rowI3; rw [h1, h2]⟩
  rw [List.mem_filter, List.mem_range]
  exact ⟨hi, decide_eq_true (by unfold rowI3; rw [h1, h2]; exact hc)⟩
theorem rowsA_want {l : List Trip} (hl : ∀ t ∈ l, Tb t) : rowsA l = wantN l 384 := by
  obtain ⟨h1, h2⟩ := entsB_minv l
  obtain ⟨b1, b2, b3⟩ := entsB_inv l
  have hO : SWO ltB := by rw [← lt_cfB]; exact swo_cfB
  have hnd : ((entsB l).1.map BE.w).Nodup := by
    rw [List.Nodup, List.pairwise_map]
    rw [List.Nodup, List.pairwise_map] at b3
    exact b3.imp fun h he => h (by
      simp only [BE.w, List.cons.injEq] at he
      rw [he.1, he.2.1])
  have hmem : ∀ r, r ∈ (entsB l).1.map BE.w ↔ r ∈ wantN l 384 := by
    intro r
    constructor
    · intro hr
      obtain ⟨e, he, rfl⟩ := List.mem_map.1 hr
      obtain ⟨c1, c2⟩ := h1 e he
      rw [c1]
      refine wantN_mem hl ?_
      have : (rowL l e.x e.y).c = e.c := by
        simp only [BE.w, List.cons.injEq] at c1
        exact c1.2.2.1.symm
      omega
    · intro hr
      unfold wantN at hr
      obtain ⟨i, hi, rfl⟩ := List.mem_map.1 hr
      have hc := of_decide_eq_true (List.mem_filter.1 hi).2
      have hex : ∃ t ∈ l, t.frm = fAt i ∧ dirT t = dAt i := by
        apply Classical.byContradiction
        intro hno
        apply hc
        unfold rowI3
        rw [rowL_none l _ _ fun t ht c => hno ⟨t, ht, c⟩]
      obtain ⟨t, ht, c1, c2⟩ := hex
      obtain ⟨e, he, d1, d2⟩ := h2 t ht
      rw [List.mem_map]
      refine ⟨e, he, ?_⟩
      rw [(h1 e he).1, d1, d2, c1, c2]; rfl
  have hp : ((entsB l).1.map BE.w).Perm (wantN l 384) := (List.perm_ext_iff_of_nodup hnd (wantN_nodup l 384)).2 hmem
  refine sortedL_unique hO (resF_sorted hO _) (wantN_sorted l 384) ((resF_perm hO _).trans hp) fun x hx y hy h3 h4 => ?_
  have hnt := bw_noTies b3
  unfold noTies at hnt
  have := List.all_eq_true.1 (List.all_eq_true.1 hnt x ((resF_perm hO _).mem_iff.1 hx)) y ((resF_perm hO _).mem_iff.1 hy)
  simpa [h3, h4] using this
/-- The row of a key, among All's. -/
theorem find_row {l : List Trip} (hl : ∀ t ∈ l, Tb t) (f d : Int) : (wantN l 384).find? (fun r => decide (r.getD 0 0 = f) && decide (r.getD 1 0 = d)) = if (rowL l f d).c = 0 then none else some (rowL l f d).w := by
  have hrow : ∀ r ∈ wantN l 384, ∃ i, r = (rowI3 l i).w ∧ (rowI3 l i).c ≠ 0 := by
    intro r hr
    unfold wantN at hr
    obtain ⟨i, hi, rfl⟩ := List.mem_map.1 hr
    exact ⟨i, rfl, of_decide_eq_true (List.mem_filter.1 hi).2⟩
  split
  · rename_i hc
    rw [List.find?_eq_none]
    intro r hr hh
    obtain ⟨i, rfl, h2⟩ := hrow r hr
    rw [w0, w1, (rowI3_x l i).1, (rowI3_x l i).2] at hh
    simp only [Bool.and_eq_true, decide_eq_true_eq] at hh
    unfold rowI3 at h2
    rw [hh.1, hh.2] at h2
    exact h2 hc
  · rename_i hc
    have hm := wantN_mem hl hc
    have hx := rowL_x l f d
    cases hfind : (wantN l 384).find? (fun r => decide (r.getD 0 0 = f) && decide (r.getD 1 0 = d)) with
    | none =>
      rw [List.find?_eq_none] at hfind
      exact absurd (by rw [w0, w1, hx.1, hx.2]; simp) (hfind _ hm)
    | some r =>
      obtain ⟨i, rfl, h2⟩ := hrow r (List.mem_of_find?_eq_some hfind)
      have hh := List.find?_some hfind
      rw [w0, w1, (rowI3_x l i).1, (rowI3_x l i).2] at hh
      simp only [Bool.and_eq_true, decide_eq_true_eq] at hh
      unfold rowI3
      rw [hh.1, hh.2]
end Go.Am
