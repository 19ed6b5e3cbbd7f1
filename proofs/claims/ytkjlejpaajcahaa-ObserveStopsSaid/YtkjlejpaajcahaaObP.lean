/- Law 58, plain: how often something comes, kept in entries; the busiest. -/
import Derived.Test.YtkjlejpaajcahaaGrG
import Derived.Test.YtkjlejpaajcahaaData
set_option linter.unusedVariables false
set_option linter.unusedSimpArgs false
set_option maxRecDepth 10000
set_option maxHeartbeats 1000000
namespace Go.Am
abbrev P2 := Int × Int
def kE (e : En) : P2 := (e.x, e.y)
def addE (p : Nat × List En) (k : P2) : Nat × List En := match pidx k.1 k.2 p.2 0 with
  | some (i, n) => (p.1, p.2.take i ++ ⟨bAt p.2 i, k.1, k.2, n + 1⟩ :: p.2.drop (i + 1))
  | none => (p.1 + 1, p.2 ++ [⟨p.1, k.1, k.2, 1⟩])
def cntE (L : List P2) : Nat × List En := L.foldl addE (0, [])
theorem cntE_snoc (L : List P2) (k : P2) : cntE (L ++ [k]) = addE (cntE L) k := by unfold cntE; rw [List.foldl_append]; rfl
def valE (es : List En) (k : P2) : Int := match pidx k.1 k.2 es 0 with
  | some (_, n) => n
  | none => 0
theorem pidx_split {x y : Int} : ∀ {es : List En} {k i : Nat} {n : Int}, pidx x y es k = some (i, n) → ∃ A e B, es = A ++ e :: B ∧ k + A.length = i ∧ e.x = x ∧ e.y = y ∧ e.n = n
  | e :: l, k, i, n, h => by
    simp only [pidx] at h
    split at h
    · rename_i hh
      simp only [Option.some.injEq, Prod.mk.injEq] at h
      obtain ⟨rfl, h2⟩ := h
      exact ⟨[], e, l, rfl, rfl, hh.1.symm, hh.2.symm, h2⟩
    · obtain ⟨A, f, B, h1, h2, h3⟩ := pidx_split h
      exact ⟨e :: A, f, B, by rw [h1]; rfl, by simp; omega, h3⟩
theorem pidx_no {x y : Int} : ∀ {es : List En} {k : Nat}, pidx x y es k = none → ∀ e ∈ es, kE e ≠ (x, y)
  | [], _, _ => by simp
  | e :: l, k, h => by
    simp only [pidx] at h
    split at h
    · simp at h
    · rename_i hh
      intro f hf
      rcases List.mem_cons.1 hf with rfl | hf
      · intro hk; simp only [kE, Prod.mk.injEq] at hk; exact hh ⟨hk.1.symm, hk.2.symm⟩
      · exact pidx_no h f hf
structure Cn (L : List P2) (p : Nat × List En) : Prop where
  born : (p.2.map (·.b)).Nodup
  lt : ∀ e ∈ p.2, e.b < p.1
  key : (p.2.map kE).Nodup
  val : ∀ e ∈ p.2, e.n = (L.count (kE e) : Int) ∧ 0 < e.n
  all : ∀ k ∈ L, ∃ e ∈ p.2, kE e = k
/-- The two ways. -/
theorem addE_cases (p : Nat × List En) (k : P2) : (∃ A e B, p.2 = A ++ e :: B ∧ kE e = k ∧ pidx k.1 k.2 p.2 0 = some (A.length, e.n) ∧ addE p k = (p.1, A ++ ⟨e.b, k.1, k.2, e.n + 1⟩ :: B)) ∨ ((∀ e ∈ p.2, kE e ≠ k) ∧ pidx k.1 k.2 p.2 0 = none ∧ addE p k = (p.1 + 1, p.2 ++ [⟨p.1, k.1, k.2, 1⟩])) := by
  cases hp : pidx k.1 k.2 p.2 0 with
  | none => exact .inr ⟨pidx_no hp, rfl, by simp only [addE, hp]⟩
  | some q =>
    obtain ⟨i, n⟩ := q
    obtain ⟨A, e, B, h1, h2, h3, h4, h5⟩ := pidx_split hp
    rw [Nat.zero_add] at h2
    refine .inl ⟨A, e, B, h1, by simp only [kE, h3, h4], by rw [h2, h5], ?_⟩
    have hb : bAt p.2 i = e.b := by simp [bAt, h1, ← h2]
    simp only [addE, hp, hb, h5]
    rw [h1, ← h2]
    simp
theorem cn_nil : Cn [] (0, []) := ⟨.nil, by simp, .nil, by simp, by simp⟩
theorem cn_snoc {L : List P2} {p : Nat × List En} (h : Cn L p) (k : P2) : Cn (L ++ [k]) (addE p k) := by
  obtain ⟨h1, h2, h3, h4, h5⟩ := h
  rcases addE_cases p k with ⟨A, e, B, c1, c2, _, c3⟩ | ⟨c1, _, c3⟩
  · rw [c3]
    have hk : kE ⟨e.b, k.1, k.2, e.n + 1⟩ = k := rfl
    rw [c1] at h1 h2 h3 h4 h5
    have hne : ∀ f, f ∈ A ∨ f ∈ B → kE f ≠ k := by
      intro f hf hfk
      rw [List.map_append, List.map_cons, List.nodup_append, List.nodup_cons] at h3
      rcases hf with hf | hf
      · exact h3.2.2 (kE f) (List.mem_map.2 ⟨f, hf, rfl⟩) (kE e) (by simp) (by rw [hfk, c2])
      · exact h3.2.1.1 (List.mem_map.2 ⟨f, hf, by rw [hfk, c2]⟩)
    have other : ∀ f, f ∈ A ∨ f ∈ B → f.n = ((L ++ [k]).count (kE f) : Int) ∧ 0 < f.n := by
      intro f hf
      have := h4 f (by rcases hf with hf | hf <;> simp [hf])
      rw [List.count_append, List.count_singleton, if_neg (by simpa using Ne.symm (hne f hf)), Nat.add_zero]
      exact this
    refine ⟨by simpa using h1, fun f hf => ?_, ?_, fun f hf => ?_, fun j hj => ?_⟩
    · simp only [List.mem_append, List.mem_cons] at hf
      rcases hf with hf | rfl | hf
      · exact h2 f (by simp [hf])
      · exact h2 e (by simp)
      · exact h2 f (by simp [hf])
    · simp only [List.map_append, List.map_cons, hk] at h3 ⊢
      rw [c2] at h3; exact h3
    · simp only [List.mem_append, List.mem_cons] at hf
      rcases hf with hf | rfl | hf
      · exact other f (.inl hf)
      · have := h4 e (by simp)
        rw [hk, List.count_append, List.count_singleton, if_pos (by simp)]
        rw [c2] at this
        simp only
        omega
      · exact other f (.inr hf)
    · have he : ∃ f ∈ A ++ ⟨e.b, k.1, k.2, e.n + 1⟩ :: B, kE f = k := ⟨⟨e.b, k.1, k.2, e.n + 1⟩, by simp, hk⟩
      rcases List.mem_append.1 hj with hj | hj
      · obtain ⟨f, hf, hfj⟩ := h5 j hj
        simp only [List.mem_append, List.mem_cons] at hf
        rcases hf with hf | rfl | hf
        · exact ⟨f, by simp [hf], hfj⟩
        · rw [← hfj, c2]; exact he
        · exact ⟨f, by simp [hf], hfj⟩
      · rw [List.mem_singleton.1 hj]; exact he
  · rw [c3]
    have hk : kE ⟨p.1, k.1, k.2, 1⟩ = k := rfl
    have hnl : k ∉ L := fun hm => by obtain ⟨e, he, hek⟩ := h5 k hm; exact c1 e he hek
    refine ⟨?_, fun f hf => ?_, ?_, fun f hf => ?_, fun j hj => ?_⟩
    · rw [List.map_append, List.nodup_append]
      refine ⟨h1, by simp, fun b hb c hc => ?_⟩
      obtain ⟨f, hf, rfl⟩ := List.mem_map.1 hb
      have := h2 f hf
      simp only [List.map_cons, List.map_nil, List.mem_singleton] at hc
      omega
    · rcases List.mem_append.1 hf with hf | hf
      · have := h2 f hf; simp only; omega
      · rw [List.mem_singleton.1 hf]; simp only; omega
    · rw [List.map_append, List.nodup_append]
      refine ⟨h3, by simp, fun b hb c hc => ?_⟩
      obtain ⟨f, hf, rfl⟩ := List.mem_map.1 hb
      simp only [List.map_cons, List.map_nil, List.mem_singleton, hk] at hc
      rw [hc]; exact c1 f hf
    · rcases List.mem_append.1 hf with hf | hf
      · rw [List.count_append, List.count_singleton, if_neg (by simpa using Ne.symm (c1 f hf)), Nat.add_zero]
        exact h4 f hf
      · rw [List.mem_singleton.1 hf, hk, List.count_append, List.count_eq_zero.2 hnl, List.count_singleton, if_pos (by simp)]
        simp
    · rcases List.mem_append.1 hj with hj | hj
      · obtain ⟨f, hf, hfj⟩ := h5 j hj
        exact ⟨f, by simp [hf], hfj⟩
      · rw [List.mem_singleton.1 hj]; exact ⟨_, by simp, hk⟩
theorem snoc_ind {α : Type} {p : List α → Prop} (h0 : p []) (h1 : ∀ l a, p l → p (l ++ [a])) (l : List α) : p l := by
  have key : ∀ n, p (l.take n) := by
    intro n
    induction n with
    | zero => simpa using h0
    | succ n ih =>
      by_cases h : n < l.length
      · rw [List.take_succ_eq_append_getElem h]; exact h1 _ _ ih
      · rw [List.take_of_length_le (by omega)] at ih ⊢; exact ih
  have := key l.length
  rwa [List.take_length] at this
theorem cn_cnt (L : List P2) : Cn L (cntE L) := snoc_ind (p := fun L => Cn L (cntE L)) cn_nil (fun l a h => by rw [cntE_snoc]; exact cn_snoc h a) L
theorem val_cnt {L : List P2} {p : Nat × List En} (h : Cn L p) (k : P2) : valE p.2 k = (L.count k : Int) := by
  unfold valE
  cases hp : pidx k.1 k.2 p.2 0 with
  | none =>
    have : k ∉ L := fun hm => by obtain ⟨e, he, hek⟩ := h.all k hm; exact pidx_no hp e he hek
    simp [List.count_eq_zero.2 this]
  | some q =>
    obtain ⟨i, n⟩ := q
    obtain ⟨A, e, B, h1, _, h3, h4, h5⟩ := pidx_split hp
    have := (h.val e (by rw [h1]; simp)).1
    have hk : kE e = k := by simp only [kE, h3, h4]
    rw [hk, h5] at this
    exact this
theorem sum_cnt (L : List P2) : ((cntE L).2.map (·.n)).sum = (L.length : Int) := by
  refine snoc_ind (p := fun L => ((cntE L).2.map (·.n)).sum = (L.length : Int)) rfl (fun l k h => ?_) L
  rw [cntE_snoc]
  rcases addE_cases (cntE l) k with ⟨A, e, B, c1, _, _, c3⟩ | ⟨_, _, c3⟩
  · rw [c1] at h
    rw [c3]
    simp only [List.map_append, List.map_cons, List.sum_append, List.sum_cons, List.length_append, List.length_cons, List.length_nil] at h ⊢
    omega
  · rw [c3]
    simp only [List.map_append, List.map_cons, List.map_nil, List.sum_append, List.sum_cons, List.sum_nil, List.length_append, List.length_cons, List.length_nil] at h ⊢
    omega
theorem nd_le {α : Type} : ∀ {A B : List α}, A.Nodup → (∀ x ∈ A, x ∈ B) → A.length ≤ B.length
  | [], B, _, _ => by simp
  | a :: A, B, hn, hs => by
    rw [List.nodup_cons] at hn
    obtain ⟨B1, B2, rfl⟩ := List.append_of_mem (hs a (by simp))
    have := nd_le (A := A) (B := B1 ++ B2) hn.2 fun x hx => by
      have h1 := hs x (by simp [hx])
      simp only [List.mem_append, List.mem_cons] at h1 ⊢
      rcases h1 with h | rfl | h
      · exact .inl h
      · exact absurd hx hn.1
      · exact .inr h
    simp only [List.length_append, List.length_cons] at this ⊢
    omega
theorem len_cnt (L : List P2) : (cntE L).2.length ≤ L.length := by
  have h := cn_cnt L
  have := nd_le h.key (B := L) fun k hk => by
    obtain ⟨e, he, rfl⟩ := List.mem_map.1 hk
    have := h.val e he
    exact List.count_pos_iff.1 (by omega)
  rwa [List.length_map] at this
/-- Each once, as it came. -/
def stL (L : List P2) : List P2 := L.foldl (fun S k => if k ∈ S then S else S ++ [k]) []
theorem stL_snoc (L : List P2) (k : P2) : stL (L ++ [k]) = if k ∈ stL L then stL L else stL L ++ [k] := by unfold stL; rw [List.foldl_append]; rfl
theorem stL_ok (L : List P2) : (stL L).Nodup ∧ ∀ k, k ∈ stL L ↔ k ∈ L := by
  refine snoc_ind (p := fun L => (stL L).Nodup ∧ ∀ k, k ∈ stL L ↔ k ∈ L) ⟨.nil, by simp [stL]⟩ (fun l k h => ?_) L
  rw [stL_snoc]
  split
  · rename_i hk
    refine ⟨h.1, fun j => ?_⟩
    rw [List.mem_append, List.mem_singleton, h.2]
    exact ⟨.inl, fun x => x.elim id fun e => by rw [e]; exact (h.2 k).1 hk⟩
  · rename_i hk
    refine ⟨?_, fun j => by rw [List.mem_append, List.mem_append, h.2]⟩
    rw [List.nodup_append]
    refine ⟨h.1, by simp, fun a ha b hb => ?_⟩
    rw [List.mem_singleton.1 hb]
    rintro rfl; exact hk ha
theorem stL_len (L : List P2) : (stL L).length = (cntE L).2.length := by
  have h := cn_cnt L
  have s := stL_ok L
  refine Nat.le_antisymm ?_ ?_
  · have := nd_le s.1 (B := (cntE L).2.map kE) fun k hk => by
      obtain ⟨e, he, hek⟩ := h.all k ((s.2 k).1 hk)
      exact List.mem_map.2 ⟨e, he, hek⟩
    rwa [List.length_map] at this
  · have := nd_le h.key (B := stL L) fun k hk => by
      obtain ⟨e, he, rfl⟩ := List.mem_map.1 hk
      have := h.val e he
      exact (s.2 _).2 (List.count_pos_iff.1 (by omega))
    rwa [List.length_map] at this
/-! ### The busiest -/
def stepB (c : Int → Int) (b : Int × Bool) (f : Int) : Int × Bool := if b.2 = false ∨ c b.1 < c f ∨ (c f = c b.1 ∧ f < b.1) then (f, true) else b
def InvB (c : Int → Int) (S : List Int) (b : Int × Bool) : Prop := (S = [] ∧ b = (0, false)) ∨ (b.1 ∈ S ∧ b.2 = true ∧ ∀ f ∈ S, c f ≤ c b.1 ∧ (c f = c b.1 → b.1 ≤ f))
theorem invB_step {c : Int → Int} {S : List Int} {b : Int × Bool} (h : InvB c S b) (f : Int) : InvB c (S ++ [f]) (stepB c b f) := by
  right
  unfold stepB
  rcases h with ⟨rfl, rfl⟩ | ⟨h1, h2, h3⟩
  · simp
  · split
    · rename_i hc
      refine ⟨by simp, rfl, fun g hg => ?_⟩
      rcases hc with hc | hc | hc
      · rw [h2] at hc; simp at hc
      · rcases List.mem_append.1 hg with hg | hg
        · have := h3 g hg; simp only; omega
        · rw [List.mem_singleton.1 hg]; simp
      · rcases List.mem_append.1 hg with hg | hg
        · have := h3 g hg
          refine ⟨by simp only; omega, fun he => ?_⟩
          simp only at he ⊢
          have := this.2 (by omega); omega
        · rw [List.mem_singleton.1 hg]; simp
    · rename_i hc
      refine ⟨by simp [h1], h2, fun g hg => ?_⟩
      rcases List.mem_append.1 hg with hg | hg
      · exact h3 g hg
      · rw [List.mem_singleton.1 hg]
        simp only [h2, Bool.true_eq_false, false_or, not_or, not_and] at hc
        exact ⟨by omega, fun he => by have := hc.2 he; omega⟩
theorem invB_uniq {c : Int → Int} {S T : List Int} {a b : Int × Bool} (hST : ∀ x, x ∈ S ↔ x ∈ T) (ha : InvB c S a) (hb : InvB c T b) : a = b := by
  rcases ha with ⟨rfl, rfl⟩ | ⟨a1, a2, a3⟩
  · rcases hb with ⟨rfl, rfl⟩ | ⟨b1, _⟩
    · rfl
    · exact absurd ((hST _).2 b1) (by simp)
  · rcases hb with ⟨rfl, rfl⟩ | ⟨b1, b2, b3⟩
    · exact absurd ((hST _).1 a1) (by simp)
    · have x1 := a3 b.1 ((hST _).2 b1)
      have x2 := b3 a.1 ((hST _).1 a1)
      have e : a.1 = b.1 := by
        have y1 := x1.2 (by omega)
        have y2 := x2.2 (by omega)
        omega
      exact Prod.ext e (by rw [a2, b2])
def busyF (fl : List Int) : Int × Bool := fl.foldl (stepB fun f => (fl.count f : Int)) (0, false)
theorem invB_fold (c : Int → Int) (S : List Int) : InvB c S (S.foldl (stepB c) (0, false)) :=
  snoc_ind (p := fun S => InvB c S (S.foldl (stepB c) (0, false))) (.inl ⟨rfl, rfl⟩) (fun l a h => by rw [List.foldl_append]; exact invB_step h a) S
theorem busyF_inv (fl : List Int) : InvB (fun f => (fl.count f : Int)) fl (busyF fl) := invB_fold _ fl
/-! ### Trips -/
def evO1 (t : Trip) : List P2 := (if 0 ≤ t.board then [(t.car, t.frm)] else []) ++ (if 0 ≤ t.alight then [(t.car, t.to)] else [])
def evO (l : List Trip) : List P2 := l.flatMap evO1
def flO (l : List Trip) : List Int := (evO l).map (·.2)
theorem evO_take {l : List Trip} {k : Nat} (h : k < l.length) : evO (l.take (k + 1)) = evO (l.take k) ++ evO1 l[k] := by
  unfold evO
  rw [List.take_succ_eq_append_getElem h, List.flatMap_append, List.flatMap_singleton]
theorem evO1_len (t : Trip) : (evO1 t).length ≤ 2 := by
  unfold evO1
  split <;> split <;> simp
theorem evO_len (l : List Trip) : (evO l).length ≤ 2 * l.length := by
  unfold evO
  induction l with
  | nil => simp
  | cons t l ih => rw [List.flatMap_cons, List.length_append, List.length_cons]; have := evO1_len t; omega
def wnO (l : List Trip) : List P2 := l.map fun t => (t.frm, t.to)
end Go.Am
