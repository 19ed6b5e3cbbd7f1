import Derived.Test.YtdnmppikakpdiaaUt
import Derived.Test.YtdnmppikakpdiaaRK
import Derived.Test.YtdnmppikakpdiaaRA
set_option maxHeartbeats 4000000
set_option maxRecDepth 10000
set_option linter.unusedVariables false
set_option linter.unusedSimpArgs false
set_option linter.unnecessarySimpa false
namespace Go.Am
structure Sp where
 f : Int
 t : Int
def Sp.cells (s : Sp) : List D := [.int .i64 s.f, .int .i64 s.t]
structure Sp.Ok (s : Sp) : Prop where
 f : InI64 s.f
 t : InI64 s.t
abbrev spL (l : List Sp) : AV := .c (.vs 2 (l.map Sp.cells))
def HasS (l : List Sp) (n : Int) : Prop := ∃ s ∈ l, s.f ≤ n ∧ n < s.t
theorem hasS_nil (n : Int) : HasS [] n ↔ False := by simp [HasS]
theorem hasS_cons (s : Sp) (l : List Sp) (n : Int) : HasS (s :: l) n ↔ (s.f ≤ n ∧ n < s.t) ∨ HasS l n := by simp [HasS]
theorem hasS_app (a b : List Sp) (n : Int) : HasS (a ++ b) n ↔ HasS a n ∨ HasS b n := by
 simp only [HasS, List.mem_append]
 constructor
 ·rintro ⟨s, h | h, h2⟩
  ·exact .inl ⟨s, h, h2⟩
  ·exact .inr ⟨s, h, h2⟩
 ·rintro (⟨s, h, h2⟩ | ⟨s, h, h2⟩)
  ·exact ⟨s, .inl h, h2⟩
  ·exact ⟨s, .inr h, h2⟩
instance (l : List Sp) (n : Int) : Decidable (HasS l n) := inferInstanceAs (Decidable (∃ s ∈ l, s.f ≤ n ∧ n < s.t))
structure SRight (l : List Sp) : Prop where
 some : ∀ s ∈ l, s.f < s.t
 apart : l.Pairwise fun a b => a.t < b.f
theorem SRight.nil : SRight [] := ⟨by simp, .nil⟩
theorem SRight.tail {s : Sp} {l : List Sp} (h : SRight (s :: l)) : SRight l := ⟨fun x hx => h.some x (by simp [hx]), (List.pairwise_cons.1 h.apart).2⟩
theorem SRight.head {s : Sp} {l : List Sp} (h : SRight (s :: l)) : s.f < s.t ∧ ∀ x ∈ l, s.t < x.f := ⟨h.some s (by simp), (List.pairwise_cons.1 h.apart).1⟩
theorem SRight.snoc {l : List Sp} {s : Sp} (h : SRight l) (h1 : s.f < s.t) (h2 : ∀ x ∈ l, x.t < s.f) : SRight (l ++ [s]) := by
 refine ⟨fun x hx => ?_, List.pairwise_append.2 ⟨h.apart, by simp, fun a ha b hb => ?_⟩⟩
 ·simp only [List.mem_append, List.mem_singleton] at hx
  rcases hx with hx | rfl
  ·exact h.some x hx
  ·exact h1
 ·simp only [List.mem_singleton] at hb; subst hb; exact h2 a ha
theorem SRight.of_app {a b : List Sp} (h : SRight (a ++ b)) : SRight a ∧ SRight b ∧ ∀ x ∈ a, ∀ y ∈ b, x.t < y.f := by
 have := List.pairwise_append.1 h.apart
 exact ⟨⟨fun x hx => h.some x (by simp [hx]), this.1⟩, ⟨fun x hx => h.some x (by simp [hx]), this.2.1⟩, this.2.2⟩
theorem sright_uniq : ∀ {a b : List Sp}, SRight a → SRight b → (∀ n, HasS a n ↔ HasS b n) → a = b
 | [], [], _, _, _ => rfl
 | [], u :: b, _, hb, h => by
  have := (h u.f).2 ⟨u, by simp, by have := hb.head.1; omega⟩
  exact ((hasS_nil _).1 this).elim
 | s :: a, [], ha, _, h => by
  have := (h s.f).1 ⟨s, by simp, by have := ha.head.1; omega⟩
  exact ((hasS_nil _).1 this).elim
 | s :: a, u :: b, ha, hb, h => by
  obtain ⟨ha1, ha2⟩ := ha.head
  obtain ⟨hb1, hb2⟩ := hb.head
  have low : ∀ (s u : Sp) (a b : List Sp), s.f < s.t → u.f < u.t → (∀ x ∈ b, u.t < x.f) → (HasS (s :: a) s.f → HasS (u :: b) s.f) → u.f ≤ s.f := by
   intro s u a b h1 hu h2 h3
   obtain ⟨x, hx, h4, h5⟩ := h3 ⟨s, by simp, by omega⟩
   simp only [List.mem_cons] at hx
   rcases hx with rfl | hx
   ·exact h4
   ·have := h2 x hx; omega
  have e1 : s.f = u.f := by
   have h1 := low s u a b ha1 hb1 hb2 (h s.f).1
   have h2 := low u s b a hb1 ha1 ha2 (h u.f).2
   omega
  have high : ∀ (s u : Sp) (a b : List Sp), s.f = u.f → s.f < s.t → (∀ x ∈ a, s.t < x.f) → (HasS (u :: b) s.t → HasS (s :: a) s.t) → u.t ≤ s.t := by
   intro s u a b h1 h2 h3 h4
   rcases Int.lt_or_le s.t u.t with h5 | h5
   ·obtain ⟨x, hx, h6, h7⟩ := h4 ⟨u, by simp, by omega⟩
    simp only [List.mem_cons] at hx
    rcases hx with rfl | hx
    ·omega
    ·have := h3 x hx; omega
   ·exact h5
  have e2 : s.t = u.t := by
   have h1 := high s u a b e1 ha1 ha2 (h s.t).2
   have h2 := high u s b a e1.symm hb1 hb2 (h u.t).1
   omega
  have e : s = u := by cases s; cases u; simp only at e1 e2; subst e1; subst e2; rfl
  subst e
  rw [sright_uniq ha.tail hb.tail fun n => ?_]
  have hn := h n
  rw [hasS_cons, hasS_cons] at hn
  have out : ∀ (l : List Sp), (∀ x ∈ l, s.t < x.f) → HasS l n → s.t < n := by
   rintro l hl ⟨x, hx, h1, h2⟩
   have := hl x hx; omega
  constructor
  ·intro h1
   have := out a ha2 h1
   rcases hn.1 (.inr h1) with h2 | h2
   ·omega
   ·exact h2
  ·intro h1
   have := out b hb2 h1
   rcases hn.2 (.inr h1) with h2 | h2
   ·omega
   ·exact h2
def insU (x : Int) : List Int → List Int
 | [] => [x]
 | y :: l => if y < x then y :: insU x l else if y = x then y :: l else x :: y :: l
def bndL (l : List Sp) : List Int := l.flatMap fun s => [s.f, s.t]
def bnd (l : List Sp) : List Int := (bndL l).foldl (fun o x => insU x o) []
theorem insU_mem (x z : Int) : ∀ l, z ∈ insU x l ↔ z = x ∨ z ∈ l
 | [] => by simp [insU]
 | y :: l => by
  unfold insU
  split
  ·rw [List.mem_cons, insU_mem x z l, List.mem_cons]
   constructor
   ·rintro (h | h | h) <;> simp [h]
   ·rintro (h | h | h) <;> simp [h]
  ·split
   ·rename_i h; subst h; simp
   ·simp
theorem insU_sorted (x : Int) : ∀ {l : List Int}, l.Pairwise (· < ·) → (insU x l).Pairwise (· < ·)
 | [], _ => by simp [insU]
 | y :: l, h => by
  have h' := List.pairwise_cons.1 h
  unfold insU
  split
  ·refine List.pairwise_cons.2 ⟨fun z hz => ?_, insU_sorted x h'.2⟩
   rw [insU_mem] at hz
   rcases hz with rfl | hz
   ·assumption
   ·exact h'.1 z hz
  ·split
   ·exact h
   ·refine List.pairwise_cons.2 ⟨fun z hz => ?_, h⟩
    simp only [List.mem_cons] at hz
    rcases hz with rfl | hz
    ·omega
    ·have := h'.1 z hz; omega
theorem insU_len (x : Int) : ∀ l, (insU x l).length ≤ l.length + 1
 | [] => by simp [insU]
 | y :: l => by
  have := insU_len x l
  unfold insU
  (repeat' split) <;> simp only [List.length_cons] <;> omega
theorem foldU_spec : ∀ (xs o : List Int), o.Pairwise (· < ·) → (xs.foldl (fun o x => insU x o) o).Pairwise (· < ·) ∧ (xs.foldl (fun o x => insU x o) o).length ≤ o.length + xs.length ∧ ∀ z, z ∈ xs.foldl (fun o x => insU x o) o ↔ z ∈ xs ∨ z ∈ o
 | [], o, h => by simp [h]
 | x :: xs, o, h => by
  obtain ⟨h1, h2, h3⟩ := foldU_spec xs (insU x o) (insU_sorted x h)
  have := insU_len x o
  refine ⟨h1, by rw [List.foldl_cons]; simp only [List.length_cons]; omega, fun z => ?_⟩
  rw [List.foldl_cons, h3, insU_mem, List.mem_cons]
  constructor
  ·rintro (h | h | h) <;> simp [h]
  ·rintro ((h | h) | h) <;> simp [h]
theorem bndL_mem (l : List Sp) (z : Int) : z ∈ bndL l ↔ ∃ s ∈ l, z = s.f ∨ z = s.t := by simp [bndL]
theorem bndL_len : ∀ l : List Sp, (bndL l).length = 2 * l.length
 | [] => rfl
 | s :: l => by
  have := bndL_len l
  unfold bndL at this ⊢
  rw [List.flatMap_cons, List.length_append, this]; simp only [List.length_cons, List.length_nil]; omega
theorem bnd_sorted (l : List Sp) : (bnd l).Pairwise (· < ·) := (foldU_spec _ [] .nil).1
theorem bnd_len (l : List Sp) : (bnd l).length ≤ 2 * l.length := by have := (foldU_spec (bndL l) [] .nil).2.1; rw [bndL_len] at this; simpa [bnd] using this
theorem bnd_mem (l : List Sp) (z : Int) : z ∈ bnd l ↔ ∃ s ∈ l, z = s.f ∨ z = s.t := by
 have := (foldU_spec (bndL l) [] .nil).2.2 z
 rw [bndL_mem] at this
 simpa [bnd] using this
def mkStep (out : List Sp) (x y : Int) : List Sp := match out.getLast? with
 | some s => if s.t = x then out.dropLast ++ [⟨s.f, y⟩] else out ++ [⟨x, y⟩]
 | none => out ++ [⟨x, y⟩]
def mkAcc (p : Int → Bool) (l : List Int) : Nat → List Sp
 | 0 => []
 | i + 1 => if p (l.getD i 0) then mkStep (mkAcc p l i) (l.getD i 0) (l.getD (i + 1) 0) else mkAcc p l i
structure MkInv (p : Int → Bool) (out : List Sp) (x : Int) : Prop where
 right : SRight out
 below : ∀ s ∈ out, s.t ≤ x
 has : ∀ n, HasS out n ↔ p n = true ∧ n < x
theorem mkStep_inv {p : Int → Bool} {out : List Sp} {x y : Int} (h : MkInv p out x) (hxy : x < y) (hc : ∀ n, x ≤ n → n < y → p n = p x) (hp : p x = true) : MkInv p (mkStep out x y) y := by
 have hhas : ∀ n, (HasS out n ∨ (x ≤ n ∧ n < y)) ↔ p n = true ∧ n < y := by
  intro n
  rw [h.has]
  constructor
  ·rintro (⟨h1, h2⟩ | ⟨h1, h2⟩)
   ·exact ⟨h1, by omega⟩
   ·exact ⟨by rw [hc n h1 h2, hp], h2⟩
  ·rintro ⟨h1, h2⟩
   rcases Int.lt_or_le n x with h3 | h3
   ·exact .inl ⟨h1, h3⟩
   ·exact .inr ⟨h3, h2⟩
 have app (hl : ∀ s ∈ out, s.t < x) : MkInv p (out ++ [⟨x, y⟩]) y := by
  refine ⟨h.right.snoc hxy hl, fun s hs => ?_, fun n => ?_⟩
  ·simp only [List.mem_append, List.mem_singleton] at hs
   rcases hs with hs | rfl
   ·have := h.below s hs; omega
   ·exact Int.le_refl _
  ·rw [hasS_app, hasS_cons, hasS_nil, or_false]; exact hhas n
 unfold mkStep
 rcases List.eq_nil_or_concat out with rfl | ⟨o, s, rfl⟩
 ·exact app (by simp)
 rw [List.concat_eq_append] at *
 simp only [List.getLast?_append, List.getLast?_singleton, Option.some_or]
 obtain ⟨h1, h2, h3⟩ := h.right.of_app
 have hs := h2.some s (by simp)
 by_cases hst : s.t = x
 ·rw [if_pos hst, List.dropLast_concat]
  refine ⟨h1.snoc (by simp only; omega) fun z hz => h3 z hz s (by simp), fun z hz => ?_, fun n => ?_⟩
  ·simp only [List.mem_append, List.mem_singleton] at hz
   rcases hz with hz | rfl
   ·have := h.below z (by simp [hz]); omega
   ·exact Int.le_refl _
  ·rw [← hhas n, hasS_app, hasS_app, hasS_cons, hasS_cons, hasS_nil, or_false, or_false]
   constructor
   ·rintro (h4 | h4)
    ·exact .inl (.inl h4)
    ·rcases Int.lt_or_le n x with h5 | h5
     ·exact .inl (.inr ⟨h4.1, by omega⟩)
     ·exact .inr ⟨h5, h4.2⟩
   ·rintro ((h4 | h4) | h4)
    ·exact .inl h4
    ·exact .inr ⟨h4.1, by simp only; omega⟩
    ·exact .inr ⟨by simp only; omega, h4.2⟩
 ·rw [if_neg hst]
  refine app fun z hz => ?_
  simp only [List.mem_append, List.mem_singleton] at hz
  rcases hz with hz | rfl
  ·have := h3 z hz s (by simp)
   have := h.below s (by simp); omega
  ·have := h.below z (by simp); omega
theorem mkAcc_inv {p : Int → Bool} {l : List Int} (hl : l.Pairwise (· < ·)) (hc : ∀ i n, i + 1 < l.length → l.getD i 0 ≤ n → n < l.getD (i + 1) 0 → p n = p (l.getD i 0)) (h0 : ∀ n, p n = true → l ≠ [] ∧ l.getD 0 0 ≤ n) : ∀ i, i < l.length → MkInv p (mkAcc p l i) (l.getD i 0)
 | 0, hi => ⟨.nil, by simp [mkAcc], fun n => by
   rw [mkAcc, hasS_nil, false_iff]
   rintro ⟨h1, h2⟩
   have := (h0 n h1).2; omega⟩
 | i + 1, hi => by
  have ih := mkAcc_inv hl hc h0 i (by omega)
  have hlt : l.getD i 0 < l.getD (i + 1) 0 := by
   rw [List.getD_eq_getElem?_getD, List.getD_eq_getElem?_getD, List.getElem?_eq_getElem hi, List.getElem?_eq_getElem (by omega : i < l.length)]
   exact List.pairwise_iff_getElem.1 hl i (i + 1) (by omega) hi (by omega)
  rw [mkAcc]
  split
  ·rename_i hp
   exact mkStep_inv ih hlt (fun n h1 h2 => hc i n hi h1 h2) hp
  ·rename_i hp
   refine ⟨ih.right, fun s hs => by have := ih.below s hs; omega, fun n => ?_⟩
   rw [ih.has]
   constructor
   ·rintro ⟨h1, h2⟩; exact ⟨h1, by omega⟩
   ·rintro ⟨h1, h2⟩
    rcases Int.lt_or_le n (l.getD i 0) with h3 | h3
    ·exact ⟨h1, h3⟩
    ·rw [hc i n hi h3 h2] at h1; exact (hp h1).elim
theorem hasS_const {l : List Sp} {x n : Int} (hx : x ≤ n) (h : ∀ s ∈ l, ¬ (x < s.f ∧ s.f ≤ n) ∧ ¬ (x < s.t ∧ s.t ≤ n)) : HasS l n ↔ HasS l x := by
 constructor
 ·rintro ⟨s, hs, h1, h2⟩
  have := h s hs
  exact ⟨s, hs, by omega, by omega⟩
 ·rintro ⟨s, hs, h1, h2⟩
  have := h s hs
  exact ⟨s, hs, by omega, by omega⟩
def kindP (a b : List Sp) (k : Int) (n : Int) : Bool := decide (HasS a n) && (if k = 1 then decide (HasS b n) else true) && (if k = 2 then !decide (HasS b n) else true)
def makeS (a b : List Sp) (k : Int) : List Sp := mkAcc (kindP a b k) (bnd (a ++ b)) ((bnd (a ++ b)).length - 1)
theorem makeS_spec (a b : List Sp) (k : Int) : SRight (makeS a b k) ∧ ∀ n, HasS (makeS a b k) n ↔ kindP a b k n = true := by
 have hs := bnd_sorted (a ++ b)
 have hmem := bnd_mem (a ++ b)
 obtain ⟨l, hl⟩ : ∃ l, bnd (a ++ b) = l := ⟨_, rfl⟩
 unfold makeS
 rw [hl] at hs ⊢
 simp only [hl] at hmem
 have hin : ∀ i, i < l.length → l.getD i 0 ∈ l := fun i hi => by
  rw [List.getD_eq_getElem?_getD, List.getElem?_eq_getElem hi]; exact List.getElem_mem hi
 have hget : ∀ z ∈ l, ∃ i, i < l.length ∧ l.getD i 0 = z := fun z hz => by
  obtain ⟨i, hi, rfl⟩ := List.getElem_of_mem hz
  exact ⟨i, hi, by rw [List.getD_eq_getElem?_getD, List.getElem?_eq_getElem hi]; rfl⟩
 have hmono : ∀ i j, i < j → j < l.length → l.getD i 0 < l.getD j 0 := fun i j hij hj => by
  rw [List.getD_eq_getElem?_getD, List.getD_eq_getElem?_getD, List.getElem?_eq_getElem hj, List.getElem?_eq_getElem (by omega : i < l.length)]
  exact List.pairwise_iff_getElem.1 hs i j (by omega) hj hij
 have hmono2 : ∀ i j, i < l.length → j < l.length → l.getD i 0 < l.getD j 0 → i < j := fun i j hi hj h => by
  rcases Nat.lt_or_ge i j with h1 | h1
  ·exact h1
  ·rcases Nat.eq_or_lt_of_le h1 with h2 | h2
   ·subst h2; omega
   ·have := hmono j i h2 hi; omega
 have hp : ∀ n, kindP a b k n = true → HasS a n := fun n h => by
  unfold kindP at h
  simp only [Bool.and_eq_true, decide_eq_true_eq] at h
  exact h.1.1
 have hc : ∀ i n, i + 1 < l.length → l.getD i 0 ≤ n → n < l.getD (i + 1) 0 → kindP a b k n = kindP a b k (l.getD i 0) := by
  intro i n hi h1 h2
  have none : ∀ z ∈ l, ¬ (l.getD i 0 < z ∧ z ≤ n) := by
   rintro z hz ⟨h3, h4⟩
   obtain ⟨j, hj, rfl⟩ := hget z hz
   have h5 := hmono2 i j (by omega) hj h3
   have h6 := hmono2 j (i + 1) hj hi (by omega)
   omega
  have ha : HasS a n ↔ HasS a (l.getD i 0) := hasS_const h1 fun s hsm => ⟨none _ ((hmem _).2 ⟨s, by simp [hsm], .inl rfl⟩), none _ ((hmem _).2 ⟨s, by simp [hsm], .inr rfl⟩)⟩
  have hb : HasS b n ↔ HasS b (l.getD i 0) := hasS_const h1 fun s hsm => ⟨none _ ((hmem _).2 ⟨s, by simp [hsm], .inl rfl⟩), none _ ((hmem _).2 ⟨s, by simp [hsm], .inr rfl⟩)⟩
  unfold kindP
  rw [decide_eq_decide.2 ha, decide_eq_decide.2 hb]
 have h0 : ∀ n, kindP a b k n = true → l ≠ [] ∧ l.getD 0 0 ≤ n := by
  intro n h
  obtain ⟨s, hsm, h1, h2⟩ := hp n h
  have hz := (hmem s.f).2 ⟨s, by simp [hsm], .inl rfl⟩
  refine ⟨List.ne_nil_of_mem hz, ?_⟩
  obtain ⟨j, hj, e⟩ := hget _ hz
  rcases Nat.eq_zero_or_pos j with rfl | hj0
  ·omega
  ·have := hmono 0 j hj0 hj; omega
 by_cases hne : l = []
 ·subst hne
  refine ⟨.nil, fun n => ?_⟩
  show HasS [] n ↔ _
  rw [hasS_nil, false_iff]
  intro h
  exact (h0 n h).1 rfl
 ·have hpos := List.length_pos_iff.2 hne
  have inv := mkAcc_inv hs hc h0 (l.length - 1) (by omega)
  refine ⟨inv.right, fun n => ?_⟩
  rw [inv.has]
  constructor
  ·exact fun h => h.1
  ·intro h
   refine ⟨h, ?_⟩
   obtain ⟨s, hsm, h1, h2⟩ := hp n h
   obtain ⟨j, hj, e⟩ := hget _ ((hmem s.t).2 ⟨s, by simp [hsm], .inr rfl⟩)
   rcases Nat.eq_or_lt_of_le (show j ≤ l.length - 1 by omega) with h3 | h3
   ·rw [← h3, e]; exact h2
   ·have := hmono j (l.length - 1) h3 (by omega); omega
theorem mkStep_len (out : List Sp) (x y : Int) : (mkStep out x y).length ≤ out.length + 1 := by
 unfold mkStep
 split
 ·split
  ·simp only [List.length_append, List.length_dropLast, List.length_cons, List.length_nil]; omega
  ·simp
 ·simp
theorem mkAcc_len (p : Int → Bool) (l : List Int) : ∀ i, (mkAcc p l i).length ≤ i
 | 0 => by simp [mkAcc]
 | i + 1 => by
  have := mkAcc_len p l i
  rw [mkAcc]
  split
  ·have := mkStep_len (mkAcc p l i) (l.getD i 0) (l.getD (i + 1) 0); omega
  ·omega
theorem makeS_len (a b : List Sp) (k : Int) : (makeS a b k).length ≤ 2 * (a.length + b.length) := by
 have h1 := mkAcc_len (kindP a b k) (bnd (a ++ b)) ((bnd (a ++ b)).length - 1)
 have h2 := bnd_len (a ++ b)
 rw [List.length_append] at h2
 unfold makeS; omega
theorem mkStep_ok {out : List Sp} {x y : Int} (h : ∀ s ∈ out, s.Ok) (hx : InI64 x) (hy : InI64 y) : ∀ s ∈ mkStep out x y, s.Ok := by
 intro s hs
 unfold mkStep at hs
 split at hs
 ·rename_i u hu
  split at hs
  ·simp only [List.mem_append, List.mem_singleton] at hs
   rcases hs with hs | rfl
   ·exact h s ((List.dropLast_sublist _).subset hs)
   ·exact ⟨(h u (List.mem_of_getLast? hu)).f, hy⟩
  ·simp only [List.mem_append, List.mem_singleton] at hs
   rcases hs with hs | rfl
   ·exact h s hs
   ·exact ⟨hx, hy⟩
 ·simp only [List.mem_append, List.mem_singleton] at hs
  rcases hs with hs | rfl
  ·exact h s hs
  ·exact ⟨hx, hy⟩
theorem mkAcc_ok {p : Int → Bool} {l : List Int} (hl : ∀ x ∈ l, InI64 x) : ∀ i, i < l.length → ∀ s ∈ mkAcc p l i, s.Ok
 | 0, _, s, h => by simp [mkAcc] at h
 | i + 1, hi, s, h => by
  have hin : ∀ i, i < l.length → l.getD i 0 ∈ l := fun i hi => by
   rw [List.getD_eq_getElem?_getD, List.getElem?_eq_getElem hi]; exact List.getElem_mem hi
  rw [mkAcc] at h
  split at h
  ·exact mkStep_ok (mkAcc_ok hl i (by omega)) (hl _ (hin i (by omega))) (hl _ (hin _ hi)) s h
  ·exact mkAcc_ok hl i (by omega) s h
theorem makeS_ok {a b : List Sp} (ha : ∀ s ∈ a, s.Ok) (hb : ∀ s ∈ b, s.Ok) (k : Int) : ∀ s ∈ makeS a b k, s.Ok := by
 unfold makeS
 have hl : ∀ x ∈ bnd (a ++ b), InI64 x := fun x hx => by
  obtain ⟨s, hs, h⟩ := (bnd_mem _ _).1 hx
  have : s.Ok := by
   simp only [List.mem_append] at hs
   rcases hs with hs | hs
   ·exact ha s hs
   ·exact hb s hs
  rcases h with rfl | rfl
  ·exact this.f
  ·exact this.t
 rcases Nat.eq_zero_or_pos (bnd (a ++ b)).length with h0 | h0
 ·rw [h0]; intro s h; simp [mkAcc] at h
 ·exact mkAcc_ok hl _ (by omega)
def cntS (l : List Sp) : Int := (l.map fun s => s.t - s.f).sum
theorem countP_or {α : Type} (p q : α → Bool) : ∀ (l : List α), (∀ x, ¬ (p x = true ∧ q x = true)) → l.countP (fun x => p x || q x) = l.countP p + l.countP q
 | [], _ => rfl
 | x :: l, h => by
  rw [List.countP_cons, List.countP_cons, List.countP_cons, countP_or p q l h]
  have := h x
  cases hp : p x <;> cases hq : q x <;> simp [hp, hq] at this ⊢ <;> omega
theorem countP_part {α : Type} (p q : α → Bool) : ∀ (l : List α), l.countP p = l.countP (fun x => p x && q x) + l.countP (fun x => p x && !q x)
 | [] => rfl
 | x :: l => by
  rw [List.countP_cons, List.countP_cons, List.countP_cons, countP_part p q l]
  cases hp : p x <;> cases hq : q x <;> simp <;> omega
theorem count_span (lo f t : Int) (h1 : f ≤ t) (h2 : lo ≤ f) : ∀ N : Nat, ((List.range N).countP (fun i : Nat => decide (f ≤ lo + i) && decide (lo + i < t)) : Int) = max 0 (min (lo + N) t - f)
 | 0 => by simp; omega
 | N + 1 => by
  rw [List.range_succ, List.countP_append, Int.natCast_add, count_span lo f t h1 h2 N]
  simp only [List.countP_cons, List.countP_nil]
  by_cases c1 : f ≤ lo + N <;> by_cases c2 : lo + N < t <;> simp [c1, c2] <;> omega
theorem count_row (lo : Int) (N : Nat) : ∀ (l : List Sp), SRight l → (∀ s ∈ l, lo ≤ s.f ∧ s.t ≤ lo + N) → ((List.range N).countP (fun i : Nat => decide (HasS l (lo + i))) : Int) = cntS l
 | [], _, _ => by simp [HasS, cntS]
 | s :: l, h, hb => by
  obtain ⟨h1, h2⟩ := h.head
  have hs := hb s (by simp)
  have ih := count_row lo N l h.tail fun x hx => hb x (by simp [hx])
  have e : (fun i : Nat => decide (HasS (s :: l) (lo + i))) = fun i : Nat => (decide (s.f ≤ lo + i) && decide (lo + i < s.t)) || decide (HasS l (lo + i)) := by
   funext i
   rw [decide_eq_decide.2 (hasS_cons s l (lo + i)), Bool.decide_or, Bool.decide_and]
  rw [e, countP_or, Int.natCast_add, ih, count_span lo s.f s.t (by omega) hs.1 N]
  ·simp only [cntS, List.map_cons, List.sum_cons]; omega
  ·rintro i ⟨h3, h4⟩
   simp only [Bool.and_eq_true, decide_eq_true_eq] at h3 h4
   obtain ⟨x, hx, h5, h6⟩ := h4
   have := h2 x hx; omega
theorem cnt_parts {a b both one : List Sp} (ha : SRight a) (h1 : SRight both) (h2 : SRight one) (oa : ∀ s ∈ a, s.Ok) (o1 : ∀ s ∈ both, s.Ok) (o2 : ∀ s ∈ one, s.Ok)
  (e1 : ∀ n, HasS both n ↔ HasS a n ∧ HasS b n) (e2 : ∀ n, HasS one n ↔ HasS a n ∧ ¬ HasS b n) : cntS both + cntS one = cntS a := by
 have key : ∀ l : List Sp, (∀ s ∈ l, s.Ok) → ∀ s ∈ l, (-9223372036854775808 : Int) ≤ s.f ∧ s.t ≤ -9223372036854775808 + ((18446744073709551615 : Nat) : Int) := fun l hl s hs => by
  obtain ⟨⟨h1, h2⟩, h3, h4⟩ := hl s hs
  constructor <;> omega
 rw [← count_row (-9223372036854775808) 18446744073709551615 a ha (key a oa), ← count_row (-9223372036854775808) 18446744073709551615 both h1 (key both o1), ← count_row (-9223372036854775808) 18446744073709551615 one h2 (key one o2)]
 have p1 : (fun i : Nat => decide (HasS both (-9223372036854775808 + i))) = fun i : Nat => decide (HasS a (-9223372036854775808 + i)) && decide (HasS b (-9223372036854775808 + i)) := by
  funext i; rw [decide_eq_decide.2 (e1 _), Bool.decide_and]
 have p2 : (fun i : Nat => decide (HasS one (-9223372036854775808 + i))) = fun i : Nat => decide (HasS a (-9223372036854775808 + i)) && !decide (HasS b (-9223372036854775808 + i)) := by
  funext i; rw [decide_eq_decide.2 (e2 _), Bool.decide_and, decide_not]
 rw [p1, p2, ← Int.natCast_add, ← countP_part (fun i : Nat => decide (HasS a (-9223372036854775808 + i)))]
end Go.Am
namespace Go.Am
def sQ (z : Int) : List D := [.int .i64 z]
abbrev vI (l : List Int) : AV := .c (.vs 1 (l.map sQ))
def HasC (g : List AV → Option (List AV)) : Prop := ∀ (l : List Sp) (n : Int), l.length ≤ 1000 → g [spL l, i64 n] = some [bo (decide (HasS l n))]
theorem ref09_Has_run (Γ : Env) (M : Nat) (hM : 1100 < M) : HasC (run Γ M ref09_Has_f) := by
 intro l n hl
 obtain ⟨ax, s', hR, hin⟩ : ∃ ax s', ((ax = .ex 0 ∧ s' = ⟨[], []⟩ ∧ ¬ HasS l n) ∨ (ax = .ret ∧ s' = ⟨[(4, bo true)], []⟩ ∧ HasS l n)) ∧ ∀ s0, nrm [0, 1, 5] [] s0 = ⟨[(0, spL l), (1, i64 n), (5, i64 (0 : Nat))], []⟩ → lp (exec Γ M ref09_Has_l1) M s0 = some (ax, s') := by
  refine lp_all (fun q : Nat => ⟨[(0, spL l), (1, i64 n), (5, i64 q)], []⟩) (fun q => q ≤ l.length ∧ ¬ HasS (l.take q) n) (fun q => l.length - q) _ 0 M (by simp) ⟨by omega, by simp [HasS]⟩ (by omega) ?_
  rintro k ⟨hk, hq⟩
  by_cases hlt : k < l.length
  ·obtain ⟨s, hs⟩ : ∃ t, l[k]'hlt = t := ⟨_, rfl⟩
   have hmem : s ∈ l := hs ▸ List.getElem_mem hlt
   have htk : l.take (k + 1) = l.take k ++ [s] := by rw [List.take_succ_eq_append_getElem hlt, hs]
   by_cases c1 : s.f ≤ n
   ·by_cases c2 : n < s.t
    ·have : HasS l n := ⟨s, hmem, c1, c2⟩
     simp -implicitDefEqProofs (disch := first | omega | assumption) [hlt, hs, Sp.cells, c1, c2, this]
    ·simp -implicitDefEqProofs (disch := first | omega | assumption) [hlt, hs, Sp.cells, c1, c2]
     refine ⟨k + 1, by omega, ⟨by omega, ?_⟩, by omega⟩
     rw [htk, hasS_app, hasS_cons, hasS_nil]
     rintro (h | h | h)
     ·exact hq h
     ·omega
     ·exact h
   ·simp -implicitDefEqProofs (disch := first | omega | assumption) [hlt, hs, Sp.cells, c1]
    refine ⟨k + 1, by omega, ⟨by omega, ?_⟩, by omega⟩
    rw [htk, hasS_app, hasS_cons, hasS_nil]
    rintro (h | h | h)
    ·exact hq h
    ·omega
    ·exact h
  ·obtain rfl : k = l.length := by omega
   rw [List.take_length] at hq
   simp -implicitDefEqProofs (disch := first | omega | assumption) [hq]
 rcases hR with ⟨rfl, rfl, h⟩ | ⟨rfl, rfl, h⟩
 ·simp -implicitDefEqProofs (disch := first | omega | (simp <;> fail) | assumption) [hin, h]
 ·simp -implicitDefEqProofs (disch := first | omega | (simp <;> fail) | assumption) [hin, h]
def wk (x : Int) (o : List Int) : Nat := (o.takeWhile fun y => decide (y < x)).length
theorem wk_le (x : Int) : ∀ o, wk x o ≤ o.length
 | [] => by simp [wk]
 | y :: o => by
  have := wk_le x o
  unfold wk at this ⊢
  rw [List.takeWhile_cons]
  split <;> simp only [List.length_cons, List.length_nil] <;> omega
theorem wk_lt (x : Int) : ∀ (o : List Int) (i : Nat) (hi : i < o.length), i < wk x o → o[i] < x
 | [], i, hi, _ => by simp at hi
 | y :: o, i, hi, h => by
  unfold wk at h
  rw [List.takeWhile_cons] at h
  split at h
  ·rename_i hy
   cases i with
   | zero => simpa using hy
   | succ i =>
    rw [List.getElem_cons_succ]
    refine wk_lt x o i (by simpa using hi) ?_
    unfold wk; simpa using h
  ·simp at h
theorem wk_ge (x : Int) : ∀ (o : List Int) (hi : wk x o < o.length), ¬ o[wk x o] < x
 | [], hi => by simp at hi
 | y :: o, hi => by
  by_cases hy : y < x
  ·have e : wk x (y :: o) = wk x o + 1 := by unfold wk; rw [List.takeWhile_cons, if_pos (by simpa using hy)]; rfl
   have h2 : wk x o < o.length := by rw [e] at hi; simpa using hi
   have := wk_ge x o h2
   simp only [e, List.getElem_cons_succ]; exact this
  ·have e : wk x (y :: o) = 0 := by unfold wk; rw [List.takeWhile_cons, if_neg (by simpa using hy)]; rfl
   simp only [e, List.getElem_cons_zero]; exact hy
theorem insU_at (x : Int) : ∀ o : List Int, insU x o = if o[wk x o]? = some x then o else o.take (wk x o) ++ x :: o.drop (wk x o)
 | [] => by simp [insU, wk]
 | y :: o => by
  by_cases hy : y < x
  ·have e : wk x (y :: o) = wk x o + 1 := by unfold wk; rw [List.takeWhile_cons, if_pos (by simpa using hy)]; rfl
   rw [insU, if_pos hy, insU_at x o, e]
   simp only [List.getElem?_cons_succ, List.take_succ_cons, List.drop_succ_cons]
   split <;> simp
  ·have e : wk x (y :: o) = 0 := by unfold wk; rw [List.takeWhile_cons, if_neg (by simpa using hy)]; rfl
   rw [insU, if_neg hy, e]
   simp
def v5 (o : List Int) : Nat → AV
 | 0 => .nil 1
 | _ + 1 => vI o
theorem v5_0 (o : List Int) : v5 o 0 = .nil 1 := rfl
theorem v5_p (o : List Int) {k : Nat} (h : 0 < k) : v5 o k = vI o := by cases k with | zero => omega | succ k => rfl
theorem v5_s (o : List Int) (k : Nat) : v5 o (k + 1) = vI o := rfl
theorem bndL_get : ∀ (l : List Sp) (k : Nat), (bndL l)[k]? = (l[k / 2]?).map fun s => if k % 2 = 1 then s.t else s.f
 | [], k => by simp [bndL]
 | s :: l, 0 => by simp [bndL]
 | s :: l, 1 => by simp [bndL]
 | s :: l, k + 2 => by
  have := bndL_get l k
  have e : bndL (s :: l) = s.f :: s.t :: bndL l := rfl
  rw [e, List.getElem?_cons_succ, List.getElem?_cons_succ, this, show (k + 2) / 2 = k / 2 + 1 by omega, List.getElem?_cons_succ, show (k + 2) % 2 = k % 2 by omega]
def bAcc (l : List Sp) (k : Nat) : List Int := ((bndL l).take k).foldl (fun o x => insU x o) []
theorem bAcc_len (l : List Sp) (k : Nat) : (bAcc l k).length ≤ k := by
 have := (foldU_spec ((bndL l).take k) [] .nil).2.1
 rw [List.length_take] at this
 unfold bAcc; simp at this; omega
theorem bounds_in (Γ : Env) (M : Nat) (hM : 10000 < M) (o : List Int) (l : List Sp) (k : Nat) (x : Int) (ho : o.length ≤ 9000) (A : AV) (hA : A = v5 o k) (hA0 : k = 0 → o = []) :
  ∀ s0, nrm [5, 6, 7, 8, 9] [] s0 = ⟨[(5, A), (6, spL l), (7, i64 k), (8, i64 x), (9, i64 (0 : Nat))], []⟩ → lp (exec Γ M ref09_bounds_l1) M s0 = some (.ex 2, ⟨[(5, A), (6, spL l), (7, i64 k), (8, i64 x), (9, i64 (wk x o))], []⟩) := by
 obtain ⟨ax, s', ⟨rfl, rfl⟩, hin⟩ : ∃ ax s', (ax = .ex 2 ∧ s' = ⟨[(5, A), (6, spL l), (7, i64 k), (8, i64 x), (9, i64 (wk x o))], []⟩) ∧ ∀ s0, nrm [5, 6, 7, 8, 9] [] s0 = ⟨[(5, A), (6, spL l), (7, i64 k), (8, i64 x), (9, i64 (0 : Nat))], []⟩ → lp (exec Γ M ref09_bounds_l1) M s0 = some (ax, s') := by
  refine lp_all (fun q : Nat => ⟨[(5, A), (6, spL l), (7, i64 k), (8, i64 x), (9, i64 q)], []⟩) (fun q => q ≤ wk x o) (fun q => wk x o - q) _ 0 M (by simp) (by omega) (by have := wk_le x o; omega) ?_
  intro q hq
  have hw := wk_le x o
  cases k with
  | zero =>
   obtain rfl := hA0 rfl
   subst hA
   obtain rfl : q = 0 := by simp at hw; omega
   have h0 : wk x [] = 0 := rfl
   simp -implicitDefEqProofs (disch := first | omega | assumption) [v5_0, h0]
  | succ k =>
   subst hA
   by_cases hlt : q < o.length
   ·obtain ⟨y, hy⟩ : ∃ t, o[q]'hlt = t := ⟨_, rfl⟩
    by_cases c : q < wk x o
    ·have hc := wk_lt x o q hlt c
     rw [hy] at hc
     simp -implicitDefEqProofs (disch := first | omega | assumption) [v5_s, hlt, hy, sQ, hc]
     exact ⟨q + 1, by omega, by omega, by omega⟩
    ·obtain rfl : q = wk x o := by omega
     have hc := wk_ge x o hlt
     rw [hy] at hc
     simp -implicitDefEqProofs (disch := first | omega | assumption) [v5_s, hlt, hy, sQ, hc]
   ·obtain rfl : q = wk x o := by omega
    simp -implicitDefEqProofs (disch := first | omega | assumption) [v5_s, hlt]
 exact hin
def BndC (g : List AV → Option (List AV)) : Prop := ∀ a b : List Sp, a.length ≤ 1000 → b.length ≤ 1000 → g [spL a, spL b] = some [vI (bnd (a ++ b))]
theorem ref09_bounds_run (Γ : Env) (M : Nat) (hM : 10000 < M) : BndC (run Γ M ref09_bounds_f) := by
 intro a b ha hb
 obtain ⟨l, hl⟩ : ∃ l, a ++ b = l := ⟨_, rfl⟩
 have hll : l.length ≤ 2000 := by rw [← hl, List.length_append]; omega
 have hbl := bndL_len l
 obtain ⟨ax, s', ⟨rfl, rfl⟩, hin⟩ : ∃ ax s', (ax = .ex 0 ∧ s' = ⟨[(5, v5 (bnd l) (2 * l.length))], []⟩) ∧ ∀ s0, nrm [5, 6, 7] [] s0 = ⟨[(5, v5 (bAcc l 0) 0), (6, spL l), (7, i64 (0 : Nat))], []⟩ → lp (exec Γ M ref09_bounds_l2) M s0 = some (ax, s') := by
  refine lp_all (fun q : Nat => ⟨[(5, v5 (bAcc l q) q), (6, spL l), (7, i64 q)], []⟩) (fun q => q ≤ 2 * l.length) (fun q => 2 * l.length - q) _ 0 M (by simp) (by omega) (by omega) ?_
  intro k hk
  by_cases hlt : k < 2 * l.length
  ·have hk2 : k / 2 < l.length := by omega
   obtain ⟨s, hs⟩ : ∃ t, l[k / 2]'hk2 = t := ⟨_, rfl⟩
   obtain ⟨x, hx⟩ : ∃ x, (if k % 2 = 1 then s.t else s.f) = x := ⟨_, rfl⟩
   have hkb : k < (bndL l).length := by omega
   have hg : (bndL l)[k] = x := by
    have := bndL_get l k
    rw [List.getElem?_eq_getElem hk2, hs, List.getElem?_eq_getElem hkb] at this
    simpa [hx] using this
   have hsn : bAcc l (k + 1) = insU x (bAcc l k) := by
    unfold bAcc; rw [List.take_succ_eq_append_getElem hkb, List.foldl_append, hg]; rfl
   have hal := bAcc_len l k
   obtain ⟨o, ho⟩ : ∃ o, bAcc l k = o := ⟨_, rfl⟩
   have h00 : k = 0 → o = [] := fun h => by subst h; rw [← ho]; rfl
   rw [ho] at hsn hal ⊢
   have hlp := bounds_in Γ M hM o l k x (by omega) (v5 o k) rfl h00
   have hw := wk_le x o
   have hat := insU_at x o
   rw [← hsn] at hat
   have q3 : ((k : Int) / 2).toNat = k / 2 := by omega
   rcases Nat.eq_zero_or_pos k with rfl | hk0
   ·obtain rfl := h00 rfl
    have hx0 : s.f = x := by simpa using hx
    have hw0 : wk x [] = 0 := rfl
    rw [hw0] at hlp hat
    have hat1 : bAcc l 1 = [x] := by rw [hat]; simp
    simp only [v5_0, v5_s] at hlp ⊢
    rw [← hx0] at hlp
    simp -implicitDefEqProofs (disch := first | omega | (simp <;> fail) | assumption) [hlt, hs, Sp.cells, hlp]
    exact ⟨1, ⟨by rw [hat1, hx0]; simp [v5_s, sQ], by omega⟩, by omega, by omega⟩
   ·rw [v5_p o hk0] at hlp ⊢
    have key : ∀ y, o[wk x o]? = some y → y = x → bAcc l (k + 1) = o := fun y h1 h2 => by rw [hat, h1, h2, if_pos rfl]
    have hx2 : (k : Int) % 2 = 1 ∧ s.t = x ∨ ¬ (k : Int) % 2 = 1 ∧ s.f = x := by
     by_cases ch : k % 2 = 1
     ·rw [if_pos ch] at hx; exact .inl ⟨by omega, hx⟩
     ·rw [if_neg ch] at hx; exact .inr ⟨by omega, hx⟩
    have hlc : lcRows 10 (List.take (wk x o) (List.map (toAV ∘ sQ) o)) = true := by rw [← List.map_take]; exact lcRows_comp 10 sQ _
    have hwl : wk x o + (o.length - wk x o + 1) = wk x o + 1 + (o.length - wk x o) := by omega
    have hnl : (o.take (wk x o) ++ x :: o.drop (wk x o)).length = wk x o + 1 + (o.length - wk x o) := by
     rw [List.length_append, List.length_take, List.length_cons, List.length_drop]; omega
    have hall := allRows_comp sQ (o.take (wk x o) ++ x :: o.drop (wk x o))
    have e1 : (o.take (wk x o) ++ x :: o.drop (wk x o)).map (toAV ∘ sQ) = List.take (wk x o) (List.map (toAV ∘ sQ) o) ++ [AV.c (D.int IntKind.i64 x)] :: List.take (o.length - wk x o) (List.drop (wk x o) (List.map (toAV ∘ sQ) o)) := by
     rw [List.map_append, List.map_cons, List.map_take, List.map_drop, List.take_of_length_le (l := List.drop _ _) (by simp)]; rfl
    have hF := List.take_of_length_le (i := wk x o + 1 + (o.length - wk x o)) (l := (o.take (wk x o) ++ x :: o.drop (wk x o)).map sQ) (by rw [List.length_map]; omega)
    rw [e1] at hall
    have hlast : o[wk x o]? ≠ some x → vI (bAcc l (k + 1)) = .c (.vs 1 ((o.take (wk x o) ++ x :: o.drop (wk x o)).map sQ)) := fun h => by rw [hat, if_neg h]
    generalize (o.take (wk x o) ++ x :: o.drop (wk x o)).map sQ = K at *
    by_cases c : wk x o < o.length
    ·obtain ⟨y, hy⟩ : ∃ t, o[wk x o]'c = t := ⟨_, rfl⟩
     have hy2 : o[wk x o]? = some y := by rw [List.getElem?_eq_getElem c, hy]
     rw [hy2] at hat hlast
     generalize wk x o = w at *
     by_cases e : y = x
     ·have ho2 := key y hy2 e
      rcases hx2 with ⟨q2, hx⟩ | ⟨q2, hx⟩ <;>
      ·simp -implicitDefEqProofs (disch := first | omega | (simp <;> fail) | assumption) [hlt, hk2, hs, Sp.cells, q2, q3, hlp, hx, c, hy, e, sQ]
       exact ⟨k + 1, ⟨by rw [v5_s, ho2], by omega⟩, by omega, by omega⟩
     ·have e' : ¬ x = y := fun h => e h.symm
      have hne : some y ≠ some x := by simpa using e
      replace hlast := hlast hne
      clear hne
      rcases hx2 with ⟨q2, hx⟩ | ⟨q2, hx⟩ <;>
      ·simp -implicitDefEqProofs (disch := first | omega | (simp <;> fail) | assumption) [hlt, hk2, hs, Sp.cells, q2, q3, hlp, hx, c, hy, e, e', sQ, hw, hlc, hwl, hall, hF]
       exact ⟨k + 1, ⟨by rw [v5_s, hlast], by omega⟩, by omega, by omega⟩
    ·have hne : o[wk x o]? ≠ some x := by rw [List.getElem?_eq_none (by omega)]; simp
     replace hlast := hlast hne
     clear hne
     generalize wk x o = w at *
     have hz : o.length - w = 0 := by omega
     rw [hz] at hall hF
     have hall2 : allRows (List.take w (List.map (toAV ∘ sQ) o) ++ [[AV.c (D.int IntKind.i64 x)]]) = some K := by simpa using hall
     have hF2 : K.take (w + 1) = K := hF
     rcases hx2 with ⟨q2, hx⟩ | ⟨q2, hx⟩ <;>
     ·simp -implicitDefEqProofs (disch := first | omega | (simp <;> fail) | assumption) [hlt, hk2, hs, Sp.cells, q2, q3, hlp, hx, c, sQ, hw, hlc, hall2, hF2]
      exact ⟨k + 1, ⟨by rw [v5_s, hlast], by omega⟩, by omega, by omega⟩
  ·obtain rfl : k = 2 * l.length := by omega
   have : bAcc l (2 * l.length) = bnd l := by unfold bAcc bnd; rw [← hbl, List.take_length]
   rw [this]
   simp -implicitDefEqProofs (disch := first | omega | assumption)
 have hlp : lp (exec Γ M ref09_bounds_l2) M ⟨[(5, .nil 1), (6, spL l), (7, .c (.int .i64 0))], []⟩ = some (.ex 0, ⟨[(5, v5 (bnd l) (2 * l.length))], []⟩) := hin _ (by simp [v5_0])
 have ha0 := allRows_comp Sp.cells l
 have e0 : List.map (toAV ∘ Sp.cells) a ++ List.map (toAV ∘ Sp.cells) b = List.map (toAV ∘ Sp.cells) l := by rw [← hl, List.map_append]
 have hlc : ∀ l : List Sp, lcRows 11 (List.map (toAV ∘ Sp.cells) l) = true := fun l => lcRows_comp 11 Sp.cells l
 have hF := List.take_of_length_le (i := a.length + b.length) (l := l.map Sp.cells) (by rw [List.length_map, ← hl, List.length_append]; omega)
 have hln : l.length = a.length + b.length := by rw [← hl, List.length_append]
 rw [hl]
 have hend : v5 (bnd l) (2 * l.length) = .nil 1 ∧ bnd l = [] ∨ v5 (bnd l) (2 * l.length) = vI (bnd l) := by
  rcases Nat.eq_zero_or_pos l.length with h0 | h0
  ·obtain rfl := List.eq_nil_of_length_eq_zero h0
   exact .inl ⟨rfl, rfl⟩
  ·exact .inr (v5_p _ (by omega))
 rcases hend with ⟨h1, h2⟩ | h1
 ·rw [h1] at hlp
  simp -implicitDefEqProofs (disch := first | omega | (simp <;> fail) | assumption) [hlp, ha0, e0, hlc, hF, h2, hln]
 ·rw [h1] at hlp
  simp -implicitDefEqProofs (disch := first | omega | (simp <;> fail) | assumption) [hlp, ha0, e0, hlc, hF, hln]
def MakeC (g : List AV → Option (List AV)) : Prop := ∀ (a b : List Sp) (k : Int), a.length ≤ 1000 → b.length ≤ 1000 → g [spL a, spL b, i64 k] = some [spL (makeS a b k)]
def oR (l : List Sp) : Rows := l.map (toAV ∘ Sp.cells)
theorem oR_len (l : List Sp) : (oR l).length = l.length := List.length_map _
theorem make_k1 (Γ : Env) (M : Nat) (A B L : AV) (k : Int) (i n : Nat) (O : Obj) (p : Bool) : True := trivial
theorem ref09_Make_run (Γ : Env) (M : Nat) (hM : 5000 < M) (hB : BndC (Γ 301)) (hH : HasC (Γ 268)) : MakeC (run Γ M ref09_Make_f) := by
 intro a b k ha hb
 have hbd := hB a b ha hb
 have hbl := bnd_len (a ++ b)
 rw [List.length_append] at hbl
 obtain ⟨l, hl⟩ : ∃ l, bnd (a ++ b) = l := ⟨_, rfl⟩
 have hmk : makeS a b k = mkAcc (kindP a b k) l (l.length - 1) := by rw [makeS, hl]
 rw [hl] at hbd hbl
 rw [hmk]
 obtain ⟨p, hp⟩ : ∃ p, kindP a b k = p := ⟨_, rfl⟩
 rw [hp]
 obtain ⟨ax, s', ⟨rfl, rfl⟩, hin⟩ : ∃ ax s', (ax = .ex 0 ∧ s' = ⟨[(8, .sl 8 (mkAcc p l (l.length - 1)).length 0 (mkAcc p l (l.length - 1)).length)], [(8, ⟨2, oR (mkAcc p l (l.length - 1))⟩)]⟩) ∧ ∀ s0, nrm [0, 1, 2, 7, 8, 9] [8, 92] s0 = ⟨[(0, spL a), (1, spL b), (2, i64 k), (7, vI l), (8, .sl 8 (mkAcc p l 0).length 0 (mkAcc p l 0).length), (9, i64 (0 : Nat))], [(8, ⟨2, oR (mkAcc p l 0)⟩)]⟩ → lp (exec Γ M ref09_Make_l1) M s0 = some (ax, s') := by
  refine lp_all (fun q : Nat => ⟨[(0, spL a), (1, spL b), (2, i64 k), (7, vI l), (8, .sl 8 (mkAcc p l q).length 0 (mkAcc p l q).length), (9, i64 q)], [(8, ⟨2, oR (mkAcc p l q)⟩)]⟩) (fun q => q ≤ l.length - 1) (fun q => l.length - 1 - q) _ 0 M (by simp [oR, mkAcc]) (by omega) (by omega) ?_
  intro i hi
  by_cases hlt : i + 1 < l.length
  ·have hi1 : i < l.length := by omega
   obtain ⟨x, hx⟩ : ∃ t, l[i]'hi1 = t := ⟨_, rfl⟩
   obtain ⟨y, hy⟩ : ∃ t, l[i + 1]'hlt = t := ⟨_, rfl⟩
   have hdx : l.getD i 0 = x := by rw [List.getD_eq_getElem?_getD, List.getElem?_eq_getElem hi1, hx]; rfl
   have hdy : l.getD (i + 1) 0 = y := by rw [List.getD_eq_getElem?_getD, List.getElem?_eq_getElem hlt, hy]; rfl
   have hsn : mkAcc p l (i + 1) = if p x then mkStep (mkAcc p l i) x y else mkAcc p l i := by rw [mkAcc, hdx, hdy]
   have hal := mkAcc_len p l i
   have e1 := hH a x ha
   have e2 := hH b x hb
   have hpx : p x = (decide (HasS a x) && (if k = 1 then decide (HasS b x) else true) && (if k = 2 then !decide (HasS b x) else true)) := by rw [← hp]; rfl
   generalize decide (HasS a x) = A at *
   generalize decide (HasS b x) = B at *
   obtain ⟨o, ho⟩ : ∃ o, mkAcc p l i = o := ⟨_, rfl⟩
   rw [ho] at hsn hal ⊢
   have hrl := oR_len o
   have hlc : lcRows 8 (oR o) = true := lcRows_comp 8 Sp.cells o
   have hkk : k = 1 ∨ k = 2 ∨ (¬ k = 1 ∧ ¬ k = 2) := by omega
   have ho3 : o = [] ∨ ∃ o' s, o = o' ++ [s] := by
    rcases List.eq_nil_or_concat o with h | ⟨o', s, h⟩
    ·exact .inl h
    ·exact .inr ⟨o', s, by rw [h, List.concat_eq_append]⟩
   cases hpv : p x with
   | false =>
    rw [hpv] at hpx
    rw [hpv, if_neg (by simp)] at hsn
    rcases hkk with rfl | rfl | ⟨k1, k2⟩
    ·cases A <;> cases B <;> simp at hpx <;>
     ·simp -implicitDefEqProofs (disch := first | omega | (simp <;> fail) | assumption) [hlt, hi1, hx, hy, sQ, e1, e2]
      exact ⟨i + 1, ⟨⟨by rw [hsn], by omega⟩, by rw [hsn]⟩, by omega, by omega⟩
    ·cases A <;> cases B <;> simp at hpx <;>
     ·simp -implicitDefEqProofs (disch := first | omega | (simp <;> fail) | assumption) [hlt, hi1, hx, hy, sQ, e1, e2]
      exact ⟨i + 1, ⟨⟨by rw [hsn], by omega⟩, by rw [hsn]⟩, by omega, by omega⟩
    ·cases A <;> cases B <;> simp [k1, k2] at hpx <;>
     ·simp -implicitDefEqProofs (disch := first | omega | (simp <;> fail) | assumption) [hlt, hi1, hx, hy, sQ, e1, e2, k1, k2]
      exact ⟨i + 1, ⟨⟨by rw [hsn], by omega⟩, by rw [hsn]⟩, by omega, by omega⟩
   | true =>
    rw [hpv] at hpx
    rw [hpv, if_pos rfl] at hsn
    rcases ho3 with rfl | ⟨o', s, rfl⟩
    ·have hst : mkStep [] x y = [⟨x, y⟩] := rfl
     rw [hst] at hsn
     rcases hkk with rfl | rfl | ⟨k1, k2⟩
     ·cases A <;> cases B <;> simp at hpx <;>
      ·simp -implicitDefEqProofs (disch := first | omega | (simp <;> fail) | assumption) [hlt, hi1, hx, hy, sQ, e1, e2, oR]
       exact ⟨i + 1, ⟨⟨by rw [hsn]; rfl, by omega⟩, by rw [hsn]; rfl⟩, by omega, by omega⟩
     ·cases A <;> cases B <;> simp at hpx <;>
      ·simp -implicitDefEqProofs (disch := first | omega | (simp <;> fail) | assumption) [hlt, hi1, hx, hy, sQ, e1, e2, oR]
       exact ⟨i + 1, ⟨⟨by rw [hsn]; rfl, by omega⟩, by rw [hsn]; rfl⟩, by omega, by omega⟩
     ·cases A <;> cases B <;> simp [k1, k2] at hpx <;>
      ·simp -implicitDefEqProofs (disch := first | omega | (simp <;> fail) | assumption) [hlt, hi1, hx, hy, sQ, e1, e2, oR, k1, k2]
       exact ⟨i + 1, ⟨⟨by rw [hsn]; rfl, by omega⟩, by rw [hsn]; rfl⟩, by omega, by omega⟩
    ·have hlen : (oR (o' ++ [s])).length = o'.length + 1 := by rw [oR_len]; simp
     have hol : (o' ++ [s]).length = o'.length + 1 := by simp
     have hget : (oR (o' ++ [s]))[o'.length]? = some [i64 s.f, i64 s.t] := by unfold oR; rw [List.getElem?_map, List.getElem?_append_right (by omega), Nat.sub_self]; rfl
     have hget2 := (List.getElem?_eq_some_iff.1 hget).2
     have hz : ((o'.length : Int) + 1 - 1) = o'.length := by omega
     rw [hol] at *
     by_cases hst : s.t = x
     ·have hsn2 : mkAcc p l (i + 1) = o' ++ [⟨s.f, y⟩] := by
       rw [hsn]; unfold mkStep; simp [hst]
      have hset : (oR (o' ++ [s])).set o'.length [i64 s.f, i64 y] = oR (o' ++ [⟨s.f, y⟩]) := by
       unfold oR; rw [List.map_append, List.map_append, List.set_append_right _ _ (by simp)]; simp [toAV, Sp.cells]
      have hln2 : (mkAcc p l (i + 1)).length = o'.length + 1 := by rw [hsn2]; simp
      rcases hkk with rfl | rfl | ⟨k1, k2⟩
      ·cases A <;> cases B <;> simp at hpx <;>
       ·simp -implicitDefEqProofs (disch := first | omega | (simp <;> fail) | assumption) [hlt, hi1, hx, hy, sQ, e1, e2, hlen, hget, hget2, hst, hlc]
        exact ⟨i + 1, ⟨⟨by rw [hln2], by omega⟩, by rw [hsn2, ← hset, List.set_eq_take_append_cons_drop, if_pos (by omega)]⟩, by omega, by omega⟩
      ·cases A <;> cases B <;> simp at hpx <;>
       ·simp -implicitDefEqProofs (disch := first | omega | (simp <;> fail) | assumption) [hlt, hi1, hx, hy, sQ, e1, e2, hlen, hget, hget2, hst, hlc]
        exact ⟨i + 1, ⟨⟨by rw [hln2], by omega⟩, by rw [hsn2, ← hset, List.set_eq_take_append_cons_drop, if_pos (by omega)]⟩, by omega, by omega⟩
      ·cases A <;> cases B <;> simp [k1, k2] at hpx <;>
       ·simp -implicitDefEqProofs (disch := first | omega | (simp <;> fail) | assumption) [hlt, hi1, hx, hy, sQ, e1, e2, hlen, hget, hget2, hst, hlc, k1, k2]
        exact ⟨i + 1, ⟨⟨by rw [hln2], by omega⟩, by rw [hsn2, ← hset, List.set_eq_take_append_cons_drop, if_pos (by omega)]⟩, by omega, by omega⟩
     ·have hsn2 : mkAcc p l (i + 1) = (o' ++ [s]) ++ [⟨x, y⟩] := by
       rw [hsn]; unfold mkStep; simp [hst]
      have hln2 : (mkAcc p l (i + 1)).length = o'.length + 1 + 1 := by rw [hsn2]; simp
      have hap : oR (o' ++ [s]) ++ [[i64 x, i64 y]] = oR (mkAcc p l (i + 1)) := by rw [hsn2]; unfold oR; rw [List.map_append (l₁ := o' ++ [s])]; rfl
      rcases hkk with rfl | rfl | ⟨k1, k2⟩
      ·cases A <;> cases B <;> simp at hpx <;>
       ·simp -implicitDefEqProofs (disch := first | omega | (simp <;> fail) | assumption) [hlt, hi1, hx, hy, sQ, e1, e2, hlen, hget, hget2, hst, hlc]
        exact ⟨i + 1, ⟨⟨by rw [hln2], by omega⟩, by rw [← hap]⟩, by omega, by omega⟩
      ·cases A <;> cases B <;> simp at hpx <;>
       ·simp -implicitDefEqProofs (disch := first | omega | (simp <;> fail) | assumption) [hlt, hi1, hx, hy, sQ, e1, e2, hlen, hget, hget2, hst, hlc]
        exact ⟨i + 1, ⟨⟨by rw [hln2], by omega⟩, by rw [← hap]⟩, by omega, by omega⟩
      ·cases A <;> cases B <;> simp [k1, k2] at hpx <;>
       ·simp -implicitDefEqProofs (disch := first | omega | (simp <;> fail) | assumption) [hlt, hi1, hx, hy, sQ, e1, e2, hlen, hget, hget2, hst, hlc, k1, k2]
        exact ⟨i + 1, ⟨⟨by rw [hln2], by omega⟩, by rw [← hap]⟩, by omega, by omega⟩
  ·obtain rfl : i = l.length - 1 := by omega
   have hnl : ¬ ((l.length - 1 : Nat) : Int) + 1 < l.length := by omega
   have hnb : l.length - 1 ≤ 4000 := by omega
   generalize l.length - 1 = n at *
   simp -implicitDefEqProofs (disch := first | omega | assumption) [hnl, hlt]
 have hlp : lp (exec Γ M ref09_Make_l1) M ⟨[(0, spL a), (1, spL b), (2, i64 k), (7, vI l), (8, .sl 8 0 0 0), (9, .c (.int .i64 0))], [(8, ⟨2, []⟩)]⟩ = some (.ex 0, ⟨[(8, .sl 8 (mkAcc p l (l.length - 1)).length 0 (mkAcc p l (l.length - 1)).length)], [(8, ⟨2, oR (mkAcc p l (l.length - 1))⟩)]⟩) := hin _ (by simp [mkAcc, oR])
 have ha := allRows_comp Sp.cells (mkAcc p l (l.length - 1))
 have hrl := oR_len (mkAcc p l (l.length - 1))
 have hF := List.take_of_length_le (i := (mkAcc p l (l.length - 1)).length) (l := (mkAcc p l (l.length - 1)).map Sp.cells) (by simp)
 rw [show List.map (toAV ∘ Sp.cells) (mkAcc p l (l.length - 1)) = oR (mkAcc p l (l.length - 1)) from rfl] at ha
 generalize mkAcc p l (l.length - 1) = o at *
 generalize hG : oR o = G at *
 generalize hK : o.map Sp.cells = K at *
 simp -implicitDefEqProofs (disch := first | omega | (simp <;> fail) | assumption) [hbd, hlp, ha, hrl, hF, hK]
end Go.Am
namespace Go.Am
def EqSpC (g : List AV → Option (List AV)) : Prop := ∀ l : List Sp, l.length ≤ 4000 → g [spL l, spL l] = some [bo true]
theorem slices_Equal_Sp_run (Γ : Env) (M : Nat) (hM : 4100 < M) : EqSpC (run Γ M slices_Equal_Sapi_Span_api_Span_f) := by
 intro ts hl
 obtain ⟨ax, s', ⟨rfl, rfl⟩, hin⟩ : ∃ ax s', (ax = .ex 0 ∧ s' = ⟨[], []⟩) ∧ ∀ s0, nrm [0, 1, 12, 13] [] s0 = ⟨[(0, spL ts), (1, spL ts), (12, i64 ts.length), (13, i64 (0 : Nat))], []⟩ → lp (exec Γ M slices_Equal_Sapi_Span_api_Span_l1) M s0 = some (ax, s') := by
  refine lp_all (fun q : Nat => ⟨[(0, spL ts), (1, spL ts), (12, i64 ts.length), (13, i64 q)], []⟩) (fun q => q ≤ ts.length) (fun q => ts.length - q) _ 0 M (by simp) (by omega) (by omega) ?_
  intro k hk
  by_cases hlt : k < ts.length
  ·simp -implicitDefEqProofs (disch := first | omega | assumption) [hlt, Sp.cells]
   exact ⟨k + 1, by omega, by omega, by omega⟩
  ·obtain rfl : k = ts.length := by omega
   simp -implicitDefEqProofs (disch := first | omega | assumption)
 simp -implicitDefEqProofs (disch := first | omega | (simp <;> fail) | assumption) [hin]
theorem takeSp (l : List Sp) : List.take l.length (l.map Sp.cells) = l.map Sp.cells := List.take_of_length_le (by simp)
structure AndInv (a b x y out : List Sp) : Prop where
 rx : SRight x
 ry : SRight y
 ro : SRight out
 far : ∀ s ∈ out, (∀ u ∈ x, s.t < u.f) ∨ (∀ u ∈ y, s.t < u.f)
 has : ∀ n, (HasS out n ∨ (HasS x n ∧ HasS y n)) ↔ HasS a n ∧ HasS b n
 ok : ∀ s ∈ out, s.Ok
 okx : ∀ s ∈ x, s.Ok
 oky : ∀ s ∈ y, s.Ok
 len : out.length + x.length + y.length ≤ a.length + b.length
theorem and_step {a b x y out : List Sp} {u v : Sp} (h : AndInv a b (u :: x) (v :: y) out) : ∃ out', (out' = out ∧ ¬ max u.f v.f < min u.t v.t ∨ out' = out ++ [⟨max u.f v.f, min u.t v.t⟩] ∧ max u.f v.f < min u.t v.t) ∧ (u.t < v.t → AndInv a b x (v :: y) out') ∧ (¬ u.t < v.t → AndInv a b (u :: x) y out') := by
 obtain ⟨hu1, hu2⟩ := h.rx.head
 obtain ⟨hv1, hv2⟩ := h.ry.head
 obtain ⟨w, hw⟩ : ∃ w : Sp, w = ⟨max u.f v.f, min u.t v.t⟩ := ⟨_, rfl⟩
 have wf : w.f = max u.f v.f := by rw [hw]
 have wt : w.t = min u.t v.t := by rw [hw]
 have hwok : w.Ok := by
  have h1 := h.okx u (by simp)
  have h2 := h.oky v (by simp)
  obtain ⟨⟨_, _⟩, _, _⟩ := h1
  obtain ⟨⟨_, _⟩, _, _⟩ := h2
  exact ⟨⟨by rw [wf]; omega, by rw [wf]; omega⟩, by rw [wt]; omega, by rw [wt]; omega⟩
 obtain ⟨out', hout, hro, hhas, hok, hlen, hfar⟩ : ∃ out', (out' = out ∧ ¬ max u.f v.f < min u.t v.t ∨ out' = out ++ [⟨max u.f v.f, min u.t v.t⟩] ∧ max u.f v.f < min u.t v.t) ∧ SRight out' ∧ (∀ n, HasS out' n ↔ HasS out n ∨ (u.f ≤ n ∧ n < u.t ∧ v.f ≤ n ∧ n < v.t)) ∧ (∀ s ∈ out', s.Ok) ∧ out'.length ≤ out.length + 1 ∧ (∀ s ∈ out', s ∈ out ∨ s.t = min u.t v.t) := by
  by_cases c : max u.f v.f < min u.t v.t
  ·refine ⟨out ++ [w], .inr ⟨by rw [hw], c⟩, h.ro.snoc (by omega) fun s hs => ?_, fun n => ?_, fun s hs => ?_, by simp, fun s hs => ?_⟩
   ·rcases h.far s hs with h1 | h1
    ·have := h1 u (by simp); omega
    ·have := h1 v (by simp); omega
   ·rw [hasS_app, hasS_cons, hasS_nil, or_false, wf, wt]
    constructor
    ·rintro (h1 | h1)
     ·exact .inl h1
     ·exact .inr (by omega)
    ·rintro (h1 | h1)
     ·exact .inl h1
     ·exact .inr (by omega)
   ·simp only [List.mem_append, List.mem_singleton] at hs
    rcases hs with hs | rfl
    ·exact h.ok s hs
    ·exact hwok
   ·simp only [List.mem_append, List.mem_singleton] at hs
    rcases hs with hs | rfl
    ·exact .inl hs
    ·exact .inr wt
  ·refine ⟨out, .inl ⟨rfl, c⟩, h.ro, fun n => ?_, h.ok, by omega, fun s hs => .inl hs⟩
   constructor
   ·exact .inl
   ·rintro (h1 | h1)
    ·exact h1
    ·omega
 have hl := h.len
 simp only [List.length_cons] at hl
 refine ⟨out', hout, fun hc => ⟨h.rx.tail, h.ry, hro, fun s hs => ?_, fun n => ?_, hok, fun s hs => h.okx s (by simp [hs]), h.oky, by simp only [List.length_cons]; omega⟩, fun hc => ⟨h.rx, h.ry.tail, hro, fun s hs => ?_, fun n => ?_, hok, h.okx, fun s hs => h.oky s (by simp [hs]), by simp only [List.length_cons]; omega⟩⟩
 ·rcases hfar s hs with h1 | h1
  ·rcases h.far s h1 with h2 | h2
   ·exact .inl fun z hz => h2 z (by simp [hz])
   ·exact .inr h2
  ·exact .inl fun z hz => by have := hu2 z hz; omega
 ·rw [hhas, ← h.has n, hasS_cons u x]
  constructor
  ·rintro ((h1 | h1) | ⟨h1, h2⟩)
   ·exact .inl h1
   ·exact .inr ⟨.inl ⟨h1.1, h1.2.1⟩, (hasS_cons _ _ _).2 (.inl h1.2.2)⟩
   ·exact .inr ⟨.inr h1, h2⟩
  ·rintro (h1 | ⟨h1 | h1, h2⟩)
   ·exact .inl (.inl h1)
   ·rcases (hasS_cons _ _ _).1 h2 with h3 | ⟨z, hz, h3, h4⟩
    ·exact .inl (.inr ⟨h1.1, h1.2, h3⟩)
    ·have := hv2 z hz; omega
   ·exact .inr ⟨h1, h2⟩
 ·rcases hfar s hs with h1 | h1
  ·rcases h.far s h1 with h2 | h2
   ·exact .inl h2
   ·exact .inr fun z hz => h2 z (by simp [hz])
  ·exact .inr fun z hz => by have := hv2 z hz; omega
 ·rw [hhas, ← h.has n, hasS_cons v y]
  constructor
  ·rintro ((h1 | h1) | ⟨h1, h2⟩)
   ·exact .inl h1
   ·exact .inr ⟨(hasS_cons _ _ _).2 (.inl ⟨h1.1, h1.2.1⟩), .inl h1.2.2⟩
   ·exact .inr ⟨h1, .inr h2⟩
  ·rintro (h1 | ⟨h1, h2 | h2⟩)
   ·exact .inl (.inl h1)
   ·rcases (hasS_cons _ _ _).1 h1 with h3 | ⟨z, hz, h3, h4⟩
    ·exact .inl (.inr ⟨h3.1, h3.2, h2⟩)
    ·have := hu2 z hz; omega
   ·exact .inr ⟨h1, h2⟩
structure SubInv (out0 : List Sp) (s : Sp) (bp out : List Sp) (f : Int) : Prop where
 ro : SRight out
 far : ∀ x ∈ out, x.t < f
 low : s.f ≤ f
 mark : f = s.f ∨ ∃ x ∈ bp, f = x.t
 behind : ∀ n, f ≤ n → n < s.t → ¬ HasS bp n
 has : ∀ n, HasS out n ↔ HasS out0 n ∨ (s.f ≤ n ∧ n < s.t ∧ n < f ∧ ¬ HasS bp n)
 ok : ∀ x ∈ out, x.Ok
 okf : InI64 f
 top : ∀ x ∈ out, x ∈ out0 ∨ x.t ≤ s.t
 len : out.length ≤ out0.length + bp.length
theorem SubInv.outside {out0 bp out : List Sp} {s t : Sp} {f n : Int} (h : SubInv out0 s bp out f) (hb : ∀ x ∈ bp, x.t < t.f) (h1 : s.f ≤ n) (h2 : n < f) : ¬ (t.f ≤ n ∧ n < t.t) := by
 rintro ⟨h3, h4⟩
 rcases h.mark with h5 | ⟨x, hx, h5⟩
 ·omega
 ·have := hb x hx; omega
theorem sub_skip {out0 bp out : List Sp} {s t : Sp} {f : Int} (h : SubInv out0 s bp out f) (hb : ∀ x ∈ bp, x.t < t.f) (hs : t.t ≤ f ∨ s.t ≤ t.f) : SubInv out0 s (bp ++ [t]) out f where
 ro := h.ro
 far := h.far
 low := h.low
 mark := by
  rcases h.mark with h5 | ⟨x, hx, h5⟩
  ·exact .inl h5
  ·exact .inr ⟨x, by simp [hx], h5⟩
 behind := fun n h1 h2 => by
  rw [hasS_app, hasS_cons, hasS_nil, or_false]
  rintro (h3 | h3)
  ·exact h.behind n h1 h2 h3
  ·omega
 has := fun n => by
  rw [h.has, hasS_app, hasS_cons, hasS_nil, or_false]
  constructor
  ·rintro (h1 | ⟨h1, h2, h3, h4⟩)
   ·exact .inl h1
   ·refine .inr ⟨h1, h2, h3, ?_⟩
    rintro (h5 | h5)
    ·exact h4 h5
    ·exact h.outside hb h1 h3 h5
  ·rintro (h1 | ⟨h1, h2, h3, h4⟩)
   ·exact .inl h1
   ·exact .inr ⟨h1, h2, h3, fun h5 => h4 (.inl h5)⟩
 ok := h.ok
 okf := h.okf
 top := h.top
 len := by have := h.len; simp; omega
theorem sub_cut {out0 bp out : List Sp} {s t : Sp} {f : Int} (h : SubInv out0 s bp out f) (hb : ∀ x ∈ bp, x.t < t.f) (ht : t.f < t.t) (hok : t.Ok) (h1 : f < t.t) (h2 : t.f < s.t) (h3 : f < t.f) : SubInv out0 s (bp ++ [t]) (out ++ [⟨f, t.f⟩]) t.t where
 ro := h.ro.snoc h3 h.far
 far := fun x hx => by
  simp only [List.mem_append, List.mem_singleton] at hx
  rcases hx with hx | rfl
  ·have := h.far x hx; omega
  ·exact ht
 low := by have := h.low; omega
 mark := .inr ⟨t, by simp, rfl⟩
 behind := fun n h4 h5 => by
  rw [hasS_app, hasS_cons, hasS_nil, or_false]
  rintro (h6 | h6)
  ·exact h.behind n (by omega) h5 h6
  ·omega
 has := fun n => by
  rw [hasS_app, h.has, hasS_cons, hasS_nil, or_false, hasS_app, hasS_cons, hasS_nil, or_false]
  have hl := h.low
  constructor
  ·rintro ((h4 | ⟨h4, h5, h6, h7⟩) | ⟨h4, h5⟩)
   ·exact .inl h4
   ·refine .inr ⟨h4, h5, by omega, ?_⟩
    rintro (h8 | h8)
    ·exact h7 h8
    ·omega
   ·simp only at h4 h5
    refine .inr ⟨by omega, by omega, by omega, ?_⟩
    rintro (h8 | h8)
    ·exact h.behind n h4 (by omega) h8
    ·omega
  ·rintro (h4 | ⟨h4, h5, h6, h7⟩)
   ·exact .inl (.inl h4)
   ·rcases Int.lt_or_le n f with h8 | h8
    ·exact .inl (.inr ⟨h4, h5, h8, fun h9 => h7 (.inl h9)⟩)
    ·refine .inr ⟨h8, ?_⟩
     simp only
     rcases Int.lt_or_le n t.f with h9 | h9
     ·exact h9
     ·exact (h7 (.inr ⟨h9, h6⟩)).elim
 ok := fun x hx => by
  simp only [List.mem_append, List.mem_singleton] at hx
  rcases hx with hx | rfl
  ·exact h.ok x hx
  ·exact ⟨h.okf, hok.f⟩
 okf := hok.t
 top := fun x hx => by
  simp only [List.mem_append, List.mem_singleton] at hx
  rcases hx with hx | rfl
  ·exact h.top x hx
  ·exact .inr (by simp only; omega)
 len := by have := h.len; simp; omega
theorem sub_eat {out0 bp out : List Sp} {s t : Sp} {f : Int} (h : SubInv out0 s bp out f) (hb : ∀ x ∈ bp, x.t < t.f) (ht : t.f < t.t) (hok : t.Ok) (h1 : f < t.t) (h2 : t.f < s.t) (h3 : ¬ f < t.f) : SubInv out0 s (bp ++ [t]) out t.t where
 ro := h.ro
 far := fun x hx => by have := h.far x hx; omega
 low := by have := h.low; omega
 mark := .inr ⟨t, by simp, rfl⟩
 behind := fun n h4 h5 => by
  rw [hasS_app, hasS_cons, hasS_nil, or_false]
  rintro (h6 | h6)
  ·exact h.behind n (by omega) h5 h6
  ·omega
 has := fun n => by
  rw [h.has, hasS_app, hasS_cons, hasS_nil, or_false]
  constructor
  ·rintro (h4 | ⟨h4, h5, h6, h7⟩)
   ·exact .inl h4
   ·refine .inr ⟨h4, h5, by omega, ?_⟩
    rintro (h8 | h8)
    ·exact h7 h8
    ·exact h.outside hb h4 h6 h8
  ·rintro (h4 | ⟨h4, h5, h6, h7⟩)
   ·exact .inl h4
   ·rcases Int.lt_or_le n f with h8 | h8
    ·exact .inr ⟨h4, h5, h8, fun h9 => h7 (.inl h9)⟩
    ·exact (h7 (.inr ⟨by omega, h6⟩)).elim
 ok := h.ok
 okf := hok.t
 top := h.top
 len := by have := h.len; simp; omega
structure SubOut (a b ap ar out : List Sp) : Prop where
 ro : SRight out
 far : ∀ x ∈ out, ∀ y ∈ ar, x.t < y.f
 has : ∀ n, HasS out n ↔ HasS ap n ∧ ¬ HasS b n
 ok : ∀ x ∈ out, x.Ok
 len : out.length ≤ ap.length * (b.length + 1)
theorem SubOut.start {a b ap ar out : List Sp} {s : Sp} (h : SubOut a b ap (s :: ar) out) (hs : s.Ok) : SubInv out s [] out s.f where
 ro := h.ro
 far := fun x hx => h.far x hx s (by simp)
 low := Int.le_refl _
 mark := .inl rfl
 behind := fun n _ _ => by simp [HasS]
 has := fun n => by
  constructor
  ·exact .inl
  ·rintro (h1 | h1)
   ·exact h1
   ·omega
 ok := h.ok
 okf := hs.f
 top := fun x hx => .inl hx
 len := by simp
theorem SubOut.next {a b ap ar out0 out : List Sp} {s : Sp} {f : Int} (h0 : SubOut a b ap (s :: ar) out0) (h : SubInv out0 s b out f) (hs : s.Ok) (hr : ∀ y ∈ ar, s.t < y.f) : (f < s.t → SubOut a b (ap ++ [s]) ar (out ++ [⟨f, s.t⟩])) ∧ (¬ f < s.t → SubOut a b (ap ++ [s]) ar out) := by
 have far : ∀ x ∈ out, ∀ y ∈ ar, x.t < y.f := fun x hx y hy => by
  rcases h.top x hx with h1 | h1
  ·exact h0.far x h1 y (by simp [hy])
  ·have := hr y hy; omega
 have l1 := h.len
 have l2 := h0.len
 have l3 : (ap.length + 1) * (b.length + 1) = ap.length * (b.length + 1) + (b.length + 1) := by rw [Nat.add_mul, Nat.one_mul]
 have hl := h.low
 refine ⟨fun hc => ⟨h.ro.snoc hc h.far, fun x hx y hy => ?_, fun n => ?_, fun x hx => ?_, ?_⟩, fun hc => ⟨h.ro, far, fun n => ?_, h.ok, ?_⟩⟩
 ·simp only [List.mem_append, List.mem_singleton] at hx
  rcases hx with hx | rfl
  ·exact far x hx y hy
  ·exact hr y hy
 ·rw [hasS_app, h.has, h0.has, hasS_cons, hasS_nil, or_false, hasS_app, hasS_cons, hasS_nil, or_false]
  constructor
  ·rintro ((h1 | h1) | h1)
   ·exact ⟨.inl h1.1, h1.2⟩
   ·exact ⟨.inr ⟨h1.1, h1.2.1⟩, h1.2.2.2⟩
   ·simp only at h1
    exact ⟨.inr ⟨by omega, h1.2⟩, h.behind n h1.1 h1.2⟩
  ·rintro ⟨h1 | h1, h2⟩
   ·exact .inl (.inl ⟨h1, h2⟩)
   ·rcases Int.lt_or_le n f with h8 | h8
    ·exact .inl (.inr ⟨h1.1, h1.2, h8, h2⟩)
    ·exact .inr ⟨h8, h1.2⟩
 ·simp only [List.mem_append, List.mem_singleton] at hx
  rcases hx with hx | rfl
  ·exact h.ok x hx
  ·exact ⟨h.okf, hs.t⟩
 ·rw [show (ap ++ [s]).length = ap.length + 1 by simp, l3]; (try simp only [List.length_append, List.length_cons, List.length_nil]); omega
 ·rw [h.has, h0.has, hasS_app, hasS_cons, hasS_nil, or_false]
  constructor
  ·rintro (h1 | h1)
   ·exact ⟨.inl h1.1, h1.2⟩
   ·exact ⟨.inr ⟨h1.1, h1.2.1⟩, h1.2.2.2⟩
  ·rintro ⟨h1 | h1, h2⟩
   ·exact .inl ⟨h1, h2⟩
   ·exact .inr ⟨h1.1, h1.2, by omega, h2⟩
 ·rw [show (ap ++ [s]).length = ap.length + 1 by simp, l3]; (try simp only [List.length_append, List.length_cons, List.length_nil]); omega
abbrev u64V (z : Int) : AV := .c (.int .u64 z)
theorem cntS_snoc (l : List Sp) (s : Sp) : cntS (l ++ [s]) = cntS l + (s.t - s.f) := by unfold cntS; simp
end Go.Am
namespace Go.Am
theorem subP_in (Γ : Env) (M : Nat) (hM : 200 < M) (a b : List Sp) (hb : b.length ≤ 100) (rb : SRight b) (ob : ∀ s ∈ b, s.Ok) (i : Nat) (s : Sp) (out0 : List Sp) (hs : s.Ok) (h0 : SubInv out0 s [] out0 s.f) (hol : out0.length ≤ 20000) :
  ∃ ax s', (∃ (out : List Sp) (f : Int), ax = .ex 2 ∧ s' = ⟨[(1, spL b), (5, .sl 736005 out.length 0 out.length), (7, .loc 736007 0 0), (10, spL a), (11, i64 a.length), (12, i64 i)], [(736007, ⟨2, [[i64 f, i64 s.t]]⟩), (736005, ⟨2, oR out⟩)]⟩ ∧ SubInv out0 s b out f) ∧
   ∀ s0, nrmP [1, 5, 7, 10, 11, 12, 16, 17, 18] 736000 737000 [736005, 736007, 736046, 736059] s0 = ⟨[(1, spL b), (5, .sl 736005 out0.length 0 out0.length), (7, .loc 736007 0 0), (10, spL a), (11, i64 a.length), (12, i64 i), (16, spL b), (17, i64 b.length), (18, i64 (0 : Nat))], [(736007, ⟨2, [[i64 s.f, i64 s.t]]⟩), (736005, ⟨2, oR out0⟩)]⟩ → lp (exec Γ M span_Sub_P_l1) M s0 = some (ax, s') := by
 refine lp_allP (fun q : Nat × List Sp × Int => ⟨[(1, spL b), (5, .sl 736005 q.2.1.length 0 q.2.1.length), (7, .loc 736007 0 0), (10, spL a), (11, i64 a.length), (12, i64 i), (16, spL b), (17, i64 b.length), (18, i64 q.1)], [(736007, ⟨2, [[i64 q.2.2, i64 s.t]]⟩), (736005, ⟨2, oR q.2.1⟩)]⟩) (fun q => q.1 ≤ b.length ∧ SubInv out0 s (b.take q.1) q.2.1 q.2.2) (fun q => b.length - q.1) _ (0, out0, s.f) M ⟨by simp, by simpa using h0⟩ (by dsimp only; omega) ?_
 rintro ⟨j, out, f⟩ ⟨hj, h⟩
 dsimp only at hj h ⊢
 have hrl := oR_len out
 have hlc : lcRows 736005 (oR out) = true := lcRows_comp 736005 Sp.cells out
 have hnm : nmRows 736009 (oR out) = true := nmRows_comp 736009 Sp.cells out
 by_cases hlt : j < b.length
 ·obtain ⟨t, ht⟩ : ∃ t, b[j]'hlt = t := ⟨_, rfl⟩
  have hmem : t ∈ b := ht ▸ List.getElem_mem hlt
  have htk : b.take (j + 1) = b.take j ++ [t] := by rw [List.take_succ_eq_append_getElem hlt, ht]
  have hbp : ∀ x ∈ b.take j, x.t < t.f := by
   have := rb
   rw [← List.take_append_drop j b] at this
   have h2 := this.of_app.2.2
   intro x hx
   refine h2 x hx t ?_
   rw [List.drop_eq_getElem_cons hlt, ht]; simp
  have htr := rb.some t hmem
  have hto := ob t hmem
  have hlen := h.len
  rw [List.length_take] at hlen
  by_cases c1 : t.t ≤ f
  ·have h1 := sub_skip h hbp (.inl c1)
   rw [← htk] at h1
   simp -implicitDefEqProofs (disch := first | omega | (simp <;> fail) | assumption) [hlt, ht, Sp.cells, c1, hrl, hlc, hnm]
   exact ⟨j + 1, out, f, ⟨⟨rfl, by omega⟩, rfl, rfl⟩, ⟨by omega, h1⟩, by omega⟩
  ·by_cases c2 : s.t ≤ t.f
   ·have h1 := sub_skip h hbp (.inr c2)
    rw [← htk] at h1
    simp -implicitDefEqProofs (disch := first | omega | (simp <;> fail) | assumption) [hlt, ht, Sp.cells, c1, c2, hrl, hlc, hnm]
    exact ⟨j + 1, out, f, ⟨⟨rfl, by omega⟩, rfl, rfl⟩, ⟨by omega, h1⟩, by omega⟩
   ·by_cases c3 : f < t.f
    ·have h1 := sub_cut h hbp htr hto (by omega) (by omega) c3
     rw [← htk] at h1
     have hap : oR out ++ [[i64 f, i64 t.f]] = oR (out ++ [⟨f, t.f⟩]) := by unfold oR; rw [List.map_append]; rfl
     simp -implicitDefEqProofs (disch := first | omega | (simp <;> fail) | assumption) [hlt, ht, Sp.cells, c1, c2, c3, hrl, hlc, hnm]
     exact ⟨j + 1, _, _, ⟨⟨by simp, by omega⟩, rfl, hap⟩, ⟨by omega, h1⟩, by omega⟩
    ·have h1 := sub_eat h hbp htr hto (by omega) (by omega) c3
     rw [← htk] at h1
     simp -implicitDefEqProofs (disch := first | omega | (simp <;> fail) | assumption) [hlt, ht, Sp.cells, c1, c2, c3, hrl, hlc, hnm]
     exact ⟨j + 1, out, _, ⟨⟨rfl, by omega⟩, rfl, rfl⟩, ⟨by omega, h1⟩, by omega⟩
 ·obtain rfl : j = b.length := by omega
  rw [List.take_length] at h
  simp -implicitDefEqProofs (disch := first | omega | (simp <;> fail) | assumption) [hrl, hlc, hnm]
  exact ⟨out, f, ⟨rfl, rfl, rfl⟩, h⟩
def SubP_C (g : St → Option (List AV × List (Nat × Obj))) : Prop := ∀ a b : List Sp, a.length ≤ 100 → b.length ≤ 100 → SRight a → SRight b → (∀ s ∈ a, s.Ok) → (∀ s ∈ b, s.Ok) →
 ∃ o : List Sp, g ⟨[(0, spL a), (1, spL b)], []⟩ = some ([.sl 736005 o.length 0 o.length], [(736005, ⟨2, oR o⟩)]) ∧ SRight o ∧ (∀ s ∈ o, s.Ok) ∧ ∀ n, HasS o n ↔ HasS a n ∧ ¬ HasS b n
theorem span_Sub_P_run (Γ : Env) (M : Nat) (hM : 2100 < M) : SubP_C (runP Γ M span_Sub_P_f) := by
 intro a b ha hb ra rb oa ob
 have hprod : ∀ k : Nat, k ≤ 100 → k * (b.length + 1) ≤ 100 * 101 := fun k hk => Nat.mul_le_mul hk (by omega)
 obtain ⟨ax, s', ⟨o, rfl, rfl, ho⟩, hin⟩ : ∃ ax s', (∃ o : List Sp, ax = .ex 0 ∧ s' = ⟨[(5, .sl 736005 o.length 0 o.length)], [(736005, ⟨2, oR o⟩)]⟩ ∧ SubOut a b a [] o) ∧ ∀ s0, nrmP [1, 5, 10, 11, 12] 736000 737000 [736005, 736046, 736059] s0 = ⟨[(1, spL b), (5, .sl 736005 ([] : List Sp).length 0 ([] : List Sp).length), (10, spL a), (11, i64 a.length), (12, i64 (0 : Nat))], [(736005, ⟨2, oR []⟩)]⟩ → lp (exec Γ M span_Sub_P_l2) M s0 = some (ax, s') := by
  refine lp_allP (fun q : Nat × List Sp => ⟨[(1, spL b), (5, .sl 736005 q.2.length 0 q.2.length), (10, spL a), (11, i64 a.length), (12, i64 q.1)], [(736005, ⟨2, oR q.2⟩)]⟩) (fun q => q.1 ≤ a.length ∧ SubOut a b (a.take q.1) (a.drop q.1) q.2) (fun q => a.length - q.1) _ (0, []) M ⟨by simp, .nil, by simp, fun n => by simp [hasS_nil], by simp, by simp⟩ (by dsimp only; omega) ?_
  rintro ⟨i, out⟩ ⟨hi, h⟩
  dsimp only at hi h ⊢
  have hrl := oR_len out
  have hnm : nmRows 736007 (oR out) = true := nmRows_comp 736007 Sp.cells out
  have hlen := h.len
  rw [List.length_take] at hlen
  have hp := hprod (min i a.length) (by omega)
  by_cases hlt : i < a.length
  ·obtain ⟨s, hs⟩ : ∃ t, a[i]'hlt = t := ⟨_, rfl⟩
   have hso := oa s (hs ▸ List.getElem_mem hlt)
   have hdr : a.drop i = s :: a.drop (i + 1) := by rw [List.drop_eq_getElem_cons hlt, hs]
   have htk : a.take (i + 1) = a.take i ++ [s] := by rw [List.take_succ_eq_append_getElem hlt, hs]
   rw [hdr] at h
   have hrr : ∀ y ∈ a.drop (i + 1), s.t < y.f := by
    have := ra
    rw [← List.take_append_drop i a, hdr] at this
    exact this.of_app.2.1.head.2
   obtain ⟨ax, s', ⟨out', f, rfl, rfl, hI⟩, hin⟩ := subP_in Γ M (by omega) a b hb rb ob i s out hso (h.start hso) (by omega)
   have hin2 : ∀ s0, nrmP [1, 5, 7, 10, 11, 12, 16, 17, 18] 736000 737000 [736005, 736007, 736046, 736059] s0 = ⟨[(1, spL b), (5, .sl 736005 out.length 0 out.length), (7, .loc 736007 0 0), (10, spL a), (11, i64 a.length), (12, i64 i), (16, spL b), (17, i64 b.length), (18, i64 0)], [(736007, ⟨2, [[i64 s.f, i64 s.t]]⟩), (736005, ⟨2, oR out⟩)]⟩ → lp (exec Γ M span_Sub_P_l1) M s0 = some (.ex 2, ⟨[(1, spL b), (5, .sl 736005 out'.length 0 out'.length), (7, .loc 736007 0 0), (10, spL a), (11, i64 a.length), (12, i64 i)], [(736007, ⟨2, [[i64 f, i64 s.t]]⟩), (736005, ⟨2, oR out'⟩)]⟩) := hin
   obtain ⟨h1, h2⟩ := h.next hI hso hrr
   rw [← htk] at h1 h2
   have hrl' := oR_len out'
   have hlc' : lcRows 736005 (oR out') = true := lcRows_comp 736005 Sp.cells out'
   have hl' := hI.len
   by_cases c : f < s.t
   ·have h1 := h1 c
    have hap : oR out' ++ [[i64 f, i64 s.t]] = oR (out' ++ [⟨f, s.t⟩]) := by unfold oR; rw [List.map_append]; rfl
    simp -implicitDefEqProofs (disch := first | omega | (simp <;> fail) | assumption) [hlt, hs, Sp.cells, hrl, hnm, hin2, c, hrl', hlc']
    exact ⟨i + 1, _, ⟨⟨by simp, by omega⟩, hap⟩, ⟨by omega, h1⟩, by omega⟩
   ·have h2 := h2 c
    simp -implicitDefEqProofs (disch := first | omega | (simp <;> fail) | assumption) [hlt, hs, Sp.cells, hrl, hnm, hin2, c, hrl', hlc']
    exact ⟨i + 1, _, ⟨⟨rfl, by omega⟩, rfl⟩, ⟨by omega, h2⟩, by omega⟩
  ·obtain rfl : i = a.length := by omega
   rw [List.take_length, List.drop_length] at h
   simp -implicitDefEqProofs (disch := first | omega | (simp <;> fail) | assumption) [hrl]
   exact ⟨out, ⟨rfl, rfl⟩, h⟩
 have hlp : ∀ s0, nrmP [1, 5, 10, 11, 12] 736000 737000 [736005, 736046, 736059] s0 = ⟨[(1, spL b), (5, .sl 736005 0 0 0), (10, spL a), (11, i64 a.length), (12, i64 0)], [(736005, ⟨2, []⟩)]⟩ → lp (exec Γ M span_Sub_P_l2) M s0 = some (.ex 0, ⟨[(5, .sl 736005 o.length 0 o.length)], [(736005, ⟨2, oR o⟩)]⟩) := hin
 refine ⟨o, ?_, ho.ro, ho.ok, ho.has⟩
 have hall := allRows_comp Sp.cells o
 have hrl := oR_len o
 have hF := List.take_of_length_le (i := o.length) (l := o.map Sp.cells) (by simp)
 rw [show List.map (toAV ∘ Sp.cells) o = oR o from rfl] at hall
 generalize hG : oR o = G at *
 generalize hK : o.map Sp.cells = K at *
 simp -implicitDefEqProofs (disch := first | omega | (simp <;> fail) | assumption) [hlp, hall, hrl, hF, hK]
end Go.Am
namespace Go.Am
def AndP_C (g : St → Option (List AV × List (Nat × Obj))) : Prop := ∀ a b : List Sp, a.length ≤ 1000 → b.length ≤ 1000 → SRight a → SRight b → (∀ s ∈ a, s.Ok) → (∀ s ∈ b, s.Ok) →
 ∃ o : List Sp, g ⟨[(0, spL a), (1, spL b)], []⟩ = some ([.sl 738005 o.length 0 o.length], [(738005, ⟨2, oR o⟩)]) ∧ SRight o ∧ (∀ s ∈ o, s.Ok) ∧ o.length ≤ a.length + b.length ∧ ∀ n, HasS o n ↔ HasS a n ∧ HasS b n
theorem span_And_P_run (Γ : Env) (M : Nat) (hM : 2100 < M) : AndP_C (runP Γ M span_And_P_f) := by
 intro a b ha hb ra rb oa ob
 obtain ⟨ax, s', ⟨o, rfl, rfl, ho⟩, hin⟩ : ∃ ax s', (∃ o : List Sp, ax = .ex 0 ∧ s' = ⟨[(5, .sl 738005 o.length 0 o.length)], [(738005, ⟨2, oR o⟩)]⟩ ∧ SRight o ∧ (∀ s ∈ o, s.Ok) ∧ o.length ≤ a.length + b.length ∧ ∀ n, HasS o n ↔ HasS a n ∧ HasS b n) ∧ ∀ s0, nrmP [0, 1, 5] 738000 739000 [738005, 738042] s0 = ⟨[(0, spL a), (1, spL b), (5, .sl 738005 ([] : List Sp).length 0 ([] : List Sp).length)], [(738005, ⟨2, oR []⟩)]⟩ → lp (exec Γ M span_And_P_l1) M s0 = some (ax, s') := by
  refine lp_allP (fun q : List Sp × List Sp × List Sp => ⟨[(0, spL q.1), (1, spL q.2.1), (5, .sl 738005 q.2.2.length 0 q.2.2.length)], [(738005, ⟨2, oR q.2.2⟩)]⟩) (fun q => AndInv a b q.1 q.2.1 q.2.2) (fun q => q.1.length + q.2.1.length) _ (a, b, []) M ⟨ra, rb, .nil, by simp, fun n => by simp [hasS_nil], by simp, oa, ob, by simp⟩ (by dsimp only; omega) ?_
  rintro ⟨x, y, out⟩ h
  dsimp only at h ⊢
  have hl := h.len
  have hol := oR_len out
  cases x with
  | nil =>
   have hfin : ∀ n, HasS out n ↔ HasS a n ∧ HasS b n := fun n => by rw [← h.has n, hasS_nil]; simp
   simp -implicitDefEqProofs (disch := first | omega | assumption)
   exact ⟨out, ⟨rfl, rfl⟩, h.ro, h.ok, by omega, hfin⟩
  | cons u x =>
   cases y with
   | nil =>
    have hfin : ∀ n, HasS out n ↔ HasS a n ∧ HasS b n := fun n => by rw [← h.has n, hasS_nil]; simp
    simp -implicitDefEqProofs (disch := first | omega | assumption)
    exact ⟨out, ⟨rfl, rfl⟩, h.ro, h.ok, by simp only [List.length_cons] at hl; omega, hfin⟩
   | cons v y =>
    obtain ⟨out', hout, h1, h2⟩ := and_step h
    simp only [List.length_cons] at hl
    have hlc : lcRows 738005 (oR out) = true := lcRows_comp 738005 Sp.cells out
    have e1 : (if u.f < v.f then v.f else u.f) = max u.f v.f := by split <;> omega
    have e2 : (if v.t < u.t then v.t else u.t) = min u.t v.t := by split <;> omega
    have hnm : nmRows 738006 (oR out) = true := nmRows_comp 738006 Sp.cells out
    have hap : oR out ++ [[i64 (max u.f v.f), i64 (min u.t v.t)]] = oR (out ++ [⟨max u.f v.f, min u.t v.t⟩]) := by unfold oR; rw [List.map_append]; rfl
    have hln : (out ++ [(⟨max u.f v.f, min u.t v.t⟩ : Sp)]).length = out.length + 1 := by simp
    rcases hout with ⟨rfl, c⟩ | ⟨rfl, c⟩
    ·by_cases d : u.t < v.t
     ·have h1 := h1 d
      simp -implicitDefEqProofs (disch := first | omega | (simp <;> fail) | assumption) [Sp.cells, e1, e2, c, d, hol, hlc, hnm]
      refine ⟨x, v :: y, out', ?_, h1, by simp⟩
      simp [Sp.cells, takeSp]
     ·have h2 := h2 d
      simp -implicitDefEqProofs (disch := first | omega | (simp <;> fail) | assumption) [Sp.cells, e1, e2, c, d, hol, hlc, hnm]
      refine ⟨u :: x, y, out', ?_, h2, by simp⟩
      simp [Sp.cells, takeSp]
    ·by_cases d : u.t < v.t
     ·have h1 := h1 d
      simp -implicitDefEqProofs (disch := first | omega | (simp <;> fail) | assumption) [Sp.cells, e1, e2, c, d, hol, hlc, hnm]
      refine ⟨x, v :: y, _, ?_, h1, by simp⟩
      simp [Sp.cells, hap, takeSp]
     ·have h2 := h2 d
      simp -implicitDefEqProofs (disch := first | omega | (simp <;> fail) | assumption) [Sp.cells, e1, e2, c, d, hol, hlc, hnm]
      refine ⟨u :: x, y, _, ?_, h2, by simp⟩
      simp [Sp.cells, hap, takeSp]
 have hlp : ∀ s0, nrmP [0, 1, 5] 738000 739000 [738005, 738042] s0 = ⟨[(0, spL a), (1, spL b), (5, .sl 738005 0 0 0)], [(738005, ⟨2, []⟩)]⟩ → lp (exec Γ M span_And_P_l1) M s0 = some (.ex 0, ⟨[(5, .sl 738005 o.length 0 o.length)], [(738005, ⟨2, oR o⟩)]⟩) := hin
 refine ⟨o, ?_, ho⟩
 have hall := allRows_comp Sp.cells o
 have hrl := oR_len o
 have hF := List.take_of_length_le (i := o.length) (l := o.map Sp.cells) (by simp)
 rw [show List.map (toAV ∘ Sp.cells) o = oR o from rfl] at hall
 generalize hG : oR o = G at *
 generalize hK : o.map Sp.cells = K at *
 simp -implicitDefEqProofs (disch := first | omega | (simp <;> fail) | assumption) [hlp, hall, hrl, hF, hK]
end Go.Am
namespace Go.Am
def CmpH (g : List AV → Option (List AV)) : Prop := ∀ (s : Sp) (n : Int), g [.agg s.cells, i64 n] = some [i64 (if s.t ≤ n then -1 else 1)]
theorem span_Has_1_run (Γ : Env) (M : Nat) : CmpH (run Γ M span_Has_1_f) := by
 intro s n
 by_cases c : s.t ≤ n
 ·simp -implicitDefEqProofs (disch := first | omega | assumption) [Sp.cells, c]
 ·simp -implicitDefEqProofs (disch := first | omega | assumption) [Sp.cells, c]
structure Cut (l : List Sp) (n : Int) (i : Nat) : Prop where
 le : i ≤ l.length
 lo : ∀ k (h : k < l.length), k < i → l[k].t ≤ n
 hi : ∀ k (h : k < l.length), i ≤ k → n < l[k].t
theorem cut_has {l : List Sp} {n : Int} {i : Nat} (hr : SRight l) (h : Cut l n i) : HasS l n ↔ ∃ hi : i < l.length, l[i].f ≤ n := by
 constructor
 ·rintro ⟨s, hs, h1, h2⟩
  obtain ⟨k, hk, rfl⟩ := List.getElem_of_mem hs
  rcases Nat.lt_trichotomy k i with h3 | h3 | h3
  ·have := h.lo k hk h3; omega
  ·subst h3; exact ⟨hk, h1⟩
  ·have h4 := h.hi i (by omega) (Nat.le_refl _)
   have := List.pairwise_iff_getElem.1 hr.apart i k (by omega) hk h3
   omega
 ·rintro ⟨hi, h1⟩
  exact ⟨l[i], List.getElem_mem hi, h1, h.hi i hi (Nat.le_refl _)⟩
theorem ends_mono {l : List Sp} (hr : SRight l) {i k : Nat} (hk : k < l.length) (h : i ≤ k) : (l[i]'(by omega)).t ≤ l[k].t := by
 rcases Nat.eq_or_lt_of_le h with h1 | h1
 ·subst h1; exact Int.le_refl _
 ·have := List.pairwise_iff_getElem.1 hr.apart i k (by omega) hk h1
  have := hr.some l[k] (List.getElem_mem hk)
  omega
def BinC (fv : Nat) (g : St → Option (List AV × List (Nat × Obj))) : Prop := ∀ (l : List Sp) (n : Int), l.length ≤ 20000 → SRight l → ∃ (i : Nat) (b : Bool), Cut l n i ∧ ∀ gs ob, Gh gs → g ⟨(0, spL l) :: (1, i64 n) :: (2, .ot (.fn fv)) :: gs, ob⟩ = some ([i64 i, bo b], ob)
theorem bin_run (Γ : Env) (M : Nat) (hM : 20100 < M) (hc : CmpH (Γ.fv fv_span_Has_1)) : BinC fv_span_Has_1 (runP Γ M slices_BinarySearchFunc_Sapi_Span_api_Span_int_f) := by
 intro l n hl hr
 simp only [fv_span_Has_1] at hc ⊢
 obtain ⟨i, hcut⟩ : ∃ i, Cut l n i := by
  refine ⟨(l.takeWhile fun s => decide (s.t ≤ n)).length, ?_⟩
  have h0 : ∀ l : List Sp, SRight l → Cut l n (l.takeWhile fun s => decide (s.t ≤ n)).length := by
   intro l
   induction l with
   | nil => intro _; exact ⟨by simp, fun k h => by simp at h, fun k h => by simp at h⟩
   | cons s l ih =>
    intro h
    rw [List.takeWhile_cons]
    by_cases c : s.t ≤ n
    ·rw [if_pos (by simpa using c)]
     obtain ⟨h1, h2, h3⟩ := ih h.tail
     refine ⟨by simp only [List.length_cons]; omega, fun k hk hk2 => ?_, fun k hk hk2 => ?_⟩
     ·cases k with
      | zero => exact c
      | succ k => exact h2 k (by simpa using hk) (by simpa using hk2)
     ·cases k with
      | zero => simp at hk2
      | succ k => exact h3 k (by simpa using hk) (by simpa using hk2)
    ·rw [if_neg (by simpa using c)]
     refine ⟨by simp, fun k hk hk2 => by simp at hk2, fun k hk _ => ?_⟩
     cases k with
     | zero => simp only [List.getElem_cons_zero]; omega
     | succ k =>
      have hk' : k < l.length := by simpa using hk
      have := h.head.2 l[k] (List.getElem_mem hk')
      have := h.some l[k] (by simp)
      simp only [List.getElem_cons_succ]; omega
  exact h0 l hr
 have hile := hcut.le
 have loop : ∀ gs ob, Gh gs → ∀ t, nrmP [0, 1, 2, 8, 9, 10] 0 0 [] t = ⟨(0, spL l) :: (1, i64 n) :: (2, .ot (.fn fv_span_Has_1)) :: (8, i64 l.length) :: (9, i64 0) :: (10, i64 l.length) :: gs, ob⟩ → lp (exec Γ M slices_BinarySearchFunc_Sapi_Span_api_Span_int_l1) M t = some (.ex 0, ⟨(0, spL l) :: (1, i64 n) :: (2, .ot (.fn fv_span_Has_1)) :: (8, i64 l.length) :: (9, i64 i) :: gs, ob⟩) := by
  intro gs ob hg
  obtain ⟨ax, s', ⟨rfl, rfl⟩, hin⟩ : ∃ ax s', (ax = .ex 0 ∧ s' = ⟨(0, spL l) :: (1, i64 n) :: (2, .ot (.fn fv_span_Has_1)) :: (8, i64 l.length) :: (9, i64 i) :: gs, ob⟩) ∧ ∀ t, nrmP [0, 1, 2, 8, 9, 10] 0 0 [] t = ⟨(0, spL l) :: (1, i64 n) :: (2, .ot (.fn fv_span_Has_1)) :: (8, i64 l.length) :: (9, i64 (0 : Nat)) :: (10, i64 l.length) :: gs, ob⟩ → lp (exec Γ M slices_BinarySearchFunc_Sapi_Span_api_Span_int_l1) M t = some (ax, s') := by
   refine lp_allP (fun q : Nat × Nat => ⟨(0, spL l) :: (1, i64 n) :: (2, .ot (.fn fv_span_Has_1)) :: (8, i64 l.length) :: (9, i64 q.1) :: (10, i64 q.2) :: gs, ob⟩) (fun q => q.1 ≤ i ∧ i ≤ q.2 ∧ q.2 ≤ l.length) (fun q => q.2 - q.1) _ (0, l.length) M ⟨by simp, by simpa using hile, by simp⟩ (by dsimp only; omega) ?_
   rintro ⟨x, j⟩ ⟨h1, h2, h3⟩
   dsimp only at h1 h2 h3 ⊢
   by_cases hlt : x < j
   ·obtain ⟨h, hh⟩ : ∃ h, (x + j) / 2 = h := ⟨_, rfl⟩
    have hhl : h < l.length := by omega
    have hdiv : ((x : Int) + j).fdiv (2 ^ min 1 IntKind.u64.bits) = h := by
     rw [show (2 : Int) ^ min 1 IntKind.u64.bits = 2 from rfl, Int.fdiv_eq_ediv_of_nonneg _ (by omega)]; omega
    obtain ⟨s, hs⟩ : ∃ t, l[h]'hhl = t := ⟨_, rfl⟩
    have e := hc s n
    by_cases c : s.t ≤ n
    ·have hih : h < i := by
      rcases Nat.lt_or_ge h i with h4 | h4
      ·exact h4
      ·have := hcut.hi h hhl h4; rw [hs] at this; omega
     rw [if_pos c] at e
     simp only [Sp.cells] at e
     simp -implicitDefEqProofs (disch := first | omega | (simp [hg] <;> fail) | assumption) [hg, hlt, hdiv, hhl, hs, Sp.cells, e]
     exact ⟨h + 1, j, ⟨by omega, rfl⟩, by omega, by omega⟩
    ·have hih : i ≤ h := by
      rcases Nat.lt_or_ge h i with h4 | h4
      ·have := hcut.lo h hhl h4; rw [hs] at this; omega
      ·exact h4
     rw [if_neg c] at e
     simp only [Sp.cells] at e
     simp -implicitDefEqProofs (disch := first | omega | (simp [hg] <;> fail) | assumption) [hg, hlt, hdiv, hhl, hs, Sp.cells, e]
     exact ⟨x, h, ⟨rfl, rfl⟩, by omega, by omega⟩
   ·obtain rfl : x = i := by omega
    obtain rfl : x = j := by omega
    simp -implicitDefEqProofs (disch := first | omega | (simp [hg] <;> fail) | assumption) [hg]
  exact hin
 have hlp : ∀ gs ob, Gh gs → lp (exec Γ M slices_BinarySearchFunc_Sapi_Span_api_Span_int_l1) M ⟨(0, spL l) :: (1, i64 n) :: (2, .ot (.fn fv_span_Has_1)) :: (8, i64 l.length) :: (9, i64 0) :: (10, i64 l.length) :: gs, ob⟩ = some (.ex 0, ⟨(0, spL l) :: (1, i64 n) :: (2, .ot (.fn fv_span_Has_1)) :: (8, i64 l.length) :: (9, i64 i) :: gs, ob⟩) := fun gs ob hg => loop gs ob hg _ (by simp [hg])
 simp only [fv_span_Has_1] at hlp
 by_cases c : i < l.length
 ·obtain ⟨s, hs⟩ : ∃ t, l[i]'c = t := ⟨_, rfl⟩
  have e := hc s n
  simp only [Sp.cells] at e
  by_cases d : s.t ≤ n
  ·rw [if_pos d] at e
   refine ⟨i, false, hcut, fun gs ob hg => ?_⟩
   simp -implicitDefEqProofs (disch := first | omega | (simp [hg] <;> fail) | assumption) [hg, hlp, c, hs, Sp.cells, e]
  ·rw [if_neg d] at e
   refine ⟨i, false, hcut, fun gs ob hg => ?_⟩
   simp -implicitDefEqProofs (disch := first | omega | (simp [hg] <;> fail) | assumption) [hg, hlp, c, hs, Sp.cells, e]
 ·refine ⟨i, false, hcut, fun gs ob hg => ?_⟩
  simp -implicitDefEqProofs (disch := first | omega | (simp [hg] <;> fail) | assumption) [hg, hlp, c]
abbrev BinC' : (St → Option (List AV × List (Nat × Obj))) → Prop := BinC fv_span_Has_1
def HasPC (g : List AV → Option (List AV)) : Prop := ∀ (l : List Sp) (n : Int), l.length ≤ 20000 → SRight l → g [spL l, i64 n] = some [bo (decide (HasS l n))]
theorem span_Has_run (Γ : Env) (M : Nat) (hb : BinC fv_span_Has_1 (Γ.pt 302)) : HasPC (run Γ M span_Has_f) := by
 intro l n hl hr
 obtain ⟨i, b, hcut, e⟩ := hb l n hl hr
 have hh := cut_has hr hcut
 have hile := hcut.le
 simp only [fv_span_Has_1] at e
 by_cases c : i < l.length
 ·obtain ⟨s, hs⟩ : ∃ t, l[i]'c = t := ⟨_, rfl⟩
  by_cases d : s.f ≤ n
  ·have : HasS l n := hh.2 ⟨c, by rw [hs]; exact d⟩
   simp -implicitDefEqProofs (disch := first | omega | (simp <;> fail) | assumption) [e, c, hs, Sp.cells, d, this]
  ·have : ¬ HasS l n := fun h => by obtain ⟨_, h1⟩ := hh.1 h; rw [hs] at h1; exact d h1
   simp -implicitDefEqProofs (disch := first | omega | (simp <;> fail) | assumption) [e, c, hs, Sp.cells, d, this]
 ·have : ¬ HasS l n := fun h => by obtain ⟨h1, _⟩ := hh.1 h; exact c h1
  simp -implicitDefEqProofs (disch := first | omega | (simp <;> fail) | assumption) [e, c, this]
theorem kindP0 (a b : List Sp) (n : Int) : kindP a b 0 n = true ↔ HasS a n := by simp [kindP]
theorem kindP1 (a b : List Sp) (n : Int) : kindP a b 1 n = true ↔ HasS a n ∧ HasS b n := by simp [kindP]
theorem kindP2 (a b : List Sp) (n : Int) : kindP a b 2 n = true ↔ HasS a n ∧ ¬ HasS b n := by simp [kindP]
end Go.Am
