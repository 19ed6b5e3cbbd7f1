/- Law 9: rows of spans, in plain Lean: a row that is right is known by its numbers. -/
import Derived.Test.YtiabedphaioidaaUt
set_option linter.unusedVariables false
set_option linter.unusedSimpArgs false
namespace Go.Am
structure Sp where
  f : Int
  t : Int
def Sp.cells (s : Sp) : List D := [.int .i64 s.f, .int .i64 s.t]
structure Sp.Ok (s : Sp) : Prop where
  f : InI64 s.f
  t : InI64 s.t
abbrev spL (l : List Sp) : AV := .c (.vs 2 (l.map Sp.cells))
def HasS (l : List Sp) (n : Int) : Prop := ∃ s ∈ l, s.f ≤ n ∧ n < s.t
theorem hasS_nil (n : Int) : HasS [] n ↔ False := by simp [HasS]
theorem hasS_cons (s : Sp) (l : List Sp) (n : Int) : HasS (s :: l) n ↔ (s.f ≤ n ∧ n < s.t) ∨ HasS l n := by simp [HasS]
theorem hasS_app (a b : List Sp) (n : Int) : HasS (a ++ b) n ↔ HasS a n ∨ HasS b n := by
  simp only [HasS, List.mem_append]
  constructor
  · rintro ⟨s, h | h, h2⟩
    · exact .inl ⟨s, h, h2⟩
    · exact .inr ⟨s, h, h2⟩
  · rintro (⟨s, h, h2⟩ | ⟨s, h, h2⟩)
    · exact ⟨s, .inl h, h2⟩
    · exact ⟨s, .inr h, h2⟩
instance (l : List Sp) (n : Int) : Decidable (HasS l n) := inferInstanceAs (Decidable (∃ s ∈ l, s.f ≤ n ∧ n < s.t))
/-- A row that is right. -/
structure SRight (l : List Sp) : Prop where
  some : ∀ s ∈ l, s.f < s.t
  apart : l.Pairwise fun a b => a.t < b.f
theorem SRight.nil : SRight [] := ⟨by simp, .nil⟩
theorem SRight.tail {s : Sp} {l : List Sp} (h : SRight (s :: l)) : SRight l := ⟨fun x hx => h.some x (by simp [hx]), (List.pairwise_cons.1 h.apart).2⟩
theorem SRight.head {s : Sp} {l : List Sp} (h : SRight (s :: l)) : s.f < s.t ∧ ∀ x ∈ l, s.t < x.f := ⟨h.some s (by simp), (List.pairwise_cons.1 h.apart).1⟩
theorem SRight.snoc {l : List Sp} {s : Sp} (h : SRight l) (h1 : s.f < s.t) (h2 : ∀ x ∈ l, x.t < s.f) : SRight (l ++ [s]) := by
  refine ⟨fun x hx => ?_, List.pairwise_append.2 ⟨h.apart, by simp, fun a ha b hb => ?_⟩⟩
  · simp only [List.mem_append, List.mem_singleton] at hx
    rcases hx with hx | rfl
    · exact h.some x hx
    · exact h1
  · simp only [List.mem_singleton] at hb; subst hb; exact h2 a ha
theorem SRight.of_app {a b : List Sp} (h : SRight (a ++ b)) : SRight a ∧ SRight b ∧ ∀ x ∈ a, ∀ y ∈ b, x.t < y.f := by
  have := List.pairwise_append.1 h.apart
  exact ⟨⟨fun x hx => h.some x (by simp [hx]), this.1⟩, ⟨fun x hx => h.some x (by simp [hx]), this.2.1⟩, this.2.2⟩
theorem sright_uniq : ∀ {a b : List Sp}, SRight a → SRight b → (∀ n, HasS a n ↔ HasS b n) → a = b
  | [], [], _, _, _ => rfl
  | [], u :: b, _, hb, h => by
    have := (h u.f).2 ⟨u, by simp, by have := hb.head.1; omega⟩
    exact ((hasS_nil _).1 this).elim
  | s :: a, [], ha, _, h => by
    have := (h s.f).1 ⟨s, by simp, by have := ha.head.1; omega⟩
    exact ((hasS_nil _).1 this).elim
  | s :: a, u :: b, ha, hb, h => by
    obtain ⟨ha1, ha2⟩ := ha.head
    obtain ⟨hb1, hb2⟩ := hb.head
    have low : ∀ (s u : Sp) (a b : List Sp), s.f < s.t → u.f < u.t → (∀ x ∈ b, u.t < x.f) → (HasS (s :: a) s.f → HasS (u :: b) s.f) → u.f ≤ s.f := by
      intro s u a b h1 hu h2 h3
      obtain ⟨x, hx, h4, h5⟩ := h3 ⟨s, by simp, by omega⟩
      simp only [List.mem_cons] at hx
      rcases hx with rfl | hx
      · exact h4
      · have := h2 x hx; omega
    have e1 : s.f = u.f := by
      have h1 := low s u a b ha1 hb1 hb2 (h s.f).1
      have h2 := low u s b a hb1 ha1 ha2 (h u.f).2
      omega
    have high : ∀ (s u : Sp) (a b : List Sp), s.f = u.f → s.f < s.t → (∀ x ∈ a, s.t < x.f) → (HasS (u :: b) s.t → HasS (s :: a) s.t) → u.t ≤ s.t := by
      intro s u a b h1 h2 h3 h4
      rcases Int.lt_or_le s.t u.t with h5 | h5
      · obtain ⟨x, hx, h6, h7⟩ := h4 ⟨u, by simp, by omega⟩
        simp only [List.mem_cons] at hx
        rcases hx with rfl | hx
        · omega
        · have := h3 x hx; omega
      · exact h5
    have e2 : s.t = u.t := by
      have h1 := high s u a b e1 ha1 ha2 (h s.t).2
      have h2 := high u s b a e1.symm hb1 hb2 (h u.t).1
      omega
    have e : s = u := by cases s; cases u; simp only at e1 e2; subst e1; subst e2; rfl
    subst e
    rw [sright_uniq ha.tail hb.tail fun n => ?_]
    have hn := h n
    rw [hasS_cons, hasS_cons] at hn
    have out : ∀ (l : List Sp), (∀ x ∈ l, s.t < x.f) → HasS l n → s.t < n := by
      rintro l hl ⟨x, hx, h1, h2⟩
      have := hl x hx; omega
    constructor
    · intro h1
      have := out a ha2 h1
      rcases hn.1 (.inr h1) with h2 | h2
      · omega
      · exact h2
    · intro h1
      have := out b hb2 h1
      rcases hn.2 (.inr h1) with h2 | h2
      · omega
      · exact h2
/-! ### Bounds -/
def insU (x : Int) : List Int → List Int
  | [] => [x]
  | y :: l => if y < x then y :: insU x l else if y = x then y :: l else x :: y :: l
def bndL (l : List Sp) : List Int := l.flatMap fun s => [s.f, s.t]
def bnd (l : List Sp) : List Int := (bndL l).foldl (fun o x => insU x o) []
theorem insU_mem (x z : Int) : ∀ l, z ∈ insU x l ↔ z = x ∨ z ∈ l
  | [] => by simp [insU]
  | y :: l => by
    unfold insU
    split
    · rw [List.mem_cons, insU_mem x z l, List.mem_cons]
      constructor
      · rintro (h | h | h) <;> simp [h]
      · rintro (h | h | h) <;> simp [h]
    · split
      · rename_i h; subst h; simp
      · simp
theorem insU_sorted (x : Int) : ∀ {l : List Int}, l.Pairwise (· < ·) → (insU x l).Pairwise (· < ·)
  | [], _ => by simp [insU]
  | y :: l, h => by
    have h' := List.pairwise_cons.1 h
    unfold insU
    split
    · refine List.pairwise_cons.2 ⟨fun z hz => ?_, insU_sorted x h'.2⟩
      rw [insU_mem] at hz
      rcases hz with rfl | hz
      · assumption
      · exact h'.1 z hz
    · split
      · exact h
      · refine List.pairwise_cons.2 ⟨fun z hz => ?_, h⟩
        simp only [List.mem_cons] at hz
        rcases hz with rfl | hz
        · omega
        · have := h'.1 z hz; omega
theorem insU_len (x : Int) : ∀ l, (insU x l).length ≤ l.length + 1
  | [] => by simp [insU]
  | y :: l => by
    have := insU_len x l
    unfold insU
    (repeat' split) <;> simp only [List.length_cons] <;> omega
theorem foldU_spec : ∀ (xs o : List Int), o.Pairwise (· < ·) → (xs.foldl (fun o x => insU x o) o).Pairwise (· < ·) ∧ (xs.foldl (fun o x => insU x o) o).length ≤ o.length + xs.length ∧ ∀ z, z ∈ xs.foldl (fun o x => insU x o) o ↔ z ∈ xs ∨ z ∈ o
  | [], o, h => by simp [h]
  | x :: xs, o, h => by
    obtain ⟨h1, h2, h3⟩ := foldU_spec xs (insU x o) (insU_sorted x h)
    have := insU_len x o
    refine ⟨h1, by rw [List.foldl_cons]; simp only [List.length_cons]; omega, fun z => ?_⟩
    rw [List.foldl_cons, h3, insU_mem, List.mem_cons]
    constructor
    · rintro (h | h | h) <;> simp [h]
    · rintro ((h | h) | h) <;> simp [h]
theorem bndL_mem (l : List Sp) (z : Int) : z ∈ bndL l ↔ ∃ s ∈ l, z = s.f ∨ z = s.t := by simp [bndL]
theorem bndL_len : ∀ l : List Sp, (bndL l).length = 2 * l.length
  | [] => rfl
  | s :: l => by
    have := bndL_len l
    unfold bndL at this ⊢
    rw [List.flatMap_cons, List.length_append, this]; simp only [List.length_cons, List.length_nil]; omega
theorem bnd_sorted (l : List Sp) : (bnd l).Pairwise (· < ·) := (foldU_spec _ [] .nil).1
theorem bnd_len (l : List Sp) : (bnd l).length ≤ 2 * l.length := by have := (foldU_spec (bndL l) [] .nil).2.1; rw [bndL_len] at this; simpa [bnd] using this
theorem bnd_mem (l : List Sp) (z : Int) : z ∈ bnd l ↔ ∃ s ∈ l, z = s.f ∨ z = s.t := by
  have := (foldU_spec (bndL l) [] .nil).2.2 z
  rw [bndL_mem] at this
  simpa [bnd] using this
/-! ### Rows of numbers with a mark, made of bounds -/
def mkStep (out : List Sp) (x y : Int) : List Sp := match out.getLast? with
  | some s => if s.t = x then out.dropLast ++ [⟨s.f, y⟩] else out ++ [⟨x, y⟩]
  | none => out ++ [⟨x, y⟩]
/-- What is made of the first bounds. -/
def mkAcc (p : Int → Bool) (l : List Int) : Nat → List Sp
  | 0 => []
  | i + 1 => if p (l.getD i 0) then mkStep (mkAcc p l i) (l.getD i 0) (l.getD (i + 1) 0) else mkAcc p l i
structure MkInv (p : Int → Bool) (out : List Sp) (x : Int) : Prop where
  right : SRight out
  below : ∀ s ∈ out, s.t ≤ x
  has : ∀ n, HasS out n ↔ p n = true ∧ n < x
theorem mkStep_inv {p : Int → Bool} {out : List Sp} {x y : Int} (h : MkInv p out x) (hxy : x < y) (hc : ∀ n, x ≤ n → n < y → p n = p x) (hp : p x = true) : MkInv p (mkStep out x y) y := by
  have hhas : ∀ n, (HasS out n ∨ (x ≤ n ∧ n < y)) ↔ p n = true ∧ n < y := by
    intro n
    rw [h.has]
    constructor
    · rintro (⟨h1, h2⟩ | ⟨h1, h2⟩)
      · exact ⟨h1, by omega⟩
      · exact ⟨by rw [hc n h1 h2, hp], h2⟩
    · rintro ⟨h1, h2⟩
      rcases Int.lt_or_le n x with h3 | h3
      · exact .inl ⟨h1, h3⟩
      · exact .inr ⟨h3, h2⟩
  have app (hl : ∀ s ∈ out, s.t < x) : MkInv p (out ++ [⟨x, y⟩]) y := by
    refine ⟨h.right.snoc hxy hl, fun s hs => ?_, fun n => ?_⟩
    · simp only [List.mem_append, List.mem_singleton] at hs
      rcases hs with hs | rfl
      · have := h.below s hs; omega
      · exact Int.le_refl _
    · rw [hasS_app, hasS_cons, hasS_nil, or_false]; exact hhas n
  unfold mkStep
  rcases List.eq_nil_or_concat out with rfl | ⟨o, s, rfl⟩
  · exact app (by simp)
  rw [List.concat_eq_append] at *
  simp only [List.getLast?_append, List.getLast?_singleton, Option.some_or]
  obtain ⟨h1, h2, h3⟩ := h.right.of_app
  have hs := h2.some s (by simp)
  by_cases hst : s.t = x
  · rw [if_pos hst, List.dropLast_concat]
    refine ⟨h1.snoc (by simp only; omega) fun z hz => h3 z hz s (by simp), fun z hz => ?_, fun n => ?_⟩
    · simp only [List.mem_append, List.mem_singleton] at hz
      rcases hz with hz | rfl
      · have := h.below z (by simp [hz]); omega
      · exact Int.le_refl _
    · rw [← hhas n, hasS_app, hasS_app, hasS_cons, hasS_cons, hasS_nil, or_false, or_false]
      constructor
      · rintro (h4 | h4)
        · exact .inl (.inl h4)
        · rcases Int.lt_or_le n x with h5 | h5
          · exact .inl (.inr ⟨h4.1, by omega⟩)
          · exact .inr ⟨h5, h4.2⟩
      · rintro ((h4 | h4) | h4)
        · exact .inl h4
        · exact .inr ⟨h4.1, by simp only; omega⟩
        · exact .inr ⟨by simp only; omega, h4.2⟩
  · rw [if_neg hst]
    refine app fun z hz => ?_
    simp only [List.mem_append, List.mem_singleton] at hz
    rcases hz with hz | rfl
    · have := h3 z hz s (by simp)
      have := h.below s (by simp); omega
    · have := h.below z (by simp); omega
theorem mkAcc_inv {p : Int → Bool} {l : List Int} (hl : l.Pairwise (· < ·)) (hc : ∀ i n, i + 1 < l.length → l.getD i 0 ≤ n → n < l.getD (i + 1) 0 → p n = p (l.getD i 0)) (h0 : ∀ n, p n = true → l ≠ [] ∧ l.getD 0 0 ≤ n) : ∀ i, i < l.length → MkInv p (mkAcc p l i) (l.getD i 0)
  | 0, hi => ⟨.nil, by simp [mkAcc], fun n => by
      rw [mkAcc, hasS_nil, false_iff]
      rintro ⟨h1, h2⟩
      have := (h0 n h1).2; omega⟩
  | i + 1, hi => by
    have ih := mkAcc_inv hl hc h0 i (by omega)
    have hlt : l.getD i 0 < l.getD (i + 1) 0 := by
      rw [List.getD_eq_getElem?_getD, List.getD_eq_getElem?_getD, List.getElem?_eq_getElem hi, List.getElem?_eq_getElem (by omega : i < l.length)]
      exact List.pairwise_iff_getElem.1 hl i (i + 1) (by omega) hi (by omega)
    rw [mkAcc]
    split
    · rename_i hp
      exact mkStep_inv ih hlt (fun n h1 h2 => hc i n hi h1 h2) hp
    · rename_i hp
      refine ⟨ih.right, fun s hs => by have := ih.below s hs; omega, fun n => ?_⟩
      rw [ih.has]
      constructor
      · rintro ⟨h1, h2⟩; exact ⟨h1, by omega⟩
      · rintro ⟨h1, h2⟩
        rcases Int.lt_or_le n (l.getD i 0) with h3 | h3
        · exact ⟨h1, h3⟩
        · rw [hc i n hi h3 h2] at h1; exact (hp h1).elim
theorem hasS_const {l : List Sp} {x n : Int} (hx : x ≤ n) (h : ∀ s ∈ l, ¬ (x < s.f ∧ s.f ≤ n) ∧ ¬ (x < s.t ∧ s.t ≤ n)) : HasS l n ↔ HasS l x := by
  constructor
  · rintro ⟨s, hs, h1, h2⟩
    have := h s hs
    exact ⟨s, hs, by omega, by omega⟩
  · rintro ⟨s, hs, h1, h2⟩
    have := h s hs
    exact ⟨s, hs, by omega, by omega⟩
def kindP (a b : List Sp) (k : Int) (n : Int) : Bool := decide (HasS a n) && (if k = 1 then decide (HasS b n) else true) && (if k = 2 then !decide (HasS b n) else true)
def makeS (a b : List Sp) (k : Int) : List Sp := mkAcc (kindP a b k) (bnd (a ++ b)) ((bnd (a ++ b)).length - 1)
theorem makeS_spec (a b : List Sp) (k : Int) : SRight (makeS a b k) ∧ ∀ n, HasS (makeS a b k) n ↔ kindP a b k n = true := by
  have hs := bnd_sorted (a ++ b)
  have hmem := bnd_mem (a ++ b)
  obtain ⟨l, hl⟩ : ∃ l, bnd (a ++ b) = l := ⟨_, rfl⟩
  unfold makeS
  rw [hl] at hs ⊢
  simp only [hl] at hmem
  have hin : ∀ i, i < l.length → l.getD i 0 ∈ l := fun i hi => by
    rw [List.getD_eq_getElem?_getD, List.getElem?_eq_getElem hi]; exact List.getElem_mem hi
  have hget : ∀ z ∈ l, ∃ i, i < l.length ∧ l.getD i 0 = z := fun z hz => by
    obtain ⟨i, hi, rfl⟩ := List.getElem_of_mem hz
    exact ⟨i, hi, by rw [List.getD_eq_getElem?_getD, List.getElem?_eq_getElem hi]; rfl⟩
  have hmono : ∀ i j, i < j → j < l.length → l.getD i 0 < l.getD j 0 := fun i j hij hj => by
    rw [List.getD_eq_getElem?_getD, List.getD_eq_getElem?_getD, List.getElem?_eq_getElem hj, List.getElem?_eq_getElem (by omega : i < l.length)]
    exact List.pairwise_iff_getElem.1 hs i j (by omega) hj hij
  have hmono2 : ∀ i j, i < l.length → j < l.length → l.getD i 0 < l.getD j 0 → i < j := fun i j hi hj h => by
    rcases Nat.lt_or_ge i j with h1 | h1
    · exact h1
    · rcases Nat.eq_or_lt_of_le h1 with h2 | h2
      · subst h2; omega
      · have := hmono j i h2 hi; omega
  have hp : ∀ n, kindP a b k n = true → HasS a n := fun n h => by
    unfold kindP at h
    simp only [Bool.and_eq_true, decide_eq_true_eq] at h
    exact h.1.1
  have hc : ∀ i n, i + 1 < l.length → l.getD i 0 ≤ n → n < l.getD (i + 1) 0 → kindP a b k n = kindP a b k (l.getD i 0) := by
    intro i n hi h1 h2
    have none : ∀ z ∈ l, ¬ (l.getD i 0 < z ∧ z ≤ n) := by
      rintro z hz ⟨h3, h4⟩
      obtain ⟨j, hj, rfl⟩ := hget z hz
      have h5 := hmono2 i j (by omega) hj h3
      have h6 := hmono2 j (i + 1) hj hi (by omega)
      omega
    have ha : HasS a n ↔ HasS a (l.getD i 0) := hasS_const h1 fun s hsm => ⟨none _ ((hmem _).2 ⟨s, by simp [hsm], .inl rfl⟩), none _ ((hmem _).2 ⟨s, by simp [hsm], .inr rfl⟩)⟩
    have hb : HasS b n ↔ HasS b (l.getD i 0) := hasS_const h1 fun s hsm => ⟨none _ ((hmem _).2 ⟨s, by simp [hsm], .inl rfl⟩), none _ ((hmem _).2 ⟨s, by simp [hsm], .inr rfl⟩)⟩
    unfold kindP
    rw [decide_eq_decide.2 ha, decide_eq_decide.2 hb]
  have h0 : ∀ n, kindP a b k n = true → l ≠ [] ∧ l.getD 0 0 ≤ n := by
    intro n h
    obtain ⟨s, hsm, h1, h2⟩ := hp n h
    have hz := (hmem s.f).2 ⟨s, by simp [hsm], .inl rfl⟩
    refine ⟨List.ne_nil_of_mem hz, ?_⟩
    obtain ⟨j, hj, e⟩ := hget _ hz
    rcases Nat.eq_zero_or_pos j with rfl | hj0
    · omega
    · have := hmono 0 j hj0 hj; omega
  by_cases hne : l = []
  · subst hne
    refine ⟨.nil, fun n => ?_⟩
    show HasS [] n ↔ _
    rw [hasS_nil, false_iff]
    intro h
    exact (h0 n h).1 rfl
  · have hpos := List.length_pos_iff.2 hne
    have inv := mkAcc_inv hs hc h0 (l.length - 1) (by omega)
    refine ⟨inv.right, fun n => ?_⟩
    rw [inv.has]
    constructor
    · exact fun h => h.1
    · intro h
      refine ⟨h, ?_⟩
      obtain ⟨s, hsm, h1, h2⟩ := hp n h
      obtain ⟨j, hj, e⟩ := hget _ ((hmem s.t).2 ⟨s, by simp [hsm], .inr rfl⟩)
      rcases Nat.eq_or_lt_of_le (show j ≤ l.length - 1 by omega) with h3 | h3
      · rw [← h3, e]; exact h2
      · have := hmono j (l.length - 1) h3 (by omega); omega
theorem mkStep_len (out : List Sp) (x y : Int) : (mkStep out x y).length ≤ out.length + 1 := by
  unfold mkStep
  split
  · split
    · simp only [List.length_append, List.length_dropLast, List.length_cons, List.length_nil]; omega
    · simp
  · simp
theorem mkAcc_len (p : Int → Bool) (l : List Int) : ∀ i, (mkAcc p l i).length ≤ i
  | 0 => by simp [mkAcc]
  | i + 1 => by
    have := mkAcc_len p l i
    rw [mkAcc]
    split
    · have := mkStep_len (mkAcc p l i) (l.getD i 0) (l.getD (i + 1) 0); omega
    · omega
theorem makeS_len (a b : List Sp) (k : Int) : (makeS a b k).length ≤ 2 * (a.length + b.length) := by
  have h1 := mkAcc_len (kindP a b k) (bnd (a ++ b)) ((bnd (a ++ b)).length - 1)
  have h2 := bnd_len (a ++ b)
  rw [List.length_append] at h2
  unfold makeS; omega
theorem mkStep_ok {out : List Sp} {x y : Int} (h : ∀ s ∈ out, s.Ok) (hx : InI64 x) (hy : InI64 y) : ∀ s ∈ mkStep out x y, s.Ok := by
  intro s hs
  unfold mkStep at hs
  split at hs
  · rename_i u hu
    split at hs
    · simp only [List.mem_append, List.mem_singleton] at hs
      rcases hs with hs | rfl
      · exact h s ((List.dropLast_sublist _).subset hs)
      · exact ⟨(h u (List.mem_of_getLast? hu)).f, hy⟩
    · simp only [List.mem_append, List.mem_singleton] at hs
      rcases hs with hs | rfl
      · exact h s hs
      · exact ⟨hx, hy⟩
  · simp only [List.mem_append, List.mem_singleton] at hs
    rcases hs with hs | rfl
    · exact h s hs
    · exact ⟨hx, hy⟩
theorem mkAcc_ok {p : Int → Bool} {l : List Int} (hl : ∀ x ∈ l, InI64 x) : ∀ i, i < l.length → ∀ s ∈ mkAcc p l i, s.Ok
  | 0, _, s, h => by simp [mkAcc] at h
  | i + 1, hi, s, h => by
    have hin : ∀ i, i < l.length → l.getD i 0 ∈ l := fun i hi => by
      rw [List.getD_eq_getElem?_getD, List.getElem?_eq_getElem hi]; exact List.getElem_mem hi
    rw [mkAcc] at h
    split at h
    · exact mkStep_ok (mkAcc_ok hl i (by omega)) (hl _ (hin i (by omega))) (hl _ (hin _ hi)) s h
    · exact mkAcc_ok hl i (by omega) s h
theorem makeS_ok {a b : List Sp} (ha : ∀ s ∈ a, s.Ok) (hb : ∀ s ∈ b, s.Ok) (k : Int) : ∀ s ∈ makeS a b k, s.Ok := by
  unfold makeS
  have hl : ∀ x ∈ bnd (a ++ b), InI64 x := fun x hx => by
    obtain ⟨s, hs, h⟩ := (bnd_mem _ _).1 hx
    have : s.Ok := by
      simp only [List.mem_append] at hs
      rcases hs with hs | hs
      · exact ha s hs
      · exact hb s hs
    rcases h with rfl | rfl
    · exact this.f
    · exact this.t
  rcases Nat.eq_zero_or_pos (bnd (a ++ b)).length with h0 | h0
  · rw [h0]; intro s h; simp [mkAcc] at h
  · exact mkAcc_ok hl _ (by omega)
/-! ### How many numbers -/
def cntS (l : List Sp) : Int := (l.map fun s => s.t - s.f).sum
theorem countP_or {α : Type} (p q : α → Bool) : ∀ (l : List α), (∀ x, ¬ (p x = true ∧ q x = true)) → l.countP (fun x => p x || q x) = l.countP p + l.countP q
  | [], _ => rfl
  | x :: l, h => by
    rw [List.countP_cons, List.countP_cons, List.countP_cons, countP_or p q l h]
    have := h x
    cases hp : p x <;> cases hq : q x <;> simp [hp, hq] at this ⊢ <;> omega
theorem countP_part {α : Type} (p q : α → Bool) : ∀ (l : List α), l.countP p = l.countP (fun x => p x && q x) + l.countP (fun x => p x && !q x)
  | [] => rfl
  | x :: l => by
    rw [List.countP_cons, List.countP_cons, List.countP_cons, countP_part p q l]
    cases hp : p x <;> cases hq : q x <;> simp <;> omega
theorem count_span (lo f t : Int) (h1 : f ≤ t) (h2 : lo ≤ f) : ∀ N : Nat, ((List.range N).countP (fun i : Nat => decide (f ≤ lo + i) && decide (lo + i < t)) : Int) = max 0 (min (lo + N) t - f)
  | 0 => by simp; omega
  | N + 1 => by
    rw [List.range_succ, List.countP_append, Int.natCast_add, count_span lo f t h1 h2 N]
    simp only [List.countP_cons, List.countP_nil]
    by_cases c1 : f ≤ lo + N <;> by_cases c2 : lo + N < t <;> simp [c1, c2] <;> omega
theorem count_row (lo : Int) (N : Nat) : ∀ (l : List Sp), SRight l → (∀ s ∈ l, lo ≤ s.f ∧ s.t ≤ lo + N) → ((List.range N).countP (fun i : Nat => decide (HasS l (lo + i))) : Int) = cntS l
  | [], _, _ => by simp [HasS, cntS]
  | s :: l, h, hb => by
    obtain ⟨h1, h2⟩ := h.head
    have hs := hb s (by simp)
    have ih := count_row lo N l h.tail fun x hx => hb x (by simp [hx])
    have e : (fun i : Nat => decide (HasS (s :: l) (lo + i))) = fun i : Nat => (decide (s.f ≤ lo + i) && decide (lo + i < s.t)) || decide (HasS l (lo + i)) := by
      funext i
      rw [decide_eq_decide.2 (hasS_cons s l (lo + i)), Bool.decide_or, Bool.decide_and]
    rw [e, countP_or, Int.natCast_add, ih, count_span lo s.f s.t (by omega) hs.1 N]
    · simp only [cntS, List.map_cons, List.sum_cons]; omega
    · rintro i ⟨h3, h4⟩
      simp only [Bool.and_eq_true, decide_eq_true_eq] at h3 h4
      obtain ⟨x, hx, h5, h6⟩ := h4
      have := h2 x hx; omega
theorem cnt_parts {a b both one : List Sp} (ha : SRight a) (h1 : SRight both) (h2 : SRight one) (oa : ∀ s ∈ a, s.Ok) (o1 : ∀ s ∈ both, s.Ok) (o2 : ∀ s ∈ one, s.Ok)
    (e1 : ∀ n, HasS both n ↔ HasS a n ∧ HasS b n) (e2 : ∀ n, HasS one n ↔ HasS a n ∧ ¬ HasS b n) : cntS both + cntS one = cntS a := by
  have key : ∀ l : List Sp, (∀ s ∈ l, s.Ok) → ∀ s ∈ l, (-9223372036854775808 : Int) ≤ s.f ∧ s.t ≤ -9223372036854775808 + ((18446744073709551615 : Nat) : Int) := fun l hl s hs => by
    obtain ⟨⟨h1, h2⟩, h3, h4⟩ := hl s hs
    constructor <;> omega
  rw [← count_row (-9223372036854775808) 18446744073709551615 a ha (key a oa), ← count_row (-9223372036854775808) 18446744073709551615 both h1 (key both o1), ← count_row (-9223372036854775808) 18446744073709551615 one h2 (key one o2)]
  have p1 : (fun i : Nat => decide (HasS both (-9223372036854775808 + i))) = fun i : Nat => decide (HasS a (-9223372036854775808 + i)) && decide (HasS b (-9223372036854775808 + i)) := by
    funext i; rw [decide_eq_decide.2 (e1 _), Bool.decide_and]
  have p2 : (fun i : Nat => decide (HasS one (-9223372036854775808 + i))) = fun i : Nat => decide (HasS a (-9223372036854775808 + i)) && !decide (HasS b (-9223372036854775808 + i)) := by
    funext i; rw [decide_eq_decide.2 (e2 _), Bool.decide_and, decide_not]
  rw [p1, p2, ← Int.natCast_add, ← countP_part (fun i : Nat => decide (HasS a (-9223372036854775808 + i)))]
end Go.Am
