/- Statements whose order is open: any order does what the text's order does. -/
import Derived.Test.YtdnmppikakpdiaaAh
import Derived.Orders
set_option linter.unusedVariables false
set_option linter.unusedSimpArgs false
namespace Go.Am
open Go.RowKit

def DIt.slots (x : DIt) : List Nat := slotsOf x.a.xs ++ (match x.g with | some (t, _) => [t] | none => [])
def DIt.dsts : List DIt → List Nat
  | [] => []
  | x :: r => x.d.toList ++ dsts r

section
variable {Γ : Env} {s t : St}
theorem opd_of_slots {xs : List Opd} (h : ∀ i ∈ slotsOf xs, get t.fr i = get s.fr i) : ∀ x ∈ xs, t.opd x = s.opd x := by
  intro x hx
  cases x with
  | k v => rfl
  | t n =>
    refine h n ?_
    induction xs with
    | nil => simp at hx
    | cons y ys ih =>
      cases y with
      | k v =>
        simp only [slotsOf] at h ⊢
        exact ih h (by simpa using hx)
      | t m =>
        simp only [slotsOf, List.mem_cons] at h ⊢
        by_cases hm : n = m
        · exact .inl hm
        · exact .inr (ih (fun i hi => h i (.inr hi)) (by simpa [hm] using hx))
theorem opds_local : ∀ {xs : List Opd}, (∀ x ∈ xs, t.opd x = s.opd x) → t.opds xs = s.opds xs
  | [], _ => rfl
  | x :: xs, h => by simp only [St.opds, h x (by simp), opds_local (xs := xs) fun y hy => h y (by simp [hy])]
theorem view_local (hob : t.ob = s.ob) (v : AV) : t.view v = s.view v := by
  unfold St.view; cases v <;> simp only [hob]
theorem frz_local (hob : t.ob = s.ob) (v : AV) : t.frz v = s.frz v := by
  unfold St.frz; cases v <;> simp only [view_local hob]
theorem frzs_local (hob : t.ob = s.ob) : ∀ vs : List AV, t.frzs vs = s.frzs vs
  | [] => rfl
  | v :: vs => by simp only [St.frzs, frz_local hob, frzs_local hob vs]
theorem parts_local (hob : t.ob = s.ob) : ∀ {ps : List (Nat × Nat × Opd)}, (∀ x ∈ ps.map (·.2.2), t.opd x = s.opd x) → t.parts ps = s.parts ps
  | [], _ => rfl
  | (off, sz, x) :: ps, h => by
    simp only [St.parts, h x (by simp), frz_local hob, parts_local hob (ps := ps) fun y hy => h y (by simp only [List.map_cons, List.mem_cons]; exact .inr hy)]
theorem conv_local (hob : t.ob = s.ob) (c : Cv) (v : AV) : t.conv c v = s.conv c v := by
  unfold St.conv; cases c <;> cases v <;> simp only [view_local hob]
theorem load_local (hob : t.ob = s.ob) (v : AV) (sz : Nat) (ag : Bool) : t.load v sz ag = s.load v sz ag := by
  unfold St.load; cases v <;> simp only [hob]
theorem len_local (hob : t.ob = s.ob) (b : Bool) (v : AV) : lenV t b v = lenV s b v := by
  unfold lenV; cases b <;> cases v <;> simp only [hob] <;> (rename_i d; cases d <;> rfl)
theorem isNil_local (hob : t.ob = s.ob) (k : Nat) (v : AV) : isNil t k v = isNil s k v := by
  unfold isNil; rw [hob]
theorem ptrEq_local (hob : t.ob = s.ob) (u v : AV) : ptrEq t u v = ptrEq s u v := by
  unfold ptrEq; rw [hob]
theorem opdO_local {x : Option Opd} (h : ∀ y ∈ x.toList, t.opd y = s.opd y) : t.opdO x = s.opdO x := by
  cases x with
  | none => rfl
  | some y => simp only [St.opdO, h y (by simp)]
theorem del_length {α : Type} : ∀ (l : List (Nat × α)) (k : Nat), (del l k).length ≤ l.length ∧ ((del l k).length = l.length → del l k = l)
  | [], k => by simp [del]
  | (j, v) :: r, k => by
    obtain ⟨h1, h2⟩ := del_length r k
    simp only [del]
    split
    · exact ⟨by simp; omega, fun h => by simp at h; omega⟩
    · exact ⟨by simpa using h1, fun h => by rw [h2 (by simpa using h)]⟩
theorem kill_length : ∀ (ks : List Nat) (s : St), (kill s ks).ob.length ≤ s.ob.length ∧ ((kill s ks).ob.length = s.ob.length → kill s ks = s)
  | [], s => ⟨Nat.le_refl _, fun _ => rfl⟩
  | k :: ks, ⟨fr, ob⟩ => by
    obtain ⟨h1, h2⟩ := kill_length ks ⟨fr, del ob k⟩
    obtain ⟨h3, h4⟩ := del_length ob k
    simp only [kill]
    simp only at h1 h2
    refine ⟨by omega, fun h => ?_⟩
    have h5 := h4 (by omega)
    rw [h2 (by rw [h5]; rw [h5] at h; exact h), h5]
theorem kill_at : ∀ (ks : List Nat) (f : List (Nat × AV)) (s : St), kill ⟨f, s.ob⟩ ks = ⟨f, (kill s ks).ob⟩
  | [], f, s => rfl
  | k :: ks, f, s => kill_at ks f ⟨s.fr, del s.ob k⟩
theorem ite_pair {c : Prop} [Decidable c] {f : List (Nat × AV)} {a b : St} : (⟨f, (if c then a else b).ob⟩ : St) = if c then ⟨f, a.ob⟩ else ⟨f, b.ob⟩ := by split <;> rfl
/-- What a quiet operation answers hangs on what it reads alone. -/
theorem act_at {A : Act} {f : List (Nat × AV)} (hq : A.quiet = true) (hx : ∀ x ∈ A.xs, St.opd ⟨f, s.ob⟩ x = s.opd x) : act Γ ⟨f, s.ob⟩ A = (act Γ s A).map fun p => (p.1, ⟨f, p.2.ob⟩) := by
  have l1 := fun v => view_local (s := s) (t := ⟨f, s.ob⟩) rfl v
  have l2 := fun v => frzs_local (s := s) (t := ⟨f, s.ob⟩) rfl v
  have l3 := fun c v => conv_local (s := s) (t := ⟨f, s.ob⟩) rfl c v
  have l4 := fun v sz ag => load_local (s := s) (t := ⟨f, s.ob⟩) rfl v sz ag
  have l5 := fun b v => len_local (s := s) (t := ⟨f, s.ob⟩) rfl b v
  cases A <;> simp only [Act.quiet, Bool.false_eq_true] at hq <;> simp only [act]
  case mov x => rw [hx x (by simp [Act.xs])]; cases s.opd x <;> rfl
  case pick c a b =>
    have e : ∀ z : Bool, St.opd ⟨f, s.ob⟩ (if z = true then a else b) = s.opd (if z = true then a else b) := fun z => by
      split
      · exact hx a (by simp [Act.xs])
      · exact hx b (by simp [Act.xs])
    rw [hx c (by simp [Act.xs])]
    simp only [e]
    split <;> simp [Function.comp_def]
  case bin op x y => rw [hx x (by simp [Act.xs]), hx y (by simp [Act.xs])]; split <;> simp [Function.comp_def]
  case eqs neg ks x y => rw [hx x (by simp [Act.xs]), hx y (by simp [Act.xs])]; split <;> simp [Function.comp_def]
  case beq neg x y => rw [hx x (by simp [Act.xs]), hx y (by simp [Act.xs])]; split <;> simp
  case un op x => rw [hx x (by simp [Act.xs])]; split <;> simp [Function.comp_def]
  case conv c x => rw [hx x (by simp [Act.xs])]; split <;> simp [Function.comp_def, l3]
  case ext x i => rw [hx x (by simp [Act.xs])]; split <;> simp [Function.comp_def]
  case fld x off sz ag => rw [hx x (by simp [Act.xs])]; split <;> simp [Function.comp_def]
  case idx x i n sz ag => rw [hx x (by simp [Act.xs]), hx i (by simp [Act.xs])]; clear l1 l2 l3 l4 l5 hx; (repeat' split) <;> simp_all [Function.comp_def]
  case sidx x i => rw [hx x (by simp [Act.xs]), hx i (by simp [Act.xs])]; clear l1 l2 l3 l4 l5 hx; (repeat' split) <;> simp_all [Function.comp_def]
  case iad x i sz => rw [hx x (by simp [Act.xs]), hx i (by simp [Act.xs])]; clear l1 l2 l3 l4 l5 hx; (repeat' split) <;> simp_all [Function.comp_def]
  case iadA x i n sz => rw [hx x (by simp [Act.xs]), hx i (by simp [Act.xs])]; clear l1 l2 l3 l4 l5 hx; (repeat' split) <;> simp_all
  case fad x off => rw [hx x (by simp [Act.xs])]; split <;> simp [Function.comp_def]
  case ld x sz ag => rw [hx x (by simp [Act.xs])]; split <;> simp [Function.comp_def, l4]
  case bld z ps => rw [parts_local (s := s) (t := ⟨f, s.ob⟩) rfl hx]; split <;> simp [Function.comp_def, kill_at]
  case cvb x => rw [hx x (by simp [Act.xs])]; split <;> simp [Function.comp_def]
  case bsl sz z n ps => rw [parts_local (s := s) (t := ⟨f, s.ob⟩) rfl hx]; split <;> simp [Function.comp_def, kill_at]
  case ssl x lo hi => rw [hx x (by simp [Act.xs]), opdO_local (s := s) (t := ⟨f, s.ob⟩) (x := lo) (fun y hy => hx y (by simp only [Act.xs, List.mem_cons, List.mem_append]; exact .inr (.inl hy))), opdO_local (s := s) (t := ⟨f, s.ob⟩) (x := hi) (fun y hy => hx y (by simp only [Act.xs, List.mem_cons, List.mem_append]; exact .inr (.inr hy)))]; split <;> simp [Function.comp_def]
  case lsl sz x lo hi => rw [hx x (by simp [Act.xs]), opdO_local (s := s) (t := ⟨f, s.ob⟩) (x := lo) (fun y hy => hx y (by simp only [Act.xs, List.mem_cons, List.mem_append]; exact .inr (.inl hy))), opdO_local (s := s) (t := ⟨f, s.ob⟩) (x := hi) (fun y hy => hx y (by simp only [Act.xs, List.mem_cons, List.mem_append]; exact .inr (.inr hy)))]; clear l1 l2 l3 l4 l5 hx; (repeat' split) <;> simp_all [Function.comp_def]
  case len b x => rw [hx x (by simp [Act.xs])]; split <;> simp [Function.comp_def, l5]
  case mkf g xs => rw [opds_local (s := s) (t := ⟨f, s.ob⟩) (xs := xs) hx]; (repeat' split) <;> simp_all
  case call g xs => rw [opds_local (s := s) (t := ⟨f, s.ob⟩) (xs := xs) hx]; simp only [l2, kill_at]; clear l1 l2 l3 l4 l5 hx; (repeat' split) <;> simp_all
  case mn x xs => rw [hx x (by simp [Act.xs]), opds_local (s := s) (t := ⟨f, s.ob⟩) (xs := xs) fun y hy => hx y (by simp [Act.xs, hy])]; split <;> simp [Function.comp_def]
  case mx x xs => rw [hx x (by simp [Act.xs]), opds_local (s := s) (t := ⟨f, s.ob⟩) (xs := xs) fun y hy => hx y (by simp [Act.xs, hy])]; split <;> simp [Function.comp_def]
  case nilc x => rw [hx x (by simp [Act.xs])]; split <;> simp [Function.comp_def]
  case callV y xs => rw [hx y (by simp [Act.xs]), opds_local (s := s) (t := ⟨f, s.ob⟩) (xs := xs) fun z hz => hx z (by simp [Act.xs, hz])]; simp only [l2, kill_at]; clear l1 l2 l3 l4 l5 hx; (repeat' split) <;> simp_all
  case shf l x y => rw [hx x (by simp [Act.xs]), hx y (by simp [Act.xs])]; split <;> simp [Function.comp_def]
  case idp ty sz x => rw [hx x (by simp [Act.xs])]; clear l1 l2 l3 l4 l5 hx; (repeat' split) <;> simp_all
  case isn k neg x => rw [hx x (by simp [Act.xs])]; split <;> simp [Function.comp_def, isNil_local (s := s) (t := ⟨f, s.ob⟩) rfl]
  case peq neg x y => rw [hx x (by simp [Act.xs]), hx y (by simp [Act.xs])]; split <;> simp [Function.comp_def, ptrEq_local (s := s) (t := ⟨f, s.ob⟩) rfl]
  case mget ks zero ok x i => rw [hx x (by simp [Act.xs]), hx i (by simp [Act.xs])]; clear l1 l2 l3 l4 l5 hx; (repeat' split) <;> simp_all [Function.comp_def]
  case mlen x => rw [hx x (by simp [Act.xs])]; clear l1 l2 l3 l4 l5 hx; (repeat' split) <;> simp_all [Function.comp_def]
  case sdat x => rw [hx x (by simp [Act.xs])]; clear l1 l2 l3 l4 l5 hx; (repeat' split) <;> simp_all [Function.comp_def]
theorem act_local {A : Act} {f : List (Nat × AV)} {v : AV} {s' : St} (hq : A.quiet = true) (hx : ∀ x ∈ A.xs, St.opd ⟨f, s.ob⟩ x = s.opd x) (h : act Γ s A = some (v, s')) (hob : s'.ob = s.ob) : act Γ ⟨f, s.ob⟩ A = some (v, ⟨f, s.ob⟩) := by
  rw [act_at hq hx, h]; simp [hob]
theorem del_absent {α : Type} : ∀ (l : List (Nat × α)) (k : Nat), get l k = none → del l k = l
  | [], k, _ => rfl
  | (j, v) :: r, k, h => by
    simp only [get] at h
    split at h
    · simp at h
    · rename_i hj
      simp only [del, if_neg hj, del_absent r k h]
/-- A quiet operation that keeps the number of own objects keeps them all. -/
theorem quiet_ob {A : Act} {v : AV} {s' : St} (hq : A.quiet = true) (h : act Γ s A = some (v, s')) (hl : s'.ob.length = s.ob.length) : s'.ob = s.ob := by
  have kl : ∀ ks, kill s ks = s' → s'.ob = s.ob := fun ks hk => by
    subst hk; rw [(kill_length ks s).2 hl]
  cases A <;> simp only [Act.quiet, Bool.false_eq_true] at hq <;> simp only [act] at h
  all_goals repeat' split at h
  all_goals simp only [Option.map_eq_some_iff, Option.some.injEq, Prod.mk.injEq, reduceCtorEq] at h
  all_goals first
    | (obtain ⟨_, _, _, rfl⟩ := h; rfl)
    | (obtain ⟨_, rfl⟩ := h; rfl)
    | (obtain ⟨_, _, _, h⟩ := h; exact kl _ h)
    | (obtain ⟨_, h⟩ := h; first | exact kl _ h | (rw [← h]))
    | skip
end

/-! ### Objects that nothing names -/
section
variable {Γ : Env} {s : St} {K : Nat → Prop} {ob' : List (Nat × Obj)}
def Nn (K : Nat → Prop) (v : AV) : Prop := ∀ k, K k → v.names k = false
theorem view_irrel {v : AV} (hob : ∀ j, ¬K j → get ob' j = get s.ob j) (hn : Nn K v) : St.view ⟨s.fr, ob'⟩ v = s.view v := by
  unfold St.view
  cases v
  case sl key ver start len =>
    simp only
    have hk : ¬K key := fun h => by simpa [AV.names, AV.names1] using hn key h
    rw [hob key hk]
  case c d => cases d <;> rfl
  all_goals rfl
theorem frz_irrel {v : AV} (hob : ∀ j, ¬K j → get ob' j = get s.ob j) (hn : Nn K v) : St.frz ⟨s.fr, ob'⟩ v = s.frz v := by
  unfold St.frz
  cases v <;> first | rfl | simp only [view_irrel hob hn]
theorem frzs_irrel (hob : ∀ j, ¬K j → get ob' j = get s.ob j) : ∀ vs : List AV, (∀ v ∈ vs, Nn K v) → St.frzs ⟨s.fr, ob'⟩ vs = s.frzs vs
  | [], _ => rfl
  | v :: vs, h => by simp only [St.frzs, frz_irrel hob (h v (by simp)), frzs_irrel hob vs fun u hu => h u (by simp [hu])]
theorem parts_irrel (hob : ∀ j, ¬K j → get ob' j = get s.ob j) : ∀ {ps : List (Nat × Nat × Opd)}, (∀ x ∈ ps.map (·.2.2), ∀ v, s.opd x = some v → Nn K v) → St.parts ⟨s.fr, ob'⟩ ps = s.parts ps
  | [], _ => rfl
  | (off, sz, x) :: ps, h => by
    have e : St.opd ⟨s.fr, ob'⟩ x = s.opd x := by cases x <;> rfl
    simp only [St.parts, e, parts_irrel hob (ps := ps) fun y hy => h y (by simp only [List.map_cons, List.mem_cons]; exact .inr hy)]
    cases hx : s.opd x with
    | none => rfl
    | some v => simp only [frz_irrel hob (h x (by simp) v hx)]
theorem conv_irrel {v : AV} (hob : ∀ j, ¬K j → get ob' j = get s.ob j) (hn : Nn K v) (c : Cv) : St.conv ⟨s.fr, ob'⟩ c v = s.conv c v := by
  unfold St.conv
  have := view_irrel hob hn
  cases c
  · cases v <;> try rfl
    rename_i d; cases d <;> rfl
  · cases v <;> try rfl
    rename_i d; cases d <;> rfl
  · simp only [this]
theorem load_irrel {v : AV} (hob : ∀ j, ¬K j → get ob' j = get s.ob j) (hn : Nn K v) (sz : Nat) (ag : Bool) : St.load ⟨s.fr, ob'⟩ v sz ag = s.load v sz ag := by
  unfold St.load
  cases v <;> simp only
  rename_i key row off
  have hk : ¬K key := fun h => by simpa [AV.names, AV.names1] using hn key h
  rw [hob key hk]
theorem len_irrel {v : AV} (hob : ∀ j, ¬K j → get ob' j = get s.ob j) (hn : Nn K v) (b : Bool) : lenV ⟨s.fr, ob'⟩ b v = lenV s b v := by
  unfold lenV
  cases b <;> cases v <;> try rfl
  all_goals try (rename_i d; cases d <;> rfl)
  rename_i key ver start len
  have hk : ¬K key := fun h => by simpa [AV.names, AV.names1] using hn key h
  simp only [hob key hk]
theorem nn_key {v : AV} {k : Nat} (hn : Nn K v) (h : v.names k = true) : ¬K k := fun hk => by have := hn k hk; rw [h] at this; simp at this
theorem isNil_irrel {v : AV} (hob : ∀ j, ¬K j → get ob' j = get s.ob j) (hn : Nn K v) (k : Nat) : isNil ⟨s.fr, ob'⟩ k v = isNil s k v := by
  unfold isNil
  split <;> first | rfl | (rename_i key _ _; rw [hob key (nn_key hn (by simp [AV.names, AV.names1]))]) | (rename_i key; rw [hob key (nn_key hn (by simp [AV.names, AV.names1]))]) | (rename_i key _ _ _; simp only [hob key (nn_key hn (by simp [AV.names, AV.names1]))]) | skip
theorem ptrEq_irrel {u v : AV} (hob : ∀ j, ¬K j → get ob' j = get s.ob j) (hu : Nn K u) (hv : Nn K v) : ptrEq ⟨s.fr, ob'⟩ u v = ptrEq s u v := by
  unfold ptrEq
  split
  · rfl
  · rename_i key _ _; rw [hob key (nn_key hv (by simp [AV.names, AV.names1]))]
  · rename_i key _ _; rw [hob key (nn_key hu (by simp [AV.names, AV.names1]))]
  · rename_i k1 _ _ k2 _ _; simp only [hob k1 (nn_key hu (by simp [AV.names, AV.names1])), hob k2 (nn_key hv (by simp [AV.names, AV.names1]))]
  · rfl
theorem frz_key {v d : AV} {key : Nat} (h : s.frz v = some (d, some key)) : get s.ob key ≠ none := by
  unfold St.frz at h
  split at h <;> simp only [Option.some.injEq, Prod.mk.injEq, reduceCtorEq, and_false, Option.map_eq_some_iff] at h
  obtain ⟨⟨a, b⟩, h1, _, rfl⟩ := h
  unfold St.view at h1
  simp only at h1
  split at h1
  · rename_i o ho; rw [ho]; simp
  · simp at h1
theorem frzs_keys : ∀ {vs ds : List AV} {ks : List Nat}, s.frzs vs = some (ds, ks) → ∀ k ∈ ks, get s.ob k ≠ none
  | [], ds, ks, h, k, hk => by simp only [St.frzs, Option.some.injEq, Prod.mk.injEq] at h; obtain ⟨_, rfl⟩ := h; simp at hk
  | v :: vs, ds, ks, h, k, hk => by
    simp only [St.frzs] at h
    split at h
    · rename_i d k1 ds' ks' h1 h2
      simp only [Option.some.injEq, Prod.mk.injEq] at h
      obtain ⟨_, rfl⟩ := h
      simp only [List.mem_append, Option.mem_toList] at hk
      rcases hk with hk | hk
      · subst hk; exact frz_key h1
      · exact frzs_keys h2 k hk
    · simp at h
theorem parts_keys : ∀ {ps : List (Nat × Nat × Opd)} {xs : List (Nat × List D)} {ks : List Nat}, s.parts ps = some (xs, ks) → ∀ k ∈ ks, get s.ob k ≠ none
  | [], xs, ks, h, k, hk => by simp only [St.parts, Option.some.injEq, Prod.mk.injEq] at h; obtain ⟨_, rfl⟩ := h; simp at hk
  | (off, sz, x) :: ps, xs, ks, h, k, hk => by
    simp only [St.parts] at h
    split at h
    · simp at h
    · split at h
      · simp at h
      · rename_i d k1 h1
        split at h
        · rename_i cs ps' ks' _ h2
          split at h
          · simp only [Option.some.injEq, Prod.mk.injEq] at h
            obtain ⟨_, rfl⟩ := h
            simp only [List.mem_append, Option.mem_toList] at hk
            rcases hk with hk | hk
            · subst hk; exact frz_key h1
            · exact parts_keys h2 k hk
          · simp at h
        · simp at h
theorem keys_nil {ks : List Nat} (h : ∀ k ∈ ks, get s.ob k ≠ none) (hl : (kill s ks).ob = s.ob) : ks = [] := by
  cases ks with
  | nil => rfl
  | cons k ks =>
    have := get_kill (k :: ks) s k
    rw [hl, if_pos (by simp)] at this
    exact (h k (by simp) this).elim
/-- A quiet operation that reads nothing of such objects. -/
theorem act_ob {A : Act} {v : AV} (hq : A.quiet = true) (hob : ∀ j, ¬K j → get ob' j = get s.ob j) (hn : ∀ x ∈ A.xs, ∀ v, s.opd x = some v → Nn K v) (h : act Γ s A = some (v, s)) : act Γ ⟨s.fr, ob'⟩ A = some (v, ⟨s.fr, ob'⟩) := by
  have o : ∀ x, St.opd ⟨s.fr, ob'⟩ x = s.opd x := fun x => by cases x <;> rfl
  have oO : ∀ x, St.opdO ⟨s.fr, ob'⟩ x = s.opdO x := fun x => by cases x <;> simp only [St.opdO, o]
  have os : ∀ xs, St.opds ⟨s.fr, ob'⟩ xs = s.opds xs := fun xs => by induction xs <;> simp only [St.opds, o, *]
  have oN : ∀ xs vs, (∀ x ∈ xs, ∀ v, s.opd x = some v → Nn K v) → s.opds xs = some vs → ∀ v ∈ vs, Nn K v := by
    intro xs
    induction xs with
    | nil => intro vs _ h; simp only [St.opds, Option.some.injEq] at h; subst h; simp
    | cons x xs ih =>
      intro vs hx h
      simp only [St.opds] at h
      split at h
      · rename_i u us h1 h2
        simp only [Option.some.injEq] at h; subst h
        intro v hv
        rcases List.mem_cons.1 hv with rfl | hv
        · exact hx x (by simp) _ h1
        · exact ih us (fun y hy => hx y (by simp [hy])) h2 v hv
      · simp at h
  have ng : ∀ {key a b c : Nat} {x : Opd}, x ∈ A.xs → s.opd x = some (.sl key a b c) → get ob' key = get s.ob key := fun hx h => hob _ fun hk => by simpa [AV.names, AV.names1] using hn _ hx _ h _ hk
  have nl : ∀ {key a b : Nat} {x : Opd}, x ∈ A.xs → s.opd x = some (.loc key a b) → get ob' key = get s.ob key := fun hx h => hob _ fun hk => by simpa [AV.names, AV.names1] using hn _ hx _ h _ hk
  cases A <;> simp only [Act.quiet, Bool.false_eq_true] at hq <;> simp only [act, o, os, oO] at h ⊢
  case mov x => cases hx : s.opd x <;> simp_all
  case pick c a b => split at h <;> simp_all
  case bin op x y => split at h <;> simp_all
  case eqs neg ks x y => split at h <;> simp_all
  case beq neg x y => split at h <;> simp_all
  case un op x => split at h <;> simp_all
  case conv c x =>
    split at h
    · rename_i a ha; (try rw [ha]); rw [conv_irrel hob (hn x (by simp [Act.xs]) a ha)]; cases hc : s.conv c a <;> simp_all
    · simp at h
  case ext x i => split at h <;> simp_all
  case fld x off sz ag => split at h <;> simp_all
  case idx x i n sz ag =>
    split at h
    · rename_i cs p hp hi
      (try rw [hp, hi])
      try simp only at h ⊢
      split at h
      · rename_i j hj; (try rw [hj]); (try simp only); split at h <;> simp_all
      · simp at h
    · simp at h
  case sidx x i =>
    split at h
    · rename_i l p hp hi
      (try rw [hp, hi])
      try simp only at h ⊢
      split at h
      · rename_i j hj; (try rw [hj]); simp_all
      · simp at h
    · simp at h
  case iad x i sz =>
    split at h
    · rename_i z rows p hp hi
      (try rw [hp, hi])
      try simp only at h ⊢
      split at h
      · rename_i j hj; (try rw [hj]); (try simp only); split at h <;> simp_all
      · simp at h
    · rename_i key ver start len p hp hi
      (try rw [hp, hi])
      simp only [ng (x := x) (by simp [Act.xs]) hp] at h ⊢
      split at h
      · rename_i j ob hj hob; (try rw [hj, hob]); (try simp only); split at h <;> simp_all
      · simp at h
    · simp at h
  case iadA x i n sz =>
    split at h
    · rename_i key row off p hp hi
      (try rw [hp, hi])
      simp only [nl (x := x) (by simp [Act.xs]) hp] at h ⊢
      split at h
      · rename_i j ob hj hob; (try rw [hj, hob]); (try simp only); split at h <;> simp_all
      · simp at h
    · simp at h
  case fad x off =>
    split at h
    · rename_i key row o' hp
      (try rw [hp])
      simp only [nl (x := x) (by simp [Act.xs]) hp] at h ⊢
      cases hg : get s.ob key <;> simp_all
    · rename_i r o' hp; (try rw [hp]); simp_all
    · simp at h
  case ld x sz ag =>
    split at h
    · rename_i a ha; (try rw [ha]); rw [load_irrel hob (hn x (by simp [Act.xs]) a ha)]; cases hc : s.load a sz ag <;> simp_all
    · simp at h
  case bld z ps =>
    rw [parts_irrel hob (by simpa [Act.xs] using hn)]
    split at h
    · rename_i xs ks hps
      simp only [Option.map_eq_some_iff, Prod.mk.injEq] at h
      obtain ⟨cs, h1, rfl, h2⟩ := h
      obtain rfl := keys_nil (parts_keys hps) (by rw [h2])
      simp [hps, h1, kill]
    · simp at h
  case bsl sz z n ps =>
    rw [parts_irrel hob (by simpa [Act.xs] using hn)]
    split at h
    · rename_i xs ks hps
      simp only [Option.map_eq_some_iff, Prod.mk.injEq] at h
      obtain ⟨cs, h1, rfl, h2⟩ := h
      obtain rfl := keys_nil (parts_keys hps) (by rw [h2])
      simp [hps, h1, kill]
    · simp at h
  case cvb x => split at h <;> simp_all
  case ssl x lo hi => split at h <;> simp_all
  case lsl sz x lo hi =>
    split at h
    · rename_i z rows p q hp hlo hhi
      (try rw [hp, hlo, hhi])
      try simp only at h ⊢
      split at h <;> simp_all
    · rename_i key ver start len p q hp hlo hhi
      (try rw [hp, hlo, hhi])
      simp only [ng (x := x) (by simp [Act.xs]) hp] at h ⊢
      split at h
      · rename_i ob hob; (try rw [hob]); (try simp only); split at h <;> simp_all
      · simp at h
    · rename_i z p q hp hlo hhi
      (try rw [hp, hlo, hhi])
      try simp only at h ⊢
      simp_all
    · simp at h
  case len b x =>
    split at h
    · rename_i a ha; (try rw [ha]); rw [len_irrel hob (hn x (by simp [Act.xs]) a ha)]; cases hc : lenV s b a <;> simp_all
    · simp at h
  case call g xs =>
    split at h
    · simp at h
    · rename_i vs hvs
      (try rw [hvs])
      simp only [frzs_irrel hob vs (oN xs vs (by simpa [Act.xs] using hn) hvs)]
      split at h
      · simp at h
      · rename_i ds ks hds
        (try rw [hds])
        (try simp only)
        split at h
        · simp at h
        · rename_i rs hrs
          (try rw [hrs])
          simp only [Option.some.injEq, Prod.mk.injEq] at h ⊢
          obtain ⟨h1, h2⟩ := h
          refine ⟨h1, ?_⟩
          split
          · rfl
          · rename_i hfl
            rw [if_neg hfl] at h2
            obtain rfl := keys_nil (frzs_keys hds) (by rw [h2])
            rfl
  case mn x xs => split at h <;> simp_all
  case mkf g xs => (repeat' split at h) <;> simp_all
  case mx x xs => split at h <;> simp_all
  case nilc x =>
    split at h
    · rename_i key row off hp
      (try rw [hp])
      simp only [nl (x := x) (by simp [Act.xs]) hp] at h ⊢
      cases hg : get s.ob key <;> simp_all
    · simp at h
  case callV y xs =>
    split at h
    · rename_i g vs hy hvs
      (try rw [hy, hvs])
      simp only [frzs_irrel hob vs (oN xs vs (fun z hz => hn z (by simp [Act.xs, hz])) hvs)]
      split at h
      · simp at h
      · rename_i ds ks hds
        (try rw [hds])
        (try simp only)
        split at h
        · simp at h
        · rename_i rs hrs
          (try rw [hrs])
          simp only [Option.some.injEq, Prod.mk.injEq] at h ⊢
          obtain ⟨h1, h2⟩ := h
          refine ⟨h1, ?_⟩
          split
          · rfl
          · rename_i hfl
            rw [if_neg hfl] at h2
            obtain rfl := keys_nil (frzs_keys hds) (by rw [h2])
            rfl
    · simp at h
  case shf l x y => split at h <;> simp_all
  case idp ty sz x =>
    split at h
    · rename_i key hp
      (try rw [hp])
      simp only [nl (x := x) (by simp [Act.xs]) hp] at h ⊢
      cases hg : get s.ob key <;> simp_all
    · rename_i hp; simp_all
    · simp at h
  case isn k neg x =>
    split at h
    · rename_i a ha; (try rw [ha]); rw [isNil_irrel hob (hn x (by simp [Act.xs]) a ha)]; cases hc : isNil s k a <;> simp_all
    · simp at h
  case peq neg x y =>
    split at h
    · rename_i a b ha hb; (try rw [ha, hb]); rw [ptrEq_irrel hob (hn x (by simp [Act.xs]) a ha) (hn y (by simp [Act.xs]) b hb)]; cases hc : ptrEq s a b <;> simp_all
    · simp at h
  case mget ks zero ok x i =>
    split at h
    · rename_i k hp hq; (try rw [hp, hq]); split at h <;> simp_all
    · rename_i key k hp hq
      (try rw [hp, hq])
      have hg : get ob' key = get s.ob key := hob _ (nn_key (hn x (by simp [Act.xs]) _ hp) (by simp [AV.names, AV.names1]))
      rw [hg]
      split at h
      · rename_i o0 ho
        (try rw [ho])
        (try simp only)
        split at h
        · rename_i hk
          (try rw [if_pos hk])
          split at h
          · rename_i j u hf; (try rw [hf]); simp_all
          · rename_i hf; (try rw [hf]); simp_all
          · simp at h
        · simp at h
      · simp at h
    · simp at h
  case mlen x =>
    split at h
    · rename_i hp; simp_all
    · rename_i key hp
      (try rw [hp])
      have hg : get ob' key = get s.ob key := hob _ (nn_key (hn x (by simp [Act.xs]) _ hp) (by simp [AV.names, AV.names1]))
      rw [hg]
      cases hc : get s.ob key <;> simp_all
    · simp at h
  case sdat x =>
    split at h
    · rename_i hp; simp_all
    · rename_i key ver n hp
      (try rw [hp])
      simp only [ng (x := x) (by simp [Act.xs]) hp] at h ⊢
      cases hg : get s.ob key <;> simp_all
    · simp at h
end

/-! ### With fewer slots and objects -/
theorem mem_del {α : Type} {p : Nat × α} {k : Nat} : ∀ {l : List (Nat × α)}, p ∈ del l k → p ∈ l ∧ p.1 ≠ k
  | [], h => by simp [del] at h
  | (j, v) :: r, h => by
    simp only [del] at h
    split at h
    · obtain ⟨h1, h2⟩ := mem_del h
      exact ⟨by simp [h1], h2⟩
    · rename_i hj
      rcases List.mem_cons.1 h with rfl | h
      · exact ⟨by simp, hj⟩
      · obtain ⟨h1, h2⟩ := mem_del h
        exact ⟨by simp [h1], h2⟩
theorem mem_dels {α : Type} {p : Nat × α} : ∀ {ks : List Nat} {l : List (Nat × α)}, p ∈ dels ks l → p ∈ l ∧ p.1 ∉ ks
  | [], l, h => ⟨h, by simp⟩
  | k :: ks, l, h => by
    obtain ⟨h1, h2⟩ := mem_dels (ks := ks) h
    obtain ⟨h3, h4⟩ := mem_del h1
    exact ⟨h3, by simp [h2, h4]⟩
theorem mem_del_of {α : Type} {p : Nat × α} {k : Nat} : ∀ {l : List (Nat × α)}, p ∈ l → p.1 ≠ k → p ∈ del l k
  | [], h, _ => by simp at h
  | (j, v) :: r, h, hk => by
    simp only [del]
    rcases List.mem_cons.1 h with rfl | h
    · rw [if_neg hk]; simp
    · split
      · exact mem_del_of h hk
      · simp [mem_del_of h hk]
section
variable {Γ : Env} {s t : St}
theorem view_sub {v : AV} (hn : ∀ j, v.names j = true → get t.ob j = get s.ob j) : t.view v = s.view v := by
  unfold St.view
  cases v
  case sl key ver start len =>
    simp only
    rw [hn key (by simp [AV.names, AV.names1])]
  case c d => cases d <;> rfl
  all_goals rfl
theorem frz_sub {v : AV} (hn : ∀ j, v.names j = true → get t.ob j = get s.ob j) : t.frz v = s.frz v := by
  unfold St.frz
  cases v <;> first | rfl | simp only [view_sub hn]
theorem cells_sub {v : AV} (hn : ∀ j, v.names j = true → get t.ob j = get s.ob j) : t.cellsOf v = s.cellsOf v := by
  unfold St.cellsOf
  cases v <;> try rfl
  all_goals simp only
  all_goals rw [hn _ (by simp [AV.names, AV.names1])]
theorem src_sub {v : AV} (hn : ∀ j, v.names j = true → get t.ob j = get s.ob j) : srcRows t v = srcRows s v := by
  unfold srcRows
  have := view_sub hn
  cases v
  case c d => cases d <;> first | rfl | exact this
  all_goals first | rfl | exact this
theorem parts_sub : ∀ {ps : List (Nat × Nat × Opd)}, (∀ x ∈ ps.map (·.2.2), t.opd x = s.opd x) → (∀ x ∈ ps.map (·.2.2), ∀ v, s.opd x = some v → ∀ j, v.names j = true → get t.ob j = get s.ob j) → t.parts ps = s.parts ps
  | [], _, _ => rfl
  | (off, sz, x) :: ps, ho, hn => by
    simp only [St.parts, ho x (by simp), parts_sub (ps := ps) (fun y hy => ho y (by simp only [List.map_cons, List.mem_cons]; exact .inr hy)) fun y hy => hn y (by simp only [List.map_cons, List.mem_cons]; exact .inr hy)]
    cases hx : s.opd x with
    | none => rfl
    | some v => simp only [frz_sub (hn x (by simp) v hx)]
theorem free_sub {key : Nat} (hfr : ∀ p ∈ t.fr, p ∈ s.fr) (hob : ∀ p ∈ t.ob, p ∈ s.ob) (h : s.free key = true) : t.free key = true := by
  simp only [St.free, Bool.and_eq_true, List.all_eq_true, Bool.not_eq_true'] at h ⊢
  refine ⟨fun p hp => h.1 p (hfr p hp), fun p hp => ?_⟩
  obtain ⟨h1, h2⟩ := mem_del hp
  exact h.2 p (mem_del_of (hob p h1) h2)
theorem noLoc_sub {key : Nat} (hfr : ∀ p ∈ t.fr, p ∈ s.fr) (hob : ∀ p ∈ t.ob, p ∈ s.ob) (h : s.noLoc key = true) : t.noLoc key = true := by
  simp only [St.noLoc, Bool.and_eq_true, List.all_eq_true, Bool.not_eq_true'] at h ⊢
  exact ⟨fun p hp => h.1 p (hfr p hp), fun p hp => h.2 p (hob p hp)⟩
/-- An operation that turns something does so with fewer slots and objects. -/
theorem act_sub {A : Act} {v : AV} {s' : St} {k : Nat} (he : effKey s A = some k) (h : act Γ s A = some (v, s')) (ho : ∀ x ∈ A.xs, t.opd x = s.opd x) (hfr : ∀ p ∈ t.fr, p ∈ s.fr) (hob : ∀ p ∈ t.ob, p ∈ s.ob)
    (hn : ∀ x ∈ A.xs, ∀ u, s.opd x = some u → ∀ j, u.names j = true → get t.ob j = get s.ob j) : s'.fr = s.fr ∧ (∃ o, get s'.ob k = some o ∧ act Γ t A = some (v, t.obj k o)) ∧ ∀ j, j ≠ k → get s'.ob j = get s.ob j := by
  suffices hs : ∃ o, s' = s.obj k o ∧ act Γ t A = some (v, t.obj k o) by
    obtain ⟨o, rfl, h1⟩ := hs
    exact ⟨rfl, ⟨o, by rw [get_obj, if_pos rfl], h1⟩, fun j hj => by rw [get_obj, if_neg (Ne.symm hj)]⟩
  cases A <;> simp only [effKey, reduceCtorEq] at he <;> simp only [act] at h
  case sto sz x y =>
    split at he
    · rename_i k0 row off hx
      simp only [Option.some.injEq] at he; subst he
      have n1 : get t.ob k0 = get s.ob k0 := hn x (by simp [Act.xs]) _ hx k0 (by simp [AV.names, AV.names1])
      rw [hx] at h
      split at h
      · rename_i a b ha hb
        simp only [Option.some.injEq] at ha; subst ha
        have n2 := cells_sub (hn y (by simp [Act.xs]) b hb)
        simp only [Option.map_eq_some_iff, Prod.mk.injEq, St.store] at h
        obtain ⟨s2, h, rfl, rfl⟩ := h
        split at h
        · rename_i o cs h1 h2
          split at h
          · rename_i r hr
            split at h
            · rename_i hc
              simp only [Option.some.injEq] at h
              refine ⟨_, h.symm, ?_⟩
              have e1 := ho x (by simp [Act.xs])
              have e2 := ho y (by simp [Act.xs])
              simp only [act, e1, e2, hx, hb, St.store, n1, n2, h1, h2, hr]
              rw [if_pos hc]; rfl
            · simp at h
          · simp at h
        · simp at h
      · simp at h
    · simp at he
  case app key0 sz bytes x y =>
    have e1 := ho x (by simp [Act.xs])
    have e2 := ho y (by simp [Act.xs])
    split at h
    · rename_i a b ha hb
      have n2 := src_sub (hn y (by simp [Act.xs]) b hb)
      split at h
      · rename_i z ys hys
        split at h
        · rename_i hz
          rw [ha] at he
          unfold appendTo at h
          split at he
          · rename_i z1 hz1
            simp only [Option.some.injEq] at hz1 he; subst hz1 he
            simp only at h
            split at h
            · rename_i hc
              simp only [Option.some.injEq, Prod.mk.injEq] at h
              obtain ⟨rfl, rfl⟩ := h
              refine ⟨_, rfl, ?_⟩
              have hf : t.free key0 = true := free_sub hfr hob (by simp only [Bool.and_eq_true] at hc; exact hc.2.2)
              simp only [Bool.and_eq_true] at hc
              simp only [act, e1, e2, ha, hb, n2, hys, hz, if_true, appendTo, hf, hc, Bool.and_self, and_self]
            · simp at h
          · rename_i k1 v1 st1 n1' hz1
            simp only [Option.some.injEq] at hz1 he; subst hz1 he
            have n1 : get t.ob k1 = get s.ob k1 := hn x (by simp [Act.xs]) _ ha k1 (by simp [AV.names, AV.names1])
            cases st1 with
            | succ m => simp at h
            | zero =>
              simp only at h
              split at h
              · rename_i o ho1
                split at h
                · rename_i hc
                  split at h
                  · rename_i hc2
                    simp only [Option.some.injEq, Prod.mk.injEq] at h
                    obtain ⟨rfl, rfl⟩ := h
                    refine ⟨_, rfl, ?_⟩
                    simp only [Bool.and_eq_true] at hc2
                    have hf := noLoc_sub hfr hob hc2.1.2
                    simp only [act, e1, e2, ha, hb, n2, hys, hz, if_true, appendTo, n1, ho1]
                    rw [if_pos hc, if_pos (by rw [hc2.1.1, hf, hc2.2]; rfl)]
                  · simp at h
                · simp at h
              · simp at h
          · simp at he
        · simp at h
      · simp at h
    · simp at h
  case bso key0 sz z len ps =>
    split at he
    · rename_i xs hps
      simp only [Option.some.injEq] at he; subst he
      rw [hps] at h
      simp only at h
      have e := parts_sub (s := s) (t := t) (ps := ps) ho hn
      cases hcs : putParts (repl z len) xs with
      | none => rw [hcs] at h; simp at h
      | some cs =>
        rw [hcs] at h
        simp only at h
        by_cases hf : (kill s []).free key0 = true
        · rw [if_pos hf] at h
          simp only [Option.some.injEq, Prod.mk.injEq] at h
          obtain ⟨rfl, rfl⟩ := h
          refine ⟨_, rfl, ?_⟩
          have hf2 : (kill t []).free key0 = true := free_sub (s := s) (t := t) hfr hob hf
          simp only [act, e, hps, hcs]
          rw [if_pos hf2]; rfl
        · rw [if_neg hf] at h; simp at h
    · simp at he
  case box key0 x =>
    simp only [Option.some.injEq] at he; subst he
    have e1 := ho x (by simp [Act.xs])
    split at h
    · rename_i b hb
      have n2 := cells_sub (hn x (by simp [Act.xs]) b hb)
      split at h
      · rename_i cs hcs
        split at h
        · rename_i hf
          simp only [Option.some.injEq, Prod.mk.injEq] at h
          obtain ⟨rfl, rfl⟩ := h
          refine ⟨_, rfl, ?_⟩
          simp only [act, e1, hb, n2, hcs, free_sub hfr hob hf, if_true]
        · simp at h
      · simp at h
    · simp at h
  case mks key0 bytes z n c =>
    simp only [Option.some.injEq] at he; subst he
    have e1 := ho n (by simp [Act.xs])
    have e2 := ho c (by simp [Act.xs])
    split at h
    · rename_i p q hp hq
      split at h
      · rename_i m k hm hk
        split at h
        · rename_i hc
          simp only [Option.some.injEq, Prod.mk.injEq] at h
          obtain ⟨rfl, rfl⟩ := h
          refine ⟨_, rfl, ?_⟩
          simp only [Bool.and_eq_true] at hc
          simp only [act, e1, e2, hp, hq, hm, hk, free_sub hfr hob hc.2.2, hc.1, hc.2.1, Bool.and_self, and_self, if_true]
        · simp at h
      · simp at h
    · simp at h
end

/-! ### The callers' slots stay; and count for nothing -/
theorem store_fr {s s' : St} {sz : Nat} {x v : AV} (h : s.store sz x v = some s') : s'.fr = s.fr := by
  unfold St.store at h
  repeat' split at h
  all_goals first
    | (simp only [Option.some.injEq] at h; subst h; rfl)
    | (simp at h)
theorem appendTo_fr {s s' : St} {key sz bytes : Nat} {x v : AV} {ys : List (List D)} (h : appendTo s key sz bytes x ys = some (v, s')) : s'.fr = s.fr := by
  unfold appendTo at h
  repeat' split at h
  all_goals first
    | (simp only [Option.some.injEq, Prod.mk.injEq] at h; obtain ⟨_, rfl⟩ := h; rfl)
    | (simp at h)
theorem appendToZ_fr {s s' : St} {key sz bytes : Nat} {x v : AV} {ys : Rows} (h : appendToZ s key sz bytes x ys = some (v, s')) : s'.fr = s.fr := by
  unfold appendToZ at h
  repeat' split at h
  all_goals first
    | (simp only [Option.some.injEq, Prod.mk.injEq] at h; obtain ⟨_, rfl⟩ := h; rfl)
    | (simp at h)
theorem appendM_fr {s s' : St} {key sz bytes : Nat} {x v : AV} {ys : List (List D)} (h : appendM s key sz bytes x ys = some (v, s')) : s'.fr = s.fr := by
  unfold appendM at h
  repeat' split at h
  all_goals simp only [Option.some.injEq, Prod.mk.injEq, reduceCtorEq] at h
  all_goals (obtain ⟨_, rfl⟩ := h; rfl)
theorem act_fr {Γ : Env} {A : Act} {s s' : St} {v : AV} (h : act Γ s A = some (v, s')) : s'.fr = s.fr := by
  cases A <;> simp only [act] at h
  case sto => 
    split at h
    · simp only [Option.map_eq_some_iff, Prod.mk.injEq] at h
      obtain ⟨t, h1, _, rfl⟩ := h
      exact store_fr h1
    · simp at h
  case stoF =>
    split at h
    · split at h
      · simp only [Option.map_eq_some_iff, Prod.mk.injEq] at h
        obtain ⟨t, h1, _, rfl⟩ := h
        rw [store_fr h1, kill_fr]
      · simp at h
    · simp at h
  case stoG => 
    split at h
    · simp only [Option.map_eq_some_iff, Prod.mk.injEq] at h
      obtain ⟨t, h1, _, rfl⟩ := h
      exact store_fr h1
    · simp at h
  case mset =>
    split at h
    · split at h
      · split at h
        · simp only [Option.map_eq_some_iff, Prod.mk.injEq] at h
          obtain ⟨t, h1, _, rfl⟩ := h
          unfold mupd at h1
          split at h1
          · simp only [Option.some.injEq] at h1; subst h1; rfl
          · simp only [Option.some.injEq] at h1; subst h1; rfl
          · simp at h1
        · simp at h
      · simp at h
    · simp at h
  case appM =>
    split at h
    · split at h
      · split at h
        · exact appendM_fr h
        · simp at h
      · simp at h
    · simp at h
  case appR =>
    split at h
    · split at h
      · split at h
        · simp at h
        · exact appendToZ_fr h
      · simp at h
    · simp at h
  case app =>
    split at h
    · split at h
      · split at h
        · exact appendTo_fr h
        · simp at h
      · simp at h
    · simp at h
  all_goals repeat' split at h
  all_goals simp only [Option.map_eq_some_iff, Option.some.injEq, Prod.mk.injEq, reduceCtorEq] at h
  all_goals first
    | (obtain ⟨_, _, _, rfl⟩ := h; first | rfl | exact kill_fr _ _)
    | (obtain ⟨_, rfl⟩ := h; first | rfl | exact kill_fr _ _)
    | skip
theorem free_less {s : St} {key : Nat} (R : List Nat) (h : s.free key = true) : St.free ⟨dels R s.fr, s.ob⟩ key = true :=
  free_sub (s := s) (t := ⟨dels R s.fr, s.ob⟩) (fun p hp => (mem_dels hp).1) (fun p hp => hp) h
theorem noLoc_less {s : St} {key : Nat} (R : List Nat) (h : s.noLoc key = true) : St.noLoc ⟨dels R s.fr, s.ob⟩ key = true :=
  noLoc_sub (s := s) (t := ⟨dels R s.fr, s.ob⟩) (fun p hp => (mem_dels hp).1) (fun p hp => hp) h
theorem gho_del (k : Nat) : ∀ l : List (Nat × AV), gho (del l k) = del (gho l) (GB + k)
  | [] => rfl
  | (i, v) :: l => by
    simp only [del, gho]
    by_cases h : i = k
    · rw [if_pos h, if_pos (by omega), gho_del k l]
    · rw [if_neg h, if_neg (by omega)]; simp only [gho, gho_del k l]
theorem gho_dels : ∀ (R : List Nat) (l : List (Nat × AV)), gho (dels R l) = dels (R.map (GB + ·)) (gho l)
  | [], l => rfl
  | k :: R, l => by simp only [dels, List.map_cons, gho_dels R, gho_del]
theorem del_args {k : Nat} : ∀ (vs : List AV) (i : Nat) (l : List (Nat × AV)), i + vs.length ≤ k → del (args i vs ++ l) k = args i vs ++ del l k
  | [], i, l, _ => rfl
  | v :: vs, i, l, h => by
    simp only [List.length_cons] at h
    simp only [args, List.cons_append, del]
    rw [if_neg (by omega), del_args vs (i + 1) l (by omega)]
theorem dels_args (vs : List AV) (hv : vs.length ≤ GB) : ∀ (R : List Nat) (l : List (Nat × AV)), (∀ r ∈ R, GB ≤ r) → dels R (args 0 vs ++ l) = args 0 vs ++ dels R l
  | [], l, _ => rfl
  | k :: R, l, h => by
    have := h k (by simp)
    simp only [dels]
    rw [del_args vs 0 l (by omega), dels_args vs hv R _ fun r hr => h r (by simp [hr])]
theorem cells_local {s t : St} (hob : t.ob = s.ob) (v : AV) : t.cellsOf v = s.cellsOf v := by
  unfold St.cellsOf; cases v <;> simp only [hob]
theorem partsA_local {s t : St} (hob : t.ob = s.ob) : ∀ {ps : List (Nat × Nat × Opd)}, (∀ x ∈ ps.map (·.2.2), t.opd x = s.opd x) → t.partsA ps = s.partsA ps
  | [], _ => rfl
  | (off, sz, x) :: ps, ho => by
    simp only [St.partsA, ho x (by simp), partsA_local hob (ps := ps) (fun y hy => ho y (by simp only [List.map_cons, List.mem_cons]; exact .inr hy)), cells_local hob]
theorem loadF_local {s t : St} (hob : t.ob = s.ob) (v : AV) (sz : Nat) : t.loadF v sz = s.loadF v sz := by
  unfold St.loadF; cases v <;> simp only [hob, frzs_local (s := s) (t := t) hob]
theorem loadA_local {s t : St} (hob : t.ob = s.ob) (v : AV) (sz : Nat) : t.loadA v sz = s.loadA v sz := by
  unfold St.loadA; cases v <;> simp only [hob, cells_local (s := s) (t := t) hob]
theorem src_local {s t : St} (hob : t.ob = s.ob) (v : AV) : srcRows t v = srcRows s v := by
  unfold srcRows; split <;> simp only [view_local hob]
theorem opds_len {s : St} : ∀ {xs : List Opd} {vs : List AV}, s.opds xs = some vs → vs.length = xs.length
  | [], vs, h => by simp only [St.opds, Option.some.injEq] at h; subst h; rfl
  | x :: xs, vs, h => by
    simp only [St.opds] at h
    split at h
    · rename_i v us h1 h2
      simp only [Option.some.injEq] at h; subst h
      simp [opds_len h2]
    · simp at h
theorem store_less {s s' : St} {sz : Nat} {x v : AV} {f : List (Nat × AV)} (h : s.store sz x v = some s') : St.store ⟨f, s.ob⟩ sz x v = some ⟨f, s'.ob⟩ := by
  cases x <;> simp only [St.store, reduceCtorEq] at h ⊢
  rename_i key row off
  simp only [cells_local (s := s) (t := ⟨f, s.ob⟩) rfl]
  split at h
  · rename_i o cs h1 h2
    split at h
    · rename_i r hr
      split at h
      · rename_i hc
        simp only [Option.some.injEq] at h; subst h
        try simp only [h1, h2, hr]
        rw [if_pos hc]; rfl
      · simp at h
    · simp at h
  · simp at h
theorem app_less {s s' : St} {key sz bytes : Nat} {x v : AV} {ys : List (List D)} {R : List Nat} (h : appendTo s key sz bytes x ys = some (v, s')) : appendTo ⟨dels R s.fr, s.ob⟩ key sz bytes x ys = some (v, ⟨dels R s.fr, s'.ob⟩) := by
  unfold appendTo at h ⊢
  split at h
  · rename_i z
    split at h
    · rename_i hc
      simp only [Option.some.injEq, Prod.mk.injEq] at h
      obtain ⟨rfl, rfl⟩ := h
      simp only [Bool.and_eq_true] at hc
      simp only [hc.1, hc.2.1, free_less R hc.2.2, Bool.and_self, and_self, if_true]; rfl
    · simp at h
  · rename_i k ver n
    split at h
    · rename_i o ho
      split at h
      · rename_i hc
        split at h
        · rename_i hc2
          simp only [Option.some.injEq, Prod.mk.injEq] at h
          obtain ⟨rfl, rfl⟩ := h
          simp only [Bool.and_eq_true] at hc2
          try simp only [ho]
          rw [if_pos hc, if_pos (by rw [hc2.1.1, noLoc_less R hc2.1.2, hc2.2]; rfl)]; rfl
        · simp at h
      · simp at h
    · simp at h
  · simp at h
theorem appZ_less {s s' : St} {key sz bytes : Nat} {x v : AV} {ys : Rows} {R : List Nat} (h : appendToZ s key sz bytes x ys = some (v, s')) : appendToZ ⟨dels R s.fr, s.ob⟩ key sz bytes x ys = some (v, ⟨dels R s.fr, s'.ob⟩) := by
  unfold appendToZ at h ⊢
  split at h
  · rename_i z
    split at h
    · rename_i hc
      simp only [Option.some.injEq, Prod.mk.injEq] at h
      obtain ⟨rfl, rfl⟩ := h
      simp only [Bool.and_eq_true] at hc
      simp only [hc.1, hc.2.1, free_less R hc.2.2, Bool.and_self, and_self, if_true]; rfl
    · simp at h
  · rename_i k ver n
    split at h
    · rename_i o ho
      split at h
      · rename_i hc
        split at h
        · rename_i hc2
          simp only [Option.some.injEq, Prod.mk.injEq] at h
          obtain ⟨rfl, rfl⟩ := h
          simp only [Bool.and_eq_true] at hc2
          try simp only [ho]
          rw [if_pos hc, if_pos (by rw [hc2.1.1, noLoc_less R hc2.1.2, hc2.2]; rfl)]; rfl
        · simp at h
      · simp at h
    · simp at h
  · simp at h
theorem appM_less {s s' : St} {key sz bytes : Nat} {x v : AV} {ys : List (List D)} {R : List Nat} (h : appendM s key sz bytes x ys = some (v, s')) : appendM ⟨dels R s.fr, s.ob⟩ key sz bytes x ys = some (v, ⟨dels R s.fr, s'.ob⟩) := by
  unfold appendM at h ⊢
  split at h
  · rename_i z
    split at h
    · rename_i hc
      simp only [Option.some.injEq, Prod.mk.injEq] at h
      obtain ⟨rfl, rfl⟩ := h
      simp only [Bool.and_eq_true] at hc
      simp only [hc.1, hc.2.1, free_less R hc.2.2, Bool.and_self, and_self, if_true]; rfl
    · simp at h
  · rename_i k ver st n
    split at h
    · rename_i o ho
      split at h
      · rename_i hc
        split at h
        · rename_i hc2
          simp only [Option.some.injEq, Prod.mk.injEq] at h
          obtain ⟨rfl, rfl⟩ := h
          simp only [Bool.and_eq_true] at hc2
          try simp only [ho]
          rw [if_pos hc, if_pos (by rw [hc2.1, free_less R hc2.2]; rfl)]; rfl
        · simp at h
      · simp at h
    · simp at h
  · simp at h
theorem srcA_local {s t : St} (hob : t.ob = s.ob) (sz : Nat) (x v : AV) : srcA t sz x v = srcA s sz x v := by
  unfold srcA
  simp only [hob, cells_local hob]
theorem mupd_less {s s' : St} {key : Nat} {ks : KK} {k v : AV} {o : Obj} {f : List (Nat × AV)} (h : mupd key ks k v o s = some s') : mupd key ks k v o ⟨f, s.ob⟩ = some ⟨f, s'.ob⟩ := by
  unfold mupd at h ⊢
  split at h
  · simp only [Option.some.injEq] at h; subst h; rfl
  · simp only [Option.some.injEq] at h; subst h; rfl
  · simp at h
/-- With fewer slots an operation does the same. -/
theorem act_less {Γ : Env} (hΓ : PtMono Γ) {A : Act} {s s' : St} {v : AV} {R : List Nat} (hn : A.xs.length ≤ GB) (hx : ∀ x ∈ A.xs, St.opd ⟨dels R s.fr, s.ob⟩ x = s.opd x) (h : act Γ s A = some (v, s')) :
    act Γ ⟨dels R s.fr, s.ob⟩ A = some (v, ⟨dels R s.fr, s'.ob⟩) := by
  have hfr := act_fr h
  by_cases hq : A.quiet = true
  · rw [act_at hq hx, h]; rfl
  cases A <;> simp only [Act.quiet, not_true_eq_false] at hq <;> simp only [act] at h ⊢
  case sto sz x y =>
    rw [hx x (by simp [Act.xs]), hx y (by simp [Act.xs])]
    split at h
    · rename_i a b ha hb
      simp only [Option.map_eq_some_iff, Prod.mk.injEq] at h ⊢
      obtain ⟨s2, h, rfl, rfl⟩ := h
      exact ⟨_, store_less h, rfl, rfl⟩
    · simp at h
  case ldF x sz =>
    rw [hx x (by simp [Act.xs])]
    split at h
    · rename_i p hp
      simp only [Option.map_eq_some_iff, Prod.mk.injEq] at h ⊢
      obtain ⟨q, h1, rfl, rfl⟩ := h
      exact ⟨q, by rw [loadF_local (s := s) (t := ⟨dels R s.fr, s.ob⟩) rfl]; exact h1, rfl, kill_at _ _ _⟩
    · simp at h
  case ldA x sz =>
    rw [hx x (by simp [Act.xs])]
    split at h
    · rename_i p hp
      simp only [Option.map_eq_some_iff, Prod.mk.injEq] at h ⊢
      obtain ⟨q, h1, rfl, rfl⟩ := h
      exact ⟨q, by rw [loadA_local (s := s) (t := ⟨dels R s.fr, s.ob⟩) rfl]; exact h1, rfl, rfl⟩
    · simp at h
  case stoF sz x y =>
    rw [hx x (by simp [Act.xs]), hx y (by simp [Act.xs])]
    split at h
    · rename_i a b ha hb
      simp only [frz_local (s := s) (t := ⟨dels R s.fr, s.ob⟩) rfl]
      split at h
      · rename_i d k hk
        simp only [Option.map_eq_some_iff, Prod.mk.injEq] at h ⊢
        obtain ⟨s2, h, rfl, rfl⟩ := h
        refine ⟨⟨dels R s.fr, s2.ob⟩, ?_, rfl, rfl⟩
        rw [kill_at]; exact store_less h
      · simp at h
    · simp at h
  case stoG sz x y =>
    rw [hx x (by simp [Act.xs]), hx y (by simp [Act.xs])]
    split at h
    · rename_i a b ha hb
      simp only [Option.map_eq_some_iff, Prod.mk.injEq] at h ⊢
      obtain ⟨s2, h, rfl, rfl⟩ := h
      exact ⟨_, store_less h, rfl, rfl⟩
    · simp at h
  case frz x =>
    rw [hx x (by simp [Act.xs])]
    split at h
    · rename_i a ha
      simp only [Option.map_eq_some_iff, Prod.mk.injEq] at h ⊢
      obtain ⟨p, h, rfl, rfl⟩ := h
      exact ⟨p, by rw [frz_local (s := s) (t := ⟨dels R s.fr, s.ob⟩) rfl]; exact h, rfl, kill_at _ _ _⟩
    · simp at h
  case alc key cs =>
    split at h
    · rename_i hf
      simp only [Option.some.injEq, Prod.mk.injEq] at h
      obtain ⟨rfl, rfl⟩ := h
      rw [if_pos (free_less R hf)]; rfl
    · simp at h
  case box key x =>
    rw [hx x (by simp [Act.xs])]
    split at h
    · rename_i a ha
      split at h
      · rename_i cs hcs
        split at h
        · rename_i hf
          simp only [Option.some.injEq, Prod.mk.injEq] at h
          obtain ⟨rfl, rfl⟩ := h
          simp only [cells_local (s := s) (t := ⟨dels R s.fr, s.ob⟩) rfl, hcs]
          rw [if_pos (free_less R hf)]; rfl
        · simp at h
      · simp at h
    · simp at h
  case bldA zero ps =>
    rw [partsA_local (s := s) (t := ⟨dels R s.fr, s.ob⟩) rfl hx]
    split at h
    · rename_i xs hps
      simp only [Option.map_eq_some_iff, Prod.mk.injEq] at h ⊢
      obtain ⟨cs, h1, rfl, rfl⟩ := h
      exact ⟨cs, h1, rfl, rfl⟩
    · simp at h
  case bso key sz zero len ps =>
    rw [parts_local (s := s) (t := ⟨dels R s.fr, s.ob⟩) rfl hx]
    split at h
    · rename_i xs ks hps
      split at h
      · rename_i cs hcs
        split at h
        · rename_i hf
          simp only [Option.some.injEq, Prod.mk.injEq] at h
          obtain ⟨rfl, rfl⟩ := h
          simp only [kill_at]
          have hf2 : St.free ⟨dels R s.fr, (kill s ks).ob⟩ key = true := by
            have := free_less R hf
            rw [kill_fr] at this; exact this
          rw [if_pos hf2]; rfl
        · simp at h
      · simp at h
    · simp at h
  case appM key sz bytes x y =>
    rw [hx x (by simp [Act.xs]), hx y (by simp [Act.xs])]
    split at h
    · rename_i a b ha hb
      simp only [src_local (s := s) (t := ⟨dels R s.fr, s.ob⟩) rfl]
      split at h
      · rename_i z zs hsrc
        split at h
        · rename_i hz
          rw [if_pos hz]
          exact appM_less h
        · simp at h
      · simp at h
    · simp at h
  case appR key sz bytes x y =>
    rw [hx x (by simp [Act.xs]), hx y (by simp [Act.xs])]
    split at h
    · rename_i a b ha hb
      simp only [srcA_local (s := s) (t := ⟨dels R s.fr, s.ob⟩) rfl]
      split at h
      · rename_i ky zs hsrc
        split at h
        · simp at h
        · rename_i hky
          rw [if_neg hky]
          exact appZ_less h
      · simp at h
    · simp at h
  case bsoA key sz zero n ps =>
    rw [partsA_local (s := s) (t := ⟨dels R s.fr, s.ob⟩) rfl hx]
    split at h
    · rename_i xs hxs
      split at h
      · rename_i cs hcs
        split at h
        · rename_i hc
          simp only [Option.some.injEq, Prod.mk.injEq] at h
          obtain ⟨rfl, rfl⟩ := h
          simp only [Bool.and_eq_true] at hc
          have hf := free_less R hc.1.1
          simp only [hcs, hf, hc.1.2, hc.2, Bool.and_self, if_true]; rfl
        · simp at h
      · simp at h
    · simp at h
  case app key sz bytes x y =>
    rw [hx x (by simp [Act.xs]), hx y (by simp [Act.xs])]
    split at h
    · rename_i a b ha hb
      simp only [src_local (s := s) (t := ⟨dels R s.fr, s.ob⟩) rfl]
      split at h
      · rename_i z ys hys
        split at h
        · rename_i hz
          rw [if_pos hz]
          exact app_less h
        · simp at h
      · simp at h
    · simp at h
  case mks key bytes z n c =>
    rw [hx n (by simp [Act.xs]), hx c (by simp [Act.xs])]
    split at h
    · rename_i p q hp hq
      split at h
      · rename_i m k hm hk
        split at h
        · rename_i hc
          simp only [Option.some.injEq, Prod.mk.injEq] at h
          obtain ⟨rfl, rfl⟩ := h
          simp only [Bool.and_eq_true] at hc
          simp only [hc.1, hc.2.1, free_less R hc.2.2, Bool.and_self, and_self, if_true]; rfl
        · simp at h
      · simp at h
    · simp at h
  case callC f g n y xs =>
    rw [hx y (by simp [Act.xs]), opds_local (s := s) (t := ⟨dels R s.fr, s.ob⟩) (xs := xs) fun z hz => hx z (by simp [Act.xs, hz])]
    split at h
    · rename_i g' cs vs hy hvs
      split at h
      · rename_i hcnd
        rw [if_pos hcnd]
        split at h
        · simp at h
        · rename_i rs ob' hpt
          have hl : (vs ++ cs).length ≤ GB := by rw [List.length_append]; omega
          have hR : ∀ r ∈ R.map (GB + ·), GB ≤ r := fun r hr => by
            obtain ⟨i, _, rfl⟩ := List.mem_map.1 hr; omega
          have := hΓ f _ rs ob' (R.map (GB + ·)) hR hpt
          simp only [dels_args (vs ++ cs) hl _ _ hR, ← gho_dels] at this
          simp only [Option.map_eq_some_iff, Prod.mk.injEq] at h
          obtain ⟨u, h1, rfl, rfl⟩ := h
          simp only [this, h1]; rfl
      · simp at h
    · simp at h
  case callP g xs =>
    rw [opds_local (s := s) (t := ⟨dels R s.fr, s.ob⟩) (xs := xs) hx]
    split at h
    · simp at h
    · rename_i vs hvs
      split at h
      · simp at h
      · rename_i rs ob' hpt
        have hl : vs.length ≤ GB := by rw [opds_len hvs]; exact hn
        have hR : ∀ r ∈ R.map (GB + ·), GB ≤ r := fun r hr => by
          obtain ⟨i, _, rfl⟩ := List.mem_map.1 hr; omega
        have := hΓ g _ rs ob' (R.map (GB + ·)) hR hpt
        simp only [dels_args vs hl _ _ hR, ← gho_dels] at this
        simp only [Option.map_eq_some_iff, Prod.mk.injEq] at h
        obtain ⟨u, h1, rfl, rfl⟩ := h
        simp only [this, h1]; rfl
  case callQ g xs =>
    rw [opds_local (s := s) (t := ⟨dels R s.fr, s.ob⟩) (xs := xs) hx]
    split at h
    · simp at h
    · rename_i vs hvs
      split at h
      · simp at h
      · rename_i rs ob' hpt
        have hl : vs.length ≤ GB := by rw [opds_len hvs]; exact hn
        have hR : ∀ r ∈ R.map (GB + ·), GB ≤ r := fun r hr => by
          obtain ⟨i, _, rfl⟩ := List.mem_map.1 hr; omega
        have := hΓ g _ rs ob' (R.map (GB + ·)) hR hpt
        simp only [dels_args vs hl _ _ hR, ← gho_dels] at this
        split at h
        · rename_i hq
          simp only [Option.map_eq_some_iff, Prod.mk.injEq] at h
          obtain ⟨u, h1, rfl, rfl⟩ := h
          simp only [this, h1, hq, if_true]; rfl
        · simp at h
  case ustr ty x n =>
    rw [hx x (by simp [Act.xs]), hx n (by simp [Act.xs])]
    split at h
    · split at h
      · rename_i hm
        simp only [Option.some.injEq, Prod.mk.injEq] at h
        obtain ⟨rfl, rfl⟩ := h
        rw [if_pos hm]
      · simp at h
    · split at h
      · rename_i o ho
        split at h
        · rename_i rows hrows
          split at h
          · rename_i hc
            simp only [Option.some.injEq, Prod.mk.injEq] at h
            obtain ⟨rfl, rfl⟩ := h
            rw [if_pos hc]
          · simp at h
        · simp at h
      · simp at h
    · simp at h
  case mmk key =>
    split at h
    · rename_i hf
      simp only [Option.some.injEq, Prod.mk.injEq] at h
      obtain ⟨rfl, rfl⟩ := h
      rw [if_pos (free_less R hf)]; rfl
    · simp at h
  case mset ks x i y =>
    rw [hx x (by simp [Act.xs]), hx i (by simp [Act.xs]), hx y (by simp [Act.xs])]
    split at h
    · rename_i key k u h1 h2 h3
      split at h
      · rename_i o ho
        try simp only [ho]
        split at h
        · rename_i hk
          rw [if_pos hk]
          simp only [Option.map_eq_some_iff, Prod.mk.injEq] at h ⊢
          obtain ⟨s2, h, rfl, rfl⟩ := h
          exact ⟨_, mupd_less h, rfl, rfl⟩
        · simp at h
      · simp at h
    · simp at h
  case ment ks zero x i =>
    rw [hx x (by simp [Act.xs]), hx i (by simp [Act.xs])]
    split at h
    · rename_i key k h1 h2
      split at h
      · rename_i o ho
        try simp only [ho]
        split at h
        · rename_i hk
          rw [if_pos hk]
          split at h
          · split at h
            · simp only [Option.some.injEq, Prod.mk.injEq] at h
              obtain ⟨rfl, rfl⟩ := h
              simp_all
            · simp at h
          · split at h
            · simp only [Option.some.injEq, Prod.mk.injEq] at h
              obtain ⟨rfl, rfl⟩ := h
              simp_all [St.obj]
            · simp at h
          · simp at h
        · simp at h
      · simp at h
    · simp at h
  case mest x i y =>
    rw [hx x (by simp [Act.xs]), hx i (by simp [Act.xs]), hx y (by simp [Act.xs])]
    split at h
    · rename_i key n u h1 h2 h3
      split at h
      · rename_i o ho
        try simp only [ho]
        split at h
        · rename_i j hj
          try simp only [hj]
          split at h
          · rename_i st k w hw
            try simp only [hw]
            simp only [Option.some.injEq, Prod.mk.injEq] at h
            obtain ⟨rfl, rfl⟩ := h
            rfl
          · simp at h
        · simp at h
      · simp at h
    · simp at h
  case mdel ks x i =>
    rw [hx x (by simp [Act.xs]), hx i (by simp [Act.xs])]
    split at h
    · split at h
      · rename_i hk
        rw [if_pos hk]
        simp only [Option.some.injEq, Prod.mk.injEq] at h
        obtain ⟨rfl, rfl⟩ := h
        rfl
      · simp at h
    · rename_i key k h1 h2
      split at h
      · rename_i o ho
        try simp only [ho]
        split at h
        · rename_i hk
          rw [if_pos hk]
          split at h
          · rename_i hf
            try simp only [hf]
            simp only [Option.some.injEq, Prod.mk.injEq] at h
            obtain ⟨rfl, rfl⟩ := h
            rfl
          · rename_i hf
            try simp only [hf]
            simp only [Option.some.injEq, Prod.mk.injEq] at h
            obtain ⟨rfl, rfl⟩ := h
            rfl
          · simp at h
        · simp at h
      · simp at h
    · simp at h
  case rng key x =>
    rw [hx x (by simp [Act.xs])]
    split at h
    · split at h
      · rename_i hf
        simp only [Option.some.injEq, Prod.mk.injEq] at h
        obtain ⟨rfl, rfl⟩ := h
        rw [if_pos (free_less R hf)]; rfl
      · simp at h
    · split at h
      · rename_i o ho
        try simp only [ho]
        split at h
        · rename_i hf
          simp only [Option.some.injEq, Prod.mk.injEq] at h
          obtain ⟨rfl, rfl⟩ := h
          rw [if_pos (free_less R hf)]; rfl
        · simp at h
      · simp at h
    · simp at h
  case ent x =>
    rw [hx x (by simp [Act.xs])]
    repeat' split at h
    all_goals simp_all
theorem act_bare {Γ : Env} {A : Act} {f : List (Nat × AV)} {ob ob' : List (Nat × Obj)} {v : AV} (hs : A.bare = true) (h : act Γ ⟨f, ob⟩ A = some (v, ⟨f, ob⟩)) : act Γ ⟨f, ob'⟩ A = some (v, ⟨f, ob'⟩) := by
  have e : ∀ x, St.opd ⟨f, ob'⟩ x = St.opd ⟨f, ob⟩ x := fun x => by cases x <;> rfl
  have e2 : ∀ xs, St.opds ⟨f, ob'⟩ xs = St.opds ⟨f, ob⟩ xs := fun xs => by
    induction xs with
    | nil => rfl
    | cons x xs ih => simp only [St.opds, e, ih]
  have e3 : ∀ x, St.opdO ⟨f, ob'⟩ x = St.opdO ⟨f, ob⟩ x := fun x => by
    cases x with
    | none => rfl
    | some y => simp only [St.opdO, e]
  cases A <;> simp only [Act.bare, Bool.false_eq_true] at hs <;> simp only [act, e, e2, e3] at h ⊢ <;> (repeat' split at h) <;> simp_all
/-! ### The check -/
def binding (o : Oper) (j : Nat) : Bool := o.after.any fun e => Region.binds .any e && e.on == j
def chkSrc (o : Oper) (slots : List Nat) : Nat → List DIt → Bool
  | _, [] => true
  | j, y :: ys => (y.d.toList.all fun i => !slots.contains i || binding o j) && chkSrc o slots (j + 1) ys
def noName : Opd → Bool
  | .t _ => true
  | .k (.c _) => true
  | .k (.agg _) => true
  | .k (.nil _) => true
  | .k (.ot _) => true
  | _ => false
/-- What the model's operation is to be: as it stands; of a new object, with what it holds. -/
def chkIt (P : Program) (nm : Nat → Option Nat) (es : List (Nat × Nat × List AV)) (fs : List Eff) (o : Oper) (x : DIt) : Bool :=
  if x.a.quq then chkActG P nm o x.a && x.a.xs.all noName && x.slots.all (fun i => es.all fun e => e.2.1 != i) && x.d.toList.all (fun i => es.all fun e => e.2.1 != i) && (!x.a.isQ || es.isEmpty && fs.all (fun f => f.2.2.1.gen) && decide (x.a.xs.length ≤ GB))
  else match x.a with
    | .alc key _ => x.g.isNone && (match get es key with | some (d, cs) => x.d == some d && chkActG P nm o (.alc key cs) | none => false)
    | _ => false
def isAlc (key : Nat) (x : DIt) : Bool := match x.a with | .alc k _ => k == key | _ => false
def chkEs (q : List DIt) : List (Nat × Nat × List AV) → Bool
  | [] => true
  | (key, d, _) :: r => q.any (isAlc key) && r.all (fun e => e.2.1 != d) && chkEs q r
/-- An operation that turns something. -/
def chkEf (P : Program) (nm : Nat → Option Nat) (q r : List DIt) (k : Nat) (o : Oper) (x : DIt) (d : Option Nat) (A : Act) : Bool :=
  (x.g.isNone || A.gen) && x.d == d && chkActG P nm o A && A.xs.all noName && ((slotsOf A.xs).all fun i => !(DIt.dsts (x :: r)).contains i) && chkSrc o (slotsOf A.xs) 0 (q.take k) && q.all (fun y => !y.a.quq || d.toList.all fun i => !y.slots.contains i) && decide (A.xs.length ≤ GB)
def chkQ (P : Program) (nm : Nat → Option Nat) (N : Nat) (ops : Array Oper) (es : List (Nat × Nat × List AV)) (fs : List Eff) (q : List DIt) : Nat → List DIt → Bool
  | _, [] => true
  | k, x :: r => (match ops[k]? with
    | some o => guardOk ops x.g o && o.dst == x.d && dstOk N [] x.d && (match x.a with
      | .frz _ => (match get fs k with | some (d, A, _) => chkEf P nm q r k o x d A | none => false)
      | _ => chkIt P nm es fs o x) && (x.slots.all fun i => !(DIt.dsts (x :: r)).contains i) && (x.d.toList.all fun i => !(DIt.dsts r).contains i) && chkSrc o x.slots 0 (q.take k)
    | none => false) && chkQ P nm N ops es fs q (k + 1) r
def bindAt (ops : Array Oper) (k i : Nat) : Bool := match ops[k]? with | some o => binding o i | none => false
/-- What is done ahead of an operation, in any order. -/
def chkAnc (ops : Array Oper) (j : Nat) (anc : List Nat) : Bool := anc.all fun i => bindAt ops j i || anc.any fun m => decide (i < m) && bindAt ops m i
def chkLate (anc ls : List Nat) : Nat → List DIt → Bool
  | _, [] => true
  | i, x :: r => (!x.a.quq || x.a.bare || anc.contains i || x.slots.all fun t => ls.contains t) && chkLate anc ls (i + 1) r
def chkLateQ (anc ls : List Nat) : Nat → List DIt → Bool
  | _, [] => true
  | i, x :: r => (!x.a.quq || x.a.bare || anc.contains i || ls.contains i) && chkLateQ anc ls (i + 1) r
def isEf (q : List DIt) (j : Nat) : Bool := match q[j]? with | some x => (match x.a with | .frz _ => true | _ => false) | none => false
def chkFsN (ops : Array Oper) (q : List DIt) : List Eff → Bool
  | [] => true
  | (j, _, A, ls, anc) :: r => isEf q j && chkAnc ops j anc && (if A.gen then chkLateQ anc ls 0 q else chkLate anc ls 0 q) && r.all (fun f => f.1 != j) && chkFsN ops q r
def chkPrev : Option Nat → List Eff → Bool
  | _, [] => true
  | p, (j, _, _, _, anc) :: r => (match p with | some i => anc.contains i | none => true) && chkPrev (some j) r
def chkBack (ops : Array Oper) : Bool := (List.range ops.size).all fun i => match ops[i]? with
  | some o => o.after.all fun e => !Region.binds .any e || decide (e.on < i)
  | none => false
def chkTail (ops : Array Oper) (m : Nat) : Bool := (List.range ops.size).all fun i => decide (i < m) || if i = m then chkAnc ops m (List.range m) else bindAt ops i (i - 1)
def chkDraw (P : Program) (nm : Nat → Option Nat) (N : Nat) (q : List DIt) (es : List (Nat × Nat × List AV)) (fs : List Eff) (t : AI) (ops : Array Oper) : Bool :=
  chkQ P nm N ops es fs q 0 q && chkEs q es && (chkFsN ops q fs && chkPrev none fs) && decide (q.length ≤ ops.size) && chkBack ops && chkTail ops q.length && (match chkAI P nm N ops t none [] [] (ops.toList.drop q.length) with | some [] => true | _ => false)

section
variable {P : Program} {ops : Array Oper} {Q : Exit → Go.Act → World → Prop}
theorem binding_listed {o : Oper} {j k : Nat} {listed : Array Bool} (hb : binding o j = true) (ho : ops[k]? = some o) (hk : k ∈ Region.ready .any ops listed) : listed.getD j false = true := by
  obtain ⟨_, o', ho', he⟩ := mem_ready.1 hk
  rw [ho] at ho'; simp only [Option.some.injEq] at ho'; subst ho'
  simp only [binding, Array.any_eq_true'] at hb
  obtain ⟨e, hem, hbe⟩ := hb
  simp only [Bool.and_eq_true, beq_iff_eq] at hbe
  obtain ⟨hbe, rfl⟩ := hbe
  exact he e hem hbe
theorem back_lt (hb : chkBack ops = true) {k : Nat} {o : Oper} (ho : ops[k]? = some o) : ∀ e ∈ o.after, Region.binds .any e = true → e.on < k := by
  intro e he hbe
  have hk : k < ops.size := (Array.getElem?_eq_some_iff.1 ho).1
  have := List.all_eq_true.1 hb k (List.mem_range.2 hk)
  rw [ho] at this
  simp only [Array.all_eq_true_iff_forall_mem, Bool.or_eq_true, Bool.not_eq_true', decide_eq_true_eq] at this
  rcases this e he with h | h
  · rw [hbe] at h; simp at h
  · exact h
theorem tail_next {m : Nat} (ht : chkTail ops m = true) {k : Nat} {o : Oper} (ho : ops[k]? = some o) (hk : m < k) : binding o (k - 1) = true := by
  have hk2 : k < ops.size := (Array.getElem?_eq_some_iff.1 ho).1
  have := List.all_eq_true.1 ht k (List.mem_range.2 hk2)
  simp only [Bool.or_eq_true, decide_eq_true_eq] at this
  rcases this with h | h
  · omega
  · rw [if_neg (by omega)] at h
    simpa only [bindAt, ho] using h
theorem tail_first {m : Nat} (ht : chkTail ops m = true) (hm : m < ops.size) : chkAnc ops m (List.range m) = true := by
  have := List.all_eq_true.1 ht m (List.mem_range.2 hm)
  simpa using this
/-- The operations at the end, one by one. -/
theorem tail_sound {m : Nat} (hb : chkBack ops = true) (ht : chkTail ops m = true) : ∀ (fuel k : Nat) (listed : Array Bool) (a : Go.Act) (w : World), m ≤ k → ops.size ≤ k + fuel → listed.size = ops.size → (∀ j, j < ops.size → listed.getD j false = decide (j < k)) →
    wpList P ops Q (ops.toList.drop k) a w → wpAny P .any ops Q fuel listed a w := by
  intro fuel
  have rdy : ∀ (k : Nat) (listed : Array Bool), m ≤ k → listed.size = ops.size → (∀ j, j < ops.size → listed.getD j false = decide (j < k)) → ∀ i, i ∈ Region.ready .any ops listed → i = k ∧ k < ops.size := by
    intro k listed hmk hsz hl i hi
    obtain ⟨h0, o, ho, _⟩ := mem_ready.1 hi
    have hio : i < ops.size := (Array.getElem?_eq_some_iff.1 ho).1
    have h0' : listed.getD i false = false := by
      rw [Array.getD_eq_getD_getElem?] at h0 ⊢
      rw [Array.getElem?_eq_getElem (by omega)] at h0 ⊢
      simpa using h0
    rw [hl i hio] at h0'
    have hki : k ≤ i := by simpa using h0'
    rcases Nat.lt_or_ge k i with h | h
    · have := binding_listed (tail_next ht ho (by omega)) ho hi
      rw [hl (i - 1) (by omega)] at this
      simp only [decide_eq_true_eq] at this; omega
    · exact ⟨by omega, by omega⟩
  induction fuel with
  | zero =>
    intro k listed a w hmk hkf hsz hl h
    refine ⟨?_, ?_⟩
    · cases hr : Region.ready .any ops listed with
      | nil => rfl
      | cons i r =>
        have := rdy k listed hmk hsz hl i (by rw [hr]; simp)
        omega
    · rw [List.drop_eq_nil_of_le (by simp; omega)] at h
      exact h
  | succ fuel ih =>
    intro k listed a w hmk hkf hsz hl h
    refine ⟨fun hr => ?_, fun i hi => ?_⟩
    · rcases Nat.lt_or_ge k ops.size with hk | hk
      case inr =>
        rw [List.drop_eq_nil_of_le (by simpa using hk)] at h
        exact h
      have : k ∈ Region.ready .any ops listed := by
        refine mem_ready.2 ⟨?_, ops[k], Array.getElem?_eq_getElem hk, fun e he hbe => ?_⟩
        · have := hl k hk
          rw [Array.getD_eq_getD_getElem?, Array.getElem?_eq_getElem (by omega)] at this ⊢
          simpa using this
        · have := back_lt hb (Array.getElem?_eq_getElem hk) e he hbe
          rw [hl e.on (by omega)]; simpa using this
      rw [hr] at this; simp at this
    · obtain ⟨rfl, hk⟩ := rdy k listed hmk hsz hl i hi
      have ho : ops[i]? = some ops[i] := Array.getElem?_eq_getElem hk
      rw [List.drop_eq_getElem_cons (by simpa using hk)] at h
      simp only [Array.getElem_toList, wpList] at h
      have next : ∀ a w, wpList P ops Q (ops.toList.drop (i + 1)) a w → wpAny P .any ops Q fuel (listed.setIfInBounds i true) a w := fun a w h => by
        refine ih (i + 1) _ a w (by omega) (by omega) (by simpa using hsz) (fun j hj => ?_) h
        by_cases hij : i = j
        · subst hij
          simp [Array.getD_eq_getD_getElem?, show i < listed.size by omega]
        · rw [getD_set_ne _ hij, hl j hj]
          simp; omega
      unfold wpOp
      simp only [ho]
      split
      · rename_i hw
        simp only [hw, if_true] at h
        exact h.imp (Oper.wp_mono next) id
      · rename_i hw
        simp only [hw, Bool.false_eq_true, if_false] at h
        exact next _ _ h
end

/-- The slots of operations that are not done yet. -/
def unl (listed : Array Bool) : Nat → List DIt → List Nat
  | _, [] => []
  | k, x :: r => (if listed.getD k false then [] else x.d.toList) ++ unl listed (k + 1) r
theorem mem_unl {listed : Array Bool} {i : Nat} : ∀ {q : List DIt} {k : Nat}, i ∈ unl listed k q ↔ ∃ (j : Nat) (x : DIt), q[j]? = some x ∧ listed.getD (k + j) false = false ∧ x.d = some i
  | [], k => by simp [unl]
  | x :: r, k => by
    simp only [unl, List.mem_append, mem_unl (q := r) (k := k + 1)]
    constructor
    · rintro (h | ⟨j, y, h1, h2, h3⟩)
      · split at h
        · simp at h
        · rename_i hk
          exact ⟨0, x, rfl, by simpa using hk, by simpa using h⟩
      · exact ⟨j + 1, y, by simpa using h1, by rw [← h2]; congr 1; omega, h3⟩
    · rintro ⟨j, y, h1, h2, h3⟩
      cases j with
      | zero =>
        simp at h1; subst h1
        left
        simp at h2
        rw [if_neg (by simp [h2])]
        simp [h3]
      | succ j => exact .inr ⟨j, y, by simpa using h1, by rw [← h2]; congr 1; omega, h3⟩
theorem mem_dsts {i : Nat} : ∀ {q : List DIt}, i ∈ DIt.dsts q ↔ ∃ (j : Nat) (x : DIt), q[j]? = some x ∧ x.d = some i
  | [] => by simp [DIt.dsts]
  | x :: r => by
    simp only [DIt.dsts, List.mem_append, mem_dsts (q := r)]
    constructor
    · rintro (h | ⟨j, y, h1, h2⟩)
      · exact ⟨0, x, rfl, by simpa using h⟩
      · exact ⟨j + 1, y, by simpa using h1, h2⟩
    · rintro ⟨j, y, h1, h2⟩
      cases j with
      | zero => simp at h1; subst h1; left; simp [h2]
      | succ j => exact .inr ⟨j, y, by simpa using h1, h2⟩

/-- The text's order: state by state. -/
theorem quq_ob {Γ : Env} {s : St} {A : Act} {v : AV} {s' : St} (hq : A.quq = true) (h : act Γ s A = some (v, s')) (hl : s'.ob.length = s.ob.length) : s'.ob = s.ob := by
  cases hA : A.quiet with
  | true => exact quiet_ob hA h hl
  | false =>
    simp only [Act.quq, hA, Bool.false_or] at hq
    cases A <;> simp only [Act.isQ, Bool.false_eq_true] at hq
    simp only [act] at h
    split at h
    · simp at h
    · split at h
      · simp at h
      · split at h
        · simp only [Option.map_eq_some_iff, Prod.mk.injEq] at h
          obtain ⟨_, _, _, rfl⟩ := h; rfl
        · simp at h
theorem evq_step {Γ : Env} {x : DIt} {r : List DIt} {s s' : St} (h : evq Γ (x :: r) s = some s') :
    (x.a.quq = false ∧ evq Γ r s = some s') ∨ (x.a.quq = true ∧ met s x.g = some false ∧ evq Γ r (s.put x.d (.tup [])) = some s') ∨ ∃ v s1, met s x.g = some true ∧ act Γ s x.a = some (v, s1) ∧ x.a.quq = true ∧ s1.ob = s.ob ∧ evq Γ r (s.put x.d v) = some s' := by
  simp only [evq] at h
  split at h
  · exact .inl ⟨‹_›, h⟩
  · rename_i hq
    split at h
    · simp at h
    · exact .inr (.inl ⟨hq, ‹_›, h⟩)
    · split at h
      · rename_i v s1 h1
        split at h
        · rename_i hl
          exact .inr (.inr ⟨v, s1, ‹_›, h1, hq, quq_ob hq h1 hl, h⟩)
        · simp at h
      · simp at h
theorem put_ob (s : St) (d : Option Nat) (v : AV) : (s.put d v).ob = s.ob := by cases d <;> rfl
theorem get_put (s : St) (d : Option Nat) (v : AV) (i : Nat) : get (s.put d v).fr i = if d = some i then some v else get s.fr i := by
  cases d with
  | none => simp [St.put]
  | some j => simp only [St.put, get_cons, Option.some.injEq]
theorem evq_keep {Γ : Env} : ∀ {q : List DIt} {s s' : St}, evq Γ q s = some s' → s'.ob = s.ob ∧ ∀ i, i ∉ DIt.dsts q → get s'.fr i = get s.fr i
  | [], s, s', h => by simp only [evq, Option.some.injEq] at h; subst h; exact ⟨rfl, fun _ _ => rfl⟩
  | x :: r, s, s', h => by
    have key : ∀ v, evq Γ r (s.put x.d v) = some s' → s'.ob = s.ob ∧ ∀ i, i ∉ DIt.dsts (x :: r) → get s'.fr i = get s.fr i := fun v h => by
      obtain ⟨h1, h2⟩ := evq_keep h
      refine ⟨by rw [h1, put_ob], fun i hi => ?_⟩
      simp only [DIt.dsts, List.mem_append, not_or] at hi
      rw [h2 i hi.2, get_put, if_neg (by intro hd; exact hi.1 (by simp [hd]))]
    rcases evq_step h with ⟨_, h⟩ | ⟨_, _, h⟩ | ⟨v, s1, _, _, _, _, h⟩
    · obtain ⟨h1, h2⟩ := evq_keep h
      exact ⟨h1, fun i hi => h2 i fun hd => hi (by simp only [DIt.dsts, List.mem_append]; exact .inr hd)⟩
    · exact key _ h
    · exact key _ h
theorem evq_at {Γ : Env} : ∀ {q : List DIt} {s s' : St} (k : Nat), evq Γ q s = some s' → ∃ sk, evq Γ (q.drop k) sk = some s' ∧ sk.ob = s.ob
  | q, s, s', 0, h => ⟨s, h, rfl⟩
  | [], s, s', k + 1, h => ⟨s, h, rfl⟩
  | x :: r, s, s', k + 1, h => by
    rcases evq_step h with ⟨_, h⟩ | ⟨_, _, h⟩ | ⟨v, s1, _, _, _, _, h⟩
    · exact evq_at k h
    · obtain ⟨sk, h1, h2⟩ := evq_at k h
      exact ⟨sk, h1, by rw [h2, put_ob]⟩
    · obtain ⟨sk, h1, h2⟩ := evq_at k h
      exact ⟨sk, h1, by rw [h2, put_ob]⟩
theorem chkQ_at {P : Program} {nm : Nat → Option Nat} {N : Nat} {ops : Array Oper} {es : List (Nat × Nat × List AV)} {fs : List Eff} {q : List DIt} : ∀ {r : List DIt} {k : Nat}, chkQ P nm N ops es fs q k r = true → ∀ {j : Nat} {x : DIt}, r[j]? = some x →
    ∃ o, ops[k + j]? = some o ∧ guardOk ops x.g o = true ∧ o.dst = x.d ∧ dstOk N [] x.d = true ∧ (match x.a with
      | .frz _ => (match get fs (k + j) with | some (d, A, _) => chkEf P nm q (r.drop (j + 1)) (k + j) o x d A | none => false)
      | _ => chkIt P nm es fs o x) = true ∧ (∀ i ∈ x.slots, i ∉ DIt.dsts (r.drop j)) ∧ (∀ i, x.d = some i → i ∉ DIt.dsts (r.drop (j + 1))) ∧ chkSrc o x.slots 0 (q.take (k + j)) = true
  | [], k, _, j, x, hx => by simp at hx
  | y :: r, k, h, j, x, hx => by
    simp only [chkQ, Bool.and_eq_true] at h
    obtain ⟨h1, h2⟩ := h
    cases j with
    | zero =>
      simp at hx; subst hx
      split at h1
      · rename_i o ho
        simp only [Bool.and_eq_true, beq_iff_eq, List.all_eq_true, Bool.not_eq_true', List.contains_eq_mem, decide_eq_false_iff_not] at h1
        obtain ⟨⟨⟨⟨⟨⟨a1, a2⟩, a3⟩, a4⟩, a5⟩, a6⟩, a7⟩ := h1
        exact ⟨o, ho, a1, a2, a3, a4, a5, fun i hi => a6 i (by simp [hi]), a7⟩
      · simp at h1
    | succ j =>
      obtain ⟨o, ho, h3⟩ := chkQ_at h2 (j := j) (x := x) (by simpa using hx)
      refine ⟨o, by rw [← ho]; congr 1; omega, ?_⟩
      rw [show k + (j + 1) = k + 1 + j by omega]
      simpa using h3
theorem chkSrc_at {o : Oper} {slots : List Nat} : ∀ {q : List DIt} {k : Nat}, chkSrc o slots k q = true → ∀ {j i : Nat} {y : DIt}, q[j]? = some y → y.d = some i → i ∈ slots → binding o (k + j) = true
  | [], k, _, j, i, y, hy, _, _ => by simp at hy
  | z :: q, k, h, j, i, y, hy, hd, hi => by
    simp only [chkSrc, Bool.and_eq_true] at h
    cases j with
    | zero =>
      simp at hy; subst hy
      have := h.1
      simp only [hd, Option.toList_some, List.all_cons, List.all_nil, Bool.and_true, Bool.or_eq_true, Bool.not_eq_true', List.contains_eq_mem, decide_eq_false_iff_not] at this
      exact this.resolve_left (by simpa using hi)
    | succ j =>
      have := chkSrc_at h.2 (j := j) (by simpa using hy) hd hi
      rw [← this]; congr 1; omega

theorem Rel.weaken {γ : Array Value} {B : Nat} {F0 : Facts} {w0 w : World} {N : Nat} {s s' : St} {a : Go.Act} (hr : Rel γ B F0 w0 N s a w) (hob : s'.ob = s.ob) (h : ∀ i v, get s'.fr i = some v → get s.fr i = some v) : Rel γ B F0 w0 N s' a w := by
  obtain ⟨hG, F, ρ, hm, hf, he, hN, hdf⟩ := hr
  exact ⟨hG, F, ρ, by rw [hob]; exact hm, fun i v hi => by rw [hob]; exact hf i v (h i v hi), he, hN, hdf⟩
theorem Rel.drew {γ : Array Value} {B : Nat} {F0 : Facts} {w0 w : World} {N : Nat} {s : St} {a : Go.Act} (hr : Rel γ B F0 w0 N s a w) : Rel γ B F0 w0 N s a { w with drawn := w.drawn + 1 } := by
  obtain ⟨hG, F, ρ, hm, hf, he, hN, hdf⟩ := hr
  exact ⟨hG, F, ρ, ⟨⟨hm.facts.at_, hm.facts.glob⟩, hm.big, hm.bare, hm.own, hm.apart, hm.inj⟩, hf, ⟨he.le, he.below.drew, he.new⟩, hN, hdf⟩
/-- A test that is met or not, in the model. -/
theorem met_wanted {ops : Array Oper} {g : Option (Nat × Bool)} {o : Oper} {s : St} {a : Go.Act} {γ : Array Value} {F : Facts} {ρ : Map} {b : Bool} (hg : guardOk ops g o = true) (hM : met s g = some b) (hf : FrG γ F ρ s.ob s.fr a) : Region.wanted o (yielded ops a.tmps) = b := by
  unfold guardOk at hg
  split at hg
  · rename_i h
    simp only [met, Option.some.injEq] at hM; subst hM
    simp [Region.wanted, h]
  · rename_i t want j want' h
    simp only [Bool.and_eq_true, beq_iff_eq, decide_eq_true_eq] at hg
    obtain ⟨⟨rfl, hj⟩, htG⟩ := hg
    simp only [met] at hM
    split at hM
    · rename_i c ht
      simp only [Option.some.injEq] at hM; subst hM
      have hv := DR.bool_ (hf t _ ht)
      rw [valG, if_pos htG] at hv
      have : a.tmps[t]? = some (.bool c) := by
        rw [Array.getD_eq_getD_getElem?] at hv
        cases hx : a.tmps[t]? with
        | none => rw [hx] at hv; simp [undef] at hv
        | some y => rw [hx] at hv; simp at hv; rw [hv]
      simp only [Region.wanted, h, yielded, hj, Option.bind_some, this]
      cases c <;> cases want <;> rfl
    · rename_i ht
      simp only [Option.some.injEq] at hM; subst hM
      obtain ⟨us, hu, hall⟩ := hf t _ ht
      rw [valG, if_pos htG] at hu
      cases hall
      have : yielded ops a.tmps j = none := by
        simp only [yielded, hj, Option.bind_some]
        rw [Array.getD_eq_getD_getElem?] at hu
        cases hx : a.tmps[t]? with
        | none => rfl
        | some y => rw [hx] at hu; simp at hu; rw [hu]
      simp only [Region.wanted, h, this]
      cases want <;> rfl
    · simp at hM
  · simp at hg

/-! ### New objects -/
theorem evA_spec : ∀ {es : List (Nat × Nat × List AV)} {s s' : St}, evA es s = some s' →
    (∀ j, get es j = none → get s'.ob j = get s.ob j) ∧ (∀ key d cs, get es key = some (d, cs) → get s'.ob key = some ⟨cs.length, [cs]⟩ ∧ get s.ob key = none) ∧ (∀ i, (es.all fun e => e.2.1 != i) = true → get s'.fr i = get s.fr i)
  | [], s, s', h => by
    simp only [evA, Option.some.injEq] at h; subst h
    exact ⟨fun _ _ => rfl, fun _ _ _ h => by simp [get] at h, fun _ _ => rfl⟩
  | (key, d, cs) :: r, s, s', h => by
    simp only [evA] at h
    split at h
    · simp at h
    · rename_i hk
      obtain ⟨h1, h2, h3⟩ := evA_spec h
      refine ⟨fun j hj => ?_, fun key' d' cs' h' => ?_, fun i hi => ?_⟩
      · simp only [get] at hj
        split at hj
        · simp at hj
        · rename_i hne
          rw [h1 j hj, put_ob, get_obj, if_neg hne]
      · simp only [get] at h'
        split at h'
        · rename_i he; subst he
          simp only [Option.some.injEq, Prod.mk.injEq] at h'
          obtain ⟨rfl, rfl⟩ := h'
          refine ⟨?_, hk⟩
          have hn : get r key = none := by
            cases hr : get r key with
            | none => rfl
            | some p =>
              have := (h2 key p.1 p.2 hr).2
              rw [put_ob, get_obj, if_pos rfl] at this; simp at this
          rw [h1 key hn, put_ob, get_obj, if_pos rfl]
        · rename_i hne
          obtain ⟨h4, h5⟩ := h2 _ _ _ h'
          rw [put_ob, get_obj, if_neg hne] at h5
          exact ⟨h4, h5⟩
      · simp only [List.all_cons, Bool.and_eq_true, bne_iff_ne, ne_eq] at hi
        rw [h3 i hi.2, get_put, if_neg (by simpa using hi.1)]; rfl
theorem evA_get : ∀ {es : List (Nat × Nat × List AV)} {s s' : St}, evA es s = some s' → ∀ e ∈ es, get es e.1 = some e.2
  | [], s, s', _, e, he => by simp at he
  | (key, d, cs) :: r, s, s', h, e, he => by
    simp only [evA] at h
    split at h
    · simp at h
    · rename_i hk
      rcases List.mem_cons.1 he with rfl | he
      · simp [get]
      · have h1 := evA_get h e he
        have h2 := ((evA_spec h).2.1 e.1 e.2.1 e.2.2 h1).2
        rw [put_ob, get_obj] at h2
        simp only [get]
        split at h2
        · simp at h2
        · rename_i hne; rw [if_neg hne]; exact h1
theorem evA_slot {q : List DIt} : ∀ {es : List (Nat × Nat × List AV)} {s s' : St}, evA es s = some s' → chkEs q es = true → ∀ key d cs, get es key = some (d, cs) → get s'.fr d = some (.loc key 0 0)
  | [], s, s', h, _, key, d, cs, he => by simp [get] at he
  | (key', d', cs') :: r, s, s', h, hc, key, d, cs, he => by
    simp only [evA] at h
    simp only [chkEs, Bool.and_eq_true] at hc
    split at h
    · simp at h
    · simp only [get] at he
      split at he
      · rename_i hk; subst hk
        simp only [Option.some.injEq, Prod.mk.injEq] at he
        obtain ⟨rfl, rfl⟩ := he
        rw [(evA_spec h).2.2 d' hc.1.2, get_put, if_pos rfl]
      · exact evA_slot h hc.2 key d cs he
theorem okA_spec : ∀ {es : List (Nat × Nat × List AV)} {s : St}, okA es s = true → ∀ key d cs, get es key = some (d, cs) → (∀ p ∈ s.fr, p.1 = d ∨ p.2.names key = false) ∧ (∀ p ∈ s.ob, ∀ r ∈ p.2.rows, ∀ v ∈ r, v.names key = false)
  | [], s, _, key, d, cs, h => by simp [get] at h
  | (key', d', cs') :: r, s, h, key, d, cs, he => by
    simp only [okA, Bool.and_eq_true, List.all_eq_true, Bool.or_eq_true, beq_iff_eq, Bool.not_eq_true'] at h
    obtain ⟨⟨h1, h2⟩, h3⟩ := h
    simp only [get] at he
    split at he
    · rename_i hk; subst hk
      simp only [Option.some.injEq, Prod.mk.injEq] at he
      obtain ⟨rfl, rfl⟩ := he
      exact ⟨h1, h2⟩
    · exact okA_spec h3 key d cs he
theorem chkEs_mem {q : List DIt} : ∀ {es : List (Nat × Nat × List AV)}, chkEs q es = true → ∀ key d cs, get es key = some (d, cs) → ∃ x ∈ q, isAlc key x = true
  | [], _, key, d, cs, h => by simp [get] at h
  | (key', d', cs') :: r, h, key, d, cs, he => by
    simp only [chkEs, Bool.and_eq_true, List.any_eq_true] at h
    simp only [get] at he
    split at he
    · rename_i hk; subst hk; exact h.1.1
    · exact chkEs_mem h.2 key d cs he
/-- The keys of objects that are not made yet. -/
def unk (listed : Array Bool) : Nat → List DIt → List Nat
  | _, [] => []
  | k, x :: r => (if listed.getD k false then [] else match x.a with | .alc key _ => [key] | _ => []) ++ unk listed (k + 1) r
theorem mem_unk {listed : Array Bool} {i : Nat} : ∀ {q : List DIt} {k : Nat}, i ∈ unk listed k q ↔ ∃ (j : Nat) (x : DIt), q[j]? = some x ∧ listed.getD (k + j) false = false ∧ isAlc i x = true
  | [], k => by simp [unk]
  | x :: r, k => by
    have hx : i ∈ (match x.a with | .alc key _ => [key] | _ => []) ↔ isAlc i x = true := by
      unfold isAlc; split <;> simp; exact eq_comm
    simp only [unk, List.mem_append, mem_unk (q := r) (k := k + 1)]
    constructor
    · rintro (h | ⟨j, y, h1, h2, h3⟩)
      · split at h
        · simp at h
        · rename_i hk
          exact ⟨0, x, rfl, by simpa using hk, hx.1 h⟩
      · exact ⟨j + 1, y, by simpa using h1, by rw [← h2]; congr 1; omega, h3⟩
    · rintro ⟨j, y, h1, h2, h3⟩
      cases j with
      | zero =>
        simp at h1; subst h1
        left
        simp at h2
        rw [if_neg (by simp [h2])]
        exact hx.2 h3
      | succ j => exact .inr ⟨j, y, by simpa using h1, by rw [← h2]; congr 1; omega, h3⟩
theorem Mem.sub_ {B : Nat} {F : Facts} {ρ : Map} {ob ob' : List (Nat × Obj)} {w : World} (hm : Mem B F ρ ob w) (hs : ∀ k o, get ob' k = some o → get ob k = some o) : Mem B F ρ ob' w where
  facts := hm.facts
  big := hm.big
  bare := fun k o h => hm.bare k o (hs k o h)
  own := fun k o p h1 h2 => by
    obtain ⟨g1, g2⟩ := hm.own k o p (hs k o h1) h2
    exact ⟨g1, g2.imp fun r hr x hx v hv => hv.sub hs⟩
  apart := fun k o p h1 h2 => hm.apart k o p (hs k o h1) h2
  inj := fun k o p k' o' p' h1 h2 h3 h4 => hm.inj k o p k' o' p' (hs k o h1) h2 (hs k' o' h3) h4
theorem Rel.less {γ : Array Value} {B : Nat} {F0 : Facts} {w0 w : World} {N : Nat} {s s' : St} {a : Go.Act} (hr : Rel γ B F0 w0 N s a w) (hob : ∀ k o, get s'.ob k = some o → get s.ob k = some o) (h : ∀ i v, get s'.fr i = some v → get s.fr i = some v) : Rel γ B F0 w0 N s' a w := by
  obtain ⟨hG, F, ρ, hm, hf, he, hN, hdf⟩ := hr
  exact ⟨hG, F, ρ, hm.sub_ hob, fun i v hi => (hf i v (h i v hi)).sub hob, he, hN, hdf⟩

theorem slot_mem {i : Nat} : ∀ {xs : List Opd}, Opd.t i ∈ xs → i ∈ slotsOf xs
  | [], h => by simp at h
  | .t n :: r, h => by
    simp only [List.mem_cons, Opd.t.injEq] at h
    simp only [slotsOf, List.mem_cons]
    rcases h with rfl | h
    · exact .inl rfl
    · exact .inr (slot_mem h)
  | .k v :: r, h => by
    simp only [List.mem_cons, reduceCtorEq, false_or] at h
    exact slot_mem (xs := r) h

theorem chkEs_dst {q : List DIt} : ∀ {es : List (Nat × Nat × List AV)}, chkEs q es = true → ∀ e ∈ es, ∃ x ∈ q, isAlc e.1 x = true
  | [], _, e, he => by simp at he
  | (key', d', cs') :: r, h, e, he => by
    simp only [chkEs, Bool.and_eq_true, List.any_eq_true] at h
    rcases List.mem_cons.1 he with rfl | he
    · exact h.1.1
    · exact chkEs_dst h.2 e he

theorem act_self {Γ : Env} {A : Act} {s s' : St} {v : AV} {k : Nat} (he : effKey s A = some k) (h : act Γ s A = some (v, s')) : s'.fr = s.fr ∧ ∀ j, j ≠ k → get s'.ob j = get s.ob j := by
  obtain ⟨h1, _, h2⟩ := act_sub he h (t := s) (fun _ _ => rfl) (fun _ h => h) (fun _ h => h) (fun _ _ _ _ _ _ => rfl)
  exact ⟨h1, h2⟩
theorem actG_fr {Γ : Env} {q : List DIt} {f : Eff} {s s1 : St} {v : AV} (h : actG Γ q s f = some (v, s1)) : s1.fr = s.fr := by
  unfold actG at h
  split at h
  · split at h
    · exact act_fr h
    · simp only [Option.some.injEq, Prod.mk.injEq] at h; rw [← h.2]
    · simp at h
  · exact act_fr h
theorem gen_effKey {s : St} {A : Act} {k : Nat} (h : effKey s A = some k) : A.gen = false := by
  cases A <;> simp [effKey] at h <;> rfl
theorem actG_eff {Γ : Env} {q : List DIt} {f : Eff} {s : St} (h : f.2.2.1.gen = false) : actG Γ q s f = act Γ s f.2.2.1 := by
  unfold actG; rw [h]; simp
theorem evF_step {Γ : Env} {q : List DIt} {es : List (Nat × Nat × List AV)} {f : Eff} {r : List Eff} {s s' : St} (h : evF Γ q es (f :: r) s = some s') :
    ∃ v s1, actG Γ q s f = some (v, s1) ∧ s1.fr = s.fr ∧ (okA es s = true → okA es (s1.put f.2.1 v) = true) ∧ evF Γ q es r (s1.put f.2.1 v) = some s' ∧ (∀ r', evF Γ q es (f :: r') s = evF Γ q es r' (s1.put f.2.1 v)) ∧
      ((∃ k, effKey s f.2.2.1 = some k ∧ f.2.2.1.gen = false ∧ (∀ i ∈ f.2.2.2.1, ∀ u, get s.fr i = some u → u.names k = false) ∧ (∀ d' cs, get es k = some (d', cs) → d' ∈ slotsOf f.2.2.1.xs) ∧ ∀ j, j ≠ k → get s1.ob j = get s.ob j) ∨ (es = [] ∧ f.2.2.1.gen = true ∧ lateQ Γ q (s1.put f.2.1 v) f.2.2.2.1 = true)) := by
  obtain ⟨j, d, A, ls, anc⟩ := f
  have h0 := h
  simp only [evF] at h
  split at h
  · rename_i hk
    split at h
    · simp at h
    · rename_i v s1 hact
      split at h
      · rename_i hc
        have hc0 := hc
        simp only [Bool.and_eq_true, List.isEmpty_iff] at hc
        refine ⟨v, s1, hact, actG_fr hact, fun _ => by rw [hc.1.1]; rfl, h, fun r' => ?_, .inr ⟨hc.1.1, hc.1.2, hc.2⟩⟩
        simp only [evF, hk, hact]
        rw [if_pos hc0]
      · simp at h
  · rename_i k hk
    split at h
    · simp at h
    · rename_i v s1 hact
      split at h
      · rename_i hc
        have hc0 := hc
        simp only [effOk, Bool.and_eq_true, List.all_eq_true] at hc
        obtain ⟨g1, g2⟩ := act_self hk hact
        refine ⟨v, s1, by rw [actG_eff (gen_effKey hk)]; exact hact, g1, fun _ => hc.2, h, fun r' => ?_, .inl ⟨k, hk, gen_effKey hk, fun i hi u hu => ?_, fun d' cs hd => ?_, g2⟩⟩
        · simp only [evF, hk, hact]
          rw [if_pos hc0]
        · have := hc.1.1 i hi
          rw [hu] at this
          simpa using this
        · have := hc.1.2
          simpa [hd] using this
      · simp at h
/-- Which objects are turned. -/
def evC (Γ : Env) (q : List DIt) : List Eff → St → Nat → Prop
  | [], _, _ => False
  | f :: r, s, j => match actG Γ q s f with
    | some (v, s') => get s'.ob j ≠ get s.ob j ∨ evC Γ q r (s'.put f.2.1 v) j
    | none => False
theorem evC_cons {Γ : Env} {q : List DIt} {f : Eff} {r : List Eff} {s s1 : St} {v : AV} {j : Nat} (h2 : actG Γ q s f = some (v, s1)) : evC Γ q (f :: r) s j ↔ get s1.ob j ≠ get s.ob j ∨ evC Γ q r (s1.put f.2.1 v) j := by
  simp only [evC, h2]
theorem evF_keep {Γ : Env} {q : List DIt} {es : List (Nat × Nat × List AV)} : ∀ {fs : List Eff} {s s' : St}, evF Γ q es fs s = some s' → (okA es s = true → okA es s' = true) ∧ (∀ j, ¬ evC Γ q fs s j → get s'.ob j = get s.ob j) ∧ (∀ i, (∀ f ∈ fs, f.2.1 ≠ some i) → get s'.fr i = get s.fr i)
  | [], s, s', h => by simp only [evF, Option.some.injEq] at h; subst h; exact ⟨id, fun _ _ => rfl, fun _ _ => rfl⟩
  | f :: r, s, s', h => by
    obtain ⟨v, s1, h2, g1, h5, h6, _, _⟩ := evF_step h
    obtain ⟨k1, k2, k3⟩ := evF_keep h6
    refine ⟨fun h0 => k1 (h5 h0), fun j hj => ?_, fun i hi => ?_⟩
    · rw [evC_cons h2, not_or] at hj
      rw [k2 j hj.2, put_ob]
      exact Classical.byContradiction fun h => hj.1 h
    · rw [k3 i fun f hf => hi f (by simp [hf]), get_put, if_neg (hi f (by simp)), g1]
theorem evF_late {Γ : Env} {q : List DIt} {es : List (Nat × Nat × List AV)} {i : Nat} {v : AV} (hes : es ≠ []) : ∀ {fs : List Eff} {s s' : St}, evF Γ q es fs s = some s' → (∀ f ∈ fs, f.2.2.1.gen = false → i ∈ f.2.2.2.1) → (∀ f ∈ fs, f.2.1 ≠ some i) → get s.fr i = some v → ∀ k, evC Γ q fs s k → v.names k = false
  | [], s, s', h, _, _, _, k, hk => by simp [evC] at hk
  | f :: r, s, s', h, hi, hd, hv, k, hk => by
    obtain ⟨v', s1, h2, g1, h5, h6, _, h7⟩ := evF_step h
    rw [evC_cons h2] at hk
    rcases hk with hk | hk
    · rcases h7 with ⟨k', _, hg, h3, _, h8⟩ | ⟨h7, _⟩
      · by_cases hkk : k = k'
        · subst hkk; exact h3 i (hi f (by simp) hg) v hv
        · exact (hk (h8 k hkk)).elim
      · exact (hes h7).elim
    · exact evF_late hes h6 (fun f hf => hi f (by simp [hf])) (fun f hf => hd f (by simp [hf])) (by rw [get_put, if_neg (hd f (by simp)), g1]; exact hv) k hk
theorem evF_alc {Γ : Env} {q : List DIt} {es : List (Nat × Nat × List AV)} {k d : Nat} {cs : List AV} (he : get es k = some (d, cs)) : ∀ {fs : List Eff} {s s' : St}, evF Γ q es fs s = some s' → evC Γ q fs s k → ∃ f ∈ fs, d ∈ slotsOf f.2.2.1.xs
  | [], s, s', h, hk => by simp [evC] at hk
  | f :: r, s, s', h, hk => by
    obtain ⟨v', s1, h2, g1, h5, h6, _, h7⟩ := evF_step h
    rw [evC_cons h2] at hk
    rcases hk with hk | hk
    · rcases h7 with ⟨k', _, _, _, h4, h8⟩ | ⟨h7, _⟩
      · by_cases hkk : k = k'
        · subst hkk; exact ⟨f, by simp, h4 _ _ he⟩
        · exact (hk (h8 k hkk)).elim
      · subst h7; simp [get] at he
    · obtain ⟨g, hg, h7⟩ := evF_alc he h6 hk
      exact ⟨g, by simp [hg], h7⟩
theorem lateQ_at {Γ : Env} {q : List DIt} {t : St} : ∀ {ls : List Nat}, lateQ Γ q t ls = true → ∀ {j : Nat} {x : DIt}, ∀ {v : AV}, j ∈ ls → q[j]? = some x → met t x.g = some true → (∀ i, x.d = some i → get t.fr i = some v) → ∃ u t', act Γ t x.a = some (u, t') ∧ t'.ob.length = t.ob.length ∧ (∀ i, x.d = some i → u = v)
  | [], _, j, x, v, hj, _, _, _ => by simp at hj
  | j0 :: ls, h, j, x, v, hj, hx, hm, hv => by
    simp only [lateQ, Bool.and_eq_true] at h
    rcases List.mem_cons.1 hj with rfl | hj
    · have h1 := h.1
      rw [hx] at h1
      simp only [lateX, hm, metL] at h1
      unfold okL at h1
      split at h1
      · rename_i u t' hact
        simp only [Bool.and_eq_true, decide_eq_true_eq] at h1
        refine ⟨u, t', hact, h1.1, fun i hi => ?_⟩
        have h2 := h1.2
        simp only [hi, hv i hi] at h2
        exact (eqV_eq _ _ h2).symm
      · simp at h1
    · exact lateQ_at h.2 hj hx hm hv
theorem late0_at {Γ : Env} {s : St} : ∀ {q : List DIt}, late0 Γ s q = true → ∀ {k : Nat} {x : DIt}, q[k]? = some x → x.a.isQ = true → lateX Γ s (some x) = true
  | [], _, k, x, hx, _ => by simp at hx
  | y :: r, h, k, x, hx, hq => by
    simp only [late0, Bool.and_eq_true] at h
    cases k with
    | zero =>
      simp only [List.getElem?_cons_zero, Option.some.injEq] at hx
      subst hx
      have := h.1
      rw [hq] at this
      exact this
    | succ k => exact late0_at h.2 (by simpa using hx) hq
/-- What is read late is as it was: behind each of the operations that turn something. -/
theorem evF_at {Γ : Env} {q : List DIt} {k : Nat} {x : DIt} {v : AV} (hx : q[k]? = some x) (hqq : x.a.quq = true) : ∀ {fs : List Eff} {s s' : St}, evF Γ q [] fs s = some s' → (x.a.quiet = true ∨ ∀ f ∈ fs, f.2.2.1.gen = true) → (∀ f ∈ fs, (if f.2.2.1.gen = true then k ∈ f.2.2.2.1 else ∀ i ∈ x.slots, i ∈ f.2.2.2.1)) → (∀ f ∈ fs, (∀ i ∈ x.slots, f.2.1 ≠ some i) ∧ ∀ i, x.d = some i → f.2.1 ≠ some i) → (∀ y ∈ x.a.xs, noName y = true) →
    met s x.g = some true → (∀ i, x.d = some i → get s.fr i = some v) → (∃ u, act Γ s x.a = some (u, s) ∧ ∀ i, x.d = some i → u = v) → ∃ u, act Γ s' x.a = some (u, s') ∧ ∀ i, x.d = some i → u = v
  | [], s, s', h, _, _, _, _, _, _, hu => by simp only [evF, Option.some.injEq] at h; subst h; exact hu
  | f :: r, s, s', h, hq0, hl, hd, hn, hm, hv, ⟨u, hu, huv⟩ => by
    obtain ⟨v', s1, h2, g1, h5, h6, _, h7⟩ := evF_step h
    obtain ⟨d1, d2⟩ := hd f (by simp)
    have hfr : ∀ i ∈ x.slots, get (s1.put f.2.1 v').fr i = get s.fr i := fun i hi => by rw [get_put, if_neg (d1 i hi), g1]
    have hm' : met (s1.put f.2.1 v') x.g = some true := by
      rw [← hm]
      unfold met
      split
      · rfl
      · rename_i t want hgx
        have := hfr t (by simp [DIt.slots, hgx])
        simp only [this]
    have hv' : ∀ i, x.d = some i → get (s1.put f.2.1 v').fr i = some v := fun i hi => by rw [get_put, if_neg (d2 i hi), g1]; exact hv i hi
    refine evF_at hx hqq h6 (hq0.imp id fun h f hf => h f (by simp [hf])) (fun f hf => hl f (by simp [hf])) (fun f hf => hd f (by simp [hf])) hn hm' hv' ?_
    have hlf := hl f (by simp)
    rcases h7 with ⟨k', _, hg, h3, _, h8⟩ | ⟨_, hg, h3⟩
    · have hq : x.a.quiet = true := by
        rcases hq0 with h | h
        · exact h
        · have := h f (by simp); rw [hg] at this; simp at this
      rw [hg] at hlf
      simp only [Bool.false_eq_true, if_false] at hlf
      have hopd : ∀ y ∈ x.a.xs, St.opd ⟨(s1.put f.2.1 v').fr, s.ob⟩ y = s.opd y := opd_of_slots fun i hi => hfr i (by simp [DIt.slots, hi])
      have a1 := act_local hq hopd hu rfl
      have a2 := act_ob (Γ := Γ) (s := ⟨(s1.put f.2.1 v').fr, s.ob⟩) (K := fun j => j = k') (ob' := (s1.put f.2.1 v').ob) hq (fun j hj => by rw [put_ob]; exact h8 j hj) (fun y hy w hw j hj => by
        subst hj
        cases y with
        | k c =>
          have := hn _ hy
          simp only [St.opd, Option.some.injEq] at hw; subst hw
          cases c <;> simp [noName] at this <;> rfl
        | t i =>
          simp only [St.opd] at hw
          have hin : i ∈ x.slots := by
            simp only [DIt.slots, List.mem_append]
            exact .inl (slot_mem hy)
          rw [hfr i hin] at hw
          exact h3 i (hlf i hin) w hw) a1
      exact ⟨u, a2, huv⟩
    · rw [hg] at hlf
      simp only [if_true] at hlf
      obtain ⟨u', t', a1, a2, a3⟩ := lateQ_at h3 hlf hx hm' hv'
      have := quq_ob hqq a1 a2
      have h9 := act_fr a1
      refine ⟨u', ?_, a3⟩
      rw [a1]
      obtain ⟨tf, to⟩ := t'
      simp only at this h9
      rw [this, h9]
theorem evF_snoc {Γ : Env} {q : List DIt} {es : List (Nat × Nat × List AV)} {f : Eff} {t : St} : ∀ {fs : List Eff} {s σ : St}, evF Γ q es fs s = some σ → evF Γ q es [f] σ = some t → evF Γ q es (fs ++ [f]) s = some t
  | [], s, σ, h, h2 => by simp only [evF, Option.some.injEq] at h; subst h; exact h2
  | g :: r, s, σ, h, h2 => by
    obtain ⟨v, s1, _, _, _, h6, h7, _⟩ := evF_step h
    rw [List.cons_append, h7]
    exact evF_snoc h6 h2
theorem chkFsN_at {ops : Array Oper} {q : List DIt} : ∀ {fs : List Eff}, chkFsN ops q fs = true → ∀ l1 f l2, fs = l1 ++ f :: l2 →
    isEf q f.1 = true ∧ chkAnc ops f.1 f.2.2.2.2 = true ∧ (if f.2.2.1.gen then chkLateQ f.2.2.2.2 f.2.2.2.1 0 q else chkLate f.2.2.2.2 f.2.2.2.1 0 q) = true ∧ (∀ g ∈ l2, g.1 ≠ f.1)
  | [], _, l1, f, l2, h => by simp at h
  | (j, d, A, ls, anc) :: r, hc, l1, f, l2, h => by
    simp only [chkFsN, Bool.and_eq_true] at hc
    obtain ⟨⟨⟨⟨h1, h2⟩, h3⟩, h4⟩, h5⟩ := hc
    cases l1 with
    | nil =>
      simp only [List.nil_append, List.cons.injEq] at h
      obtain ⟨rfl, rfl⟩ := h
      refine ⟨h1, h2, h3, fun g hg => ?_⟩
      simpa using List.all_eq_true.1 h4 g hg
    | cons g l1 =>
      simp only [List.cons_append, List.cons.injEq] at h
      obtain ⟨rfl, rfl⟩ := h
      exact chkFsN_at h5 l1 f l2 rfl
theorem chkPrev_at : ∀ {fs : List Eff} {p : Option Nat}, chkPrev p fs = true → ∀ l1 f l2, fs = l1 ++ f :: l2 → ∀ l g, l1 = l ++ [g] → g.1 ∈ f.2.2.2.2
  | [], p, _, l1, f, l2, h => by simp at h
  | (j, d, A, ls, anc) :: r, p, hc, l1, f, l2, h => by
    simp only [chkPrev, Bool.and_eq_true] at hc
    cases l1 with
    | nil => intro l g hl; simp at hl
    | cons g l1 =>
      simp only [List.cons_append, List.cons.injEq] at h
      obtain ⟨rfl, rfl⟩ := h
      intro l g hl
      cases l1 with
      | nil =>
        cases l with
        | cons x l => simp at hl
        | nil =>
          simp only [List.nil_append, List.cons.injEq, and_true] at hl
          subst hl
          obtain ⟨_, _, _, _, fanc⟩ := f
          simp only [List.nil_append, chkPrev, Bool.and_eq_true, List.contains_eq_mem, decide_eq_true_eq] at hc
          exact hc.2.1
      | cons y l1 =>
        cases l with
        | nil => simp at hl
        | cons x l =>
          simp only [List.cons_append, List.cons.injEq] at hl
          exact chkPrev_at hc.2 (y :: l1) f l2 rfl l g hl.2
theorem chkLate_at {anc ls : List Nat} : ∀ {q : List DIt} {i : Nat}, chkLate anc ls i q = true → ∀ {j : Nat} {x : DIt}, q[j]? = some x → x.a.quq = true → x.a.bare = true ∨ (i + j) ∈ anc ∨ ∀ t ∈ x.slots, t ∈ ls
  | [], i, _, j, x, hx, _ => by simp at hx
  | y :: q, i, h, j, x, hx, hq => by
    simp only [chkLate, Bool.and_eq_true, Bool.or_eq_true, Bool.not_eq_true', List.contains_eq_mem, decide_eq_true_eq, List.all_eq_true] at h
    cases j with
    | zero =>
      simp at hx; subst hx
      rcases h.1 with ((h1 | h1) | h1) | h1
      · rw [hq] at h1; simp at h1
      · exact .inl h1
      · exact .inr (.inl h1)
      · exact .inr (.inr h1)
    | succ j =>
      have := chkLate_at h.2 (j := j) (by simpa using hx) hq
      rw [show i + (j + 1) = i + 1 + j by omega]; exact this
theorem chkLateQ_at {anc ls : List Nat} : ∀ {q : List DIt} {i : Nat}, chkLateQ anc ls i q = true → ∀ {j : Nat} {x : DIt}, q[j]? = some x → x.a.quq = true → x.a.bare = true ∨ (i + j) ∈ anc ∨ (i + j) ∈ ls
  | [], i, _, j, x, hx, _ => by simp at hx
  | y :: q, i, h, j, x, hx, hq => by
    simp only [chkLateQ, Bool.and_eq_true, Bool.or_eq_true, Bool.not_eq_true', List.contains_eq_mem, decide_eq_true_eq] at h
    cases j with
    | zero =>
      simp at hx; subst hx
      rcases h.1 with ((h1 | h1) | h1) | h1
      · rw [hq] at h1; simp at h1
      · exact .inl h1
      · exact .inr (.inl h1)
      · exact .inr (.inr h1)
    | succ j =>
      have := chkLateQ_at h.2 (j := j) (by simpa using hx) hq
      rw [show i + (j + 1) = i + 1 + j by omega]; exact this
/-- What is done has all done that binds it. -/
def Down (ops : Array Oper) (listed : Array Bool) : Prop := ∀ k j, bindAt ops k j = true → listed.getD k false = true → listed.getD j false = true
theorem anc_listed {ops : Array Oper} {listed : Array Bool} (hd : Down ops listed) {j : Nat} {anc : List Nat} (hc : chkAnc ops j anc = true) (hj : ∀ i, bindAt ops j i = true → listed.getD i false = true) : ∀ (n i : Nat), ops.size - i ≤ n → i ∈ anc → listed.getD i false = true
  | 0, i, hn, hi => by
    rcases (by simpa [chkAnc] using hc : ∀ i ∈ anc, bindAt ops j i = true ∨ ∃ m ∈ anc, i < m ∧ bindAt ops m i = true) i hi with h | ⟨m, hm, him, hb⟩
    · exact hj i h
    · exfalso
      unfold bindAt at hb
      split at hb
      · rename_i o ho
        have := (Array.getElem?_eq_some_iff.1 ho).1
        omega
      · simp at hb
  | n + 1, i, hn, hi => by
    rcases (by simpa [chkAnc] using hc : ∀ i ∈ anc, bindAt ops j i = true ∨ ∃ m ∈ anc, i < m ∧ bindAt ops m i = true) i hi with h | ⟨m, hm, him, hb⟩
    · exact hj i h
    · have hms : m < ops.size := by
        unfold bindAt at hb
        split at hb
        · rename_i o ho; exact (Array.getElem?_eq_some_iff.1 ho).1
        · simp at hb
      exact hd m i hb (anc_listed hd hc hj n m (by omega) hm)

section
variable {P : Program} {ops : Array Oper} {Q : Exit → Go.Act → World → Prop}
/-- The state behind the operations that are done. -/
def mid (listed : Array Bool) (q : List DIt) (s2 : St) : St := ⟨dels (unl listed 0 q) s2.fr, dels (unk listed 0 q) s2.ob⟩
theorem unl_of {listed : Array Bool} {q : List DIt} {k i : Nat} {x : DIt} (hx : q[k]? = some x) (hu : i ∈ unl listed 0 q) (hd : x.d ≠ some i) : i ∈ unl (listed.setIfInBounds k true) 0 q := by
  obtain ⟨j, y, hj1, hj2, hj3⟩ := mem_unl.1 hu
  refine mem_unl.2 ⟨j, y, hj1, ?_, hj3⟩
  simp only [Nat.zero_add] at hj2 ⊢
  have hjk : k ≠ j := by
    rintro rfl
    rw [hx] at hj1; simp only [Option.some.injEq] at hj1; subst hj1
    exact hd hj3
  rw [getD_set_ne _ hjk]; exact hj2
theorem unk_of {listed : Array Bool} {q : List DIt} {k i : Nat} {x : DIt} (hx : q[k]? = some x) (hu : i ∈ unk listed 0 q) (hd : isAlc i x = false) : i ∈ unk (listed.setIfInBounds k true) 0 q := by
  obtain ⟨j, y, hj1, hj2, hj3⟩ := mem_unk.1 hu
  refine mem_unk.2 ⟨j, y, hj1, ?_, hj3⟩
  simp only [Nat.zero_add] at hj2 ⊢
  have hjk : k ≠ j := by
    rintro rfl
    rw [hx] at hj1; simp only [Option.some.injEq] at hj1; subst hj1
    rw [hd] at hj3; simp at hj3
  rw [getD_set_ne _ hjk]; exact hj2
theorem mid_fr {listed : Array Bool} {q : List DIt} {σ : St} {i : Nat} {v : AV} (h : get (mid listed q σ).fr i = some v) : get σ.fr i = some v ∧ i ∉ unl listed 0 q := by
  simp only [mid, get_dels] at h
  split at h
  · simp at h
  · exact ⟨h, ‹_›⟩
theorem mid_fr_of {listed : Array Bool} {q : List DIt} {σ : St} {i : Nat} (h : i ∉ unl listed 0 q) : get (mid listed q σ).fr i = get σ.fr i := by
  simp only [mid, get_dels, if_neg h]
theorem mid_ob {listed : Array Bool} {q : List DIt} {σ : St} {i : Nat} {v : Obj} (h : get (mid listed q σ).ob i = some v) : get σ.ob i = some v ∧ i ∉ unk listed 0 q := by
  simp only [mid, get_dels] at h
  split at h
  · simp at h
  · exact ⟨h, ‹_›⟩
theorem mid_ob_of {listed : Array Bool} {q : List DIt} {σ : St} {i : Nat} (h : i ∉ unk listed 0 q) : get (mid listed q σ).ob i = get σ.ob i := by
  simp only [mid, get_dels, if_neg h]
/-- How far a statement is. -/
def Far (γ : Array Value) (Γ : Env) (ops : Array Oper) (es : List (Nat × Nat × List AV)) (fs : List Eff) (q : List DIt) (B : Nat) (F0 : Facts) (w0 : World) (N : Nat) (s2 s3 : St) (listed : Array Bool) (a : Go.Act) (w : World) : Prop :=
  ∃ fs1 fs2 σ, fs = fs1 ++ fs2 ∧ evF Γ q es fs1 s2 = some σ ∧ evF Γ q es fs2 σ = some s3 ∧ (∀ f ∈ fs1, listed.getD f.1 false = true) ∧ (∀ f ∈ fs2, listed.getD f.1 false = false) ∧ Down ops listed ∧ Rel γ B F0 w0 N (mid listed q σ) a w

/-- What the steps have in common. -/
structure Drawn (P : Program) (nm : Nat → Option Nat) (Γ : Env) (N : Nat) (ops : Array Oper) (es : List (Nat × Nat × List AV)) (fs : List Eff) (q : List DIt) (s s1 s2 s3 : St) : Prop where
  hΓ : EnvOk P nm Γ
  hq : chkQ P nm N ops es fs q 0 q = true
  hes : chkEs q es = true
  hfs : chkFsN ops q fs = true
  h1 : evq Γ q s = some s1
  h0 : late0 Γ s1 q = true
  h2 : evA es s1 = some s2
  h3 : okA es s2 = true
section
variable {nm : Nat → Option Nat} {Γ : Env} {γ : Array Value} {B N : Nat} {F0 : Facts} {w0 : World} {q : List DIt} {es : List (Nat × Nat × List AV)} {fs : List Eff} {s s1 s2 s3 : St} {k : Nat} {x : DIt} {listed : Array Bool} {a : Go.Act} {w : World} {K : Go.Act → World → Prop}
theorem Drawn.dsts (D : Drawn P nm Γ N ops es fs q s s1 s2 s3) {i j : Nat} {x y : DIt} {t : Nat} (hi : q[i]? = some x) (hj : q[j]? = some y) (hx : x.d = some t) (hy : y.d = some t) : i = j := by
  have key : ∀ {i j : Nat} {x y : DIt}, q[i]? = some x → q[j]? = some y → x.d = some t → y.d = some t → ¬ i < j := by
    intro i j x y hi hj hx hy hij
    obtain ⟨o, _, _, _, _, _, _, hdd, _⟩ := chkQ_at D.hq hi
    refine hdd t hx (mem_dsts.2 ⟨j - (i + 1), y, ?_, hy⟩)
    rw [List.getElem?_drop, ← hj]; congr 1; omega
  have := key hi hj hx hy
  have := key hj hi hy hx
  omega
/-- An operation that turns something: what is checked of it. -/
theorem Drawn.eff (D : Drawn P nm Γ N ops es fs q s s1 s2 s3) {f : Eff} (hf : f ∈ fs) : ∃ x, q[f.1]? = some x ∧ (∃ z, x.a = .frz z) := by
  obtain ⟨l1, l2, hl⟩ := List.append_of_mem hf
  obtain ⟨h, _⟩ := chkFsN_at D.hfs l1 f l2 hl
  unfold isEf at h
  split at h
  · rename_i x hx
    split at h
    · rename_i z hz; exact ⟨x, hx, z, hz⟩
    · simp at h
  · simp at h
theorem Drawn.get (D : Drawn P nm Γ N ops es fs q s s1 s2 s3) {f : Eff} (hf : f ∈ fs) : Am.get fs f.1 = some f.2 := by
  have key : ∀ {fs : List Eff}, chkFsN ops q fs = true → f ∈ fs → Am.get fs f.1 = some f.2 := by
    intro fs
    induction fs with
    | nil => intro _ h; simp at h
    | cons g r ih =>
      intro h hf
      obtain ⟨j, d, A, ls, anc⟩ := g
      simp only [chkFsN, Bool.and_eq_true] at h
      rcases List.mem_cons.1 hf with rfl | hf
      · simp [Am.get]
      · have := List.all_eq_true.1 h.1.2 f hf
        simp only [Am.get]
        rw [if_neg (by simpa using Ne.symm (by simpa using this))]
        exact ih h.2 hf
  exact key D.hfs hf
theorem Drawn.effs (D : Drawn P nm Γ N ops es fs q s s1 s2 s3) {f : Eff} (hf : f ∈ fs) : ∃ x o, q[f.1]? = some x ∧ ops[f.1]? = some o ∧ o.dst = x.d ∧ guardOk ops x.g o = true ∧ dstOk N [] x.d = true ∧ (x.g = none ∨ f.2.2.1.gen = true) ∧ x.d = f.2.1 ∧ chkActG P nm o f.2.2.1 = true ∧ (∀ y ∈ f.2.2.1.xs, noName y = true) ∧
    (∀ i ∈ slotsOf f.2.2.1.xs, i ∉ DIt.dsts (q.drop f.1)) ∧ chkSrc o (slotsOf f.2.2.1.xs) 0 (q.take f.1) = true ∧ (∀ y ∈ q, y.a.quq = true → ∀ i ∈ y.slots, f.2.1 ≠ some i) ∧ (∃ z, x.a = .frz z) ∧ f.2.2.1.xs.length ≤ GB := by
  obtain ⟨x, hx, z, hz⟩ := D.eff hf
  obtain ⟨o, ho, hg, hd, hdN, hc, hsl, hdd, hsrc⟩ := chkQ_at D.hq hx
  simp only [Nat.zero_add] at ho hc
  rw [hz] at hc
  simp only [D.get hf, chkEf, Bool.and_eq_true, beq_iff_eq, List.all_eq_true, Bool.not_eq_true', List.contains_eq_mem, decide_eq_false_iff_not, Bool.or_eq_true, decide_eq_true_eq] at hc
  obtain ⟨⟨⟨⟨⟨⟨⟨c1, c2⟩, c3⟩, c4⟩, c5⟩, c6⟩, c7⟩, c8⟩ := hc
  refine ⟨x, o, hx, ho, hd, hg, hdN, c1.imp (fun h => by simpa using h) id, c2, c3, c4, fun i hi => ?_, c6, fun y hy hyq i hi h => ?_, ⟨z, hz⟩, c8⟩
  · have hlt : f.1 < q.length := (List.getElem?_eq_some_iff.1 hx).1
    rw [List.drop_eq_getElem_cons hlt, (List.getElem?_eq_some_iff.1 hx).2]
    exact c5 i hi
  · rcases c7 y hy with h1 | h1
    · rw [hyq] at h1; simp at h1
    · exact h1 i (by rw [h]; simp) hi
theorem ready_not {i : Nat} (hsz : listed.size = ops.size) (hk : k ∈ Region.ready .any ops listed) : listed.getD k false = false := by
  obtain ⟨h0, o, ho, _⟩ := mem_ready.1 hk
  have hio : k < ops.size := (Array.getElem?_eq_some_iff.1 ho).1
  rw [Array.getD_eq_getD_getElem?, Array.getElem?_eq_getElem (by omega)] at h0 ⊢
  simpa using h0
theorem ready_down (hd : Down ops listed) (hsz : listed.size = ops.size) (hk : k ∈ Region.ready .any ops listed) : Down ops (listed.setIfInBounds k true) := by
  intro m j hb hl
  have hj : listed.getD j false = true := by
    by_cases hmk : k = m
    · subst hmk
      unfold bindAt at hb
      split at hb
      · rename_i o ho; exact binding_listed hb ho hk
      · simp at hb
    · rw [getD_set_ne _ hmk] at hl
      exact hd m j hb hl
  by_cases hjk : k = j
  · subst hjk; rw [ready_not (i := 0) hsz hk] at hj; simp at hj
  · rw [getD_set_ne _ hjk]; exact hj
theorem Drawn.key (D : Drawn P nm Γ N ops es fs q s s1 s2 s3) {j : Nat} (hj : j ∈ unk listed 0 q) : ∃ m x d cs, q[m]? = some x ∧ listed.getD m false = false ∧ Am.get es j = some (d, cs) ∧ x.d = some d := by
  obtain ⟨i, y, hy1, hy2, hy3⟩ := mem_unk.1 hj
  obtain ⟨oy, _, _, _, _, hcy, _⟩ := chkQ_at D.hq hy1
  unfold isAlc at hy3
  split at hy3
  · rename_i kk cc hya
    simp only [beq_iff_eq] at hy3; subst hy3
    rw [hya] at hcy
    simp only [chkIt, hya, Act.quq, Act.isQ, Act.quiet, Bool.or_self, Bool.false_eq_true, if_false, Bool.and_eq_true] at hcy
    obtain ⟨_, hcy⟩ := hcy
    split at hcy
    · rename_i d cs hget
      simp only [Bool.and_eq_true, beq_iff_eq] at hcy
      exact ⟨i, y, d, cs, hy1, by simpa using hy2, hget, hcy.1⟩
    · simp at hcy
  · simp at hy3
/-- A slot that is read is written. -/
theorem Drawn.read (D : Drawn P nm Γ N ops es fs q s s1 s2 s3) {o : Oper} {slots : List Nat} (ho : ops[k]? = some o) (hk : k ∈ Region.ready .any ops listed) (hsl : ∀ i ∈ slots, i ∉ DIt.dsts (q.drop k)) (hsrc : chkSrc o slots 0 (q.take k) = true) : ∀ i ∈ slots, i ∉ unl listed 0 q := by
  intro i hi hu
  obtain ⟨j, y, hj1, hj2, hj3⟩ := mem_unl.1 hu
  simp only [Nat.zero_add] at hj2
  have hjk : j < k := by
    rcases Nat.lt_or_ge j k with h | h
    · exact h
    · exfalso
      refine hsl i hi (mem_dsts.2 ⟨j - k, y, ?_, hj3⟩)
      rw [List.getElem?_drop, ← hj1]; congr 1; omega
  have hb := chkSrc_at hsrc (j := j) (i := i) (y := y) (by rw [List.getElem?_take, if_pos hjk]; exact hj1) hj3 hi
  simp only [Nat.zero_add] at hb
  have := binding_listed hb ho hk
  rw [hj2] at this; simp at this
/-- An operation that turns something is the first one that is left, when it comes. -/
def Head (fs : List Eff) (listed : Array Bool) (k : Nat) : Prop := ∀ fs1 fs2 f, fs = fs1 ++ fs2 → (∀ g ∈ fs1, listed.getD g.1 false = true) → (∀ g ∈ fs2, listed.getD g.1 false = false) → f ∈ fs2 → f.1 = k → ∃ r, fs2 = f :: r
theorem head_prev {ops : Array Oper} {q : List DIt} {fs : List Eff} {listed : Array Bool} {k : Nat} (hp : chkPrev none fs = true) (hn : chkFsN ops q fs = true) (hdown : Down ops listed) (hk : k ∈ Region.ready .any ops listed) : Head fs listed k := by
  intro fs1 fs2 f hfs hl1 hl2 hf hfk
  obtain ⟨l1, l2, hl⟩ := List.append_of_mem hf
  rcases List.eq_nil_or_concat l1 with h | ⟨l, g, h⟩
  · subst h; exact ⟨l2, hl⟩
  · exfalso
    obtain ⟨_, g2, _, _⟩ := chkFsN_at hn (fs1 ++ l1) f l2 (by rw [hfs, hl, List.append_assoc])
    have hga := chkPrev_at hp (fs1 ++ l1) f l2 (by rw [hfs, hl, List.append_assoc]) (fs1 ++ l) g (by rw [h]; simp)
    have := anc_listed hdown g2 (fun i hb => by
      unfold bindAt at hb
      split at hb
      · rename_i o ho
        rw [hfk] at ho
        exact binding_listed hb ho hk
      · simp at hb) ops.size g.1 (by omega) hga
    have h0 := hl2 g (by rw [hl, h]; simp)
    rw [this] at h0; simp at h0
theorem Drawn.step (D : Drawn P nm Γ N ops es fs q s s1 s2 s3) (hx : q[k]? = some x) (hsz : listed.size = ops.size) (hk : k ∈ Region.ready .any ops listed) (hhead : Head fs listed k)
    (hr : Far γ Γ ops es fs q B F0 w0 N s2 s3 listed a w) (hK : ∀ a' w', Far γ Γ ops es fs q B F0 w0 N s2 s3 (listed.setIfInBounds k true) a' w' → K a' w') : wpOp P ops Q k K a w := by
  obtain ⟨o, ho, hg, hd, hdN, hc, hsl, hdd, hsrc⟩ := chkQ_at D.hq hx
  simp only [Nat.zero_add] at ho hc hsrc
  have hkn := ready_not (i := 0) hsz hk
  have hlt : k < q.length := (List.getElem?_eq_some_iff.1 hx).1
  have hqk : q[k] = x := (List.getElem?_eq_some_iff.1 hx).2
  have hdlt : ∀ i, x.d = some i → i < N := fun i hi => by
    rw [hi] at hdN; simp [dstOk] at hdN; exact hdN
  obtain ⟨fs1, fs2, σ, hfs, hF1, hF2, hl1, hl2, hdown, hr⟩ := hr
  have hdown2 := ready_down hdown hsz hk
  obtain ⟨hG, F, ρ, hm, hf, he, hN, hdf⟩ := id hr
  have hfp := (FrG.pad (γ := γ) (by omega)).1 hf
  have hdo : ∀ i, o.dst = some i → i < a.tmps.size := fun i hi => by rw [hN]; exact hdlt i (by rw [← hd]; exact hi)
  obtain ⟨c1, c2, c3⟩ := evF_keep hF1
  have c1 := c1 D.h3
  obtain ⟨e1, e2, e3⟩ := evA_spec D.h2
  have ok := okA_spec c1
  -- not this one: it stays as it is
  have keep1 : (∀ f ∈ fs2, f.1 ≠ k) → (∀ f ∈ fs1, (listed.setIfInBounds k true).getD f.1 false = true) ∧ (∀ f ∈ fs2, (listed.setIfInBounds k true).getD f.1 false = false) := by
    intro hne
    refine ⟨fun f hf => ?_, fun f hf => ?_⟩
    · rw [getD_set_ne _]
      · exact hl1 f hf
      · rintro rfl
        have := hl1 f hf
        rw [hkn] at this; simp at this
    · rw [getD_set_ne _ (Ne.symm (hne f hf))]; exact hl2 f hf
  have sameFs : (∀ z, x.a ≠ .frz z) → ∀ f ∈ fs, f.1 ≠ k := by
    rintro hne f hf rfl
    obtain ⟨y, hy, z, hz⟩ := D.eff hf
    rw [hx] at hy; simp only [Option.some.injEq] at hy; subst hy
    exact hne z hz
  -- a slot of a quiet operation, or of a new object, is no other one's
  have dstFs : (∀ z, x.a ≠ .frz z) → ∀ i, x.d = some i → ∀ f ∈ fs, f.2.1 ≠ some i := by
    intro hne i hi f hf h
    obtain ⟨y, oy, hy, _, _, _, _, _, hyd, _⟩ := D.effs hf
    exact sameFs hne f hf (D.dsts hy hx (by rw [hyd, h]) hi)
  have in1 : ∀ f ∈ fs1, f ∈ fs := fun f hf => by rw [hfs]; simp [hf]
  have in2 : ∀ f ∈ fs2, f ∈ fs := fun f hf => by rw [hfs]; simp [hf]
  have next : (∀ z, x.a ≠ .frz z) → ∀ (s' : St) (a' : Go.Act) (w' : World), Rel γ B F0 w0 N s' a' w' → (∀ j o', Am.get (mid (listed.setIfInBounds k true) q σ).ob j = some o' → Am.get s'.ob j = some o') →
      (∀ i v, Am.get (mid (listed.setIfInBounds k true) q σ).fr i = some v → Am.get s'.fr i = some v) → K a' w' := by
    intro hne s' a' w' hr' h1 h2
    obtain ⟨k1, k2⟩ := keep1 fun f hf => sameFs hne f (in2 f hf)
    exact hK a' w' ⟨fs1, fs2, σ, hfs, hF1, hF2, k1, k2, hdown2, hr'.less h1 h2⟩
  by_cases hquiet : x.a.quq = true
  · -- a quiet one
    have hnf : ∀ z, x.a ≠ .frz z := fun z h => by rw [h] at hquiet; simp [Act.quq, Act.isQ, Act.quiet] at hquiet
    have hna : ∀ kk cc, x.a ≠ .alc kk cc := fun kk cc h => by rw [h] at hquiet; simp [Act.quq, Act.isQ, Act.quiet] at hquiet
    have hc : chkIt P nm es fs o x = true := by
      split at hc
      · rename_i z hz; exact (hnf _ hz).elim
      · exact hc
    unfold chkIt at hc
    rw [if_pos hquiet] at hc
    simp only [Bool.and_eq_true, List.all_eq_true, Bool.or_eq_true, Bool.not_eq_true', List.isEmpty_iff, decide_eq_true_eq] at hc
    obtain ⟨⟨⟨⟨hc, hnames⟩, hes1⟩, hes2⟩, hQ⟩ := hc
    obtain ⟨sk, h1, hob⟩ := evq_at k D.h1
    have hob1 : s1.ob = s.ob := (evq_keep D.h1).1
    rw [List.drop_eq_getElem_cons hlt, hqk] at h1
    have hkeep := (evq_keep h1).2
    have hunl := D.read ho hk hsl hsrc
    have hqf : ∀ i ∈ x.slots, ∀ f ∈ fs, f.2.1 ≠ some i := fun i hi f hf => by
      obtain ⟨_, _, _, _, _, _, _, _, _, _, _, _, _, h, _⟩ := D.effs hf
      exact h x (List.mem_of_getElem? hx) hquiet i hi
    have h12 : ∀ i, (∀ e ∈ es, e.2.1 ≠ i) → Am.get s2.fr i = Am.get s1.fr i := fun i hi => e3 i (by simp only [List.all_eq_true, bne_iff_ne]; exact hi)
    have hes1' : ∀ i ∈ x.slots, ∀ e ∈ es, e.2.1 ≠ i := fun i hi e he => by simpa using hes1 i hi e he
    have hread : ∀ i ∈ x.slots, Am.get (mid listed q σ).fr i = Am.get sk.fr i := by
      intro i hi
      rw [mid_fr_of (hunl i hi), c3 i fun f hf => hqf i hi f (in1 f hf), h12 i (hes1' i hi), hkeep i (by have := hsl i hi; rwa [List.drop_eq_getElem_cons hlt, hqk] at this)]
    have hmet : met (mid listed q σ) x.g = met sk x.g := by
      unfold met
      split
      · rfl
      · rename_i t want hgx
        have := hread t (by simp [DIt.slots, hgx])
        simp only [this]
    have late : ¬ x.a.bare = true → ∀ f ∈ fs1, (if f.2.2.1.gen = true then k ∈ f.2.2.2.1 else ∀ i ∈ x.slots, i ∈ f.2.2.2.1) := by
      intro hst f hf
      obtain ⟨l1, l2, hl⟩ := List.append_of_mem (in1 f hf)
      obtain ⟨_, g2, g3, _⟩ := chkFsN_at D.hfs l1 f l2 hl
      have done : k ∈ f.2.2.2.2 → False := fun h => by
        have := anc_listed hdown g2 (fun i hb => hdown f.1 i hb (hl1 f hf)) ops.size k (by omega) h
        rw [hkn] at this; simp at this
      split
      · rename_i hg
        rw [if_pos hg] at g3
        rcases chkLateQ_at g3 hx hquiet with h | h | h
        · exact (hst h).elim
        · exact (done (by simpa using h)).elim
        · simpa using h
      · rename_i hg
        rw [if_neg hg] at g3
        rcases chkLate_at g3 hx hquiet with h | h | h
        · exact (hst h).elim
        · exact (done (by simpa using h)).elim
        · exact h
    have hobs : ∀ j, ¬ (Am.get es j ≠ none ∨ evC Γ q fs1 s2 j) → Am.get (mid listed q σ).ob j = Am.get sk.ob j := by
      intro j hj
      obtain ⟨hj1, hj2⟩ := not_or.1 hj
      have hj1 : Am.get es j = none := by simpa using hj1
      rw [mid_ob_of fun h => by obtain ⟨_, _, _, _, _, _, h, _⟩ := D.key h; rw [hj1] at h; simp at h, c2 j hj2, e1 j hj1, hob1, hob]
    have hopd : ∀ y ∈ x.a.xs, St.opd ⟨(mid listed q σ).fr, sk.ob⟩ y = sk.opd y := opd_of_slots fun i hi => hread i (by simp [DIt.slots, hi])
    have hnn : ¬ x.a.bare = true → es ≠ [] → ∀ y ∈ x.a.xs, ∀ v, St.opd ⟨(mid listed q σ).fr, sk.ob⟩ y = some v → Nn (fun j => Am.get es j ≠ none ∨ evC Γ q fs1 s2 j) v := by
      intro hst hes0 y hy v hv j hj
      cases y with
      | k u =>
        have := hnames _ hy
        simp only [St.opd, Option.some.injEq] at hv; subst hv
        cases u <;> simp [noName] at this <;> rfl
      | t i =>
        simp only [St.opd] at hv
        have hin : i ∈ x.slots := by
          simp only [DIt.slots, List.mem_append]
          exact .inl (slot_mem hy)
        have hm2 := (mid_fr hv).1
        rcases hj with hj | hj
        · cases hje : Am.get es j with
          | none => exact (hj hje).elim
          | some p =>
            rcases (ok j p.1 p.2 hje).1 _ (get_mem hm2) with h | h
            · exact (hes1' i hin _ (get_mem hje) h.symm).elim
            · exact h
        · rw [c3 i fun f hf => hqf i hin f (in1 f hf)] at hm2
          exact evF_late hes0 hF1 (fun f hf hg => by have := late hst f hf; rw [hg] at this; simp only [Bool.false_eq_true, if_false] at this; exact this i hin) (fun f hf => hqf i hin f (in1 f hf)) hm2 j hj
    have hvd : ∀ v r, evq Γ r (sk.put x.d v) = some s1 → r = q.drop (k + 1) → ∀ i, x.d = some i → Am.get σ.fr i = some v := by
      rintro v r h2' rfl i hi
      rw [c3 i fun f hf => dstFs hnf i hi f (in1 f hf), h12 i (fun e he => by simpa using hes2 i (by simp [hi]) e he), (evq_keep h2').2 i (hdd i hi), get_put, if_pos hi]
    have hnoalc : ∀ j, isAlc j x = false := fun j => by
      unfold isAlc
      split
      · rename_i hxa; exact (hna _ _ hxa).elim
      · rfl
    have after : ∀ (v : AV) (a' : Go.Act) (w' : World), (∀ i, x.d = some i → Am.get σ.fr i = some v) → Rel γ B F0 w0 N (St.put (mid listed q σ) x.d v) a' w' → K a' w' := by
      intro v a' w' hv hr'
      refine next hnf _ a' w' hr' (fun j o' ho' => ?_) fun i u hi => ?_
      · obtain ⟨g1, g2⟩ := mid_ob ho'
        rw [put_ob, mid_ob_of fun h => g2 (unk_of hx h (hnoalc j))]; exact g1
      · obtain ⟨g1, g2⟩ := mid_fr hi
        rw [get_put]
        by_cases hdi : x.d = some i
        · rw [if_pos hdi, ← hv i hdi]; exact g1
        · rw [if_neg hdi, mid_fr_of fun h => g2 (unl_of hx h hdi)]; exact g1
    unfold wpOp
    simp only [ho]
    rcases evq_step h1 with ⟨hnq, _⟩ | ⟨_, hm0, h2'⟩ | ⟨v, t1, hm1, hact, _, hob2, h2'⟩
    · rw [hquiet] at hnq; simp at hnq
    · have hw := met_wanted (b := false) hg (by rw [hmet]; exact hm0) hf
      simp only [hw, Bool.false_eq_true, if_false]
      refine after (.tup []) _ _ (hvd _ _ h2' rfl) ?_
      rw [hd]
      exact Rel.put hr hdlt rfl fun F ρ hm hf he => ⟨F, ρ, hm, hf, ⟨[], rfl, .nil⟩, .refl B F w⟩
    · have hw := met_wanted (b := true) hg (by rw [hmet]; exact hm1) hf
      simp only [hw, if_true]
      left
      have hact2 : ∃ u, act Γ (mid listed q σ) x.a = some (u, mid listed q σ) ∧ ∀ i, x.d = some i → u = v := by
        by_cases hst : x.a.bare = true
        · have hqt : x.a.quiet = true := by
            cases hxa : x.a <;> rw [hxa] at hst <;> simp only [Act.bare, Bool.false_eq_true] at hst <;> rfl
          exact ⟨v, act_bare hst (act_local hqt hopd hact hob2), fun _ _ => rfl⟩
        by_cases hes0 : es = []
        · have hunk : unk listed 0 q = [] := List.eq_nil_iff_forall_not_mem.2 fun j hj => by
            obtain ⟨_, _, _, _, _, _, h, _⟩ := D.key hj
            rw [hes0] at h; simp [Am.get] at h
          have hs21 : s2 = s1 := by
            have := D.h2
            rw [hes0] at this
            simpa [evA] using this.symm
          have hskr : ∀ i ∈ x.slots, Am.get s1.fr i = Am.get sk.fr i := fun i hi => hkeep i (by have := hsl i hi; rwa [List.drop_eq_getElem_cons hlt, hqk] at this)
          have hopd1 : ∀ y ∈ x.a.xs, St.opd ⟨s1.fr, sk.ob⟩ y = sk.opd y := opd_of_slots fun i hi => hskr i (by simp [DIt.slots, hi])
          have hm9 : met s1 x.g = some true := by
            rw [← hm1]
            unfold met
            split
            · rfl
            · rename_i t want hgx
              have := hskr t (by simp [DIt.slots, hgx])
              simp only [this]
          have hv9 : ∀ i, x.d = some i → Am.get s1.fr i = some v := fun i hi => by rw [(evq_keep h2').2 i (hdd i hi), get_put, if_pos hi]
          have a1 : ∃ u, act Γ s1 x.a = some (u, s1) ∧ ∀ i, x.d = some i → u = v := by
            by_cases hqt : x.a.quiet = true
            · have h9 := act_local hqt hopd1 hact hob2
              have e9 : (⟨s1.fr, sk.ob⟩ : St) = s1 := by
                obtain ⟨f1, o1⟩ := s1
                simp only at hob1 ⊢
                rw [hob, hob1]
              rw [e9] at h9
              exact ⟨v, h9, fun _ _ => rfl⟩
            · have hisq : x.a.isQ = true := by simpa [Act.quq, hqt] using hquiet
              have hl0 : lateQ Γ q s1 [k] = true := by
                have h9 := late0_at D.h0 hx hisq
                simp only [lateQ, hx, h9, Bool.and_self]
              obtain ⟨u, t', b1, b2, b3⟩ := lateQ_at hl0 (by simp) hx hm9 hv9
              have h8 := quq_ob hquiet b1 b2
              have h9 := act_fr b1
              refine ⟨u, ?_, b3⟩
              rw [b1]
              obtain ⟨tf, to⟩ := t'
              simp only at h8 h9
              rw [h8, h9]
          have hF1' := hF1
          rw [hes0, hs21] at hF1'
          have hq9 : x.a.quiet = true ∨ ∀ f ∈ fs1, f.2.2.1.gen = true := by
            rcases hQ with h | h
            · left; simpa [Act.quq, h] using hquiet
            · right; intro f hf; exact h.1.2 f (in1 f hf)
          obtain ⟨u, a2, a3⟩ := evF_at (v := v) hx hquiet hF1' hq9 (late hst) (fun f hf => ⟨fun i hi => hqf i hi f (in1 f hf), fun i hi => dstFs hnf i hi f (in1 f hf)⟩) hnames hm9 hv9 a1
          refine ⟨u, ?_, a3⟩
          by_cases hqt : x.a.quiet = true
          · have e9 : mid listed q σ = ⟨(mid listed q σ).fr, σ.ob⟩ := by unfold mid; rw [hunk]; rfl
            rw [e9]
            refine act_local hqt (opd_of_slots fun i hi => ?_) a2 rfl
            exact mid_fr_of (hunl i (by simp [DIt.slots, hi]))
          · have hlen : x.a.xs.length ≤ GB := by
              rcases hQ with h | h
              · exact (hqt (by simpa [Act.quq, h] using hquiet)).elim
              · exact h.2
            have hmid : mid listed q σ = ⟨dels (unl listed 0 q) σ.fr, σ.ob⟩ := by unfold mid; rw [hunk]; rfl
            have hopd9 : ∀ y ∈ x.a.xs, St.opd ⟨dels (unl listed 0 q) σ.fr, σ.ob⟩ y = σ.opd y := opd_of_slots fun i hi => by
              have := mid_fr_of (σ := σ) (hunl i (by simp [DIt.slots, hi]))
              rw [hmid] at this; exact this
            rw [hmid]
            exact act_less D.hΓ.mono hlen hopd9 a2
        · have hqt : x.a.quiet = true := by
            rcases hQ with h | h
            · simpa [Act.quq, h] using hquiet
            · exact (hes0 h.1.1).elim
          exact ⟨v, act_ob (s := ⟨(mid listed q σ).fr, sk.ob⟩) (K := fun j => Am.get es j ≠ none ∨ evC Γ q fs1 s2 j) (ob' := (mid listed q σ).ob) hqt hobs (hnn hst hes0) (act_local hqt hopd hact hob2), fun _ _ => rfl⟩
      obtain ⟨v2, hact2, hv2⟩ := hact2
      have hcg := hc
      simp only [chkActG, Bool.and_eq_true] at hcg
      obtain ⟨_, hdoes⟩ := act_sound D.hΓ hm hfp hcg.1.1 hact2
      refine does_pad (by omega) hcg.1.2 hcg.2 hdo hdoes _ _ fun u w' hp => after v2 _ _ (fun i hi => by rw [hv2 i hi]; exact hvd _ _ h2' rfl i hi) ?_
      rw [hd]
      exact Rel.put1 hG rfl he hN hdf hdlt hp
  by_cases hfz : ∃ z, x.a = .frz z
  · -- one that turns something
    obtain ⟨z, hz⟩ := hfz
    rw [hz] at hc
    simp only at hc
    split at hc
    case h_2 => simp at hc
    rename_i d A lsanc hget
    have hfm : (k, d, A, lsanc) ∈ fs := get_mem hget
    obtain ⟨x', o', hx', ho', _, _, _, hgn, hxd, hca, hnames, hslA, hsrcA, _, _, hlenA⟩ := D.effs hfm
    simp only at hx' ho' hxd hca hnames hslA hsrcA hlenA
    rw [hx] at hx'; simp only [Option.some.injEq] at hx'; subst hx'
    rw [ho] at ho'; simp only [Option.some.injEq] at ho'; subst ho'
    -- it is the first one that is left
    have hf2 : (k, d, A, lsanc) ∈ fs2 := by
      rw [hfs] at hfm
      rcases List.mem_append.1 hfm with h | h
      · have := hl1 _ h
        simp only at this
        rw [hkn] at this; simp at this
      · exact h
    obtain ⟨l2, hl⟩ := hhead fs1 fs2 _ hfs hl1 hl2 hf2 rfl
    have hF2' := hF2
    rw [hl] at hF2'
    obtain ⟨v, t1, h2, hfr1, h5, h6, h7, h8⟩ := evF_step hF2'
    simp only at h2 hfr1 h5 h6 h7 h8
    have hmet : met (mid listed q σ) x.g = met σ x.g := by
      have hu := D.read ho hk hsl hsrc
      unfold met
      split
      · rfl
      · rename_i t want hgx
        have := mid_fr_of (σ := σ) (hu t (by simp [DIt.slots, hgx]))
        simp only [this]
    have hcase : (act Γ σ A = some (v, t1) ∧ Region.wanted o (yielded ops a.tmps) = true) ∨ (met σ x.g = some false ∧ v = .tup [] ∧ t1 = σ) := by
      by_cases hge : A.gen = true
      · unfold actG at h2
        rw [if_pos hge] at h2
        have hgm : gmet q σ k = met σ x.g := by simp only [gmet, hx]
        rw [hgm] at h2
        split at h2
        · rename_i hm1
          exact .inl ⟨h2, by have := met_wanted (b := true) hg (by rw [hmet]; exact hm1) hf; exact this⟩
        · rename_i hm1
          simp only [Option.some.injEq, Prod.mk.injEq] at h2
          exact .inr ⟨hm1, h2.1.symm, h2.2.symm⟩
        · simp at h2
      · refine .inl ⟨?_, ?_⟩
        · rw [actG_eff (by simpa using hge)] at h2; exact h2
        · rcases hgn with hgn | hgn
          · rw [hgn] at hg
            unfold guardOk at hg
            split at hg
            · rename_i h; simp [Region.wanted, h]
            · simp at *
            · simp at hg
          · exact (hge hgn).elim
    have hunl := D.read ho hk hslA hsrcA
    have hopd : ∀ y ∈ A.xs, (mid listed q σ).opd y = σ.opd y := by
      intro y hy
      cases y with
      | k u => rfl
      | t i => exact mid_fr_of (hunl i (slot_mem hy))
    have hcg := hca
    simp only [chkActG, Bool.and_eq_true] at hcg
    have fin : ∀ (s' : St) (a' : Go.Act) (w' : World), s'.fr = (mid listed q σ).fr → Rel γ B F0 w0 N (s'.put x.d v) a' w' → (∀ j o', Am.get (mid (listed.setIfInBounds k true) q t1).ob j = some o' → Am.get s'.ob j = some o') → K a' w' := by
      intro s' a' w' hs' hnew hob
      refine hK _ _ ⟨fs1 ++ [(k, d, A, lsanc)], l2, t1.put d v, by rw [hfs, hl]; simp, evF_snoc hF1 (by rw [h7]; rfl), h6, ?_, ?_, hdown2, hnew.less (fun j o' ho' => ?_) fun i u hi => ?_⟩
      · intro f hf
        rcases List.mem_append.1 hf with h | h
        · by_cases hkf : k = f.1
          · have := hl1 f h
            rw [← hkf, hkn] at this; simp at this
          · rw [getD_set_ne _ hkf]; exact hl1 f h
        · simp only [List.mem_singleton] at h; subst h
          have hks : k < listed.size := by
            rw [hsz]; exact (Array.getElem?_eq_some_iff.1 ho).1
          simp [Array.getD_eq_getD_getElem?, hks]
      · intro f hf
        obtain ⟨_, _, _, g5⟩ := chkFsN_at D.hfs fs1 _ l2 (by rw [hfs, hl])
        rw [getD_set_ne _ (Ne.symm (g5 f hf))]
        exact hl2 f (by rw [hl]; simp [hf])
      · rw [put_ob]
        refine hob j o' ?_
        have : (mid (listed.setIfInBounds k true) q (t1.put d v)).ob = (mid (listed.setIfInBounds k true) q t1).ob := by simp only [mid, put_ob]
        rw [← this]; exact ho'
      · obtain ⟨q1, q2⟩ := mid_fr hi
        rw [get_put] at q1 ⊢
        rw [hxd]
        by_cases hdi : d = some i
        · rw [if_pos hdi] at q1 ⊢; exact q1
        · rw [if_neg hdi] at q1 ⊢
          rw [hs', mid_fr_of fun h => q2 (unl_of hx h (by rw [hxd]; exact hdi)), ← hfr1]; exact q1
    unfold wpOp
    rcases hcase with ⟨h2, hw⟩ | ⟨hm0, hv0, ht0⟩
    case inr =>
      have hw := met_wanted (b := false) hg (by rw [hmet]; exact hm0) hf
      simp only [ho, hw, Bool.false_eq_true, if_false]
      refine fin (mid listed q σ) _ _ rfl ?_ fun j o' ho' => ?_
      · rw [hd, hv0]
        exact Rel.put hr hdlt rfl fun F ρ hm hf he => ⟨F, ρ, hm, hf, ⟨[], rfl, .nil⟩, .refl B F w⟩
      · rw [ht0] at ho'
        obtain ⟨q1, q2⟩ := mid_ob ho'
        rw [mid_ob_of fun h => q2 (unk_of hx h (by simp [isAlc, hz]))]; exact q1
    simp only [ho, hw, if_true]
    left
    rcases h8 with ⟨kk, h1, _, _, h4, _⟩ | ⟨hes0, _, _⟩
    · have hnn : ∀ y ∈ A.xs, ∀ u, σ.opd y = some u → ∀ j, u.names j = true → Am.get (mid listed q σ).ob j = Am.get σ.ob j := by
        intro y hy u hu j hj
        refine mid_ob_of fun hk2 => ?_
        obtain ⟨m, x2, d2, cs2, hm1, hm2, hm3, hm4⟩ := D.key hk2
        cases y with
        | k c =>
          have := hnames _ hy
          simp only [St.opd, Option.some.injEq] at hu; subst hu
          cases c <;> simp [noName, AV.names, AV.names1] at this hj
        | t i =>
          simp only [St.opd] at hu
          rcases (ok j d2 cs2 hm3).1 _ (get_mem hu) with h | h
          · simp only at h; subst h
            exact hunl i (slot_mem hy) (mem_unl.2 ⟨m, x2, hm1, by simpa using hm2, hm4⟩)
          · rw [h] at hj; simp at hj
      obtain ⟨g1, ⟨ob, g2, g3⟩, g4⟩ := act_sub h1 h2 (t := mid listed q σ) hopd (fun p hp => (mem_dels hp).1) (fun p hp => (mem_dels hp).1) hnn
      obtain ⟨_, hdoes⟩ := act_sound D.hΓ hm hfp hcg.1.1 g3
      refine does_pad (by omega) hcg.1.2 hcg.2 hdo hdoes _ _ fun u w' hp => ?_
      rw [hd]
      refine fin ((mid listed q σ).obj kk ob) _ _ rfl (Rel.put1 hG rfl he hN hdf hdlt hp) fun j o' ho' => ?_
      obtain ⟨q1, q2⟩ := mid_ob ho'
      rw [get_obj]
      by_cases hj : kk = j
      · subst hj; rw [if_pos rfl, ← g2]; exact q1
      · rw [if_neg hj, mid_ob_of fun h => q2 (unk_of hx h (by simp [isAlc, hz])), ← g4 j (Ne.symm hj)]; exact q1
    · have hunk : unk listed 0 q = [] := List.eq_nil_iff_forall_not_mem.2 fun j hj => by
        obtain ⟨_, _, _, _, _, _, h, _⟩ := D.key hj
        rw [hes0] at h; simp [Am.get] at h
      have hmid : mid listed q σ = ⟨dels (unl listed 0 q) σ.fr, σ.ob⟩ := by unfold mid; rw [hunk]; rfl
      have g3 : act Γ (mid listed q σ) A = some (v, ⟨(mid listed q σ).fr, t1.ob⟩) := by
        rw [hmid]
        rw [hmid] at hopd
        exact act_less D.hΓ.mono hlenA hopd h2
      obtain ⟨_, hdoes⟩ := act_sound D.hΓ hm hfp hcg.1.1 g3
      refine does_pad (by omega) hcg.1.2 hcg.2 hdo hdoes _ _ fun u w' hp => ?_
      rw [hd]
      refine fin ⟨(mid listed q σ).fr, t1.ob⟩ _ _ rfl (Rel.put1 hG rfl he hN hdf hdlt hp) fun j o' ho' => ?_
      exact (mid_ob ho').1
  · -- a new object
    have hnf : ∀ z, x.a ≠ .frz z := fun z h => hfz ⟨z, h⟩
    have hc : chkIt P nm es fs o x = true := by
      split at hc
      · rename_i z hz; exact (hnf _ hz).elim
      · exact hc
    unfold chkIt at hc
    rw [if_neg hquiet] at hc
    split at hc
    case h_2 => simp at hc
    rename_i key cs0 hxa
    simp only [Bool.and_eq_true] at hc
    obtain ⟨hg0, hc⟩ := hc
    split at hc
    case h_2 => simp at hc
    rename_i d cs hget
    simp only [Bool.and_eq_true, beq_iff_eq] at hc
    obtain ⟨hxd, hca⟩ := hc
    have hgn : x.g = none := by simpa using hg0
    have hw : Region.wanted o (yielded ops a.tmps) = true := by
      rw [hgn] at hg
      unfold guardOk at hg
      split at hg
      · rename_i h; simp [Region.wanted, h]
      · simp at *
      · simp at hg
    have hdu : d ∈ unl listed 0 q := mem_unl.2 ⟨k, x, hx, by simpa using hkn, hxd⟩
    have hfree : (mid listed q σ).free key = true := by
      obtain ⟨f1, f2⟩ := ok key d cs hget
      simp only [St.free, mid, Bool.and_eq_true, List.all_eq_true, Bool.not_eq_true']
      refine ⟨fun p hp => ?_, fun p hp r hr v hv => ?_⟩
      · obtain ⟨g1, g2⟩ := mem_dels hp
        rcases f1 p g1 with h | h
        · exact (g2 (h ▸ hdu)).elim
        · exact h
      · exact f2 p (mem_dels (mem_del hp).1).1 r hr v hv
    have hnk : ¬ evC Γ q fs1 s2 key := by
      intro hkk
      obtain ⟨f, hf1, hf2⟩ := evF_alc hget hF1 hkk
      obtain ⟨y, oy, hy, hoy, _, _, _, _, _, _, _, hslA, hsrcA, _, _⟩ := D.effs (in1 f hf1)
      have hkf : k < f.1 := by
        rcases Nat.lt_or_ge k f.1 with h | h
        · exact h
        · exfalso
          refine hslA d hf2 (mem_dsts.2 ⟨k - f.1, x, ?_, hxd⟩)
          rw [List.getElem?_drop, ← hx]; congr 1; omega
      have hb := chkSrc_at hsrcA (j := k) (i := d) (y := x) (by rw [List.getElem?_take, if_pos hkf]; exact hx) hxd hf2
      simp only [Nat.zero_add] at hb
      have := hdown f.1 k (by unfold bindAt; rw [hoy]; exact hb) (hl1 f hf1)
      rw [hkn] at this; simp at this
    have hact : act Γ (mid listed q σ) (.alc key cs) = some (.loc key 0 0, (mid listed q σ).obj key ⟨cs.length, [cs]⟩) := by
      simp only [act, hfree, if_true]
    unfold wpOp
    simp only [ho, hw, if_true]
    left
    have hcg := hca
    simp only [chkActG, Bool.and_eq_true] at hcg
    obtain ⟨_, hdoes⟩ := act_sound D.hΓ hm hfp hcg.1.1 hact
    refine does_pad (by omega) hcg.1.2 hcg.2 hdo hdoes _ _ fun u w' hp => ?_
    have hnew : Rel γ B F0 w0 N (((mid listed q σ).obj key ⟨cs.length, [cs]⟩).put x.d (.loc key 0 0)) (a.put x.d u) w' := Rel.put1 hG rfl he hN hdf hdlt hp
    rw [hd]
    refine next hnf _ _ _ hnew (fun j o' ho' => ?_) fun i v hi => ?_
    · obtain ⟨q1, q2⟩ := mid_ob ho'
      rw [put_ob, get_obj]
      by_cases hj : key = j
      · subst hj
        rw [if_pos rfl, ← (e2 key d cs hget).1, ← c2 key hnk]; exact q1
      · rw [if_neg hj, mid_ob_of fun h => q2 (unk_of hx h (by simpa [isAlc, hxa] using hj))]; exact q1
    · obtain ⟨q1, q2⟩ := mid_fr hi
      rw [get_put]
      by_cases hdi : x.d = some i
      · rw [if_pos hdi]
        rw [hxd, Option.some.injEq] at hdi; subst hdi
        rw [c3 d fun f hf => dstFs hnf d hxd f (in1 f hf), evA_slot D.h2 D.hes key d cs hget] at q1
        exact q1
      · rw [if_neg hdi]
        show Am.get (mid listed q σ).fr i = some v
        rw [mid_fr_of fun h => q2 (unl_of hx h hdi)]; exact q1
end
def cnt (f : Nat → Bool) : Nat → Nat
  | 0 => 0
  | n + 1 => cnt f n + (if f n then 1 else 0)
theorem cnt_ge {f : Nat → Bool} {m : Nat} : ∀ n, (∀ j, m ≤ j → j < n → f j = true) → n ≤ m + cnt f n
  | 0, _ => by omega
  | n + 1, h => by
    have := cnt_ge n fun j h1 h2 => h j h1 (by omega)
    simp only [cnt]
    rcases Nat.lt_or_ge n m with hm | hm
    · omega
    · rw [if_pos (h n hm (by omega))]; omega
theorem cnt_flip {f g : Nat → Bool} {i : Nat} (hi : f i = true) (hg : g i = false) (h : ∀ j, j ≠ i → g j = f j) : ∀ n, cnt g n + (if i < n then 1 else 0) = cnt f n
  | 0 => by simp [cnt]
  | n + 1 => by
    have := cnt_flip hi hg h n
    simp only [cnt]
    by_cases hn : n = i
    · subst hn
      rw [if_neg (by omega)] at this
      simp [hi, hg]; omega
    · rw [h n hn]
      by_cases h2 : i < n
      · have h3 : i < n + 1 := by omega
        simp only [h2, h3, if_true] at this ⊢; omega
      · have h3 : ¬ i < n + 1 := by omega
        simp only [h2, h3, if_false] at this ⊢; omega
theorem ready_some (hb : chkBack ops = true) {listed : Array Bool} (hsz : listed.size = ops.size) : ∀ (n j : Nat), j < n → j < ops.size → listed.getD j false = false → ∃ i, i ∈ Region.ready .any ops listed
  | 0, j, h, _, _ => by omega
  | n + 1, j, h, hj, hl => by
    by_cases hall : ∀ e ∈ ops[j].after, Region.binds .any e = true → listed.getD e.on false = true
    · refine ⟨j, mem_ready.2 ⟨?_, ops[j], Array.getElem?_eq_getElem hj, hall⟩⟩
      rw [Array.getD_eq_getD_getElem?, Array.getElem?_eq_getElem (by omega)] at hl ⊢
      simpa using hl
    · simp only [Classical.not_forall] at hall
      obtain ⟨e, he, hbe, hl2⟩ := hall
      have := back_lt hb (Array.getElem?_eq_getElem hj) e he hbe
      exact ready_some hb hsz n e.on (by omega) (by omega) (by simpa using hl2)
theorem draw_any {nm : Nat → Option Nat} {Γ : Env} {γ : Array Value} {B N : Nat} {F0 : Facts} {w0 : World} {q : List DIt} {es : List (Nat × Nat × List AV)} {fs : List Eff} {t : AI} {s s0 s1 s3 s2 : St}
    (D : Drawn P nm Γ N ops es fs q s s0 s1 s3) (hprev : chkPrev none fs = true) (hb : chkBack ops = true) (ht : chkTail ops q.length = true) (hlen : q.length ≤ ops.size)
    (hct : chkAI P nm N ops t none [] [] (ops.toList.drop q.length) = some []) (h2 : ev Γ t s3 = some s2) (hQ : ∀ a' w', Rel γ B F0 w0 N s2 a' w' → Q .normal a' w') :
    ∀ (fuel : Nat) (listed : Array Bool) (a : Go.Act) (w : World), listed.size = ops.size → (∀ j, q.length ≤ j → j < ops.size → listed.getD j false = false) → fuel = cnt (fun j => !listed.getD j false) ops.size →
      Far γ Γ ops es fs q B F0 w0 N s1 s3 listed a w → wpAny P .any ops Q fuel listed a w := by
  have fin : ∀ (fuel : Nat) (listed : Array Bool) (a : Go.Act) (w : World), listed.size = ops.size → (∀ j, q.length ≤ j → j < ops.size → listed.getD j false = false) → fuel = cnt (fun j => !listed.getD j false) ops.size →
      Far γ Γ ops es fs q B F0 w0 N s1 s3 listed a w → (∀ j, j < q.length → listed.getD j false = true) → wpAny P .any ops Q fuel listed a w := by
    intro fuel listed a w hsz hL hf hr hall
    obtain ⟨fs1, fs2, σ, hfs, hF1, hF2, hl1, hl2, hdown, hr⟩ := hr
    have hn : fs2 = [] := by
      cases fs2 with
      | nil => rfl
      | cons f r =>
        exfalso
        obtain ⟨x, hx, _⟩ := D.eff (f := f) (by rw [hfs]; simp)
        have := hall f.1 (List.getElem?_eq_some_iff.1 hx).1
        rw [hl2 f (by simp)] at this; simp at this
    subst hn
    simp only [evF, Option.some.injEq] at hF2; subst hF2
    have hge := cnt_ge (f := fun j => !listed.getD j false) (m := q.length) ops.size fun j h1 h2 => by simp only [hL j h1 h2, Bool.not_false]
    refine tail_sound hb ht fuel q.length listed a w (Nat.le_refl _) (by omega) hsz (fun j hj => ?_) ?_
    · by_cases hjq : j < q.length
      · rw [hall j hjq]; simp [hjq]
      · rw [hL j (by omega) hj]; simp [hjq]
    · refine ev_sound D.hΓ t hct h2 (hr.less (fun i v hi => ?_) fun i v hi => ?_) trivial (by simp) fun a' w' hr' _ => by simp only [wpList]; exact hQ a' w' hr'
      · rw [mid_ob_of]
        · exact hi
        · intro hu
          obtain ⟨j, y, hj1, hj2, _⟩ := mem_unk.1 hu
          rw [Nat.zero_add, hall j (List.getElem?_eq_some_iff.1 hj1).1] at hj2; simp at hj2
      · rw [mid_fr_of]
        · exact hi
        · intro hu
          obtain ⟨j, y, hj1, hj2, _⟩ := mem_unl.1 hu
          rw [Nat.zero_add, hall j (List.getElem?_eq_some_iff.1 hj1).1] at hj2; simp at hj2
  intro fuel
  induction fuel with
  | zero =>
    intro listed a w hsz hL hf hr
    by_cases hall : ∀ j, j < q.length → listed.getD j false = true
    case neg =>
      simp only [Classical.not_forall] at hall
      obtain ⟨j, hj, hl⟩ := hall
      exfalso
      have := cnt_flip (f := fun j => !listed.getD j false) (g := fun k => if k = j then false else !listed.getD k false) (i := j) (by simpa using hl) (by simp) (fun k hk => by simp [hk]) ops.size
      rw [if_pos (by omega), ← hf] at this
      omega
    · exact fin 0 listed a w hsz hL hf hr hall
  | succ fuel ih =>
    intro listed a w hsz hL hf hr
    by_cases hall : ∀ j, j < q.length → listed.getD j false = true
    · exact fin (fuel + 1) listed a w hsz hL hf hr hall
    · simp only [Classical.not_forall] at hall
      obtain ⟨j, hj, hl⟩ := hall
      have hl : listed.getD j false = false := by simpa using hl
      refine ⟨fun hn => ?_, fun i hi => ?_⟩
      · obtain ⟨i, hi⟩ := ready_some hb hsz (j + 1) j (by omega) (by omega) hl
        rw [hn] at hi; simp at hi
      · obtain ⟨h0, o, ho, _⟩ := mem_ready.1 hi
        have hio : i < ops.size := (Array.getElem?_eq_some_iff.1 ho).1
        have hiq : i < q.length := by
          rcases Nat.lt_or_ge i q.length with h | h
          · exact h
          · exfalso
            rcases Nat.lt_or_ge q.length i with h2 | h2
            · have := binding_listed (tail_next ht ho h2) ho hi
              rw [hL (i - 1) (by omega) (by omega)] at this; simp at this
            · obtain rfl : i = q.length := by omega
              obtain ⟨_, _, _, _, _, _, _, _, hdown, _⟩ := hr
              have := anc_listed hdown (tail_first ht hio) (fun k hk => by
                simp only [bindAt, ho] at hk
                exact binding_listed hk ho hi) ops.size j (by omega) (by simpa using hj)
              rw [hl] at this; simp at this
        have h0' : listed.getD i false = false := by
          rw [Array.getD_eq_getD_getElem?, Array.getElem?_eq_getElem (by omega)] at h0 ⊢
          simpa using h0
        have hhead : Head fs listed i := by
          obtain ⟨_, _, _, _, _, _, _, _, hdown, _⟩ := id hr
          exact head_prev hprev D.hfs hdown hi
        refine D.step (List.getElem?_eq_getElem hiq) hsz hi hhead hr fun a' w' hr' => ih _ a' w' (by simpa using hsz) (fun j h1 h2 => ?_) ?_ hr'
        · rw [getD_set_ne _ (by omega)]; exact hL j h1 h2
        · have := cnt_flip (f := fun j => !listed.getD j false) (g := fun j => !(listed.setIfInBounds i true).getD j false) (i := i) (by simpa using h0')
            (by simp [Array.getD_eq_getD_getElem?, show i < listed.size by omega]) (fun k hk => by simp only [getD_set_ne _ (Ne.symm hk)]) ops.size
          rw [if_pos hio] at this
          omega
theorem draw_sound {nm : Nat → Option Nat} {Γ : Env} {γ : Array Value} {B N : Nat} {F0 : Facts} {w0 : World} {q : List DIt} {es : List (Nat × Nat × List AV)} {fs : List Eff} {t : AI} {s s0 s1 s2 s3 : St} {id : Nat} {a : Go.Act} {w : World}
    (hΓ : EnvOk P nm Γ) (hmix : P.follows .mixedOrders = true) (hc : chkDraw P nm N q es fs t ops = true) (h1 : evq Γ q s = some s0) (hl0 : late0 Γ s0 q = true) (hA : evA es s0 = some s1) (hok : okA es s1 = true) (hF : evF Γ q es fs s1 = some s3) (h : ev Γ t s3 = some s2) (hr : Rel γ B F0 w0 N s a w)
    (hQ : ∀ a' w', Rel γ B F0 w0 N s2 a' w' → Q .normal a' w') : (Code.region id ops true).wp P Q a w := by
  simp only [chkDraw, Bool.and_eq_true, decide_eq_true_eq] at hc
  obtain ⟨⟨⟨⟨⟨⟨hq, hes⟩, hfs, hprev⟩, hlen⟩, hb⟩, ht⟩, hct⟩ := hc
  split at hct
  case h_2 => simp at hct
  rename_i hct'
  have D : Drawn P nm Γ N ops es fs q s s0 s1 s3 := ⟨hΓ, hq, hes, hfs, h1, hl0, hA, hok⟩
  have hlist : ∀ j, (Array.replicate ops.size false).getD j false = false := fun j => by
    rw [Array.getD_eq_getD_getElem?, Array.getElem?_replicate]; split <;> rfl
  obtain ⟨e1, e2, e3⟩ := evA_spec hA
  refine wp_region_any hmix (draw_any D hprev hb ht hlen hct' h hQ ops.size _ a _ (by simp) (fun j _ _ => hlist j) ?_ ⟨[], fs, s1, rfl, rfl, hF, by simp, fun f _ => hlist _, fun k j _ hk => ?_, hr.drew.less (fun i v hi => ?_) fun i v hi => ?_⟩)
  · have := cnt_ge (f := fun j => !(Array.replicate ops.size false).getD j false) (m := 0) ops.size fun j _ _ => by simp only [hlist j, Bool.not_false]
    have up : ∀ (f : Nat → Bool) n, cnt f n ≤ n := by
      intro f n
      induction n with
      | zero => simp [cnt]
      | succ n ih => simp only [cnt]; split <;> omega
    have := up (fun j => !(Array.replicate ops.size false).getD j false) ops.size
    omega
  · rw [hlist k] at hk; simp at hk
  · obtain ⟨q1, q2⟩ := mid_ob hi
    cases hje : get es i with
    | none => rw [e1 i hje, (evq_keep h1).1] at q1; exact q1
    | some p =>
      exfalso
      obtain ⟨x, hx, hax⟩ := chkEs_mem hes i p.1 p.2 hje
      obtain ⟨j, hj⟩ := List.getElem?_of_mem hx
      exact q2 (mem_unk.2 ⟨j, x, hj, hlist _, hax⟩)
  · obtain ⟨q1, hu⟩ := mid_fr hi
    have hnd : i ∉ DIt.dsts q := by
      intro hd
      obtain ⟨j, y, h1, h2⟩ := mem_dsts.1 hd
      exact hu (mem_unl.2 ⟨j, y, h1, hlist _, h2⟩)
    rw [e3 i, (evq_keep h1).2 i hnd] at q1
    · exact q1
    · rw [List.all_eq_true]
      intro e he
      simp only [bne_iff_ne, ne_eq]
      rintro rfl
      obtain ⟨x, hx, hax⟩ := chkEs_dst hes e he
      obtain ⟨j, hj⟩ := List.getElem?_of_mem hx
      obtain ⟨o, _, _, _, _, hcy, _⟩ := chkQ_at hq hj
      unfold isAlc at hax
      split at hax
      · rename_i kk cc hya
        simp only [beq_iff_eq] at hax; subst hax
        rw [hya] at hcy
        simp only [chkIt, hya, Act.quq, Act.isQ, Act.quiet, Bool.or_self, Bool.false_eq_true, if_false, Bool.and_eq_true, evA_get hA e he, beq_iff_eq] at hcy
        exact hnd (mem_dsts.2 ⟨j, x, hj, hcy.2.1⟩)
      · simp at hax
/-! ### Effects in several orders -/
def splits {α : Type} : List α → List (List α × List α)
  | [] => [([], [])]
  | x :: l => ([], x :: l) :: (splits l).map fun p => (x :: p.1, p.2)
theorem splits_mem {α : Type} : ∀ {l a b : List α}, l = a ++ b → (a, b) ∈ splits l
  | [], a, b, h => by
    have := List.append_eq_nil_iff.1 h.symm
    rw [this.1, this.2]; simp [splits]
  | x :: l, [], b, h => by simp only [List.nil_append] at h; subst h; simp [splits]
  | x :: l, y :: a, b, h => by
    simp only [List.cons_append, List.cons.injEq] at h
    obtain ⟨rfl, h⟩ := h
    simp only [splits, List.mem_cons, List.mem_map]
    exact .inr ⟨(a, b), splits_mem h, rfl⟩
def ancOf (fs : List Eff) (i : Nat) : List Nat := match fs[i]? with | some f => f.2.2.2.2 | none => []
def opOf (fs : List Eff) (i : Nat) : Option Nat := match fs[i]? with | some f => some f.1 | none => none
/-- Whatever comes next, there is an order for it. -/
def chkCl (fs : List Eff) (ps : List (List Nat)) : Bool := ps.all fun p => (splits p).all fun c => c.2.all fun i => (c.2.any fun m => match opOf fs m with | some k => (ancOf fs i).contains k | none => false) || ps.any fun p' => (c.1 ++ [i]).isPrefixOf p'
def chkDrawN (P : Program) (nm : Nat → Option Nat) (N : Nat) (q : List DIt) (es : List (Nat × Nat × List AV)) (fs : List Eff) (ps : List (List Nat)) (t : AI) (ops : Array Oper) : Bool :=
  (ps.all fun p => chkQ P nm N ops es (ordL fs p) q 0 q && chkFsN ops q (ordL fs p) && (p.all fun i => decide (i < fs.length)) && decide p.Nodup && (List.range fs.length).all fun i => p.contains i) && chkCl fs ps && chkEs q es && decide (q.length ≤ ops.size) && chkBack ops && chkTail ops q.length && (match chkAI P nm N ops t none [] [] (ops.toList.drop q.length) with | some [] => true | _ => false)
theorem ordL_append (fs : List Eff) (a b : List Nat) : ordL fs (a ++ b) = ordL fs a ++ ordL fs b := by unfold ordL; exact List.filterMap_append
theorem ordL_one {fs : List Eff} {i : Nat} {f : Eff} (h : fs[i]? = some f) : ordL fs [i] = [f] := by simp [ordL, h]
theorem ordL_mem {fs : List Eff} {p : List Nat} {f : Eff} (h : f ∈ ordL fs p) : ∃ i ∈ p, fs[i]? = some f := by simpa [ordL] using h
theorem ordL_split {fs : List Eff} : ∀ {p : List Nat} {l1 l2 : List Eff}, (∀ i ∈ p, i < fs.length) → ordL fs p = l1 ++ l2 → ∃ a b, p = a ++ b ∧ ordL fs a = l1 ∧ ordL fs b = l2
  | p, [], l2, _, h => ⟨[], p, rfl, rfl, by simpa using h⟩
  | [], f :: l1, l2, _, h => by simp [ordL] at h
  | i :: p, f :: l1, l2, hp, h => by
    have hi := hp i (by simp)
    have e : ordL fs (i :: p) = fs[i] :: ordL fs p := by simp [ordL, List.getElem?_eq_getElem hi]
    rw [e] at h
    simp only [List.cons_append, List.cons.injEq] at h
    obtain ⟨rfl, h⟩ := h
    obtain ⟨a, b, rfl, h1, h2⟩ := ordL_split (fun j hj => hp j (by simp [hj])) h
    exact ⟨i :: a, b, rfl, by rw [← h1]; simp [ordL, List.getElem?_eq_getElem hi], h2⟩
theorem cut_unique {α : Type} (d : α → Bool) : ∀ {a b a' b' : List α}, a ++ b = a' ++ b' → (∀ x ∈ a, d x = true) → (∀ x ∈ b, d x = false) → (∀ x ∈ a', d x = true) → (∀ x ∈ b', d x = false) → a' = a ∧ b' = b
  | [], b, [], b', h, _, _, _, _ => ⟨rfl, by simpa using h.symm⟩
  | x :: a, b, [], b', h, h1, _, _, h4 => by
    simp only [List.nil_append] at h; subst h
    have := h1 x (by simp); rw [h4 x (by simp)] at this; simp at this
  | [], b, x :: a', b', h, _, h2, h3, _ => by
    simp only [List.nil_append] at h; subst h
    have := h3 x (by simp); rw [h2 x (by simp)] at this; simp at this
  | x :: a, b, y :: a', b', h, h1, h2, h3, h4 => by
    simp only [List.cons_append, List.cons.injEq] at h
    obtain ⟨rfl, h⟩ := h
    obtain ⟨e1, e2⟩ := cut_unique d h (fun z hz => h1 z (by simp [hz])) h2 (fun z hz => h3 z (by simp [hz])) h4
    exact ⟨by rw [e1], e2⟩
theorem evF_split {Γ : Env} {q : List DIt} {es : List (Nat × Nat × List AV)} : ∀ {a b : List Eff} {s s' : St}, evF Γ q es (a ++ b) s = some s' → ∃ σ, evF Γ q es a s = some σ ∧ evF Γ q es b σ = some s'
  | [], b, s, s', h => ⟨s, rfl, h⟩
  | (j, d, A, ls, o) :: a, b, s, s', h => by
    simp only [List.cons_append, evF] at h ⊢
    cases hk : effKey s A with
    | none =>
      rw [hk] at h
      simp only at h ⊢
      cases hg : actG Γ q s (j, d, A, ls, o) with
      | none => rw [hg] at h; simp at h
      | some r =>
        obtain ⟨v, t⟩ := r
        rw [hg] at h
        simp only at h ⊢
        split at h
        · rename_i hc; rw [if_pos hc]; exact evF_split h
        · simp at h
    | some k =>
      rw [hk] at h
      simp only at h ⊢
      cases hg : act Γ s A with
      | none => rw [hg] at h; simp at h
      | some r =>
        obtain ⟨v, t⟩ := r
        rw [hg] at h
        simp only at h ⊢
        split at h
        · rename_i hc; rw [if_pos hc]; exact evF_split h
        · simp at h
theorem drawN_any {nm : Nat → Option Nat} {Γ : Env} {γ : Array Value} {B N : Nat} {F0 : Facts} {w0 : World} {q : List DIt} {es : List (Nat × Nat × List AV)} {fs : List Eff} {ps : List (List Nat)} {t : AI} {s s0 s1 : St}
    (hΓ : EnvOk P nm Γ) (hc : chkDrawN P nm N q es fs ps t ops = true) (h1 : evq Γ q s = some s0) (hl0 : late0 Γ s0 q = true) (hA : evA es s0 = some s1) (hok : okA es s1 = true)
    (hE : ∀ p ∈ ps, ∃ s3 s4, evF Γ q es (ordL fs p) s1 = some s3 ∧ ev Γ t s3 = some s4 ∧ ∀ a' w', Rel γ B F0 w0 N s4 a' w' → Q .normal a' w') :
    ∀ (fuel : Nat) (listed : Array Bool) (a : Go.Act) (w : World), listed.size = ops.size → (∀ j, q.length ≤ j → j < ops.size → listed.getD j false = false) → fuel = cnt (fun j => !listed.getD j false) ops.size →
      (∃ p ∈ ps, ∃ s3, Far γ Γ ops es (ordL fs p) q B F0 w0 N s1 s3 listed a w) → wpAny P .any ops Q fuel listed a w := by
  simp only [chkDrawN, Bool.and_eq_true, decide_eq_true_eq, List.all_eq_true, List.mem_range, List.contains_eq_mem] at hc
  obtain ⟨⟨⟨⟨⟨⟨hps, hcl⟩, hes⟩, hlen⟩, hb⟩, ht⟩, hct⟩ := hc
  have hps : ∀ p ∈ ps, (chkQ P nm N ops es (ordL fs p) q 0 q = true ∧ chkFsN ops q (ordL fs p) = true) ∧ (∀ i ∈ p, i < fs.length) ∧ p.Nodup ∧ ∀ i, i < fs.length → i ∈ p := fun p hp => by
    have := hps p hp
    exact ⟨this.1.1.1, this.1.1.2, this.1.2, this.2⟩
  split at hct
  case h_2 => simp at hct
  rename_i hct'
  have DD : ∀ p ∈ ps, ∀ s3, Drawn P nm Γ N ops es (ordL fs p) q s s0 s1 s3 := fun p hp s3 => ⟨hΓ, (hps p hp).1.1, hes, (hps p hp).1.2, h1, hl0, hA, hok⟩
  have fin : ∀ (fuel : Nat) (listed : Array Bool) (a : Go.Act) (w : World), listed.size = ops.size → (∀ j, q.length ≤ j → j < ops.size → listed.getD j false = false) → fuel = cnt (fun j => !listed.getD j false) ops.size →
      (∃ p ∈ ps, ∃ s3, Far γ Γ ops es (ordL fs p) q B F0 w0 N s1 s3 listed a w) → (∀ j, j < q.length → listed.getD j false = true) → wpAny P .any ops Q fuel listed a w := by
    rintro fuel listed a w hsz hL hf ⟨p, hp, s3, fs1, fs2, σ, hfs, hF1, hF2, hl1, hl2, hdown, hr⟩ hall
    obtain ⟨s3', s4, g1, g2, hQ⟩ := hE p hp
    have hn : fs2 = [] := by
      cases fs2 with
      | nil => rfl
      | cons f r =>
        exfalso
        obtain ⟨x, hx, _⟩ := (DD p hp s3).eff (f := f) (by rw [hfs]; simp)
        have := hall f.1 (List.getElem?_eq_some_iff.1 hx).1
        rw [hl2 f (by simp)] at this; simp at this
    subst hn
    simp only [evF, Option.some.injEq] at hF2; subst hF2
    rw [List.append_nil] at hfs
    rw [hfs, hF1, Option.some.injEq] at g1; subst g1
    have hge := cnt_ge (f := fun j => !listed.getD j false) (m := q.length) ops.size fun j h1 h2 => by simp only [hL j h1 h2, Bool.not_false]
    refine tail_sound hb ht fuel q.length listed a w (Nat.le_refl _) (by omega) hsz (fun j hj => ?_) ?_
    · by_cases hjq : j < q.length
      · rw [hall j hjq]; simp [hjq]
      · rw [hL j (by omega) hj]; simp [hjq]
    · refine ev_sound hΓ t hct' g2 (hr.less (fun i v hi => ?_) fun i v hi => ?_) trivial (by simp) fun a' w' hr' _ => by simp only [wpList]; exact hQ a' w' hr'
      · rw [mid_ob_of]
        · exact hi
        · intro hu
          obtain ⟨j, y, hj1, hj2, _⟩ := mem_unk.1 hu
          rw [Nat.zero_add, hall j (List.getElem?_eq_some_iff.1 hj1).1] at hj2; simp at hj2
      · rw [mid_fr_of]
        · exact hi
        · intro hu
          obtain ⟨j, y, hj1, hj2, _⟩ := mem_unl.1 hu
          rw [Nat.zero_add, hall j (List.getElem?_eq_some_iff.1 hj1).1] at hj2; simp at hj2
  intro fuel
  induction fuel with
  | zero =>
    intro listed a w hsz hL hf hr
    by_cases hall : ∀ j, j < q.length → listed.getD j false = true
    case neg =>
      simp only [Classical.not_forall] at hall
      obtain ⟨j, hj, hl⟩ := hall
      exfalso
      have := cnt_flip (f := fun j => !listed.getD j false) (g := fun k => if k = j then false else !listed.getD k false) (i := j) (by simpa using hl) (by simp) (fun k hk => by simp [hk]) ops.size
      rw [if_pos (by omega), ← hf] at this
      omega
    · exact fin 0 listed a w hsz hL hf hr hall
  | succ fuel ih =>
    intro listed a w hsz hL hf hr
    by_cases hall : ∀ j, j < q.length → listed.getD j false = true
    · exact fin (fuel + 1) listed a w hsz hL hf hr hall
    · simp only [Classical.not_forall] at hall
      obtain ⟨j, hj, hl⟩ := hall
      have hl : listed.getD j false = false := by simpa using hl
      refine ⟨fun hn => ?_, fun i hi => ?_⟩
      · obtain ⟨i, hi⟩ := ready_some hb hsz (j + 1) j (by omega) (by omega) hl
        rw [hn] at hi; simp at hi
      · obtain ⟨h0, o, ho, _⟩ := mem_ready.1 hi
        have hio : i < ops.size := (Array.getElem?_eq_some_iff.1 ho).1
        have hiq : i < q.length := by
          rcases Nat.lt_or_ge i q.length with h | h
          · exact h
          · exfalso
            rcases Nat.lt_or_ge q.length i with h2 | h2
            · have := binding_listed (tail_next ht ho h2) ho hi
              rw [hL (i - 1) (by omega) (by omega)] at this; simp at this
            · obtain rfl : i = q.length := by omega
              obtain ⟨_, _, _, _, _, _, _, _, _, _, _, hdown, _⟩ := hr
              have := anc_listed hdown (tail_first ht hio) (fun k hk => by
                simp only [bindAt, ho] at hk
                exact binding_listed hk ho hi) ops.size j (by omega) (by simpa using hj)
              rw [hl] at this; simp at this
        have h0' : listed.getD i false = false := by
          rw [Array.getD_eq_getD_getElem?, Array.getElem?_eq_getElem (by omega)] at h0 ⊢
          simpa using h0
        -- an order in which it comes next
        have hsel : ∃ p ∈ ps, ∃ s3, Far γ Γ ops es (ordL fs p) q B F0 w0 N s1 s3 listed a w ∧ Head (ordL fs p) listed i := by
          obtain ⟨p, hp, s3, hfar⟩ := hr
          by_cases hex : ∃ f ∈ ordL fs p, f.1 = i
          · obtain ⟨f, hf1, hf2⟩ := hex
            obtain ⟨fs1, fs2, σ, hfs, hF1, hF2, hl1, hl2, hdown, hrel⟩ := id hfar
            obtain ⟨pa, pb, hpab, ea, eb⟩ := ordL_split (hps p hp).2.1 hfs
            have hfb : f ∈ fs2 := by
              rw [hfs] at hf1
              rcases List.mem_append.1 hf1 with h | h
              · have := hl1 f h; rw [hf2, h0'] at this; simp at this
              · exact h
            rw [← eb] at hfb
            obtain ⟨m, hm, hmf⟩ := ordL_mem hfb
            unfold chkCl at hcl
            simp only [List.all_eq_true, Bool.or_eq_true, List.any_eq_true] at hcl
            rcases hcl p hp (pa, pb) (splits_mem hpab) m hm with ⟨m2, hm2, hanc⟩ | ⟨p', hp', hpre⟩
            · exfalso
              unfold opOf ancOf at hanc
              cases hg : fs[m2]? with
              | none => rw [hg] at hanc; simp at hanc
              | some g =>
                rw [hg, hmf] at hanc
                simp only [List.contains_eq_mem, decide_eq_true_eq] at hanc
                obtain ⟨l1, l2, hl12⟩ := List.append_of_mem (l := ordL fs p) (a := f) hf1
                obtain ⟨_, g2, _, _⟩ := chkFsN_at (hps p hp).1.2 l1 f l2 hl12
                have hgl := anc_listed hdown g2 (fun i2 hb2 => by
                  unfold bindAt at hb2
                  rw [hf2, ho] at hb2
                  exact binding_listed hb2 ho hi) ops.size g.1 (by omega) hanc
                have hgm : g ∈ fs2 := by rw [← eb]; simp only [ordL, List.mem_filterMap]; exact ⟨m2, hm2, hg⟩
                have := hl2 g hgm
                rw [hgl] at this; simp at this
            · simp only [List.isPrefixOf_iff_prefix] at hpre
              obtain ⟨pr, hpr⟩ := hpre
              have e' : ordL fs p' = fs1 ++ (f :: ordL fs pr) := by
                rw [← hpr, ordL_append, ordL_append, ea, ordL_one hmf]; simp
              obtain ⟨s3', s4, g1, _⟩ := hE p' hp'
              have hF : ∃ σ', evF Γ q es fs1 s1 = some σ' ∧ evF Γ q es (f :: ordL fs pr) σ' = some s3' := by
                rw [e'] at g1; exact evF_split g1
              obtain ⟨σ', hs1, hs2⟩ := hF
              rw [hF1, Option.some.injEq] at hs1; subst hs1
              have hnodup : ∀ g ∈ ordL fs pr, g.1 ≠ f.1 := by
                obtain ⟨_, _, _, g5⟩ := chkFsN_at (hps p' hp').1.2 fs1 f (ordL fs pr) e'
                exact g5
              -- what is left of this order is not done: it is left of the other one, too
              have hleft : ∀ g ∈ ordL fs pr, listed.getD g.1 false = false := by
                intro g hg
                obtain ⟨i2, hi2, hg2⟩ := ordL_mem hg
                have hi2l := (List.getElem?_eq_some_iff.1 hg2).1
                have hin : i2 ∈ pa ++ pb := by rw [← hpab]; exact (hps p hp).2.2.2 i2 hi2l
                rcases List.mem_append.1 hin with h | h
                · exfalso
                  have hnd := (hps p' hp').2.2.1
                  rw [← hpr, List.append_assoc, List.nodup_append] at hnd
                  exact hnd.2.2 i2 h i2 (by simp [hi2]) rfl
                · refine hl2 g ?_
                  rw [← eb]; simp only [ordL, List.mem_filterMap]; exact ⟨i2, h, hg2⟩
              have hfu : listed.getD f.1 false = false := by rw [hf2]; exact h0'
              refine ⟨p', hp', s3', ⟨fs1, f :: ordL fs pr, σ, e', hF1, hs2, hl1, fun g hg => ?_, hdown, hrel⟩, fun fs1' fs2' f' hfs' hl1' hl2' hf' hfi' => ?_⟩
              · rcases List.mem_cons.1 hg with rfl | hg
                · exact hfu
                · exact hleft g hg
              · -- the parts that are done and not are the same
                have hcut : fs1' = fs1 ∧ fs2' = f :: ordL fs pr := by
                  rw [e'] at hfs'
                  exact cut_unique (fun g => listed.getD g.1 false) hfs' hl1 (fun g hg => by
                    rcases List.mem_cons.1 hg with rfl | hg
                    · exact hfu
                    · exact hleft g hg) hl1' hl2'
                obtain ⟨rfl, rfl⟩ := hcut
                refine ⟨ordL fs pr, ?_⟩
                rcases List.mem_cons.1 hf' with rfl | hf'
                · rfl
                · exact absurd (by rw [hfi', hf2]) (hnodup f' hf')
          · refine ⟨p, hp, s3, hfar, fun fs1 fs2 f hfs _ _ hf hfi => absurd ⟨f, by rw [hfs]; simp [hf], hfi⟩ hex⟩
        obtain ⟨p, hp, s3, hfar, hhead⟩ := hsel
        refine (DD p hp s3).step (List.getElem?_eq_getElem hiq) hsz hi hhead hfar fun a' w' hr' => ih _ a' w' (by simpa using hsz) (fun j h1 h2 => ?_) ?_ ⟨p, hp, s3, hr'⟩
        · rw [getD_set_ne _ (by omega)]; exact hL j h1 h2
        · have := cnt_flip (f := fun j => !listed.getD j false) (g := fun j => !(listed.setIfInBounds i true).getD j false) (i := i) (by simpa using h0')
            (by simp [Array.getD_eq_getD_getElem?, show i < listed.size by omega]) (fun k hk => by simp only [getD_set_ne _ (Ne.symm hk)]) ops.size
          rw [if_pos hio] at this
          omega
theorem sameObj_eq {a b : Option Obj} (h : sameObj a b = true) : a = b := by
  unfold sameObj at h
  split at h
  · rename_i x y
    simp only [Bool.and_eq_true, decide_eq_true_eq] at h
    have := eqRows_eq _ _ h.2
    cases x; cases y; simp_all
  · rfl
  · simp at h
theorem sameObj_self (a : Option Obj) : sameObj a a = true := by
  cases a with
  | none => rfl
  | some x => simp [sameObj, eqRows_self]
theorem sameOb_get {a b : List (Nat × Obj)} (h : sameOb a b = true) (k : Nat) : get a k = get b k := by
  unfold sameOb at h
  simp only [List.all_eq_true, List.mem_append] at h
  cases ha : get a k with
  | some x => rw [← ha]; exact sameObj_eq (h (k, x) (.inl (get_mem ha)))
  | none =>
    cases hb : get b k with
    | none => rfl
    | some y => rw [← ha, ← hb]; exact sameObj_eq (h (k, y) (.inr (get_mem hb)))
theorem sameOb_of {a b : List (Nat × Obj)} (h : ∀ k, get a k = get b k) : sameOb a b = true := by
  unfold sameOb
  simp only [List.all_eq_true]
  intro p _
  rw [h p.1]; exact sameObj_self _
theorem sameFr_eq : ∀ {a b : List (Nat × AV)}, sameFr a b = true → a = b
  | [], [], _ => rfl
  | [], _ :: _, h => by simp [sameFr] at h
  | _ :: _, [], h => by simp [sameFr] at h
  | (i, v) :: a, (j, u) :: b, h => by
    simp only [sameFr, Bool.and_eq_true, decide_eq_true_eq] at h
    rw [h.1.1, eqA_eq _ _ h.1.2, sameFr_eq h.2]
theorem sameFr_self : ∀ a : List (Nat × AV), sameFr a a = true
  | [] => rfl
  | (i, v) :: a => by simp only [sameFr, decide_true, eqA_self, sameFr_self a, Bool.and_self]
theorem get_ghsJ : ∀ (l : List (Nat × AV)) (i : Nat), get (ghs l) i = if GB ≤ i then get l i else none
  | [], i => by simp [ghs, get]
  | (j, v) :: l, i => by
    simp only [ghs]
    by_cases hj : GB ≤ j
    · rw [if_pos hj]
      simp only [get]
      by_cases h : j = i
      · subst h; rw [if_pos rfl, if_pos hj, if_pos rfl]
      · rw [if_neg h, if_neg h]; exact get_ghsJ l i
    · rw [if_neg hj, get_ghsJ l i]
      by_cases hi : GB ≤ i
      · rw [if_pos hi, if_pos hi]; simp only [get]; rw [if_neg (by omega)]
      · rw [if_neg hi, if_neg hi]
theorem evN_mem {Γ : Env} {q : List DIt} {es : List (Nat × Nat × List AV)} {fs : List Eff} {t : AI} {s : St} : ∀ {ps : List (List Nat)} {s2 : St} {rs : List St}, evN Γ q es fs t s ps = some (s2, rs) → ∀ p ∈ ps, ∃ s3 s4, evF Γ q es (ordL fs p) s = some s3 ∧ ev Γ t s3 = some s4 ∧ (s4 = s2 ∨ s4 ∈ rs)
  | [], _, _, h => by simp [evN] at h
  | p :: ps, s2, rs, h => by
    simp only [evN] at h
    split at h
    · simp at h
    · rename_i s3 h3
      split at h
      · simp at h
      · rename_i s4 h4
        split at h
        · simp only [Option.some.injEq, Prod.mk.injEq] at h
          obtain ⟨rfl, rfl⟩ := h
          intro p' hp'
          simp only [List.mem_singleton] at hp'
          subst hp'
          exact ⟨s3, s4, h3, h4, .inl rfl⟩
        · rename_i p2 ps2
          split at h
          · rename_i s5 r h5
            simp only [Option.some.injEq, Prod.mk.injEq] at h
            obtain ⟨rfl, rfl⟩ := h
            intro p' hp'
            rcases List.mem_cons.1 hp' with rfl | hp'
            · exact ⟨s3, s4, h3, h4, .inl rfl⟩
            · obtain ⟨a, b, e1, e2, e3⟩ := evN_mem h5 p' hp'
              refine ⟨a, b, e1, e2, .inr ?_⟩
              rcases e3 with rfl | e3
              · simp
              · simp [e3]
          · simp at h
theorem get_app {α : Type} : ∀ (a b : List (Nat × α)) (i : Nat), get (a ++ b) i = match get a i with | some v => some v | none => get b i
  | [], b, i => by simp [get]
  | (j, v) :: a, b, i => by
    simp only [List.cons_append, get]
    by_cases h : j = i
    · rw [if_pos h, if_pos h]
    · rw [if_neg h, if_neg h]; exact get_app a b i
theorem get_keepghs {ks : List Nat} {l : List (Nat × AV)} {i : Nat} {v : AV} (h : get (keep ks l ++ ghs l) i = some v) : get l i = some v := by
  rw [get_app] at h
  cases hk : get (keep ks l) i with
  | some u => rw [hk] at h; simp only [Option.some.injEq] at h; subst h; exact get_keep l ks i _ hk
  | none =>
    rw [hk] at h
    simp only [get_ghsJ] at h
    split at h
    · exact h
    · simp at h
theorem drawN_sound {nm : Nat → Option Nat} {Γ : Env} {γ : Array Value} {B N : Nat} {F0 : Facts} {w0 : World} {q : List DIt} {es : List (Nat × Nat × List AV)} {fs : List Eff} {ps : List (List Nat)} {t : AI} {s s0 s1 s2 : St} {rs : List St} {ks : List Nat} {id : Nat} {a : Go.Act} {w : World}
    (hΓ : EnvOk P nm Γ) (hmix : P.follows .mixedOrders = true) (hc : chkDrawN P nm N q es fs ps t ops = true) (h1 : evq Γ q s = some s0) (hl0 : late0 Γ s0 q = true) (hA : evA es s0 = some s1) (hok : okA es s1 = true)
    (hE : evN Γ q es fs t s1 ps = some (s2, rs)) (hs : (rs.all (sameN ks s2)) = true) (hr : Rel γ B F0 w0 N s a w)
    (hQ : ∀ a' w', Rel γ B F0 w0 N ⟨keep ks s2.fr ++ ghs s2.fr, s2.ob⟩ a' w' → Q .normal a' w') : (Code.region id ops true).wp P Q a w := by
  have hc0 := hc
  simp only [chkDrawN, Bool.and_eq_true, decide_eq_true_eq, List.all_eq_true] at hc0
  have hlist : ∀ j, (Array.replicate ops.size false).getD j false = false := fun j => by
    rw [Array.getD_eq_getD_getElem?, Array.getElem?_replicate]; split <;> rfl
  obtain ⟨e1, e2, e3⟩ := evA_spec hA
  have hes := hc0.1.1.1.1.2
  have hmem := evN_mem hE
  have hne : ∃ p, p ∈ ps := by
    cases ps with
    | nil => simp [evN] at hE
    | cons p ps => exact ⟨p, by simp⟩
  obtain ⟨p0, hp0⟩ := hne
  obtain ⟨s30, s40, hF0, _, _⟩ := hmem p0 hp0
  have hq := (hc0.1.1.1.1.1.1 p0 hp0).1.1.1.1
  refine wp_region_any hmix (drawN_any hΓ hc h1 hl0 hA hok (fun p hp => ?_) ops.size _ a _ (by simp) (fun j _ _ => hlist j) ?_ ⟨p0, hp0, s30, [], ordL fs p0, s1, rfl, rfl, hF0, by simp, fun f _ => hlist _, fun k j _ hk => ?_, hr.drew.less (fun i v hi => ?_) fun i v hi => ?_⟩)
  · obtain ⟨s3, s4, g1, g2, g3⟩ := hmem p hp
    refine ⟨s3, s4, g1, g2, fun a' w' hr' => hQ a' w' (hr'.less (fun k o hk => ?_) fun i v hi => ?_)⟩
    · rcases g3 with rfl | g3
      · exact hk
      · have := List.all_eq_true.1 hs s4 g3
        simp only [sameN, Bool.and_eq_true] at this
        rw [← sameOb_get this.1.1 k]; exact hk
    · rcases g3 with rfl | g3
      · exact get_keepghs hi
      · have := List.all_eq_true.1 hs s4 g3
        simp only [sameN, Bool.and_eq_true] at this
        rw [sameFr_eq this.1.2, sameFr_eq this.2] at hi
        exact get_keepghs hi
  · have := cnt_ge (f := fun j => !(Array.replicate ops.size false).getD j false) (m := 0) ops.size fun j _ _ => by simp only [hlist j, Bool.not_false]
    have up : ∀ (f : Nat → Bool) n, cnt f n ≤ n := by
      intro f n
      induction n with
      | zero => simp [cnt]
      | succ n ih => simp only [cnt]; split <;> omega
    have := up (fun j => !(Array.replicate ops.size false).getD j false) ops.size
    omega
  · rw [hlist k] at hk; simp at hk
  · obtain ⟨q1, q2⟩ := mid_ob hi
    cases hje : get es i with
    | none => rw [e1 i hje, (evq_keep h1).1] at q1; exact q1
    | some p =>
      exfalso
      obtain ⟨x, hx, hax⟩ := chkEs_mem hes i p.1 p.2 hje
      obtain ⟨j, hj⟩ := List.getElem?_of_mem hx
      exact q2 (mem_unk.2 ⟨j, x, hj, hlist _, hax⟩)
  · obtain ⟨q1, hu⟩ := mid_fr hi
    have hnd : i ∉ DIt.dsts q := by
      intro hd
      obtain ⟨j, y, h1, h2⟩ := mem_dsts.1 hd
      exact hu (mem_unl.2 ⟨j, y, h1, hlist _, h2⟩)
    rw [e3 i, (evq_keep h1).2 i hnd] at q1
    · exact q1
    · rw [List.all_eq_true]
      intro e he
      simp only [bne_iff_ne, ne_eq]
      rintro rfl
      obtain ⟨x, hx, hax⟩ := chkEs_dst hes e he
      obtain ⟨j, hj⟩ := List.getElem?_of_mem hx
      obtain ⟨o, _, _, _, _, hcy, _⟩ := chkQ_at hq hj
      unfold isAlc at hax
      split at hax
      · rename_i kk cc hya
        simp only [beq_iff_eq] at hax; subst hax
        rw [hya] at hcy
        simp only [chkIt, hya, Act.quq, Act.isQ, Act.quiet, Bool.or_self, Bool.false_eq_true, if_false, Bool.and_eq_true, evA_get hA e he, beq_iff_eq] at hcy
        exact hnd (mem_dsts.2 ⟨j, x, hj, hcy.2.1⟩)
      · simp at hax
end
end Go.Am
