/- Code, functions. -/
import Derived.Test.YtdnmppikakpdiaaAj
set_option linter.unusedVariables false
namespace Go.Am
open Go.RowKit

def oLt : Operand → Bool
  | .tmp n => decide (n < GB)
  | _ => true
theorem eval_oLt {a : Go.Act} {γ : Array Value} {c : Operand} (hs : a.tmps.size ≤ GB) (h : oLt c = true) : (padA a γ).eval c = a.eval c := by
  cases c with
  | tmp n => exact pad_getD_lt a γ n hs (by simpa [oLt] using h)
  | _ => rfl
def chkAC (P : Program) (nm : Nat → Option Nat) (N : Nat) : AC → Code → Bool
  | .skip, .skip => true
  | .reg o, .region _ ops false => (match chkAI P nm N ops o none [] [] ops.toList with | some [] => true | _ => false)
  | .draw q es fs t, .region _ ops true => chkDraw P nm N q es fs t ops
  | .drawN q es fs ps t _, .region _ ops true => chkDrawN P nm N q es fs ps t ops
  | .seq a b, .seq x y => chkAC P nm N a x && chkAC P nm N b y
  | .cond c a b, .cond c' x y => chkO c' c && oLt c' && chkAC P nm N a x && chkAC P nm N b y
  | .block id a, .block id' x => id == id' && chkAC P nm N a x
  | .loop a, .loop x => chkAC P nm N a x
  | .exit id, .exit id' => id == id'
  | .ret, .ret => true
  | .keep _ _ a, x => chkAC P nm N a x
  | .own _ key a, x => decide (key < MK) && chkAC P nm N a x
  | .after _ _ a, x => chkAC P nm N a x
  | .keepP _ _ _ _ a, x => chkAC P nm N a x
  | .ren _ a, x => chkAC P nm N a x
  | .renA _ a, x => chkAC P nm N a x
  | .any, _ => true
  | _, _ => false
theorem chkAC_reg {P : Program} {nm : Nat → Option Nat} {N : Nat} {o : AI} {x : Code} (h : chkAC P nm N (.reg o) x = true) :
    ∃ id ops, x = .region id ops false ∧ (match chkAI P nm N ops o none [] [] ops.toList with | some [] => true | _ => false) = true := by
  cases x <;> try (simp [chkAC] at h; done)
  rename_i id ops dw
  cases dw
  · exact ⟨id, ops, rfl, by simpa only [chkAC] using h⟩
  · simp [chkAC] at h
theorem chkAC_draw {P : Program} {nm : Nat → Option Nat} {N : Nat} {q : List DIt} {es : List (Nat × Nat × List AV)} {fs : List Eff} {t : AI} {x : Code} (h : chkAC P nm N (.draw q es fs t) x = true) : ∃ id ops, x = .region id ops true ∧ chkDraw P nm N q es fs t ops = true := by
  cases x <;> try (simp [chkAC] at h; done)
  rename_i id ops dw
  cases dw
  · simp [chkAC] at h
  · exact ⟨id, ops, rfl, by simpa only [chkAC] using h⟩
theorem chkAC_drawN {P : Program} {nm : Nat → Option Nat} {N : Nat} {q : List DIt} {es : List (Nat × Nat × List AV)} {fs : List Eff} {ps : List (List Nat)} {t : AI} {ks : List Nat} {x : Code} (h : chkAC P nm N (.drawN q es fs ps t ks) x = true) : ∃ id ops, x = .region id ops true ∧ chkDrawN P nm N q es fs ps t ops = true := by
  cases x <;> try (simp [chkAC] at h; done)
  rename_i id ops dw
  cases dw
  · simp [chkAC] at h
  · exact ⟨id, ops, rfl, by simpa only [chkAC] using h⟩
def exitOf : AX → Exit
  | .norm => .normal
  | .ex id => .exit id
  | .ret => .ret

section
variable {P : Program} {B : Nat} {F F' : Facts} {ρ ρ' : Map} {s : St} {a : Go.Act} {w w' : World} {o : Oper} {ob ob' : List (Nat × Obj)}
theorem Mem.sub (hm : Mem B F ρ ob w) (hs : ∀ k o, get ob' k = some o → get ob k = some o) : Mem B F ρ ob' w where
  facts := hm.facts
  big := hm.big
  bare := fun k o h => hm.bare k o (hs k o h)
  own := fun k o p h1 h2 => by
    obtain ⟨g1, g2⟩ := hm.own k o p (hs k o h1) h2
    exact ⟨g1, g2.imp fun r hr x hx v hv => hv.sub hs⟩
  apart := fun k o p h1 h2 => hm.apart k o p (hs k o h1) h2
  inj := fun k o p k' o' p' h1 h2 h3 h4 => hm.inj k o p k' o' p' (hs k o h1) h2 (hs k' o' h3) h4
theorem Rel.keep {γ : Array Value} {F0 : Facts} {w0 : World} {N : Nat} (ks os : List Nat) (h : Rel γ B F0 w0 N s a w) : Rel γ B F0 w0 N ⟨Am.keep ks s.fr, Am.keep os s.ob⟩ a w := by
  obtain ⟨hG, F, ρ, hm, hf, r⟩ := h
  exact ⟨hG, F, ρ, hm.sub (get_keep s.ob os), (fun i v hi => hf i v (get_keep s.fr ks i v hi) |>.sub (get_keep s.ob os)), r⟩
theorem get_ghs : ∀ (l : List (Nat × AV)) (i : Nat), get (ghs l) i = if GB ≤ i then get l i else none
  | [], i => by simp [ghs, get]
  | (k, v) :: l, i => by
    simp only [ghs, get]
    by_cases hk : GB ≤ k
    · rw [if_pos hk]
      simp only [get]
      by_cases h : k = i
      · subst h; rw [if_pos rfl, if_pos rfl, if_pos hk]
      · rw [if_neg h, if_neg h, get_ghs l i]
    · rw [if_neg hk, get_ghs l i]
      by_cases hi : GB ≤ i
      · rw [if_pos hi, if_pos hi, if_neg (by omega)]
      · rw [if_neg hi, if_neg hi]
theorem get_keepF (lo hi : Nat) (os : List Nat) : ∀ (l : List (Nat × Obj)) (k : Nat) (o : Obj), get (keepF lo hi os l) k = some o → get l k = some o
  | [], k, o, h => by simp [keepF, get] at h
  | (j, u) :: l, k, o, h => by
    simp only [keepF] at h
    by_cases hc : j % KT < lo ∨ hi ≤ j % KT ∨ j ∈ os
    · rw [if_pos hc] at h
      simp only [get] at h ⊢
      by_cases hj : j = k
      · rw [if_pos hj] at h ⊢; exact h
      · rw [if_neg hj] at h ⊢; exact get_keepF lo hi os l k o h
    · rw [if_neg hc] at h
      have := get_keepF lo hi os l k o h
      simp only [get]
      rw [if_neg]
      · exact this
      · rintro rfl
        -- the key is not one that is kept
        have hno : ∀ l : List (Nat × Obj), get (keepF lo hi os l) j = none := by
          intro l
          induction l with
          | nil => rfl
          | cons p l ih =>
            obtain ⟨m, q⟩ := p
            simp only [keepF]
            split
            · rename_i hm
              simp only [get]
              rw [if_neg (by rintro rfl; exact hc hm)]; exact ih
            · exact ih
        rw [hno] at h; simp at h
theorem Rel.keepP {γ : Array Value} {F0 : Facts} {w0 : World} {N : Nat} (ks : List Nat) (lo hi : Nat) (os : List Nat) (h : Rel γ B F0 w0 N s a w) : Rel γ B F0 w0 N ⟨Am.keep ks s.fr ++ ghs s.fr, keepF lo hi os s.ob⟩ a w := by
  refine h.less (get_keepF lo hi os s.ob) fun i v hi => ?_
  rw [get_append] at hi
  cases hk : get (Am.keep ks s.fr) i with
  | some u =>
    rw [hk] at hi
    simp only [Option.some.injEq] at hi; subst hi
    exact get_keep s.fr ks i u hk
  | none =>
    rw [hk] at hi
    simp only at hi
    rw [get_ghs] at hi
    split at hi
    · exact hi
    · simp at hi
theorem Rel.own {γ : Array Value} {F0 : Facts} {w0 : World} {N d key sz : Nat} (hK : key < MK) (h : Rel γ B F0 w0 N s a w) (hd : get s.fr d = some (.nil sz)) (hfree : s.free key = true) : Rel γ B F0 w0 N ((s.obj key ⟨sz, []⟩).put (some d) (.sl key 0 0 0)) a w := by
  obtain ⟨hG, F, ρ, hm, hf, he, hN, hdf⟩ := h
  refine ⟨hG, F, updM ρ key none, hm.newBare hfree, fun i v hi => ?_, he, hN, hdf⟩
  simp only [St.put, get_cons] at hi
  by_cases hdi : d = i
  · subst hdi
    simp only [if_true, Option.some.injEq] at hi; subst hi
    have hb := hf d _ hd
    refine ⟨hK, fun o ho => ?_⟩
    have : get (s.obj key ⟨sz, []⟩).ob key = some o := ho
    rw [obj_same] at this; simp only [Option.some.injEq] at this; subst this
    exact ⟨by simp, fun _ _ => by unfold SlR; rw [updM_same]; exact ⟨rfl, hb⟩⟩
  · rw [if_neg hdi] at hi
    exact (FrG.pad (by omega)).2 ((free_ar (F := F) (ρ := ρ) (a := padA a γ) hfree).2 ((FrG.pad (by omega)).1 hf)) i v hi

/-! ### New keys -/
theorem renK_ne {a b k : Nat} (h : k ≠ a) : renK a b k = k := if_neg h
theorem renK_self (a b : Nat) : renK a b a = b := if_pos rfl
theorem ren1_id {a b : Nat} {x : AV} (h : x.names1 a = false) : x.ren1 a b = x := by
  cases x <;> simp only [AV.names1, beq_eq_false_iff_ne, ne_eq] at h <;> simp only [AV.ren1]
  all_goals rw [renK_ne h]
theorem ren_id {a b : Nat} {x : AV} (h : x.names a = false) : x.ren a b = x := by
  have key : ∀ {vs : List AV}, (∀ y ∈ vs, y.names1 a = false) → vs.map (AV.ren1 a b) = vs := by
    intro vs
    induction vs with
    | nil => intro _; rfl
    | cons v vs ih => intro hv; rw [List.map_cons, ren1_id (hv v (by simp)), ih fun y hy => hv y (by simp [hy])]
  cases x <;> simp only [AV.names, List.any_eq_false, Bool.not_eq_true] at h <;> simp only [AV.ren]
  case tup vs => rw [key h]
  case ags vs => rw [key h]
  case clo g vs => rw [key h]
  all_goals exact ren1_id h
theorem renFr_get (a b : Nat) : ∀ (l : List (Nat × AV)) (i : Nat), get (renFr a b l) i = (get l i).map (AV.ren a b)
  | [], i => rfl
  | (j, v) :: l, i => by
    simp only [renFr, get]
    split
    · rfl
    · exact renFr_get a b l i
theorem renOb_get {a b : Nat} : ∀ {ob : List (Nat × Obj)}, get ob b = none → ∀ k, get (renOb a b ob) k = if k = b then (get ob a).map (fun o => ⟨o.sz, renRows a b o.rows⟩) else if k = a then none else (get ob k).map fun o => ⟨o.sz, renRows a b o.rows⟩
  | [], _, k => by simp [renOb, get]
  | (j, o) :: ob, hb, k => by
    simp only [get] at hb
    split at hb
    · simp at hb
    rename_i hjb
    have ih := renOb_get (a := a) hb k
    simp only [renOb, get]
    by_cases hja : j = a
    · subst hja
      rw [renK_self]
      by_cases hk : k = b
      · subst hk; simp
      · rw [if_neg (Ne.symm hk), ih, if_neg hk, if_neg hk]
        by_cases hka : k = j
        · rw [if_pos hka, if_pos hka]
        · rw [if_neg hka, if_neg hka, if_neg (Ne.symm hka)]
    · rw [renK_ne hja]
      by_cases hjk : j = k
      · subst hjk
        rw [if_pos rfl, if_neg hjb, if_neg hja]; simp
      · rw [if_neg hjk, ih, if_neg hjk]
        by_cases hk : k = b
        · subst hk; simp [hja]
        · rw [if_neg hk, if_neg hk]
def renM (a b : Nat) (ρ : Map) : Map := fun k => if k = b then ρ a else if k = a then none else ρ k
/-- Two keys of one kind. -/
def Like (a b : Nat) : Prop := (a < KT ∧ b < KT) ∨ (MK ≤ a ∧ a < 2 * MK ∧ MK ≤ b ∧ b < 2 * MK)
section
variable {F : Facts} {ρ : Map} {ob : List (Nat × Obj)} {a b : Nat}
theorem like_lt (hl : Like a b) : (a < MK ↔ b < MK) ∧ (a < 2 * MK ↔ b < 2 * MK) := by
  have h1 : KT ≤ MK := by decide
  rcases hl with ⟨h2, h3⟩ | ⟨h2, h3, h4, h5⟩ <;> constructor <;> omega
theorem ren_get_some (hb : get ob b = none) {k : Nat} {o' : Obj} (hk : k ≠ b) (h : get (renOb a b ob) (renK a b k) = some o') : ∃ o, get ob k = some o ∧ o'.rows = renRows a b o.rows ∧ o'.sz = o.sz ∧ renM a b ρ (renK a b k) = ρ k := by
  rw [renOb_get hb] at h
  by_cases hka : k = a
  · subst hka
    rw [renK_self, if_pos rfl, Option.map_eq_some_iff] at h
    obtain ⟨o, h1, rfl⟩ := h
    exact ⟨o, h1, rfl, rfl, by rw [renK_self]; simp [renM]⟩
  · rw [renK_ne hka, if_neg hk, if_neg hka, Option.map_eq_some_iff] at h
    obtain ⟨o, h1, rfl⟩ := h
    exact ⟨o, h1, rfl, rfl, by rw [renK_ne hka]; simp [renM, hk, hka]⟩
theorem ar1_ren (hl : Like a b) (hb : get ob b = none) {x : AV} {v : Value} (hn : x.names1 b = false) (h : AR1 F ρ ob x v) : AR1 F (renM a b ρ) (renOb a b ob) (x.ren1 a b) v := by
  obtain ⟨l1, l2⟩ := like_lt hl
  cases x <;> simp only [AV.names1, beq_eq_false_iff_ne, ne_eq] at hn <;> simp only [AV.ren1, AR1] at h ⊢
  case sl k ver st n =>
    obtain ⟨h1, h2⟩ := h
    refine ⟨?_, fun o' ho' => ?_⟩
    · by_cases hka : k = a
      · subst hka; rw [renK_self]; exact l1.1 h1
      · rw [renK_ne hka]; exact h1
    · obtain ⟨o, g1, g2, g3, g4⟩ := ren_get_some (ρ := ρ) hb hn ho'
      obtain ⟨h3, h4⟩ := h2 o g1
      have hlen : o'.rows.length = o.rows.length := by rw [g2, renRows, List.length_map]
      rw [hlen]
      exact ⟨h3, fun e1 e2 => by have := h4 e1 e2; unfold SlR at this ⊢; rw [g4]; exact this⟩
  case loc k r f =>
    obtain ⟨h1, h2⟩ := h
    refine ⟨?_, fun o' ho' => ?_⟩
    · by_cases hka : k = a
      · subst hka; rw [renK_self]; exact l1.1 h1
      · rw [renK_ne hka]; exact h1
    · obtain ⟨o, g1, g2, g3, g4⟩ := ren_get_some (ρ := ρ) hb hn ho'
      rw [g4]; exact h2 o g1
  case mp k =>
    obtain ⟨h1, h2, h3⟩ := h
    refine ⟨?_, ?_, fun o' ho' => ?_⟩
    · by_cases hka : k = a
      · subst hka; rw [renK_self]; have := l1; omega
      · rw [renK_ne hka]; exact h1
    · by_cases hka : k = a
      · subst hka; rw [renK_self]; exact l2.1 h2
      · rw [renK_ne hka]; exact h2
    · obtain ⟨o, g1, g2, g3, g4⟩ := ren_get_some (ρ := ρ) hb hn ho'
      rw [g4]; exact h3 o g1
  case itr k =>
    obtain ⟨h1, h2⟩ := h
    refine ⟨?_, fun o' ho' => ?_⟩
    · by_cases hka : k = a
      · subst hka; rw [renK_self]; have := l2; omega
      · rw [renK_ne hka]; exact h1
    · obtain ⟨o, g1, g2, g3, g4⟩ := ren_get_some (ρ := ρ) hb hn ho'
      rw [g4]; exact h2 o g1
  all_goals exact h
theorem ar_ren (hl : Like a b) (hb : get ob b = none) {x : AV} {v : Value} (hn : x.names b = false) (h : AR F ρ ob x v) : AR F (renM a b ρ) (renOb a b ob) (x.ren a b) v := by
  have key : ∀ {vs : List AV} {ws : List Value}, (∀ y ∈ vs, y.names1 b = false) → All2 (AR1 F ρ ob) vs ws → All2 (AR1 F (renM a b ρ) (renOb a b ob)) (vs.map (AV.ren1 a b)) ws := by
    intro vs ws hv h
    induction h with
    | nil => exact .nil
    | cons ha hr ih => exact .cons (ar1_ren hl hb (hv _ (by simp)) ha) (ih fun y hy => hv y (by simp [hy]))
  cases x <;> simp only [AV.names, List.any_eq_false, Bool.not_eq_true] at hn <;> simp only [AV.ren]
  case tup vs =>
    obtain ⟨ws, rfl, h⟩ := h
    exact ⟨ws, rfl, key hn h⟩
  case ags vs =>
    obtain ⟨ws, rfl, h, h2⟩ := h
    exact ⟨ws, rfl, key hn h, h2⟩
  case clo g vs =>
    obtain ⟨ws, rfl, h⟩ := h
    exact ⟨ws, rfl, key hn h⟩
  all_goals exact AR.of1 (ar1_ren hl hb hn h)
theorem one_ren (x : AV) : (x.ren a b).one = x.one := by cases x <;> rfl
theorem cont_ren (hl : Like a b) (hb : get ob b = none) {bk : Option Go.Obj} {k : Nat} {o : Obj} {p : Place} (hk : k ≠ b) (hn : ∀ r ∈ o.rows, ∀ x ∈ r, x.names b = false) (h : Cont F ρ ob bk k o p) : Cont F (renM a b ρ) (renOb a b ob) bk (renK a b k) ⟨o.sz, renRows a b o.rows⟩ p := by
  obtain ⟨l1, l2⟩ := like_lt hl
  have kk : (renK a b k < MK ↔ k < MK) ∧ (renK a b k < 2 * MK ↔ k < 2 * MK) := by
    by_cases hka : k = a
    · subst hka; rw [renK_self]; exact ⟨l1.symm, l2.symm⟩
    · rw [renK_ne hka]; exact ⟨.rfl, .rfl⟩
  refine ⟨fun h1 => ?_, fun h1 h2 => ?_, fun h1 => ?_⟩
  · obtain ⟨⟨g2, g3, g4, cs, et, hh, g5, g6⟩, hty⟩ := h.1 (kk.1.1 h1)
    refine ⟨⟨by rw [renRows, List.length_map]; exact g2, g3, fun r hr => ?_, cs, et, hh, g5, fun i r j x hi hj => ?_⟩, ?_⟩
    · obtain ⟨r0, hr0, rfl⟩ := List.mem_map.1 hr
      rw [List.length_map]; exact g4 r0 hr0
    · simp only [renRows, List.getElem?_map, Option.map_eq_some_iff] at hi
      obtain ⟨r0, hi, rfl⟩ := hi
      simp only [List.getElem?_map, Option.map_eq_some_iff] at hj
      obtain ⟨x0, hj, rfl⟩ := hj
      obtain ⟨h1, u, h2, h3⟩ := g6 i r0 j x0 hi hj
      exact ⟨by rw [one_ren]; exact h1, u, h2, ar_ren hl hb (hn r0 (List.mem_of_getElem? hi) x0 (List.mem_of_getElem? hj)) h3⟩
    · by_cases hka : k = a
      · subst hka
        rw [renK_self]
        intro hkt
        have h1' : KT ≤ MK := by decide
        rcases hl with ⟨_, h3⟩ | ⟨h3, _⟩
        · omega
        · have := kk.1.1 h1; omega
      · rw [renK_ne hka]; exact hty
  · obtain ⟨es, hh, g1, g2, g3, g4⟩ := h.2.1 (by have := kk.1; omega) (kk.2.1 h2)
    refine ⟨es, hh, by rw [renRows, List.length_map]; exact g1, g2, g3, fun i r hi => ?_⟩
    simp only [renRows, List.getElem?_map, Option.map_eq_some_iff] at hi
    obtain ⟨r0, hi, rfl⟩ := hi
    obtain ⟨e, kx, v, h1, rfl, h3, h4⟩ := g4 i r0 hi
    have hm := List.mem_of_getElem? hi
    exact ⟨e, kx.ren a b, v.ren a b, h1, rfl, ar_ren hl hb (hn _ hm kx (by simp)) h3, ar_ren hl hb (hn _ hm v (by simp)) h4⟩
  · obtain ⟨x, hx, h1 | ⟨mk, since, seen, g, h1, h2, h3⟩⟩ := h.2.2 (by have := kk.2; omega)
    · exact ⟨x, hx, .inl ⟨by rw [h1.1]; rfl, h1.2⟩⟩
    · refine ⟨x, hx, .inr ⟨renK a b mk, since, seen, g, ?_, ?_, h3⟩⟩
      · simp only [h1]
        simp only [renRows, List.map_cons, List.map_nil, List.map_map]
        rfl
      · exact ar_ren hl hb (hn _ (by rw [h1]; exact List.mem_cons_self) (.mp mk) (by simp)) h2
theorem Mem.ren {B : Nat} {w : World} (hl : Like a b) (hb : get ob b = none) (hn : ∀ p ∈ ob, ∀ r ∈ p.2.rows, ∀ x ∈ r, x.names b = false) (hm : Mem B F ρ ob w) : Mem B F (renM a b ρ) (renOb a b ob) w := by
  have back : ∀ {k : Nat} {o' : Obj}, get (renOb a b ob) k = some o' → ∃ k0 o, k = renK a b k0 ∧ k0 ≠ b ∧ get ob k0 = some o ∧ o' = ⟨o.sz, renRows a b o.rows⟩ ∧ renM a b ρ k = ρ k0 := by
    intro k o' h
    rw [renOb_get hb] at h
    split at h
    · rename_i hk
      rw [Option.map_eq_some_iff] at h
      obtain ⟨o, h1, rfl⟩ := h
      refine ⟨a, o, by rw [renK_self]; exact hk, ?_, h1, rfl, by simp [renM, hk]⟩
      rintro rfl; rw [hb] at h1; simp at h1
    · rename_i hk
      split at h
      · simp at h
      · rename_i hka
        rw [Option.map_eq_some_iff] at h
        obtain ⟨o, h1, rfl⟩ := h
        exact ⟨k, o, (renK_ne hka).symm, hk, h1, rfl, by simp [renM, hk, hka]⟩
  refine ⟨hm.facts, hm.big, fun k o' h h2 => ?_, fun k o' p h h2 => ?_, fun k o' p h h2 => ?_, fun k o' p k' o'' p' h h2 h3 h4 hp => ?_⟩
  · obtain ⟨k0, o, rfl, hk0, h1, rfl, hr⟩ := back h
    rw [hr] at h2
    simp only [hm.bare k0 o h1 h2]; rfl
  · obtain ⟨k0, o, rfl, hk0, h1, rfl, hr⟩ := back h
    rw [hr] at h2
    obtain ⟨g1, g2⟩ := hm.own k0 o p h1 h2
    exact ⟨g1, cont_ren hl hb hk0 (hn _ (get_mem h1)) g2⟩
  · obtain ⟨k0, o, rfl, hk0, h1, rfl, hr⟩ := back h
    rw [hr] at h2
    exact hm.apart k0 o p h1 h2
  · obtain ⟨k0, o, rfl, hk0, h1, rfl, hr⟩ := back h
    obtain ⟨k1, o1, rfl, hk1, h5, rfl, hr1⟩ := back h3
    rw [hr] at h2
    rw [hr1] at h4
    rw [hm.inj k0 o p k1 o1 p' h1 h2 h5 h4 hp]
end
theorem Rel.bare {γ : Array Value} {F0 : Facts} {w0 : World} {N key sz : Nat} (h : Rel γ B F0 w0 N s a w) (hfree : s.free key = true) : Rel γ B F0 w0 N (s.obj key ⟨sz, []⟩) a w := by
  obtain ⟨hG, F, ρ, hm, hf, he, hN, hdf⟩ := h
  exact ⟨hG, F, updM ρ key none, hm.newBare hfree, (FrG.pad (by omega)).2 ((free_ar (F := F) (ρ := ρ) (a := padA a γ) hfree).2 ((FrG.pad (by omega)).1 hf)), he, hN, hdf⟩
theorem Rel.ren {γ : Array Value} {F0 : Facts} {w0 : World} {N k k' : Nat} (hl : Like k k') (hb : get s.ob k' = none) (hfree : s.free k' = true) (h : Rel γ B F0 w0 N s a w) : Rel γ B F0 w0 N ⟨renFr k k' s.fr, renOb k k' s.ob⟩ a w := by
  obtain ⟨hG, F, ρ, hm, hf, he, hN, hdf⟩ := h
  simp only [St.free, Bool.and_eq_true, List.all_eq_true, Bool.not_eq_true'] at hfree
  obtain ⟨f1, f2⟩ := hfree
  rw [del_absent _ _ hb] at f2
  refine ⟨hG, F, renM k k' ρ, hm.ren hl hb fun p hp r hr x hx => f2 p hp r hr x hx, fun i v hi => ?_, he, hN, hdf⟩
  rw [renFr_get, Option.map_eq_some_iff] at hi
  obtain ⟨v0, hi, rfl⟩ := hi
  exact ar_ren hl hb (f1 _ (get_mem hi)) (hf i v0 hi)
theorem Rel.renS {γ : Array Value} {F0 : Facts} {w0 : World} {N key n : Nat} (hok : renOk s key n = true) (h : Rel γ B F0 w0 N s a w) : Rel γ B F0 w0 N (renS s key n) a w := by
  simp only [renOk, Bool.and_eq_true, Bool.or_eq_true, decide_eq_true_eq, Option.isNone_iff_eq_none] at hok
  obtain ⟨⟨⟨⟨⟨⟨h1, h2⟩, h3⟩, h4⟩, h5⟩, h6⟩, h7⟩ := hok
  have hD : DB + DB ≤ KT := by decide
  have hM : KT ≤ MK := by decide
  have hCD : CK < DB := by decide
  have hlike : Like key (renKey key n) := by
    unfold Like renKey
    rcases h2 with h2 | ⟨h2, h2'⟩
    · rw [if_pos h2]; exact .inl ⟨h2, by omega⟩
    · rw [if_neg (by omega)]
      exact .inr ⟨h2, h2', by omega, by omega⟩
  have hne : renKey key n ≠ CK := by unfold renKey; split <;> omega
  have hb := h.bare (sz := n + 1) h3
  have e1 : get (s.obj CK ⟨n + 1, []⟩).ob (renKey key n) = none := by rw [get_obj, if_neg (Ne.symm hne)]; exact h5
  have e2 : St.free (s.obj CK ⟨n + 1, []⟩) (renKey key n) = true := by
    simp only [St.free, St.obj, Bool.and_eq_true, List.all_eq_true, Bool.not_eq_true'] at h4 ⊢
    refine ⟨h4.1, fun p hp r hr v hv => ?_⟩
    have hp := (mem_del hp).1
    rcases List.mem_cons.1 hp with rfl | hp
    · simp at hr
    · have hp2 := mem_del hp
      have hp3 : p ∈ del s.ob (renKey key n) := mem_del_of hp2.1 fun e => by
        have hg : get s.ob p.1 ≠ none := fun hno => by
          have : ∀ (l : List (Nat × Obj)), p ∈ l → get l p.1 ≠ none := by
            intro l
            induction l with
            | nil => intro h; simp at h
            | cons q l ih =>
              intro h
              simp only [Am.get]
              split
              · simp
              · rename_i hq
                rcases List.mem_cons.1 h with rfl | h
                · exact absurd rfl hq
                · exact ih h
          exact this _ hp2.1 hno
        rw [e] at hg; exact hg h5
      exact h4.2 p hp3 r hr v hv
  have := hb.ren hlike e1 e2
  have e3 : renOb key (renKey key n) (s.obj CK ⟨n + 1, []⟩).ob = (CK, ⟨n + 1, []⟩) :: renOb key (renKey key n) (del s.ob CK) := by
    simp only [St.obj, renOb, renK_ne (Ne.symm h6)]; rfl
  rw [e3] at this
  exact this
theorem loop_sound {γ : Array Value} {c : Code} {f : St → Option (AX × St)} {F0 : Facts} {w0 : World} {N : Nat} {Q : Exit → Go.Act → World → Prop}
    (body : ∀ (s s' : St) (ax : AX) (a : Go.Act) (w : World) (Q : Exit → Go.Act → World → Prop), f s = some (ax, s') → Rel γ B F0 w0 N s a w → (∀ a' w', Rel γ B F0 w0 N s' a' w' → Q (exitOf ax) a' w') → c.wp P Q a w) :
    ∀ (n : Nat) (s s' : St) (ax : AX) (a : Go.Act) (w : World), lp f n s = some (ax, s') → Rel γ B F0 w0 N s a w → (∀ a' w', Rel γ B F0 w0 N s' a' w' → Q (exitOf ax) a' w') → (Code.loop c).wp P Q a w := by
  intro n s s' ax a w h hr hQ b k cs
  have hax : ∀ n s, lp f n s = some (ax, s') → ax ≠ .norm := by
    intro n
    induction n with
    | zero => intro s h; simp [lp] at h
    | succ n ih =>
      intro s h
      simp only [lp] at h
      split at h
      · exact ih _ h
      · rename_i hne
        rintro rfl
        exact hne _ h
  have key : ∀ n s a w, lp f n s = some (ax, s') → Rel γ B F0 w0 N s a w → ∃ e a' w', Q e a' w' ∧ Arrives P (lone (b.at a (.code c :: .inLoop c :: k)) cs w) b k cs e a' w' := by
    intro n
    induction n with
    | zero => intro s a w h; simp [lp] at h
    | succ n ih =>
      intro s a w h hr
      simp only [lp] at h
      split at h
      · rename_i s1 h1
        obtain ⟨e, a1, w1, hq, harr⟩ := body s s1 .norm a w (Exit.then (fun a' w' => Rel γ B F0 w0 N s1 a' w') fun _ _ _ => False) h1 hr (fun a' w' hr' => hr') b (.inLoop c :: k) cs
        cases e with
        | normal =>
          obtain ⟨e2, a2, w2, hq2, harr2⟩ := ih s1 a1 w1 h hq
          exact ⟨e2, a2, w2, hq2, .of_steps (Steps.trans harr (.one step_inLoop)) harr2⟩
        | exit id => exact hq.elim
        | goto l => exact hq.elim
        | ret => exact hq.elim
        | panic ch => exact hq.elim
        | outgrown => exact hq.elim
      · rename_i hne
        have hnn : ax ≠ .norm := by rintro rfl; exact hne _ h
        obtain ⟨e, a1, w1, hq, harr⟩ := body s s' ax a w (fun e a' w' => e = exitOf ax ∧ Q e a' w') h hr (fun a' w' hr' => ⟨rfl, hQ a' w' hr'⟩) b (.inLoop c :: k) cs
        obtain ⟨rfl, hq⟩ := hq
        cases ax with
        | norm => exact (hnn rfl).elim
        | ex id => exact ⟨_, a1, w1, hq, .pass (x := .inLoop c) rfl (fun _ _ => .inl (by simp [exitOf])) harr⟩
        | ret => exact ⟨_, a1, w1, hq, .pass (x := .inLoop c) rfl (fun _ _ => .inl (by simp [exitOf])) harr⟩
  obtain ⟨e, a', w', hq, harr⟩ := key n s a w h hr
  exact ⟨e, a', w', hq, .of_steps (.one step_loop) harr⟩

theorem exec_sound {nm : Nat → Option Nat} {Γ : Env} {γ : Array Value} {F0 : Facts} {w0 : World} {N M : Nat} (hΓ : EnvOk P nm Γ) (hmix : P.follows .mixedOrders = true) (c : AC) :
    ∀ (x : Code) (s s' : St) (ax : AX) (a : Go.Act) (w : World) (Q : Exit → Go.Act → World → Prop), chkAC P nm N c x = true → exec Γ M c s = some (ax, s') → Rel γ B F0 w0 N s a w → (∀ a' w', Rel γ B F0 w0 N s' a' w' → Q (exitOf ax) a' w') → x.wp P Q a w := by
  induction c with
  | skip =>
    intro x s s' ax a w Q hc h hr hQ
    cases x <;> simp only [chkAC, Bool.false_eq_true] at hc
    simp only [exec, Option.some.injEq, Prod.mk.injEq] at h
    obtain ⟨rfl, rfl⟩ := h
    exact wp_skip (hQ a w hr)
  | reg o =>
    intro x s s' ax a w Q hc h hr hQ
    obtain ⟨id, ops, rfl, hc2⟩ := chkAC_reg hc
    split at hc2
    · rename_i hchk
      simp only [exec, Option.map_eq_some_iff, Prod.mk.injEq] at h
      obtain ⟨s1, h1, rfl, rfl⟩ := h
      exact wp_region_list (ev_sound hΓ o hchk h1 hr trivial (by simp) fun a' w' hr' _ => by simp only [wpList]; exact hQ a' w' hr')
    · simp at hc2
  | draw q es fs t =>
    intro x s s' ax a w Q hc h hr hQ
    obtain ⟨id, ops, rfl, hc2⟩ := chkAC_draw hc
    simp only [exec] at h
    split at h
    case h_2 => simp at h
    rename_i s0 h0
    split at h
    case isFalse => simp at h
    rename_i hl0
    split at h
    case h_2 => simp at h
    rename_i s1 h1
    split at h
    case isFalse => simp at h
    rename_i hok
    split at h
    case h_2 => simp at h
    rename_i s3 h3
    simp only [Option.map_eq_some_iff, Prod.mk.injEq] at h
    obtain ⟨s2, h2, rfl, rfl⟩ := h
    exact draw_sound hΓ hmix hc2 h0 hl0 h1 hok h3 h2 hr hQ
  | drawN q es fs ps t ks =>
    intro x s s' ax a w Q hc h hr hQ
    obtain ⟨id, ops, rfl, hc2⟩ := chkAC_drawN hc
    simp only [exec] at h
    split at h
    case h_2 => simp at h
    rename_i s0 h0
    split at h
    case isFalse => simp at h
    rename_i hl0
    split at h
    case h_2 => simp at h
    rename_i s1 h1
    split at h
    case isFalse => simp at h
    rename_i hok
    split at h
    case h_2 => simp at h
    rename_i s3 rs h3
    split at h
    case isFalse => simp at h
    rename_i hsame
    simp only [Option.some.injEq, Prod.mk.injEq] at h
    obtain ⟨rfl, rfl⟩ := h
    exact drawN_sound hΓ hmix hc2 h0 hl0 h1 hok h3 hsame hr hQ
  | keepP ks lo hi os c ih =>
    intro x s s' ax a w Q hc h hr hQ
    have hc : chkAC P nm N c x = true := by cases x <;> simpa only [chkAC] using hc
    simp only [exec] at h
    exact ih x _ s' ax a w Q hc h (hr.keepP ks lo hi os) hQ
  | after ks os c ih =>
    intro x s s' ax a w Q hc h hr hQ
    have hc : chkAC P nm N c x = true := by cases x <;> simpa only [chkAC] using hc
    simp only [exec] at h
    split at h
    · rename_i s1 h1
      simp only [Option.some.injEq, Prod.mk.injEq] at h
      obtain ⟨rfl, rfl⟩ := h
      exact ih x s s1 .norm a w Q hc h1 hr fun a1 w1 hr1 => hQ a1 w1 (hr1.keep ks os)
    · exact ih x s s' ax a w Q hc h hr hQ
  | any =>
    intro x s s' ax a w Q hc h hr hQ
    simp [exec] at h
  | seq c1 c2 ih1 ih2 =>
    intro x s s' ax a w Q hc h hr hQ
    cases x <;> simp only [chkAC, Bool.false_eq_true] at hc
    rename_i x y
    simp only [Bool.and_eq_true] at hc
    simp only [exec] at h
    refine wp_seq ?_
    split at h
    · rename_i s1 h1
      exact ih1 x s s1 .norm a w _ hc.1 h1 hr fun a1 w1 hr1 => ih2 y s1 s' ax a1 w1 Q hc.2 h hr1 hQ
    · rename_i hne
      refine ih1 x s s' ax a w _ hc.1 h hr fun a1 w1 hr1 => ?_
      cases ax with
      | norm => exact (hne _ h).elim
      | ex id => exact hQ a1 w1 hr1
      | ret => exact hQ a1 w1 hr1
  | cond c c1 c2 ih1 ih2 =>
    intro x s s' ax a w Q hc h hr hQ
    cases x <;> simp only [chkAC, Bool.false_eq_true] at hc
    rename_i c' x y
    simp only [Bool.and_eq_true] at hc
    simp only [exec] at h
    split at h
    · rename_i t ht
      have hr0 := hr
      obtain ⟨hG, F, ρ, hm, hf, he, hN, hdf⟩ := hr
      have hb := DR.bool_ (opd_sound ((FrG.pad (γ := γ) (by omega)).1 hf) hc.1.1.1 ht)
      rw [eval_oLt (by omega) hc.1.1.2] at hb
      refine wp_cond hb ?_
      cases t
      · exact ih2 y s s' ax a w Q hc.2 (by simpa using h) hr0 hQ
      · exact ih1 x s s' ax a w Q hc.1.2 (by simpa using h) hr0 hQ
    · simp at h
  | block id c ih =>
    intro x s s' ax a w Q hc h hr hQ
    cases x <;> simp only [chkAC, Bool.false_eq_true] at hc
    rename_i id' x
    simp only [Bool.and_eq_true, beq_iff_eq] at hc
    obtain ⟨rfl, hc⟩ := hc
    simp only [exec] at h
    refine wp_block ?_
    split at h
    · rename_i i s1 h1
      split at h
      · rename_i hi; subst hi
        simp only [Option.some.injEq, Prod.mk.injEq] at h
        obtain ⟨rfl, rfl⟩ := h
        exact ih x s s1 (.ex i) a w _ hc h1 hr fun a1 w1 hr1 => by simp only [exitOf, Exit.inBlock, if_true]; exact hQ a1 w1 hr1
      · rename_i hi
        simp only [Option.some.injEq, Prod.mk.injEq] at h
        obtain ⟨rfl, rfl⟩ := h
        exact ih x s s1 (.ex i) a w _ hc h1 hr fun a1 w1 hr1 => by simp only [exitOf, Exit.inBlock, hi, if_false]; exact hQ a1 w1 hr1
    · rename_i hne
      refine ih x s s' ax a w _ hc h hr fun a1 w1 hr1 => ?_
      cases ax with
      | norm => exact hQ a1 w1 hr1
      | ex i => exact (hne _ _ h).elim
      | ret => exact hQ a1 w1 hr1
  | loop c ih =>
    intro x s s' ax a w Q hc h hr hQ
    cases x <;> simp only [chkAC, Bool.false_eq_true] at hc
    rename_i x
    simp only [exec] at h
    exact loop_sound (fun s s' ax a w Q h hr hQ => ih x s s' ax a w Q hc h hr hQ) M s s' ax a w h hr hQ
  | exit id =>
    intro x s s' ax a w Q hc h hr hQ
    cases x <;> simp only [chkAC, Bool.false_eq_true] at hc
    rename_i id'
    simp only [beq_iff_eq] at hc; subst hc
    simp only [exec, Option.some.injEq, Prod.mk.injEq] at h
    obtain ⟨rfl, rfl⟩ := h
    exact wp_exit (hQ a w hr)
  | ret =>
    intro x s s' ax a w Q hc h hr hQ
    cases x <;> simp only [chkAC, Bool.false_eq_true] at hc
    simp only [exec, Option.some.injEq, Prod.mk.injEq] at h
    obtain ⟨rfl, rfl⟩ := h
    exact wp_ret (hQ a w hr)
  | keep ks os c ih =>
    intro x s s' ax a w Q hc h hr hQ
    have hc : chkAC P nm N c x = true := by cases x <;> simpa only [chkAC] using hc
    simp only [exec] at h
    exact ih x _ s' ax a w Q hc h (hr.keep ks os) hQ
  | own d key c ih =>
    intro x s s' ax a w Q hc h hr hQ
    have hc : key < MK ∧ chkAC P nm N c x = true := by cases x <;> simpa only [chkAC, Bool.and_eq_true, decide_eq_true_eq] using hc
    simp only [exec] at h
    split at h
    · rename_i sz hd
      split at h
      · rename_i hfree
        exact ih x _ s' ax a w Q hc.2 h (hr.own hc.1 hd hfree) hQ
      · simp at h
    · simp at h
  | renA key c ih =>
    intro x s s' ax a w Q hc h hr hQ
    have hc : chkAC P nm N c x = true := by cases x <;> simpa only [chkAC] using hc
    simp only [exec] at h
    split at h
    · rename_i s1 h1
      unfold renT at h
      split at h
      · split at h
        · rename_i hok
          simp only [Option.some.injEq, Prod.mk.injEq] at h
          obtain ⟨rfl, rfl⟩ := h
          exact ih x s s1 .norm a w Q hc h1 hr fun a1 w1 hr1 => hQ a1 w1 (hr1.renS hok)
        · simp at h
      · simp only [Option.some.injEq, Prod.mk.injEq] at h
        obtain ⟨rfl, rfl⟩ := h
        exact ih x s s1 .norm a w Q hc h1 hr hQ
    · exact ih x s s' ax a w Q hc h hr hQ
  | ren key c ih =>
    intro x s s' ax a w Q hc h hr hQ
    have hc : chkAC P nm N c x = true := by cases x <;> simpa only [chkAC] using hc
    simp only [exec] at h
    split at h
    · split at h
      · rename_i hok
        exact ih x _ s' ax a w Q hc h (hr.renS hok) hQ
      · simp at h
    · exact ih x _ s' ax a w Q hc h hr hQ

/-! ### A function -/
def chkRs (P : Program) : List ResultVar → List Rs → Bool
  | [], [] => true
  | .tmp t :: xs, .t n :: ys => t == n && decide (n < GB) && chkRs P xs ys
  | .cell t ty :: xs, .m n sz ag :: ys => t == n && decide (n < GB) && sized P ty sz && agOk P ty ag && (ag || sz == 1) && chkRs P xs ys
  | _, _ => false
def chkFn (P : Program) (nm : Nat → Option Nat) (f : FuncId) (F : AFn) (n : Nat) : Bool :=
  match P.funcs[f]? with
  | some fn => (match fn.body with | some c => chkAC P nm fn.ntmps F.body c | none => false) && chkRs P fn.results.toList F.results && decide (n ≤ fn.ntmps) && decide (fn.ntmps ≤ GB)
  | none => false
theorem get_args : ∀ (vs : List AV) (k i : Nat) (v : AV), get (args k vs) i = some v → k ≤ i ∧ vs[i - k]? = some v
  | [], k, i, v, h => by simp [args, get] at h
  | x :: vs, k, i, v, h => by
    simp only [args, get] at h
    split at h
    · rename_i hk; subst hk; simp at h; subst h; simp
    · rename_i hk
      obtain ⟨h1, h2⟩ := get_args vs (k + 1) i v h
      refine ⟨by omega, ?_⟩
      rw [show i - k = (i - (k + 1)) + 1 by omega]
      simpa using h2
/-- The address in a slot, loaded. -/
theorem load_run {x v : AV} {sz : Nat} {ag : Bool} {ty : TypeId} {u : Value} (hm : Mem B F ρ s.ob w) (hr : AR F ρ s.ob x u) (hsz : sized P ty sz = true) (hag : agOk P ty ag = true) (h11 : ag = false → sz = 1) (h : s.load x sz ag = some v) :
    ∃ y, (do loadVar ty (← asAddr u)).run P w = .ok y w ∧ AR F ρ s.ob v y := by
  -- through the operation
  let o : Oper := { dst := some 0, op := .load ty (.tmp 0), type := 0, pos := "", after := #[], guard := none }
  let a : Go.Act := { tmps := #[u], defers := [] }
  have hf : Fr F ρ s.ob [(0, x)] a := by
    intro i y hi
    simp only [get] at hi
    split at hi
    · rename_i h0; subst h0; simp only [Option.some.injEq] at hi; subst hi; exact hr
    · simp at hi
  have hd := does_ld (P := P) (s := ⟨[(0, x)], s.ob⟩) (o := o) (a := a) (sz := sz) (ag := ag) (x := .t 0) (p := x) (v := v) hm hf (by simp [chkLd, o, chkO, hsz, hag]; cases ag <;> simp_all) (by simp [St.opd, get])
    (by simpa [St.load] using h)
  have := hd (fun a' w' => w' = w ∧ ∃ y, a' = a.put (some 0) y ∧ AR F ρ s.ob v y) (fun _ _ _ => False) (fun y w' hy => ⟨hy.1, y, rfl, hy.2⟩)
  unfold Oper.wp at this
  have hex : (execOp a.eval o).run P w = ((do loadVar ty (← Instr.sureAddr u)).run P w).andThen fun y w' => .ok (.value y) w' := by
    simp [execOp, o, a, Instr.loadAt, Go.Act.eval]
    generalize (Instr.sureAddr u).run P w = r
    cases r <;> rfl
  rw [hex] at this
  have hsure : ∃ ad, u = .pointer (some ad) := by
    unfold St.load at h
    split at h
    · obtain ⟨ad, _, rfl, _⟩ := hr; exact ⟨_, rfl⟩
    · split at h
      · simp at h
      · rename_i ob hob
        obtain ⟨p, _, rfl⟩ := hr.2 ob hob
        exact ⟨_, rfl⟩
    · simp at h
  obtain ⟨ad, rfl⟩ := hsure
  have e1 : (do loadVar ty (← Instr.sureAddr (.pointer (some ad)))).run P w = (loadVar ty ad).run P w := by simp [sureAddr_ok]
  have e2 : (do loadVar ty (← asAddr (.pointer (some ad)))).run P w = (loadVar ty ad).run P w := by simp [asAddr]
  rw [e1] at this
  rw [e2]
  cases hl : (loadVar ty ad).run P w with
  | ok y w' =>
    rw [hl] at this
    simp only [Result.andThen_ok, Oper.upon] at this
    obtain ⟨rfl, y', hy', har⟩ := this
    refine ⟨y, rfl, ?_⟩
    have : y = y' := by
      have h0 := congrArg (fun (b : Go.Act) => b.tmps.getD 0 undef) hy'
      simpa [o, Go.Act.put, a] using h0
    rw [this]; exact har
  | halt x w' =>
    rw [hl] at this
    simp only [Result.andThen_halt] at this
    cases x <;> simp only [Oper.upon] at this <;> exact this.elim

theorem slots_run {fn : Func} {γ : Array Value} (hm : Mem B F ρ s.ob w) {t : Go.Act} (hf : FrG γ F ρ s.ob s.fr t) : ∀ {xs : List ResultVar} {ys : List Rs} {rs : List AV}, chkRs P xs ys = true → s.slots ys = some rs →
    ∃ us : List Value, (xs.mapM fun | .tmp n => pure (t.tmps.getD n undef) | .cell n ty => do loadVar ty (← asAddr (t.tmps.getD n undef)) : Sem (List Value)).run P w = .ok us w ∧ All2 (AR F ρ s.ob) rs us
  | [], [], rs, _, h => by simp only [St.slots, Option.some.injEq] at h; subst h; exact ⟨[], by simp, .nil⟩
  | .tmp n :: xs, .t m :: ys, rs, hc, h => by
    simp only [chkRs, Bool.and_eq_true, beq_iff_eq, decide_eq_true_eq] at hc
    obtain ⟨⟨rfl, hnG⟩, hc⟩ := hc
    simp only [St.slots] at h
    split at h
    · rename_i v vs h1 h2
      simp only [Option.some.injEq] at h; subst h
      obtain ⟨us, hus, hall⟩ := slots_run (fn := fn) hm hf hc h2
      exact ⟨t.tmps.getD n undef :: us, by simp only [List.mapM_cons, Sem.run_bind, Sem.run_pure, Result.andThen_ok, hus], .cons (by have := hf n v h1; rwa [valG, if_pos hnG] at this) hall⟩
    · simp at h
  | .cell n ty :: xs, .m m sz ag :: ys, rs, hc, h => by
    simp only [chkRs, Bool.and_eq_true, beq_iff_eq, Bool.or_eq_true, decide_eq_true_eq] at hc
    obtain ⟨⟨⟨⟨⟨rfl, hnG⟩, hsz⟩, hag⟩, h11⟩, hc⟩ := hc
    simp only [St.slots] at h
    split at h
    · rename_i x hx
      split at h
      · rename_i v vs h1 h2
        simp only [Option.some.injEq] at h; subst h
        obtain ⟨us, hus, hall⟩ := slots_run (fn := fn) hm hf hc h2
        obtain ⟨y, hy, har⟩ := load_run (P := P) hm (by have := hf n x hx; rwa [valG, if_pos hnG] at this) hsz hag (fun h0 => by simpa [h0] using h11) h1
        refine ⟨y :: us, ?_, .cons har hall⟩
        simp only [List.mapM_cons, Sem.run_bind] at hy ⊢
        rw [hy]
        simp only [Result.andThen_ok, hus, Sem.run_pure]
      · simp at h
    · simp at h
  | [], _ :: _, _, hc, _ => by simp [chkRs] at hc
  | .tmp _ :: _, [], _, hc, _ => by simp [chkRs] at hc
  | .cell _ _ :: _, [], _, hc, _ => by simp [chkRs] at hc
  | .tmp _ :: _, .m .. :: _, _, hc, _ => by simp [chkRs] at hc
  | .cell _ _ :: _, .t _ :: _, _, hc, _ => by simp [chkRs] at hc
/-- A function's body, from any state. -/
def startA (fn : Func) (vs : List Value) : Go.Act := { tmps := vs.toArray ++ Array.replicate (fn.ntmps - vs.toArray.size) undef, defers := [] }
theorem body_sound {nm : Nat → Option Nat} {Γ : Env} {γ : Array Value} {f : FuncId} {fn : AFn} {fn' : Func} {n M : Nat} {F0 : Facts} {w0 : World} {s0 s' : St} {ax : AX} {vs : List Value} {qs : List AV} (hΓ : EnvOk P nm Γ) (hmix : P.follows .mixedOrders = true)
    (hfn : P.funcs[f]? = some fn') (hc : chkFn P nm f fn n = true) (hrel : Rel γ B F0 w0 fn'.ntmps s0 (startA fn' vs) w0) (hax : ax = .norm ∨ ax = .ret) (hex : exec Γ M fn.body s0 = some (ax, s')) (hqs : s'.slots fn.results = some qs) :
    Calls P f vs.toArray w0 fun e w' => ∃ us, e = .returned (tupV us) ∧ ∃ F ρ a', Mem B F ρ s'.ob w' ∧ FrG γ F ρ s'.ob s'.fr a' ∧ Ext B F0 F w0 w' ∧ All2 (AR F ρ s'.ob) qs us := by
  unfold chkFn at hc
  rw [hfn] at hc
  simp only [Bool.and_eq_true, decide_eq_true_eq] at hc
  obtain ⟨⟨⟨hbody, hres⟩, hn⟩, hG⟩ := hc
  split at hbody
  case h_2 => simp at hbody
  rename_i c hcode
  refine calls_of_wp hfn hcode ?_
  have fin : ∀ a' w', Rel γ B F0 w0 fn'.ntmps s' a' w' → bodyPost P fn' (fun e w' => ∃ us, e = .returned (tupV us) ∧ ∃ F ρ a', Mem B F ρ s'.ob w' ∧ FrG γ F ρ s'.ob s'.fr a' ∧ Ext B F0 F w0 w' ∧ All2 (AR F ρ s'.ob) qs us) .ret a' w' := by
    intro a' w' hr
    obtain ⟨_, F, ρ, hm, hf, he, hN, hdf⟩ := hr
    obtain ⟨us, hus, har⟩ := slots_run (fn := fn') hm hf hres hqs
    have hmap : (fn'.results.mapM fun | .tmp n => pure (a'.tmps.getD n undef) | .cell n ty => do loadVar ty (← asAddr (a'.tmps.getD n undef)) : Sem (Array Value)).run P w' = .ok us.toArray w' := by
      rw [Array.mapM_eq_mapM_toList, Sem.run_map, hus]; rfl
    refine ⟨hdf, tupV us, ?_, us, rfl, F, ρ, a', hm, hf, he, har⟩
    have h2 : (results fn' a'.tmps).run P w' = ((fn'.results.mapM fun | .tmp n => pure (a'.tmps.getD n undef) | .cell n ty => do loadVar ty (← asAddr (a'.tmps.getD n undef)) : Sem (Array Value)).run P w').andThen
        fun vs w => .ok (if h : vs.size = 1 then vs[0] else .tuple vs) w := by
      unfold results; rw [Sem.run_bind]; rfl
    rw [h2, hmap]; rfl
  rcases hax with rfl | rfl
  · exact exec_sound hΓ hmix fn.body c s0 s' .norm _ w0 _ hbody hex hrel fun a' w' hr => by simpa [exitOf, bodyPost] using fin a' w' hr
  · exact exec_sound hΓ hmix fn.body c s0 s' .ret _ w0 _ hbody hex hrel fun a' w' hr => by simpa [exitOf] using fin a' w' hr
theorem startA_getD {fn' : Func} {vs : List Value} {i : Nat} {u : Value} (hu : vs[i]? = some u) : (startA fn' vs).tmps.getD i undef = u := by
  have hil := (List.getElem?_eq_some_iff.1 hu).1
  unfold startA
  simp only [Array.getD_eq_getD_getElem?]
  rw [Array.getElem?_append_left (by simpa using hil)]
  simp [hu]
theorem run_sound {nm : Nat → Option Nat} {Γ : Env} {f : FuncId} {fn : AFn} {n M : Nat} (hΓ : EnvOk P nm Γ) (hmix : P.follows .mixedOrders = true)
    (hc : chkFn P nm f fn n = true) : Spec P f fun ds => if ds.length = n then run Γ M fn ds else none := by
  intro F0 w0 ds vs rs hok hall h
  simp only at h
  split at h
  case isFalse => simp at h
  rename_i hlen
  have hc0 := hc
  unfold chkFn at hc
  split at hc
  case h_2 => simp at hc
  rename_i fn' hfn
  simp only [Bool.and_eq_true, decide_eq_true_eq] at hc
  obtain ⟨⟨⟨hbody, hres⟩, hn⟩, hG⟩ := hc
  have hvl : vs.length = n := by rw [← hall.length, hlen]
  have hrel : Rel #[] w0.heap.size F0 w0 fn'.ntmps ⟨args 0 ds, []⟩ (startA fn' vs) w0 := by
    refine ⟨hG, F0, fun _ => none, ⟨hok, Nat.le_refl _, ?_, ?_, ?_, ?_⟩, ?_, .refl _ _ _, ?_, rfl⟩
    · intro k o h; simp [get] at h
    · intro k o p h; simp [get] at h
    · intro k o p h; simp [get] at h
    · intro k o p k' o' p' h; simp [get] at h
    · intro i v hi
      obtain ⟨_, hv⟩ := get_args ds 0 i v hi
      obtain ⟨u, hu, hr⟩ := hall.get? i v (by simpa using hv)
      have hil : i < vs.length := (List.getElem?_eq_some_iff.1 hu).1
      rw [valG, if_pos (by omega), startA_getD hu]
      exact AR.of_RR hr
    · unfold startA; simp; omega
  have key : ∀ ax s', (ax = .norm ∨ ax = .ret) → exec Γ M fn.body ⟨args 0 ds, []⟩ = some (ax, s') → (match s'.slots fn.results with | some rs => (s'.frzs rs).map (·.1) | none => none) = some rs →
      Calls P f vs.toArray w0 fun e w' => ∃ u, e = .returned u ∧ ∃ F' : Facts, F'.ok w' ∧ F0.le F' ∧ Below w0.heap.size w0 w' ∧ (∀ a v, F' a v → F0 a v ∨ w0.heap.size ≤ a.block) ∧ RetR F' rs u := by
    intro ax s' hax hex hs
    split at hs
    case h_2 => simp at hs
    rename_i qs hqs
    simp only [Option.map_eq_some_iff] at hs
    obtain ⟨⟨rs', ks⟩, hfrz, rfl⟩ := hs
    refine (body_sound hΓ hmix hfn hc0 hrel hax hex hqs).mono ?_
    rintro e w' ⟨us, rfl, F, ρ, a', hm, hf, he, har⟩
    have hrr := frzs_sound hm hfrz har
    refine ⟨_, rfl, FrzF F ρ s'.ob ks w', FrzF.ok hm.facts, he.le.trans FrzF.le, he.below, fun ad v hv => ?_, ?_⟩
    · rcases FrzF.new hm hv with h1 | h1
      · exact he.new ad v h1
      · exact .inr h1
    · clear har
      match rs', us, hrr with
      | [], [], _ => exact ⟨[], by simp [tupV], .nil⟩
      | [r], [u], .cons h1 .nil => simpa [RetR, tupV] using h1
      | r1 :: r2 :: rs, u1 :: u2 :: us, h => exact ⟨u1 :: u2 :: us, by simp [tupV], h⟩
  unfold run at h
  split at h
  · rename_i s' hex
    exact key .norm s' (.inl rfl) hex h
  · rename_i s' hex
    exact key .ret s' (.inr rfl) hex h
  · simp at h

/-! ### The callers' slots stay -/
theorem ev_slots {Γ : Env} (ai : AI) : ∀ {s s' : St}, ev Γ ai s = some s' → ∀ i, i ∉ ai.dsts → get s'.fr i = get s.fr i := by
  induction ai with
  | done => intro s s' h i _; simp only [ev, Option.some.injEq] at h; subst h; rfl
  | op d A r ih =>
    intro s s' h i hi
    simp only [ev] at h
    split at h
    · rename_i v s1 h1
      rw [ih h i (by cases d <;> simp_all [AI.dsts]), get_put, if_neg (by cases d <;> simp_all [AI.dsts]; omega), act_fr h1]
    · simp at h
  | sc d c want sub x r ihs ihr =>
    intro s s' h i hi
    simp only [AI.dsts, List.mem_append, List.mem_cons, not_or] at hi
    have hne : some d ≠ some i := by simp; omega
    simp only [ev] at h
    split at h
    · split at h
      · split at h
        · rename_i s1 h1
          split at h
          · rw [ihr h i hi.2.2, get_put, if_neg hne, ihs h1 i hi.1]
          · simp at h
        · simp at h
      · rw [ihr h i hi.2.2, get_put, if_neg hne]
        simp only [St.drop, get_dels]; rw [if_neg hi.1]
    · simp at h
  | scs d c want sub x r ihs ihr =>
    intro s s' h i hi
    simp only [AI.dsts, List.mem_append, List.mem_cons, not_or] at hi
    have hne : some d ≠ some i := by simp; omega
    simp only [ev] at h
    split at h
    · split at h
      · rw [ihr h i hi.2.2, get_put, if_neg hne]
        simp only [St.drop, get_dels]; rw [if_neg hi.1]
      · simp at h
    · simp at h
/-- Code that leaves the callers' slots and objects alone. -/
def ghOk : AC → Bool
  | .keep .. => false
  | .after .. => false
  | .seq a b => ghOk a && ghOk b
  | .cond _ a b => ghOk a && ghOk b
  | .block _ a => ghOk a
  | .loop a => ghOk a
  | .keepP _ _ _ _ a => ghOk a
  | .own d _ a => decide (d < GB) && ghOk a
  | .ren _ a => ghOk a
  | .renA _ a => ghOk a
  | _ => true
theorem keep_ghs (ks : List Nat) (hks : ∀ k ∈ ks, k < GB) (l : List (Nat × AV)) (i : Nat) (hi : GB ≤ i) : get (Am.keep ks l ++ ghs l) i = get l i := by
  rw [get_append, get_ghs, if_pos hi]
  have : get (Am.keep ks l) i = none := by
    induction ks with
    | nil => rfl
    | cons k ks ih =>
      have hk := hks k (by simp)
      simp only [Am.keep]
      cases get l k with
      | none => exact ih fun j hj => hks j (by simp [hj])
      | some v =>
        simp only [keepC, get]
        rw [if_neg (by omega)]
        exact ih fun j hj => hks j (by simp [hj])
  rw [this]
def ltX : Opd → Bool
  | .t n => decide (n < GB)
  | .k _ => true
def ltD : Option Nat → Bool
  | some d => decide (d < GB)
  | none => true
def ltA (A : Act) : Bool := A.xs.all ltX && decide (A.xs.length ≤ GB)
def AI.lt : AI → Bool
  | .done => true
  | .op d A r => ltD d && ltA A && r.lt
  | .sc d c _ sub x r => decide (d < GB) && ltX c && sub.lt && ltX x && r.lt
  | .scs d c _ sub x r => decide (d < GB) && ltX c && sub.lt && ltX x && r.lt
def DIt.lt (x : DIt) : Bool := ltD x.d && ltA x.a && (match x.g with | some (t, _) => decide (t < GB) | none => true)
def ksOk : AC → Bool
  | .reg o => o.lt
  | .draw q es fs t => q.all DIt.lt && es.all (fun e => decide (e.2.1 < GB)) && fs.all (fun f => ltD f.2.1 && ltA f.2.2.1) && t.lt
  | .drawN q es fs _ t ks => q.all DIt.lt && es.all (fun e => decide (e.2.1 < GB)) && fs.all (fun f => ltD f.2.1 && ltA f.2.2.1) && t.lt && ks.all (fun k => decide (k < GB))
  | .seq a b => ksOk a && ksOk b
  | .cond c a b => ksOk a && ksOk b && ltX c
  | .block _ a => ksOk a
  | .loop a => ksOk a
  | .keepP ks _ _ _ a => ks.all (fun k => decide (k < GB)) && ksOk a
  | .own d _ a => decide (d < GB) && ksOk a
  | .ren _ a => ksOk a
  | .renA _ a => ksOk a
  | _ => true
def ltR : Rs → Bool
  | .t n => decide (n < GB)
  | .m n _ _ => decide (n < GB)
def ksFn (f : AFn) : Bool := ksOk f.body && f.results.all ltR
theorem order_ghost {nm : Nat → Option Nat} {P : Program} {Γ : Env} {N : Nat} {ops : Array Oper} {q : List DIt} {es : List (Nat × Nat × List AV)} {fs : List Eff} {t : AI} {s s0 s1 s2 s3 : St} (hN : N ≤ GB)
    (hq : chkQ P nm N ops es fs q 0 q = true) (hes : chkEs q es = true) (hfs : chkFsN ops q fs = true) (hct' : chkAI P nm N ops t none [] [] (ops.toList.drop q.length) = some [])
    (h0 : evq Γ q s = some s0) (h1 : evA es s0 = some s1) (h3 : evF Γ q es fs s1 = some s3) (h2 : ev Γ t s3 = some s2) (i : Nat) (hi : GB ≤ i) : get s2.fr i = get s.fr i := by
  have hd : ∀ j, j ∈ DIt.dsts q → j < N := by
    intro j hj
    obtain ⟨k, y, hk, hy⟩ := mem_dsts.1 hj
    obtain ⟨o, _, _, _, hdN, _⟩ := chkQ_at hq hk
    rw [hy] at hdN; simp [dstOk] at hdN; exact hdN
  have hds : ∀ e ∈ es, e.2.1 < N := by
    intro e he
    obtain ⟨x, hx, hax⟩ := chkEs_dst hes e he
    obtain ⟨j, hj⟩ := List.getElem?_of_mem hx
    obtain ⟨o, _, _, _, _, hcy, _⟩ := chkQ_at hq hj
    unfold isAlc at hax
    split at hax
    · rename_i kk cc hya
      simp only [beq_iff_eq] at hax; subst hax
      rw [hya] at hcy
      simp only [chkIt, hya, Act.quq, Act.isQ, Act.quiet, Bool.or_self, Bool.false_eq_true, if_false, Bool.and_eq_true, evA_get h1 e he, beq_iff_eq] at hcy
      exact hd _ (mem_dsts.2 ⟨j, x, hj, hcy.2.1⟩)
    · simp at hax
  have hdf : ∀ f ∈ fs, ∀ j, f.2.1 = some j → j < N := by
    intro f hf j hj
    obtain ⟨l1, l2, hl⟩ := List.append_of_mem hf
    obtain ⟨h4, _⟩ := chkFsN_at hfs l1 f l2 hl
    unfold isEf at h4
    split at h4
    · rename_i x hx
      split at h4
      · rename_i z hz
        obtain ⟨o, _, _, _, hdN, hcy, _⟩ := chkQ_at hq hx
        rw [hz] at hcy
        simp only at hcy
        have hget : get fs f.1 = some f.2 := by
          have key : ∀ {fs : List Eff}, chkFsN ops q fs = true → f ∈ fs → get fs f.1 = some f.2 := by
            intro fs
            induction fs with
            | nil => intro _ h; simp at h
            | cons g r ih =>
              intro h hf
              obtain ⟨j, d, A, ls, anc⟩ := g
              simp only [chkFsN, Bool.and_eq_true] at h
              rcases List.mem_cons.1 hf with rfl | hf
              · simp [get]
              · have := List.all_eq_true.1 h.1.2 f hf
                simp only [get]
                rw [if_neg (by simpa using Ne.symm (by simpa using this))]
                exact ih h.2 hf
          exact key hfs hf
        rw [Nat.zero_add, hget] at hcy
        simp only [chkEf, Bool.and_eq_true, beq_iff_eq] at hcy
        have hxd : x.d = f.2.1 := hcy.1.1.1.1.1.1.2
        rw [hxd, hj] at hdN; simp [dstOk] at hdN; exact hdN
      · simp at h4
    · simp at h4
  rw [ev_slots t h2 i fun hd2 => by have := (chk_dsts t hct' i hd2).2; omega]
  rw [(evF_keep h3).2.2 i fun f hf h4 => by have := hdf f hf i h4; omega]
  rw [(evA_spec h1).2.2 i (List.all_eq_true.2 fun e he => by have := hds e he; simp; omega)]
  exact (evq_keep h0).2 i fun h4 => by have := hd i h4; omega
theorem exec_ghost {nm : Nat → Option Nat} {Γ : Env} {N M : Nat} (hN : N ≤ GB) (c : AC) : ∀ (x : Code) (s s' : St) (ax : AX), chkAC P nm N c x = true → ghOk c = true → ksOk c = true → exec Γ M c s = some (ax, s') → ∀ i, GB ≤ i → get s'.fr i = get s.fr i := by
  induction c with
  | skip => intro x s s' ax _ _ _ h i _; simp only [exec, Option.some.injEq, Prod.mk.injEq] at h; obtain ⟨_, rfl⟩ := h; rfl
  | ret => intro x s s' ax _ _ _ h i _; simp only [exec, Option.some.injEq, Prod.mk.injEq] at h; obtain ⟨_, rfl⟩ := h; rfl
  | exit id => intro x s s' ax _ _ _ h i _; simp only [exec, Option.some.injEq, Prod.mk.injEq] at h; obtain ⟨_, rfl⟩ := h; rfl
  | any => intro x s s' ax _ hg _ h; simp [exec] at h
  | keep ks os a ih => intro x s s' ax _ hg _ h; simp [ghOk] at hg
  | after ks os a ih => intro x s s' ax _ hg _ h; simp [ghOk] at hg
  | reg o =>
    intro x s s' ax hc _ _ h i hi
    obtain ⟨id, ops, rfl, hc2⟩ := chkAC_reg hc
    split at hc2
    · rename_i hchk
      simp only [exec, Option.map_eq_some_iff, Prod.mk.injEq] at h
      obtain ⟨s1, h1, _, rfl⟩ := h
      exact ev_slots o h1 i fun hd => by have := (chk_dsts o hchk i hd).2; omega
    · simp at hc2
  | draw q es fs t =>
    intro x s s' ax hc _ _ h i hi
    obtain ⟨id, ops, rfl, hc2⟩ := chkAC_draw hc
    simp only [exec] at h
    split at h
    case h_2 => simp at h
    rename_i s0 h0
    split at h
    case isFalse => simp at h
    rename_i hl0
    split at h
    case h_2 => simp at h
    rename_i s1 h1
    split at h
    case isFalse => simp at h
    split at h
    case h_2 => simp at h
    rename_i s3 h3
    simp only [Option.map_eq_some_iff, Prod.mk.injEq] at h
    obtain ⟨s2, h2, _, rfl⟩ := h
    simp only [chkDraw, Bool.and_eq_true, decide_eq_true_eq] at hc2
    obtain ⟨⟨⟨⟨⟨⟨hq, hes⟩, hfs, hprev⟩, hlen⟩, hb⟩, ht⟩, hct⟩ := hc2
    split at hct
    case h_2 => simp at hct
    rename_i hct'
    exact order_ghost hN hq hes hfs hct' h0 h1 h3 h2 i hi
  | drawN q es fs ps t ks =>
    intro x s s' ax hc _ hk h i hi
    obtain ⟨id, ops, rfl, hc2⟩ := chkAC_drawN hc
    simp only [exec] at h
    split at h
    case h_2 => simp at h
    rename_i s0 h0
    split at h
    case isFalse => simp at h
    rename_i hl0
    split at h
    case h_2 => simp at h
    rename_i s1 h1
    split at h
    case isFalse => simp at h
    split at h
    case h_2 => simp at h
    rename_i s3 rs h3
    split at h
    case isFalse => simp at h
    simp only [Option.some.injEq, Prod.mk.injEq] at h
    obtain ⟨rfl, rfl⟩ := h
    simp only [ksOk, Bool.and_eq_true, List.all_eq_true, decide_eq_true_eq] at hk
    rw [keep_ghs ks hk.2 s3.fr i hi]
    simp only [chkDrawN, Bool.and_eq_true, decide_eq_true_eq, List.all_eq_true] at hc2
    obtain ⟨⟨⟨⟨⟨⟨hps, hcl⟩, hes⟩, hlen⟩, hb⟩, ht⟩, hct⟩ := hc2
    split at hct
    case h_2 => simp at hct
    rename_i hct'
    cases ps with
    | nil => simp [evN] at h3
    | cons p ps =>
      have := (hps p (by simp)).1.1.1
      simp only [evN] at h3
      split at h3
      · simp at h3
      · rename_i s4 h4
        split at h3
        · simp at h3
        · rename_i s5 h5
          have he : s5 = s3 := by
            split at h3
            · simp only [Option.some.injEq, Prod.mk.injEq] at h3; exact h3.1
            · split at h3
              · simp only [Option.some.injEq, Prod.mk.injEq] at h3; exact h3.1
              · simp at h3
          subst he
          exact order_ghost hN this.1 hes this.2 hct' h0 h1 h4 h5 i hi
  | seq a b iha ihb =>
    intro x s s' ax hc hg hk h i hi
    cases x <;> simp only [chkAC, Bool.false_eq_true] at hc
    simp only [Bool.and_eq_true] at hc
    simp only [ghOk, ksOk, Bool.and_eq_true] at hg hk
    simp only [exec] at h
    split at h
    · rename_i s1 h1
      rw [ihb _ s1 s' ax hc.2 hg.2 hk.2 h i hi, iha _ s s1 .norm hc.1 hg.1 hk.1 h1 i hi]
    · exact iha _ s s' ax hc.1 hg.1 hk.1 h i hi
  | cond c a b iha ihb =>
    intro x s s' ax hc hg hk h i hi
    cases x <;> simp only [chkAC, Bool.false_eq_true] at hc
    simp only [Bool.and_eq_true] at hc
    simp only [ghOk, ksOk, Bool.and_eq_true] at hg hk
    simp only [exec] at h
    split at h
    · rename_i t _
      cases t
      · exact ihb _ s s' ax hc.2 hg.2 hk.1.2 (by simpa using h) i hi
      · exact iha _ s s' ax hc.1.2 hg.1 hk.1.1 (by simpa using h) i hi
    · simp at h
  | block id a ih =>
    intro x s s' ax hc hg hk h i hi
    cases x <;> simp only [chkAC, Bool.false_eq_true] at hc
    simp only [Bool.and_eq_true] at hc
    simp only [ghOk, ksOk] at hg hk
    simp only [exec] at h
    split at h
    · rename_i j s1 h1
      split at h
      · simp only [Option.some.injEq, Prod.mk.injEq] at h
        obtain ⟨_, rfl⟩ := h
        exact ih _ s s1 (.ex j) hc.2 hg hk h1 i hi
      · simp only [Option.some.injEq, Prod.mk.injEq] at h
        obtain ⟨_, rfl⟩ := h
        exact ih _ s s1 (.ex j) hc.2 hg hk h1 i hi
    · exact ih _ s s' ax hc.2 hg hk h i hi
  | loop a ih =>
    intro x s s' ax hc hg hk h i hi
    cases x <;> simp only [chkAC, Bool.false_eq_true] at hc
    simp only [ghOk, ksOk] at hg hk
    simp only [exec] at h
    have key : ∀ (n : Nat) (s : St), lp (exec Γ M a) n s = some (ax, s') → get s'.fr i = get s.fr i := by
      intro n
      induction n with
      | zero => intro s h; simp [lp] at h
      | succ n ihn =>
        intro s h
        simp only [lp] at h
        split at h
        · rename_i s1 h1
          rw [ihn s1 h, ih _ s s1 .norm hc hg hk h1 i hi]
        · exact ih _ s s' ax hc hg hk h i hi
    exact key M s h
  | keepP ks lo hi_ os a ih =>
    intro x s s' ax hc hg hk h i hi
    have hc : chkAC P nm N a x = true := by cases x <;> simpa only [chkAC] using hc
    simp only [ghOk] at hg
    simp only [ksOk, Bool.and_eq_true, List.all_eq_true, decide_eq_true_eq] at hk
    simp only [exec] at h
    rw [ih x _ s' ax hc hg hk.2 h i hi]
    exact keep_ghs ks hk.1 s.fr i hi
  | own d key a ih =>
    intro x s s' ax hc hg hk h i hi
    have hc : chkAC P nm N a x = true := by
      have : key < MK ∧ chkAC P nm N a x = true := by cases x <;> simpa only [chkAC, Bool.and_eq_true, decide_eq_true_eq] using hc
      exact this.2
    simp only [ghOk, Bool.and_eq_true, decide_eq_true_eq] at hg
    simp only [ksOk, Bool.and_eq_true] at hk
    simp only [exec] at h
    split at h
    · split at h
      · rw [ih x _ s' ax hc hg.2 hk.2 h i hi, get_put, if_neg (by simp; omega)]; rfl
      · simp at h
    · simp at h
  | renA key a ih =>
    intro x s s' ax hc hg hk h i hi
    have hc : chkAC P nm N a x = true := by cases x <;> simpa only [chkAC] using hc
    simp only [ghOk] at hg
    simp only [ksOk] at hk
    simp only [exec] at h
    split at h
    · rename_i s1 h1
      have e1 := ih x s s1 .norm hc hg hk h1 i hi
      unfold renT at h
      split at h
      · split at h
        · rename_i hok
          simp only [Option.some.injEq, Prod.mk.injEq] at h
          obtain ⟨_, rfl⟩ := h
          rw [← e1]
          simp only [renOk, Bool.and_eq_true, List.all_eq_true, Bool.not_eq_true'] at hok
          have hgh := hok.2
          show get (renFr key (renKey key (cntOf s1.ob)) s1.fr) i = get s1.fr i
          rw [renFr_get]
          cases hv : get s1.fr i with
          | none => rfl
          | some v =>
            have hm : get (ghs s1.fr) i = some v := by rw [get_ghs, if_pos hi]; exact hv
            rw [Option.map_some, ren_id (hgh _ (get_mem hm))]
        · simp at h
      · simp only [Option.some.injEq, Prod.mk.injEq] at h
        obtain ⟨_, rfl⟩ := h
        exact e1
    · exact ih x s s' ax hc hg hk h i hi
  | ren key a ih =>
    intro x s s' ax hc hg hk h i hi
    have hc : chkAC P nm N a x = true := by cases x <;> simpa only [chkAC] using hc
    simp only [ghOk] at hg
    simp only [ksOk] at hk
    simp only [exec] at h
    split at h
    · split at h
      · rename_i hok
        rw [ih x _ s' ax hc hg hk h i hi]
        simp only [renOk, Bool.and_eq_true, List.all_eq_true, Bool.not_eq_true'] at hok
        have hgh := hok.2
        show get (renFr key (renKey key (cntOf s.ob)) s.fr) i = get s.fr i
        rw [renFr_get]
        cases hv : get s.fr i with
        | none => rfl
        | some v =>
          have hm : get (ghs s.fr) i = some v := by rw [get_ghs, if_pos hi]; exact hv
          rw [Option.map_some, ren_id (hgh _ (get_mem hm))]
      · simp at h
    · exact ih x _ s' ax hc hg hk h i hi
/-! ### What functions answer hangs on none of the callers' slots -/
def lss (R : List Nat) (s : St) : St := ⟨dels R s.fr, s.ob⟩
section
variable {Γ : Env} {R : List Nat}
theorem del_comm {α : Type} (a b : Nat) : ∀ l : List (Nat × α), del (del l a) b = del (del l b) a
  | [] => rfl
  | (i, v) :: l => by
    simp only [del]
    by_cases h1 : i = a
    · by_cases h2 : i = b
      · rw [if_pos h1, if_pos h2]; exact del_comm a b l
      · rw [if_pos h1, if_neg h2]; simp only [del]; rw [if_pos h1]; exact del_comm a b l
    · by_cases h2 : i = b
      · rw [if_neg h1, if_pos h2]; simp only [del]; rw [if_pos h2]; exact del_comm a b l
      · rw [if_neg h1, if_neg h2]; simp only [del]; rw [if_neg h1, if_neg h2, del_comm a b l]
theorem dels_del {α : Type} (a : Nat) : ∀ (R : List Nat) (l : List (Nat × α)), dels R (del l a) = del (dels R l) a
  | [], l => rfl
  | k :: R, l => by simp only [dels]; rw [del_comm, dels_del a R]
theorem dels_comm {α : Type} : ∀ (A R : List Nat) (l : List (Nat × α)), dels A (dels R l) = dels R (dels A l)
  | [], R, l => rfl
  | a :: A, R, l => by simp only [dels]; rw [← dels_del, dels_comm A R]
theorem dels_cons {i : Nat} {v : AV} : ∀ {R : List Nat} (fr : List (Nat × AV)), i ∉ R → dels R ((i, v) :: fr) = (i, v) :: dels R fr
  | [], fr, _ => rfl
  | k :: R, fr, h => by
    simp only [List.mem_cons, not_or] at h
    simp only [dels, del]
    rw [if_neg h.1, dels_cons _ h.2]
theorem dels_append {α : Type} : ∀ (R : List Nat) (l m : List (Nat × α)), dels R (l ++ m) = dels R l ++ dels R m
  | [], l, m => rfl
  | k :: R, l, m => by
    have : ∀ l : List (Nat × α), del (l ++ m) k = del l k ++ del m k := fun l => by
      induction l with
      | nil => rfl
      | cons p l ih =>
        obtain ⟨i, v⟩ := p
        simp only [List.cons_append, del]
        split
        · exact ih
        · rw [ih]; rfl
    simp only [dels, this, dels_append R]
theorem ghs_del (k : Nat) : ∀ l : List (Nat × AV), ghs (del l k) = del (ghs l) k
  | [] => rfl
  | (i, v) :: l => by
    simp only [del, ghs]
    by_cases h1 : i = k
    · rw [if_pos h1]
      split
      · simp only [del]; rw [if_pos h1]; exact ghs_del k l
      · exact ghs_del k l
    · rw [if_neg h1]
      simp only [ghs]
      split
      · simp only [del]; rw [if_neg h1, ghs_del k l]
      · exact ghs_del k l
theorem ghs_dels : ∀ (R : List Nat) (l : List (Nat × AV)), ghs (dels R l) = dels R (ghs l)
  | [], l => rfl
  | k :: R, l => by simp only [dels]; rw [ghs_dels R, ghs_del]
theorem lt_not_mem (hR : ∀ r ∈ R, GB ≤ r) {n : Nat} (h : n < GB) : n ∉ R := fun hm => by have := hR n hm; omega
theorem get_lss (hR : ∀ r ∈ R, GB ≤ r) {l : List (Nat × AV)} {n : Nat} (h : n < GB) : get (dels R l) n = get l n := by
  rw [get_dels, if_neg (lt_not_mem hR h)]
theorem opd_less (hR : ∀ r ∈ R, GB ≤ r) {s : St} {x : Opd} (h : ltX x = true) : (lss R s).opd x = s.opd x := by
  cases x with
  | k v => rfl
  | t n => exact get_lss hR (by simpa [ltX] using h)
theorem put_less (hR : ∀ r ∈ R, GB ≤ r) {s : St} {d : Option Nat} {v : AV} (h : ltD d = true) : (lss R s).put d v = lss R (s.put d v) := by
  cases d with
  | none => rfl
  | some i =>
    simp only [St.put, lss]
    rw [dels_cons _ (lt_not_mem hR (by simpa [ltD] using h))]
theorem act_lss (hΓ : PtMono Γ) (hR : ∀ r ∈ R, GB ≤ r) {A : Act} {s s' : St} {v : AV} (hA : ltA A = true) (h : act Γ s A = some (v, s')) : act Γ (lss R s) A = some (v, lss R s') := by
  simp only [ltA, Bool.and_eq_true, List.all_eq_true, decide_eq_true_eq] at hA
  have := act_less hΓ (R := R) hA.2 (fun x hx => opd_less (s := s) hR (hA.1 x hx)) h
  unfold lss
  rw [this, act_fr h]
theorem drop_less {s : St} {ai : AI} : (lss R s).drop ai = lss R (s.drop ai) := by
  simp only [St.drop, lss]; rw [dels_comm]
theorem ev_less (hΓ : PtMono Γ) (hR : ∀ r ∈ R, GB ≤ r) (ai : AI) : ∀ {s s' : St}, ai.lt = true → ev Γ ai s = some s' → ev Γ ai (lss R s) = some (lss R s') := by
  induction ai with
  | done => intro s s' _ h; simp only [ev, Option.some.injEq] at h; subst h; rfl
  | op d A r ih =>
    intro s s' hl h
    simp only [AI.lt, Bool.and_eq_true] at hl
    simp only [ev] at h ⊢
    split at h
    · rename_i v s1 h1
      simp only [act_lss hΓ hR hl.1.2 h1, put_less hR hl.1.1]
      exact ih hl.2 h
    · simp at h
  | sc d c want sub x r ihs ihr =>
    intro s s' hl h
    simp only [AI.lt, Bool.and_eq_true, decide_eq_true_eq] at hl
    simp only [ev] at h ⊢
    rw [opd_less hR hl.1.1.1.2]
    split at h
    · rename_i b hb
      try simp only
      split at h
      · rename_i hw
        rw [if_pos hw]
        split at h
        · rename_i s1 h1
          simp only [ihs hl.1.1.2 h1]
          rw [opd_less hR hl.1.2]
          split at h
          · rename_i v hv
            try simp only
            rw [put_less hR (by simp [ltD, hl.1.1.1.1])]
            exact ihr hl.2 h
          · simp at h
        · simp at h
      · rename_i hw
        rw [if_neg hw, drop_less, put_less hR (by simp [ltD, hl.1.1.1.1])]
        exact ihr hl.2 h
    · simp at h
  | scs d c want sub x r ihs ihr =>
    intro s s' hl h
    simp only [AI.lt, Bool.and_eq_true, decide_eq_true_eq] at hl
    simp only [ev] at h ⊢
    rw [opd_less hR hl.1.1.1.2]
    split at h
    · rename_i b s1 hb h1
      simp only [hb, ihs hl.1.1.2 h1]
      rw [opd_less hR hl.1.2]
      split at h
      · rename_i y hy
        try simp only [hy]
        rw [drop_less, put_less hR (by simp [ltD, hl.1.1.1.1])]
        exact ihr hl.2 h
      · simp at h
    · simp at h
theorem met_less (hR : ∀ r ∈ R, GB ≤ r) {s : St} {g : Option (Nat × Bool)} (h : (match g with | some (t, _) => decide (t < GB) | none => true) = true) : met (lss R s) g = met s g := by
  unfold met
  split
  · rfl
  · rename_i t want
    have : get (lss R s).fr t = get s.fr t := get_lss hR (by simpa using h)
    simp only [this]
theorem evq_less (hΓ : PtMono Γ) (hR : ∀ r ∈ R, GB ≤ r) : ∀ {q : List DIt} {s s' : St}, q.all DIt.lt = true → evq Γ q s = some s' → evq Γ q (lss R s) = some (lss R s')
  | [], s, s', _, h => by simp only [evq, Option.some.injEq] at h; subst h; rfl
  | x :: r, s, s', hl, h => by
    simp only [List.all_cons, Bool.and_eq_true, DIt.lt] at hl
    simp only [evq] at h ⊢
    split at h
    · rename_i hq
      exact evq_less hΓ hR (by simpa [DIt.lt] using hl.2) h
    · rename_i hq
      rw [met_less hR hl.1.2]
      split at h
      · simp at h
      · try simp only
        rw [put_less hR hl.1.1.1]
        exact evq_less hΓ hR (by simpa [DIt.lt] using hl.2) h
      · split at h
        · rename_i v s1 h1
          split at h
          · rename_i hlen
            simp only [act_lss hΓ hR hl.1.1.2 h1]
            have hl2 : (lss R s1).ob.length = (lss R s).ob.length := hlen
            rw [if_pos hl2, put_less hR hl.1.1.1]
            exact evq_less hΓ hR (by simpa [DIt.lt] using hl.2) h
          · simp at h
        · simp at h
theorem evA_less (hR : ∀ r ∈ R, GB ≤ r) : ∀ {es : List (Nat × Nat × List AV)} {s s' : St}, es.all (fun e => decide (e.2.1 < GB)) = true → evA es s = some s' → evA es (lss R s) = some (lss R s')
  | [], s, s', _, h => by simp only [evA, Option.some.injEq] at h; subst h; rfl
  | (key, d, cs) :: r, s, s', hl, h => by
    simp only [List.all_cons, Bool.and_eq_true] at hl
    simp only [evA] at h ⊢
    split at h
    · simp at h
    · rename_i hk
      have hk2 : get (lss R s).ob key = none := hk
      simp only [hk2]
      have e : (lss R s).obj key ⟨cs.length, [cs]⟩ = lss R (s.obj key ⟨cs.length, [cs]⟩) := rfl
      rw [e, put_less hR (by simpa [ltD] using hl.1)]
      exact evA_less hR hl.2 h
theorem okA_less : ∀ {es : List (Nat × Nat × List AV)} {s : St}, okA es s = true → okA es (lss R s) = true
  | [], s, _ => rfl
  | (key, d, cs) :: r, s, h => by
    simp only [okA, Bool.and_eq_true, List.all_eq_true] at h ⊢
    exact ⟨⟨fun p hp => h.1.1 p (mem_dels hp).1, h.1.2⟩, okA_less h.2⟩
theorem effKey_less (hR : ∀ r ∈ R, GB ≤ r) {s : St} {A : Act} (hA : ltA A = true) : effKey (lss R s) A = effKey s A := by
  simp only [ltA, Bool.and_eq_true, List.all_eq_true, decide_eq_true_eq] at hA
  have ho : ∀ x ∈ A.xs, (lss R s).opd x = s.opd x := fun x hx => opd_less hR (hA.1 x hx)
  cases A <;> try rfl
  case sto sz x v => simp only [effKey]; rw [ho x (by simp [Act.xs])]
  case app key sz b x y => simp only [effKey]; rw [ho x (by simp [Act.xs])]
  case bso key sz z n ps => simp only [effKey]; rw [parts_local (s := s) (t := lss R s) rfl ho]
theorem effOk_less {es : List (Nat × Nat × List AV)} {s s' : St} {k : Nat} {A : Act} {ls : List Nat} (h : effOk es s k A ls s' = true) : effOk es (lss R s) k A ls (lss R s') = true := by
  simp only [effOk, Bool.and_eq_true, List.all_eq_true] at h ⊢
  refine ⟨⟨fun i hi => ?_, h.1.2⟩, okA_less h.2⟩
  have := h.1.1 i hi
  have e : get (lss R s).fr i = if i ∈ R then none else get s.fr i := get_dels _ _ _
  by_cases hr : i ∈ R
  · rw [if_pos hr] at e; simp only [e]
  · rw [if_neg hr] at e; simp only [e]; exact this
theorem lateX_less (hΓ : PtMono Γ) (hR : ∀ r ∈ R, GB ≤ r) {t : St} {x : DIt} (hl : x.lt = true) (h : lateX Γ t (some x) = true) : lateX Γ (lss R t) (some x) = true := by
  obtain ⟨d, A, g⟩ := x
  simp only [DIt.lt, Bool.and_eq_true] at hl
  simp only [lateX] at h ⊢
  rw [met_less hR hl.2]
  cases hm : met t g with
  | none => rw [hm] at h; simp [metL] at h
  | some b =>
    rw [hm] at h
    cases b with
    | false => rfl
    | true =>
      simp only [metL] at h ⊢
      cases ha : act Γ t A with
      | none => rw [ha] at h; simp [okL] at h
      | some p =>
        obtain ⟨v, t'⟩ := p
        rw [ha] at h
        rw [act_lss hΓ hR hl.1.2 ha]
        simp only [okL, Bool.and_eq_true] at h ⊢
        refine ⟨h.1, ?_⟩
        cases d with
        | none => rfl
        | some i =>
          have e : get (lss R t).fr i = get t.fr i := get_lss hR (by simpa [ltD] using hl.1.1)
          simp only [e]
          exact h.2
theorem lateQ_less (hΓ : PtMono Γ) (hR : ∀ r ∈ R, GB ≤ r) {q : List DIt} {t : St} (hq : q.all DIt.lt = true) : ∀ {ls : List Nat}, lateQ Γ q t ls = true → lateQ Γ q (lss R t) ls = true
  | [], _ => rfl
  | j :: ls, h => by
    simp only [lateQ, Bool.and_eq_true] at h ⊢
    refine ⟨?_, lateQ_less hΓ hR hq h.2⟩
    cases hx : q[j]? with
    | none => rw [hx] at h; simp [lateX] at h
    | some x =>
      rw [hx] at h
      exact lateX_less hΓ hR (List.all_eq_true.1 hq x (List.mem_of_getElem? hx)) h.1
theorem late0_less (hΓ : PtMono Γ) (hR : ∀ r ∈ R, GB ≤ r) {t : St} : ∀ {q : List DIt}, q.all DIt.lt = true → late0 Γ t q = true → late0 Γ (lss R t) q = true
  | [], _, _ => rfl
  | x :: r, hq, h => by
    simp only [List.all_cons, Bool.and_eq_true] at hq
    simp only [late0, Bool.and_eq_true] at h ⊢
    refine ⟨?_, late0_less hΓ hR hq.2 h.2⟩
    have h1 := h.1
    split
    · rename_i hq1
      rw [hq1] at h1
      exact lateX_less hΓ hR hq.1 h1
    · rfl
theorem actG_less (hΓ : PtMono Γ) (hR : ∀ r ∈ R, GB ≤ r) {q : List DIt} {s s1 : St} {v : AV} {f : Eff} (hq : q.all DIt.lt = true) (hl : ltA f.2.2.1 = true) (h : actG Γ q s f = some (v, s1)) : actG Γ q (lss R s) f = some (v, lss R s1) := by
  have hg : gmet q (lss R s) f.1 = gmet q s f.1 := by
    unfold gmet
    cases hx : q[f.1]? with
    | none => rfl
    | some x =>
      have := List.all_eq_true.1 hq x (List.mem_of_getElem? hx)
      simp only [DIt.lt, Bool.and_eq_true] at this
      exact met_less hR this.2
  unfold actG at h ⊢
  rw [hg]
  split at h
  · rename_i hge
    rw [if_pos hge]
    split at h
    · exact act_lss hΓ hR hl h
    · simp only [Option.some.injEq, Prod.mk.injEq] at h
      simp only [← h.1, ← h.2]
    · simp at h
  · rename_i hge
    rw [if_neg hge]
    exact act_lss hΓ hR hl h
theorem evF_less (hΓ : PtMono Γ) (hR : ∀ r ∈ R, GB ≤ r) {q : List DIt} (hq : q.all DIt.lt = true) {es : List (Nat × Nat × List AV)} : ∀ {fs : List Eff} {s s' : St}, fs.all (fun f => ltD f.2.1 && ltA f.2.2.1) = true → evF Γ q es fs s = some s' → evF Γ q es fs (lss R s) = some (lss R s')
  | [], s, s', _, h => by simp only [evF, Option.some.injEq] at h; subst h; rfl
  | (j, d, A, ls, anc) :: r, s, s', hl, h => by
    simp only [List.all_cons, Bool.and_eq_true] at hl
    simp only [evF] at h ⊢
    rw [effKey_less hR hl.1.2]
    split at h
    · split at h
      · simp at h
      · rename_i v s1 h1
        split at h
        · rename_i hc
          simp only [actG_less hΓ hR hq hl.1.2 h1, put_less hR hl.1.1]
          simp only [Bool.and_eq_true] at hc
          rw [if_pos (by rw [hc.1.1, hc.1.2, lateQ_less hΓ hR hq hc.2]; rfl)]
          exact evF_less hΓ hR hq hl.2 h
        · simp at h
    · split at h
      · simp at h
      · rename_i v s1 h1
        split at h
        · rename_i hc
          simp only [act_lss hΓ hR hl.1.2 h1, put_less hR hl.1.1]
          rw [if_pos (effOk_less hc)]
          exact evF_less hΓ hR hq hl.2 h
        · simp at h
theorem keep_less (hR : ∀ r ∈ R, GB ≤ r) {l : List (Nat × AV)} : ∀ {ks : List Nat}, (∀ k ∈ ks, k < GB) → Am.keep ks (dels R l) = Am.keep ks l ∧ dels R (Am.keep ks l) = Am.keep ks l
  | [], _ => by
    refine ⟨rfl, ?_⟩
    have : ∀ R : List Nat, dels R ([] : List (Nat × AV)) = [] := fun R => by
      induction R with
      | nil => rfl
      | cons k R ih => simpa only [dels, del] using ih
    exact this R
  | k :: ks, h => by
    obtain ⟨h1, h2⟩ := keep_less hR (l := l) (ks := ks) fun j hj => h j (by simp [hj])
    have hk := h k (by simp)
    simp only [Am.keep, get_lss hR hk, h1]
    refine ⟨trivial, ?_⟩
    cases get l k with
    | none => exact h2
    | some v => simp only [keepC]; rw [dels_cons _ (lt_not_mem hR hk), h2]
theorem renFr_del (a b k : Nat) : ∀ l : List (Nat × AV), renFr a b (del l k) = del (renFr a b l) k
  | [] => rfl
  | (i, v) :: l => by
    simp only [del, renFr]
    split
    · exact renFr_del a b k l
    · simp only [renFr, renFr_del a b k l]
theorem renFr_dels (a b : Nat) : ∀ (R : List Nat) (l : List (Nat × AV)), renFr a b (dels R l) = dels R (renFr a b l)
  | [], l => rfl
  | k :: R, l => by simp only [dels]; rw [renFr_dels a b R, renFr_del]
theorem ordL_all {fs : List Eff} {f : Eff → Bool} (h : fs.all f = true) (p : List Nat) : (ordL fs p).all f = true := by
  rw [List.all_eq_true] at h ⊢
  intro x hx
  obtain ⟨i, _, hi⟩ := ordL_mem hx
  exact h x (List.mem_of_getElem? hi)
theorem evN_less (hΓ : PtMono Γ) (hR : ∀ r ∈ R, GB ≤ r) {q : List DIt} (hq : q.all DIt.lt = true) {es : List (Nat × Nat × List AV)} {fs : List Eff} (hf : fs.all (fun f => ltD f.2.1 && ltA f.2.2.1) = true) {t : AI} (ht : t.lt = true) {s : St} : ∀ {ps : List (List Nat)} {s2 : St} {rs : List St}, evN Γ q es fs t s ps = some (s2, rs) → evN Γ q es fs t (lss R s) ps = some (lss R s2, rs.map (lss R))
  | [], _, _, h => by simp [evN] at h
  | p :: ps, s2, rs, h => by
    simp only [evN] at h ⊢
    split at h
    · simp at h
    · rename_i s3 h3
      simp only [evF_less hΓ hR hq (ordL_all hf p) h3]
      split at h
      · simp at h
      · rename_i s4 h4
        simp only [ev_less hΓ hR t ht h4]
        split at h
        · simp only [Option.some.injEq, Prod.mk.injEq] at h
          obtain ⟨rfl, rfl⟩ := h
          rfl
        · rename_i p2 ps2
          split at h
          · rename_i s5 r h5
            simp only [Option.some.injEq, Prod.mk.injEq] at h
            obtain ⟨rfl, rfl⟩ := h
            simp only [evN_less hΓ hR hq hf ht h5, List.map_cons]
          · simp at h
theorem sameN_less (hR : ∀ r ∈ R, GB ≤ r) {ks : List Nat} (hk : ∀ k ∈ ks, k < GB) {a b : St} (h : sameN ks a b = true) : sameN ks (lss R a) (lss R b) = true := by
  simp only [sameN, Bool.and_eq_true] at h ⊢
  refine ⟨⟨h.1.1, ?_⟩, ?_⟩
  · simp only [lss, (keep_less hR (l := a.fr) hk).1, (keep_less hR (l := b.fr) hk).1]; exact h.1.2
  · simp only [lss, ghs_dels]
    rw [sameFr_eq h.2]; exact sameFr_self _
theorem exec_less {M : Nat} (hΓ : PtMono Γ) (hR : ∀ r ∈ R, GB ≤ r) (c : AC) : ∀ (s s' : St) (ax : AX), ghOk c = true → ksOk c = true → exec Γ M c s = some (ax, s') → exec Γ M c (lss R s) = some (ax, lss R s') := by
  induction c with
  | skip => intro s s' ax _ _ h; simp only [exec, Option.some.injEq, Prod.mk.injEq] at h ⊢; obtain ⟨rfl, rfl⟩ := h; exact ⟨rfl, rfl⟩
  | ret => intro s s' ax _ _ h; simp only [exec, Option.some.injEq, Prod.mk.injEq] at h ⊢; obtain ⟨rfl, rfl⟩ := h; exact ⟨rfl, rfl⟩
  | exit id => intro s s' ax _ _ h; simp only [exec, Option.some.injEq, Prod.mk.injEq] at h ⊢; obtain ⟨rfl, rfl⟩ := h; exact ⟨rfl, rfl⟩
  | any => intro s s' ax _ _ h; simp [exec] at h
  | keep ks os a ih => intro s s' ax hg _ h; simp [ghOk] at hg
  | after ks os a ih => intro s s' ax hg _ h; simp [ghOk] at hg
  | reg o =>
    intro s s' ax _ hk h
    simp only [ksOk] at hk
    simp only [exec, Option.map_eq_some_iff, Prod.mk.injEq] at h ⊢
    obtain ⟨s1, h1, rfl, rfl⟩ := h
    exact ⟨_, ev_less hΓ hR o hk h1, rfl, rfl⟩
  | draw q es fs t =>
    intro s s' ax _ hk h
    simp only [ksOk, Bool.and_eq_true] at hk
    obtain ⟨⟨⟨k1, k2⟩, k3⟩, k4⟩ := hk
    simp only [exec] at h ⊢
    split at h
    case h_2 => simp at h
    rename_i s0 h0
    split at h
    case isFalse => simp at h
    rename_i hl0
    split at h
    case h_2 => simp at h
    rename_i s1 h1
    split at h
    case isFalse => simp at h
    rename_i hok
    split at h
    case h_2 => simp at h
    rename_i s3 h3
    simp only [Option.map_eq_some_iff, Prod.mk.injEq] at h
    obtain ⟨s2, h2, rfl, rfl⟩ := h
    simp only [evq_less hΓ hR k1 h0, late0_less hΓ hR k1 hl0, evA_less hR k2 h1, okA_less hok, if_true, evF_less hΓ hR k1 (by simpa using k3) h3, ev_less hΓ hR t k4 h2, Option.map]
  | drawN q es fs ps t ks =>
    intro s s' ax _ hk h
    simp only [ksOk, Bool.and_eq_true] at hk
    obtain ⟨⟨⟨⟨k1, k2⟩, k3⟩, k4⟩, k5⟩ := hk
    simp only [List.all_eq_true, decide_eq_true_eq] at k5
    simp only [exec] at h ⊢
    split at h
    case h_2 => simp at h
    rename_i s0 h0
    split at h
    case isFalse => simp at h
    rename_i hl0
    split at h
    case h_2 => simp at h
    rename_i s1 h1
    split at h
    case isFalse => simp at h
    rename_i hok
    split at h
    case h_2 => simp at h
    rename_i s3 rs h3
    split at h
    case isFalse => simp at h
    rename_i hs
    simp only [Option.some.injEq, Prod.mk.injEq] at h
    obtain ⟨rfl, rfl⟩ := h
    have hs2 : (rs.map (lss R)).all (sameN ks (lss R s3)) = true := by
      rw [List.all_eq_true] at hs ⊢
      intro x hx
      obtain ⟨y, hy, rfl⟩ := List.mem_map.1 hx
      exact sameN_less hR k5 (hs y hy)
    obtain ⟨e1, e2⟩ := keep_less hR (l := s3.fr) k5
    simp only [evq_less hΓ hR k1 h0, late0_less hΓ hR k1 hl0, evA_less hR k2 h1, okA_less hok, if_true, evN_less hΓ hR k1 (by simpa using k3) k4 h3, hs2]
    simp only [lss]
    rw [e1, dels_append, e2, ghs_dels]
  | seq a b iha ihb =>
    intro s s' ax hg hk h
    simp only [ghOk, ksOk, Bool.and_eq_true] at hg hk
    simp only [exec] at h ⊢
    split at h
    · rename_i s1 h1
      simp only [iha s s1 .norm hg.1 hk.1 h1]
      exact ihb s1 s' ax hg.2 hk.2 h
    · rename_i hne
      rw [iha s s' ax hg.1 hk.1 h]
      cases ax with
      | norm => exact (hne s' h).elim
      | ex i => rfl
      | ret => rfl
  | cond c a b iha ihb =>
    intro s s' ax hg hk h
    simp only [ghOk, ksOk, Bool.and_eq_true] at hg hk
    simp only [exec] at h ⊢
    rw [opd_less hR hk.2]
    split at h
    · rename_i t ht
      try simp only
      cases t
      · simp only [Bool.false_eq_true, if_false] at h ⊢; exact ihb s s' ax hg.2 hk.1.2 h
      · simp only [if_true] at h ⊢; exact iha s s' ax hg.1 hk.1.1 h
    · simp at h
  | block id a ih =>
    intro s s' ax hg hk h
    simp only [ghOk, ksOk] at hg hk
    simp only [exec] at h ⊢
    split at h
    · rename_i j s1 h1
      simp only [ih s s1 (.ex j) hg hk h1]
      split at h
      · rename_i hj
        rw [if_pos hj]
        simp only [Option.some.injEq, Prod.mk.injEq] at h ⊢
        exact ⟨h.1, by rw [h.2]⟩
      · rename_i hj
        rw [if_neg hj]
        simp only [Option.some.injEq, Prod.mk.injEq] at h ⊢
        exact ⟨h.1, by rw [h.2]⟩
    · rename_i hne
      rw [ih s s' ax hg hk h]
      cases ax with
      | norm => rfl
      | ex i => exact (hne i s' h).elim
      | ret => rfl
  | loop a ih =>
    intro s s' ax hg hk h
    simp only [ghOk, ksOk] at hg hk
    simp only [exec] at h ⊢
    have key : ∀ (n : Nat) (s : St), lp (exec Γ M a) n s = some (ax, s') → lp (exec Γ M a) n (lss R s) = some (ax, lss R s') := by
      intro n
      induction n with
      | zero => intro s h; simp [lp] at h
      | succ n ihn =>
        intro s h
        simp only [lp] at h ⊢
        split at h
        · rename_i s1 h1
          simp only [ih s s1 .norm hg hk h1]
          exact ihn s1 h
        · rename_i hne
          rw [ih s s' ax hg hk h]
          cases ax with
          | norm => exact (hne s' h).elim
          | ex i => rfl
          | ret => rfl
    exact key M s h
  | keepP ks lo hi_ os a ih =>
    intro s s' ax hg hk h
    simp only [ghOk] at hg
    simp only [ksOk, Bool.and_eq_true, List.all_eq_true, decide_eq_true_eq] at hk
    simp only [exec] at h ⊢
    have := ih _ s' ax hg hk.2 h
    rw [← this]
    have e : (⟨Am.keep ks (lss R s).fr ++ ghs (lss R s).fr, keepF lo hi_ os (lss R s).ob⟩ : St) = lss R ⟨Am.keep ks s.fr ++ ghs s.fr, keepF lo hi_ os s.ob⟩ := by
      obtain ⟨e1, e2⟩ := keep_less hR (l := s.fr) hk.1
      simp only [lss]
      rw [e1, dels_append, e2, ghs_dels]
    rw [e]
  | own d key a ih =>
    intro s s' ax hg hk h
    simp only [ghOk, Bool.and_eq_true, decide_eq_true_eq] at hg
    simp only [ksOk, Bool.and_eq_true, decide_eq_true_eq] at hk
    simp only [exec] at h ⊢
    have e : get (lss R s).fr d = get s.fr d := get_lss hR hg.1
    rw [e]
    split at h
    · rename_i sz hd
      try simp only
      split at h
      · rename_i hf
        have hf2 : (lss R s).free key = true := free_less R hf
        rw [if_pos hf2]
        have e2 : ((lss R s).obj key ⟨sz, []⟩).put (some d) (.sl key 0 0 0) = lss R ((s.obj key ⟨sz, []⟩).put (some d) (.sl key 0 0 0)) := put_less (s := s.obj key ⟨sz, []⟩) hR (by simp [ltD, hg.1])
        rw [e2]
        exact ih _ s' ax hg.2 hk.2 h
      · simp at h
    · simp at h
  | renA key a ih =>
    intro s s' ax hg hk h
    simp only [ghOk] at hg
    simp only [ksOk] at hk
    simp only [exec] at h ⊢
    split at h
    · rename_i s1 h1
      simp only [ih s s1 .norm hg hk h1]
      unfold renT at h ⊢
      have e : get (lss R s1).ob key = get s1.ob key := rfl
      rw [e]
      split at h
      · split at h
        · rename_i hok
          have hok2 : renOk (lss R s1) key (cntOf (lss R s1).ob) = true := by
            have hok0 := hok
            simp only [renOk, Bool.and_eq_true, List.all_eq_true, Bool.not_eq_true'] at hok0 ⊢
            obtain ⟨⟨⟨⟨⟨h1, h3⟩, h4⟩, h5⟩, h6⟩, h7⟩ := hok0
            refine ⟨⟨⟨⟨⟨h1, free_less R h3⟩, free_less R h4⟩, h5⟩, h6⟩, fun p hp => ?_⟩
            have : p ∈ ghs s1.fr := by
              have e2 : ghs (lss R s1).fr = dels R (ghs s1.fr) := ghs_dels R s1.fr
              rw [e2] at hp
              exact (mem_dels hp).1
            exact h7 p this
          rw [if_pos hok2]
          have e2 : renS (lss R s1) key (cntOf (lss R s1).ob) = lss R (renS s1 key (cntOf s1.ob)) := by
            have e3 : renFr key (renKey key (cntOf s1.ob)) (dels R s1.fr) = dels R (renFr key (renKey key (cntOf s1.ob)) s1.fr) := renFr_dels _ _ R s1.fr
            simp only [renS, lss, e3]
          rw [e2]
          simp only [Option.some.injEq, Prod.mk.injEq] at h ⊢
          exact ⟨h.1, by rw [h.2]⟩
        · simp at h
      · simp only [Option.some.injEq, Prod.mk.injEq] at h ⊢
        exact ⟨h.1, by rw [h.2]⟩
    · rename_i hne
      rw [ih s s' ax hg hk h]
      cases ax with
      | norm => exact (hne s' h).elim
      | ex i => rfl
      | ret => rfl
  | ren key a ih =>
    intro s s' ax hg hk h
    simp only [ghOk] at hg
    simp only [ksOk] at hk
    simp only [exec] at h ⊢
    have e : get (lss R s).ob key = get s.ob key := rfl
    rw [e]
    split at h
    · split at h
      · rename_i hok
        have hok2 : renOk (lss R s) key (cntOf (lss R s).ob) = true := by
          have hok0 := hok
          simp only [renOk, Bool.and_eq_true, List.all_eq_true, Bool.not_eq_true'] at hok0 ⊢
          obtain ⟨⟨⟨⟨⟨h1, h3⟩, h4⟩, h5⟩, h6⟩, h7⟩ := hok0
          refine ⟨⟨⟨⟨⟨h1, free_less R h3⟩, free_less R h4⟩, h5⟩, h6⟩, fun p hp => ?_⟩
          have : p ∈ ghs s.fr := by
            have e2 : ghs (lss R s).fr = dels R (ghs s.fr) := ghs_dels R s.fr
            rw [e2] at hp
            exact (mem_dels hp).1
          exact h7 p this
        rw [if_pos hok2]
        have e2 : renS (lss R s) key (cntOf (lss R s).ob) = lss R (renS s key (cntOf s.ob)) := by
          have e3 : renFr key (renKey key (cntOf s.ob)) (dels R s.fr) = dels R (renFr key (renKey key (cntOf s.ob)) s.fr) := renFr_dels _ _ R s.fr
          simp only [renS, lss, e3]
        rw [e2]
        exact ih _ s' ax hg hk h
      · simp at h
    · exact ih _ s' ax hg hk h
theorem slots_less (hR : ∀ r ∈ R, GB ≤ r) {s : St} : ∀ {rs : List Rs}, rs.all ltR = true → (lss R s).slots rs = s.slots rs
  | [], _ => rfl
  | .t i :: rs, h => by
    simp only [List.all_cons, Bool.and_eq_true, ltR, decide_eq_true_eq] at h
    have e : get (lss R s).fr i = get s.fr i := get_lss hR h.1
    simp only [St.slots, e, slots_less hR h.2]
  | .m i sz ag :: rs, h => by
    simp only [List.all_cons, Bool.and_eq_true, ltR, decide_eq_true_eq] at h
    have e : get (lss R s).fr i = get s.fr i := get_lss hR h.1
    simp only [St.slots, e, slots_less hR h.2, load_local (s := s) (t := lss R s) rfl]
theorem runP_less {N : Nat} {f : AFn} {s : St} {r : List AV × List (Nat × Obj)} (hΓ : PtMono Γ) (hR : ∀ r ∈ R, GB ≤ r) (hg : ghOk f.body = true) (hk : ksFn f = true) (h : runP Γ N f s = some r) : runP Γ N f (lss R s) = some r := by
  simp only [ksFn, Bool.and_eq_true] at hk
  unfold runP at h ⊢
  split at h
  · rename_i s1 h1
    rw [exec_less hΓ hR f.body s s1 .norm hg hk.1 h1]
    simp only [slots_less hR hk.2]
    exact h
  · rename_i s1 h1
    rw [exec_less hΓ hR f.body s s1 .ret hg hk.1 h1]
    simp only [slots_less hR hk.2]
    exact h
  · simp at h
end
/-- A function that is handed what its caller owns. -/
theorem runP_sound {nm : Nat → Option Nat} {Γ : Env} {f : FuncId} {fn : AFn} {n M : Nat} (hΓ : EnvOk P nm Γ) (hmix : P.follows .mixedOrders = true) (hc : chkFn P nm f fn n = true) (hg : (ghOk fn.body && ksOk fn.body) = true) : SpecP P f (runP Γ M fn) := by
  intro γ B F ρ fr ob w us rs ob' hlen hal hm hf h
  simp only [Bool.and_eq_true] at hg
  have hc0 := hc
  unfold chkFn at hc
  split at hc
  case h_2 => simp at hc
  rename_i fn' hfn
  simp only [Bool.and_eq_true, decide_eq_true_eq] at hc
  obtain ⟨⟨⟨hbody, hres⟩, hn⟩, hG⟩ := hc
  split at hbody
  case h_2 => simp at hbody
  rename_i c hcode
  have hul := hlen fn' hfn
  have hrel : Rel γ B F w fn'.ntmps ⟨fr, ob⟩ (startA fn' us) w := by
    refine ⟨hG, F, ρ, hm, ?_, .refl _ _ _, by unfold startA; simp; omega, rfl⟩
    intro i v hi
    have := hf i v hi
    unfold valG
    by_cases hiG : i < GB
    · rw [if_pos hiG] at this ⊢
      have e : (startA fn' us).tmps.getD i undef = us.getD i undef := by
        cases hu : us[i]? with
        | some u => rw [startA_getD hu, List.getD_eq_getElem?_getD, hu]; rfl
        | none =>
          rw [List.getD_eq_getElem?_getD, hu]
          have hge : us.length ≤ i := by simpa using hu
          unfold startA
          simp only [Array.getD_eq_getD_getElem?]
          rw [Array.getElem?_append_right (by simpa using hge)]
          simp only [Array.getElem?_replicate]
          split <;> rfl
      rw [e]; exact this
    · rw [if_neg hiG] at this ⊢; exact this
  have key : ∀ ax s', (ax = .norm ∨ ax = .ret) → exec Γ M fn.body ⟨fr, ob⟩ = some (ax, s') → (s'.slots fn.results).map (·, keepF fn.fin.1 fn.fin.2.1 fn.fin.2.2 s'.ob) = some (rs, ob') → Calls P f us.toArray w fun e w' => ∃ qs, e = .returned (tupV qs) ∧ ∃ F' ρ', Mem B F' ρ' ob' w' ∧
      (∀ i v, GB ≤ i → get fr i = some v → AR F' ρ' ob' v (γ.getD (i - GB) undef)) ∧ All2 (AR F' ρ' ob') rs qs ∧ Ext B F F' w w' := by
    intro ax s' hax hex hs
    simp only [Option.map_eq_some_iff, Prod.mk.injEq] at hs
    obtain ⟨qs, hqs, rfl, rfl⟩ := hs
    refine (body_sound hΓ hmix hfn hc0 hrel hax hex hqs).mono ?_
    rintro e w' ⟨us2, rfl, F2, ρ2, a', hm2, hf2, he2, har⟩
    have hsub := get_keepF fn.fin.1 fn.fin.2.1 fn.fin.2.2 s'.ob
    refine ⟨us2, rfl, F2, ρ2, hm2.sub hsub, fun i v hi hv => ?_, har.imp fun _ _ h => h.sub hsub, he2⟩
    have hv2 := exec_ghost hG fn.body c _ s' ax hbody hg.1 hg.2 hex i hi
    have := hf2 i v (by rw [hv2]; exact hv)
    rw [valG, if_neg (by omega)] at this
    exact this.sub hsub
  unfold runP at h
  split at h
  · rename_i s' hex
    exact key .norm s' (.inl rfl) hex h
  · rename_i s' hex
    exact key .ret s' (.inr rfl) hex h
  · simp at h
end
end Go.Am
