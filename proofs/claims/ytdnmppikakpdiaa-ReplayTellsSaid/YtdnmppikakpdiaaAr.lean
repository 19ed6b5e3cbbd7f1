/- The evaluator's values and states, held against the model's: relations, and how they are kept. -/
import Derived.Test.YtdnmppikakpdiaaAm
import Derived.Test.YtdnmppikakpdiaaGlo
import Derived.Calls
import Derived.Below
import Derived.Laws.Cells
set_option linter.unusedVariables false
namespace Go.Am
open Go.RowKit

/-- Cells that hold what they hold for good. -/
abbrev Facts := Addr → Value → Prop
def Facts.le (F F' : Facts) : Prop := ∀ a u, F a u → F' a u
/-- The package variables that functions from outside read hold numbers (the text Glo names them). -/
def GF (F : Facts) : Prop := ∀ b ∈ gBlocks, ∃ m : Int, F ⟨b, 0, none⟩ (.int .i64 m)
theorem GF.mono {F F' : Facts} (hg : GF F) (h : F.le F') : GF F' := fun b hb => (hg b hb).imp fun m hm => h _ _ hm
structure Facts.ok (F : Facts) (w : World) : Prop where
  at_ : ∀ a u, F a u → w.cell? a = some u
  glob : GF F
instance {F : Facts} {w : World} : CoeFun (Facts.ok F w) fun _ => ∀ a u, F a u → w.cell? a = some u := ⟨fun h => h.at_⟩
theorem Facts.le.refl (F : Facts) : F.le F := fun _ _ h => h
theorem Facts.le.trans {F G H : Facts} (h : F.le G) (k : G.le H) : F.le H := fun a u x => k a u (h a u x)

/-- What the others are in the model. -/
def Oth.Is : Oth → Value → Prop
  | .fn g, v => v = .func (.func g) #[] #[]
  | .np, v => v = .pointer none
  | .nm, v => v = .map none
  | .ni, v => v = .nilIface
  | .jk, v => ∃ q, v = .pointer q
theorem Oth.one {x : Oth} {v : Value} (h : x.Is v) : v.oneCell' = true ∧ v.cells = #[v] := by
  cases x <;> simp only [Oth.Is] at h
  case jk => obtain ⟨q, rfl⟩ := h; exact ⟨rfl, rfl⟩
  all_goals subst h; exact ⟨rfl, rfl⟩
/-- A row of an element's cells lies from 'ad' on. -/
inductive DR (F : Facts) : D → Value → Prop where
  | int (k : IntKind) (n : Int) : DR F (.int k n) (.int k n)
  | bool (b : Bool) : DR F (.bool b) (.bool b)
  | str (s : List UInt8) : DR F (.str s) (.string ⟨s.toArray⟩)
  | vs (sz : Nat) (rows : List (List D)) (a : Option Addr) (cap : Nat) (ad : Addr) (u : Nat → Nat → Value) (hcap : rows.length ≤ cap) (ha : rows ≠ [] → a = some ad)
      (hsz : ∀ r ∈ rows, r.length = sz)
      (hf : ∀ (i : Nat) (r : List D) (j : Nat) (x : D), rows[i]? = some r → r[j]? = some x → F (ad.add (i * sz + j)) (u i j))
      (hd : ∀ (i : Nat) (r : List D) (j : Nat) (x : D), rows[i]? = some r → r[j]? = some x → DR F x (u i j)) : DR F (.vs sz rows) (.slice a rows.length cap)
  | nil (sz : Nat) : DR F (.nil sz) (.slice none 0 0)
  | ot (x : Oth) (v : Value) (h : x.Is v) : DR F (.ot x) v

theorem DR.mono {F F' : Facts} (hF : F.le F') {d : D} {v : Value} (h : DR F d v) : DR F' d v := by
  induction h with
  | int k n => exact .int k n
  | bool b => exact .bool b
  | str s => exact .str s
  | vs sz rows a cap ad u hcap ha hsz hf hd ih => exact .vs sz rows a cap ad u hcap ha hsz (fun i r j x h1 h2 => hF _ _ (hf i r j x h1 h2)) ih
  | nil sz => exact .nil sz
  | ot x v h => exact .ot x v h

theorem DR.of_flat {F F' : Facts} {d : D} {v : Value} (h : DR F d v) (hd : d.flat = true) : DR F' d v := by
  cases h with
  | int k n => exact .int k n
  | bool b => exact .bool b
  | str s => exact .str s
  | vs => simp [D.flat] at hd
  | nil sz => exact .nil sz
  | ot x v h => exact .ot x v h

/-- Two lists, cell by cell. -/
inductive All2 {α β : Type} (R : α → β → Prop) : List α → List β → Prop where
  | nil : All2 R [] []
  | cons {a : α} {b : β} {as : List α} {bs : List β} : R a b → All2 R as bs → All2 R (a :: as) (b :: bs)
section
variable {α β : Type} {R S : α → β → Prop} {l : List α} {m : List β}
theorem All2.imp (h : All2 R l m) (f : ∀ a b, R a b → S a b) : All2 S l m := by
  induction h with
  | nil => exact .nil
  | cons h _ ih => exact .cons (f _ _ h) ih
theorem All2.length (h : All2 R l m) : l.length = m.length := by
  induction h with
  | nil => rfl
  | cons _ _ ih => simp [ih]
theorem All2.get? (h : All2 R l m) : ∀ (i : Nat) (a : α), l[i]? = some a → ∃ b, m[i]? = some b ∧ R a b := by
  induction h with
  | nil => intro i a h; simp at h
  | @cons a b as bs hab _ ih =>
    intro i x hx
    cases i with
    | zero => simp at hx; subst hx; exact ⟨b, rfl, hab⟩
    | succ i => exact ih i x (by simpa using hx)
theorem All2.drop (h : All2 R l m) (n : Nat) : All2 R (l.drop n) (m.drop n) := by
  induction h generalizing n with
  | nil => simp; exact .nil
  | cons hab h ih => cases n with
    | zero => exact .cons hab h
    | succ n => exact ih n
theorem All2.take (h : All2 R l m) (n : Nat) : All2 R (l.take n) (m.take n) := by
  induction h generalizing n with
  | nil => simp; exact .nil
  | cons hab h ih => cases n with
    | zero => exact .nil
    | succ n => exact .cons hab (ih n)
theorem All2.append {l' : List α} {m' : List β} (h : All2 R l m) (h' : All2 R l' m') : All2 R (l ++ l') (m ++ m') := by
  induction h with
  | nil => exact h'
  | cons hab _ ih => exact .cons hab ih
theorem All2.of_get {R : α → β → Prop} {l : List α} {m : List β} (hl : l.length = m.length) (h : ∀ (i : Nat) (a : α), l[i]? = some a → ∃ b, m[i]? = some b ∧ R a b) : All2 R l m := by
  induction l generalizing m with
  | nil => cases m with
    | nil => exact .nil
    | cons b m => simp at hl
  | cons a l ih => cases m with
    | nil => simp at hl
    | cons b m =>
      obtain ⟨b', hb, hr⟩ := h 0 a rfl
      simp at hb; subst hb
      exact .cons hr (ih (by simpa using hl) fun i x hx => by simpa using h (i + 1) x (by simpa using hx))
theorem All2.mem_left (h : All2 R l m) {a : α} (ha : a ∈ l) : ∃ b ∈ m, R a b := by
  obtain ⟨i, hi⟩ := List.getElem?_of_mem ha
  obtain ⟨b, hb, hr⟩ := h.get? i a hi
  exact ⟨b, List.mem_of_getElem? hb, hr⟩
end

/-- Data, as arguments and results are. -/
def RR (F : Facts) : AV → Value → Prop
  | .c d, v => DR F d v
  | .agg cs, v => ∃ vs : List Value, v = .agg vs.toArray ∧ All2 (DR F) cs vs
  | .ot x, v => x.Is v
  | _, _ => False
theorem RR.mono {F F' : Facts} (hF : F.le F') {x : AV} {v : Value} (h : RR F x v) : RR F' x v := by
  cases x <;> simp only [RR] at h ⊢
  · exact h.mono hF
  · obtain ⟨vs, rfl, h⟩ := h
    exact ⟨vs, rfl, h.imp fun _ _ h => h.mono hF⟩
  · exact h
theorem RR.of_flat {F F' : Facts} {x : AV} {v : Value} (h : RR F x v) (hx : x.flat = true) : RR F' x v := by
  cases x <;> simp only [RR] at h ⊢
  · exact h.of_flat (by simpa [AV.flat] using hx)
  · obtain ⟨vs, rfl, h⟩ := h
    refine ⟨vs, rfl, ?_⟩
    simp only [AV.flat, List.all_eq_true] at hx
    exact All2.of_get h.length fun i a ha => by
      obtain ⟨b, hb, hr⟩ := h.get? i a ha
      exact ⟨b, hb, hr.of_flat (hx _ (List.mem_of_getElem? ha))⟩
  · exact h

/-- Where an own object lies: its block, how many cells an element has, how many elements the block has, from its begin on; the cell at which it begins. -/
structure Place where
  g : Nat
  sz : Nat
  cap : Nat
  o : Nat
abbrev Map := Nat → Option Place

/-- The value of a slice of an own object. -/
def SlR (ρ : Map) (key start len : Nat) (v : Value) : Prop :=
  match ρ key with
  | none => len = 0 ∧ v = .slice none 0 0
  | some p => start + len ≤ p.cap ∧ ∃ a, v = .slice a len (p.cap - start) ∧ (0 < len ∨ start = 0 → a = some ⟨p.g, p.o + start * p.sz, none⟩)

/-- A value that is no bundle. -/
def AR1 (F : Facts) (ρ : Map) (ob : List (Nat × Obj)) : AV → Value → Prop
  | .c d, v => DR F d v
  | .agg cs, v => ∃ vs : List Value, v = .agg vs.toArray ∧ All2 (DR F) cs vs
  | .nil _, v => v = .slice none 0 0
  | .sl key ver start len, v => key < MK ∧ ∀ o, get ob key = some o → ver ≤ o.rows.length ∧ (o.rows.length = ver → start + len ≤ ver → SlR ρ key start len v)
  | .loc key row off, v => key < MK ∧ ∀ o, get ob key = some o → ∃ p, ρ key = some p ∧ v = .pointer (some ⟨p.g, p.o + row * p.sz + off, none⟩)
  | .vp row off, v => ∃ (ad : Addr) (u : Nat → Value), v = .pointer (some (ad.add off)) ∧ ∀ (j : Nat) (x : D), row[j]? = some x → F (ad.add j) (u j) ∧ DR F x (u j)
  | .ot x, v => x.Is v
  | .mp key, v => MK ≤ key ∧ key < 2 * MK ∧ ∀ o, get ob key = some o → ∃ p, ρ key = some p ∧ v = .map (some p.g)
  | .itr key, v => 2 * MK ≤ key ∧ ∀ o, get ob key = some o → ∃ p, ρ key = some p ∧ v = .pointer (some ⟨p.g, 0, none⟩)
  | .tup _, _ => False
  | .ags _, _ => False
  | .clo _ _, _ => False
def AR (F : Facts) (ρ : Map) (ob : List (Nat × Obj)) : AV → Value → Prop
  | .tup vs, v => ∃ ws : List Value, v = .tuple ws.toArray ∧ All2 (AR1 F ρ ob) vs ws
  | .ags cs, v => ∃ vs : List Value, v = .agg vs.toArray ∧ All2 (AR1 F ρ ob) cs vs ∧ ∀ u ∈ vs, u.oneCell' = true
  | .clo g cs, v => ∃ vs : List Value, v = .func (.func g) #[] vs.toArray ∧ All2 (AR1 F ρ ob) cs vs
  | x, v => AR1 F ρ ob x v
theorem AR.of1 {F : Facts} {ρ : Map} {ob : List (Nat × Obj)} {x : AV} {v : Value} (h : AR1 F ρ ob x v) : AR F ρ ob x v := by
  cases x <;> first | exact h | exact h.elim
theorem AR.to1 {F : Facts} {ρ : Map} {ob : List (Nat × Obj)} {x : AV} {v : Value} (hx : x.isD = true) (h : AR F ρ ob x v) : AR1 F ρ ob x v := by
  cases x <;> first | exact h | simp [AV.isD] at hx
def AV.all1 (q : AV → Prop) : AV → Prop
  | .tup vs => ∀ y ∈ vs, q y
  | .ags vs => ∀ y ∈ vs, q y
  | .clo _ vs => ∀ y ∈ vs, q y
  | x => q x
theorem AR.lift {F F' : Facts} {ρ ρ' : Map} {ob ob' : List (Nat × Obj)} {x : AV} {v : Value} (q : AV → Prop) (hq : x.all1 q) (h1 : ∀ y u, q y → AR1 F ρ ob y u → AR1 F' ρ' ob' y u) (h : AR F ρ ob x v) : AR F' ρ' ob' x v := by
  have key : ∀ {vs : List AV} {ws : List Value}, (∀ y ∈ vs, q y) → All2 (AR1 F ρ ob) vs ws → All2 (AR1 F' ρ' ob') vs ws := by
    intro vs ws hv h
    induction h with
    | nil => exact .nil
    | cons ha hr ih => exact .cons (h1 _ _ (hv _ (by simp)) ha) (ih fun y hy => hv y (by simp [hy]))
  cases x
  case tup vs =>
    obtain ⟨ws, rfl, h⟩ := h
    exact ⟨ws, rfl, key hq h⟩
  case ags vs =>
    obtain ⟨ws, rfl, h, h2⟩ := h
    exact ⟨ws, rfl, key hq h, h2⟩
  case clo g vs =>
    obtain ⟨ws, rfl, h⟩ := h
    exact ⟨ws, rfl, key hq h⟩
  all_goals exact h1 _ _ hq h
theorem AV.all1_true (x : AV) : x.all1 fun _ => True := by cases x <;> simp [AV.all1]
theorem AV.all1_names {key : Nat} {x : AV} (h : x.names key = false) : x.all1 fun y => y.names1 key = false := by
  cases x <;> simpa [AV.all1, AV.names] using h
theorem AV.all1_isLoc {key : Nat} {x : AV} (h : x.isLoc key = false) : x.all1 fun y => y.isLoc1 key = false := by
  cases x <;> simpa [AV.all1, AV.isLoc] using h

/-- What an own object's block holds: cells. -/
def CellsC (F : Facts) (ρ : Map) (ob : List (Nat × Obj)) (b : Option Go.Obj) (o : Obj) (p : Place) : Prop :=
  o.rows.length ≤ p.cap ∧ p.sz = o.sz ∧ (∀ r ∈ o.rows, r.length = p.sz) ∧
    ∃ cs et, b = some (.cells cs et (0, 0)) ∧ cs.size = p.o + p.cap * p.sz ∧
      ∀ (i : Nat) (r : List AV) (j : Nat) (x : AV), o.rows[i]? = some r → r[j]? = some x → x.one = true ∧ ∃ u, cs[p.o + i * p.sz + j]? = some u ∧ AR F ρ ob x u
/-- What an own object's block holds: a map. -/
def MapC (F : Facts) (ρ : Map) (ob : List (Nat × Obj)) (b : Option Go.Obj) (o : Obj) : Prop :=
  ∃ es : Array MapEntry, b = some (.map es o.sz) ∧ es.size = o.rows.length ∧ (es.toList.map (·.born)).Nodup ∧ (∀ e ∈ es.toList, e.born < o.sz) ∧
    ∀ (i : Nat) (r : List AV), o.rows[i]? = some r → ∃ e k v, es[i]? = some e ∧ r = [.c (.int .i64 e.born), k, v] ∧ AR F ρ ob k e.key ∧ AR F ρ ob v e.val
/-- What an own object's block holds: an iterator: its map, the map's clock when it began; the births of what has come. -/
def IterC (F : Facts) (ρ : Map) (ob : List (Nat × Obj)) (b : Option Go.Obj) (o : Obj) : Prop :=
  ∃ x, b = some x ∧ ((o.rows = [[.ot .nm]] ∧ x = .mapIter none 0 #[] 0) ∨
    ∃ (mk since : Nat) (seen : List Nat) (g : Nat), o.rows = [.mp mk, .c (.int .i64 since)] :: seen.map (fun b => [.c (.int .i64 b)]) ∧ AR F ρ ob (.mp mk) (.map (some g)) ∧ x = .mapIter (some g) since seen.toArray o.sz)
def Typed (b : Option Go.Obj) (key : Nat) (p : Place) : Prop := KT ≤ key → p.o = 0 ∧ ∀ cs et fz, b = some (.cells cs et fz) → et + 1 = key / KT
def Cont (F : Facts) (ρ : Map) (ob : List (Nat × Obj)) (b : Option Go.Obj) (key : Nat) (o : Obj) (p : Place) : Prop :=
  (key < MK → CellsC F ρ ob b o p ∧ Typed b key p) ∧ (MK ≤ key → key < 2 * MK → MapC F ρ ob b o) ∧ (2 * MK ≤ key → IterC F ρ ob b o)
theorem Cont.imp {F F' : Facts} {ρ ρ' : Map} {ob ob' : List (Nat × Obj)} {b : Option Go.Obj} {key : Nat} {o : Obj} {p : Place} (h : Cont F ρ ob b key o p) (hx : ∀ r ∈ o.rows, ∀ x ∈ r, ∀ v, AR F ρ ob x v → AR F' ρ' ob' x v) : Cont F' ρ' ob' b key o p := by
  refine ⟨fun hk => ?_, fun hk hk2 => ?_, fun hk => ?_⟩
  · obtain ⟨⟨g2, g3, g4, cs, et, hh, g5, g6⟩, hty⟩ := h.1 hk
    refine ⟨⟨g2, g3, g4, cs, et, hh, g5, fun i r j x hi hj => ?_⟩, hty⟩
    obtain ⟨h1, u, h2, h3⟩ := g6 i r j x hi hj
    exact ⟨h1, u, h2, hx r (List.mem_of_getElem? hi) x (List.mem_of_getElem? hj) u h3⟩
  · obtain ⟨es, hh, g1, g2, g3, g4⟩ := h.2.1 hk hk2
    refine ⟨es, hh, g1, g2, g3, fun i r hi => ?_⟩
    obtain ⟨e, k, v, h1, rfl, h3, h4⟩ := g4 i r hi
    exact ⟨e, k, v, h1, rfl, hx _ (List.mem_of_getElem? hi) k (by simp) _ h3, hx _ (List.mem_of_getElem? hi) v (by simp) _ h4⟩
  · obtain ⟨x, hb, h1 | ⟨mk, since, seen, g, h1, h2, h3⟩⟩ := h.2.2 hk
    · exact ⟨x, hb, .inl h1⟩
    · exact ⟨x, hb, .inr ⟨mk, since, seen, g, h1, hx _ (by rw [h1]; exact List.mem_cons_self) _ (by simp) _ h2, h3⟩⟩
theorem Cont.some {F : Facts} {ρ : Map} {ob : List (Nat × Obj)} {b : Option Go.Obj} {key : Nat} {o : Obj} {p : Place} (h : Cont F ρ ob b key o p) : ∃ x, b = some x := by
  rcases Nat.lt_or_ge key MK with hk | hk
  · obtain ⟨⟨_, _, _, cs, et, hh, _⟩, _⟩ := h.1 hk; exact ⟨_, hh⟩
  · rcases Nat.lt_or_ge key (2 * MK) with hk2 | hk2
    · obtain ⟨es, hh, _⟩ := h.2.1 hk hk2; exact ⟨_, hh⟩
    · obtain ⟨x, hh, _⟩ := h.2.2 hk2; exact ⟨_, hh⟩

/-- Memory: facts, own objects. -/
structure Mem (B : Nat) (F : Facts) (ρ : Map) (ob : List (Nat × Obj)) (w : World) : Prop where
  facts : F.ok w
  big : B ≤ w.heap.size
  bare : ∀ key o, get ob key = some o → ρ key = none → o.rows = []
  own : ∀ key o p, get ob key = some o → ρ key = some p → B ≤ p.g ∧ Cont F ρ ob w.heap[p.g]? key o p
  apart : ∀ key o p, get ob key = some o → ρ key = some p → ∀ a u, F a u → a.block ≠ p.g
  inj : ∀ key o p key' o' p', get ob key = some o → ρ key = some p → get ob key' = some o' → ρ key' = some p' → p.g = p'.g → key = key'

theorem Mem.cells {B : Nat} {F : Facts} {ρ : Map} {ob : List (Nat × Obj)} {w : World} (hm : Mem B F ρ ob w) {key : Nat} {o : Obj} {p : Place} (hk : key < MK) (h1 : get ob key = some o) (h2 : ρ key = some p) : B ≤ p.g ∧ CellsC F ρ ob w.heap[p.g]? o p :=
  ⟨(hm.own key o p h1 h2).1, ((hm.own key o p h1 h2).2.1 hk).1⟩
theorem Mem.typed {B : Nat} {F : Facts} {ρ : Map} {ob : List (Nat × Obj)} {w : World} (hm : Mem B F ρ ob w) {key : Nat} {o : Obj} {p : Place} (hk : key < MK) (h1 : get ob key = some o) (h2 : ρ key = some p) : KT ≤ key → ∀ cs et fz, w.heap[p.g]? = some (.cells cs et fz) → et + 1 = key / KT := fun h => (((hm.own key o p h1 h2).2.1 hk).2 h).2
theorem Mem.typed0 {B : Nat} {F : Facts} {ρ : Map} {ob : List (Nat × Obj)} {w : World} (hm : Mem B F ρ ob w) {key : Nat} {o : Obj} {p : Place} (hk : key < MK) (h1 : get ob key = some o) (h2 : ρ key = some p) : KT ≤ key → p.o = 0 := fun h => (((hm.own key o p h1 h2).2.1 hk).2 h).1
/-- The frame. -/
def Fr (F : Facts) (ρ : Map) (ob : List (Nat × Obj)) (fr : List (Nat × AV)) (a : Go.Act) : Prop :=
  ∀ i v, get fr i = some v → AR F ρ ob v (a.tmps.getD i undef)

theorem AR1.mono {F F' : Facts} {ρ : Map} {ob : List (Nat × Obj)} (hF : F.le F') {x : AV} {v : Value} (h : AR1 F ρ ob x v) : AR1 F' ρ ob x v := by
  cases x <;> simp only [AR1] at h ⊢
  · exact h.mono hF
  · obtain ⟨vs, rfl, h⟩ := h
    exact ⟨vs, rfl, h.imp fun _ _ h => h.mono hF⟩
  · exact h
  · exact h
  · exact h
  · obtain ⟨ad, u, rfl, h⟩ := h
    exact ⟨ad, u, rfl, fun j x hx => ⟨hF _ _ (h j x hx).1, (h j x hx).2.mono hF⟩⟩
  · exact h
  · exact h
  · exact h
theorem AR.mono {F F' : Facts} {ρ : Map} {ob : List (Nat × Obj)} (hF : F.le F') {x : AV} {v : Value} (h : AR F ρ ob x v) : AR F' ρ ob x v :=
  h.lift _ x.all1_true fun _ _ _ h => h.mono hF
theorem AR1.of_RR {F : Facts} {ρ : Map} {ob : List (Nat × Obj)} {x : AV} {v : Value} (h : RR F x v) : AR1 F ρ ob x v := by
  cases x <;> first | exact h | exact h.elim
theorem AR.of_RR {F : Facts} {ρ : Map} {ob : List (Nat × Obj)} {x : AV} {v : Value} (h : RR F x v) : AR F ρ ob x v := by
  cases x <;> first | exact h | exact h.elim

theorem get_del {α : Type} (l : List (Nat × α)) (k i : Nat) : get (del l k) i = if i = k then none else get l i := by
  induction l with
  | nil => simp [del, get]
  | cons p l ih =>
    obtain ⟨a, v⟩ := p
    simp only [del]
    by_cases h : a = k
    · rw [if_pos h, ih]
      by_cases hi : i = k
      · rw [if_pos hi, if_pos hi]
      · rw [if_neg hi, if_neg hi]
        simp only [get]
        rw [if_neg (by omega)]
    · rw [if_neg h]
      simp only [get]
      by_cases ha : a = i
      · rw [if_pos ha, if_pos ha, if_neg (by omega)]
      · rw [if_neg ha, if_neg ha, ih]
theorem get_cons {α : Type} (l : List (Nat × α)) (k i : Nat) (v : α) : get ((k, v) :: l) i = if k = i then some v else get l i := rfl
theorem get_keep {α : Type} (l : List (Nat × α)) : ∀ (ks : List Nat) (i : Nat) (v : α), get (keep ks l) i = some v → get l i = some v
  | [], i, v, h => by simp [keep, get] at h
  | k :: ks, i, v, h => by
    simp only [keep] at h
    cases hk : get l k with
    | none => rw [hk] at h; exact get_keep l ks i v h
    | some x =>
      rw [hk] at h
      simp only [keepC, get] at h
      by_cases hki : k = i
      · rw [if_pos hki] at h; subst hki; rw [hk]; exact h
      · rw [if_neg hki] at h; exact get_keep l ks i v h
theorem get_obj (s : St) (key : Nat) (r : Obj) (i : Nat) : get (s.obj key r).ob i = if key = i then some r else get s.ob i := by
  simp only [St.obj, get_cons, get_del]
  by_cases h : key = i
  · rw [if_pos h, if_pos h]
  · rw [if_neg h, if_neg h, if_neg (by omega)]

end Go.Am
