/- Reading a law's arguments as data; the row's last step. -/
import Derived.Test.YtdnmppikakpdiaaAi
import Derived.WalkKit
import Derived.ProofKit
import Derived.OpenShut
import Derived.Carry
import Derived.ChangeSame
import Derived.Deep.Slices
import Derived.DataReads
set_option linter.unusedVariables false
namespace Go.Am
open Go.RowKit Go.ChangeShapes Go.WideShapes

/-- What a cell holds, by its type. -/
inductive CT where
  | int (k : IntKind)
  | bool
  | str
  | sl (row : List CT)
/-- Data of a type. -/
inductive WT : CT → D → Prop where
  | int (k : IntKind) (n : Int) : k.min ≤ n → n ≤ k.max → WT (.int k) (.int k n)
  | bool (b : Bool) : WT .bool (.bool b)
  | str (s : List UInt8) : s.length ≤ maxLen → WT .str (.str s)
  | sl (row : List CT) (rows : List (List D)) : rows.length ≤ maxLen → (∀ r ∈ rows, r.length = row.length) → (∀ r ∈ rows, ∀ (i : Nat) (t : CT) (d : D), row[i]? = some t → r[i]? = some d → WT t d) → WT (.sl row) (.vs row.length rows)

def kfs (r : TypeId → Option (List CT)) (c : TypeId → Nat) : Nat → List Field → Option (List CT)
  | _, [] => some []
  | o, f :: fs => match r f.type, kfs r c (o + c f.type) fs with
    | some a, some b => if f.offset = o ∧ a.length = c f.type then some (a ++ b) else none
    | _, _ => none
def reps {α : Type} (l : List α) : Nat → List α
  | 0 => []
  | n + 1 => l ++ reps l n
/-- A type's cells. -/
def kts (P : Program) : Nat → TypeId → Option (List CT)
  | 0, _ => none
  | n + 1, t => match P.underlying t with
    | some (.int k) => some [.int k]
    | some .bool => some [.bool]
    | some .string => some [.str]
    | some (.slice e) => match kts P n e with
      | some r => if r.length = P.cellsOf e then some [.sl r] else none
      | none => none
    | some (.struct fs) => match kfs (kts P n) P.cellsOf 0 fs.toList with
      | some l => if l.length = P.cellsOf t then some l else none
      | none => none
    | some (.array m e) => match kts P n e with
      | some r => if r.length = P.cellsOf e ∧ m * r.length = P.cellsOf t then some (reps r m) else none
      | none => none
    | _ => none

def allF (w : World) : Facts := fun a u => w.cell? a = some u
theorem allF.ok (w : World) (hG : GF (allF w)) : (allF w).ok w := ⟨fun _ _ h => h, hG⟩

theorem All2.get {α β : Type} {R : α → β → Prop} {l : List α} {m : List β} (h : All2 R l m) {i : Nat} {a : α} {b : β} (ha : l[i]? = some a) (hb : m[i]? = some b) : R a b := by
  obtain ⟨b', h1, h2⟩ := h.get? i a ha
  rw [hb] at h1; simp only [Option.some.injEq] at h1; subst h1; exact h2
theorem collect {α : Type} {p : Nat → α → Prop} : ∀ (n : Nat), (∀ i, i < n → ∃ d, p i d) → ∃ l : List α, l.length = n ∧ ∀ i d, l[i]? = some d → p i d
  | 0, _ => ⟨[], rfl, fun i d h => by simp at h⟩
  | n + 1, h => by
    obtain ⟨l, h1, h2⟩ := collect n fun i hi => h i (by omega)
    obtain ⟨d, hd⟩ := h n (by omega)
    refine ⟨l ++ [d], by simp [h1], fun i x hx => ?_⟩
    by_cases hi : i < l.length
    · rw [List.getElem?_append_left hi] at hx; exact h2 i x hx
    · rw [List.getElem?_append_right (by omega)] at hx
      have : i - l.length = 0 := by
        rcases Nat.eq_zero_or_pos (i - l.length) with h | h
        · exact h
        · rw [List.getElem?_eq_none (by simp; omega)] at hx; simp at hx
      rw [this] at hx; simp at hx; subst hx
      have : i = n := by omega
      subst this; exact hd

section
variable {H : Type} {enc : TypeId × Value → H} {P : Program} {w : World} {base : Nat} {spare : Nat → Bool} {held : Bool}
def Reads (enc : TypeId × Value → H) (P : Program) (w : World) (base : Nat) (spare : Nat → Bool) (held : Bool) (t : TypeId) (ts : List CT) : Prop :=
  ∀ (fuel : Nat) (cs : List Value) (x : DataW H × List MemPlace), DataW.trod enc P w base spare held fuel t cs = some x → ∃ ds : List D, All2 WT ts ds ∧ All2 (DR (allF w)) ds cs
theorem reads_fields {r : TypeId → Option (List CT)} (hr : ∀ t ts, r t = some ts → Reads enc P w base spare held t ts) {fuel : Nat} {cs : List Value} : ∀ (fs : List Field) (o : Nat) (ts : List CT), kfs r P.cellsOf o fs = some ts → cs.length = o + ts.length →
    (∀ f ∈ fs, ∃ x, DataW.trod enc P w base spare held fuel f.type ((cs.drop f.offset).take (P.cellsOf f.type)) = some x) → ∃ ds : List D, All2 WT ts ds ∧ All2 (DR (allF w)) ds (cs.drop o)
  | [], o, ts, h, hl, _ => by
    simp only [kfs, Option.some.injEq] at h; subst h
    rw [List.drop_eq_nil_of_le (by simp at hl; omega)]
    exact ⟨[], .nil, .nil⟩
  | f :: fs, o, ts, h, hl, hx => by
    simp only [kfs] at h
    split at h
    · rename_i a b h1 h2
      split at h
      · rename_i hc
        obtain ⟨hoff, hal⟩ := hc
        simp only [Option.some.injEq] at h; subst h
        obtain ⟨x, hfx⟩ := hx f (by simp)
        obtain ⟨d1, hw1, hd1⟩ := hr _ _ h1 _ _ _ hfx
        obtain ⟨d2, hw2, hd2⟩ := reads_fields hr fs (o + P.cellsOf f.type) b h2 (by simp at hl; omega) fun g hg => hx g (by simp [hg])
        refine ⟨d1 ++ d2, hw1.append hw2, ?_⟩
        rw [show cs.drop o = (cs.drop o).take (P.cellsOf f.type) ++ cs.drop (o + P.cellsOf f.type) by rw [← List.drop_drop, List.take_append_drop]]
        rw [← hoff] at hd2 ⊢
        exact hd1.append hd2
      · simp at h
    · simp at h
theorem reads_elems {e : TypeId} {r : List CT} (hr : Reads enc P w base spare held e r) {fuel : Nat} {cs : List Value} (hc : r.length = P.cellsOf e) : ∀ (n i : Nat), cs.length = (i + n) * r.length →
    (∀ j, i ≤ j → j < i + n → ∃ x, DataW.trod enc P w base spare held fuel e ((cs.drop (j * P.cellsOf e)).take (P.cellsOf e)) = some x) → ∃ ds : List D, All2 WT (reps r n) ds ∧ All2 (DR (allF w)) ds (cs.drop (i * r.length))
  | 0, i, hl, _ => by
    rw [List.drop_eq_nil_of_le (by rw [hl]; simp)]
    exact ⟨[], .nil, .nil⟩
  | n + 1, i, hl, hx => by
    obtain ⟨x, hfx⟩ := hx i (by omega) (by omega)
    obtain ⟨d1, hw1, hd1⟩ := hr _ _ _ hfx
    obtain ⟨d2, hw2, hd2⟩ := reads_elems hr hc n (i + 1) (by rw [hl]; congr 1; omega) fun j h1 h2 => hx j (by omega) (by omega)
    refine ⟨d1 ++ d2, hw1.append hw2, ?_⟩
    rw [show cs.drop (i * r.length) = (cs.drop (i * r.length)).take r.length ++ cs.drop ((i + 1) * r.length) by rw [Nat.add_mul, Nat.one_mul, ← List.drop_drop, List.take_append_drop]]
    rw [← hc] at hd1
    exact hd1.append hd2
theorem reads : ∀ (n : Nat) (t : TypeId) (ts : List CT), kts P n t = some ts → Reads enc P w base spare held t ts
  | 0, t, ts, h => by simp [kts] at h
  | n + 1, t, ts, h => by
    intro fuel cs x hx
    simp only [kts] at h
    split at h
    · rename_i k ht
      simp only [Option.some.injEq] at h; subst h
      obtain ⟨m, rfl, rfl, hw⟩ := DataW.trod_int ht hx
      simp only [Lit.wf, Bool.and_eq_true, decide_eq_true_eq] at hw
      exact ⟨[.int k m], .cons (.int k m hw.1 hw.2) .nil, .cons (.int k m) .nil⟩
    · rename_i ht
      simp only [Option.some.injEq] at h; subst h
      obtain ⟨b, rfl, rfl⟩ := DataW.trod_bool ht hx
      exact ⟨[.bool b], .cons (.bool b) .nil, .cons (.bool b) .nil⟩
    · rename_i ht
      simp only [Option.some.injEq] at h; subst h
      obtain ⟨b, rfl, rfl, hb⟩ := DataW.trod_string ht hx
      exact ⟨[.str b.data.toList], .cons (.str _ (by simpa using hb)) .nil, .cons (by have := DR.str (F := allF w) b.data.toList; simpa using this) .nil⟩
    · rename_i e ht
      split at h
      · rename_i r hr
        split at h
        · rename_i hc
          simp only [Option.some.injEq] at h; subst h
          have ih := reads n e r hr
          rcases Go.Deep.open_slice ht hx with ⟨rfl, _⟩ | ⟨a, len, cap, m, q, Dt, Pl, rfl, hb, hl, hm, hmm, rfl, hel⟩
          · refine ⟨[.vs r.length []], .cons (.sl r [] (by simp) (by simp) (by simp)) .nil, .cons ?_ .nil⟩
            exact DR.vs r.length [] none 0 ⟨0, 0, none⟩ (fun _ _ => undef) (by simp) (by simp) (by simp) (fun i r j x hi => by simp at hi) (fun i r j x hi => by simp at hi)
          · have hlm : len ≤ m := by rw [hmm]; split <;> omega
            obtain ⟨rows, hrl, hrows⟩ := collect (p := fun i (d : List D) => All2 WT r d ∧ ∃ cs', w.cells? base (a.add (i * P.cellsOf e)) (P.cellsOf e) = some cs' ∧ All2 (DR (allF w)) d cs') len fun i hi => by
              obtain ⟨cs', h1, h2⟩ := hel i (by omega)
              obtain ⟨ds, h3, h4⟩ := ih _ _ _ h2
              exact ⟨ds, h3, cs', h1, h4⟩
            have hlen : ∀ row ∈ rows, row.length = r.length := fun row hrow => by
              obtain ⟨i, hi⟩ := List.getElem?_of_mem hrow
              exact (hrows i row hi).1.length.symm
            refine ⟨[.vs r.length rows], .cons (.sl r rows (by rw [hrl]; omega) hlen fun row hrow i t d h1 h2 => ?_) .nil, .cons ?_ .nil⟩
            · obtain ⟨k, hk⟩ := List.getElem?_of_mem hrow
              exact (hrows k row hk).1.get h1 h2
            · have hcell : ∀ (i : Nat) (row : List D) (j : Nat) (y : D), rows[i]? = some row → row[j]? = some y → ∃ u, w.cell? (a.add (i * r.length + j)) = some u ∧ DR (allF w) y u := fun i row j y h1 h2 => by
                obtain ⟨_, cs', h3, h4⟩ := hrows i row h1
                obtain ⟨_, h5, h6⟩ := World.cells?_some h3
                obtain ⟨u, hu, hd⟩ := h4.get? j y h2
                have hj : j < P.cellsOf e := by
                  have h7 := (List.getElem?_eq_some_iff.1 hu).1
                  omega
                have := h6 j hj
                rw [addr_add_add, ← hc, hu] at this
                exact ⟨u, this, hd⟩
              rw [← hrl]
              refine DR.vs r.length rows (some a) cap a (fun i j => (w.cell? (a.add (i * r.length + j))).getD undef) (by omega) (fun _ => rfl) hlen (fun i row j y h1 h2 => ?_) (fun i row j y h1 h2 => ?_)
              · obtain ⟨u, hu, _⟩ := hcell i row j y h1 h2
                simp only [allF, hu, Option.getD_some]
              · obtain ⟨u, hu, hd⟩ := hcell i row j y h1 h2
                simpa only [hu, Option.getD_some] using hd
        · simp at h
      · simp at h
    · rename_i fs ht
      split at h
      · rename_i l hr
        split at h
        · rename_i hc
          simp only [Option.some.injEq] at h; subst h
          obtain ⟨xs, m, rfl, rfl, hl, hxl, hf⟩ := DataW.trod_struct ht hx
          have := reads_fields (r := kts P n) (fun t ts h => reads n t ts h) (fuel := m) (cs := cs) fs.toList 0 l hr (by omega) fun f hfm => by
            obtain ⟨i, hi⟩ := List.getElem?_of_mem hfm
            have hi' : fs[i]? = some f := by simpa using hi
            have hlt : i < xs.length := by
              have := (List.getElem?_eq_some_iff.1 hi).1
              rw [hxl]; simpa using this
            exact ⟨xs[i], by rw [hf i f hi', List.getElem?_eq_getElem hlt]⟩
          simpa using this
        · simp at h
      · simp at h
    · rename_i m e ht
      split at h
      · rename_i r hr
        split at h
        · rename_i hc
          simp only [Option.some.injEq] at h; subst h
          obtain ⟨xs, q, rfl, rfl, hl, hxl, hf⟩ := DataW.trod_array ht hx
          have := reads_elems (reads n e r hr) (fuel := q) (cs := cs) hc.1 m 0 (by rw [hl, ← hc.2]; simp) fun j _ hj => ⟨xs[j]'(by omega), by rw [hf j (by omega), List.getElem?_eq_getElem (by omega)]⟩
          simpa using this
        · simp at h
      · simp at h
    · simp at h

/-- An argument. -/
def WA (ts : List CT) : AV → Prop
  | .c d => ∃ t, ts = [t] ∧ WT t d
  | .agg ds => All2 WT ts ds
  | _ => False
def isAgT (P : Program) (t : TypeId) : Bool := match P.underlying t with
  | some (.struct _) => true
  | some (.array _ _) => true
  | _ => false
def ktAll (P : Program) : List TypeId → Option (List (Bool × List CT))
  | [] => some []
  | t :: ts => match kts P 8 t, ktAll P ts with
    | some a, some b => some ((isAgT P t, a) :: b)
    | _, _ => none
def WArg (t : Bool × List CT) (v : AV) : Prop := WA t.2 v ∧ (t.1 = true ↔ ∃ ds, v = .agg ds)
theorem okWide_array {t e : TypeId} {n b : Nat} {r : Reach} {v : Value} (ht : P.underlying t = some (.array n e)) (h : Value.okWide P w r b t v) : ∃ cs, v = .agg cs := by
  simp only [Value.okWide, ht] at h
  obtain ⟨cs, h1, _⟩ := h
  exact ⟨cs, h1⟩
theorem read_args : ∀ (ts : List TypeId) (vs : List Value) (ds : List (DataW H)) (ps : List MemPlace) (ks : List (Bool × List CT)), ktAll P ts = some ks → DataW.TrodAll enc P w base spare held ts vs ds ps →
    (∀ (j : Nat) t v, ts[j]? = some t → vs[j]? = some v → Value.okWide P w .any 0 t v) → ∃ as : List AV, All2 WArg ks as ∧ All2 (RR (allF w)) as vs
  | [], vs, ds, ps, ks, hk, h, _ => by
    simp only [ktAll, Option.some.injEq] at hk; subst hk
    obtain ⟨rfl, _, _⟩ := trodAll_nil h
    exact ⟨[], .nil, .nil⟩
  | t :: ts, vs, ds, ps, ks, hk, h, hok => by
    simp only [ktAll] at hk
    split at hk
    · rename_i a b h1 h2
      simp only [Option.some.injEq] at hk; subst hk
      obtain ⟨v, vs', d, ds', p, q, rfl, rfl, rfl, ht, hrest⟩ := trodAll_cons h
      obtain ⟨as, hw, hr⟩ := read_args ts vs' ds' q b h2 hrest fun j t v hj hv => hok (j + 1) t v (by simpa using hj) (by simpa using hv)
      obtain ⟨fuel, hf⟩ := ht
      obtain ⟨es, he1, he2⟩ := reads (enc := enc) 8 t a h1 _ _ _ hf
      have hokv := hok 0 t v rfl rfl
      by_cases hag : isAgT P t = true
      · have : ∃ cs, v = .agg cs := by
          unfold isAgT at hag
          split at hag
          · rename_i fs hu
            obtain ⟨cs, h, _⟩ := okWide_struct hu hokv
            exact ⟨cs, h⟩
          · rename_i n e hu
            exact okWide_array hu hokv
          · simp at hag
        obtain ⟨cs, rfl⟩ := this
        refine ⟨.agg es :: as, .cons ⟨he1, by simp [hag]⟩ hw, .cons ⟨cs.toList, by simp, ?_⟩ hr⟩
        simpa [Value.cells] using he2
      · have hcell : v.cells.toList = [v] := by
          simp only [kts] at h1
          unfold isAgT at hag
          split at h1
          · rename_i k hu
            obtain ⟨n, rfl⟩ := okWide_int hu hokv
            rfl
          · rename_i hu
            simp only [Value.okWide, hu, Cell.okWide] at hokv
            cases v <;> simp_all [Cell.ok, Value.cells]
          · rename_i hu
            obtain ⟨n, rfl⟩ := okWide_string hu hokv
            rfl
          · rename_i e hu
            obtain ⟨x, l, c, rfl⟩ := okWide_slice hu hokv
            rfl
          · rename_i fs hu; simp [hu] at hag
          · rename_i n e hu; simp [hu] at hag
          · simp at h1
        rw [hcell] at he2
        match es, he2 with
        | [y], .cons hy .nil =>
          match a, he1 with
          | [ty], .cons hty .nil =>
            exact ⟨.c y :: as, .cons ⟨⟨ty, rfl, hty⟩, by simp [hag]⟩ hw, .cons hy hr⟩
    · simp at hk

theorem trodAll_below {W W' : World} (hl : laidOutB P = true) (hb : Below W.heap.size W W') : ∀ (ts : List TypeId) (vs : List Value) (ds : List (DataW H)) (ps : List MemPlace), (∀ t ∈ ts, P.readableRec t = true ∧ t < P.types.size) → (∀ x ∈ ps, x.block < W.heap.size) →
    DataW.TrodAll enc P W 0 (fun _ => true) true ts vs ds ps → DataW.TrodAll enc P W' 0 (fun b => decide (b < W.heap.size)) true ts vs ds ps
  | [], vs, ds, ps, _, _, h => by
    obtain ⟨rfl, rfl, rfl⟩ := trodAll_nil h
    exact trodAll_mk0
  | t :: ts, vs, ds, ps, hr, hlt, h => by
    obtain ⟨v, vs', d, ds', p, q, rfl, rfl, rfl, ht, hrest⟩ := trodAll_cons h
    exact ⟨p, q, Below.trod hl (hr t (by simp)).1 (hr t (by simp)).2 ht hb fun x hx => hlt x (by simp [hx]),
      trodAll_below hl hb ts vs' ds' q (fun t ht => hr t (by simp [ht])) (fun x hx => hlt x (by simp [hx])) hrest, rfl⟩
end
end Go.Am
