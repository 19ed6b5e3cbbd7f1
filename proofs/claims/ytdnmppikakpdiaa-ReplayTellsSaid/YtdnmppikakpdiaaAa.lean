/- The operations that change nothing: each yields what the evaluator says. -/
import Derived.Test.YtdnmppikakpdiaaAr
import Derived.Tactics
import Derived.Laws.StructEq
import Derived.ChangeKeysEq
set_option linter.unusedVariables false
namespace Go.Am
open Go.RowKit

/-! ### Constants, operands -/
def cstO : Oth → Value → Bool
  | .np, .pointer none => true
  | .nm, .map none => true
  | .ni, .nilIface => true
  | _, _ => false
theorem cstO_sound {x : Oth} {v : Value} (h : cstO x v = true) : x.Is v := by
  unfold cstO at h
  split at h <;> first | rfl | simp at h
def cstD : D → Value → Bool
  | .int k n, .int k' n' => decide (k = k') && decide (n = n')
  | .bool b, .bool b' => b == b'
  | .str s, .string t => decide (t.data.toList = s)
  | .vs _ [], .slice none 0 0 => true
  | .nil _, .slice none 0 0 => true
  | .ot x, v => cstO x v
  | _, _ => false
def cstDs : List D → List Value → Bool
  | [], [] => true
  | d :: ds, v :: vs => cstD d v && cstDs ds vs
  | _, _ => false
def cst : AV → Value → Bool
  | .c d, v => cstD d v
  | .agg ds, .agg vs => cstDs ds vs.toList
  | .nil _, .slice none 0 0 => true
  | .ot x, v => cstO x v
  | _, _ => false
theorem cstD_sound {F : Facts} {d : D} {v : Value} (h : cstD d v = true) : DR F d v := by
  unfold cstD at h
  split at h
  · simp at h; obtain ⟨rfl, rfl⟩ := h; exact .int _ _
  · simp at h; subst h; exact .bool _
  · simp at h; subst h; exact .str _
  · exact .vs _ [] none 0 ⟨0, 0, none⟩ (fun _ _ => undef) (by simp) (by simp) (by simp) (by simp) (by simp)
  · exact .nil _
  · exact .ot _ _ (cstO_sound h)
  · simp at h
theorem cstDs_sound {F : Facts} : ∀ {ds : List D} {vs : List Value}, cstDs ds vs = true → All2 (DR F) ds vs
  | [], [], _ => .nil
  | d :: ds, v :: vs, h => by
    simp only [cstDs, Bool.and_eq_true] at h
    exact .cons (cstD_sound h.1) (cstDs_sound h.2)
  | [], _ :: _, h => by simp [cstDs] at h
  | _ :: _, [], h => by simp [cstDs] at h
theorem cst_sound {F : Facts} {ρ : Map} {ob : List (Nat × Obj)} {x : AV} {v : Value} (h : cst x v = true) : AR F ρ ob x v := by
  unfold cst at h
  split at h
  · exact cstD_sound h
  · rename_i ds vs
    exact ⟨vs.toList, by simp, cstDs_sound h⟩
  · rfl
  · exact cstO_sound h
  · simp at h
def chkO : Operand → Opd → Bool
  | .tmp n, .t m => n == m
  | .const v, .k d => cst d v
  | .func f, .k (.ot (.fn g)) => f == g
  | _, _ => false
theorem opd_sound {F : Facts} {ρ : Map} {s : St} {a : Go.Act} (hf : Fr F ρ s.ob s.fr a) {x : Operand} {y : Opd} (hc : chkO x y = true) {v : AV} (h : s.opd y = some v) : AR F ρ s.ob v (a.eval x) := by
  unfold chkO at hc
  split at hc
  · simp at hc; subst hc
    exact hf _ _ h
  · simp only [St.opd, Option.some.injEq] at h; subst h
    exact cst_sound hc
  · simp only [St.opd, Option.some.injEq] at h; subst h
    simp at hc; subst hc
    rfl
  · simp at hc

/-! ### What an operation does -/
/-- The operation yields some u, in some world, of which R holds. -/
def Does (P : Program) (o : Oper) (a : Go.Act) (w : World) (R : Value → World → Prop) : Prop :=
  ∀ (next : Go.Act → World → Prop) (Q : Exit → Go.Act → World → Prop), (∀ u w', R u w' → next (a.put o.dst u) w') → o.wp P a w next Q
theorem does_value {P : Program} {o : Oper} {a : Go.Act} {w w' : World} {u : Value} {R : Value → World → Prop} (h : (execOp a.eval o).run P w = .ok (.value u) w') (hR : R u w') : Does P o a w R := by
  intro next Q hn
  unfold Oper.wp
  rw [h]
  exact hn _ _ hR
theorem does_skip {P : Program} {o : Oper} {a : Go.Act} {w w' : World} {R : Value → World → Prop} (h : (execOp a.eval o).run P w = .ok .skip w') (hR : R undef w') : Does P o a w R := by
  intro next Q hn
  unfold Oper.wp
  rw [h]
  exact hn _ _ hR
theorem does_call {P : Program} {o : Oper} {a : Go.Act} {w w' : World} {f : FuncId} {args : Array Value} {R : Value → World → Prop} (h : (execOp a.eval o).run P w = .ok (.enter f args) w')
    (hc : Calls P f args w' fun e w'' => ∃ v, e = .returned v ∧ R v w'') : Does P o a w R := by
  intro next Q hn
  unfold Oper.wp
  rw [h]
  refine Calls.mono hc ?_
  rintro e w'' ⟨v, rfl, hR⟩
  exact hn _ _ hR

/-! ### Checks of single operations -/
/-- A type that is one cell. -/
def scalar (P : Program) (t : TypeId) : Bool :=
  match P.underlying t with
  | some (.struct _) | some (.array _ _) => false
  | some _ => true
  | none => false
def aggr (P : Program) (t : TypeId) : Bool :=
  match P.underlying t with
  | some (.struct _) | some (.array _ _) => true
  | _ => false
def sized (P : Program) (t : TypeId) (sz : Nat) : Bool := match P.info? t with | some i => i.size == sz | none => false
def agOk (P : Program) (t : TypeId) (ag : Bool) : Bool := if ag then aggr P t else scalar P t
def isInt (P : Program) (t : TypeId) (k : IntKind) : Bool := match P.underlying t with | some (.int k') => decide (k' = k) | _ => false
def isStr (P : Program) (t : TypeId) : Bool := match P.underlying t with | some .string => true | _ => false
def isSl (P : Program) (t : TypeId) : Bool := match P.underlying t with | some (.slice _) => true | _ => false
/-- A slice's element: its type, if it is of so many cells. -/
def slOf (P : Program) (t : TypeId) (sz : Nat) : Bool := match P.underlying t with | some (.slice e) => (match P.info? e with | some i => i.size == sz | none => false) | _ => false
theorem isInt_spec {P : Program} {t : TypeId} {k : IntKind} (h : isInt P t k = true) : P.underlying t = some (.int k) := by
  unfold isInt at h; split at h
  · rename_i k' hk; simp at h; rw [hk, h]
  · simp at h
theorem isStr_spec {P : Program} {t : TypeId} (h : isStr P t = true) : P.underlying t = some .string := by
  unfold isStr at h; split at h
  · assumption
  · simp at h
theorem isSl_spec {P : Program} {t : TypeId} (h : isSl P t = true) : ∃ e, P.underlying t = some (.slice e) := by
  unfold isSl at h; split at h
  · exact ⟨_, by assumption⟩
  · simp at h
theorem slOf_spec {P : Program} {t : TypeId} {sz : Nat} (h : slOf P t sz = true) : ∃ e i, P.underlying t = some (.slice e) ∧ P.info? e = some i ∧ i.size = sz := by
  unfold slOf at h; split at h
  · rename_i e he
    split at h
    · rename_i i hi; exact ⟨e, i, he, hi, by simpa using h⟩
    · simp at h
  · simp at h
theorem sized_spec {P : Program} {t : TypeId} {sz : Nat} (h : sized P t sz = true) : ∃ i, P.info? t = some i ∧ i.size = sz := by
  unfold sized at h
  split at h
  · rename_i i hi; exact ⟨i, hi, by simpa using h⟩
  · simp at h
theorem run_sized {P : Program} {t : TypeId} {sz : Nat} (h : sized P t sz = true) (w : World) : (sizeOf t).run P w = .ok sz w := by
  obtain ⟨i, hi, rfl⟩ := sized_spec h
  simp [sizeOf, typeInfo, hi]
theorem run_isAgg {P : Program} {t : TypeId} {ag : Bool} (h : agOk P t ag = true) (w : World) : (isAgg t).run P w = .ok ag w := by
  unfold agOk at h
  cases ag
  · simp only [Bool.false_eq_true, if_false, scalar] at h
    split at h
    · simp at h
    · simp at h
    · rename_i d h1 h2 hu
      simp only [isAgg, underlying]
      simp [hu]
    · simp at h
  · simp only [if_true, aggr] at h
    split at h
    · rename_i hu; simp [isAgg, underlying, hu]
    · rename_i hu; simp [isAgg, underlying, hu]
    · simp at h

/-! ### Operations that change nothing -/
section
variable {P : Program} {F : Facts} {ρ : Map} {s : St} {a : Go.Act} {w : World} {o : Oper}
theorem AR.c_ {F : Facts} {ρ : Map} {ob : List (Nat × Obj)} {d : D} {v : Value} (h : AR F ρ ob (.c d) v) : DR F d v := h
theorem DR.int_ {F : Facts} {k : IntKind} {n : Int} {v : Value} (h : DR F (.int k n) v) : v = .int k n := by cases h; rfl
theorem DR.bool_ {F : Facts} {b : Bool} {v : Value} (h : DR F (.bool b) v) : v = .bool b := by cases h; rfl
theorem DR.str_ {F : Facts} {l : List UInt8} {v : Value} (h : DR F (.str l) v) : v = .string ⟨l.toArray⟩ := by cases h; rfl

def chkMov (o : Oper) (x : Opd) : Bool := match o.op with | .move y | .assign y => chkO y x | _ => false
theorem does_mov {x : Opd} {v : AV} (hf : Fr F ρ s.ob s.fr a) (hc : chkMov o x = true) (h : s.opd x = some v) : Does P o a w fun u w' => w' = w ∧ AR F ρ s.ob v u := by
  unfold chkMov at hc
  split at hc
  · rename_i y hop
    exact does_value (w' := w) (u := a.eval y) (by simp [execOp, hop]) ⟨rfl, opd_sound hf hc h⟩
  · rename_i y hop
    exact does_value (w' := w) (u := a.eval y) (by simp [execOp, hop]) ⟨rfl, opd_sound hf hc h⟩
  · simp at hc

def chkPick (o : Oper) (c x y : Opd) : Bool := match o.op with | .pick c' x' y' => chkO c' c && chkO x' x && chkO y' y | _ => false
theorem does_pick {c x y : Opd} {t : Bool} {v : AV} (hf : Fr F ρ s.ob s.fr a) (hc : chkPick o c x y = true) (h1 : s.opd c = some (.c (.bool t))) (h : s.opd (if t then x else y) = some v) :
    Does P o a w fun u w' => w' = w ∧ AR F ρ s.ob v u := by
  unfold chkPick at hc
  split at hc
  · rename_i c' x' y' hop
    simp only [Bool.and_eq_true] at hc
    have hb := DR.bool_ (opd_sound hf hc.1.1 h1)
    cases t
    · exact does_value (w' := w) (u := a.eval y') (by simp [execOp, hop, hb, asBool]) ⟨rfl, opd_sound hf hc.2 h⟩
    · exact does_value (w' := w) (u := a.eval x') (by simp [execOp, hop, hb, asBool]) ⟨rfl, opd_sound hf hc.1.2 h⟩
  · simp at hc

theorem cmpI_run {op : BinOp} {x y : Int} {b : Bool} (h : cmpI op x y = some b) : (Op.intCmp op x y).run P w = .ok (.bool b) w := by
  cases op <;> simp only [cmpI, Option.some.injEq, reduceCtorEq] at h <;> subst h <;> rfl
theorem binI_run {op : BinOp} {k : IntKind} {x y : Int} {d : D} (t : TypeId) (h : binI op k x y = some d) : ∃ u, (Go.binOp op t (.int k x) (.int k y)).run P w = .ok u w ∧ DR F d u := by
  cases op <;> simp only [binI, cmpI, Option.map_some, Option.map_none, Option.some.injEq, reduceCtorEq] at h
  case and => subst h; exact ⟨_, by simp only [Go.binOp, ne_eq, not_true_eq_false, if_false]; rfl, .int _ _⟩
  case or => subst h; exact ⟨_, by simp only [Go.binOp, ne_eq, not_true_eq_false, if_false]; rfl, .int _ _⟩
  case xor => subst h; exact ⟨_, by simp only [Go.binOp, ne_eq, not_true_eq_false, if_false]; rfl, .int _ _⟩
  case andNot => subst h; exact ⟨_, by simp only [Go.binOp, ne_eq, not_true_eq_false, if_false]; rfl, .int _ _⟩
  case quo =>
    split at h
    · simp at h
    · rename_i hy; simp only [Option.some.injEq] at h; subst h; exact ⟨_, by simp [Go.binOp, Op.intDiv, hy, wrapK, tdivK], .int _ _⟩
  case rem =>
    split at h
    · simp at h
    · rename_i hy; simp only [Option.some.injEq] at h; subst h; exact ⟨_, by simp [Go.binOp, Op.intDiv, hy, tmodK], .int _ _⟩
  all_goals
    subst h
    first
      | exact ⟨_, by simp [Go.binOp, Op.intArith, wrapK], .int _ _⟩
      | exact ⟨_, by simp only [Go.binOp, ne_eq, not_true_eq_false, if_false]; rfl, .bool _⟩
theorem binS_run {op : BinOp} {x y : List UInt8} {d : D} (t : TypeId) (h : binS op x y = some d) : ∃ u, (Go.binOp op t (.string ⟨x.toArray⟩) (.string ⟨y.toArray⟩)).run P w = .ok u w ∧ DR F d u := by
  unfold binS at h
  have hsz : ∀ l : List UInt8, (ByteArray.mk l.toArray).size = l.length := fun l => by simp [ByteArray.size]
  have happ : (ByteArray.mk x.toArray ++ ByteArray.mk y.toArray) = ⟨(x ++ y).toArray⟩ := by
    apply ByteArray.ext; simp
  cases op <;> simp only [] at h
  case add =>
    split at h
    · rename_i hl
      simp at h; subst h
      refine ⟨.string ⟨(x ++ y).toArray⟩, ?_, .str _⟩
      simp only [Go.binOp, Op.stringOp, hsz]
      rw [if_neg (by simp only [IntKind.max, IntKind.signed, IntKind.bits]; unfold maxStr at hl; simp; omega), happ]
      rfl
    · simp at h
  all_goals first
    | (simp at h; done)
    | (simp only [Option.some.injEq] at h; subst h
       have heq : (x == y) = decide (x = y) := by rw [Bool.eq_iff_iff]; simp
       exact ⟨_, by simp only [Go.binOp, Op.stringOp, ByteArray.toList_mk, heq]; rfl, .bool _⟩)

/-- The kinds of the cells of a type. -/
def kinds (P : Program) : Nat → TypeId → Option (List Kd)
  | 0, _ => none
  | n + 1, t => match P.underlying t with
    | some .bool => some [.bool]
    | some (.int k) => some [.int k]
    | some .string => some [.str]
    | some (.struct fs) => if P.stoodInHeld t then none else kindsF (fun u => match kinds P n u with
        | some ks => if sized P u ks.length && !ks.isEmpty then some ks else none
        | none => none) fs.toList 0
    | some (.array m e) => match kinds P n e with
      | some ks => if sized P e ks.length && !ks.isEmpty then some (List.replicate m ks).flatten else none
      | none => none
    | _ => none
where kindsF (g : TypeId → Option (List Kd)) : List Field → Nat → Option (List Kd)
  | [], _ => some []
  | f :: fs, off => if f.name != "_" && f.offset == off then match g f.type with
      | some ks => (kindsF g fs (off + ks.length)).map (ks ++ ·)
      | none => none
    else none
end

section
variable {P : Program} {F : Facts} {ρ : Map} {s : St} {a : Go.Act} {w : World} {o : Oper}
theorem eqKs_length : ∀ {ks : List Kd} {l m : List D} {b : Bool}, eqKs ks l m = some b → l.length = ks.length ∧ m.length = ks.length
  | [], [], [], _, _ => ⟨rfl, rfl⟩
  | k :: ks, x :: xs, y :: ys, b, h => by
    simp only [eqKs] at h
    split at h
    · rename_i p q hp hq
      have := eqKs_length hq
      simp [this.1, this.2]
    · simp at h
  | [], _ :: _, _, _, h => by simp [eqKs] at h
  | [], [], _ :: _, _, h => by simp [eqKs] at h
  | _ :: _, [], _, _, h => by simp [eqKs] at h
  | _ :: _, _ :: _, [], _, h => by simp [eqKs] at h
theorem eqKs_append : ∀ {k1 k2 : List Kd} {l m : List D} {b : Bool}, eqKs (k1 ++ k2) l m = some b →
    ∃ e r, eqKs k1 (l.take k1.length) (m.take k1.length) = some e ∧ eqKs k2 (l.drop k1.length) (m.drop k1.length) = some r ∧ b = (e && r)
  | [], k2, l, m, b, h => ⟨true, b, by simp [eqKs], by simpa using h, by simp⟩
  | k :: k1, k2, x :: l, y :: m, b, h => by
    simp only [List.cons_append, eqKs] at h
    split at h
    · rename_i p q hp hq
      obtain ⟨e, r, h1, h2, rfl⟩ := eqKs_append hq
      simp only [Option.some.injEq] at h
      exact ⟨p && e, r, by simp [eqKs, hp, h1], by simpa using h2, by rw [← h, Bool.and_assoc]⟩
    · simp at h
  | k :: k1, k2, [], m, b, h => by simp [eqKs] at h
  | k :: k1, k2, _ :: _, [], b, h => by simp [eqKs] at h
/-- The value of a type's cells. -/
def valOf (P : Program) (t : TypeId) (vs : List Value) : Value := if aggr P t then .agg vs.toArray else vs.getD 0 undef
theorem run_partOf {t : TypeId} {sz off : Nat} (h1 : P.underlying t ≠ none) (h2 : sized P t sz = true) (vs : List Value) (w : World) (hl : off < vs.length) :
    (Go.part t vs.toArray off).run P w = .ok (valOf P t ((vs.drop off).take (if aggr P t then sz else 1))) w := by
  unfold Go.part valOf
  cases hag : aggr P t
  · have hs : agOk P t false = true := by
      simp only [agOk, Bool.false_eq_true, if_false, scalar]
      unfold aggr at hag
      split <;> simp_all
    simp only [Sem.run_bind, run_isAgg hs, Result.andThen_ok, Bool.false_eq_true, if_false]
    have : vs.toArray[off]? = some vs[off] := by simp [hl]
    rw [this]
    simp [List.getElem?_drop, hl]
  · have hs : agOk P t true = true := by simp [agOk, hag]
    simp only [Sem.run_bind, run_isAgg hs, Result.andThen_ok, if_true, run_sized h2, Sem.run_pure]
    simp [List.extract_eq_take_drop]
def EqAt (P : Program) (F : Facts) (d : Nat) (t : TypeId) (ks : List Kd) : Prop :=
  ∀ (cs ds : List D) (vs us : List Value) (b : Bool) (w : World), All2 (DR F) cs vs → All2 (DR F) ds us → eqKs ks cs ds = some b → (Op.equalIn d t (valOf P t vs) (valOf P t us)).run P w = .ok b w
theorem eqFields_sound {d : Nat} {g : TypeId → Option (List Kd)} (hg : ∀ u ks, g u = some ks → ks ≠ [] → EqAt P F d u ks ∧ sized P u ks.length = true ∧ P.underlying u ≠ none ∧ (aggr P u = false → ks.length = 1)) :
    ∀ (fs : List Field) (off : Nat) (ks : List Kd), kinds.kindsF g fs off = some ks → (∀ f ∈ fs, g f.type ≠ some []) → ∀ (cs ds : List D) (vs us : List Value) (b : Bool) (w : World), All2 (DR F) cs vs → All2 (DR F) ds us →
      eqKs ks (cs.drop off) (ds.drop off) = some b → (Op.eqFields d vs.toArray us.toArray fs).run P w = .ok b w
  | [], off, ks, hk, _, cs, ds, vs, us, b, w, hv, hu, hb => by
    simp only [kinds.kindsF, Option.some.injEq] at hk; subst hk
    have hl := eqKs_length hb
    have e1 : cs.drop off = [] := List.eq_nil_of_length_eq_zero (by simpa using hl.1)
    have e2 : ds.drop off = [] := List.eq_nil_of_length_eq_zero (by simpa using hl.2)
    rw [e1, e2] at hb
    simp only [eqKs, Option.some.injEq] at hb; subst hb
    simp [Op.eqFields]
  | f :: fs, off, ks, hk, hne, cs, ds, vs, us, b, w, hv, hu, hb => by
    simp only [kinds.kindsF] at hk
    split at hk
    · rename_i hcond
      simp only [Bool.and_eq_true, bne_iff_ne, ne_eq, beq_iff_eq] at hcond
      obtain ⟨hname, hoff⟩ := hcond
      split at hk
      · rename_i k1 hk1
        simp only [Option.map_eq_some_iff] at hk
        obtain ⟨k2, hk2, rfl⟩ := hk
        obtain ⟨e, r, h1, h2, rfl⟩ := eqKs_append hb
        have hk1ne : k1 ≠ [] := fun h0 => hne f (by simp) (by rw [hk1, h0])
        obtain ⟨hEq, hsz, hun, hone⟩ := hg _ _ hk1 hk1ne
        have hpos : 0 < k1.length := List.length_pos_iff.2 hk1ne
        have hl1 := eqKs_length h1
        have hlv := hv.length
        have hlu := hu.length
        simp only [List.length_take, List.length_drop] at hl1
        simp only [Op.eqFields, hname, ne_eq, not_false_eq_true, if_true, Sem.run_bind, hoff]
        rw [run_partOf hun hsz vs w (by omega), Result.andThen_ok, run_partOf hun hsz us w (by omega), Result.andThen_ok]
        have hn : (if aggr P f.type = true then k1.length else 1) = k1.length := by
          cases hag : aggr P f.type
          · simp [hone hag]
          · simp
        rw [hn, hEq _ _ _ _ e w ((hv.drop off).take _) ((hu.drop off).take _) h1, Result.andThen_ok]
        cases e
        · simp
        · simp only [Bool.not_true, Bool.false_eq_true, if_false]
          have := eqFields_sound hg fs (off + k1.length) k2 hk2 (fun f hf => hne f (by simp [hf])) cs ds vs us r w hv hu (by simpa [List.drop_drop] using h2)
          simpa using this
      · simp at hk
    · simp at hk

theorem eqK_scalar {F : Facts} {k : Kd} {cs ds : List D} {vs us : List Value} {b : Bool} (hv : All2 (DR F) cs vs) (hu : All2 (DR F) ds us) (h : eqKs [k] cs ds = some b) :
    ∃ x y v u, cs = [x] ∧ ds = [y] ∧ vs = [v] ∧ us = [u] ∧ DR F x v ∧ DR F y u ∧ eqK k x y = some b := by
  have hl := eqKs_length h
  match cs, ds, hl.1, hl.2, hv, hu with
  | [x], [y], _, _, .cons hx .nil, .cons hy .nil =>
    refine ⟨x, y, _, _, rfl, rfl, rfl, rfl, hx, hy, ?_⟩
    simp only [eqKs] at h
    split at h
    · rename_i p q hp hq; simp at hq h; subst hq; simp at h; rw [hp, h]
    · simp at h
theorem kindsF_mem {g : TypeId → Option (List Kd)} : ∀ {fs : List Field} {off : Nat} {ks : List Kd}, kinds.kindsF g fs off = some ks → ∀ f ∈ fs, ∃ k, g f.type = some k
  | [], _, _, _, f, hf => by simp at hf
  | f0 :: fs, off, ks, h, f, hf => by
    simp only [kinds.kindsF] at h
    split at h
    · split at h
      · rename_i k1 hk1
        simp only [Option.map_eq_some_iff] at h
        obtain ⟨k2, hk2, _⟩ := h
        rcases List.mem_cons.1 hf with rfl | hf
        · exact ⟨_, hk1⟩
        · exact kindsF_mem hk2 f hf
      · simp at h
    · simp at h
theorem kinds_und {P : Program} {n : Nat} {t : TypeId} {ks : List Kd} (h : kinds P n t = some ks) : P.underlying t ≠ none ∧ (aggr P t = false → ks.length = 1) := by
  cases n with
  | zero => simp [kinds] at h
  | succ n =>
    simp only [kinds] at h
    split at h
    all_goals (try (rename_i ht; simp [aggr, ht] at *))
    all_goals (try (subst h; simp))
    all_goals (try simp at h)
theorem run_equalIn_structOf {P : Program} (w : World) (d : Nat) (t : TypeId) (fs : Array Field) (xs ys : Array Value) (ht : P.underlying t = some (.struct fs)) (hp : P.stoodInHeld t = false) :
    (Op.equalIn (d + 1) t (.agg xs) (.agg ys)).run P w = (Op.eqFields d xs ys fs.toList).run P w := by
  have hf : P.fieldsOf t = fs := by simp [Program.fieldsOf, ht]
  rw [run_equalIn_struct w d t xs ys (by rw [hf]; exact ht) hp, hf]
theorem eqArr_sound {d : Nat} {e : TypeId} {ks : List Kd} (he : EqAt P F d e ks) (hsz : sized P e ks.length = true) (hun : P.underlying e ≠ none) (hone : aggr P e = false → ks.length = 1) (hpos : 0 < ks.length) :
    ∀ (n i : Nat) (cs ds : List D) (vs us : List Value) (b : Bool) (w : World), All2 (DR F) cs vs → All2 (DR F) ds us → eqKs (List.replicate n ks).flatten (cs.drop (i * ks.length)) (ds.drop (i * ks.length)) = some b →
      (Op.eqItems d e ks.length vs.toArray us.toArray (List.range' i n)).run P w = .ok b w := by
  intro n
  induction n with
  | zero =>
    intro i cs ds vs us b w hv hu hb
    have hl := eqKs_length hb
    simp only [List.replicate_zero, List.flatten_nil, List.length_nil] at hl hb
    have e1 := List.eq_nil_of_length_eq_zero hl.1
    have e2 := List.eq_nil_of_length_eq_zero hl.2
    rw [e1, e2] at hb
    simp only [eqKs, Option.some.injEq] at hb; subst hb
    simp [Op.eqItems]
  | succ n ih =>
    intro i cs ds vs us b w hv hu hb
    rw [List.replicate_succ, List.flatten_cons] at hb
    obtain ⟨q, r, h1, h2, rfl⟩ := eqKs_append hb
    have hl1 := eqKs_length h1
    have hlv := hv.length
    have hlu := hu.length
    simp only [List.length_take, List.length_drop] at hl1
    have hn : (if aggr P e = true then ks.length else 1) = ks.length := by
      cases hag : aggr P e
      · simp [hone hag]
      · simp
    simp only [List.range'_succ, Op.eqItems, Sem.run_bind]
    rw [run_partOf hun hsz vs w (by omega), Result.andThen_ok, run_partOf hun hsz us w (by omega), Result.andThen_ok, hn, he _ _ _ _ q w ((hv.drop _).take _) ((hu.drop _).take _) h1, Result.andThen_ok]
    cases q
    · simp
    · simp only [Bool.not_true, Bool.false_eq_true, if_false]
      have := ih (i + 1) cs ds vs us r w hv hu (by rw [Nat.add_mul, Nat.one_mul]; simpa [List.drop_drop] using h2)
      simpa using this
theorem kinds_sound (n : Nat) : ∀ (t : TypeId) (ks : List Kd) (d : Nat), kinds P n t = some ks → EqAt P F (d + n) t ks := by
  induction n with
  | zero => intro t ks d h; simp [kinds] at h
  | succ n ih =>
    intro t ks d h
    have hd : d + (n + 1) = d + n + 1 := rfl
    have h0 := h
    simp only [kinds] at h
    split at h
    · rename_i ht
      simp only [Option.some.injEq] at h; subst h
      have ha : aggr P t = false := by simp [aggr, ht]
      intro cs ds vs us b w hv hu hb
      obtain ⟨x, y, v, u, rfl, rfl, rfl, rfl, hx, hy, he⟩ := eqK_scalar hv hu hb
      cases hx <;> cases hy <;> simp only [eqK, reduceCtorEq] at he
      simp only [Option.some.injEq] at he; subst he
      simp only [valOf, ha, Bool.false_eq_true, if_false, List.getD_cons_zero]
      rw [hd, run_equalIn_bool' w _ t _ _ ht]; rfl
    · rename_i k ht
      simp only [Option.some.injEq] at h; subst h
      have ha : aggr P t = false := by simp [aggr, ht]
      intro cs ds vs us b w hv hu hb
      obtain ⟨x, y, v, u, rfl, rfl, rfl, rfl, hx, hy, he⟩ := eqK_scalar hv hu hb
      cases hx <;> cases hy <;> simp only [eqK, reduceCtorEq] at he
      split at he
      · rename_i hk
        obtain ⟨rfl, rfl⟩ := hk
        simp only [Option.some.injEq] at he; subst he
        simp only [valOf, ha, Bool.false_eq_true, if_false, List.getD_cons_zero]
        rw [hd, run_equalIn_int w _ t _ _ _ _ ht]; rfl
      · simp at he
    · rename_i ht
      simp only [Option.some.injEq] at h; subst h
      have ha : aggr P t = false := by simp [aggr, ht]
      intro cs ds vs us b w hv hu hb
      obtain ⟨x, y, v, u, rfl, rfl, rfl, rfl, hx, hy, he⟩ := eqK_scalar hv hu hb
      cases hx <;> cases hy <;> simp only [eqK, reduceCtorEq] at he
      rename_i p q
      simp only [Option.some.injEq] at he; subst he
      have heq : (p == q) = decide (p = q) := by rw [Bool.eq_iff_iff]; simp
      simp only [valOf, ha, Bool.false_eq_true, if_false, List.getD_cons_zero]
      rw [hd, run_equalIn_string w _ t _ _ ht, ByteArray.toList_mk, ByteArray.toList_mk, heq]
    · rename_i fs ht
      split at h
      · simp at h
      · rename_i hst
        have ha : aggr P t = true := by simp [aggr, ht]
        intro cs ds vs us b w hv hu hb
        simp only [valOf, ha, if_true]
        rw [hd, run_equalIn_structOf w (d + n) t fs _ _ ht (by simpa using hst)]
        refine eqFields_sound ?_ fs.toList 0 ks h ?_ cs ds vs us b w hv hu (by simpa using hb)
        · intro u k hu hne
          split at hu
          · rename_i k' hk'
            split at hu
            · rename_i hs
              simp only [Bool.and_eq_true] at hs
              simp only [Option.some.injEq] at hu; subst hu
              have hk := kinds_und hk'
              exact ⟨ih _ _ d hk', hs.1, hk.1, hk.2⟩
            · simp at hu
          · simp at hu
        · intro f hf hfe
          split at hfe
          · split at hfe
            · rename_i hs
              simp only [Option.some.injEq] at hfe; subst hfe
              simp at hs
            · simp at hfe
          · simp at hfe
    · rename_i m e ht
      split at h
      · rename_i k1 hk1
        split at h
        · rename_i hs
          simp only [Option.some.injEq] at h; subst h
          have ha : aggr P t = true := by simp [aggr, ht]
          have hk := kinds_und hk1
          intro cs ds vs us b w hv hu hb
          simp only [valOf, ha, if_true]
          simp only [Bool.and_eq_true] at hs
          obtain ⟨i, hi, hisz⟩ := sized_spec hs.1
          rw [hd, run_equalIn_array w (d + n) _ _ ht hi]
          have hc : P.cellsOf e = k1.length := by simp [Program.cellsOf, hi, hisz]
          rw [hc, List.range_eq_range']
          exact eqArr_sound (ih _ _ d hk1) hs.1 hk.1 hk.2 (by cases k1 <;> simp at hs ⊢) m 0 cs ds vs us b w hv hu (by simpa using hb)
        · simp at h
      · simp at h
    · simp at h
end
end Go.Am
