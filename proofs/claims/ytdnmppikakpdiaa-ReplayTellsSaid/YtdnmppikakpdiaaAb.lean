/- More operations that change nothing. -/
import Derived.Test.YtdnmppikakpdiaaAa
import Derived.Laws.BytesString
import Derived.Laws.IdiomStrings
set_option linter.unusedVariables false
namespace Go.Am
open Go.RowKit
section
variable {P : Program} {B : Nat} {F : Facts} {ρ : Map} {s : St} {a : Go.Act} {w : World} {o : Oper}

/-- What a pure operation does: it leaves the world, and yields v. -/
abbrev Pure (P : Program) (o : Oper) (a : Go.Act) (w : World) (F : Facts) (ρ : Map) (s : St) (v : AV) : Prop := Does P o a w fun u w' => w' = w ∧ AR F ρ s.ob v u
theorem pure_of {v : AV} {u : Value} (h : (execOp a.eval o).run P w = .ok (.value u) w) (hv : AR F ρ s.ob v u) : Pure P o a w F ρ s v := does_value h ⟨rfl, hv⟩

def chkBin (o : Oper) (op : BinOp) (x y : Opd) : Bool := match o.op with
  | .binOp op' t x' y' _ => decide (op' = op) && chkO x' x && chkO y' y
  | _ => false
theorem does_bin {op : BinOp} {x y : Opd} {p q : AV} {d : D} (hf : Fr F ρ s.ob s.fr a) (hc : chkBin o op x y = true) (h1 : s.opd x = some p) (h2 : s.opd y = some q) (h : binV op p q = some d) : Pure P o a w F ρ s (.c d) := by
  unfold chkBin at hc
  split at hc
  · rename_i op' t x' y' _ hop
    simp only [Bool.and_eq_true, decide_eq_true_eq] at hc
    obtain ⟨⟨rfl, hx⟩, hy⟩ := hc
    have r1 := opd_sound hf hx h1
    have r2 := opd_sound hf hy h2
    unfold binV at h
    split at h
    · rename_i k m k' n
      split at h
      · rename_i hk; subst hk
        have e1 := DR.int_ r1
        have e2 := DR.int_ r2
        obtain ⟨u, hr, hd⟩ := binI_run (P := P) (w := w) (F := F) t h
        refine pure_of ?_ hd
        simp only [execOp, hop, Sem.run_bind, e1, e2]
        have hg : (eqGuard op' t x' y' (.int k m) (.int k n)).run P w = .ok () w := by
          unfold eqGuard
          split <;> simp
        rw [hg, Result.andThen_ok, hr, Result.andThen_ok, Sem.run_pure]
      · simp at h
    · rename_i m n
      have e1 := DR.str_ r1
      have e2 := DR.str_ r2
      obtain ⟨u, hr, hd⟩ := binS_run (P := P) (w := w) (F := F) t h
      refine pure_of ?_ hd
      simp only [execOp, hop, Sem.run_bind, e1, e2]
      have hg : (eqGuard op' t x' y' (.string ⟨m.toArray⟩) (.string ⟨n.toArray⟩)).run P w = .ok () w := by
        unfold eqGuard
        split <;> simp
      rw [hg, Result.andThen_ok, hr, Result.andThen_ok, Sem.run_pure]
    · simp at h
  · simp at hc

def isEq : BinOp → Bool → Bool
  | .eql, false => true
  | .neq, true => true
  | _, _ => false
def chkBeq (P : Program) (o : Oper) (neg : Bool) (x y : Opd) : Bool := match o.op with
  | .binOp op' t x' y' _ => isEq op' neg && (match P.underlying t with | some .bool => true | _ => false) && chkO x' x && chkO y' y
  | _ => false
theorem does_beq {neg : Bool} {x y : Opd} {p q : Bool} (hf : Fr F ρ s.ob s.fr a) (hc : chkBeq P o neg x y = true) (h1 : s.opd x = some (.c (.bool p))) (h2 : s.opd y = some (.c (.bool q))) :
    Pure P o a w F ρ s (.c (.bool (if neg then !decide (p = q) else decide (p = q)))) := by
  unfold chkBeq at hc
  split at hc
  · rename_i op' t x' y' _ hop
    simp only [Bool.and_eq_true] at hc
    obtain ⟨⟨⟨hop', ht⟩, hx⟩, hy⟩ := hc
    split at ht
    · rename_i ht'
      have e1 := DR.bool_ (opd_sound hf hx h1)
      have e2 := DR.bool_ (opd_sound hf hy h2)
      refine pure_of (u := .bool (if neg then !decide (p = q) else decide (p = q))) ?_ (.bool _)
      simp only [execOp, hop, Sem.run_bind, e1, e2]
      have hg : (eqGuard op' t x' y' (.bool p) (.bool q)).run P w = .ok () w := by
        unfold eqGuard
        split <;> simp
      rw [hg, Result.andThen_ok]
      unfold isEq at hop'
      split at hop'
      · simp only [Go.binOp, Op.equal, Sem.run_bind]
        rw [show Op.maxDepth = 9999 + 1 from rfl, run_equalIn_bool' w 9999 t _ _ ht']
        simp; cases p <;> cases q <;> rfl
      · simp only [Go.binOp, Op.equal, Sem.run_bind]
        rw [show Op.maxDepth = 9999 + 1 from rfl, run_equalIn_bool' w 9999 t _ _ ht']
        simp; cases p <;> cases q <;> rfl
      · simp at hop'
    · simp at ht
  · simp at hc

def chkEqs (P : Program) (o : Oper) (neg : Bool) (ks : List Kd) (x y : Opd) : Bool := match o.op with
  | .binOp op' t x' y' _ => isEq op' neg && decide (kinds P 8 t = some ks) && aggr P t && !P.eqGuardType P.depth t && chkO x' x && chkO y' y
  | _ => false
theorem does_eqs {neg : Bool} {ks : List Kd} {x y : Opd} {p q : List D} {e : Bool} (hf : Fr F ρ s.ob s.fr a) (hc : chkEqs P o neg ks x y = true) (h1 : s.opd x = some (.agg p)) (h2 : s.opd y = some (.agg q)) (he : eqKs ks p q = some e) :
    Pure P o a w F ρ s (.c (.bool (if neg then !e else e))) := by
  unfold chkEqs at hc
  split at hc
  · rename_i op' t x' y' _ hop
    simp only [Bool.and_eq_true, decide_eq_true_eq, Bool.not_eq_true'] at hc
    obtain ⟨⟨⟨⟨⟨hop', hk⟩, hag⟩, hg⟩, hx⟩, hy⟩ := hc
    obtain ⟨vs, e1, r1⟩ := opd_sound hf hx h1
    obtain ⟨us, e2, r2⟩ := opd_sound hf hy h2
    refine pure_of (u := .bool (if neg then !e else e)) ?_ (.bool _)
    have hE := kinds_sound (F := F) 8 t ks 9992 hk p q vs us e w r1 r2 he
    simp only [valOf, hag, if_true] at hE
    simp only [execOp, hop, Sem.run_bind, e1, e2]
    rw [run_eqGuard_agg w op' t x' y' _ _ hg, Result.andThen_ok]
    unfold isEq at hop'
    split at hop'
    · rw [run_eql_struct, hE]; simp
    · rw [run_neq_struct, hE]; simp
    · simp at hop'
  · simp at hc

def chkUn (o : Oper) (op : UnOp) (x : Opd) : Bool := match o.op with | .unOp op' _ x' => decide (op' = op) && chkO x' x | _ => false
theorem does_un {op : UnOp} {x : Opd} {p : AV} {d : D} (hf : Fr F ρ s.ob s.fr a) (hc : chkUn o op x = true) (h1 : s.opd x = some p) (h : unV op p = some d) : Pure P o a w F ρ s (.c d) := by
  unfold chkUn at hc
  split at hc
  · rename_i op' t x' hop
    simp only [Bool.and_eq_true, decide_eq_true_eq] at hc
    obtain ⟨rfl, hx⟩ := hc
    have r1 := opd_sound hf hx h1
    unfold unV at h
    split at h
    · split at h
      · simp only [Option.some.injEq] at h; subst h
        refine pure_of (u := _) ?_ (.int _ _)
        simp [execOp, hop, DR.int_ r1, Op.unary, Op.intArith, wrapK]
      · simp only [Option.some.injEq] at h; subst h
        refine pure_of (u := _) ?_ (.int _ _)
        simp [execOp, hop, DR.int_ r1, Op.unary, Op.intBits, notK, bitsK]
      · simp at h
    · split at h
      · simp only [Option.some.injEq] at h; subst h
        refine pure_of (u := _) ?_ (.bool _)
        simp [execOp, hop, DR.bool_ r1, Op.unary]
      · simp at h
    · simp at h
  · simp at hc

def chkExt (o : Oper) (x : Opd) (i : Nat) : Bool := match o.op with | .extract x' j => decide (j = i) && chkO x' x | _ => false
theorem does_ext {x : Opd} {i : Nat} {vs : List AV} {v : AV} (hf : Fr F ρ s.ob s.fr a) (hc : chkExt o x i = true) (h1 : s.opd x = some (.tup vs)) (h : vs[i]? = some v) : Pure P o a w F ρ s v := by
  unfold chkExt at hc
  split at hc
  · rename_i x' j hop
    simp only [Bool.and_eq_true, decide_eq_true_eq] at hc
    obtain ⟨rfl, hx⟩ := hc
    obtain ⟨ws, e1, r1⟩ := opd_sound hf hx h1
    obtain ⟨u, hu, hr⟩ := r1.get? _ _ h
    refine pure_of (u := u) ?_ (AR.of1 hr)
    simp [execOp, hop, e1, Instr.extract, hu]
  · simp at hc

/-- The part of data, and the model's. -/
theorem part_sound {cs : List D} {vs : List Value} {off sz : Nat} {ag : Bool} {v : AV} {t : TypeId} (hr : All2 (DR F) cs vs) (hag : agOk P t ag = true) (hsz : sized P t sz = true) (h : Am.part cs off sz ag = some v) (h1 : ag = false → sz = 1) :
    ∃ u, (Go.part t vs.toArray off).run P w = .ok u w ∧ AR F ρ s.ob v u := by
  unfold Am.part at h
  split at h
  · rename_i hle
    have hlen := hr.length
    cases ag
    · simp only [Bool.false_eq_true, if_false, Option.map_eq_some_iff] at h
      obtain ⟨d, hd, rfl⟩ := h
      obtain ⟨u, hu, hdr⟩ := hr.get? _ _ hd
      refine ⟨u, ?_, hdr⟩
      simp only [Go.part, Sem.run_bind, run_isAgg hag, Result.andThen_ok]
      simp [hu]
    · simp only [if_true, Option.some.injEq] at h; subst h
      refine ⟨.agg ((vs.drop off).take sz).toArray, ?_, _, rfl, (hr.drop off).take sz⟩
      simp only [Go.part, Sem.run_bind, run_isAgg hag, Result.andThen_ok, if_true, run_sized hsz, Sem.run_pure]
      simp [List.extract_eq_take_drop]
  · simp at h

def chkFld (P : Program) (o : Oper) (x : Opd) (off sz : Nat) (ag : Bool) : Bool := match o.op with
  | .field t x' i => chkO x' x && (match P.underlying t with
    | some (.struct fs) => match fs[i]? with
      | some f => f.offset == off && sized P f.type sz && agOk P f.type ag && (ag || sz == 1)
      | none => false
    | _ => false)
  | _ => false
theorem does_fld {x : Opd} {off sz : Nat} {ag : Bool} {cs : List D} {v : AV} (hf : Fr F ρ s.ob s.fr a) (hc : chkFld P o x off sz ag = true) (h1 : s.opd x = some (.agg cs)) (h : Am.part cs off sz ag = some v) : Pure P o a w F ρ s v := by
  unfold chkFld at hc
  split at hc
  · rename_i t x' i hop
    simp only [Bool.and_eq_true] at hc
    obtain ⟨hx, hc⟩ := hc
    split at hc
    · rename_i fs ht
      split at hc
      · rename_i f hfi
        simp only [Bool.and_eq_true, beq_iff_eq, Bool.or_eq_true] at hc
        obtain ⟨⟨⟨rfl, hsz⟩, hag⟩, h11⟩ := hc
        obtain ⟨vs, e1, r1⟩ := opd_sound hf hx h1
        obtain ⟨u, hu, hr⟩ := part_sound (w := w) r1 hag hsz h (fun h0 => by simpa [h0] using h11)
        refine pure_of (u := u) ?_ hr
        simp [execOp, hop, e1, Instr.field, run_underlying ht, hfi, asAgg, hu]
      · simp at hc
    · simp at hc
  · simp at hc

theorem asNat_spec {v : AV} {j : Nat} {u : Value} {ob : List (Nat × Obj)} (h : asNat v = some j) (hr : AR F ρ ob v u) : ∃ k n, u = .int k n ∧ 0 ≤ n ∧ n.toNat = j := by
  unfold asNat at h
  split at h
  · rename_i k n
    split at h
    · rename_i hn
      simp only [Option.some.injEq] at h
      exact ⟨k, n, DR.int_ hr, hn, h⟩
    · simp at h
  · simp at h

def chkIdx (P : Program) (o : Oper) (x i : Opd) (n sz : Nat) (ag : Bool) : Bool := match o.op with
  | .index t x' i' => chkO x' x && chkO i' i && (match P.underlying t with
    | some (.array m e) => m == n && sized P e sz && agOk P e ag && (ag || sz == 1)
    | _ => false)
  | _ => false
theorem does_idx {x i : Opd} {n sz j : Nat} {ag : Bool} {cs : List D} {p v : AV} (hf : Fr F ρ s.ob s.fr a) (hc : chkIdx P o x i n sz ag = true) (h1 : s.opd x = some (.agg cs)) (h2 : s.opd i = some p) (hj : asNat p = some j) (hn : j < n)
    (h : Am.part cs (j * sz) sz ag = some v) : Pure P o a w F ρ s v := by
  unfold chkIdx at hc
  split at hc
  · rename_i t x' i' hop
    simp only [Bool.and_eq_true] at hc
    obtain ⟨⟨hx, hi⟩, hc⟩ := hc
    split at hc
    · rename_i m e ht
      simp only [Bool.and_eq_true, beq_iff_eq, Bool.or_eq_true] at hc
      obtain ⟨⟨⟨rfl, hsz⟩, hag⟩, h11⟩ := hc
      obtain ⟨vs, e1, r1⟩ := opd_sound hf hx h1
      obtain ⟨k, z, e2, hz, rfl⟩ := asNat_spec hj (opd_sound hf hi h2)
      obtain ⟨u, hu, hr⟩ := part_sound (w := w) r1 hag hsz h (fun h0 => by simpa [h0] using h11)
      refine pure_of (u := u) ?_ hr
      have hzm : z < (m : Int) := by omega
      simp [execOp, hop, e1, e2, Instr.index, run_underlying ht, asIntOf, hz, hzm, run_sized hsz, hu]
    · simp at hc
  · simp at hc

def chkSidx (P : Program) (o : Oper) (x i : Opd) : Bool := match o.op with
  | .index t x' i' => chkO x' x && chkO i' i && (match P.underlying t with | some .string => true | _ => false)
  | _ => false
theorem does_sidx {x i : Opd} {j : Nat} {l : List UInt8} {p : AV} {b : UInt8} (hf : Fr F ρ s.ob s.fr a) (hc : chkSidx P o x i = true) (h1 : s.opd x = some (.c (.str l))) (h2 : s.opd i = some p) (hj : asNat p = some j) (h : l[j]? = some b) :
    Pure P o a w F ρ s (.c (.int .u8 b.toNat)) := by
  unfold chkSidx at hc
  split at hc
  · rename_i t x' i' hop
    simp only [Bool.and_eq_true] at hc
    obtain ⟨⟨hx, hi⟩, hc⟩ := hc
    split at hc
    · rename_i ht
      have e1 := DR.str_ (opd_sound hf hx h1)
      obtain ⟨k, z, e2, hz, rfl⟩ := asNat_spec hj (opd_sound hf hi h2)
      refine pure_of (u := .int .u8 b.toNat) ?_ (.int _ _)
      have hb : (ByteArray.mk l.toArray)[z.toNat]? = some b := by
        have hlt := (List.getElem?_eq_some_iff.1 h)
        obtain ⟨hl, he⟩ := hlt
        have hsz : z.toNat < (ByteArray.mk l.toArray).size := by simpa [ByteArray.size] using hl
        have hget : (ByteArray.mk l.toArray)[z.toNat]? = some ((ByteArray.mk l.toArray)[z.toNat]'hsz) := getElem?_pos (ByteArray.mk l.toArray) z.toNat hsz
        rw [hget, ← he]; rfl
      simp [execOp, hop, e1, e2, Instr.index, run_underlying ht, asIntOf, hz, hb]
    · simp at hc
  · simp at hc

/-- The rows that a slice shows. -/
def Shows (F : Facts) (w : World) (sz : Nat) (rows : List (List D)) (v : Value) : Prop :=
  ∃ (x : Option Addr) (cap : Nat) (ad : Addr) (u : Nat → Nat → Value), v = .slice x rows.length cap ∧ rows.length ≤ cap ∧ (rows ≠ [] → x = some ad) ∧ (∀ r ∈ rows, r.length = sz) ∧
    ∀ (i : Nat) (r : List D) (j : Nat) (y : D), rows[i]? = some r → r[j]? = some y → w.cell? (ad.add (i * sz + j)) = some (u i j) ∧ DR F y (u i j)
theorem allD_get : ∀ {l : List AV} {ds : List D}, allD l = some ds → l.length = ds.length ∧ ∀ (j : Nat) (d : D), ds[j]? = some d → ∃ x, l[j]? = some x ∧ (x = .c d ∨ ∃ z, x = .nil z ∧ d = .vs z [])
  | [], ds, h => by simp [allD] at h; subst h; simp
  | .c d :: r, ds, h => by
    simp only [allD, Option.map_eq_some_iff] at h
    obtain ⟨ds', h', rfl⟩ := h
    obtain ⟨h1, h2⟩ := allD_get h'
    refine ⟨by simp [h1], fun j e he => ?_⟩
    cases j with
    | zero => simp at he; subst he; exact ⟨_, rfl, .inl rfl⟩
    | succ j => exact h2 j e (by simpa using he)
  | .nil z :: r, ds, h => by
    simp only [allD, Option.map_eq_some_iff] at h
    obtain ⟨ds', h', rfl⟩ := h
    obtain ⟨h1, h2⟩ := allD_get h'
    refine ⟨by simp [h1], fun j e he => ?_⟩
    cases j with
    | zero => simp at he; subst he; exact ⟨_, rfl, .inr ⟨z, rfl, rfl⟩⟩
    | succ j => exact h2 j e (by simpa using he)
  | .agg _ :: _, _, h => by simp [allD] at h
  | .sl .. :: _, _, h => by simp [allD] at h
  | .loc .. :: _, _, h => by simp [allD] at h
  | .vp .. :: _, _, h => by simp [allD] at h
  | .tup _ :: _, _, h => by simp [allD] at h
  | .ot _ :: _, _, h => by simp [allD] at h
  | .mp _ :: _, _, h => by simp [allD] at h
  | .itr _ :: _, _, h => by simp [allD] at h
  | .ags _ :: _, _, h => by simp [allD] at h
  | .clo _ _ :: _, _, h => by simp [allD] at h
theorem allRows_get : ∀ {l : Rows} {ds : List (List D)}, allRows l = some ds → l.length = ds.length ∧ ∀ (i : Nat) (d : List D), ds[i]? = some d → ∃ r, l[i]? = some r ∧ allD r = some d
  | [], ds, h => by simp [allRows] at h; subst h; simp
  | r :: l, ds, h => by
    simp only [allRows] at h
    split at h
    · rename_i x y hx hy
      simp only [Option.some.injEq] at h; subst h
      obtain ⟨h1, h2⟩ := allRows_get hy
      refine ⟨by simp [h1], fun i d hd => ?_⟩
      cases i with
      | zero => simp at hd; subst hd; exact ⟨_, rfl, hx⟩
      | succ i => exact h2 i d (by simpa using hd)
    · simp at h
theorem DR.vs_nil {z : Nat} {a : Option Addr} {c : Nat} : DR F (.vs z []) (.slice a 0 c) :=
  .vs z [] a c ⟨0, 0, none⟩ (fun _ _ => undef) (by simp) (by simp) (by simp) (by simp) (by simp)
theorem AR.cell_data {ob : List (Nat × Obj)} {x : AV} {d : D} {u : Value} (hx : x = .c d ∨ ∃ z, x = .nil z ∧ d = .vs z []) (h : AR F ρ ob x u) : DR F d u := by
  rcases hx with rfl | ⟨z, rfl, rfl⟩
  · exact h
  · obtain rfl : u = _ := h; exact DR.vs_nil
/-- A cell of an own object. -/
theorem Mem.cell {ob : List (Nat × Obj)} (hm : Mem B F ρ ob w) {key : Nat} {o : Obj} {p : Place} (hk : key < MK) (h1 : get ob key = some o) (h2 : ρ key = some p) {i j : Nat} {r : List AV} {x : AV} (hi : o.rows[i]? = some r) (hj : r[j]? = some x) :
    ∃ u, w.cell? ⟨p.g, p.o + i * p.sz + j, none⟩ = some u ∧ AR F ρ ob x u ∧ x.one = true := by
  obtain ⟨_, _, _, _, cs, et, hh, _, hc⟩ := hm.cells hk h1 h2
  obtain ⟨hone, u, hu, hr⟩ := hc i r j x hi hj
  exact ⟨u, by simp [World.cell?, hh, hu], hr, hone⟩
theorem Addr.add_mk (g off n : Nat) : (⟨g, off, none⟩ : Addr).add n = ⟨g, off + n, none⟩ := by
  unfold Addr.add; split
  · simp [*]
  · rfl
theorem addr_add_add (a : Addr) (i j : Nat) : (a.add i).add j = a.add (i + j) := by
  unfold Addr.add
  by_cases hi : i = 0 <;> by_cases hj : j = 0 <;> simp [hi, hj, Nat.add_assoc]
theorem view_sound {x : AV} {sz : Nat} {rows : List (List D)} {v : Value} (hm : Mem B F ρ s.ob w) (h : s.view x = some (sz, rows)) (hr : AR F ρ s.ob x v) : Shows F w sz rows v := by
  unfold St.view at h
  split at h
  · simp only [Option.some.injEq, Prod.mk.injEq] at h; obtain ⟨rfl, rfl⟩ := h
    cases hr with
    | vs sz rows a cap ad u hcap ha hsz hf hd =>
      exact ⟨a, cap, ad, u, rfl, hcap, ha, hsz, fun i r j y h1 h2 => ⟨hm.facts _ _ (hf i r j y h1 h2), hd i r j y h1 h2⟩⟩
  · simp only [Option.some.injEq, Prod.mk.injEq] at h; obtain ⟨rfl, rfl⟩ := h
    obtain rfl : v = _ := hr
    exact ⟨none, 0, ⟨0, 0, none⟩, fun _ _ => undef, rfl, by simp, by simp, by simp, by simp⟩
  · rename_i key ver start len
    split at h
    · rename_i orows hob
      split at h
      · rename_i hc
        obtain ⟨hver, hle⟩ := hc
        simp only [Option.map_eq_some_iff, Prod.mk.injEq] at h
        obtain ⟨ds, hds, rfl, rfl⟩ := h
        obtain ⟨hl, hget⟩ := allRows_get hds
        have hs := (hr.2 orows hob).2 hver hle
        have hlen : ((ds.drop start).take len).length = len := by simp; omega
        unfold SlR at hs
        cases hρ : ρ key with
        | none =>
          rw [hρ] at hs
          obtain ⟨rfl, rfl⟩ := hs
          exact ⟨none, 0, ⟨0, 0, none⟩, fun _ _ => undef, by simp, by simp, by simp, by simp, by simp⟩
        | some p =>
          rw [hρ] at hs
          obtain ⟨hcap, a, rfl, ha⟩ := hs
          have hcell : ∀ (i : Nat) (r : List D) (j : Nat) (y : D), ((ds.drop start).take len)[i]? = some r → r[j]? = some y → ∃ u, w.cell? ⟨p.g, p.o + (start + i) * p.sz + j, none⟩ = some u ∧ DR F y u := by
            intro i r j y hi hj
            have hi' : ds[start + i]? = some r := by
              rw [List.getElem?_take] at hi
              split at hi
              · simpa [List.getElem?_drop] using hi
              · simp at hi
            obtain ⟨r', hr', hall⟩ := hget _ _ hi'
            obtain ⟨x', hx', hd⟩ := (allD_get hall).2 _ _ hj
            obtain ⟨u, hu, har, _⟩ := hm.cell hr.1 hob hρ hr' hx'
            exact ⟨u, hu, AR.cell_data hd har⟩
          obtain ⟨_, _, hpsz, hrl, _⟩ := hm.cells hr.1 hob hρ
          rw [← hpsz]
          refine ⟨a, p.cap - start, ⟨p.g, p.o + start * p.sz, none⟩, fun i j => (w.cell? ⟨p.g, p.o + (start + i) * p.sz + j, none⟩).getD undef, by rw [hlen], by rw [hlen]; omega, ?_, ?_, ?_⟩
          · intro hne
            apply ha
            by_cases h0 : 0 < len
            · exact .inl h0
            · exfalso; apply hne; apply List.eq_nil_of_length_eq_zero; omega
          · intro r hrm
            obtain ⟨i, hi⟩ := List.getElem?_of_mem hrm
            have hi' : ds[start + i]? = some r := by
              rw [List.getElem?_take] at hi
              split at hi
              · simpa [List.getElem?_drop] using hi
              · simp at hi
            obtain ⟨r', hr', hall⟩ := hget _ _ hi'
            have := hrl r' (List.mem_of_getElem? hr')
            rw [← this, (allD_get hall).1]
          · intro i r j y hi hj
            obtain ⟨u, hu, hd⟩ := hcell i r j y hi hj
            rw [Addr.add_mk, show p.o + start * p.sz + (i * p.sz + j) = p.o + (start + i) * p.sz + j by rw [Nat.add_mul]; omega, hu]
            exact ⟨by simp [hu], by simpa [hu] using hd⟩
      · simp at h
    · simp at h
  · simp at h

end
end Go.Am
