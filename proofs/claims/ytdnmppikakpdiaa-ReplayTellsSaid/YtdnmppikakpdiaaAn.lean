/- Shifts, nil, addresses, maps. -/
import Derived.Test.YtdnmppikakpdiaaAgz
import Derived.MapKept
import Derived.Maps.RangeRun
import Derived.Lib.Builder
import Derived.Lib.UnsafeStr
import Derived.Laws.Externs
set_option linter.unusedVariables false
set_option linter.unusedSimpArgs false
namespace Go.Am
open Go.RowKit
section
variable {P : Program} {B : Nat} {F F' : Facts} {ρ ρ' : Map} {s : St} {a : Go.Act} {w w' : World} {o : Oper} {ob ob' : List (Nat × Obj)}

/-! ### Shifts -/
def chkShf (P : Program) (o : Oper) (l : Bool) (x y : Opd) : Bool := match o.op with
  | .binOp op _ x' y' _ => (match op with | .shl => l | .shr => !l | _ => false) && chkO x' x && chkO y' y
  | _ => false
theorem does_shf {l : Bool} {x y : Opd} {k k' : IntKind} {m n : Int} {d : D} (hf : Fr F ρ s.ob s.fr a) (hc : chkShf P o l x y = true) (h1 : s.opd x = some (.c (.int k m))) (h2 : s.opd y = some (.c (.int k' n))) (h : shfI l k m n = some d) : Pure P o a w F ρ s (.c d) := by
  unfold chkShf at hc
  split at hc
  · rename_i op t x' y' t' hop
    simp only [Bool.and_eq_true] at hc
    obtain ⟨⟨hl, hx⟩, hy⟩ := hc
    have e1 := DR.int_ (opd_sound hf hx h1)
    have e2 := DR.int_ (opd_sound hf hy h2)
    unfold shfI at h
    split at h
    · simp at h
    · rename_i hn
      simp only [Option.some.injEq] at h; subst h
      refine pure_of (u := .int k (if l then k.wrap (m * 2 ^ (min n.toNat k.bits)) else m.fdiv (2 ^ (min n.toNat k.bits)))) ?_ (.int _ _)
      split at hl
      · subst hl
        simp [execOp, hop, e1, e2, eqGuard, binOp, Op.shift, hn]
      · simp only [Bool.not_eq_true'] at hl; subst hl
        simp [execOp, hop, e1, e2, eqGuard, binOp, Op.shift, hn]
      · simp at hl
  · simp at hc

/-! ### Nil -/
def nilOf (P : Program) (t : TypeId) : Nat → Option Value
  | 0 => match P.underlying t with | some (.pointer e) => if (P.info? e).isSome then some (.pointer none) else none | _ => none
  | 1 => match P.underlying t with | some (.map _ _) => some (.map none) | _ => none
  | 2 => match P.underlying t with | some (.slice _) => some (.slice none 0 0) | _ => none
  | _ => none
def isNilC : Nat → Operand → Bool
  | 0, .const (.pointer none) => true
  | 1, .const (.map none) => true
  | 2, .const (.slice none 0 0) => true
  | _, _ => false
def refOk (P : Program) (t : TypeId) : Nat → Bool
  | 0 => match P.underlying t with | some (.pointer e) => (P.info? e).isSome | _ => false
  | 1 => match P.underlying t with | some (.map _ _) => true | _ => false
  | 2 => match P.underlying t with | some (.slice _) => true | _ => false
  | _ => false
def chkIsn (P : Program) (o : Oper) (k : Nat) (neg : Bool) (x : Opd) : Bool := match o.op with
  | .binOp op t x' y' _ => isEq op neg && refOk P t k && chkO x' x && isNilC k y'
  | _ => false
theorem isNilC_eval {k : Nat} {y : Operand} (h : isNilC k y = true) : (k = 0 → a.eval y = .pointer none) ∧ (k = 1 → a.eval y = .map none) ∧ (k = 2 → a.eval y = .slice none 0 0) := by
  unfold isNilC at h
  split at h
  · exact ⟨fun _ => rfl, fun h => by omega, fun h => by omega⟩
  · exact ⟨fun h => by omega, fun _ => rfl, fun h => by omega⟩
  · exact ⟨fun h => by omega, fun h => by omega, fun _ => rfl⟩
  · simp at h
theorem equal_of {t : TypeId} {u v : Value} {r : Bool} (h : ∀ d, (Op.equalIn (d + 1) t u v).run P w = .ok r w) : (Op.equal t u v).run P w = .ok r w := by
  simp only [Op.equal, Op.maxDepth]
  exact h 9999
theorem does_isn {k : Nat} {neg b : Bool} {x : Opd} {v : AV} (hf : Fr F ρ s.ob s.fr a) (hc : chkIsn P o k neg x = true) (h1 : s.opd x = some v) (h : isNil s k v = some b) : Pure P o a w F ρ s (.c (.bool (if neg then !b else b))) := by
  unfold chkIsn at hc
  split at hc
  · rename_i op t x' y' t' hop
    simp only [Bool.and_eq_true] at hc
    obtain ⟨⟨⟨heq, href⟩, hx⟩, hn⟩ := hc
    have hr := opd_sound hf hx h1
    refine pure_of (u := .bool (if neg then !b else b)) ?_ (.bool _)
    have hE : ∀ (u n : Value), a.eval x' = u → a.eval y' = n → (∀ op, (eqGuard op t x' y' u n).run P w = .ok () w) → (binOp .eql t u n = (do let r ← Op.equal t u n; pure (.bool r))) → (binOp .neq t u n = (do let r ← Op.equal t u n; pure (.bool (!r)))) → (Op.equal t u n).run P w = .ok b w →
        (execOp a.eval o).run P w = .ok (.value (.bool (if neg then !b else b))) w := by
      intro u n hu hnv hg hb hb2 he
      unfold isEq at heq
      split at heq
      · simp [execOp, hop, hu, hnv, hg, hb, he]
      · simp [execOp, hop, hu, hnv, hg, hb2, he]
      · simp at heq
    have hE0 : ∀ (u : Value) (j : TypeId), P.underlying t = some (.pointer j) → a.eval x' = u → a.eval y' = .pointer none → (∃ q, u = .pointer q ∧ b = q.isNone) → (execOp a.eval o).run P w = .ok (.value (.bool (if neg then !b else b))) w := by
      rintro u j ht hu hy ⟨q, rfl, rfl⟩
      refine hE _ _ hu hy (fun op => ?_) rfl rfl ?_
      · unfold eqGuard; split <;> simp
      · refine equal_of fun d => ?_
        cases q <;> simp [Op.equalIn, run_underlying ht]
    have hE1 : ∀ (u : Value) (i j : TypeId), P.underlying t = some (.map i j) → a.eval x' = u → a.eval y' = .map none → (∃ q, u = .map q ∧ b = q.isNone) → (execOp a.eval o).run P w = .ok (.value (.bool (if neg then !b else b))) w := by
      rintro u i j ht hu hy ⟨q, rfl, rfl⟩
      refine hE _ _ hu hy (fun op => ?_) rfl rfl ?_
      · unfold eqGuard; split <;> simp
      · refine equal_of fun d => ?_
        cases q <;> simp [Op.equalIn, run_underlying ht]
    have hE2 : ∀ (u : Value) (j : TypeId), P.underlying t = some (.slice j) → a.eval x' = u → a.eval y' = .slice none 0 0 → (∃ q m c, u = .slice q m c ∧ b = q.isNone) → (execOp a.eval o).run P w = .ok (.value (.bool (if neg then !b else b))) w := by
      rintro u j ht hu hy ⟨q, m, c, rfl, rfl⟩
      refine hE _ _ hu hy (fun op => ?_) rfl rfl ?_
      · unfold eqGuard; split <;> simp
      · refine equal_of fun d => ?_
        cases q <;> simp [Op.equalIn, run_underlying ht]
    obtain ⟨n0, n1, n2⟩ := isNilC_eval (a := a) hn
    have hy0 : k = 0 → a.eval y' = .pointer none ∧ ∃ j, P.underlying t = some (.pointer j) := by
      rintro rfl
      refine ⟨n0 rfl, ?_⟩
      simp only [refOk] at href; split at href
      · rename_i e he; exact ⟨e, he⟩
      · simp at href
    have hy1 : k = 1 → a.eval y' = .map none ∧ ∃ i j, P.underlying t = some (.map i j) := by
      rintro rfl
      refine ⟨n1 rfl, ?_⟩
      simp only [refOk] at href; split at href
      · rename_i e e' he; exact ⟨e, e', he⟩
      · simp at href
    have hy2 : k = 2 → a.eval y' = .slice none 0 0 ∧ ∃ j, P.underlying t = some (.slice j) := by
      rintro rfl
      refine ⟨n2 rfl, ?_⟩
      simp only [refOk] at href; split at href
      · rename_i e he; exact ⟨e, he⟩
      · simp at href
    unfold isNil at h
    split at h
    · obtain ⟨q1, j, q2⟩ := hy0 rfl
      simp only [Option.some.injEq] at h; subst h
      exact hE0 _ j q2 rfl q1 ⟨none, hr, rfl⟩
    · obtain ⟨q1, i, j, q2⟩ := hy1 rfl
      simp only [Option.some.injEq] at h; subst h
      exact hE1 _ i j q2 rfl q1 ⟨none, hr, rfl⟩
    · obtain ⟨q1, j, q2⟩ := hy0 rfl
      simp only [Option.map_eq_some_iff] at h
      obtain ⟨o0, ho, rfl⟩ := h
      obtain ⟨p, _, hv⟩ := hr.2 o0 ho
      exact hE0 _ j q2 rfl q1 ⟨_, hv, rfl⟩
    · obtain ⟨q1, i, j, q2⟩ := hy1 rfl
      simp only [Option.map_eq_some_iff] at h
      obtain ⟨o0, ho, rfl⟩ := h
      obtain ⟨p, _, hv⟩ := hr.2.2 o0 ho
      exact hE1 _ i j q2 rfl q1 ⟨_, hv, rfl⟩
    · obtain ⟨q1, j, q2⟩ := hy2 rfl
      simp only [Option.some.injEq] at h; subst h
      rename_i sz r rows
      have hr : DR F (.vs sz (r :: rows)) (a.eval x') := hr
      generalize hv : a.eval x' = v at hr
      cases hr with
      | vs _ _ y cap ad u hcap ha _ _ _ => exact hE2 _ j q2 hv q1 ⟨some ad, _, _, by rw [ha (by simp)], rfl⟩
    · obtain ⟨q1, j, q2⟩ := hy2 rfl
      split at h
      · rename_i o0 ho
        split at h
        · rename_i hcond
          simp only [Option.some.injEq] at h; subst h
          have hs := (hr.2 o0 ho).2 hcond.1 hcond.2.2
          unfold SlR at hs
          split at hs
          · omega
          · rename_i p hρ
            obtain ⟨_, b, hv, hb⟩ := hs
            exact hE2 _ j q2 rfl q1 ⟨some _, _, _, by rw [hv, hb (.inl hcond.2.1)], rfl⟩
        · simp at h
      · simp at h
    · obtain ⟨q1, j, q2⟩ := hy2 rfl
      simp only [Option.some.injEq] at h; subst h
      exact hE2 _ j q2 rfl q1 ⟨none, 0, 0, hr, rfl⟩
    · obtain ⟨q1, j, q2⟩ := hy2 rfl
      simp only [Option.some.injEq] at h; subst h
      rename_i sz
      have hr : DR F (.nil sz) (a.eval x') := hr
      generalize hv : a.eval x' = v at hr
      cases hr with
      | nil => exact hE2 _ j q2 hv q1 ⟨none, 0, 0, rfl, rfl⟩
    · simp at h
  · simp at hc

/-! ### Addresses -/
def chkPeq (P : Program) (o : Oper) (neg : Bool) (x y : Opd) : Bool := match o.op with
  | .binOp op t x' y' _ => isEq op neg && (match P.underlying t with | some (.pointer e) => (match P.info? e with | some i => i.size != 0 | none => false) | _ => false) && chkO x' x && chkO y' y
  | _ => false
theorem does_peq {neg b : Bool} {x y : Opd} {u v : AV} (hm : Mem B F ρ s.ob w) (hf : Fr F ρ s.ob s.fr a) (hc : chkPeq P o neg x y = true) (h1 : s.opd x = some u) (h2 : s.opd y = some v) (h : ptrEq s u v = some b) : Pure P o a w F ρ s (.c (.bool (if neg then !b else b))) := by
  unfold chkPeq at hc
  split at hc
  · rename_i op t x' y' t' hop
    simp only [Bool.and_eq_true] at hc
    obtain ⟨⟨⟨heq, ht⟩, hx⟩, hy⟩ := hc
    have hr1 := opd_sound hf hx h1
    have hr2 := opd_sound hf hy h2
    split at ht
    · rename_i e he
      split at ht
      · rename_i ti hti
        refine pure_of (u := .bool (if neg then !b else b)) ?_ (.bool _)
        have hE : ∀ (p q : Option Addr), a.eval x' = .pointer p → a.eval y' = .pointer q → (Op.equal t (.pointer p) (.pointer q)).run P w = .ok b w → (execOp a.eval o).run P w = .ok (.value (.bool (if neg then !b else b))) w := by
          intro p q hp hq hb
          have hg : ∀ op, (eqGuard op t x' y' (.pointer p) (.pointer q)).run P w = .ok () w := fun op => by unfold eqGuard; split <;> simp
          unfold isEq at heq
          split at heq
          · simp [execOp, hop, hp, hq, hg, binOp, hb]
          · simp [execOp, hop, hp, hq, hg, binOp, hb]
          · simp at heq
        unfold ptrEq at h
        split at h
        · simp only [Option.some.injEq] at h; subst h
          exact hE none none hr1 hr2 (equal_of fun d => by simp [Op.equalIn, run_underlying he])
        · simp only [Option.map_eq_some_iff] at h
          obtain ⟨o0, ho, rfl⟩ := h
          obtain ⟨p, _, hv⟩ := hr2.2 o0 ho
          exact hE none _ hr1 hv (equal_of fun d => by simp [Op.equalIn, run_underlying he])
        · simp only [Option.map_eq_some_iff] at h
          obtain ⟨o0, ho, rfl⟩ := h
          obtain ⟨p, _, hv⟩ := hr1.2 o0 ho
          exact hE _ none hv hr2 (equal_of fun d => by simp [Op.equalIn, run_underlying he])
        · rename_i k1 r1 f1 k2 r2 f2
          split at h
          · rename_i o1 o2 ho1 ho2
            obtain ⟨p1, hρ1, hv1⟩ := hr1.2 o1 ho1
            obtain ⟨p2, hρ2, hv2⟩ := hr2.2 o2 ho2
            have hsz : ti.size ≠ 0 := by simpa using ht
            split at h
            · rename_i hk; subst hk
              split at h
              · rename_i hrf
                obtain ⟨rfl, rfl⟩ := hrf
                simp only [Option.some.injEq] at h; subst h
                rw [hρ1] at hρ2; simp only [Option.some.injEq] at hρ2; subst hρ2
                refine hE _ _ hv1 hv2 (equal_of fun d => ?_)
                simp [Op.equalIn, run_underlying he, sizeOf, typeInfo, hti, hsz, run_sameAddr_same]
              · simp at h
            · rename_i hk
              simp only [Option.some.injEq] at h; subst h
              obtain ⟨_, _, _, _, c1, e1, hh1, _⟩ := hm.cells hr1.1 ho1 hρ1
              obtain ⟨_, _, _, _, c2, e2, hh2, _⟩ := hm.cells hr2.1 ho2 hρ2
              have hne : p1.g ≠ p2.g := fun hg => hk (hm.inj _ _ _ _ _ _ ho1 hρ1 ho2 hρ2 hg)
              refine hE _ _ hv1 hv2 (equal_of fun d => ?_)
              simp [Op.equalIn, run_underlying he, sizeOf, typeInfo, hti, hsz]
              rw [run_sameAddr_other w (by intro h; simp only [Addr.mk.injEq] at h; exact hne h.1) hh1 hh2]
          · simp at h
        · simp at h
      · simp at ht
    · simp at ht
  · simp at hc
/-- *T to unsafe.Pointer and back; abi.NoEscape. -/
def isNoEsc (fn : Func) : Bool := fn.body.isNone && fn.name == "internal/abi.NoEscape" && fn.origin == ""
theorem noEsc_find {fn : Func} (h : isNoEsc fn = true) : Extern.find fn = some Extern.AbiNoEscape.same ∧ Extern.findNext fn = none := by
  simp only [isNoEsc, Bool.and_eq_true, beq_iff_eq] at h
  obtain ⟨⟨_, hn⟩, ho⟩ := h
  constructor
  · have e1 : Extern.allGenericRows.lookup "internal/abi.NoEscape" = none := by rfl
    have e2 : Extern.allTypedRows.lookup "internal/abi.NoEscape" = none := by rfl
    have e3 : Extern.allRows.lookup "internal/abi.NoEscape" = some Extern.AbiNoEscape.same := by rfl
    simp [Extern.find, hn, e1, e2, e3]
  · have e1 : Extern.allNextRows.lookup "internal/abi.NoEscape" = none := by rfl
    have e2 : Extern.allNextRows.lookup "" = none := by rfl
    simp [Extern.findNext, hn, ho, e1, e2]
theorem liesAt_self {e : TypeId} (hc : P.cellsOf e ≠ 0) (count : Nat) (hn : 1 ≤ count) : liesAt P P.depth e count 0 e 1 = true := by
  have hd : P.depth = (2 * (P.types.size + Made.depth) + 1) + 1 := rfl
  rw [hd]
  simp only [liesAt, Bool.or_eq_true]
  left
  rw [hd]
  simp [rowAt, hc, hn, sameLayout]
def chkIdp (P : Program) (o : Oper) (ty sz : Nat) (x : Opd) : Bool := match o.op with
  | .convert src dst x' => chkO x' x && (match P.underlying src, P.underlying dst with
    | some (.pointer t), some .unsafePointer => t == ty && (match P.info? t with | some i => i.size != 0 | none => false)
    | some .unsafePointer, some (.pointer u) => u == ty && (match P.info? u with | some i => i.size != 0 | none => false) && P.cellsOf u == sz
    | _, _ => false)
  | .call { callee := .value (.func g), args := as, argTypes := _ } => (match P.funcs[g]? with | some fn => isNoEsc fn | none => false) && (match as.toList with | [x'] => chkO x' x | _ => false)
  | _ => false
theorem does_idp {ty sz : Nat} {x : Opd} {v : AV} (hm : Mem B F ρ s.ob w) (hf : Fr F ρ s.ob s.fr a) (hc : chkIdp P o ty sz x = true) (h1 : s.opd x = some v)
    (h : v = .ot .np ∨ ∃ key o0, v = .loc key 0 0 ∧ get s.ob key = some o0 ∧ KT ≤ key ∧ key / KT = ty + 1 ∧ o0.rows.length = 1 ∧ o0.sz = sz ∧ sz ≠ 0) : Pure P o a w F ρ s v := by
  unfold chkIdp at hc
  split at hc
  · rename_i src dst x' hop
    simp only [Bool.and_eq_true] at hc
    obtain ⟨hx, hc⟩ := hc
    have hr := opd_sound hf hx h1
    refine pure_of (u := a.eval x') ?_ hr
    have key : ∀ u, a.eval x' = u → (convert src dst u).run P w = .ok u w → (execOp a.eval o).run P w = .ok (.value u) w := by
      intro u hu hcv
      simp [execOp, hop, hu, hcv]
    refine key _ rfl ?_
    rcases h with rfl | ⟨k, o0, rfl, hob, hKT, hty, hl, hosz, hsz0⟩
    · have hv : a.eval x' = .pointer none := hr
      rw [hv]
      split at hc
      · rename_i t hs hd; simp [convert, run_underlying hs, run_underlying hd, Conv.unsafePointer]
      · rename_i u hs hd; simp [convert, run_underlying hs, run_underlying hd, Conv.unsafePointer]
      · simp at hc
    · obtain ⟨p, hρ, hv⟩ := hr.2 o0 hob
      obtain ⟨_, g2, g3, _, cs, et, hh, g5, _⟩ := hm.cells hr.1 hob hρ
      have het := hm.typed hr.1 hob hρ hKT _ _ _ hh
      have hpo := hm.typed0 hr.1 hob hρ hKT
      have het : et = ty := Nat.succ.inj (het.trans hty)
      subst het
      rw [hv]
      rw [hpo] at g5 ⊢
      simp only [Nat.zero_mul, Nat.zero_add, Nat.add_zero] at g5 ⊢
      have hcs : cs.size = p.cap * p.sz := g5
      have hcap : 1 ≤ p.cap := by omega
      have hsh : w.shape? p.g = some (et, cs.size) := by simp [World.shape?, hh]
      have hpos : 0 < cs.size := by rw [hcs]; exact Nat.mul_pos (by omega) (by omega)
      split at hc
      · rename_i t hs hd
        simp only [Bool.and_eq_true, beq_iff_eq] at hc
        obtain ⟨rfl, hc⟩ := hc
        split at hc
        · rename_i ti hti
          exact Lib.run_to_unsafe w ⟨p.g, 0, none⟩ hs hd hti (by simpa using hc) hsh hpos
        · simp at hc
      · rename_i u hs hd
        simp only [Bool.and_eq_true, beq_iff_eq] at hc
        obtain ⟨⟨rfl, hc⟩, hcz⟩ := hc
        split at hc
        · rename_i ti hti
          refine Lib.run_from_unsafe w ⟨p.g, 0, none⟩ hs hd hti hsh (liesAt_self (by omega) _ ?_)
          rw [hcs, g3, hosz, ← hcz, Nat.mul_div_cancel _ (by omega)]
          exact hcap
        · simp at hc
      · simp at hc
  · rename_i g as ats hop
    simp only [Bool.and_eq_true] at hc
    obtain ⟨hfn, hx⟩ := hc
    split at hfn
    · rename_i fn hfn'
      split at hx
      · rename_i x' has
        have hr := opd_sound hf hx h1
        refine pure_of (u := a.eval x') ?_ hr
        obtain ⟨e1, e2⟩ := noEsc_find hfn
        have hb : fn.body.isNone = true := by simp only [isNoEsc, Bool.and_eq_true] at hfn; exact hfn.1.1
        have hnm : (fn.name == "runtime.NumGoroutine") = false := by
          simp only [isNoEsc, Bool.and_eq_true, beq_iff_eq] at hfn; rw [hfn.1.2]; decide
        have hcall := run_callFunc_extern hfn' hnm hb e2 e1 #[a.eval x'] w
        have has' : as = #[x'] := by rw [← Array.toList_inj]; exact has
        subst has'
        simp [execOp, hop, resolve, Deferred.ofValue, invoke, Go.Act.eval] at hcall ⊢
        rw [hcall]
        rfl
      · simp at hx
    · simp at hfn
  · simp at hc

/-! ### unsafe.SliceData, unsafe.String -/
def chkSdat (P : Program) (o : Oper) (x : Opd) : Bool := match o.op with
  | .call { callee := .builtin .unsafeSliceData, args := as, argTypes := _ } => chkArgs as.toList [x] && (match P.underlying o.type with | some (.pointer _) => true | _ => false)
  | _ => false
def chkUstr (P : Program) (o : Oper) (ty : Nat) (x n : Opd) : Bool := match o.op with
  | .call { callee := .builtin .unsafeString, args := as, argTypes := ts } => chkArgs as.toList [x, n] && (match ts.toList with | [pt, _] => (match P.underlying pt with | some (.pointer e) => e == ty && P.cellsOf e == 1 | _ => false) | _ => false)
  | _ => false
theorem post_jk {q : Option Addr} (hm : Mem B F ρ s.ob w) (hf : Fr F ρ s.ob s.fr a) (hb : Below w.heap.size w w') : Post B F w s.fr a s.ob (.ot .jk) (.pointer q) w' :=
  ⟨F, ρ, hm.below hb, hf, ⟨q, rfl⟩, .refl F, hb.mono hm.big, fun _ _ h => .inl h⟩
theorem does_sdat_nil {z : Nat} {x : Opd} (hm : Mem B F ρ s.ob w) (hf : Fr F ρ s.ob s.fr a) (hc : chkSdat P o x = true) (h1 : s.opd x = some (.nil z)) : Does P o a w (Post B F w s.fr a s.ob (.ot .jk)) := by
  unfold chkSdat at hc
  split at hc
  · rename_i as ts hop
    simp only [Bool.and_eq_true] at hc
    obtain ⟨has, ht⟩ := hc
    obtain ⟨x', rfl, hx⟩ := chkArgs_one has
    have hv : a.eval x' = .slice none 0 0 := opd_sound hf hx h1
    refine does_value (w' := w) (u := .pointer none) ?_ (post_jk hm hf (.refl _ _))
    have := Lib.run_unsafeSliceData_nil (P := P) w ts o.type 0 0
    simp [execOp, hop, resolve, invoke, builtin, hv, this]
  · simp at hc
theorem does_sdat {x : Opd} {key n : Nat} {o0 : Obj} (hm : Mem B F ρ s.ob w) (hf : Fr F ρ s.ob s.fr a) (hc : chkSdat P o x = true) (h1 : s.opd x = some (.sl key n 0 n)) (hob : get s.ob key = some o0) (hl : o0.rows.length = n) :
    Does P o a w (Post B F w s.fr a s.ob (if n = 0 then .ot .jk else .loc key 0 0)) := by
  unfold chkSdat at hc
  split at hc
  · rename_i as ts hop
    simp only [Bool.and_eq_true] at hc
    obtain ⟨has, ht⟩ := hc
    obtain ⟨x', rfl, hx⟩ := chkArgs_one has
    have hr := opd_sound hf hx h1
    have hs := (hr.2 o0 hob).2 hl (by omega)
    have key_ : ∀ v u w1, a.eval x' = v → (Builtin.unsafeSliceData_ ts o.type #[v]).run P w = .ok u w1 → (execOp a.eval o).run P w = .ok (.value u) w1 := by
      intro v u w1 hv hrun
      simp [execOp, hop, resolve, invoke, builtin, hv, hrun]
    unfold SlR at hs
    split at hs
    · obtain ⟨rfl, hv⟩ := hs
      refine does_value (key_ _ _ _ hv (Lib.run_unsafeSliceData_nil w _ _ _ _)) ?_
      rw [if_pos rfl]
      exact post_jk hm hf (.refl _ _)
    · rename_i p hρ
      obtain ⟨hcap, b, hv, hb⟩ := hs
      obtain rfl := hb (.inr rfl)
      obtain ⟨_, _, _, _, cs, et, hh, _⟩ := hm.cells hr.1 hob hρ
      by_cases hc0 : p.cap - 0 = 0
      · rw [hc0] at hv
        split at ht
        · rename_i e he
          refine does_value (key_ _ _ _ hv (Lib.run_unsafeSliceData_zero w _ _ e he _ _ (et, cs.size) (by simp [World.shape?, hh]))) ?_
          rw [if_pos (by omega)]
          exact post_jk hm hf ((Below.refl _ _).alloc (Nat.le_refl _) _)
        · simp at ht
      · refine does_value (key_ _ _ _ hv (Lib.run_unsafeSliceData_row w _ _ _ _ _ hc0)) ?_
        split
        · exact post_jk hm hf (.refl _ _)
        · exact ⟨F, ρ, hm, hf, ⟨hr.1, fun o' ho' => ⟨p, hρ, by simp⟩⟩, .refl B F w⟩
  · simp at hc
theorem freeze_heap (w : World) (ad : Addr) (n k : Nat) (hk : k ≠ ad.block) : (w.freeze ad n).heap[k]? = w.heap[k]? := by
  unfold World.freeze
  split
  · rfl
  · simp [Array.getElem?_modify, Ne.symm hk]
theorem freeze_rest (w : World) (ad : Addr) (n : Nat) : (w.freeze ad n).os = w.os ∧ (w.freeze ad n).tape = w.tape ∧ (w.freeze ad n).output = w.output ∧ (w.freeze ad n).heap.size = w.heap.size := by
  unfold World.freeze
  split <;> simp
/-- An object is no more; its block may be anything. -/
theorem Mem.drop1 {key : Nat} {o0 : Obj} {p : Place} (hm : Mem B F ρ ob w) (hob : get ob key = some o0) (hρ : ρ key = some p) (hsize : w.heap.size ≤ w'.heap.size) (hblk : ∀ k, k < w.heap.size → k ≠ p.g → w'.heap[k]? = w.heap[k]?) : Mem B F ρ (del ob key) w' := by
  have hs : ∀ k o, get (del ob key) k = some o → k ≠ key ∧ get ob k = some o := by
    intro k o h
    rw [get_del] at h
    split at h
    · simp at h
    · rename_i hk; exact ⟨hk, h⟩
  exact {
    facts := ⟨fun ad u hu => by
      have h0 := hm.facts ad u hu
      rw [World.cell?_of_block (hblk _ (cell?_lt h0) (hm.apart key o0 p hob hρ ad u hu))]; exact h0, hm.facts.glob⟩
    big := Nat.le_trans hm.big hsize
    bare := fun k o h => hm.bare k o (hs k o h).2
    own := fun k o q h1 h2 => by
      obtain ⟨hk, h1⟩ := hs k o h1
      obtain ⟨g1, g2⟩ := hm.own k o q h1 h2
      rw [hblk _ (hm.lt h1 h2) fun he => hk (hm.inj k o q key o0 p h1 h2 hob hρ he)]
      exact ⟨g1, g2.imp fun r hr x hx v hv => hv.sub fun k o h => (hs k o h).2⟩
    apart := fun k o q h1 h2 => hm.apart k o q (hs k o h1).2 h2
    inj := fun k o q k' o' q' h1 h2 h3 h4 => hm.inj k o q k' o' q' (hs k o h1).2 h2 (hs k' o' h3).2 h4 }
theorem does_ustr_jk {ty : Nat} {x n : Opd} (hm : Mem B F ρ s.ob w) (hf : Fr F ρ s.ob s.fr a) (hc : chkUstr P o ty x n = true) (h1 : s.opd x = some (.ot .jk)) (h2 : s.opd n = some (.c (.int .i64 0))) : Does P o a w (Post B F w s.fr a s.ob (.c (.str []))) := by
  unfold chkUstr at hc
  split at hc
  · rename_i as ts hop
    simp only [Bool.and_eq_true] at hc
    obtain ⟨has, hts⟩ := hc
    obtain ⟨l⟩ := as
    obtain ⟨tl⟩ := ts
    match l, has with
    | [x', n'], has =>
      simp only [chkArgs, Bool.and_true, Bool.and_eq_true] at has
      split at hts
      · rename_i pt it htl
        simp only at htl; subst htl
        have hn := DR.int_ (opd_sound hf has.2 h2)
        obtain ⟨q, hq⟩ := opd_sound hf has.1 h1
        have hrun := Lib.run_unsafeString_none (P := P) w pt it o.type q
        refine does_value (w' := w) (u := .string .empty) ?_ ⟨F, ρ, hm, hf, DR.str [], .refl F, .refl B w, fun _ _ h => .inl h⟩
        simp [execOp, hop, resolve, invoke, builtin, hq, hn, hrun]
      · simp at hts
    | [], has => simp [chkArgs] at has
    | [_], has => simp [chkArgs] at has
    | _ :: _ :: _ :: _, has => simp [chkArgs] at has
  · simp at hc
theorem does_ustr {ty key : Nat} {x n : Opd} {o0 : Obj} {rows : List (List D)} (hm : Mem B F ρ s.ob w) (hf : Fr F ρ s.ob s.fr a) (hc : chkUstr P o ty x n = true) (h1 : s.opd x = some (.loc key 0 0)) (h2 : s.opd n = some (.c (.int .i64 o0.rows.length)))
    (hob : get s.ob key = some o0) (hrows : allRows o0.rows = some rows) (hpos : 0 < o0.rows.length) (h63 : (o0.rows.length : Int) ≤ 9223372036854775807) (hsz : o0.sz = 1) (hKT : KT ≤ key) (hty : key / KT = ty + 1) (hu8 : rows.all isByte = true) :
    Does P o a w (Post B F w s.fr a (del s.ob key) (.c (.str (rows.map u8of)))) := by
  unfold chkUstr at hc
  split at hc
  · rename_i as ts hop
    simp only [Bool.and_eq_true] at hc
    obtain ⟨has, hts⟩ := hc
    obtain ⟨l⟩ := as
    obtain ⟨tl⟩ := ts
    match l, has with
    | [x', n'], has =>
      simp only [chkArgs, Bool.and_true, Bool.and_eq_true] at has
      split at hts
      · rename_i pt it htl
        simp only at htl; subst htl
        split at hts
        · rename_i e he
          simp only [Bool.and_eq_true, beq_iff_eq] at hts
          obtain ⟨rfl, hce⟩ := hts
          have hr := opd_sound hf has.1 h1
          have hn := DR.int_ (opd_sound hf has.2 h2)
          obtain ⟨p, hρ, hv⟩ := hr.2 o0 hob
          obtain ⟨gB, g2, g3, g4, cs, et, hh, g5, g6⟩ := hm.cells hr.1 hob hρ
          have het := hm.typed hr.1 hob hρ hKT _ _ _ hh
          have hpo := hm.typed0 hr.1 hob hρ hKT
          have het : et = e := Nat.succ.inj (het.trans hty)
          subst het
          have hp1 : p.sz = 1 := by rw [g3, hsz]
          have hl := (allRows_get hrows).1
          have hrun := Lib.run_unsafeString_row (P := P) w pt it o.type et he hce p.g cs.size (by simp [World.shape?, hh]) (rows.map u8of) (by intro h0; simp only [List.map_eq_nil_iff] at h0; rw [h0] at hl; rw [hl] at hpos; simp at hpos) (by rw [g5, hp1, Nat.mul_one, hpo]; simp; omega) (by simp; omega) ?_
          · refine does_value (w' := w.freeze ⟨p.g, 0, none⟩ (rows.map u8of).length) (u := .string ⟨(rows.map u8of).toArray⟩) ?_ ⟨F, ρ, hm.drop1 hob hρ ?_ ?_, hf.sub fun k o h => ?_, DR.str _, .refl F, ?_, fun _ _ h => .inl h⟩
            · have hlen : ((rows.map u8of).length : Int) = o0.rows.length := by simp; omega
              rw [hlen] at hrun
              simp only [hpo, Nat.zero_mul, Nat.zero_add, Nat.add_zero] at hv
              simp [execOp, hop, resolve, invoke, builtin, hv, hn, hrun]
            · rw [(freeze_rest w _ _).2.2.2]; exact Nat.le_refl _
            · exact fun k _ hk => freeze_heap w _ _ k hk
            · rw [get_del] at h; split at h
              · simp at h
              · exact h
            · obtain ⟨f1, f2, f3, f4⟩ := freeze_rest w ⟨p.g, 0, none⟩ (rows.map u8of).length
              exact ⟨f1, f2, f3, by rw [f4]; exact Nat.le_refl _, fun k hk => freeze_heap w _ _ k (by simp; omega)⟩
          · intro j u hj
            simp only [List.getElem?_map, Option.map_eq_some_iff] at hj
            obtain ⟨r, hrj, rfl⟩ := hj
            obtain ⟨r', hr', hall⟩ := (allRows_get hrows).2 j r hrj
            have hr8 := List.all_eq_true.1 hu8 r (List.mem_of_getElem? hrj)
            unfold isByte at hr8
            split at hr8
            · rename_i m
              simp only [decide_eq_true_eq] at hr8
              obtain ⟨y, hy, hyd⟩ := (allD_get hall).2 0 _ rfl
              obtain ⟨v, hv2, har, _⟩ := hm.cell hr.1 hob hρ hr' hy
              have hvd := AR.cell_data hyd har
              rw [Addr.add_mk, Nat.zero_add]
              rw [hp1, Nat.mul_one, Nat.add_zero, hpo, Nat.zero_add] at hv2
              rw [hv2, DR.int_ hvd]
              simp only [u8of]
              have : ((UInt8.ofNat m.toNat).toNat : Int) = m := by simp; omega
              rw [this]
            · simp at hr8
        · simp at hts
      · simp at hts
    | [], has => simp [chkArgs] at has
    | [_], has => simp [chkArgs] at has
    | _ :: _ :: _ :: _, has => simp [chkArgs] at has
  · simp at hc

/-! ### Keys of maps -/
def flatTy (P : Program) (t : TypeId) : Bool := match P.underlying t with | some (.int _) | some .string | some .bool => true | _ => false
def keyOk (P : Program) (t : TypeId) (ks : KK) : Bool := decide (kinds P 8 t = some ks.2) && aggr P t == ks.1 && (flatTy P t || (match P.underlying t with | some (.struct fs) => fs.toList.all (fun f => f.name != "_" && flatTy P f.type && sized P f.type 1) | _ => false))
theorem checkKey_flat {t : TypeId} (h : flatTy P t = true) (em : Bool) (n : Nat) {d : D} {v : Value} (hd : DR F d v) (w : World) : (Instr.checkKey em (n + 1) t v).run P w = .ok () w := by
  unfold flatTy at h
  split at h
  · rename_i k hk; unfold Instr.checkKey; cases hd <;> simp [run_underlying hk]
  · rename_i hk; unfold Instr.checkKey; cases hd <;> simp [run_underlying hk]
  · rename_i hk; unfold Instr.checkKey; cases hd <;> simp [run_underlying hk]
  · simp at h
/-- A key's cells; its value. -/
def AV.kcells : AV → List D
  | .c d => [d]
  | .agg ds => ds
  | _ => []
theorem key_val {t : TypeId} {ks : KK} (hk : keyOk P t ks = true) {x : AV} {v : Value} (hx : kOk ks x = true) (hr : AR F ρ ob x v) : ∃ vs, All2 (DR F) x.kcells vs ∧ v = valOf P t vs ∧ x.kcells.length = ks.2.length ∧ eqKs ks.2 x.kcells x.kcells ≠ none := by
  simp only [keyOk, Bool.and_eq_true, beq_iff_eq] at hk
  obtain ⟨⟨_, hag⟩, _⟩ := hk
  unfold kOk mkeq at hx
  split at hx
  · rename_i d
    split at hx
    · simp at hx
    · rename_i hf
      have hag : aggr P t = false := by rw [hag]; simpa using hf
      rw [Option.isSome_iff_exists] at hx
      obtain ⟨b, hb⟩ := hx
      refine ⟨[v], .cons hr .nil, by simp [valOf, hag], (eqKs_length hb).1, by simp [AV.kcells, hb]⟩
  · rename_i ds
    split at hx
    · rename_i hf
      have hag : aggr P t = true := by rw [hag]; exact hf
      rw [Option.isSome_iff_exists] at hx
      obtain ⟨b, hb⟩ := hx
      obtain ⟨vs, rfl, hvs⟩ := hr
      exact ⟨vs, hvs, by simp [valOf, hag], (eqKs_length hb).1, by simp [AV.kcells, hb]⟩
    · simp at hx
  · simp at hx
theorem kinds_struct {n : Nat} {t : TypeId} {ks : List Kd} {fs : Array Field} (h : kinds P (n + 1) t = some ks) (ht : P.underlying t = some (.struct fs)) : kinds.kindsF (fun u => match kinds P n u with
        | some ks => if sized P u ks.length && !ks.isEmpty then some ks else none
        | none => none) fs.toList 0 = some ks := by
  rw [kinds] at h
  rw [ht] at h
  simp only at h
  split at h
  · simp at h
  · exact h
theorem run_checkKey {t : TypeId} {ks : KK} (hk : keyOk P t ks = true) {x : AV} {v : Value} (hx : kOk ks x = true) (hr : AR F ρ ob x v) (em : Bool) (w : World) : (Instr.checkKey em 10000 t v).run P w = .ok () w := by
  obtain ⟨vs, hvs, rfl, hlen, _⟩ := key_val hk hx hr
  simp only [keyOk, Bool.and_eq_true, beq_iff_eq, decide_eq_true_eq, Bool.or_eq_true] at hk
  obtain ⟨⟨hkd, hag⟩, hfl⟩ := hk
  rcases hfl with hfl | hfl
  · have ha : aggr P t = false := by
      unfold flatTy at hfl
      split at hfl
      all_goals first | (rename_i h; simp [aggr, h]; done) | (rename_i k h; simp [aggr, h]; done) | simp at hfl
    have h1 := (kinds_und hkd).2 ha
    rw [h1] at hlen
    match hc : x.kcells, vs, hvs, hlen with
    | [d], [v], .cons hd .nil, _ =>
      simp only [valOf, ha, Bool.false_eq_true, if_false, List.getD_cons_zero]
      exact checkKey_flat hfl em 9999 hd w
  · split at hfl
    · rename_i fs ht
      have ha : aggr P t = true := by simp [aggr, ht]
      simp only [valOf, ha, if_true]
      -- every field has its cell
      have hkd' := kinds_struct (n := 7) hkd ht
      have hoff : ∀ (L : List Field) (off : Nat) (ks' : List Kd) (g : TypeId → Option (List Kd)), (∀ u k, g u = some k → sized P u 1 = true → k.length = 1) → kinds.kindsF g L off = some ks' → (∀ f ∈ L, sized P f.type 1 = true) → off + ks'.length = vs.length → ∀ f ∈ L, f.offset < vs.length := by
        intro L
        induction L with
        | nil => intro off ks' g _ _ _ _ f hf; simp at hf
        | cons f0 L ih =>
          intro off ks' g hg hk1 hs hl f hf
          simp only [kinds.kindsF] at hk1
          split at hk1
          · rename_i hcond
            simp only [Bool.and_eq_true, beq_iff_eq] at hcond
            split at hk1
            · rename_i k1 hgk
              simp only [Option.map_eq_some_iff] at hk1
              obtain ⟨k2, hk2, rfl⟩ := hk1
              have h1 := hg _ _ hgk (hs f0 (by simp))
              rw [List.length_append, h1] at hl
              rcases List.mem_cons.1 hf with rfl | hf
              · rw [hcond.2]; omega
              · exact ih (off + k1.length) k2 g hg hk2 (fun f hf => hs f (by simp [hf])) (by rw [h1]; omega) f hf
            · simp at hk1
          · simp at hk1
      have hlv := hvs.length
      have hin := hoff fs.toList 0 ks.2 _ (fun u k hu hs => by
        split at hu
        · rename_i k' hk'
          split at hu
          · rename_i hc
            simp only [Option.some.injEq] at hu; subst hu
            simp only [Bool.and_eq_true] at hc
            obtain ⟨i1, h1, h2⟩ := sized_spec hc.1
            obtain ⟨i2, h3, h4⟩ := sized_spec hs
            rw [h1] at h3; simp only [Option.some.injEq] at h3; subst h3; omega
          · simp at hu
        · simp at hu) hkd' (fun f hf => by
          have := List.all_eq_true.1 hfl f hf
          simp only [Bool.and_eq_true] at this
          exact this.2) (by omega)
      rw [show (10000 : Nat) = 9999 + 1 from rfl, Instr.checkKey]
      simp only [Sem.run_bind, run_underlying ht, Result.andThen_ok]
      rw [← Array.forIn_toList]
      have deep : ∀ f ∈ fs.toList, f.name ≠ "_" ∧ flatTy P f.type = true ∧ f.offset < vs.length := fun f hf => by
        have := List.all_eq_true.1 hfl f hf
        simp only [Bool.and_eq_true, bne_iff_ne, ne_eq] at this
        exact ⟨this.1.1, this.1.2, hin f hf⟩
      generalize fs.toList = L at deep
      induction L with
      | nil => simp
      | cons f L ih =>
        obtain ⟨hn, hp, ho⟩ := deep f (by simp)
        have hf0 : aggr P f.type = false := by
          unfold flatTy at hp
          split at hp
          all_goals first | (rename_i h; simp [aggr, h]; done) | (rename_i k h; simp [aggr, h]; done) | simp at hp
        have hpart : (Go.part f.type vs.toArray f.offset).run P w = .ok (vs[f.offset]) w := by
          have hs : agOk P f.type false = true := by
            simp only [agOk, Bool.false_eq_true, if_false, scalar]
            unfold flatTy at hp; split at hp <;> simp_all
          unfold Go.part
          simp only [Sem.run_bind, run_isAgg hs, Result.andThen_ok, Bool.false_eq_true, if_false]
          have : vs.toArray[f.offset]? = some vs[f.offset] := by simp [ho]
          rw [this]; simp
        have hcl : f.offset < x.kcells.length := by omega
        obtain ⟨u, hu, hd⟩ := hvs.get? f.offset (x.kcells[f.offset]) (List.getElem?_eq_getElem hcl)
        have hu' : vs[f.offset] = u := by
          rw [List.getElem?_eq_getElem ho] at hu; simpa using hu
        have hck := checkKey_flat hp em 9998 hd w
        simp only [List.forIn_cons, Sem.run_bind, hn, ne_eq, not_false_eq_true, if_true, Result.andThen_ok, hpart, hu', hck, Sem.run_pure]
        exact ih (fun y hy => deep y (by simp [hy]))
    · simp at hfl
/-! ### What a map holds -/
theorem DR.flat_eq {d : D} {u v : Value} {k : Kd} {x : D} {b : Bool} (h : eqK k d x = some b) (h1 : DR F d u) (h2 : DR F d v) : u = v := by
  cases k <;> cases d <;> cases x <;> simp only [eqK, reduceCtorEq] at h <;> cases h1 <;> cases h2 <;> rfl
theorem eqK_true {k : Kd} {x y : D} (h : eqK k x y = some true) : x = y := by
  cases k <;> cases x <;> cases y <;> simp only [eqK, reduceCtorEq] at h
  · split at h
    · rename_i hk
      simp only [Option.some.injEq, decide_eq_true_eq] at h
      rw [hk.1, hk.2, h]
    · simp at h
  · simpa using h
  · simpa using h
theorem eqKs_true : ∀ {ks : List Kd} {xs ys : List D}, eqKs ks xs ys = some true → xs = ys
  | [], [], [], _ => rfl
  | k :: ks, x :: xs, y :: ys, h => by
    simp only [eqKs] at h
    split at h
    · rename_i p q hp hq
      simp only [Option.some.injEq, Bool.and_eq_true] at h
      obtain ⟨rfl, rfl⟩ := h
      rw [eqK_true hp, eqKs_true hq]
    · simp at h
  | [], [], _ :: _, h => by simp [eqKs] at h
  | [], _ :: _, _, h => by simp [eqKs] at h
  | _ :: _, [], _, h => by simp [eqKs] at h
  | _ :: _, _ :: _, [], h => by simp [eqKs] at h
theorem vals_eq : ∀ {ks : List Kd} {xs ys : List D} {b : Bool} {us vs : List Value}, eqKs ks xs ys = some b → All2 (DR F) xs us → All2 (DR F) xs vs → us = vs
  | [], [], _, _, us, vs, _, h1, h2 => by cases h1; cases h2; rfl
  | k :: ks, x :: xs, y :: ys, b, us, vs, h, h1, h2 => by
    simp only [eqKs] at h
    split at h
    · rename_i p q hp hq
      cases h1 with
      | cons a1 b1 => cases h2 with
        | cons a2 b2 => rw [DR.flat_eq hp a1 a2, vals_eq hq b1 b2]
    · simp at h
  | [], _ :: _, ys, _, _, _, h, _, _ => by cases ys <;> simp [eqKs] at h
  | _ :: _, [], _, _, _, _, h, _, _ => by simp [eqKs] at h
  | _ :: _, _ :: _, [], _, _, _, h, _, _ => by simp [eqKs] at h
theorem mkeq_cells {ks : KK} {x y : AV} {b : Bool} (h : mkeq ks x y = some b) : eqKs ks.2 x.kcells y.kcells = some b ∧ (b = true → x = y) := by
  unfold mkeq at h
  split at h
  · split at h
    · simp at h
    · exact ⟨h, fun hb => by subst hb; have := eqKs_true h; simp at this; rw [this]⟩
  · split at h
    · exact ⟨h, fun hb => by subst hb; rw [eqKs_true h]⟩
    · simp at h
  · simp at h
theorem mkeq_ok {ks : KK} {x y : AV} {b : Bool} (hx : kOk ks x = true) (h : mkeq ks x y = some b) : mkeq ks x x ≠ none := by
  unfold kOk at hx; intro h0; rw [h0] at hx; simp at hx
/-- The same key has the same value. -/
theorem key_same {t : TypeId} {ks : KK} (hk : keyOk P t ks = true) {x : AV} {u v : Value} (hx : kOk ks x = true) (h1 : AR F ρ ob x u) (h2 : AR F ρ ob x v) : u = v := by
  obtain ⟨us, a1, rfl, _, hne⟩ := key_val hk hx h1
  obtain ⟨vs, a2, rfl, _, _⟩ := key_val hk hx h2
  cases he : eqKs ks.2 x.kcells x.kcells with
  | none => exact (hne he).elim
  | some b => rw [vals_eq he a1 a2]
/-- Keys, asked by the model. -/
theorem key_equal {t : TypeId} {ks : KK} (hk : keyOk P t ks = true) {x y : AV} {u v : Value} {b : Bool} (hx : kOk ks x = true) (hy : ∃ us, All2 (DR F) y.kcells us ∧ v = valOf P t us) (h : mkeq ks x y = some b) (h1 : AR F ρ ob x u) (w : World) :
    (Op.equal t u v).run P w = .ok b w := by
  obtain ⟨us, a1, rfl, _, _⟩ := key_val hk hx h1
  obtain ⟨vs, a2, rfl⟩ := hy
  simp only [keyOk, Bool.and_eq_true, decide_eq_true_eq] at hk
  have := kinds_sound (F := F) 8 t ks.2 9992 hk.1.1 x.kcells y.kcells us vs b w a1 a2 (mkeq_cells h).1
  exact this
theorem key_other {t : TypeId} {ks : KK} (hk : keyOk P t ks = true) {x y : AV} {v : Value} {b : Bool} (h : mkeq ks x y = some b) (hr : AR F ρ ob y v) : ∃ us, All2 (DR F) y.kcells us ∧ v = valOf P t us := by
  simp only [keyOk, Bool.and_eq_true, beq_iff_eq] at hk
  unfold mkeq at h
  split at h
  · split at h
    · simp at h
    · rename_i hf
      exact ⟨[v], .cons hr .nil, by simp [valOf, hk.1.2, hf]⟩
  · split at h
    · rename_i hf
      obtain ⟨vs, rfl, hvs⟩ := hr
      exact ⟨vs, hvs, by simp [valOf, hk.1.2, hf]⟩
    · simp at h
  · simp at h
theorem key_now {t : TypeId} {ks : KK} {desc : TypeDesc} (hd : P.underlying t = some desc) (hk : keyOk P t ks = true) (hf : flatTy P t = true) {x y : AV} {u v : Value} {b : Bool} (h : mkeq ks x y = some b) (h1 : AR F ρ ob x u) (h2 : AR F ρ ob y v) : Instr.sameNow desc u v = some b := by
  simp only [keyOk, Bool.and_eq_true, beq_iff_eq, decide_eq_true_eq] at hk
  obtain ⟨⟨hkd, hag⟩, _⟩ := hk
  have ha : aggr P t = false := by
    unfold flatTy at hf
    split at hf
    all_goals first | (rename_i h; simp [aggr, h]; done) | simp at hf
  unfold mkeq at h
  split at h
  · split at h
    · simp at h
    · have hl := eqKs_length h
      rename_i d d' _
      have h1 : DR F d u := h1
      have h2 : DR F d' v := h2
      unfold flatTy at hf
      rw [hd] at hf
      match hks : ks.2, hl.1 with
      | [k], _ =>
        rw [hks] at h
        simp only [eqKs] at h
        cases hq : eqK k d d' with
        | none => rw [hq] at h; simp at h
        | some q =>
          rw [hq] at h
          simp only [Bool.and_true, Option.some.injEq] at h
          subst h
          rw [hks] at hkd
          have hkk : kinds P (7 + 1) t = some [k] := hkd
          rw [kinds, hd] at hkk
          cases desc <;> simp only [Bool.false_eq_true] at hf <;> simp only [Option.some.injEq, List.cons.injEq, and_true] at hkk <;> subst hkk <;> cases d <;> cases d' <;> simp only [eqK, reduceCtorEq] at hq <;> cases h1 <;> cases h2
          · simp only [Option.some.injEq] at hq; subst hq; simp [Instr.sameNow]; rfl
          · split at hq
            · rename_i hkk
              obtain ⟨rfl, rfl⟩ := hkk
              simp only [Option.some.injEq] at hq; subst hq; simp [Instr.sameNow]; rfl
            · simp at hq
          · simp only [Option.some.injEq] at hq; subst hq
            simp only [Instr.sameNow, Option.some.injEq]
            rw [Bool.eq_iff_iff, MapKept.bytes_beq]
            simp
  · split at h
    · rename_i hag2; rw [ha] at hag; rw [← hag] at hag2; simp at hag2
    · simp at h
  · simp at h
theorem mfind_run {t : TypeId} {ks : KK} {desc : TypeDesc} (hd : P.underlying t = some desc) (hk : keyOk P t ks = true) {k : AV} {kv : Value} (hx : kOk ks k = true) (hkv : AR F ρ ob k kv) (w : World) : ∀ (rows : Rows) (es : List MapEntry) (i : Nat) (r : Option (Nat × AV)),
    es.length = rows.length → (∀ (j : Nat) (row : List AV), rows[j]? = some row → ∃ e k' v, es[j]? = some e ∧ row = [.c (.int .i64 e.born), k', v] ∧ AR F ρ ob k' e.key ∧ AR F ρ ob v e.val) → mfind ks k rows i = some r →
    ∃ q, (Instr.findAsking t kv es i).run P w = .ok q w ∧ (flatTy P t = true → Instr.findNow desc kv es i = some q) ∧ (∀ j v, r = some (j, v) → ∃ e k', q = some (j, e.val) ∧ i ≤ j ∧ es[j - i]? = some e ∧ AR F ρ ob v e.val ∧ rows[j - i]? = some [.c (.int .i64 e.born), k', v] ∧ e.key = kv ∧ k' = k) ∧ (r = none → q = none)
  | [], es, i, r, hl, _, h => by
    simp only [mfind, Option.some.injEq] at h; subst h
    have : es = [] := List.eq_nil_of_length_eq_zero (by simpa using hl)
    subst this
    exact ⟨none, by simp [Instr.findAsking], fun _ => rfl, fun _ _ h => by simp at h, fun _ => rfl⟩
  | row :: rows, [], i, r, hl, _, h => by simp at hl
  | row :: rows, e :: es, i, r, hl, hr, h => by
    obtain ⟨e', k', v, he, rfl, h1, h2⟩ := hr 0 row rfl
    simp only [List.getElem?_cons_zero, Option.some.injEq] at he; subst he
    simp only [mfind] at h
    split at h
    · rename_i hm
      simp only [Option.some.injEq] at h; subst h
      have hq := key_equal hk hx (key_other hk hm h1) hm hkv w
      have hkk := (mkeq_cells hm).2 rfl
      subst hkk
      refine ⟨some (i, e.val), by simp [Instr.findAsking, hq], fun hf => by simp [Instr.findNow, key_now hd hk hf hm hkv h1], fun j v' h => ?_, fun h => by simp at h⟩
      simp only [Option.some.injEq, Prod.mk.injEq] at h
      obtain ⟨rfl, rfl⟩ := h
      exact ⟨e, k, rfl, Nat.le_refl _, by simp, h2, by simp, key_same hk hx h1 hkv, rfl⟩
    · rename_i hm
      have hq := key_equal hk hx (key_other hk hm h1) hm hkv w
      obtain ⟨q, g1, g2, g3, g4⟩ := mfind_run hd hk hx hkv w rows es (i + 1) r (by simpa using hl) (fun j row hj => hr (j + 1) row (by simpa using hj)) h
      refine ⟨q, by simp [Instr.findAsking, hq, g1], fun hf => by simp [Instr.findNow, key_now hd hk hf hm hkv h1, g2 hf], fun j v2 hj => ?_, g4⟩
      obtain ⟨e2, k2, a1, a2, a3, a4, a5, a6⟩ := g3 j v2 hj
      refine ⟨e2, k2, a1, by omega, ?_, a4, ?_, a6⟩
      · rw [show j - i = (j - (i + 1)) + 1 by omega]; simpa using a3
      · rw [show j - i = (j - (i + 1)) + 1 by omega]; simpa using a5
    · simp at h
/-- Whichever way the model asks. -/
theorem findKey_run {t : TypeId} {ks : KK} {desc : TypeDesc} (hd : P.underlying t = some desc) (hk : keyOk P t ks = true) {kv : Value} {es : List MapEntry} {q : Option (Nat × Value)} (h : (Instr.findAsking t kv es).run P w = .ok q w) (hn : flatTy P t = true → Instr.findNow desc kv es 0 = some q) :
    (Instr.findKey t kv es).run P w = .ok q w := by
  simp only [Instr.findKey, Sem.run_bind, run_underlying hd, Result.andThen_ok]
  cases hf : flatTy P t with
  | true => rw [hn hf]; simp
  | false =>
    simp only [keyOk, hf, Bool.false_or, Bool.and_eq_true] at hk
    have hst := hk.2
    rw [hd] at hst
    cases desc <;> simp only [Bool.false_eq_true] at hst
    cases es with
    | nil => simp only [Instr.findNow]; simp [Instr.findAsking] at h; subst h; simp
    | cons e es => simp only [Instr.findNow, Instr.sameNow]; exact h

/-! ### Operations on maps -/
theorem mk_le : MK ≤ 2 * MK := by omega
theorem Mem.map (hm : Mem B F ρ ob w) {key : Nat} {o : Obj} {p : Place} (h1 : MK ≤ key) (h2 : key < 2 * MK) (hob : get ob key = some o) (hρ : ρ key = some p) : B ≤ p.g ∧ MapC F ρ ob w.heap[p.g]? o :=
  ⟨(hm.own key o p hob hρ).1, (hm.own key o p hob hρ).2.2.1 h1 h2⟩
def setB (w : World) (g : Nat) (x : Go.Obj) : World := { w with heap := w.heap.setIfInBounds g x }
theorem setB_same {w : World} {g : Nat} {x y : Go.Obj} (h : w.heap[g]? = some y) : (setB w g x).heap[g]? = some x := by
  have hlt : g < w.heap.size := (Array.getElem?_eq_some_iff.1 h).1
  simp [setB, hlt]
theorem setB_other {w : World} {g k : Nat} {x : Go.Obj} (h : k ≠ g) : (setB w g x).heap[k]? = w.heap[k]? := by simp [setB, Ne.symm h]
theorem setB_size {w : World} {g : Nat} {x : Go.Obj} : (setB w g x).heap.size = w.heap.size := by simp [setB]
theorem setB_below {g : Nat} {x : Go.Obj} (hB : B ≤ g) : Below B w (setB w g x) := ⟨rfl, rfl, rfl, by rw [setB_size]; exact Nat.le_refl _, fun k hk => setB_other (by omega)⟩
/-- A map (an iterator) changes in place. -/
theorem map_post {key : Nat} {o0 o1 : Obj} {p : Place} {x y : Go.Obj} (hm : Mem B F ρ s.ob w) (hf : Fr F ρ s.ob s.fr a) (hK : MK ≤ key) (hob : get s.ob key = some o0) (hρ : ρ key = some p) (hy : w.heap[p.g]? = some y)
    (hC : ∀ (F' : Facts) (ρ' : Map) (ob' : List (Nat × Obj)), (∀ x v, AR F ρ s.ob x v → AR F' ρ' ob' x v) → Cont F' ρ' ob' (some x) key o1 p) {v : AV} {u : Value} (hv : AR F ρ s.ob v u) : Post B F w s.fr a (s.obj key o1).ob v u (setB w p.g x) := by
  have he : updM ρ key (some p) = ρ := by
    funext k; unfold updM; split
    · rename_i hk; subst hk; exact hρ.symm
    · rfl
  have hkeep : ∀ {x : AV} {v : Value}, AR F ρ s.ob x v → AR F (updM ρ key (some p)) (s.obj key o1).ob x v := by
    intro x v hx
    rw [he]
    refine hx.same fun k o' ho' => ?_
    by_cases hk : k = key
    · subst hk; exact ⟨o0, hob, fun h => by omega⟩
    · rw [obj_other hk] at ho'; exact ⟨o', ho', fun _ => rfl⟩
  have g1 := (hm.own key o0 p hob hρ).1
  refine ⟨F, updM ρ key (some p), ?_, fun i v hi => hkeep (hf i v hi), hkeep hv, .refl F, setB_below g1, fun _ _ h => .inl h⟩
  refine Mem.changeC hm g1 (.inl ⟨o0, p, hob, hρ, rfl⟩) (by rw [setB_size]; exact Nat.le_refl _) (fun k _ hne => setB_other hne) (fun k o hk ho r hr x hx v hv => hkeep hv) ?_
  rw [setB_same hy]
  exact hC _ _ _ fun x v hv => hkeep hv
/-- A new map (iterator). -/
theorem map_new {key : Nat} {o1 : Obj} {x : Go.Obj} (hm : Mem B F ρ s.ob w) (hf : Fr F ρ s.ob s.fr a) (hfree : s.free key = true)
    (hC : ∀ (F' : Facts) (ρ' : Map) (ob' : List (Nat × Obj)), (∀ x v, x.names key = false → AR F ρ s.ob x v → AR F' ρ' ob' x v) → Cont F' ρ' ob' (some x) key o1 ⟨w.heap.size, 0, 0, 0⟩) :
    Mem B F (updM ρ key (some ⟨w.heap.size, 0, 0, 0⟩)) (s.obj key o1).ob (w.alloc x) ∧ Fr F (updM ρ key (some ⟨w.heap.size, 0, 0, 0⟩)) (s.obj key o1).ob s.fr a := by
  obtain ⟨hT, hFr⟩ := free_ar (F := F) (ρ := ρ) (a := a) (o' := o1) (p' := some ⟨w.heap.size, 0, 0, 0⟩) hfree
  refine ⟨?_, hFr hf⟩
  refine Mem.changeC hm hm.big (.inr (Nat.le_refl _)) (by simp) (fun k hk _ => Below.heap_alloc w _ k hk) hT ?_
  rw [heap_alloc_new]
  exact hC _ _ _ fun x v hx hv => hv.upd hx (fun k hk => updM_other _ hk) (fun k hk => obj_other hk)
def mapTy (P : Program) (t : TypeId) (ks : KK) : Bool := match P.underlying t with | some (.map k _) => keyOk P k ks && (P.underlying k).isSome | _ => false
theorem mapTy_spec {t : TypeId} {ks : KK} (h : mapTy P t ks = true) : ∃ k e d, P.underlying t = some (.map k e) ∧ keyOk P k ks = true ∧ P.underlying k = some d := by
  unfold mapTy at h
  split at h
  · rename_i k e ht
    simp only [Bool.and_eq_true] at h
    obtain ⟨d, hd⟩ := Option.isSome_iff_exists.1 h.2
    exact ⟨k, e, d, ht, h.1, hd⟩
  · simp at h
def elemZero (P : Program) (t : TypeId) (zero : AV) : Bool := match P.underlying t with | some (.map _ e) => zeroOk P e (fun z => cst zero z) | _ => false
def chkMmk (o : Oper) : Bool := match o.op with | .makeMap _ none => true | _ => false
def chkMget (P : Program) (o : Oper) (ks : KK) (zero : AV) (ok : Bool) (x i : Opd) : Bool := match o.op with
  | .lookup t x' i' ok' => mapTy P t ks && elemZero P t zero && ok == ok' && chkO x' x && chkO i' i
  | _ => false
def chkMset (P : Program) (o : Oper) (ks : KK) (x i v : Opd) : Bool := match o.op with
  | .mapUpdate t x' i' v' => mapTy P t ks && chkO x' x && chkO i' i && chkO v' v && o.dst.isNone
  | .insert t x' i' v' => mapTy P t ks && chkO x' x && chkO i' i && chkO v' v && o.dst.isNone
  | _ => false
def chkMent (P : Program) (o : Oper) (ks : KK) (zero : AV) (x i : Opd) : Bool := match o.op with
  | .mapEntry t x' i' => mapTy P t ks && elemZero P t zero && chkO x' x && chkO i' i
  | _ => false
def chkMest (o : Oper) (x i v : Opd) : Bool := match o.op with
  | .entryStore _ x' i' v' => chkO x' x && chkO i' i && chkO v' v && o.dst.isNone
  | _ => false
def chkMdel (P : Program) (o : Oper) (ks : KK) (x i : Opd) : Bool := match o.op with
  | .call { callee := .builtin .delete, args := as, argTypes := ts } => chkArgs as.toList [x, i] && (match ts.toList with | t :: _ => mapTy P t ks | [] => false)
  | _ => false
def chkMlen (P : Program) (o : Oper) (x : Opd) : Bool := match o.op with
  | .call { callee := .builtin .len, args := as, argTypes := ts } => chkArgs as.toList [x] && (match ts.toList with | [t] => (match P.underlying t with | some (.map _ _) => true | _ => false) | _ => false)
  | _ => false
def chkRng (P : Program) (o : Oper) (x : Opd) : Bool := match o.op with
  | .range t x' => (match P.underlying t with | some (.map _ _) => true | _ => false) && chkO x' x
  | _ => false
def chkEnt (o : Oper) (x : Opd) : Bool := match o.op with
  | .entry x' => chkO x' x
  | _ => false
theorem does_mmk {key : Nat} (hm : Mem B F ρ s.ob w) (hf : Fr F ρ s.ob s.fr a) (h1 : MK ≤ key) (h2 : key < 2 * MK) (hc : chkMmk o = true) (hfree : s.free key = true) : Does P o a w (Post B F w s.fr a (s.obj key ⟨0, []⟩).ob (.mp key)) := by
  unfold chkMmk at hc
  split at hc
  · rename_i t hop
    obtain ⟨g1, g2⟩ := map_new (key := key) (o1 := ⟨0, []⟩) (x := .map #[] 0) hm hf hfree fun F' ρ' ob' _ => ⟨fun h => by omega, fun _ _ => ⟨#[], rfl, rfl, by simp, by simp, fun i r hi => by simp at hi⟩, fun h => by omega⟩
    refine does_value (w' := w.alloc (.map #[] 0)) (u := .map (some w.heap.size)) ?_ ⟨F, _, g1, g2, ⟨h1, h2, fun o ho => ⟨_, updM_same _ _, rfl⟩⟩, .refl F, (Below.refl _ _).alloc hm.big _, fun _ _ h => .inl h⟩
    simp [execOp, hop, Instr.makeMap]
  · simp at hc
theorem elemZero_spec {t k e : TypeId} {zero : AV} (ht : P.underlying t = some (.map k e)) (h : elemZero P t zero = true) : ∃ z, (zeroValue e).run P w = .ok z w ∧ AR F ρ ob zero z := by
  unfold elemZero at h
  rw [ht] at h
  simp only at h
  obtain ⟨i, z, hi, hz, hcs⟩ := zeroOk_spec h
  exact ⟨z, by simp [zeroValue, typeInfo, hi, hz], cst_sound hcs⟩
theorem mres_ar {ok b : Bool} {v x : AV} {u : Value} (h : mres ok b v = some x) (hr : AR F ρ ob v u) : AR F ρ ob x (if ok then .tuple #[u, .bool b] else u) := by
  unfold mres at h
  cases ok
  · simp only [Bool.false_eq_true, if_false, Option.some.injEq] at h ⊢; subst h; exact hr
  · simp only [if_true] at h ⊢
    split at h
    · rename_i hv
      simp only [Option.some.injEq] at h; subst h
      exact ⟨[u, .bool b], rfl, .cons (hr.to1 hv) (.cons (DR.bool b) .nil)⟩
    · simp at h
theorem does_mget_nil {ks : KK} {zero k v : AV} {ok : Bool} {x i : Opd} (hf : Fr F ρ s.ob s.fr a) (hc : chkMget P o ks zero ok x i = true) (h1 : s.opd x = some (.ot .nm)) (h2 : s.opd i = some k) (hk : kOk ks k = true) (hv : mres ok false zero = some v) : Pure P o a w F ρ s v := by
  unfold chkMget at hc
  split at hc
  · rename_i t x' i' ok' hop
    simp only [Bool.and_eq_true, beq_iff_eq] at hc
    obtain ⟨⟨⟨⟨ht, hz⟩, rfl⟩, hx⟩, hi⟩ := hc
    obtain ⟨kt, e, d, ht, hko, hd⟩ := mapTy_spec ht
    obtain ⟨z, hz1, hz2⟩ := elemZero_spec (w := w) (F := F) (ρ := ρ) (ob := s.ob) ht hz
    have hr := opd_sound hf hx h1
    have hri := opd_sound hf hi h2
    have hxv : a.eval x' = .map none := hr
    have hck := run_checkKey hko hk hri true w
    have hfk : (Instr.findKey kt (a.eval i') []).run P w = .ok none w := by
      refine findKey_run hd hko (by simp [Instr.findAsking]) fun _ => rfl
    refine pure_of (u := if ok then .tuple #[z, .bool false] else z) ?_ (mres_ar hv hz2)
    have hlk : (Instr.lookup t (a.eval x') (a.eval i') ok).run P w = .ok (if ok then .tuple #[z, .bool false] else z) w := by
      simp [Instr.lookup, run_underlying ht, hxv, hck, hfk, hz1]
    simp only [execOp, hop, Sem.run_bind, hlk, Result.andThen_ok, Sem.run_pure]
  · simp at hc
theorem MapC.list {o0 : Obj} {b : Option Go.Obj} (h : MapC F ρ ob b o0) : ∃ es : Array MapEntry, b = some (.map es o0.sz) ∧ es.toList.length = o0.rows.length ∧ (es.toList.map (·.born)).Nodup ∧ (∀ e ∈ es.toList, e.born < o0.sz) ∧
    ∀ (i : Nat) (r : List AV), o0.rows[i]? = some r → ∃ e k v, es.toList[i]? = some e ∧ r = [.c (.int .i64 e.born), k, v] ∧ AR F ρ ob k e.key ∧ AR F ρ ob v e.val := by
  obtain ⟨es, h1, h2, h3, h4, h5⟩ := h
  exact ⟨es, h1, by simpa using h2, h3, h4, fun i r hi => by simpa using h5 i r hi⟩
theorem does_mget {ks : KK} {zero k v : AV} {ok : Bool} {x i : Opd} {key : Nat} {o0 : Obj} {r : Option (Nat × AV)} (hm : Mem B F ρ s.ob w) (hf : Fr F ρ s.ob s.fr a) (hc : chkMget P o ks zero ok x i = true) (h1 : s.opd x = some (.mp key)) (h2 : s.opd i = some k) (hob : get s.ob key = some o0) (hk : kOk ks k = true)
    (hfd : mfind ks k o0.rows 0 = some r) (hv : (match r with | some (_, u) => mres ok true u | none => mres ok false zero) = some v) : Pure P o a w F ρ s v := by
  unfold chkMget at hc
  split at hc
  · rename_i t x' i' ok' hop
    simp only [Bool.and_eq_true, beq_iff_eq] at hc
    obtain ⟨⟨⟨⟨ht, hz⟩, rfl⟩, hx⟩, hi⟩ := hc
    obtain ⟨kt, e, d, ht, hko, hd⟩ := mapTy_spec ht
    obtain ⟨z, hz1, hz2⟩ := elemZero_spec (w := w) (F := F) (ρ := ρ) (ob := s.ob) ht hz
    have hr := opd_sound hf hx h1
    have hri := opd_sound hf hi h2
    obtain ⟨p, hρ, hxv⟩ := hr.2.2 o0 hob
    obtain ⟨_, hM⟩ := hm.map hr.1 hr.2.1 hob hρ
    obtain ⟨es, hb, hl, _, _, hrows⟩ := hM.list
    obtain ⟨q, q1, q2, q3, q4⟩ := mfind_run hd hko hk hri w o0.rows es.toList 0 r hl hrows hfd
    have hck := run_checkKey hko hk hri es.isEmpty w
    have hfk := findKey_run hd hko q1 q2
    have hlk : ∀ (y : Value × Bool), (match q with | some (_, v) => (v, true) | none => (z, false)) = y → (Instr.lookup t (a.eval x') (a.eval i') ok).run P w = .ok (if ok then .tuple #[y.1, .bool y.2] else y.1) w := by
      rintro y rfl
      have hg : (getObj p.g).run P w = .ok (.map es o0.sz) w := by simp [getObj, Sem.run, hb]
      cases q <;> simp [Instr.lookup, run_underlying ht, hxv, hg, hck, hfk, hz1]
    cases r with
    | none =>
      obtain rfl := q4 rfl
      refine pure_of (u := if ok then .tuple #[z, .bool false] else z) ?_ (mres_ar hv hz2)
      simp only [execOp, hop, Sem.run_bind, hlk _ rfl, Result.andThen_ok, Sem.run_pure]
    | some jv =>
      obtain ⟨j, u⟩ := jv
      obtain ⟨e1, k1, rfl, _, _, har, _⟩ := q3 j u rfl
      refine pure_of (u := if ok then .tuple #[e1.val, .bool true] else e1.val) ?_ (mres_ar hv har)
      simp only [execOp, hop, Sem.run_bind, hlk _ rfl, Result.andThen_ok, Sem.run_pure]
  · simp at hc
theorem does_mlen {x : Opd} {v : AV} {n : Int} (hm : Mem B F ρ s.ob w) (hf : Fr F ρ s.ob s.fr a) (hc : chkMlen P o x = true) (h1 : s.opd x = some v) (h : v = .ot .nm ∧ n = 0 ∨ ∃ key o0, v = .mp key ∧ get s.ob key = some o0 ∧ n = o0.rows.length) : Pure P o a w F ρ s (.c (.int .i64 n)) := by
  unfold chkMlen at hc
  split at hc
  · rename_i as ts hop
    simp only [Bool.and_eq_true] at hc
    obtain ⟨has, hts⟩ := hc
    obtain ⟨x', rfl, hx⟩ := chkArgs_one has
    obtain ⟨tl⟩ := ts
    split at hts
    · rename_i t htl
      simp only at htl; subst htl
      split at hts
      · rename_i k e ht
        have hr := opd_sound hf hx h1
        refine pure_of (u := .int .i64 n) ?_ (.int _ _)
        rcases h with ⟨rfl, rfl⟩ | ⟨key, o0, rfl, hob, rfl⟩
        · have hv : a.eval x' = .map none := hr
          simp [execOp, hop, resolve, invoke, builtin, Builtin.len_, hv, run_underlying ht, goInt]
        · obtain ⟨p, hρ, hv⟩ := hr.2.2 o0 hob
          obtain ⟨_, hM⟩ := hm.map hr.1 hr.2.1 hob hρ
          obtain ⟨es, hb, hl, _⟩ := hM.list
          simp only [Array.length_toList] at hl
          have hg : (getObj p.g).run P w = .ok (.map es o0.sz) w := by simp [getObj, Sem.run, hb]
          simp [execOp, hop, resolve, invoke, builtin, Builtin.len_, hv, run_underlying ht, hg, goInt, hl]
      · simp at hts
    · simp at hts
  · simp at hc
theorem DR.bits {d x : D} {v : Value} {k : Kd} {b : Bool} (h : eqK k d x = some b) (h1 : DR F d v) (n : Nat) : Instr.sameBits n v v = true := by
  cases k <;> cases d <;> cases x <;> simp only [eqK, reduceCtorEq] at h <;> cases h1 <;> cases n <;> simp [Instr.sameBits, MapKept.bytes_beq]
theorem zip_bits (n : Nat) : ∀ {ks : List Kd} {xs ys : List D} {b : Bool} {vs : List Value}, eqKs ks xs ys = some b → All2 (DR F) xs vs → ((vs.zip vs).all fun (x, y) => Instr.sameBits n x y) = true
  | [], [], _, _, vs, _, h1 => by cases h1; rfl
  | k :: ks, x :: xs, y :: ys, b, vs, h, h1 => by
    simp only [eqKs] at h
    split at h
    · rename_i p q hp hq
      cases h1 with
      | cons a1 b1 => simp only [List.zip_cons_cons, List.all_cons, DR.bits hp a1 n, zip_bits n hq b1, Bool.and_self]
    · simp at h
  | [], _ :: _, ys, _, _, h, _ => by cases ys <;> simp [eqKs] at h
  | _ :: _, [], _, _, _, h, _ => by simp [eqKs] at h
  | _ :: _, _ :: _, [], _, _, h, _ => by simp [eqKs] at h
theorem key_bits {t : TypeId} {ks : KK} (hk : keyOk P t ks = true) {x : AV} {v : Value} (hx : kOk ks x = true) (hr : AR F ρ ob x v) : Instr.sameBits 10000 v v = true := by
  have hx0 := hx
  unfold kOk mkeq at hx
  split at hx
  · rename_i d
    split at hx
    · simp at hx
    · obtain ⟨b, hb⟩ := Option.isSome_iff_exists.1 hx
      have hl := (eqKs_length hb).1
      match hks : ks.2, hl with
      | [k], _ =>
        rw [hks] at hb
        simp only [eqKs] at hb
        cases hq : eqK k d d with
        | none => rw [hq] at hb; simp at hb
        | some q => exact DR.bits hq hr 10000
  · rename_i ds
    split at hx
    · obtain ⟨b, hb⟩ := Option.isSome_iff_exists.1 hx
      obtain ⟨vs, rfl, hvs⟩ := hr
      have := zip_bits 9999 hb hvs
      rw [show (10000 : Nat) = 9999 + 1 from rfl]
      simp only [Instr.sameBits, beq_self_eq_true, Bool.true_and]
      exact this
    · simp at hx
  · simp at hx
theorem run_setB {g : Nat} {y : Go.Obj} (h : w.heap[g]? = some y) (x : Go.Obj) (hy : ∃ es c, y = .map es c) : (setObj g x).run P w = .ok () (setB w g x) := by
  obtain ⟨es, c, rfl⟩ := hy
  simp [setObj, Sem.run, h, setB]
theorem getElem?_setRow {rows : Rows} {i k : Nat} {r : List AV} (h : i < rows.length) : (setRow rows i r)[k]? = if k = i then some r else rows[k]? := setRow_get h
theorem modify_list (es : Array MapEntry) (i : Nat) (f : MapEntry → MapEntry) : (es.modify i f).toList = es.toList.modify i f := by simp
theorem born_modify (l : List MapEntry) (i : Nat) (f : MapEntry → MapEntry) (hf : ∀ e, (f e).born = e.born) : (l.modify i f).map (·.born) = l.map (·.born) := by
  apply List.ext_getElem?
  intro j
  simp only [List.getElem?_map, List.getElem?_modify]
  cases l[j]? with
  | none => rfl
  | some e => simp only [Option.map_some]; split <;> simp [hf]
/-- An entry's key or value, turned. -/
theorem cont_set {key i : Nat} {o0 : Obj} {p : Place} {es : Array MapEntry} {e : MapEntry} {k' v' : AV} {f : MapEntry → MapEntry} (hK : MK ≤ key) (hK2 : key < 2 * MK) (hl : es.toList.length = o0.rows.length) (hnd : (es.toList.map (·.born)).Nodup) (hlt : ∀ e ∈ es.toList, e.born < o0.sz)
    (hrows : ∀ (i : Nat) (r : List AV), o0.rows[i]? = some r → ∃ e k v, es.toList[i]? = some e ∧ r = [.c (.int .i64 e.born), k, v] ∧ AR F ρ ob k e.key ∧ AR F ρ ob v e.val) (hi : es.toList[i]? = some e) (hf : ∀ e, (f e).born = e.born) (h1 : AR F ρ ob k' (f e).key) (h2 : AR F ρ ob v' (f e).val)
    (F' : Facts) (ρ' : Map) (ob' : List (Nat × Obj)) (hT : ∀ x v, AR F ρ ob x v → AR F' ρ' ob' x v) : Cont F' ρ' ob' (some (.map (es.modify i f) o0.sz)) key ⟨o0.sz, setRow o0.rows i [.c (.int .i64 e.born), k', v']⟩ p := by
  have hil : i < o0.rows.length := by rw [← hl]; exact (List.getElem?_eq_some_iff.1 hi).1
  refine ⟨fun h => by omega, fun _ _ => ⟨es.modify i f, rfl, ?_, ?_, ?_, ?_⟩, fun h => by omega⟩
  · rw [Array.size_modify, setRow_length hil, ← hl]; simp
  · rw [modify_list, born_modify _ _ _ hf]; exact hnd
  · intro e' he'
    have : e'.born ∈ (es.modify i f).toList.map (·.born) := List.mem_map.2 ⟨e', he', rfl⟩
    rw [modify_list, born_modify _ _ _ hf] at this
    obtain ⟨e2, h3, h4⟩ := List.mem_map.1 this
    rw [← h4]; exact hlt e2 h3
  · intro j r hj
    simp only at hj
    rw [setRow_get hil] at hj
    have hg : (es.modify i f)[j]? = (es.toList.modify i f)[j]? := by rw [← modify_list, Array.getElem?_toList]
    rw [hg, List.getElem?_modify]
    split at hj
    · rename_i hji
      subst hji
      simp only [Option.some.injEq] at hj; subst hj
      rw [hi]
      exact ⟨f e, k', v', by simp, by rw [hf], hT _ _ h1, hT _ _ h2⟩
    · rename_i hji
      obtain ⟨e2, k2, v2, g1, rfl, g2, g3⟩ := hrows j r hj
      rw [g1]
      exact ⟨e2, k2, v2, by simp [Ne.symm hji], rfl, hT _ _ g2, hT _ _ g3⟩
theorem cont_push {key : Nat} {o0 : Obj} {p : Place} {es : Array MapEntry} {kv vv : Value} {k' v' : AV} (hK : MK ≤ key) (hK2 : key < 2 * MK) (hl : es.toList.length = o0.rows.length) (hnd : (es.toList.map (·.born)).Nodup) (hlt : ∀ e ∈ es.toList, e.born < o0.sz)
    (hrows : ∀ (i : Nat) (r : List AV), o0.rows[i]? = some r → ∃ e k v, es.toList[i]? = some e ∧ r = [.c (.int .i64 e.born), k, v] ∧ AR F ρ ob k e.key ∧ AR F ρ ob v e.val) (h1 : AR F ρ ob k' kv) (h2 : AR F ρ ob v' vv)
    (F' : Facts) (ρ' : Map) (ob' : List (Nat × Obj)) (hT : ∀ x v, AR F ρ ob x v → AR F' ρ' ob' x v) : Cont F' ρ' ob' (some (.map (es.push { key := kv, val := vv, born := o0.sz }) (o0.sz + 1))) key ⟨o0.sz + 1, o0.rows ++ [[.c (.int .i64 o0.sz), k', v']]⟩ p := by
  have hsz : es.size = o0.rows.length := by simpa using hl
  refine ⟨fun h => by omega, fun _ _ => ⟨_, rfl, by simp [hsz], ?_, ?_, ?_⟩, fun h => by omega⟩
  · simp only [Array.toList_push, List.map_append, List.map_cons, List.map_nil]
    refine List.nodup_append.2 ⟨hnd, by simp, ?_⟩
    intro x hx y hy
    simp only [List.mem_singleton] at hy; subst hy
    obtain ⟨e, he, rfl⟩ := List.mem_map.1 hx
    have := hlt e he; omega
  · intro e he
    simp only [Array.toList_push, List.mem_append, List.mem_singleton] at he
    rcases he with he | rfl
    · have := hlt e he; simp only; omega
    · simp
  · intro j r hj
    simp only at hj
    rcases Nat.lt_or_ge j o0.rows.length with h | h
    · rw [List.getElem?_append_left h] at hj
      obtain ⟨e2, k2, v2, g1, rfl, g2, g3⟩ := hrows j r hj
      exact ⟨e2, k2, v2, by rw [Array.getElem?_push, if_neg (by omega)]; simpa using g1, rfl, hT _ _ g2, hT _ _ g3⟩
    · rw [List.getElem?_append_right h] at hj
      have hj0 : j = o0.rows.length := by
        have := (List.getElem?_eq_some_iff.1 hj).1
        simp at this; omega
      subst hj0
      simp at hj; subst hj
      exact ⟨_, k', v', by rw [Array.getElem?_push, if_pos hsz.symm], rfl, hT _ _ h1, hT _ _ h2⟩
theorem does_mset {ks : KK} {k u : AV} {x i v : Opd} {key : Nat} {o0 : Obj} {s' : St} (hm : Mem B F ρ s.ob w) (hf : Fr F ρ s.ob s.fr a) (hc : chkMset P o ks x i v = true) (h1 : s.opd x = some (.mp key)) (h2 : s.opd i = some k) (h3 : s.opd v = some u) (hob : get s.ob key = some o0) (hk : kOk ks k = true)
    (h : mupd key ks k u o0 s = some s') : s'.fr = s.fr ∧ Does P o a w (Post B F w s.fr a s'.ob (.tup [])) := by
  have main : ∀ (t : TypeId) (x' i' v' : Operand), mapTy P t ks = true → chkO x' x = true → chkO i' i = true → chkO v' v = true → (∀ w', (Instr.mapUpdate t (a.eval x') (a.eval i') (a.eval v')).run P w = .ok () w' → (execOp a.eval o).run P w = .ok .skip w') → s'.fr = s.fr ∧ Does P o a w (Post B F w s.fr a s'.ob (.tup [])) := by
    intro t x' i' v' ht hx hi hv hex
    obtain ⟨kt, e, d, ht, hko, hd⟩ := mapTy_spec ht
    have hr := opd_sound hf hx h1
    have hri := opd_sound hf hi h2
    have hrv := opd_sound hf hv h3
    obtain ⟨p, hρ, hxv⟩ := hr.2.2 o0 hob
    obtain ⟨_, hM⟩ := hm.map hr.1 hr.2.1 hob hρ
    obtain ⟨es, hb, hl, hnd, hlt, hrows⟩ := hM.list
    have hg : (getObj p.g).run P w = .ok (.map es o0.sz) w := by simp [getObj, Sem.run, hb]
    have hck := run_checkKey hko hk hri false w
    unfold mupd at h
    split at h
    · rename_i j u0 hfd
      simp only [Option.some.injEq] at h; subst h
      obtain ⟨q, q1, q2, q3, q4⟩ := mfind_run hd hko hk hri w o0.rows es.toList 0 _ hl hrows hfd
      have hfk := findKey_run hd hko q1 q2
      obtain ⟨e1, k1, rfl, _, g1, _, g2, g3, rfl⟩ := q3 j u0 rfl
      simp only [Nat.sub_zero] at g1 g2
      have hks : (Instr.keyThatStays (((es[j]?).map (·.key)).getD (a.eval i')) (a.eval i')).run P w = .ok (a.eval i') w := by
        have : es[j]? = some e1 := by simpa using g1
        rw [this]
        simp [Instr.keyThatStays, g3, key_bits hko hk hri]
      refine ⟨rfl, does_skip (hex (setB w p.g (.map (es.modify j fun e => { e with key := a.eval i', val := a.eval v' }) o0.sz)) ?_) ?_⟩
      · simp [Instr.mapUpdate, run_underlying ht, hxv, hg, hck, hfk, hks, run_setB hb _ ⟨_, _, rfl⟩]
      · have hst : stampAt o0.rows j = .c (.int .i64 e1.born) := by simp [stampAt, g2]
        rw [hst]
        exact map_post (v := .tup []) (u := undef) hm hf hr.1 hob hρ hb (cont_set (f := fun e => { e with key := a.eval i', val := a.eval v' }) hr.1 hr.2.1 hl hnd hlt hrows g1 (fun _ => rfl) hri hrv) ⟨[], rfl, .nil⟩
    · rename_i hfd
      simp only [Option.some.injEq] at h; subst h
      obtain ⟨q, q1, q2, q3, q4⟩ := mfind_run hd hko hk hri w o0.rows es.toList 0 _ hl hrows hfd
      obtain rfl := q4 rfl
      have hfk := findKey_run hd hko q1 q2
      refine ⟨rfl, does_skip (hex (setB w p.g (.map (es.push { key := a.eval i', val := a.eval v', born := o0.sz }) (o0.sz + 1))) ?_) ?_⟩
      · simp [Instr.mapUpdate, run_underlying ht, hxv, hg, hck, hfk, run_setB hb _ ⟨_, _, rfl⟩]
      · exact map_post (v := .tup []) (u := undef) hm hf hr.1 hob hρ hb (cont_push hr.1 hr.2.1 hl hnd hlt hrows hri hrv) ⟨[], rfl, .nil⟩
    · simp at h
  unfold chkMset at hc
  split at hc
  · rename_i t x' i' v' hop
    simp only [Bool.and_eq_true] at hc
    exact main t x' i' v' hc.1.1.1.1 hc.1.1.1.2 hc.1.1.2 hc.1.2 fun w' hrun => by simp only [execOp, hop, Sem.run_bind, hrun, Result.andThen_ok, Sem.run_pure]
  · rename_i t x' i' v' hop
    simp only [Bool.and_eq_true] at hc
    exact main t x' i' v' hc.1.1.1.1 hc.1.1.1.2 hc.1.1.2 hc.1.2 fun w' hrun => by simp only [execOp, hop, Sem.run_bind, hrun, Result.andThen_ok, Sem.run_pure]
  · simp at hc
theorem does_ment {ks : KK} {zero k v : AV} {x i : Opd} {key : Nat} {o0 : Obj} {s' : St} (hm : Mem B F ρ s.ob w) (hf : Fr F ρ s.ob s.fr a) (hc : chkMent P o ks zero x i = true) (h1 : s.opd x = some (.mp key)) (h2 : s.opd i = some k) (hob : get s.ob key = some o0) (hk : kOk ks k = true)
    (h : (match mfind ks k o0.rows 0 with
          | some (some (i, v)) => if v.isD then some (AV.tup [v, stampAt o0.rows i], s) else none
          | some none => if zero.isD then some (AV.tup [zero, .c (.int .i64 o0.sz)], s.obj key ⟨o0.sz + 1, o0.rows ++ [[.c (.int .i64 o0.sz), k, zero]]⟩) else none
          | none => none) = some (v, s')) : s'.fr = s.fr ∧ Does P o a w (Post B F w s.fr a s'.ob v) := by
  unfold chkMent at hc
  split at hc
  · rename_i t x' i' hop
    simp only [Bool.and_eq_true] at hc
    obtain ⟨⟨⟨ht, hz⟩, hx⟩, hi⟩ := hc
    obtain ⟨kt, e, d, ht, hko, hd⟩ := mapTy_spec ht
    obtain ⟨z, hz1, hz2⟩ := elemZero_spec (w := w) (F := F) (ρ := ρ) (ob := s.ob) ht hz
    have hr := opd_sound hf hx h1
    have hri := opd_sound hf hi h2
    obtain ⟨p, hρ, hxv⟩ := hr.2.2 o0 hob
    obtain ⟨_, hM⟩ := hm.map hr.1 hr.2.1 hob hρ
    obtain ⟨es, hb, hl, hnd, hlt, hrows⟩ := hM.list
    have hg : (getObj p.g).run P w = .ok (.map es o0.sz) w := by simp [getObj, Sem.run, hb]
    have hck := run_checkKey hko hk hri false w
    split at h
    · rename_i j u0 hfd
      split at h
      · rename_i huD
        simp only [Option.some.injEq, Prod.mk.injEq] at h
        obtain ⟨rfl, rfl⟩ := h
        obtain ⟨q, q1, q2, q3, q4⟩ := mfind_run hd hko hk hri w o0.rows es.toList 0 _ hl hrows hfd
        have hfk := findKey_run hd hko q1 q2
        obtain ⟨e1, k1, rfl, _, g1, har, g2, g3, rfl⟩ := q3 j u0 rfl
        simp only [Nat.sub_zero] at g1 g2
        have hej : es[j]? = some e1 := by simpa using g1
        have hks : (Instr.keyThatStays (((es[j]?).map (·.key)).getD (a.eval i')) (a.eval i')).run P w = .ok (a.eval i') w := by
          rw [hej]
          simp [Instr.keyThatStays, g3, key_bits hko hk hri]
        have hst : stampAt o0.rows j = .c (.int .i64 e1.born) := by simp [stampAt, g2]
        rw [hst]
        have hpost := map_post (v := .tup [u0, .c (.int .i64 e1.born)]) (u := .tuple #[e1.val, .int .i64 e1.born]) hm hf hr.1 hob hρ hb
          (cont_set (f := fun e => { e with key := a.eval i' }) hr.1 hr.2.1 hl hnd hlt hrows g1 (fun _ => rfl) hri har) ⟨[e1.val, .int .i64 e1.born], rfl, .cons (har.to1 huD) (.cons (DR.int _ _) .nil)⟩
        -- the object stays as it is
        have hsame : ∀ j', get (s.obj key ⟨o0.sz, setRow o0.rows j [.c (.int .i64 e1.born), k1, u0]⟩).ob j' = get s.ob j' := by
          intro j'
          rw [get_obj]
          split
          · rename_i hj'; subst hj'
            rw [hob]
            have : setRow o0.rows j [.c (.int .i64 e1.born), k1, u0] = o0.rows := by
              have hjl := (List.getElem?_eq_some_iff.1 g2).1
              apply List.ext_getElem?
              intro q
              rw [setRow_get hjl]
              split
              · rename_i hq; subst hq
                rw [g2]
              · rfl
            rw [this]
          · rfl
        refine ⟨rfl, does_value (w' := setB w p.g (.map (es.modify j fun e => { e with key := a.eval i' }) o0.sz)) (u := .tuple #[e1.val, .int .i64 e1.born]) ?_ ?_⟩
        · have hrun : (Instr.mapEntry t (a.eval x') (a.eval i')).run P w = .ok (.tuple #[e1.val, .int .i64 e1.born]) (setB w p.g (.map (es.modify j fun e => { e with key := a.eval i' }) o0.sz)) := by
            have hks2 : (Instr.keyThatStays e1.key (a.eval i')).run P w = .ok (a.eval i') w := by rw [hej] at hks; exact hks
            simp [Instr.mapEntry, run_underlying ht, hxv, hg, hck, hfk, hks2, run_setB hb _ ⟨_, _, rfl⟩, hej, goInt]
          simp only [execOp, hop, Sem.run_bind, hrun, Result.andThen_ok, Sem.run_pure]
        · obtain ⟨F', ρ', m1, m2, m3, m4⟩ := hpost
          exact ⟨F', ρ', m1.congr fun j' => (hsame j').symm, m2.sub fun k o h => by rw [hsame]; exact h, m3.sub fun k o h => by rw [hsame]; exact h, m4⟩
      · simp at h
    · rename_i hfd
      split at h
      · rename_i hzD
        simp only [Option.some.injEq, Prod.mk.injEq] at h
        obtain ⟨rfl, rfl⟩ := h
        obtain ⟨q, q1, q2, q3, q4⟩ := mfind_run hd hko hk hri w o0.rows es.toList 0 _ hl hrows hfd
        obtain rfl := q4 rfl
        have hfk := findKey_run hd hko q1 q2
        refine ⟨rfl, does_value (w' := setB w p.g (.map (es.push { key := a.eval i', val := z, born := o0.sz }) (o0.sz + 1))) (u := .tuple #[z, .int .i64 o0.sz]) ?_ ?_⟩
        · have hrun : (Instr.mapEntry t (a.eval x') (a.eval i')).run P w = .ok (.tuple #[z, .int .i64 o0.sz]) (setB w p.g (.map (es.push { key := a.eval i', val := z, born := o0.sz }) (o0.sz + 1))) := by
            simp [Instr.mapEntry, run_underlying ht, hxv, hg, hck, hfk, hz1, run_setB hb _ ⟨_, _, rfl⟩, goInt]
          simp only [execOp, hop, Sem.run_bind, hrun, Result.andThen_ok, Sem.run_pure]
        · exact map_post (v := .tup [zero, .c (.int .i64 o0.sz)]) hm hf hr.1 hob hρ hb (cont_push hr.1 hr.2.1 hl hnd hlt hrows hri hz2) ⟨[z, .int .i64 o0.sz], rfl, .cons (hz2.to1 hzD) (.cons (DR.int _ _) .nil)⟩
      · simp at h
    · simp at h
  · simp at hc
theorem does_mest {x i v : Opd} {u : AV} {key j : Nat} {n : Int} {o0 : Obj} {st k u0 : AV} (hm : Mem B F ρ s.ob w) (hf : Fr F ρ s.ob s.fr a) (hc : chkMest o x i v = true) (h1 : s.opd x = some (.mp key)) (h2 : s.opd i = some (.c (.int .i64 n))) (h3 : s.opd v = some u) (hob : get s.ob key = some o0)
    (hfd : o0.rows.findIdx? (hasBorn n) = some j) (hj : o0.rows[j]? = some [st, k, u0]) : Does P o a w (Post B F w s.fr a (s.obj key ⟨o0.sz, setRow o0.rows j [st, k, u]⟩).ob (.tup [])) := by
  unfold chkMest at hc
  split at hc
  · rename_i t x' i' v' hop
    simp only [Bool.and_eq_true] at hc
    obtain ⟨⟨⟨hx, hi⟩, hv⟩, _⟩ := hc
    have hr := opd_sound hf hx h1
    have hri := DR.int_ (opd_sound hf hi h2)
    have hrv := opd_sound hf hv h3
    obtain ⟨p, hρ, hxv⟩ := hr.2.2 o0 hob
    obtain ⟨_, hM⟩ := hm.map hr.1 hr.2.1 hob hρ
    obtain ⟨es, hb, hl, hnd, hlt, hrows⟩ := hM.list
    have hg : (getObj p.g).run P w = .ok (.map es o0.sz) w := by simp [getObj, Sem.run, hb]
    obtain ⟨e1, k1, v1, g1, g2, g3, g4⟩ := hrows j _ hj
    simp only [List.cons.injEq, and_true] at g2
    obtain ⟨rfl, rfl, rfl⟩ := g2
    have hfi : es.findIdx? (fun e : MapEntry => (e.born : Int) == n) = some j := by
      have hbornrow : ∀ (q : Nat) (r : List AV), o0.rows[q]? = some r → ∃ e : MapEntry, es.toList[q]? = some e ∧ hasBorn n r = ((e.born : Int) == n) := by
        intro q r hq
        obtain ⟨e, k, v, b1, rfl, _, _⟩ := hrows q r hq
        exact ⟨e, b1, by simp [hasBorn]; rfl⟩
      have htl : ∀ (p : MapEntry → Bool), es.findIdx? p = es.toList.findIdx? p := fun p => by rw [← List.findIdx?_toArray, Array.toArray_toList]
      rw [htl]
      rw [List.findIdx?_eq_some_iff_getElem] at hfd ⊢
      obtain ⟨hlt', ha, hb'⟩ := hfd
      refine ⟨by omega, ?_, fun q hq => ?_⟩
      · obtain ⟨e, b1, b2⟩ := hbornrow j _ (List.getElem?_eq_getElem hlt')
        rw [ha] at b2
        rw [List.getElem?_eq_getElem (by omega)] at b1
        simp only [Option.some.injEq] at b1
        rw [b1, ← b2]
      · obtain ⟨e, b1, b2⟩ := hbornrow q _ (List.getElem?_eq_getElem (by omega))
        have := hb' q hq
        rw [b2] at this
        rw [List.getElem?_eq_getElem (by omega)] at b1
        simp only [Option.some.injEq] at b1
        rw [b1]; exact this
    refine does_skip (w' := setB w p.g (.map (es.modify j fun e => { e with val := a.eval v' }) o0.sz)) ?_ ?_
    · have hrun : (Instr.entryStore t (a.eval x') (a.eval i') (a.eval v')).run P w = .ok () (setB w p.g (.map (es.modify j fun e => { e with val := a.eval v' }) o0.sz)) := by
        simp [Instr.entryStore, hxv, hg, hri, asInt, asIntOf, hfi, run_setB hb _ ⟨_, _, rfl⟩]
      simp only [execOp, hop, Sem.run_bind, hrun, Result.andThen_ok, Sem.run_pure]
    · exact map_post (v := .tup []) (u := undef) hm hf hr.1 hob hρ hb (cont_set (f := fun e => { e with val := a.eval v' }) hr.1 hr.2.1 hl hnd hlt hrows g1 (fun _ => rfl) g3 hrv) ⟨[], rfl, .nil⟩
  · simp at hc
theorem cont_erase {key i : Nat} {o0 : Obj} {p : Place} {es : Array MapEntry} (hK : MK ≤ key) (hK2 : key < 2 * MK) (hl : es.toList.length = o0.rows.length) (hnd : (es.toList.map (·.born)).Nodup) (hlt : ∀ e ∈ es.toList, e.born < o0.sz)
    (hrows : ∀ (i : Nat) (r : List AV), o0.rows[i]? = some r → ∃ e k v, es.toList[i]? = some e ∧ r = [.c (.int .i64 e.born), k, v] ∧ AR F ρ ob k e.key ∧ AR F ρ ob v e.val) (hi : i < es.size)
    (F' : Facts) (ρ' : Map) (ob' : List (Nat × Obj)) (hT : ∀ x v, AR F ρ ob x v → AR F' ρ' ob' x v) : Cont F' ρ' ob' (some (.map (es.eraseIdxIfInBounds i) o0.sz)) key ⟨o0.sz, o0.rows.eraseIdx i⟩ p := by
  have he : (es.eraseIdxIfInBounds i).toList = es.toList.eraseIdx i := by
    unfold Array.eraseIdxIfInBounds
    rw [dif_pos hi]; simp
  have hs : (es.toList.eraseIdx i).Sublist es.toList := List.eraseIdx_sublist _ _
  refine ⟨fun h => by omega, fun _ _ => ⟨_, rfl, ?_, ?_, ?_, ?_⟩, fun h => by omega⟩
  · rw [← Array.length_toList, he]
    simp only [List.length_eraseIdx, hl]
  · rw [he]; exact (hs.map _).nodup hnd
  · intro e' he'
    rw [he] at he'
    exact hlt e' (hs.subset he')
  · intro j r hj
    simp only at hj
    have hg : (es.eraseIdxIfInBounds i)[j]? = (es.toList.eraseIdx i)[j]? := by rw [← he, Array.getElem?_toList]
    rw [hg]
    rw [List.getElem?_eraseIdx] at hj ⊢
    split at hj
    · rename_i h; rw [if_pos h]
      obtain ⟨e, k, v, b1, b2, b3, b4⟩ := hrows j r hj
      exact ⟨e, k, v, b1, b2, hT _ _ b3, hT _ _ b4⟩
    · rename_i h; rw [if_neg h]
      obtain ⟨e, k, v, b1, b2, b3, b4⟩ := hrows (j + 1) r hj
      exact ⟨e, k, v, b1, b2, hT _ _ b3, hT _ _ b4⟩
theorem does_mdel_nil {ks : KK} {k : AV} {x i : Opd} (hm : Mem B F ρ s.ob w) (hf : Fr F ρ s.ob s.fr a) (hc : chkMdel P o ks x i = true) (h1 : s.opd x = some (.ot .nm)) (h2 : s.opd i = some k) (hk : kOk ks k = true) : Pure P o a w F ρ s (.tup []) := by
  unfold chkMdel at hc
  split at hc
  · rename_i as ts hop
    simp only [Bool.and_eq_true] at hc
    obtain ⟨has, hts⟩ := hc
    obtain ⟨l⟩ := as
    obtain ⟨tl⟩ := ts
    match l, has with
    | [x', i'], has =>
      simp only [chkArgs, Bool.and_true, Bool.and_eq_true] at has
      split at hts
      · rename_i t r htl
        simp only at htl; subst htl
        obtain ⟨kt, e, d, ht, hko, hd⟩ := mapTy_spec hts
        have hxv : a.eval x' = .map none := opd_sound hf has.1 h1
        have hri := opd_sound hf has.2 h2
        have hck := run_checkKey hko hk hri true w
        refine pure_of (u := .tuple #[]) ?_ ⟨[], rfl, .nil⟩
        simp [execOp, hop, resolve, invoke, builtin, Builtin.delete_, hxv, run_underlying ht, hck]
      · simp at hts
    | [], has => simp [chkArgs] at has
    | [_], has => simp [chkArgs] at has
    | _ :: _ :: _ :: _, has => simp [chkArgs] at has
  · simp at hc
theorem does_mdel {ks : KK} {k : AV} {x i : Opd} {key : Nat} {o0 : Obj} {r : Option (Nat × AV)} (hm : Mem B F ρ s.ob w) (hf : Fr F ρ s.ob s.fr a) (hc : chkMdel P o ks x i = true) (h1 : s.opd x = some (.mp key)) (h2 : s.opd i = some k) (hob : get s.ob key = some o0) (hk : kOk ks k = true)
    (hfd : mfind ks k o0.rows 0 = some r) : Does P o a w (Post B F w s.fr a (match r with | some (j, _) => (s.obj key ⟨o0.sz, o0.rows.eraseIdx j⟩).ob | none => s.ob) (.tup [])) := by
  unfold chkMdel at hc
  split at hc
  · rename_i as ts hop
    simp only [Bool.and_eq_true] at hc
    obtain ⟨has, hts⟩ := hc
    obtain ⟨l⟩ := as
    obtain ⟨tl⟩ := ts
    match l, has with
    | [x', i'], has =>
      simp only [chkArgs, Bool.and_true, Bool.and_eq_true] at has
      split at hts
      · rename_i t tr htl
        simp only at htl; subst htl
        obtain ⟨kt, e, d, ht, hko, hd⟩ := mapTy_spec hts
        have hr := opd_sound hf has.1 h1
        have hri := opd_sound hf has.2 h2
        obtain ⟨p, hρ, hxv⟩ := hr.2.2 o0 hob
        obtain ⟨gB, hM⟩ := hm.map hr.1 hr.2.1 hob hρ
        obtain ⟨es, hb, hl, hnd, hlt, hrows⟩ := hM.list
        have hg : (getObj p.g).run P w = .ok (.map es o0.sz) w := by simp [getObj, Sem.run, hb]
        have hck := run_checkKey hko hk hri es.isEmpty w
        obtain ⟨q, q1, q2, q3, q4⟩ := mfind_run hd hko hk hri w o0.rows es.toList 0 _ hl hrows hfd
        have hfk := findKey_run hd hko q1 q2
        cases r with
        | none =>
          obtain rfl := q4 rfl
          have hset : ∀ k' : Nat, (setB w p.g (.map es o0.sz)).heap[k']? = w.heap[k']? := by
            intro k'
            by_cases hk' : k' = p.g
            · subst hk'; rw [setB_same hb, hb]
            · exact setB_other hk'
          refine does_value (w' := setB w p.g (.map es o0.sz)) (u := .tuple #[]) ?_ ?_
          · simp [execOp, hop, resolve, invoke, builtin, Builtin.delete_, hxv, run_underlying ht, hg, hck, hfk, run_setB hb _ ⟨_, _, rfl⟩]
          · have hbel : Below w.heap.size w (setB w p.g (.map es o0.sz)) := ⟨rfl, rfl, rfl, by rw [setB_size]; exact Nat.le_refl _, fun k _ => hset k⟩
            exact ⟨F, ρ, hm.below hbel, hf, ⟨[], rfl, .nil⟩, .refl F, hbel.mono hm.big, fun _ _ h => .inl h⟩
        | some jv =>
          obtain ⟨j, u0⟩ := jv
          obtain ⟨e1, k1, rfl, _, g1, har, g2, g3, rfl⟩ := q3 j u0 rfl
          simp only [Nat.sub_zero] at g1 g2
          refine does_value (w' := setB w p.g (.map (es.eraseIdxIfInBounds j) o0.sz)) (u := .tuple #[]) ?_ ?_
          · simp [execOp, hop, resolve, invoke, builtin, Builtin.delete_, hxv, run_underlying ht, hg, hck, hfk, run_setB hb _ ⟨_, _, rfl⟩]
          · exact map_post (v := .tup []) hm hf hr.1 hob hρ hb (cont_erase hr.1 hr.2.1 hl hnd hlt hrows (by simpa using (List.getElem?_eq_some_iff.1 g1).1)) ⟨[], rfl, .nil⟩
      · simp at hts
    | [], has => simp [chkArgs] at has
    | [_], has => simp [chkArgs] at has
    | _ :: _ :: _ :: _, has => simp [chkArgs] at has
  · simp at hc
/-! ### Ranging -/
theorem does_rng {key : Nat} {x : Opd} {v : AV} {o1 : Obj} (h2K : 2 * MK ≤ key) (hm : Mem B F ρ s.ob w) (hf : Fr F ρ s.ob s.fr a) (hc : chkRng P o x = true) (h1 : s.opd x = some v) (hfree : s.free key = true)
    (h : v = .ot .nm ∧ o1 = ⟨0, [[.ot .nm]]⟩ ∨ ∃ k o0, v = .mp k ∧ get s.ob k = some o0 ∧ o1 = ⟨o0.sz, [[.mp k, .c (.int .i64 o0.sz)]]⟩) : Does P o a w (Post B F w s.fr a (s.obj key o1).ob (.itr key)) := by
  unfold chkRng at hc
  split at hc
  · rename_i t x' hop
    simp only [Bool.and_eq_true] at hc
    obtain ⟨ht, hx⟩ := hc
    have hr := opd_sound hf hx h1
    have hn := opd_names (key := key) hx h1 hfree
    split at ht
    · rename_i kt e ht'
      have fin : ∀ it : Go.Obj, (Instr.range t (a.eval x')).run P w = .ok (.pointer (some ⟨w.heap.size, 0, none⟩)) (w.alloc it) → (∀ (F' : Facts) (ρ' : Map) (ob' : List (Nat × Obj)), (∀ x v, x.names key = false → AR F ρ s.ob x v → AR F' ρ' ob' x v) → IterC F' ρ' ob' (some it) o1) →
          Does P o a w (Post B F w s.fr a (s.obj key o1).ob (.itr key)) := by
        intro it hrun hI
        obtain ⟨g1, g2⟩ := map_new (key := key) (o1 := o1) (x := it) hm hf hfree fun F' ρ' ob' hT => ⟨fun h => by omega, fun h h' => by omega, fun _ => hI F' ρ' ob' hT⟩
        refine does_value (w' := w.alloc it) (u := .pointer (some ⟨w.heap.size, 0, none⟩)) ?_ ⟨F, _, g1, g2, ⟨h2K, fun o ho => ⟨_, updM_same _ _, rfl⟩⟩, .refl F, (Below.refl _ _).alloc hm.big _, fun _ _ h => .inl h⟩
        simp only [execOp, hop, Sem.run_bind, hrun, Result.andThen_ok, Sem.run_pure]
      rcases h with ⟨rfl, rfl⟩ | ⟨k, o0, rfl, hob, rfl⟩
      · have hv : a.eval x' = .map none := hr
        refine fin (.mapIter none 0 #[] 0) (by simp [Instr.range, run_underlying ht', hv]) fun F' ρ' ob' _ => ⟨_, rfl, .inl ⟨rfl, rfl⟩⟩
      · obtain ⟨p, hρ, hv⟩ := hr.2.2 o0 hob
        obtain ⟨_, hM⟩ := hm.map hr.1 hr.2.1 hob hρ
        obtain ⟨es, hb, _⟩ := hM.list
        have hg : (getObj p.g).run P w = .ok (.map es o0.sz) w := by simp [getObj, Sem.run, hb]
        refine fin (.mapIter (some p.g) o0.sz #[] o0.sz) (by simp [Instr.range, run_underlying ht', hv, hg]) fun F' ρ' ob' hT => ⟨_, rfl, .inr ⟨k, o0.sz, [], p.g, rfl, hT _ _ hn (by rw [← hv]; exact hr), rfl⟩⟩
    · simp at ht
  · simp at hc
theorem does_ent {x : Opd} {key mk : Nat} {o0 om : Obj} {since st k v : AV} {seen : Rows} {b : Int} (hm : Mem B F ρ s.ob w) (hf : Fr F ρ s.ob s.fr a) (hc : chkEnt o x = true) (h1 : s.opd x = some (.itr key)) (hob : get s.ob key = some o0) (hr0 : o0.rows = [.mp mk, since] :: seen) (hom : get s.ob mk = some om)
    (hl : seen.getLast? = some [.c (.int .i64 b)]) (hfd : om.rows.find? (hasBorn b) = some [st, k, v]) (hk : k.isD = true) (hv : v.isD = true) (hsz : om.sz = o0.sz) : Pure P o a w F ρ s (.tup [k, v]) := by
  unfold chkEnt at hc
  split at hc
  · rename_i x' hop
    have hr := opd_sound hf hc h1
    obtain ⟨p, hρ, hxv⟩ := hr.2 o0 hob
    obtain ⟨y, hy, hI⟩ := (hm.own key o0 p hob hρ).2.2.2 hr.1
    rcases hI with ⟨h0, _⟩ | ⟨mk', since', seen', g, h3, h4, rfl⟩
    · rw [hr0] at h0; simp at h0
    · rw [hr0] at h3
      simp only [List.cons.injEq, AV.mp.injEq, and_true] at h3
      obtain ⟨⟨rfl, rfl⟩, rfl⟩ := h3
      obtain ⟨pm, hρm, hgm⟩ := h4.2.2 om hom
      simp only [Value.map.injEq, Option.some.injEq] at hgm; subst hgm
      obtain ⟨_, hM⟩ := hm.map h4.1 h4.2.1 hom hρm
      obtain ⟨es, hb, hlen, hnd, hlt, hrows⟩ := hM.list
      obtain ⟨hb1, as, bs, has, hno⟩ := List.find?_eq_some_iff_append.1 hfd
      have hj : om.rows[as.length]? = some [st, k, v] := by rw [has]; simp
      obtain ⟨e, k', v', g1, g2, g3, g4⟩ := hrows _ _ hj
      simp only [List.cons.injEq, and_true] at g2
      obtain ⟨rfl, rfl, rfl⟩ := g2
      simp only [hasBorn, decide_eq_true_eq] at hb1
      subst hb1
      obtain ⟨ys, hys⟩ : ∃ ys, seen' = ys ++ [e.born] := by
        rw [List.getLast?_map] at hl
        simp only [Option.map_eq_some_iff] at hl
        obtain ⟨b0, hb0, hb2⟩ := hl
        simp only [List.cons.injEq, AV.c.injEq, D.int.injEq, true_and, and_true] at hb2
        have : b0 = e.born := by omega
        subst this
        exact List.getLast?_eq_some_iff.1 hb0
      subst hys
      have hrun := run_entry_at (P := P) w p.g pm.g since' ys.toArray es o0.sz e (by rw [hy]; simp) (by rw [hb, hsz]) (List.mem_of_getElem? g1) hnd
      refine pure_of (u := .tuple #[e.key, e.val]) ?_ ⟨[e.key, e.val], rfl, .cons (g3.to1 hk) (.cons (g4.to1 hv) .nil)⟩
      simp only [execOp, hop, hxv, Sem.run_bind, hrun, Result.andThen_ok, Sem.run_pure]
  · simp at hc
end
end Go.Am
