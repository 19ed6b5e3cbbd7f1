/- Literals, make, min, max; every operation. -/
import Derived.Test.YtdnmppikakpdiaaAf
import Derived.Laws.MakeOwn
set_option linter.unusedVariables false
namespace Go.Am
open Go.RowKit
section
variable {P : Program} {B : Nat} {F F' : Facts} {ρ ρ' : Map} {s : St} {a : Go.Act} {w w' : World} {o : Oper} {ob ob' : List (Nat × Obj)}

/-! ### min, max -/
theorem minL_run {k : IntKind} : ∀ {vs : List AV} {us : List Value} {x m : Int}, minL k x vs = some m → All2 (AR F ρ ob) vs us → (us.foldlM Builtin.min2 (.int k x)).run P w = .ok (.int k m) w
  | [], us, x, m, h, hr => by cases hr; simp only [minL, Option.some.injEq] at h; subst h; simp
  | .c (.int k' b) :: vs, us, x, m, h, hr => by
    simp only [minL] at h
    split at h
    · rename_i hk; subst hk
      cases hr with
      | cons h1 h2 =>
        have e1 := DR.int_ h1
        subst e1
        simp only [List.foldlM_cons, Sem.run_bind, Builtin.min2, Sem.run_pure, Result.andThen_ok]
        exact minL_run h h2
    · simp at h
  | .c (.bool _) :: _, _, _, _, h, _ => by simp [minL] at h
  | .c (.str _) :: _, _, _, _, h, _ => by simp [minL] at h
  | .c (.vs _ _) :: _, _, _, _, h, _ => by simp [minL] at h
  | .agg _ :: _, _, _, _, h, _ => by simp [minL] at h
  | .nil _ :: _, _, _, _, h, _ => by simp [minL] at h
  | .sl .. :: _, _, _, _, h, _ => by simp [minL] at h
  | .loc .. :: _, _, _, _, h, _ => by simp [minL] at h
  | .vp .. :: _, _, _, _, h, _ => by simp [minL] at h
  | .tup _ :: _, _, _, _, h, _ => by simp [minL] at h
  | .mp _ :: _, _, _, _, h, _ => by simp [minL] at h
  | .itr _ :: _, _, _, _, h, _ => by simp [minL] at h
  | .ags _ :: _, _, _, _, h, _ => by simp [minL] at h
  | .clo _ _ :: _, _, _, _, h, _ => by simp [minL] at h
theorem maxL_run {k : IntKind} : ∀ {vs : List AV} {us : List Value} {x m : Int}, maxL k x vs = some m → All2 (AR F ρ ob) vs us → (us.foldlM Builtin.max2 (.int k x)).run P w = .ok (.int k m) w
  | [], us, x, m, h, hr => by cases hr; simp only [maxL, Option.some.injEq] at h; subst h; simp
  | .c (.int k' b) :: vs, us, x, m, h, hr => by
    simp only [maxL] at h
    split at h
    · rename_i hk; subst hk
      cases hr with
      | cons h1 h2 =>
        have e1 := DR.int_ h1
        subst e1
        simp only [List.foldlM_cons, Sem.run_bind, Builtin.max2, Sem.run_pure, Result.andThen_ok]
        exact maxL_run h h2
    · simp at h
  | .c (.bool _) :: _, _, _, _, h, _ => by simp [maxL] at h
  | .c (.str _) :: _, _, _, _, h, _ => by simp [maxL] at h
  | .c (.vs _ _) :: _, _, _, _, h, _ => by simp [maxL] at h
  | .agg _ :: _, _, _, _, h, _ => by simp [maxL] at h
  | .nil _ :: _, _, _, _, h, _ => by simp [maxL] at h
  | .sl .. :: _, _, _, _, h, _ => by simp [maxL] at h
  | .loc .. :: _, _, _, _, h, _ => by simp [maxL] at h
  | .vp .. :: _, _, _, _, h, _ => by simp [maxL] at h
  | .tup _ :: _, _, _, _, h, _ => by simp [maxL] at h
  | .mp _ :: _, _, _, _, h, _ => by simp [maxL] at h
  | .itr _ :: _, _, _, _, h, _ => by simp [maxL] at h
  | .ags _ :: _, _, _, _, h, _ => by simp [maxL] at h
  | .clo _ _ :: _, _, _, _, h, _ => by simp [maxL] at h
def chkMn (o : Oper) (x : Opd) (xs : List Opd) : Bool := match o.op with
  | .call { callee := .builtin .min, args, argTypes := _ } => chkArgs args.toList (x :: xs)
  | _ => false
def chkMx (o : Oper) (x : Opd) (xs : List Opd) : Bool := match o.op with
  | .call { callee := .builtin .max, args, argTypes := _ } => chkArgs args.toList (x :: xs)
  | _ => false
theorem does_mn {x : Opd} {xs : List Opd} {k : IntKind} {n m : Int} {vs : List AV} (hf : Fr F ρ s.ob s.fr a) (hc : chkMn o x xs = true) (h1 : s.opd x = some (.c (.int k n))) (h2 : s.opds xs = some vs) (h : minL k n vs = some m) : Pure P o a w F ρ s (.c (.int k m)) := by
  unfold chkMn at hc
  split at hc
  · rename_i args ats hop
    obtain ⟨l⟩ := args
    match l, hc with
    | x' :: xs', hc =>
      simp only [chkArgs, Bool.and_eq_true] at hc
      have e1 := DR.int_ (opd_sound hf hc.1 h1)
      have hall := opds_sound hf hc.2 h2
      refine pure_of (u := .int k m) ?_ (.int _ _)
      have := minL_run (P := P) (w := w) h hall
      simp [execOp, hop, resolve, invoke, builtin, Builtin.min_, e1, this]
    | [], hc => simp [chkArgs] at hc
  · simp at hc
theorem does_mx {x : Opd} {xs : List Opd} {k : IntKind} {n m : Int} {vs : List AV} (hf : Fr F ρ s.ob s.fr a) (hc : chkMx o x xs = true) (h1 : s.opd x = some (.c (.int k n))) (h2 : s.opds xs = some vs) (h : maxL k n vs = some m) : Pure P o a w F ρ s (.c (.int k m)) := by
  unfold chkMx at hc
  split at hc
  · rename_i args ats hop
    obtain ⟨l⟩ := args
    match l, hc with
    | x' :: xs', hc =>
      simp only [chkArgs, Bool.and_eq_true] at hc
      have e1 := DR.int_ (opd_sound hf hc.1 h1)
      have hall := opds_sound hf hc.2 h2
      refine pure_of (u := .int k m) ?_ (.int _ _)
      have := maxL_run (P := P) (w := w) h hall
      simp [execOp, hop, resolve, invoke, builtin, Builtin.max_, e1, this]
    | [], hc => simp [chkArgs] at hc
  · simp at hc

/-! ### Make -/
def chkMks (P : Program) (o : Oper) (bytes : Nat) (zero : List AV) (n c : Opd) : Bool := match o.op with
  | .makeSlice t n' c' => chkO n' n && chkO c' c && (match P.underlying t with
    | some (.slice e) => (match P.info? e with | some i => i.size == zero.length && i.bytes == bytes && (match i.zero with | some z => cstL zero z.cells.toList | none => false) | none => false)
    | _ => false) && decide (0 < bytes) && decide (0 < zero.length)
  | _ => false
theorem does_mks {key bytes m k : Nat} {zero : List AV} {n c : Opd} {p q : AV} (hK : key < MK) (hTy : tyKey P o key = true) (hm : Mem B F ρ s.ob w) (hf : Fr F ρ s.ob s.fr a) (hc : chkMks P o bytes zero n c = true) (h1 : s.opd n = some p) (h2 : s.opd c = some q) (hp : asNat p = some m) (hq : asNat q = some k)
    (hmk : m ≤ k) (hroom : room k bytes = true) (hfree : s.free key = true) : Does P o a w (Post B F w s.fr a (s.obj key ⟨zero.length, List.replicate m zero⟩).ob (.sl key m 0 m)) := by
  unfold chkMks at hc
  split at hc
  · rename_i t n' c' hop
    simp only [Bool.and_eq_true, decide_eq_true_eq] at hc
    obtain ⟨⟨⟨⟨hn, hcc⟩, ht⟩, hb⟩, hz0⟩ := hc
    split at ht
    · rename_i e he
      split at ht
      · rename_i i hi
        simp only [Bool.and_eq_true, beq_iff_eq] at ht
        obtain ⟨⟨hsz, hby⟩, hz⟩ := ht
        split at hz
        · rename_i z hz'
          obtain ⟨g1, g2, g3⟩ := cstL_sound (F := F) (ρ := ρ) (ob := s.ob) hz
          obtain ⟨kl, l, e1, hl, rfl⟩ := asNat_spec hp (opd_sound hf hn h1)
          obtain ⟨kc, c0, e2, hc0, rfl⟩ := asNat_spec hq (opd_sound hf hcc h2)
          have hr := room_spec hroom
          have hkb : c0.toNat ≤ c0.toNat * bytes := Nat.le_mul_of_pos_right _ hb
          have hbb : (i.bytes : Int) * c0 ≤ 281474976710656 := by
            rw [hby]
            have h3 : ((bytes * c0.toNat : Nat) : Int) ≤ 281474976710656 := by rw [Nat.mul_comm]; omega
            rw [Int.natCast_mul, Int.toNat_of_nonneg hc0] at h3
            exact h3
          have hrun := run_make (P := P) w t e i z he hi hz' kl kc l c0 hl (by omega) hbb (by omega)
          obtain ⟨hT, hFr⟩ := free_ar (F := F) (ρ := ρ) (a := a) (o' := ⟨zero.length, List.replicate l.toNat zero⟩) (p' := some ⟨w.heap.size, zero.length, c0.toNat, 0⟩) hfree
          refine does_value (w' := w.alloc (.cells (madeCells z.cells (c0.toNat * i.size)) e)) (u := .slice (some ⟨w.heap.size, 0, none⟩) l.toNat c0.toNat) ?_ ⟨F, updM ρ key (some ⟨w.heap.size, zero.length, c0.toNat, 0⟩), ?_, hFr hf, sl_ar hK (p := ⟨w.heap.size, zero.length, c0.toNat, 0⟩) (by simp) obj_same (updM_same _ _) hmk, .refl F, (Below.refl _ _).alloc hm.big _, fun _ _ h => .inl h⟩
          · simp [execOp, hop, e1, e2, hrun]
          · have hzl : zero.length = z.cells.size := by rw [g1.length]; simp
            refine Mem.change0 (et := e) hK (by simp only [tyKey, hop, he] at hTy; exact tyKey_or (o := o) hTy rfl) hm hm.big (.inr (Nat.le_refl _)) (by simp) (fun k hk _ => Below.heap_alloc w _ k hk) (heap_alloc_new w _) (by rw [size_madeCells, hsz]) (by simpa using hmk) rfl (fun r hr => by rw [(List.mem_replicate.1 hr).2]) hT ?_
            intro i' r j x hi' hj
            have hr' := (List.mem_replicate.1 (List.mem_of_getElem? hi')).2
            subst hr'
            have hil : i' < l.toNat := by have := (List.getElem?_eq_some_iff.1 hi').1; simpa using this
            have hjl := (List.getElem?_eq_some_iff.1 hj).1
            obtain ⟨u, hu, har⟩ := g1.get? j x hj
            have hx := List.mem_of_getElem? hj
            refine ⟨g2 x hx, u, ?_, har.upd (g3 key x hx) (fun k hk => updM_other _ hk) (fun k hk => obj_other hk)⟩
            have hlt : i' * r.length + j < c0.toNat * i.size := by
              rw [hsz]
              have h4 : (i' + 1) * r.length ≤ c0.toNat * r.length := Nat.mul_le_mul_right _ (by omega)
              rw [Nat.add_mul, Nat.one_mul] at h4; omega
            have hmod : (i' * r.length + j) % z.cells.size = j := by rw [← hzl, Nat.mul_comm, Nat.mul_add_mod, Nat.mod_eq_of_lt hjl]
            have hu' : z.cells[j]? = some u := by simpa using hu
            have hjz : j < z.cells.size := by rw [← hzl]; exact hjl
            simp only [madeCells, Array.getElem?_map, Array.getElem?_range, hlt, if_true, Option.map_some, hmod]
            rw [getElem!_pos z.cells j hjz]
            rw [Array.getElem?_eq_getElem hjz] at hu'
            exact hu'
        · simp at hz
      · simp at ht
    · simp at ht
  · simp at hc

/-! ### Literals -/
theorem foldl_splice (off : Nat) : ∀ (us : List Value) (k : Nat) (cells : Array Value), off + k + us.length ≤ cells.size →
    (((us.zipIdx k).foldl (fun (cs : Array Value) (p : Value × Nat) => cs.setIfInBounds (off + p.2) p.1) cells).toList = splice cells.toList (off + k) us)
  | [], k, cells, h => by simp [splice]
  | u :: us, k, cells, h => by
    simp only [List.zipIdx_cons, List.foldl_cons]
    simp only [List.length_cons] at h
    rw [foldl_splice off us (k + 1) _ (by simp; omega)]
    apply List.ext_getElem?
    intro j
    rw [splice_get (by simp; omega), splice_get (by simp; omega)]
    simp only [List.length_cons]
    by_cases h1 : j = off + k
    · subst h1
      rw [if_neg (by omega), if_pos (by omega), Nat.sub_self]
      simp [show off + k < cells.size by omega]
    · by_cases h2 : off + k ≤ j ∧ j < off + k + (us.length + 1)
      · rw [if_pos (by omega), if_pos h2]
        rw [show j - (off + k) = (j - (off + (k + 1))) + 1 by omega, List.getElem?_cons_succ]
      · rw [if_neg (by omega), if_neg h2]
        simp [Ne.symm h1]
def chkParts (place : Nat → Option (Nat × Nat)) : List (Nat × Operand) → List (Nat × Nat × Opd) → Bool
  | [], [] => true
  | (i, x) :: xs, (off, sz, y) :: ys => (match place i with | some (o, z) => o == off && z == sz | none => false) && chkO x y && chkParts place xs ys
  | _, _ => false
theorem dcells_sound {x : AV} {cs : List D} {v : Value} (h : x.dcells = some cs) (hr : RR F x v) : ∃ us : List Value, v.cells = us.toArray ∧ All2 (DR F) cs us := by
  unfold AV.dcells at h
  split at h
  · simp only [Option.some.injEq] at h; subst h
    exact ⟨[v], DR.cells hr, .cons hr .nil⟩
  · simp only [Option.some.injEq] at h; subst h
    obtain ⟨us, rfl, hus⟩ := hr
    exact ⟨us, rfl, hus⟩
  · simp [RR] at hr
  · simp at h
theorem parts_sound {place : Nat → Option (Nat × Nat)} (hm : Mem B F ρ s.ob w) (hf : Fr F ρ s.ob s.fr a) : ∀ {xs : List (Nat × Operand)} {ys : List (Nat × Nat × Opd)} {ps : List (Nat × List D)} {ks : List Nat} {zero cs : List D} {us : List Value} {G : Facts},
    chkParts place xs ys = true → s.parts ys = some (ps, ks) → putParts zero ps = some cs → All2 (DR G) zero us → (FrzF F ρ s.ob ks w).le G →
    ∃ us' : List Value, Instr.fill place us.toArray (xs.map fun p => (p.1, a.eval p.2)) = some us'.toArray ∧ All2 (DR G) cs us'
  | [], [], ps, ks, zero, cs, us, G, _, h, hp, hz, hG => by
    simp only [St.parts, Option.some.injEq, Prod.mk.injEq] at h
    obtain ⟨rfl, rfl⟩ := h
    simp only [putParts, Option.some.injEq] at hp; subst hp
    exact ⟨us, rfl, hz⟩
  | (i, x) :: xs, (off, sz, y) :: ys, ps, ks, zero, cs, us, G, hc, h, hp, hz, hG => by
    simp only [chkParts, Bool.and_eq_true] at hc
    obtain ⟨⟨hpl, hx⟩, hc⟩ := hc
    simp only [St.parts] at h
    split at h
    · simp at h
    · rename_i v hv
      split at h
      · simp at h
      · rename_i d k hfrz
        split at h
        · rename_i ds ps' ks' hd hps
          split at h
          · rename_i hlen
            simp only [Option.some.injEq, Prod.mk.injEq] at h
            obtain ⟨rfl, rfl⟩ := h
            simp only [putParts] at hp
            split at hp
            · rename_i hle
              have hrr := (frz_sound hm hfrz (opd_sound hf hx hv)).mono ((FrzF.mono (ks' := k.toList ++ ks') (by intro k' hk'; simp at hk'; simp [hk'])).trans hG)
              obtain ⟨vs, hvs, hall⟩ := dcells_sound hd hrr
              split at hpl
              · rename_i o' z' hplace
                simp only [Bool.and_eq_true, beq_iff_eq] at hpl
                obtain ⟨rfl, rfl⟩ := hpl
                have hzl := hz.length
                have hvl := hall.length
                have hsp : All2 (DR G) (splice zero o' ds) (splice us o' vs) := by
                  unfold splice
                  rw [← hvl]
                  exact ((hz.take _).append hall).append (hz.drop _)
                obtain ⟨us', hfill, hres⟩ := parts_sound hm hf hc hps hp hsp ((FrzF.mono (by intro k' hk'; simp [hk'])).trans hG)
                refine ⟨us', ?_, hres⟩
                simp only [List.map_cons, Instr.fill, hplace]
                have hvsz : (a.eval x).cells.size = vs.length := by rw [hvs]; simp
                rw [if_neg (by rw [hvsz]; simp; omega)]
                rw [← hfill]
                congr 1
                rw [← Array.toList_inj]
                rw [hvs]
                have := foldl_splice o' vs 0 us.toArray (by simp; omega)
                have hzip : vs.toArray.zipIdx = vs.zipIdx.toArray := by rw [← Array.toList_inj, Array.toList_zipIdx]
                rw [hzip, List.foldl_toArray]
                exact this
              · simp at hpl
            · simp at hp
          · simp at h
        · simp at h
  | [], _ :: _, _, _, _, _, _, _, hc, _, _, _, _ => by simp [chkParts] at hc
  | _ :: _, [], _, _, _, _, _, _, hc, _, _, _, _ => by simp [chkParts] at hc

def placesOf (P : Program) (t : TypeId) : Nat → Option (Nat × Nat) := fun i => match P.underlying t with
  | some (.struct fs) => (fs[i]?).map fun f => (f.offset, P.cellsOf f.type)
  | some (.array _ e) => some (i * P.cellsOf e, P.cellsOf e)
  | _ => none
def tyOk (P : Program) (t : TypeId) : Bool := match P.underlying t with
  | some (.struct fs) => fs.toList.all fun f => (P.info? f.type).isSome
  | some (.array _ e) => (P.info? e).isSome
  | _ => false
def cstDL (ds : List D) (vs : List Value) : Bool := cstDs ds vs
def chkBld (P : Program) (o : Oper) (zero : List D) (ps : List (Nat × Nat × Opd)) : Bool := match o.op with
  | .build t parts => tyOk P t && zeroOk P t (fun z => cstDs zero z.cells.toList) && chkParts (placesOf P t) parts.toList ps
  | _ => false
theorem sizeOf_info {t : TypeId} {i : TypeInfo} (h : P.info? t = some i) : (sizeOf t).run P w = .ok (P.cellsOf t) w := by simp [sizeOf, typeInfo, h, Program.cellsOf]
theorem mapM_places (w : World) : ∀ (fs : List Field), (∀ f ∈ fs, (P.info? f.type).isSome = true) → (fs.mapM fun f => do pure (f.offset, ← sizeOf f.type) : Sem (List (Nat × Nat))).run P w = .ok (fs.map fun f => (f.offset, P.cellsOf f.type)) w
  | [], _ => by simp
  | f :: fs, h => by
    obtain ⟨i, hi⟩ := Option.isSome_iff_exists.1 (h f (by simp))
    have ih := mapM_places w fs (fun f hf => h f (by simp [hf]))
    simp only [List.mapM_cons, Sem.run_bind, sizeOf_info hi, Result.andThen_ok, Sem.run_pure, ih, List.map_cons]
theorem does_bld {zero cs : List D} {ps : List (Nat × Nat × Opd)} {xs : List (Nat × List D)} {ks : List Nat} (hm : Mem B F ρ s.ob w) (hf : Fr F ρ s.ob s.fr a) (hc : chkBld P o zero ps = true) (h1 : s.parts ps = some (xs, ks)) (h2 : putParts zero xs = some cs) :
    Does P o a w (Post B F w s.fr a (kill s ks).ob (.agg cs)) := by
  unfold chkBld at hc
  split at hc
  · rename_i t parts hop
    simp only [Bool.and_eq_true] at hc
    obtain ⟨⟨hty, hz⟩, hparts⟩ := hc
    obtain ⟨i, z, hi, hz', hzc⟩ := zeroOk_spec hz
    have hzall := cstDs_sound (F := FrzF F ρ s.ob ks w) hzc
    obtain ⟨us, hfill, hall⟩ := parts_sound hm hf hparts h1 h2 hzall (.refl _)
    have hfill' : Instr.fill (placesOf P t) z.cells (parts.toList.map fun p => (p.1, a.eval p.2)) = some us.toArray := by simpa using hfill
    refine does_value (w' := w) (u := .agg us.toArray) ?_ ⟨FrzF F ρ s.ob ks w, ρ, hm.kill, (hf.mono FrzF.le).sub (kill_sub ks s), ⟨us, rfl, hall⟩, FrzF.le, .refl B w, fun _ _ h => FrzF.new hm h⟩
    have hmap : (Array.map (fun (p : Nat × Operand) => (p.1, a.eval p.2)) parts).toList = parts.toList.map fun p => (p.1, a.eval p.2) := by simp
    unfold tyOk at hty
    split at hty
    · rename_i fs ht
      have hpl : (fun (i : Nat) => (fs.toList.map fun f => (f.offset, P.cellsOf f.type)).toArray[i]?) = placesOf P t := by
        funext i; simp [placesOf, ht]
      have hm2 := mapM_places (P := P) w fs.toList (List.all_eq_true.1 hty)
      have hrun : (fs.mapM fun f => do pure (f.offset, ← sizeOf f.type) : Sem (Array (Nat × Nat))).run P w = .ok (fs.toList.map fun f => (f.offset, P.cellsOf f.type)).toArray w := by
        rw [Array.mapM_eq_mapM_toList, Sem.run_map, hm2]; rfl
      simp only [execOp, hop, Sem.run_bind, Instr.build, zeroValue, typeInfo, run_program, Result.andThen_ok, hi, Sem.run_pure, hz', run_underlying ht, hrun, hpl, hmap, hfill']
    · rename_i n e ht
      obtain ⟨ie, hie⟩ := Option.isSome_iff_exists.1 hty
      have hpl : (fun (i : Nat) => some (i * P.cellsOf e, P.cellsOf e)) = placesOf P t := by
        funext i; simp [placesOf, ht]
      simp only [execOp, hop, Sem.run_bind, Instr.build, zeroValue, typeInfo, run_program, Result.andThen_ok, hi, Sem.run_pure, hz', run_underlying ht, sizeOf_info hie, hpl, hmap, hfill']
    · simp at hty
  · simp at hc

theorem AR.one1 {x : AV} {v : Value} (h1 : x.one = true) (h : AR F ρ s.ob x v) : AR1 F ρ s.ob x v :=
  h.to1 (by cases x <;> simp_all [AV.one, AV.isD])
theorem All2.one1 : ∀ {cs : List AV} {vs : List Value}, All2 (AR F ρ s.ob) cs vs → (∀ c ∈ cs, c.one = true) → All2 (AR1 F ρ s.ob) cs vs
  | _, _, .nil, _ => .nil
  | _, _, .cons h r, hc => .cons (AR.one1 (hc _ (by simp)) h) (All2.one1 r fun c h => hc c (by simp [h]))
theorem partsA_sound {place : Nat → Option (Nat × Nat)} (hf : Fr F ρ s.ob s.fr a) : ∀ {xs : List (Nat × Operand)} {ys : List (Nat × Nat × Opd)} {ps : List (Nat × List AV)} {zero cs : List AV} {us : List Value},
    chkParts place xs ys = true → s.partsA ys = some ps → putParts zero ps = some cs → All2 (AR1 F ρ s.ob) zero us → (∀ u ∈ us, u.oneCell' = true) →
    ∃ us' : List Value, Instr.fill place us.toArray (xs.map fun p => (p.1, a.eval p.2)) = some us'.toArray ∧ All2 (AR1 F ρ s.ob) cs us' ∧ ∀ u ∈ us', u.oneCell' = true
  | [], [], ps, zero, cs, us, _, h, hp, hz, ho => by
    simp only [St.partsA, Option.some.injEq] at h
    subst h
    simp only [putParts, Option.some.injEq] at hp; subst hp
    exact ⟨us, rfl, hz, ho⟩
  | (i, x) :: xs, (off, sz, y) :: ys, ps, zero, cs, us, hc, h, hp, hz, ho => by
    simp only [chkParts, Bool.and_eq_true] at hc
    obtain ⟨⟨hpl, hx⟩, hc⟩ := hc
    simp only [St.partsA] at h
    split at h
    · simp at h
    · rename_i v hv
      split at h
      · rename_i ds ps' hd hps
        split at h
        · rename_i hlen
          simp only [Option.some.injEq] at h
          subst h
          simp only [putParts] at hp
          split at hp
          · rename_i hle
            obtain ⟨vs, hvs, hall, hvo, hone, _⟩ := cellsOf_sound hd (opd_sound hf hx hv)
            have hall := All2.one1 hall hone
            split at hpl
            · rename_i o' z' hplace
              simp only [Bool.and_eq_true, beq_iff_eq] at hpl
              obtain ⟨rfl, rfl⟩ := hpl
              have hzl := hz.length
              have hvl := hall.length
              have hsp : All2 (AR1 F ρ s.ob) (splice zero o' ds) (splice us o' vs) := by
                unfold splice
                rw [← hvl]
                exact ((hz.take _).append hall).append (hz.drop _)
              have hso : ∀ u ∈ splice us o' vs, u.oneCell' = true := by
                intro u hu
                simp only [splice, List.mem_append] at hu
                rcases hu with (hu | hu) | hu
                · exact ho u (List.mem_of_mem_take hu)
                · exact hvo u hu
                · exact ho u (List.mem_of_mem_drop hu)
              obtain ⟨us', hfill, hres⟩ := partsA_sound hf hc hps hp hsp hso
              refine ⟨us', ?_, hres⟩
              simp only [List.map_cons, Instr.fill, hplace]
              have hvsz : (a.eval x).cells.size = vs.length := by rw [hvs]; simp
              rw [if_neg (by rw [hvsz]; simp; omega)]
              rw [← hfill]
              congr 1
              rw [← Array.toList_inj]
              rw [hvs]
              have := foldl_splice o' vs 0 us.toArray (by simp; omega)
              have hzip : vs.toArray.zipIdx = vs.zipIdx.toArray := by rw [← Array.toList_inj, Array.toList_zipIdx]
              rw [hzip, List.foldl_toArray]
              exact this
            · simp at hpl
          · simp at hp
        · simp at h
      · simp at h
  | [], _ :: _, _, _, _, _, hc, _, _, _, _ => by simp [chkParts] at hc
  | _ :: _, [], _, _, _, _, hc, _, _, _, _ => by simp [chkParts] at hc
def chkBldA (P : Program) (o : Oper) (zero : List AV) (ps : List (Nat × Nat × Opd)) : Bool := match o.op with
  | .build t parts => tyOk P t && zeroOk P t (fun z => cstL zero z.cells.toList && z.cells.toList.all Value.oneCell') && chkParts (placesOf P t) parts.toList ps
  | _ => false
theorem does_bldA {zero cs : List AV} {ps : List (Nat × Nat × Opd)} {xs : List (Nat × List AV)} (hm : Mem B F ρ s.ob w) (hf : Fr F ρ s.ob s.fr a) (hc : chkBldA P o zero ps = true) (h1 : s.partsA ps = some xs) (h2 : putParts zero xs = some cs) :
    Does P o a w (Post B F w s.fr a s.ob (.ags cs)) := by
  unfold chkBldA at hc
  split at hc
  · rename_i t parts hop
    simp only [Bool.and_eq_true] at hc
    obtain ⟨⟨hty, hz⟩, hparts⟩ := hc
    obtain ⟨i, z, hi, hz', hzc⟩ := zeroOk_spec hz
    simp only [Bool.and_eq_true, List.all_eq_true] at hzc
    obtain ⟨g1, g2, _⟩ := cstL_sound (F := F) (ρ := ρ) (ob := s.ob) hzc.1
    obtain ⟨us, hfill, hall, hone⟩ := partsA_sound hf hparts h1 h2 (All2.one1 g1 g2) hzc.2
    have hfill' : Instr.fill (placesOf P t) z.cells (parts.toList.map fun p => (p.1, a.eval p.2)) = some us.toArray := by simpa using hfill
    refine does_value (w' := w) (u := .agg us.toArray) ?_ ⟨F, ρ, hm, hf, ⟨us, rfl, hall, hone⟩, .refl B F w⟩
    have hmap : (Array.map (fun (p : Nat × Operand) => (p.1, a.eval p.2)) parts).toList = parts.toList.map fun p => (p.1, a.eval p.2) := by simp
    unfold tyOk at hty
    split at hty
    · rename_i fs ht
      have hpl : (fun (i : Nat) => (fs.toList.map fun f => (f.offset, P.cellsOf f.type)).toArray[i]?) = placesOf P t := by
        funext i; simp [placesOf, ht]
      have hm2 := mapM_places (P := P) w fs.toList (List.all_eq_true.1 hty)
      have hrun : (fs.mapM fun f => do pure (f.offset, ← sizeOf f.type) : Sem (Array (Nat × Nat))).run P w = .ok (fs.toList.map fun f => (f.offset, P.cellsOf f.type)).toArray w := by
        rw [Array.mapM_eq_mapM_toList, Sem.run_map, hm2]; rfl
      simp only [execOp, hop, Sem.run_bind, Instr.build, zeroValue, typeInfo, run_program, Result.andThen_ok, hi, Sem.run_pure, hz', run_underlying ht, hrun, hpl, hmap, hfill']
    · rename_i n e ht
      obtain ⟨ie, hie⟩ := Option.isSome_iff_exists.1 hty
      have hpl : (fun (i : Nat) => some (i * P.cellsOf e, P.cellsOf e)) = placesOf P t := by
        funext i; simp [placesOf, ht]
      simp only [execOp, hop, Sem.run_bind, Instr.build, zeroValue, typeInfo, run_program, Result.andThen_ok, hi, Sem.run_pure, hz', run_underlying ht, sizeOf_info hie, hpl, hmap, hfill']
    · simp at hty
  · simp at hc

theorem does_ldF {x : Opd} {sz : Nat} {p : AV} {q : List D × List Nat} (hm : Mem B F ρ s.ob w) (hf : Fr F ρ s.ob s.fr a) (hc : chkLd P o x sz true = true) (h1 : s.opd x = some p) (h : s.loadF p sz = some q) :
    Does P o a w (Post B F w s.fr a (kill s q.2).ob (.agg q.1)) := by
  unfold chkLd at hc
  split at hc
  · rename_i t x' hop
    simp only [Bool.and_eq_true, Bool.or_eq_true, beq_iff_eq] at hc
    obtain ⟨⟨⟨hx, hsz⟩, hag⟩, _⟩ := hc
    have hr := opd_sound hf hx h1
    unfold St.loadF at h
    split at h
    · rename_i key row off
      split at h
      · simp at h
      · rename_i ob hob
        split at h
        · simp at h
        · rename_i r hrow
          split at h
          · rename_i hle
            split at h
            · rename_i ds ks hfz
              simp only [Option.map_eq_some_iff] at h
              obtain ⟨cs, hcs, rfl⟩ := h
              obtain ⟨pl, hρ, hv⟩ := hr.2 ob hob
              have hlen0 : ((r.drop off).take sz).length = sz := by simp; omega
              have hcell : ∀ (j : Nat) (y : AV), ((r.drop off).take sz)[j]? = some y → ∃ u, w.cell? ⟨pl.g, pl.o + row * pl.sz + off + j, none⟩ = some u ∧ AR F ρ s.ob y u := by
                intro j y hy
                have hj : j < sz := by rw [← hlen0]; exact (List.getElem?_eq_some_iff.1 hy).1
                rw [List.getElem?_take, if_pos hj, List.getElem?_drop] at hy
                obtain ⟨u, hu, har, _⟩ := hm.cell hr.1 hob hρ hrow hy
                exact ⟨u, by rw [Nat.add_assoc]; exact hu, har⟩
              obtain ⟨us, hus⟩ : ∃ us : List Value, (List.range sz).map (fun j => (w.cell? ⟨pl.g, pl.o + row * pl.sz + off + j, none⟩).getD undef) = us := ⟨_, rfl⟩
              have husl : us.length = sz := by rw [← hus]; simp
              have hall : All2 (AR F ρ s.ob) ((r.drop off).take sz) us := by
                refine All2.of_get (by rw [hlen0, husl]) fun j y hy => ?_
                have hj : j < sz := by rw [← hlen0]; exact (List.getElem?_eq_some_iff.1 hy).1
                obtain ⟨u, hu, har⟩ := hcell j y hy
                exact ⟨u, by rw [← hus]; simp [hj, hu], har⟩
              have hf2 := frzs_sound hm hfz hall
              obtain ⟨hl, hget⟩ := allD_get hcs
              have hres : All2 (DR (FrzF F ρ s.ob ks w)) cs us := by
                refine All2.of_get (by rw [← hl, hf2.length]) fun j d hd => ?_
                obtain ⟨y, hy, hyd⟩ := hget j d hd
                obtain ⟨u, hu, hrr⟩ := hf2.get? j y hy
                refine ⟨u, hu, ?_⟩
                rcases hyd with rfl | ⟨z, rfl, rfl⟩
                · exact hrr
                · simp [RR] at hrr
              refine does_value (w' := w) (u := .agg us.toArray) ?_ ⟨FrzF F ρ s.ob ks w, ρ, hm.kill, (hf.mono FrzF.le).sub (kill_sub ks s), ⟨us, rfl, hres⟩, FrzF.le, .refl B w, fun _ _ h => FrzF.new hm h⟩
              have hlo := run_loadCells_list (P := P) w ⟨pl.g, pl.o + row * pl.sz + off, none⟩ us (by
                intro j y hj
                have hjs : j < sz := by rw [← husl]; exact (List.getElem?_eq_some_iff.1 hj).1
                rw [← hus] at hj
                simp [hjs] at hj; subst hj
                obtain ⟨u, hu, _⟩ := hcell j (((r.drop off).take sz)[j]'(by omega)) (List.getElem?_eq_getElem (by omega))
                rw [Addr.add_mk, hu]; rfl)
              rw [husl] at hlo
              simp [execOp, hop, hv, Instr.loadAt, sureAddr_ok, loadVar, run_isAgg hag, run_sized hsz, hlo]
            · simp at h
          · simp at h
    · simp at h
  · simp at hc

theorem rowsOf_get (sz : Nat) : ∀ (n : Nat) (cs : List D), cs.length = n * sz → (rowsOf sz n cs).length = n ∧ (∀ r ∈ rowsOf sz n cs, r.length = sz) ∧ ∀ (i : Nat) (r : List D) (j : Nat) (d : D), (rowsOf sz n cs)[i]? = some r → r[j]? = some d → cs[i * sz + j]? = some d ∧ j < sz ∧ i < n
  | 0, cs, h => by simp [rowsOf]
  | n + 1, cs, h => by
    have hl : sz ≤ cs.length := by rw [h, Nat.add_mul, Nat.one_mul]; omega
    obtain ⟨h1, h2, h3⟩ := rowsOf_get sz n (cs.drop sz) (by rw [List.length_drop, h, Nat.add_mul, Nat.one_mul]; omega)
    refine ⟨by simp [rowsOf, h1], ?_, ?_⟩
    · intro r hr
      simp only [rowsOf, List.mem_cons] at hr
      rcases hr with rfl | hr
      · simp; omega
      · exact h2 r hr
    · intro i r j d hi hj
      cases i with
      | zero =>
        simp [rowsOf] at hi; subst hi
        rw [List.getElem?_take] at hj
        split at hj
        · rename_i hjs; exact ⟨by simpa using hj, hjs, by omega⟩
        · simp at hj
      | succ i =>
        simp [rowsOf] at hi
        obtain ⟨q1, q2, q3⟩ := h3 i r j d hi hj
        rw [List.getElem?_drop] at q1
        exact ⟨by rw [Nat.add_mul, Nat.one_mul, show i * sz + sz + j = sz + (i * sz + j) by omega]; exact q1, q2, by omega⟩
theorem repl_all {R : D → Value → Prop} {zero : List D} {z : List Value} (h : All2 R zero z) : ∀ n, All2 R (repl zero n) (List.replicate n z).flatten
  | 0 => .nil
  | n + 1 => by simp only [repl, List.replicate_succ, List.flatten_cons]; exact h.append (repl_all h n)
theorem flatten_rep_get {z : List Value} (hz : 0 < z.length) : ∀ (n q : Nat), q < n * z.length → (List.replicate n z).flatten[q]? = z[q % z.length]?
  | 0, q, h => by simp at h
  | n + 1, q, h => by
    rw [List.replicate_succ, List.flatten_cons]
    by_cases hq : q < z.length
    · rw [List.getElem?_append_left hq, Nat.mod_eq_of_lt hq]
    · rw [List.getElem?_append_right (by omega), flatten_rep_get hz n _ (by rw [Nat.add_mul, Nat.one_mul] at h; omega)]
      rw [← Nat.mod_eq_sub_mod (by omega)]
def chkBsl (P : Program) (o : Oper) (sz : Nat) (zero : List D) (n : Nat) (ps : List (Nat × Nat × Opd)) : Bool := match o.op with
  | .buildSlice t n' parts => n' == n && slOf P t sz && (match P.underlying t with | some (.slice e) => zeroOk P e (fun z => cstDs zero z.cells.toList && z.cells.size == sz) | _ => false) && chkParts (fun i => some (i * sz, sz)) parts.toList ps &&
    decide (0 < sz) && decide (n * sz ≤ 16777216)
  | _ => false
theorem bsl_run {sz n : Nat} {zero cs : List D} {ps : List (Nat × Nat × Opd)} {xs : List (Nat × List D)} {ks : List Nat} (hm : Mem B F ρ s.ob w) (hf : Fr F ρ s.ob s.fr a) (hc : chkBsl P o sz zero n ps = true) (h1 : s.parts ps = some (xs, ks)) (h2 : putParts (repl zero n) xs = some cs) :
    ∃ us e, All2 (DR (FrzF F ρ s.ob ks w)) cs us ∧ cs.length = n * sz ∧ (execOp a.eval o).run P w = .ok (.value (.slice (some ⟨w.heap.size, 0, none⟩) n n)) (w.alloc (.cells us.toArray e)) ∧ ∀ key, tyKey P o key = true → KT ≤ key → e + 1 = key / KT := by
  unfold chkBsl at hc
  split at hc
  · rename_i t n' parts hop
    simp only [Bool.and_eq_true, decide_eq_true_eq, beq_iff_eq] at hc
    obtain ⟨⟨⟨⟨⟨rfl, hsl⟩, hz⟩, hparts⟩, hpos⟩, hbig⟩ := hc
    obtain ⟨e, ti, ht, hti, hsz⟩ := slOf_spec hsl
    rw [ht] at hz
    simp only at hz
    obtain ⟨i, z, hi, hz', hzc⟩ := zeroOk_spec hz
    simp only [Bool.and_eq_true, beq_iff_eq] at hzc
    obtain ⟨hzc, hzsz⟩ := hzc
    rw [hti] at hi; simp only [Option.some.injEq] at hi; subst hi
    have hzl : z.cells.toList.length = sz := by simpa using hzsz
    have hzall := repl_all (cstDs_sound (F := FrzF F ρ s.ob ks w) hzc) n'
    obtain ⟨us, hfill, hall⟩ := parts_sound hm hf hparts h1 h2 hzall (.refl _)
    have hlen : cs.length = n' * sz := by
      have hp : ∀ (l : List (Nat × List D)) (c c' : List D), putParts c l = some c' → c'.length = c.length := by
        intro l
        induction l with
        | nil => intro c c' h; simp only [putParts, Option.some.injEq] at h; rw [h]
        | cons p l ih =>
          intro c c' h
          obtain ⟨off, ds⟩ := p
          simp only [putParts] at h
          split at h
          · rename_i hle; rw [ih _ _ h, splice_length hle]
          · simp at h
      rw [hp _ _ _ h2, hzall.length]
      simp [hzl]
    have hcells : ((Array.range (n' * sz)).map (z.cells[· % z.cells.size]!)) = ((List.replicate n' z.cells.toList).flatten).toArray := by
      rw [← Array.toList_inj]
      apply List.ext_getElem?
      intro q
      by_cases hq : q < n' * sz
      · have hm := flatten_rep_get (z := z.cells.toList) (by omega) n' q (by rw [hzl]; exact hq)
        have hmod : q % z.cells.size < z.cells.size := Nat.mod_lt _ (by omega)
        simp only [Array.toList_map, Array.toList_range, List.getElem?_map, List.getElem?_range, hq, Option.map_some]
        rw [hm, hzl, ← hzsz, getElem!_pos z.cells _ hmod]
        simp [hmod]
      · rw [List.getElem?_eq_none (by simp; omega), List.getElem?_eq_none (by simp [hzl]; omega)]
    have hrun : (Instr.buildSlice t n' (parts.map fun p => (p.1, a.eval p.2))).run P w = .ok (.slice (some ⟨w.heap.size, 0, none⟩) n' n') (w.alloc (.cells us.toArray e)) := by
      have hmap : (Array.map (fun (p : Nat × Operand) => (p.1, a.eval p.2)) parts).toList = parts.toList.map fun p => (p.1, a.eval p.2) := by simp
      have hnb : ¬ (2 ^ 24 < n' * sz) := by omega
      have hsz' : (sizeOf e).run P w = .ok sz w := by simp [sizeOf, typeInfo, hti, hsz]
      by_cases h0 : n' * sz = 0
      · have hus : us = [] := List.eq_nil_of_length_eq_zero (by rw [← hall.length, hlen, h0])
        have hn0 : n' = 0 := by
          rcases Nat.eq_zero_or_pos n' with h | h
          · exact h
          · have := Nat.mul_pos h hpos; omega
        subst hn0
        have hr0 : (List.replicate 0 z.cells.toList).flatten.toArray = #[] := rfl
        rw [hr0] at hfill
        simp [Instr.buildSlice, run_underlying ht, hsz', newRow, Array.range_zero', hfill]
      · simp [Instr.buildSlice, run_underlying ht, hsz', hnb, h0, zeroValue, typeInfo, hti, hz', newRow]
        rw [hcells, hfill]
        rfl
    exact ⟨us, e, hall, hlen, by simp only [execOp, hop, Sem.run_bind, hrun, Result.andThen_ok, Sem.run_pure], fun key hT => by simp only [tyKey, hop, ht] at hT; exact tyKey_or (o := o) hT rfl⟩
  · simp at hc
theorem does_bsl {sz n : Nat} {zero cs : List D} {ps : List (Nat × Nat × Opd)} {xs : List (Nat × List D)} {ks : List Nat} (hm : Mem B F ρ s.ob w) (hf : Fr F ρ s.ob s.fr a) (hc : chkBsl P o sz zero n ps = true) (h1 : s.parts ps = some (xs, ks)) (h2 : putParts (repl zero n) xs = some cs) :
    Does P o a w (Post B F w s.fr a (kill s ks).ob (.c (.vs sz (rowsOf sz n cs)))) := by
  obtain ⟨us, e, hall, hlen, hrun, _⟩ := bsl_run hm hf hc h1 h2
  obtain ⟨r1, r2, r3⟩ := rowsOf_get sz n cs hlen
  have hbel : Below w.heap.size w (w.alloc (.cells us.toArray e)) := (Below.refl _ _).alloc (Nat.le_refl _) _
  let F2 : Facts := fun ad u => FrzF F ρ s.ob ks w ad u ∨ (ad.block = w.heap.size ∧ (w.alloc (.cells us.toArray e)).cell? ad = some u)
  have hF2 : (FrzF F ρ s.ob ks w).le F2 := fun _ _ h => .inl h
  have hm1 := (hm.kill (ks := ks)).below hbel
  have hmem : Mem B F2 ρ (kill s ks).ob (w.alloc (.cells us.toArray e)) := {
    facts := ⟨fun ad u hu => hu.elim (hm1.facts ad u) (·.2), hm1.facts.glob.mono hF2⟩
    big := hm1.big
    bare := hm1.bare
    own := fun k o p g1 g2 => by
      obtain ⟨q1, q2⟩ := hm1.own k o p g1 g2
      exact ⟨q1, q2.imp fun r hr x hx v hv => hv.mono hF2⟩
    apart := fun k o p g1 g2 ad v hv => by
      rcases hv with hv | ⟨hv, _⟩
      · exact hm1.apart k o p g1 g2 ad v hv
      · have := hm.lt (kill_sub ks s k o g1) g2
        omega
    inj := hm1.inj }
  refine does_value (w' := w.alloc (.cells us.toArray e)) (u := .slice (some ⟨w.heap.size, 0, none⟩) n n) ?_ ⟨F2, ρ, hmem, ((hf.mono (FrzF.le.trans hF2)).sub (kill_sub ks s)), ?_, FrzF.le.trans hF2, (Below.refl _ _).alloc hm.big _, fun ad v hv => ?_⟩
  · exact hrun
  · have key := DR.vs (F := F2) sz (rowsOf sz n cs) (some ⟨w.heap.size, 0, none⟩) n ⟨w.heap.size, 0, none⟩ (fun i j => us.getD (i * sz + j) undef) (by rw [r1]; exact Nat.le_refl _) (fun _ => rfl) r2
      (fun i r j x hi hj => by
        obtain ⟨q1, _, _⟩ := r3 i r j x hi hj
        obtain ⟨u, hu, _⟩ := hall.get? _ _ q1
        refine .inr ⟨by rw [Addr.add_mk], ?_⟩
        rw [Addr.add_mk, World.cell?_alloc_new]
        simp [hu])
      (fun i r j x hi hj => by
        obtain ⟨q1, _, _⟩ := r3 i r j x hi hj
        obtain ⟨u, hu, hd⟩ := hall.get? _ _ q1
        simp only [List.getD_eq_getElem?_getD, hu, Option.getD_some]
        exact hd.mono hF2)
    rw [r1] at key
    exact key
  · rcases hv with hv | ⟨hv, _⟩
    · exact FrzF.new hm hv
    · exact .inr (by rw [hv]; exact hm.big)
/-- The same, as an own object. -/
theorem does_bso {key sz n : Nat} {zero cs : List D} {ps : List (Nat × Nat × Opd)} {xs : List (Nat × List D)} {ks : List Nat} (hK : key < MK) (hTy : tyKey P o key = true) (hm : Mem B F ρ s.ob w) (hf : Fr F ρ s.ob s.fr a) (hc : chkBsl P o sz zero n ps = true) (h1 : s.parts ps = some (xs, ks)) (h2 : putParts (repl zero n) xs = some cs)
    (hfree : (kill s ks).free key = true) : Does P o a w (Post B F w s.fr a ((kill s ks).obj key ⟨sz, (rowsOf sz n cs).map toAV⟩).ob (.sl key n 0 n)) := by
  obtain ⟨us, e, hall, hlen, hrun, hety⟩ := bsl_run hm hf hc h1 h2
  obtain ⟨r1, r2, r3⟩ := rowsOf_get sz n cs hlen
  have hm1 := hm.kill (ks := ks)
  have hf1 : Fr (FrzF F ρ s.ob ks w) ρ (kill s ks).ob (kill s ks).fr a := by rw [kill_fr]; exact (hf.mono FrzF.le).sub (kill_sub ks s)
  obtain ⟨hT, hFr⟩ := free_ar (F := FrzF F ρ s.ob ks w) (ρ := ρ) (a := a) (s := kill s ks) (o' := ⟨sz, (rowsOf sz n cs).map toAV⟩) (p' := some ⟨w.heap.size, sz, n, 0⟩) hfree
  have hF3 := hFr hf1
  rw [kill_fr] at hF3
  refine does_value (w' := w.alloc (.cells us.toArray e)) (u := .slice (some ⟨w.heap.size, 0, none⟩) n n) hrun ⟨FrzF F ρ s.ob ks w, updM ρ key (some ⟨w.heap.size, sz, n, 0⟩), ?_, hF3, sl_ar hK (p := ⟨w.heap.size, sz, n, 0⟩) (by simp [r1]) obj_same (updM_same _ _) (Nat.le_refl _), FrzF.le, (Below.refl _ _).alloc hm.big _, fun ad v hv => FrzF.new hm hv⟩
  refine Mem.change0 (et := e) hK (hety key hTy) hm1 hm.big (.inr (Nat.le_refl _)) (by simp) (fun k hk _ => Below.heap_alloc w _ k hk) (heap_alloc_new w _) (by simp [← hall.length, hlen]) (by simp [r1]) rfl (fun r hr => ?_) hT ?_
  · obtain ⟨r', hr', rfl⟩ := List.mem_map.1 hr
    simp [toAV, r2 r' hr']
  · intro i r j x hi hj
    simp only [List.getElem?_map, Option.map_eq_some_iff] at hi
    obtain ⟨r', hr', rfl⟩ := hi
    simp only [toAV, List.getElem?_map, Option.map_eq_some_iff] at hj
    obtain ⟨d, hd, rfl⟩ := hj
    obtain ⟨q1, _, _⟩ := r3 i r' j d hr' hd
    obtain ⟨u, hu, hdr⟩ := hall.get? _ _ q1
    exact ⟨rfl, u, by simpa using hu, hdr⟩
/-! ### A string as bytes -/
def chkCvb (P : Program) (o : Oper) (x : Opd) : Bool := match o.op with
  | .convert src dst y => chkO y x && (match P.underlying src with | some .string => true | _ => false) && (match P.underlying dst with
    | some (.slice e) => (match P.underlying e with | some (.int .u8) => true | _ => false)
    | _ => false)
  | _ => false
def cvbCells (t : List UInt8) (cap : Nat) : Array Value := (t.map fun b => Value.int .u8 b.toNat).toArray ++ Array.replicate (cap - t.length) (.int .u8 0)
theorem modify_push {α : Type} (a : Array α) (x : α) (f : α → α) : (a.push x).modify a.size f = a.push (f x) := by
  apply Array.ext_getElem?
  intro i
  rw [Array.getElem?_modify, Array.getElem?_push, Array.getElem?_push]
  by_cases h : a.size = i
  · subst h; simp
  · rw [if_neg h, if_neg (Ne.symm h), if_neg (Ne.symm h)]
theorem cvb_run (w : World) {t : List UInt8} {src dst e : TypeId} (h1 : P.underlying src = some .string) (h2 : P.underlying dst = some (.slice e)) (h3 : P.underlying e = some (.int .u8)) :
    ∃ (cap : Nat) (w' : World) (fz : Nat × Nat), t.length ≤ cap ∧ (convert src dst (.string ⟨t.toArray⟩)).run P w = .ok (.slice (some ⟨w.heap.size, 0, none⟩) t.length cap) w' ∧ w'.tape = w.tape ∧ w'.os = w.os ∧ w'.output = w.output ∧
      w'.heap = w.heap.push (.cells (cvbCells t cap) e fz) := by
  have hsz : (ByteArray.mk t.toArray).size = t.length := by simp [ByteArray.size]
  have hge := grownCap_ge w t.length 0 e
  generalize hc : grownCap w t.length 0 e = cap at hge
  have hc' : (Question.appendCap t.length 0 e).cut (w.tape w.drawn (Question.appendCap t.length 0 e)) = cap := hc
  obtain ⟨n, hn⟩ : ∃ n, (w.drew.alloc (Obj.cells (cvbCells t cap) e)).shape? w.heap.size = some (e, n) := by
    refine ⟨(cvbCells t cap).size, ?_⟩
    show (match (w.heap.push (Obj.cells (cvbCells t cap) e))[w.heap.size]? with | some (.cells c elem _) => some (elem, c.size) | _ => none) = _
    rw [Array.getElem?_push, if_pos rfl]
  obtain ⟨fz, hfz⟩ : ∃ fz, ((w.drew.alloc (Obj.cells (cvbCells t cap) e)).freeze ⟨w.heap.size, n, none⟩ 1).heap = w.heap.push (.cells (cvbCells t cap) e fz) := by
    unfold World.freeze
    rw [if_neg (by decide)]
    refine ⟨(n, n + 1), ?_⟩
    have ha : (w.drew.alloc (Obj.cells (cvbCells t cap) e)).heap = w.heap.push (Obj.cells (cvbCells t cap) e) := rfl
    dsimp only
    rw [ha, modify_push]
    rfl
  refine ⟨cap, (w.drew.alloc (Obj.cells (cvbCells t cap) e)).freeze ⟨w.heap.size, n, none⟩ 1, fz, hge, ?_, rfl, rfl, rfl, hfz⟩
  simp [convert, run_underlying h1, run_underlying h2, run_underlying h3, Conv.stringToBytes, choose, Sem.run, Question.forced, newRow, markStringish, freeze, shape, hsz, hc']
  rw [show ((List.map (fun b => Value.int IntKind.u8 ↑b.toNat) t).toArray ++ Array.replicate (cap - t.length) (Value.int IntKind.u8 0)) = cvbCells t cap from rfl, hn]
  simp [Sem.run]
theorem does_cvb {x : Opd} {t : List UInt8} (hm : Mem B F ρ s.ob w) (hf : Fr F ρ s.ob s.fr a) (hc : chkCvb P o x = true) (h1 : s.opd x = some (.c (.str t))) : Does P o a w (Post B F w s.fr a s.ob (.c (.vs 1 (t.map u8row)))) := by
  unfold chkCvb at hc
  split at hc
  case h_2 => simp at hc
  rename_i src dst y hop
  simp only [Bool.and_eq_true] at hc
  obtain ⟨⟨hx, hs⟩, hd⟩ := hc
  have hs : P.underlying src = some .string := by
    split at hs
    · assumption
    · simp at hs
  split at hd
  case h_2 => simp at hd
  rename_i e hdst
  have he : P.underlying e = some (.int .u8) := by
    split at hd
    · assumption
    · simp at hd
  have hr := opd_sound hf hx h1
  have e1 := DR.str_ hr
  obtain ⟨cap, w', fz, hcap, hrun, ht, hos, hout, hheap⟩ := cvb_run (P := P) w (t := t) hs hdst he
  have hnew : w'.heap[w.heap.size]? = some (.cells (cvbCells t cap) e fz) := by rw [hheap, Array.getElem?_push, if_pos rfl]
  have hold : ∀ k, k < w.heap.size → w'.heap[k]? = w.heap[k]? := fun k hk => by rw [hheap, Array.getElem?_push, if_neg (by omega)]
  have hbel : Below w.heap.size w w' := ⟨hos, ht, hout, by rw [hheap, Array.size_push]; omega, hold⟩
  let F2 : Facts := fun ad u => F ad u ∨ (ad.block = w.heap.size ∧ w'.cell? ad = some u)
  have hF2 : F.le F2 := fun _ _ h => .inl h
  have hm1 := hm.below hbel
  have hmem : Mem B F2 ρ s.ob w' := {
    facts := ⟨fun ad u hu => hu.elim (hm1.facts ad u) (·.2), hm1.facts.glob.mono hF2⟩
    big := hm1.big
    bare := hm1.bare
    own := fun k o p g1 g2 => by
      obtain ⟨q1, q2⟩ := hm1.own k o p g1 g2
      exact ⟨q1, q2.imp fun r hr x hx v hv => hv.mono hF2⟩
    apart := fun k o p g1 g2 ad v hv => by
      rcases hv with hv | ⟨hv, _⟩
      · exact hm1.apart k o p g1 g2 ad v hv
      · have := hm.lt g1 g2
        omega
    inj := hm1.inj }
  have hB : B ≤ w.heap.size := hm.big
  refine does_value (w' := w') (u := .slice (some ⟨w.heap.size, 0, none⟩) t.length cap) ?_ ⟨F2, ρ, hmem, hf.mono hF2, ?_, hF2, hbel.mono hB, fun ad v hv => ?_⟩
  · simp only [execOp, hop, e1, Sem.run_bind, hrun, Result.andThen_ok, Sem.run_pure]
  · have key := DR.vs (F := F2) 1 (t.map u8row) (some ⟨w.heap.size, 0, none⟩) cap ⟨w.heap.size, 0, none⟩ (fun i j => .int .u8 ((t.getD i 0).toNat)) (by rw [List.length_map]; exact hcap) (fun _ => rfl)
      (fun r hr => by obtain ⟨b, _, rfl⟩ := List.mem_map.1 hr; rfl)
      (fun i r j x hi hj => by
        simp only [List.getElem?_map, Option.map_eq_some_iff] at hi
        obtain ⟨b, hb, rfl⟩ := hi
        have hj0 : j = 0 := by
          have := (List.getElem?_eq_some_iff.1 hj).1
          simp [u8row] at this; exact this
        subst hj0
        refine .inr ⟨by rw [Addr.add_mk], ?_⟩
        rw [Addr.add_mk]
        have hil := (List.getElem?_eq_some_iff.1 hb).1
        simp only [World.cell?, hnew]
        simp [cvbCells, hil, List.getD_eq_getElem?_getD]
        rw [Array.getElem?_append_left (by simpa using hil)]
        simp [hil])
      (fun i r j x hi hj => by
        simp only [List.getElem?_map, Option.map_eq_some_iff] at hi
        obtain ⟨b, hb, rfl⟩ := hi
        have hj0 : j = 0 := by
          have := (List.getElem?_eq_some_iff.1 hj).1
          simp [u8row] at this; exact this
        subst hj0
        simp only [u8row, List.getElem?_cons_zero, Option.some.injEq] at hj
        subst hj
        simp only [List.getD_eq_getElem?_getD, hb, Option.getD_some]
        exact DR.int _ _)
    rw [List.length_map] at key
    exact key
  · rcases hv with hv | ⟨hv, _⟩
    · exact .inl hv
    · exact .inr (by rw [hv]; exact hB)
end
end Go.Am
