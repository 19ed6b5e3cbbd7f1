/- Conversions, lengths, cuts, addresses, loads. -/
import Derived.Test.YtdnmppikakpdiaaAb
import Derived.Laws.Slices
set_option linter.unusedVariables false
namespace Go.Am
open Go.RowKit
section
variable {P : Program} {B : Nat} {F : Facts} {ρ : Map} {s : St} {a : Go.Act} {w : World} {o : Oper}

def chkConv (P : Program) (o : Oper) (c : Cv) (x : Opd) : Bool := match o.op with
  | .convert src dst x' => chkO x' x && (match c with
    | .int k => (P.underlying src).isSome && isInt P dst k
    | .same => (P.underlying src).isSome && isStr P dst
    | .toStr => (match P.underlying src with | some (.slice e) => isInt P e .u8 | _ => false) && isStr P dst)
  | _ => false

theorem foldl_push_ints : ∀ (ns : List Int) (r : ByteArray), ns.foldl (fun r n => r.push (UInt8.ofNat n.toNat)) r = ⟨r.data ++ (ns.map fun n => UInt8.ofNat n.toNat).toArray⟩
  | [], r => by simp
  | b :: l, r => by
    simp only [List.foldl_cons]
    rw [foldl_push_ints l]
    simp [ByteArray.push]
def u8int : List D → Int
  | [.int .u8 n] => n
  | _ => 0
theorem toStr_run {sz : Nat} {rows : List (List D)} {v : Value} {src dst e : TypeId} (hs : P.underlying src = some (.slice e)) (he : P.underlying e = some (.int .u8)) (hd : P.underlying dst = some .string) (h : Shows F w sz rows v) (hall : rows.all isU8 = true) :
    (convert src dst v).run P w = .ok (.string ⟨(rows.map u8of).toArray⟩) w := by
  obtain ⟨x, cap, ad, u, rfl, hcap, ha, hsz, hc⟩ := h
  rw [run_convert_bytes_string w src dst e x _ cap hs he hd]
  have hrow : ∀ (i : Nat) (r : List D), rows[i]? = some r → r = [.int .u8 (u8int r)] := by
    intro i r hr
    have := (List.all_eq_true.1 hall) r (List.mem_of_getElem? hr)
    unfold isU8 at this
    split at this
    · rfl
    · simp at this
  have hmap : rows.map u8of = (rows.map u8int).map fun n => UInt8.ofNat n.toNat := by
    rw [List.map_map]
    apply List.map_congr_left
    intro r hr
    obtain ⟨i, hi⟩ := List.getElem?_of_mem hr
    rw [hrow i r hi]; rfl
  cases rows with
  | nil =>
    cases x with
    | none => simp [Conv.bytesToString]; rfl
    | some y =>
      have := run_bytesToString (P := P) w y 0 cap [] (by simp [loadCells, loadCellsFrom])
      simp only [List.foldl_nil] at this
      exact this
  | cons r0 rs =>
    obtain rfl := ha (by simp)
    have hsz1 : sz = 1 := by
      have h0 := hrow 0 r0 rfl
      have := hsz r0 (by simp)
      rw [h0] at this; simpa using this.symm
    subst hsz1
    have hcells : (loadCells ad (r0 :: rs).length).run P w = .ok (((r0 :: rs).map u8int).map (Value.int .u8)).toArray w := by
      have hl := run_loadCells_list (P := P) w ad (((r0 :: rs).map u8int).map (Value.int .u8)) (fun j v hj => by
        simp only [List.getElem?_map, Option.map_eq_some_iff] at hj
        obtain ⟨n, ⟨r, hr, rfl⟩, rfl⟩ := hj
        have hr1 := hrow j r hr
        have := hc j r 0 (.int .u8 (u8int r)) hr (by rw [hr1]; rfl)
        rw [Nat.mul_one, Nat.add_zero] at this
        rw [this.1, DR.int_ this.2])
      simpa using hl
    rw [run_bytesToString w ad _ cap _ hcells, foldl_push_ints, hmap]
    have he0 : ByteArray.empty.data = #[] := rfl
    rw [he0]; simp
theorem does_conv {c : Cv} {x : Opd} {p : AV} {d : D} (hm : Mem B F ρ s.ob w) (hf : Fr F ρ s.ob s.fr a) (hc : chkConv P o c x = true) (h1 : s.opd x = some p) (h : s.conv c p = some d) : Pure P o a w F ρ s (.c d) := by
  unfold chkConv at hc
  split at hc
  · rename_i src dst x' hop
    simp only [Bool.and_eq_true] at hc
    obtain ⟨hx, hc⟩ := hc
    have hr := opd_sound hf hx h1
    unfold St.conv at h
    split at h
    · rename_i k k' n
      simp only [Option.some.injEq] at h; subst h
      simp only [Bool.and_eq_true, Option.isSome_iff_exists] at hc
      obtain ⟨⟨ds, hs⟩, hd⟩ := hc
      have hd := isInt_spec hd
      refine pure_of (u := .int k (wrapK k n)) ?_ (.int _ _)
      simp [execOp, hop, DR.int_ hr, convert, run_underlying hs, run_underlying hd, Conv.intToInt, wrapK]
    · simp only [Option.some.injEq] at h; subst h
      simp only [Bool.and_eq_true, Option.isSome_iff_exists] at hc
      obtain ⟨⟨ds, hs⟩, hd⟩ := hc
      have hd := isStr_spec hd
      refine pure_of (u := _) ?_ hr
      have e1 := DR.str_ hr
      simp [execOp, hop, e1, convert, run_underlying hs, run_underlying hd]
    · split at h
      · rename_i rows hv
        split at h
        · rename_i hall
          simp only [Option.some.injEq] at h; subst h
          simp only [Bool.and_eq_true] at hc
          obtain ⟨hs, hd⟩ := hc
          have hd := isStr_spec hd
          split at hs
          · rename_i e hs'
            have he := isInt_spec hs
            refine pure_of (u := .string ⟨(rows.map u8of).toArray⟩) ?_ (.str _)
            simp only [execOp, hop, Sem.run_bind]
            rw [toStr_run hs' he hd (view_sound hm hv hr) hall]
            simp
          · simp at hs
        · simp at h
      · simp at h
    · simp at h
  · simp at hc

/-- The arguments of a builtin's call. -/
def chkArgs : List Operand → List Opd → Bool
  | [], [] => true
  | x :: xs, y :: ys => chkO x y && chkArgs xs ys
  | _, _ => false
theorem SlR.form {key start len : Nat} {v : Value} (h : SlR ρ key start len v) : ∃ x cap, v = .slice x len cap ∧ len ≤ cap := by
  unfold SlR at h
  split at h
  · obtain ⟨rfl, rfl⟩ := h; exact ⟨none, 0, rfl, by omega⟩
  · obtain ⟨hc, x, rfl, _⟩ := h; exact ⟨x, _, rfl, by omega⟩
theorem lenV_spec {b : Bool} {x : AV} {n : Int} {v : Value} (h : lenV s b x = some n) (hr : AR F ρ s.ob x v) :
    (b = true ∧ ∃ l : List UInt8, v = .string ⟨l.toArray⟩ ∧ n = l.length) ∨ (b = false ∧ ∃ a len cap, v = .slice a len cap ∧ n = (len : Int)) := by
  unfold lenV at h
  split at h
  · simp only [Option.some.injEq] at h; subst h
    exact .inl ⟨rfl, _, DR.str_ hr, rfl⟩
  · simp only [Option.some.injEq] at h; subst h
    cases hr with
    | vs sz rows a cap ad u hcap ha hsz hf hd => exact .inr ⟨rfl, a, _, cap, rfl, rfl⟩
  · simp only [Option.some.injEq] at h; subst h
    obtain rfl : v = _ := hr
    exact .inr ⟨rfl, none, 0, 0, rfl, rfl⟩
  · rename_i key ver start len
    split at h
    case h_2 => simp at h
    rename_i rows h1
    split at h
    case isFalse => simp at h
    rename_i hc
    simp only [Option.some.injEq] at h; subst h
    obtain ⟨x, cap, rfl, _⟩ := SlR.form ((hr.2 rows h1).2 hc.1 hc.2)
    exact .inr ⟨rfl, x, len, cap, rfl, rfl⟩
  · simp at h
def chkLen (P : Program) (o : Oper) (b : Bool) (x : Opd) : Bool := match o.op with
  | .call { callee := .builtin .len, args, argTypes } => chkArgs args.toList [x] && (match argTypes.toList with | [t] => if b then isStr P t else isSl P t | _ => false)
  | _ => false
theorem chkArgs_one {args : Array Operand} {x : Opd} (h : chkArgs args.toList [x] = true) : ∃ x', args = #[x'] ∧ chkO x' x = true := by
  obtain ⟨l⟩ := args
  match l, h with
  | [x'], h => exact ⟨x', rfl, by simpa [chkArgs] using h⟩
  | _ :: _ :: _, h => simp [chkArgs] at h
  | [], h => simp [chkArgs] at h
theorem list_one {α : Type} {l : Array α} {x : α} (h : l.toList = [x]) : l = #[x] := by rw [← Array.toList_inj]; exact h
theorem does_len {b : Bool} {x : Opd} {p : AV} {n : Int} (hf : Fr F ρ s.ob s.fr a) (hc : chkLen P o b x = true) (h1 : s.opd x = some p) (h : lenV s b p = some n) : Pure P o a w F ρ s (.c (.int .i64 n)) := by
  unfold chkLen at hc
  split at hc
  · rename_i args ats hop
    simp only [Bool.and_eq_true] at hc
    obtain ⟨hx, ht⟩ := hc
    obtain ⟨x', rfl, hx2⟩ := chkArgs_one hx
    split at ht
    · rename_i t hats
      obtain rfl := list_one hats
      have hr := opd_sound hf hx2 h1
      refine pure_of (u := .int .i64 n) ?_ (.int _ _)
      rcases lenV_spec h hr with ⟨rfl, l, e1, rfl⟩ | ⟨rfl, y, len, cap, e1, rfl⟩
      · have ht' := isStr_spec ht
        have hsz : (ByteArray.mk l.toArray).size = l.length := by simp [ByteArray.size]
        simp [execOp, hop, resolve, invoke, builtin, Builtin.len_, run_underlying ht', e1, goInt, hsz]
      · obtain ⟨e, ht'⟩ := isSl_spec (by simpa using ht)
        simp [execOp, hop, resolve, invoke, builtin, Builtin.len_, run_underlying ht', e1, goInt]
    · simp at ht
  · simp at hc

/-- Bounds of a cut. -/
def chkOO : Option Operand → Option Opd → Bool
  | none, none => true
  | some x, some y => chkO x y
  | _, _ => false
theorem bounds_run {isSlice : Bool} {len cap : Nat} {lo hi : Option Operand} {lo' hi' : Option Opd} {p q : Option AV} {l h : Nat} (hf : Fr F ρ s.ob s.fr a) (hlo : chkOO lo lo' = true) (hhi : chkOO hi hi' = true) (hcap : len ≤ cap)
    (h1 : s.opdO lo' = some p) (h2 : s.opdO hi' = some q) (hb : bounds len p q = some (l, h)) : (Instr.sliceBounds isSlice len cap (lo.map a.eval) (hi.map a.eval) none).run P w = .ok (l, h, cap) w ∧ l ≤ h ∧ h ≤ len := by
  have num : ∀ {x : Option Operand} {y : Option Opd} {r : Option AV}, chkOO x y = true → s.opdO y = some r → (x = none ∧ r = none) ∨ ∃ x' v, x = some x' ∧ r = some v ∧ AR F ρ s.ob v (a.eval x') := by
    intro x y r hc hs
    cases x <;> cases y <;> simp [chkOO] at hc
    · simp [St.opdO] at hs; exact .inl ⟨rfl, hs.symm⟩
    · rename_i x' y'
      simp only [St.opdO, Option.map_eq_some_iff] at hs
      obtain ⟨v, hv, rfl⟩ := hs
      exact .inr ⟨x', v, rfl, rfl, opd_sound hf hc hv⟩
  unfold bounds at hb
  split at hb
  · rename_i h0 l0 hh hl
    split at hb
    · rename_i hle
      simp only [Option.some.injEq, Prod.mk.injEq] at hb
      obtain ⟨rfl, rfl⟩ := hb
      refine ⟨?_, hle.1, hle.2⟩
      unfold Instr.sliceBounds
      rcases num hhi h2 with ⟨rfl, rfl⟩ | ⟨x', v, rfl, rfl, hr⟩
      · simp only [Option.some.injEq] at hh; subst hh
        rcases num hlo h1 with ⟨rfl, rfl⟩ | ⟨x', v, rfl, rfl, hr⟩
        · simp only [Option.some.injEq] at hl; subst hl; simp
        · obtain ⟨k, n, e1, hn, rfl⟩ := asNat_spec (F := F) (ρ := ρ) (ob := s.ob) hl hr
          have hle' : n ≤ (len : Int) := by omega
          simp [e1, run_sliceBound w k n len _ hn hle']
      · obtain ⟨k, n, e1, hn, rfl⟩ := asNat_spec (F := F) (ρ := ρ) (ob := s.ob) hh hr
        have hle1 : n ≤ (cap : Int) := by omega
        rcases num hlo h1 with ⟨rfl, rfl⟩ | ⟨x2, v2, rfl, rfl, hr2⟩
        · simp only [Option.some.injEq] at hl; subst hl
          simp [e1, run_sliceBound w k n cap _ hn hle1]
        · obtain ⟨k2, n2, e2, hn2, rfl⟩ := asNat_spec (F := F) (ρ := ρ) (ob := s.ob) hl hr2
          have hle2 : n2 ≤ (n.toNat : Int) := by omega
          simp [e1, e2, run_sliceBound w k n cap _ hn hle1, run_sliceBound w k2 n2 n.toNat _ hn2 hle2]
    · simp at hb
  · simp at hb
def chkSsl (P : Program) (o : Oper) (x : Opd) (lo hi : Option Opd) : Bool := match o.op with
  | .slice t x' lo' hi' none => isStr P t && chkO x' x && chkOO lo' lo && chkOO hi' hi
  | _ => false
theorem does_ssl {x : Opd} {lo hi : Option Opd} {l : List UInt8} {p q : Option AV} {i j : Nat} (hf : Fr F ρ s.ob s.fr a) (hc : chkSsl P o x lo hi = true) (h1 : s.opd x = some (.c (.str l))) (h2 : s.opdO lo = some p) (h3 : s.opdO hi = some q)
    (hb : bounds l.length p q = some (i, j)) : Pure P o a w F ρ s (.c (.str ((l.drop i).take (j - i)))) := by
  unfold chkSsl at hc
  split at hc
  · rename_i t x' lo' hi' hop
    simp only [Bool.and_eq_true] at hc
    obtain ⟨⟨⟨ht, hx⟩, hlo⟩, hhi⟩ := hc
    have ht := isStr_spec ht
    have e1 := DR.str_ (opd_sound hf hx h1)
    obtain ⟨hr, hij, hjl⟩ := bounds_run (P := P) (w := w) (isSlice := false) hf hlo hhi (Nat.le_refl _) h2 h3 hb
    refine pure_of (u := .string ⟨((l.drop i).take (j - i)).toArray⟩) ?_ (.str _)
    have hsz : (ByteArray.mk l.toArray).size = l.length := by simp [ByteArray.size]
    have hex : (ByteArray.mk l.toArray).extract i j = ⟨((l.drop i).take (j - i)).toArray⟩ := by
      apply ByteArray.ext
      simp [ByteArray.data_extract, List.extract_eq_take_drop]
    simp [execOp, hop, e1, Instr.sliceAt, Instr.slice, run_underlying ht, hsz, hr, hex]
  · simp at hc

def chkLsl (P : Program) (o : Oper) (sz : Nat) (x : Opd) (lo hi : Option Opd) : Bool := match o.op with
  | .slice t x' lo' hi' none => slOf P t sz && chkO x' x && chkOO lo' lo && chkOO hi' hi
  | _ => false
theorem run_slice_at {t e : TypeId} {i : TypeInfo} {x : Option Addr} {len cap l h : Nat} {lo hi : Option Value} (ht : P.underlying t = some (.slice e)) (hi' : P.info? e = some i)
    (hr : (Instr.sliceBounds true len cap lo hi none).run P w = .ok (l, h, cap) w) :
    (Instr.sliceAt t (.slice x len cap) lo hi none).run P w = .ok (.slice (if cap = l then x else x.map (·.add (l * i.size))) (h - l) (cap - l)) w := by
  simp [Instr.sliceAt, Instr.slice, run_underlying ht, hr, sizeOf, typeInfo, hi']
/-- A cut of data. -/
theorem DR.cut {rows : List (List D)} {x : Option Addr} {len cap l h sz : Nat} (hr : DR F (.vs sz rows) (.slice x len cap)) (hl : l ≤ h) (hh : h ≤ len) :
    DR F (.vs sz ((rows.drop l).take (h - l))) (.slice (if cap = l then x else x.map (·.add (l * sz))) (h - l) (cap - l)) := by
  cases hr with
  | vs _ _ _ _ ad u hcap ha hsz hf hd =>
    have hlen : ((rows.drop l).take (h - l)).length = h - l := by simp; omega
    have hget : ∀ (i : Nat) (r : List D), ((rows.drop l).take (h - l))[i]? = some r → rows[l + i]? = some r := by
      intro i r hi
      rw [List.getElem?_take] at hi
      split at hi
      · simpa [List.getElem?_drop] using hi
      · simp at hi
    have hmem : ∀ r ∈ (rows.drop l).take (h - l), r ∈ rows := fun r hr => List.mem_of_mem_drop (List.mem_of_mem_take hr)
    have key := DR.vs (F := F) sz ((rows.drop l).take (h - l)) (if cap = l then x else x.map (·.add (l * sz))) (cap - l) (ad.add (l * sz)) (fun i j => u (l + i) j) (by rw [hlen]; omega)
      (fun hne => by
        have h0 : 0 < h - l := by rw [← hlen]; exact List.length_pos_iff.2 hne
        have hx : x = some ad := ha (by intro h1; rw [h1] at hne; simp at hne)
        rw [if_neg (by omega), hx]; rfl)
      (fun r hr => hsz r (hmem r hr))
      (fun i r j y hi hj => by
        have h1 := hget i r hi
        have h2 := hf _ _ _ _ h1 hj
        rw [addr_add_add, show l * sz + (i * sz + j) = (l + i) * sz + j by rw [Nat.add_mul]; omega]
        exact h2)
      (fun i r j y hi hj => hd _ _ _ _ (hget i r hi) hj)
    rwa [hlen] at key
theorem sureAddr_ok (x : Addr) : Instr.sureAddr (.pointer (some x)) = pure x := rfl
theorem does_lsl_vs {sz : Nat} {x : Opd} {lo hi : Option Opd} {rows : List (List D)} {p q : Option AV} {i j : Nat} (hf : Fr F ρ s.ob s.fr a) (hc : chkLsl P o sz x lo hi = true) (h1 : s.opd x = some (.c (.vs sz rows))) (h2 : s.opdO lo = some p) (h3 : s.opdO hi = some q)
    (hb : bounds rows.length p q = some (i, j)) : Pure P o a w F ρ s (.c (.vs sz ((rows.drop i).take (j - i)))) := by
  unfold chkLsl at hc
  split at hc
  · rename_i t x' lo' hi' hop
    simp only [Bool.and_eq_true] at hc
    obtain ⟨⟨⟨ht, hx⟩, hlo⟩, hhi⟩ := hc
    obtain ⟨e, ti, ht, hti, hsz⟩ := slOf_spec ht
    have hr := opd_sound hf hx h1
    have hr' : DR F (.vs sz rows) (a.eval x') := hr
    obtain ⟨y, cap, hv, hcap⟩ : ∃ y cap, a.eval x' = .slice y rows.length cap ∧ rows.length ≤ cap := by
      generalize a.eval x' = v at hr'
      cases hr' with
      | vs sz rows y cap ad u hcap ha hsz hf hd => exact ⟨y, cap, rfl, hcap⟩
    rw [hv] at hr'
    obtain ⟨hrun, hij, hjl⟩ := bounds_run (P := P) (w := w) (isSlice := true) hf hlo hhi hcap h2 h3 hb
    refine pure_of (u := _) ?_ (DR.cut hr' hij hjl)
    simp only [execOp, hop, Sem.run_bind, hv]
    have := run_slice_at (x := y) ht hti hrun
    simp only [Option.map_none] at *
    rw [this, hsz]; simp
  · simp at hc
theorem does_lsl_nil {sz z : Nat} {x : Opd} {lo hi : Option Opd} {p q : Option AV} {i j : Nat} (hf : Fr F ρ s.ob s.fr a) (hc : chkLsl P o sz x lo hi = true) (h1 : s.opd x = some (.nil z)) (h2 : s.opdO lo = some p) (h3 : s.opdO hi = some q)
    (hb : bounds 0 p q = some (i, j)) : Pure P o a w F ρ s (.nil z) := by
  unfold chkLsl at hc
  split at hc
  · rename_i t x' lo' hi' hop
    simp only [Bool.and_eq_true] at hc
    obtain ⟨⟨⟨ht, hx⟩, hlo⟩, hhi⟩ := hc
    obtain ⟨e, ti, ht, hti, hsz⟩ := slOf_spec ht
    have hv : a.eval x' = .slice none 0 0 := opd_sound hf hx h1
    obtain ⟨hrun, hij, hjl⟩ := bounds_run (P := P) (w := w) (isSlice := true) hf hlo hhi (Nat.le_refl 0) h2 h3 hb
    obtain rfl : j = 0 := by omega
    obtain rfl : i = 0 := by omega
    refine pure_of (u := .slice none 0 0) ?_ rfl
    simp only [execOp, hop, Sem.run_bind, hv]
    have := run_slice_at (x := none) ht hti hrun
    simp only [Option.map_none] at *
    rw [this]; simp
  · simp at hc
theorem does_lsl_sl {sz : Nat} {x : Opd} {lo hi : Option Opd} {key ver start len : Nat} {ob : Obj} {p q : Option AV} {i j : Nat} (hm : Mem B F ρ s.ob w) (hf : Fr F ρ s.ob s.fr a) (hc : chkLsl P o sz x lo hi = true) (h1 : s.opd x = some (.sl key ver start len))
    (hob : get s.ob key = some ob) (hver : ob.rows.length = ver) (hle : start + len ≤ ver) (hz : ob.sz = sz) (h2 : s.opdO lo = some p) (h3 : s.opdO hi = some q) (hb : bounds len p q = some (i, j)) : Pure P o a w F ρ s (.sl key ver (start + i) (j - i)) := by
  unfold chkLsl at hc
  split at hc
  · rename_i t x' lo' hi' hop
    simp only [Bool.and_eq_true] at hc
    obtain ⟨⟨⟨ht, hx⟩, hlo⟩, hhi⟩ := hc
    obtain ⟨e, ti, ht, hti, hsz⟩ := slOf_spec ht
    obtain ⟨hK, hr0⟩ := opd_sound hf hx h1
    have hr := (hr0 ob hob).2 hver hle
    obtain ⟨y, cap, hv, hcap⟩ := SlR.form hr
    obtain ⟨hrun, hij, hjl⟩ := bounds_run (P := P) (w := w) (isSlice := true) hf hlo hhi hcap h2 h3 hb
    refine pure_of (u := .slice (if cap = i then y else y.map (·.add (i * ti.size))) (j - i) (cap - i)) ?_ ?_
    · simp only [execOp, hop, Sem.run_bind, hv]
      have := run_slice_at (x := y) ht hti hrun
      simp only [Option.map_none] at *
      rw [this]; simp
    · refine ⟨hK, fun ob' hob' => ?_⟩
      rw [hob] at hob'; simp only [Option.some.injEq] at hob'; subst hob'
      refine ⟨by omega, fun _ hle' => ?_⟩
      unfold SlR at hr ⊢
      cases hρ : ρ key with
      | none =>
        rw [hρ] at hr
        obtain ⟨rfl, hb'⟩ := hr
        rw [hv] at hb'
        simp only [Value.slice.injEq] at hb'
        obtain ⟨rfl, _, rfl⟩ := hb'
        obtain rfl : j = 0 := by omega
        exact ⟨by simp, by simp⟩
      | some pl =>
        rw [hρ] at hr
        obtain ⟨hc1, b, hb', ha⟩ := hr
        rw [hv] at hb'
        simp only [Value.slice.injEq] at hb'
        obtain ⟨rfl, _, rfl⟩ := hb'
        have hpsz := (hm.cells hK hob hρ).2.2.1
        refine ⟨by omega, _, by rw [Nat.sub_sub], ?_⟩
        intro h0
        by_cases hi0 : i = 0
        · subst hi0
          have hy : y = some ⟨pl.g, pl.o + start * pl.sz, none⟩ := ha (by omega)
          rw [hy]; split <;> simp [Addr.add_mk]
        · have hy : y = some ⟨pl.g, pl.o + start * pl.sz, none⟩ := ha (.inl (by omega))
          rw [if_neg (by omega), hy, hsz, hpsz, hz]
          simp [Addr.add_mk, Nat.add_mul]
          omega
  · simp at hc

def chkIad (P : Program) (o : Oper) (x i : Opd) (sz : Nat) : Bool := match o.op with
  | .indexAddr t x' i' => slOf P t sz && chkO x' x && chkO i' i
  | _ => false
theorem does_iad_vs {sz j : Nat} {x i : Opd} {rows : List (List D)} {r : List D} {p : AV} (hf : Fr F ρ s.ob s.fr a) (hc : chkIad P o x i sz = true) (h1 : s.opd x = some (.c (.vs sz rows))) (h2 : s.opd i = some p) (hj : asNat p = some j) (h : rows[j]? = some r) :
    Pure P o a w F ρ s (.vp r 0) := by
  unfold chkIad at hc
  split at hc
  · rename_i t x' i' hop
    simp only [Bool.and_eq_true] at hc
    obtain ⟨⟨ht, hx⟩, hi⟩ := hc
    obtain ⟨e, ti, ht, hti, hsz⟩ := slOf_spec ht
    obtain ⟨k, z, e2, hz, rfl⟩ := asNat_spec hj (opd_sound hf hi h2)
    have hr : DR F (.vs sz rows) (a.eval x') := opd_sound hf hx h1
    have hlt := (List.getElem?_eq_some_iff.1 h).1
    generalize hv : a.eval x' = v at hr
    cases hr with
    | vs _ _ y cap ad u hcap ha hrsz hfa hd =>
      obtain rfl := ha (by intro h0; rw [h0] at hlt; simp at hlt)
      have hzl : z < (rows.length : Int) := by omega
      refine pure_of (u := .pointer (some (ad.add (z.toNat * sz)))) ?_ ⟨ad.add (z.toNat * sz), fun j => u z.toNat j, ?_, fun j x hx => ?_⟩
      · simp [execOp, hop, hv, e2, Instr.indexAt, run_underlying ht, asIntOf, hz, hzl, sizeOf, typeInfo, hti, hsz]
      · rw [addr_add_add, Nat.add_zero]
      · rw [addr_add_add]
        exact ⟨hfa _ _ _ _ h hx, hd _ _ _ _ h hx⟩
  · simp at hc
theorem does_iad_sl {sz j : Nat} {x i : Opd} {key ver start len : Nat} {ob : Obj} {p : AV} (hm : Mem B F ρ s.ob w) (hf : Fr F ρ s.ob s.fr a) (hc : chkIad P o x i sz = true) (h1 : s.opd x = some (.sl key ver start len)) (h2 : s.opd i = some p) (hj : asNat p = some j)
    (hob : get s.ob key = some ob) (hver : ob.rows.length = ver) (hle : start + len ≤ ver) (hz' : ob.sz = sz) (hl : j < len) : Pure P o a w F ρ s (.loc key (start + j) 0) := by
  unfold chkIad at hc
  split at hc
  · rename_i t x' i' hop
    simp only [Bool.and_eq_true] at hc
    obtain ⟨⟨ht, hx⟩, hi⟩ := hc
    obtain ⟨e, ti, ht, hti, hsz⟩ := slOf_spec ht
    obtain ⟨k, z, e2, hz, rfl⟩ := asNat_spec hj (opd_sound hf hi h2)
    obtain ⟨hK, hr0⟩ := opd_sound hf hx h1
    have hr := (hr0 ob hob).2 hver hle
    unfold SlR at hr
    cases hρ : ρ key with
    | none => rw [hρ] at hr; omega
    | some pl =>
      rw [hρ] at hr
      obtain ⟨hc1, b, hv, ha⟩ := hr
      obtain rfl := ha (.inl (by omega))
      have hpsz := (hm.cells hK hob hρ).2.2.1
      have hzl : z < (len : Int) := by omega
      refine pure_of (u := .pointer (some ⟨pl.g, pl.o + start * pl.sz + z.toNat * ti.size, none⟩)) ?_ ?_
      · simp [execOp, hop, hv, e2, Instr.indexAt, run_underlying ht, asIntOf, hz, hzl, sizeOf, typeInfo, hti, Addr.add_mk]
      · exact ⟨hK, fun ob' hob' => ⟨pl, hρ, by rw [hsz, hpsz, hz', Nat.add_mul, Nat.add_zero, Nat.add_assoc]⟩⟩
  · simp at hc
def chkIadA (P : Program) (o : Oper) (x i : Opd) (n sz : Nat) : Bool := match o.op with
  | .indexAddr t x' i' => chkO x' x && chkO i' i && (match P.underlying t with | some (.array m e) => m == n && sized P e sz | _ => false)
  | _ => false
theorem does_iadA {n sz j : Nat} {x i : Opd} {key row off : Nat} {p : AV} (hf : Fr F ρ s.ob s.fr a) (hc : chkIadA P o x i n sz = true) (h1 : s.opd x = some (.loc key row off)) (h2 : s.opd i = some p) (hj : asNat p = some j) (hn : j < n) (hin : ∃ ob, get s.ob key = some ob) :
    Pure P o a w F ρ s (.loc key row (off + j * sz)) := by
  unfold chkIadA at hc
  split at hc
  · rename_i t x' i' hop
    simp only [Bool.and_eq_true] at hc
    obtain ⟨⟨hx, hi⟩, hc⟩ := hc
    split at hc
    · rename_i m e ht
      simp only [Bool.and_eq_true, beq_iff_eq] at hc
      obtain ⟨rfl, hsz⟩ := hc
      obtain ⟨k, z, e2, hz, rfl⟩ := asNat_spec hj (opd_sound hf hi h2)
      obtain ⟨ob, hob⟩ := hin
      obtain ⟨hK, hr0⟩ := opd_sound hf hx h1
      obtain ⟨pl, hρ, hv⟩ := hr0 ob hob
      have hzl : z < (m : Int) := by omega
      refine pure_of (u := .pointer (some ⟨pl.g, pl.o + row * pl.sz + off + z.toNat * sz, none⟩)) ?_ ?_
      · simp [execOp, hop, hv, e2, Instr.indexAt, run_underlying ht, asIntOf, sureAddr_ok, hz, hzl, run_sized hsz, Addr.add_mk]
      · exact ⟨hK, fun ob' hob' => ⟨pl, hρ, by rw [Nat.add_assoc]⟩⟩
    · simp at hc
  · simp at hc

def chkFad (P : Program) (o : Oper) (x : Opd) (off : Nat) : Bool := match o.op with
  | .fieldAddr t x' i => chkO x' x && (match P.underlying t with
    | some (.struct fs) => match fs[i]? with
      | some f => f.offset == off && (match P.info? f.type with | some i => i.size != 0 | none => false)
      | none => false
    | _ => false)
  | _ => false
theorem run_fieldAt {t : TypeId} {fs : Array Field} {i : Nat} {f : Field} {ti : TypeInfo} {ad : Addr} (ht : P.underlying t = some (.struct fs)) (hf : fs[i]? = some f) (hti : P.info? f.type = some ti) (hz : ti.size ≠ 0) :
    (Instr.fieldAt t (.pointer (some ad)) i).run P w = .ok (.pointer (some (ad.add f.offset))) w := by
  simp [Instr.fieldAt, run_underlying ht, hf, sureAddr_ok, fieldPlace, sizeOf, typeInfo, hti, hz]
theorem chkFad_spec {x : Opd} {off : Nat} (hc : chkFad P o x off = true) : ∃ t x' i fs f ti, o.op = .fieldAddr t x' i ∧ chkO x' x = true ∧ P.underlying t = some (.struct fs) ∧ fs[i]? = some f ∧ P.info? f.type = some ti ∧ ti.size ≠ 0 ∧ f.offset = off := by
  unfold chkFad at hc
  split at hc
  · rename_i t x' i hop
    simp only [Bool.and_eq_true] at hc
    obtain ⟨hx, hc⟩ := hc
    split at hc
    · rename_i fs ht
      split at hc
      · rename_i f hfi
        simp only [Bool.and_eq_true, beq_iff_eq] at hc
        obtain ⟨hoff, hc⟩ := hc
        split at hc
        · rename_i ti hti
          exact ⟨t, x', i, fs, f, ti, hop, hx, ht, hfi, hti, by simpa using hc, hoff⟩
        · simp at hc
      · simp at hc
    · simp at hc
  · simp at hc
theorem does_fad_loc {x : Opd} {off key row o' : Nat} {ob : Obj} (hf : Fr F ρ s.ob s.fr a) (hc : chkFad P o x off = true) (h1 : s.opd x = some (.loc key row o')) (hob : get s.ob key = some ob) : Pure P o a w F ρ s (.loc key row (o' + off)) := by
  obtain ⟨t, x', i, fs, f, ti, hop, hx, ht, hfi, hti, hz, rfl⟩ := chkFad_spec hc
  obtain ⟨hK, hr0⟩ := opd_sound hf hx h1
  obtain ⟨pl, hρ, hv⟩ := hr0 ob hob
  refine pure_of (u := .pointer (some ((⟨pl.g, pl.o + row * pl.sz + o', none⟩ : Addr).add f.offset))) ?_ ?_
  · simp only [execOp, hop, Sem.run_bind, hv, run_fieldAt ht hfi hti hz, Result.andThen_ok, Sem.run_pure]
  · exact ⟨hK, fun ob' hob' => ⟨pl, hρ, by rw [Addr.add_mk, Nat.add_assoc]⟩⟩
theorem does_fad_vp {x : Opd} {off o' : Nat} {r : List D} (hf : Fr F ρ s.ob s.fr a) (hc : chkFad P o x off = true) (h1 : s.opd x = some (.vp r o')) : Pure P o a w F ρ s (.vp r (o' + off)) := by
  obtain ⟨t, x', i, fs, f, ti, hop, hx, ht, hfi, hti, hz, rfl⟩ := chkFad_spec hc
  obtain ⟨ad, u, hv, hu⟩ := opd_sound hf hx h1
  refine pure_of (u := .pointer (some ((ad.add o').add f.offset))) ?_ ⟨ad, u, by rw [addr_add_add], hu⟩
  simp only [execOp, hop, Sem.run_bind, hv, run_fieldAt ht hfi hti hz, Result.andThen_ok, Sem.run_pure]

def chkLd (P : Program) (o : Oper) (x : Opd) (sz : Nat) (ag : Bool) : Bool := match o.op with
  | .load t x' => chkO x' x && sized P t sz && agOk P t ag && (ag || sz == 1)
  | _ => false
theorem does_ld {x : Opd} {sz : Nat} {ag : Bool} {p v : AV} (hm : Mem B F ρ s.ob w) (hf : Fr F ρ s.ob s.fr a) (hc : chkLd P o x sz ag = true) (h1 : s.opd x = some p) (h : s.load p sz ag = some v) : Pure P o a w F ρ s v := by
  unfold chkLd at hc
  split at hc
  · rename_i t x' hop
    simp only [Bool.and_eq_true, Bool.or_eq_true, beq_iff_eq] at hc
    obtain ⟨⟨⟨hx, hsz⟩, hag⟩, h11⟩ := hc
    have hr := opd_sound hf hx h1
    -- the cells at an address, as a value
    have scalar_ : ∀ (ad : Addr) (u : Value), ag = false → a.eval x' = .pointer (some ad) → w.cell? ad = some u → AR F ρ s.ob v u → Pure P o a w F ρ s v := by
      intro ad u hag' hv hcell hu
      subst hag'
      refine pure_of (u := u) ?_ hu
      simp [execOp, hop, hv, Instr.loadAt, sureAddr_ok, loadVar, run_isAgg hag, hcell]
    have agg_ : ∀ (ad : Addr) (ds : List D) (us : List Value), ag = true → a.eval x' = .pointer (some ad) → v = .agg ds → us.length = sz → All2 (DR F) ds us → (∀ j u, us[j]? = some u → w.cell? (ad.add j) = some u) → Pure P o a w F ρ s v := by
      intro ad ds us hag' hv hvd hlen hus hcells
      subst hag'; subst hvd
      refine pure_of (u := .agg us.toArray) ?_ ⟨us, rfl, hus⟩
      have hl := run_loadCells_list (P := P) w ad us hcells
      rw [hlen] at hl
      simp [execOp, hop, hv, Instr.loadAt, sureAddr_ok, loadVar, run_isAgg hag, run_sized hsz, hl]
    unfold St.load at h
    split at h
    · rename_i row off
      obtain ⟨ad, u, hv, hu⟩ := hr
      unfold Am.part at h
      split at h
      · rename_i hle
        split at h
        · rename_i hag'
          simp only [Option.some.injEq] at h; subst h
          have hlen : ((row.drop off).take sz).length = sz := by simp; omega
          refine agg_ (ad.add off) _ ((List.range sz).map fun j => u (off + j)) hag' hv rfl (by simp) ?_ ?_
          · refine All2.of_get (by rw [hlen]; simp) fun j d hd => ?_
            have hj : j < sz := by rw [← hlen]; exact (List.getElem?_eq_some_iff.1 hd).1
            refine ⟨u (off + j), by simp [hj], ?_⟩
            rw [List.getElem?_take, if_pos hj, List.getElem?_drop] at hd
            exact (hu _ _ hd).2
          · intro j y hj
            have hjs : j < sz := by have := (List.getElem?_eq_some_iff.1 hj).1; simpa using this
            simp [hjs] at hj; subst hj
            have hrow : row[off + j]? = some (row[off + j]'(by omega)) := List.getElem?_eq_getElem (by omega)
            rw [addr_add_add]
            exact hm.facts _ _ (hu _ _ hrow).1
        · rename_i hag'
          simp only [Option.map_eq_some_iff] at h
          obtain ⟨d, hd, rfl⟩ := h
          exact scalar_ (ad.add off) (u off) (by simpa using hag') hv (hm.facts _ _ (hu _ _ hd).1) (hu _ _ hd).2
      · simp at h
    · rename_i key row off
      split at h
      · simp at h
      · rename_i ob hob
        split at h
        · simp at h
        · rename_i r hrow
          split at h
          · rename_i hle
            obtain ⟨pl, hρ, hv⟩ := hr.2 ob hob
            split at h
            · rename_i hag'
              simp only [Option.map_eq_some_iff] at h
              obtain ⟨ds, hds, rfl⟩ := h
              obtain ⟨hl, hget⟩ := allD_get hds
              have hlen : ds.length = sz := by rw [← hl]; simp; omega
              have hcell : ∀ (j : Nat) (d : D), ds[j]? = some d → ∃ u, w.cell? ⟨pl.g, pl.o + row * pl.sz + off + j, none⟩ = some u ∧ DR F d u := by
                intro j d hd
                have hj : j < sz := by rw [← hlen]; exact (List.getElem?_eq_some_iff.1 hd).1
                obtain ⟨y, hy, hyd⟩ := hget j d hd
                rw [List.getElem?_take, if_pos hj, List.getElem?_drop] at hy
                obtain ⟨u, hu, har, _⟩ := hm.cell hr.1 hob hρ hrow hy
                exact ⟨u, by rw [Nat.add_assoc]; exact hu, AR.cell_data hyd har⟩
              refine agg_ ⟨pl.g, pl.o + row * pl.sz + off, none⟩ ds ((List.range sz).map fun j => (w.cell? ⟨pl.g, pl.o + row * pl.sz + off + j, none⟩).getD undef) hag' hv rfl (by simp) ?_ ?_
              · refine All2.of_get (by rw [hlen]; simp) fun j d hd => ?_
                have hj : j < sz := by rw [← hlen]; exact (List.getElem?_eq_some_iff.1 hd).1
                obtain ⟨u, hu, hdr⟩ := hcell j d hd
                exact ⟨u, by simp [hj, hu], hdr⟩
              · intro j y hj
                have hjs : j < sz := by have := (List.getElem?_eq_some_iff.1 hj).1; simpa using this
                simp [hjs] at hj; subst hj
                obtain ⟨u, hu, hdr⟩ := hcell j (ds[j]'(by omega)) (List.getElem?_eq_getElem (by omega))
                rw [Addr.add_mk, hu]; rfl
            · rename_i hag'
              obtain ⟨u, hu, har, _⟩ := hm.cell hr.1 hob hρ hrow h
              exact scalar_ _ u (by simpa using hag') hv hu har
          · simp at h
    · simp at h
  · simp at hc

def chkMin (o : Oper) (b : Builtin) (x : Opd) (xs : List Opd) : Bool := match o.op with
  | .call { callee := .builtin b', args, argTypes } => (match b, b' with | .min, .min | .max, .max => true | _, _ => false) && chkArgs args.toList (x :: xs)
  | _ => false
def chkNilc (o : Oper) (x : Opd) : Bool := match o.op with | .nilCheck x' => chkO x' x | _ => false
theorem does_nilc {x : Opd} {key row off : Nat} {ob : Obj} (hf : Fr F ρ s.ob s.fr a) (hc : chkNilc o x = true) (h1 : s.opd x = some (.loc key row off)) (hob : get s.ob key = some ob) : Pure P o a w F ρ s (.loc key row off) := by
  unfold chkNilc at hc
  split at hc
  · rename_i x' hop
    have hr := opd_sound hf hc h1
    obtain ⟨pl, hρ, hv⟩ := hr.2 ob hob
    exact pure_of (u := a.eval x') (by simp [execOp, hop, hv]) hr
  · simp at hc
end
end Go.Am
