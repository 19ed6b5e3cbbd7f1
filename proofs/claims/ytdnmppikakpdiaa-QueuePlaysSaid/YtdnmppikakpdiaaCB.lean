import Derived.Test.YtdnmppikakpdiaaLayHl
import Derived.Test.YtdnmppikakpdiaaSrg
import Derived.Test.YtdnmppikakpdiaaCA
import Derived.LoopN
import Derived.StillTailTactics
import Derived.Test.YtdnmppikakpdiaaAs
set_option maxHeartbeats 4000000
set_option maxRecDepth 10000
set_option linter.unusedVariables false
set_option linter.unusedSimpArgs false
set_option linter.unnecessarySimpa false
namespace Go.Am
open Go.Proofs Go.Shelf Go.RowKit Go.Sort
def cfId (x y : List Int) : Int := Lib.compareInt (x.getD 0 0) (y.getD 0 0)
theorem lt_cmpInt (f : List Int → Int) (x y : List Int) : ltOf (fun x y => Lib.compareInt (f x) (f y)) x y = decide (f x < f y) := by
 unfold ltOf Lib.compareInt
 rcases Int.lt_trichotomy (f x) (f y) with h | h | h
 ·simp [h]
 ·simp [h]
 ·have h2 : ¬ f x = f y := by omega
  have h3 : ¬ f x < f y := by omega
  simp [h, h2, h3]
theorem swo_cmpInt (f : List Int → Int) : SWO (ltOf fun x y => Lib.compareInt (f x) (f y)) where
 irrefl x := by rw [lt_cmpInt]; simp
 trans x y z h1 h2 := by rw [lt_cmpInt] at *; simp only [decide_eq_true_eq] at *; omega
 ntrans x y z h1 h2 := by rw [lt_cmpInt] at *; simp only [decide_eq_false_iff_not] at *; omega
def cfoW : CfO := fun _ x _ => match x with
 | .ot (.fn g) => if g = fv_queue_Hall_Waiting_1 then some cfId else none
 | _ => none
theorem cmp_waiter (x y : List Int) (W : World) : Calls Try.prog fv_queue_Hall_Waiting_1 #[.agg (encK 4 x).toArray, .agg (encK 4 y).toArray] W fun e w' => e = .returned (.int .i64 (cfId x y)) ∧ ∃ q os', w' = grow (W.drewN q) os' := by
 have ex : (encK 4 x).toArray = #[.int .i64 (x.getD 0 0), .int .i64 (x.getD 1 0), .int .i64 (x.getD 2 0), .int .i64 (x.getD 3 0)] := rfl
 have ey : (encK 4 y).toArray = #[.int .i64 (y.getD 0 0), .int .i64 (y.getD 1 0), .int .i64 (y.getD 2 0), .int .i64 (y.getD 3 0)] := rfl
 rw [ex, ey]
 unfold cfId
 have hcon := fun W' => AnyG.cmp_Compare_int Try.cmpInt (x.getD 0 0) (y.getD 0 0) W'
 change ∀ W', Calls Try.prog 61 _ _ _ at hcon
 generalize Lib.compareInt (x.getD 0 0) (y.getD 0 0) = r at hcon ⊢
 generalize x.getD 0 0 = a at *
 generalize x.getD 1 0 = b at *
 generalize x.getD 2 0 = c at *
 generalize x.getD 3 0 = d at *
 generalize y.getD 0 0 = a' at *
 generalize y.getD 1 0 = b' at *
 generalize y.getD 2 0 = c' at *
 generalize y.getD 3 0 = d' at *
 go_enter Try.func68, Try.ntmps68
 go_wp2_with (go_at_call 61; refine (hcon _).mono ?_; rintro e w' ⟨rfl, rfl⟩)
 go_ret
 rw [alloc_eq_grow, alloc_eq_grow, grow_grow]
 exact ⟨rfl, 0, _, rfl⟩
theorem cmpOk_W : CmpOk Try.prog 4 cfoW := by
 intro B F ρ ob w key x v cf o hc hm hx ho
 unfold cfoW at hc
 split at hc
 case h_2 => simp at hc
 rename_i g
 split at hc
 case isFalse => simp at hc
 rename_i hg
 subst hg
 simp only [Option.some.injEq] at hc; subst hc
 exact ⟨swo_cmpInt _, _, #[], hx, enters_of Try.func68 (by kernel_rfl) rfl, fun W _ a b => cmp_waiter a b W⟩
theorem sort_waiter : SpecP Try.prog 67 (sortGPt 4 cfoW) :=
 sortG_specP Try.sortWr 4 (by omega) Try.isAgg57 Try.sizeOf57 cfoW cmpOk_W
end Go.Am
namespace Go.Am
open Go.Proofs Go.Shelf Go.RowKit Go.Sort
def foundV (z : AV) : Option (Nat × AV) → AV
 | some (_, u) => u
 | none => z
theorem lookup_at {P : Program} {B : Nat} {F : Facts} {ρ : Map} {ob : List (Nat × Obj)} {w W : World} {t : TypeId} {ks : KK} {zero k : AV} {key : Nat} {o0 : Obj} {r : Option (Nat × AV)} {u ku : Value} (hm : Mem B F ρ ob w) (ht : mapTy P t ks = true) (hz : elemZero P t zero = true) (hr : AR F ρ ob (.mp key) u) (hri : AR F ρ ob k ku) (hob : get ob key = some o0) (hk : kOk ks k = true)
  (hfd : mfind ks k o0.rows 0 = some r) (hW : ∀ p, ρ key = some p → W.heap[p.g]? = w.heap[p.g]?) : ∃ v vu, foundV zero r = v ∧ AR F ρ ob v vu ∧ (Instr.lookup t u ku false).run P W = .ok vu W := by
 obtain ⟨kt, e, d, ht, hko, hd⟩ := mapTy_spec ht
 obtain ⟨z, hz1, hz2⟩ := elemZero_spec (w := W) (F := F) (ρ := ρ) (ob := ob) ht hz
 obtain ⟨p, hρ, rfl⟩ := hr.2.2 o0 hob
 obtain ⟨_, hM⟩ := hm.map hr.1 hr.2.1 hob hρ
 obtain ⟨es, hb, hl, _, _, hrows⟩ := hM.list
 obtain ⟨q, q1, q2, q3, q4⟩ := mfind_run hd hko hk hri W o0.rows es.toList 0 r hl hrows hfd
 have hck := run_checkKey hko hk hri es.isEmpty W
 have hfk := findKey_run hd hko q1 q2
 have hb' : W.heap[p.g]? = some (.map es o0.sz) := by rw [hW p hρ]; exact hb
 have hg : (getObj p.g).run P W = .ok (.map es o0.sz) W := by simp [getObj, Sem.run, hb']
 cases r with
 | none =>
  obtain rfl := q4 rfl
  exact ⟨zero, z, rfl, hz2, by simp [Instr.lookup, run_underlying ht, hg, hck, hfk, hz1]⟩
 | some jv =>
  obtain ⟨j, v⟩ := jv
  obtain ⟨e1, k1, rfl, _, _, har, _⟩ := q3 j v rfl
  exact ⟨v, e1.val, rfl, har, by simp [Instr.lookup, run_underlying ht, hg, hck, hfk]⟩
theorem lookup_nil {P : Program} {F : Facts} {ρ : Map} {ob : List (Nat × Obj)} {W : World} {t : TypeId} {ks : KK} {zero k : AV} {ku : Value} (ht : mapTy P t ks = true) (hz : elemZero P t zero = true) (hri : AR F ρ ob k ku) (hk : kOk ks k = true) : ∃ vu, AR F ρ ob zero vu ∧ (Instr.lookup t (.map none) ku false).run P W = .ok vu W := by
 obtain ⟨kt, e, d, ht, hko, hd⟩ := mapTy_spec ht
 obtain ⟨z, hz1, hz2⟩ := elemZero_spec (w := W) (F := F) (ρ := ρ) (ob := ob) ht hz
 have hck := run_checkKey hko hk hri true W
 have hfk : (Instr.findKey kt ku []).run P W = .ok none W := findKey_run hd hko (by simp [Instr.findAsking]) fun _ => rfl
 exact ⟨z, hz2, by simp [Instr.lookup, run_underlying ht, hck, hfk, hz1]⟩
def gHC : List AV → Option HC
 | [.c (.int .i64 b), .agg [.int .i64 f, .int .i64 d], .agg [.int .i64 n, .int .i64 c]] => if 0 ≤ b then some ⟨b.toNat, f, d, n, c⟩ else none
 | _ => none
def gHCs : Rows → Option (List HC)
 | [] => some []
 | r :: rs => match gHC r, gHCs rs with
  | some e, some l => some (e :: l)
  | _, _ => none
theorem gHCs_map : ∀ l : List HC, gHCs (l.map HC.row) = some l
 | [] => rfl
 | e :: l => by
  have h1 : gHC e.row = some e := by simp only [HC.row, gHC, Int.natCast_nonneg, if_true, Int.toNat_natCast]
  simp only [List.map_cons, gHCs, gHCs_map l, h1]
theorem gHCs_some : ∀ {r : Rows} {l : List HC}, gHCs r = some l → r = l.map HC.row
 | [], l, h => by simp only [gHCs, Option.some.injEq] at h; subst h; rfl
 | x :: r, l, h => by
  unfold gHCs at h
  split at h
  ·rename_i e l' h1 h2
   simp only [Option.some.injEq] at h; subst h
   rw [gHCs_some h2, List.map_cons]
   congr 1
   unfold gHC at h1
   split at h1
   ·split at h1
    ·rename_i hb
     simp only [Option.some.injEq] at h1; subst h1
     simp only [HC.row, Int.toNat_of_nonneg hb]
    ·simp at h1
   ·simp at h1
  ·simp at h
def nOf (cs : List HC) (x : List Int) : Int := match findC cs (x.getD 0 0) (x.getD 1 0) 0 with | some (_, e) => e.n | none => 0
def cOf (cs : List HC) (x : List Int) : Int := match findC cs (x.getD 0 0) (x.getD 1 0) 0 with | some (_, e) => e.c | none => 0
def cfN (cs : List HC) (x y : List Int) : Int := Lib.compareInt (nOf cs x) (nOf cs y)
def hallCs (key hk : Nat) (ob : List (Nat × Obj)) : Option (List HC) := if hk = key then none else match get ob hk with
 | some ⟨3, [[_, .ot .nm, _]]⟩ => some []
 | some ⟨3, [[_, .mp K, _]]⟩ => match get ob K with
  | some o => gHCs o.rows
  | none => none
 | _ => none
def cfoC : CfO := fun key x ob => match x with
 | .clo g [.loc bk 0 0] => if g = fv_queue_Hall_Calls_1 ∧ bk ≠ key ∧ key < MK then (match get ob bk with
  | some ⟨1, [[.loc hk 0 0]]⟩ => (hallCs key hk ob).map cfN
  | _ => none) else none
 | _ => none
theorem wtCE : mapTy Try.prog 48 kk2 = true ∧ elemZero Try.prog 48 (.agg [.int .i64 0, .int .i64 0]) = true := by decide +kernel
theorem dr2 {F : Facts} {ρ : Map} {ob : List (Nat × Obj)} {a b : Int} {v : Value} (h : AR F ρ ob (.agg [.int .i64 a, .int .i64 b]) v) : v = .agg #[.int .i64 a, .int .i64 b] := by
 obtain ⟨vs, rfl, h⟩ := h
 cases h with
 | cons h1 h2 => cases h2 with
  | cons h3 h4 =>
   cases h4
   cases h1; cases h3; rfl
theorem cell_at {B : Nat} {F : Facts} {ρ : Map} {ob : List (Nat × Obj)} {w W : World} {k : Nat} {o : Obj} {p : Place} {r : List AV} {j : Nat} {x : AV} (hm : Mem B F ρ ob w) (hk : k < MK) (ho : get ob k = some o) (hρ : ρ k = some p) (hr : o.rows[0]? = some r) (hj : r[j]? = some x) (hW : W.heap[p.g]? = w.heap[p.g]?) : ∃ u, W.cell? ⟨p.g, p.o + j, none⟩ = some u ∧ AR F ρ ob x u := by
 obtain ⟨_, _, _, _, cur, et, hh, _, g6⟩ := hm.cells hk ho hρ
 obtain ⟨_, u, hu, hx⟩ := g6 0 r j x hr hj
 rw [Nat.zero_mul, Nat.add_zero] at hu
 refine ⟨u, ?_, hx⟩
 simp only [World.cell?, hW, hh, id]
 simpa using hu
theorem cell_grow {W : World} {os : Array Go.Obj} {a : Addr} {v : Value} (h : W.cell? a = some v) : (World.drew (grow W os)).cell? a = some v := by
 have hlt : a.block < W.heap.size := by
  rcases Nat.lt_or_ge a.block W.heap.size with h1 | h1
  ·exact h1
  ·simp [World.cell?, Array.getElem?_eq_none h1] at h
 have he : (World.drew (grow W os)).heap[a.block]? = W.heap[a.block]? := by
  show (W.heap ++ os)[a.block]? = _
  rw [Array.getElem?_append_left hlt]
 simp only [World.cell?, he] at h ⊢
 exact h
def fldOk (P : Program) (t : TypeId) (i : Nat) : Bool := match P.underlying t with
 | some (.struct fs) => match fs[i]? with
  | some f => f.offset == 0 && sized P f.type 1 && agOk P f.type false
  | none => false
 | _ => false
theorem field_run {P : Program} {t : TypeId} {i : Nat} (h : fldOk P t i = true) (n c : Int) (W : World) : (Instr.field t (.agg #[.int .i64 n, .int .i64 c]) i).run P W = .ok (.int .i64 n) W := by
 unfold fldOk at h
 split at h
 ·rename_i fs ht
  split at h
  ·rename_i f hfi
   simp only [Bool.and_eq_true, beq_iff_eq] at h
   obtain ⟨⟨h0, hsz⟩, hag⟩ := h
   have hp : Go.part f.type #[Value.int .i64 n, .int .i64 c] f.offset = Go.part f.type #[Value.int .i64 n, .int .i64 c] 0 := by rw [h0]
   have hq : (Go.part f.type #[Value.int .i64 n, .int .i64 c] 0).run P W = .ok (.int .i64 n) W := by
    simp only [Go.part, Sem.run_bind, run_isAgg hag, Result.andThen_ok]
    simp
   simp [Instr.field, run_underlying ht, hfi, asAgg, hp, hq]
  ·simp at h
 ·simp at h
theorem fldCall : fldOk Try.prog 118 0 = true := by decide +kernel
set_option maxRecDepth 20000 in
set_option maxHeartbeats 4000000 in
theorem call_cmp (x y : List Int) (n m : Int) (bb bo' hb ho' : Nat) (cm : Value) (W : World) (h0 : W.cell? ⟨bb, bo', none⟩ = some (.pointer (some ⟨hb, ho', none⟩))) (h1 : W.cell? ⟨hb, ho' + 1, none⟩ = some cm)
  (hl : ∀ os, ∃ c, (Instr.lookup 48 cm (.agg #[.int .i64 (x.getD 0 0), .int .i64 (x.getD 1 0)]) false).run Try.prog (World.drew (grow W os)) = .ok (.agg #[.int .i64 n, .int .i64 c]) (World.drew (grow W os)))
  (hr : ∀ os, ∃ c, (Instr.lookup 48 cm (.agg #[.int .i64 (y.getD 0 0), .int .i64 (y.getD 1 0)]) false).run Try.prog (World.drew (grow W os)) = .ok (.agg #[.int .i64 m, .int .i64 c]) (World.drew (grow W os))) :
  Calls Try.prog fv_queue_Hall_Calls_1 #[.agg (encK 2 x).toArray, .agg (encK 2 y).toArray, .pointer (some ⟨bb, bo', none⟩)] W fun e w' => e = .returned (.int .i64 (Lib.compareInt n m)) ∧ ∃ q os', w' = grow (W.drewN q) os' := by
 have ex : (encK 2 x).toArray = #[.int .i64 (x.getD 0 0), .int .i64 (x.getD 1 0)] := rfl
 have ey : (encK 2 y).toArray = #[.int .i64 (y.getD 0 0), .int .i64 (y.getD 1 0)] := rfl
 rw [ex, ey]
 generalize x.getD 0 0 = a at *
 generalize x.getD 1 0 = b at *
 generalize y.getD 0 0 = c at *
 generalize y.getD 1 0 = d at *
 have hcon := fun W' => AnyG.cmp_Compare_int Try.cmpInt n m W'
 change ∀ W', Calls Try.prog 61 _ _ _ at hcon
 generalize Lib.compareInt n m = r at hcon ⊢
 go_enter Try.func70, Try.ntmps70
 go_wp2
 refine wp_region_still_lit (by kernel_rfl) (by kernel_rfl) ?_
 have hg : ∃ os, World.drew ((W.alloc (Obj.cells #[Value.int IntKind.i64 a, Value.int IntKind.i64 b] 120)).alloc (Obj.cells #[Value.int IntKind.i64 c, Value.int IntKind.i64 d] 120)) = World.drew (grow W os) := ⟨_, by rw [alloc_eq_grow, alloc_eq_grow, grow_grow]⟩
 have c0 : (World.drew ((W.alloc (Obj.cells #[Value.int IntKind.i64 a, Value.int IntKind.i64 b] 120)).alloc (Obj.cells #[Value.int IntKind.i64 c, Value.int IntKind.i64 d] 120))).cell? ⟨bb, bo', none⟩ = some (.pointer (some ⟨hb, ho', none⟩)) := by rw [alloc_eq_grow, alloc_eq_grow, grow_grow]; exact cell_grow h0
 have c1 : (World.drew ((W.alloc (Obj.cells #[Value.int IntKind.i64 a, Value.int IntKind.i64 b] 120)).alloc (Obj.cells #[Value.int IntKind.i64 c, Value.int IntKind.i64 d] 120))).cell? ⟨hb, ho' + 1, none⟩ = some cm := by rw [alloc_eq_grow, alloc_eq_grow, grow_grow]; exact cell_grow h1
 have c2 : (World.drew ((W.alloc (Obj.cells #[Value.int IntKind.i64 a, Value.int IntKind.i64 b] 120)).alloc (Obj.cells #[Value.int IntKind.i64 c, Value.int IntKind.i64 d] 120))).cell? ⟨W.heap.size, 0, none⟩ = some (.int .i64 a) := by go_cell
 have c3 : (World.drew ((W.alloc (Obj.cells #[Value.int IntKind.i64 a, Value.int IntKind.i64 b] 120)).alloc (Obj.cells #[Value.int IntKind.i64 c, Value.int IntKind.i64 d] 120))).cell? ⟨W.heap.size, 1, none⟩ = some (.int .i64 b) := by go_cell
 have c4 : (World.drew ((W.alloc (Obj.cells #[Value.int IntKind.i64 a, Value.int IntKind.i64 b] 120)).alloc (Obj.cells #[Value.int IntKind.i64 c, Value.int IntKind.i64 d] 120))).cell? ⟨W.heap.size + 1, 0, none⟩ = some (.int .i64 c) := by go_cell
 have c5 : (World.drew ((W.alloc (Obj.cells #[Value.int IntKind.i64 a, Value.int IntKind.i64 b] 120)).alloc (Obj.cells #[Value.int IntKind.i64 c, Value.int IntKind.i64 d] 120))).cell? ⟨W.heap.size + 1, 1, none⟩ = some (.int .i64 d) := by go_cell
 change wpStill _ _ (World.drew ((W.alloc (Obj.cells #[Value.int IntKind.i64 a, Value.int IntKind.i64 b] 120)).alloc (Obj.cells #[Value.int IntKind.i64 c, Value.int IntKind.i64 d] 120))) _ _ _
 change wpStill _ _ _ (fun a' => _ ) _ _
 generalize hw2 : World.drew ((W.alloc (Obj.cells #[Value.int IntKind.i64 a, Value.int IntKind.i64 b] 120)).alloc (Obj.cells #[Value.int IntKind.i64 c, Value.int IntKind.i64 d] 120)) = w2 at *
 obtain ⟨os, hos⟩ := hg
 obtain ⟨z1, hl⟩ := hl os
 obtain ⟨z2, hr⟩ := hr os
 have hfi := fun n c W => field_run (P := Try.prog) fldCall n c W
 rw [← hos] at hl hr
 have hg : ∃ q os', w2 = grow (W.drewN q) os' := ⟨1, os, by rw [hos]; rfl⟩
 clear hos
 still_step
 still_step
 still_step
 still_step
 still_step
 still_step
 still_step
 still_step
 still_step
 still_step
 still_step
 still_step
 still_step
 still_step
 still_call (hcon _)
 still_step
 refine wpStill_nil ?_
 change Exit.then _ _ _ _ (World.drew ((W.alloc (Obj.cells #[Value.int IntKind.i64 a, Value.int IntKind.i64 b] 120)).alloc (Obj.cells #[Value.int IntKind.i64 c, Value.int IntKind.i64 d] 120)))
 rw [hw2]
 go_wp2
 go_ret
 exact ⟨rfl, hg⟩
theorem ar2 (F : Facts) (ρ : Map) (ob : List (Nat × Obj)) (a b : Int) : AR F ρ ob (.agg [.int .i64 a, .int .i64 b]) (.agg #[.int .i64 a, .int .i64 b]) := ⟨[.int .i64 a, .int .i64 b], rfl, .cons (DR.int _ _) (.cons (DR.int _ _) .nil)⟩
theorem look_calls {B : Nat} {F : Facts} {ρ : Map} {ob : List (Nat × Obj)} {w W : World} {K : Nat} {o : Obj} {cs : List HC} {u : Value} (hm : Mem B F ρ ob w) (hr : AR F ρ ob (.mp K) u) (hob : get ob K = some o) (hcs : gHCs o.rows = some cs) (hW : ∀ p, ρ K = some p → W.heap[p.g]? = w.heap[p.g]?) (x : List Int) :
  (Instr.lookup 48 u (.agg #[.int .i64 (x.getD 0 0), .int .i64 (x.getD 1 0)]) false).run Try.prog W = .ok (.agg #[.int .i64 (nOf cs x), .int .i64 (cOf cs x)]) W := by
 have hrow := gHCs_some hcs
 have mf := mfind_c (x.getD 0 0) (x.getD 1 0) cs 0
 rw [← hrow] at mf
 obtain ⟨v, vu, h1, h2, h3⟩ := lookup_at hm wtCE.1 wtCE.2 hr (ar2 F ρ ob (x.getD 0 0) (x.getD 1 0)) hob rfl mf hW
 rw [h3]
 cases hf : findC cs (x.getD 0 0) (x.getD 1 0) 0 with
 | none =>
  rw [hf] at h1
  simp only [Option.map_none, foundV] at h1
  subst h1
  rw [dr2 h2]
  simp only [nOf, cOf, hf]
 | some p =>
  rw [hf] at h1
  simp only [Option.map_some, foundV] at h1
  subst h1
  rw [dr2 h2]
  simp only [nOf, cOf, hf]
theorem look_calls0 {F : Facts} {ρ : Map} {ob : List (Nat × Obj)} {W : World} (x : List Int) :
  (Instr.lookup 48 (.map none) (.agg #[.int .i64 (x.getD 0 0), .int .i64 (x.getD 1 0)]) false).run Try.prog W = .ok (.agg #[.int .i64 (nOf [] x), .int .i64 (cOf [] x)]) W := by
 obtain ⟨vu, h2, h3⟩ := lookup_nil (F := F) (ρ := ρ) (ob := ob) (W := W) wtCE.1 wtCE.2 (ar2 F ρ ob (x.getD 0 0) (x.getD 1 0)) rfl
 rw [h3, dr2 h2]; rfl
theorem cmpOk_C : CmpOk Try.prog 2 cfoC := by
 intro B F ρ ob w key x v cf o hc hm hx ho
 unfold cfoC at hc
 split at hc
 case h_2 => simp at hc
 rename_i g bk
 split at hc
 case isFalse => simp at hc
 rename_i hg
 obtain ⟨rfl, hbk, hkey⟩ := hg
 split at hc
 case h_2 => simp at hc
 rename_i hk hbo
 simp only [Option.map_eq_some_iff] at hc
 obtain ⟨cs, hcs, rfl⟩ := hc
 obtain ⟨vs, rfl, hvs⟩ := hx
 obtain ⟨v0, rfl, hv0⟩ : ∃ v0, vs = [v0] ∧ AR1 F ρ ob (.loc bk 0 0) v0 := by
  cases hvs with
  | cons h1 h2 => cases h2; exact ⟨_, rfl, h1⟩
 obtain ⟨hbM, hv0⟩ := hv0
 obtain ⟨pb, hpb, rfl⟩ := hv0 _ hbo
 refine ⟨swo_cmpInt (nOf cs), fv_queue_Hall_Calls_1, _, rfl, enters_of Try.func70 (by kernel_rfl) rfl, fun W hW a b => ?_⟩
 have hlt : ∀ k' o' p', get ob k' = some o' → ρ k' = some p' → p'.g < w.heap.size := fun k' o' p' h1 h2 => by
  obtain ⟨b, hb⟩ := (hm.own k' o' p' h1 h2).2.some
  rcases Nat.lt_or_ge p'.g w.heap.size with h | h
  ·exact h
  ·rw [Array.getElem?_eq_none h] at hb; simp at hb
 have hWb : ∀ k' o' p', get ob k' = some o' → ρ k' = some p' → k' ≠ key → W.heap[p'.g]? = w.heap[p'.g]? := fun k' o' p' h1 h2 h3 => by
  refine hW _ (hlt k' o' p' h1 h2) fun p hp he => ?_
  exact h3 (hm.inj k' o' p' key o p h1 h2 ho hp he)
 have hgW : ∀ (os : Array Go.Obj) (j : Nat), j < W.heap.size → (World.drew (grow W os)).heap[j]? = W.heap[j]? := fun os j hj => by
  show (W.heap ++ os)[j]? = _
  rw [Array.getElem?_append_left hj]
 obtain ⟨u1, hc1, hu1⟩ := cell_at (r := [.loc hk 0 0]) (j := 0) hm hbM hbo hpb rfl rfl (hWb _ _ _ hbo hpb hbk)
 unfold hallCs at hcs
 split at hcs
 ·simp at hcs
 rename_i hkk
 have main : ∀ (wv cmv nv : AV), get ob hk = some ⟨3, [[wv, cmv, nv]]⟩ → (∀ u, AR F ρ ob cmv u → ∀ (os : Array Go.Obj) (x : List Int), (Instr.lookup 48 u (.agg #[.int .i64 (x.getD 0 0), .int .i64 (x.getD 1 0)]) false).run Try.prog (World.drew (grow W os)) = .ok (.agg #[.int .i64 (nOf cs x), .int .i64 (cOf cs x)]) (World.drew (grow W os))) →
   Calls Try.prog fv_queue_Hall_Calls_1 (#[.agg (encK 2 a).toArray, .agg (encK 2 b).toArray] ++ [.pointer (some ⟨pb.g, pb.o + 0 * pb.sz + 0, none⟩)].toArray) W fun e w' => e = .returned (.int .i64 (cfN cs a b)) ∧ ∃ q os', w' = grow (W.drewN q) os' := by
  intro wv cmv nv hho hl
  obtain ⟨hhM, hu1⟩ := hu1
  obtain ⟨ph, hph, rfl⟩ := hu1 _ hho
  obtain ⟨u2, hc2, hu2⟩ := cell_at (r := [wv, cmv, nv]) (j := 1) hm hhM hho hph rfl rfl (hWb _ _ _ hho hph hkk)
  have hl := hl u2 hu2
  simp only [Nat.zero_mul, Nat.add_zero] at hc1 ⊢
  exact call_cmp a b (nOf cs a) (nOf cs b) pb.g pb.o ph.g ph.o u2 W hc1 hc2 (fun os => ⟨_, hl os a⟩) (fun os => ⟨_, hl os b⟩)
 split at hcs
 ·rename_i wv nv hho
  simp only [Option.some.injEq] at hcs; subst hcs
  refine main wv (.ot .nm) nv hho fun u hu os x => ?_
  have hu : u = .map none := hu
  subst hu
  exact look_calls0 (F := F) (ρ := ρ) (ob := ob) x
 ·rename_i wv K nv hho
  split at hcs
  case h_2 => simp at hcs
  rename_i oK hKo
  refine main wv (.mp K) nv hho fun u hu os x => ?_
  refine look_calls hm hu hKo hcs (fun p hp => ?_) x
  have hne : K ≠ key := by have := hu.1; omega
  have h1 := hWb K oK p hKo hp hne
  obtain ⟨b', hb'⟩ := (hm.own K oK p hKo hp).2.some
  have h2 : p.g < W.heap.size := by
   rcases Nat.lt_or_ge p.g W.heap.size with h | h
   ·exact h
   ·rw [Array.getElem?_eq_none h, hb'] at h1; simp at h1
  rw [hgW os _ h2, h1]
 ·simp at hcs
theorem sort_call : SpecP Try.prog 69 (sortGPt 2 cfoC) :=
 sortG_specP Try.sortCe 2 (by omega) Try.isAgg120 Try.sizeOf120 cfoC cmpOk_C
end Go.Am
namespace Go.Am
open Go.Proofs Go.Shelf Go.RowKit Go.Sort
section
variable {α : Type} (b : α → Nat) (kv vv : α → AV)
def entR (e : α) : List AV := [.c (.int .i64 (b e)), kv e, vv e]
def bornR (e : α) : List AV := [.c (.int .i64 (b e))]
theorem cameR (l : List α) (n : Int) : came (l.map (bornR b)) n = true ↔ ∃ e ∈ l, (b e : Int) = n := by
 unfold came
 rw [List.any_map, List.any_eq_true]
 simp [bornR]
theorem nmRows_bornR (k : Nat) (l : List α) : nmRows k (l.map (bornR b)) = true := by induction l <;> simp_all [bornR]
theorem lcRows_bornR (k : Nat) (l : List α) : lcRows k (l.map (bornR b)) = true := by induction l <;> simp_all [bornR]
theorem find_bornR {l : List α} (hn : (l.map b).Nodup) {e : α} (he : e ∈ l) : (l.map (entR b kv vv)).find? (hasBorn (b e)) = some (entR b kv vv e) := by
 induction l with
 | nil => simp at he
 | cons f l ih =>
  rw [List.map_cons, List.nodup_cons] at hn
  rw [List.map_cons, List.find?_cons]
  rcases List.mem_cons.1 he with rfl | he
  ·simp [entR, hasBorn]
  ·have : ¬ (b f : Int) = b e := fun h => hn.1 (by
    have h : b f = b e := by omega
    exact h ▸ List.mem_map.2 ⟨e, he, rfl⟩)
   have h0 : hasBorn (b e) (entR b kv vv f) = false := by simp [entR, hasBorn, this]
   rw [h0]; exact ih hn.2 he
theorem nextP_map {l done : List α} {s : St} {it key mk z : Nat} {K : St → AV → Prop} (h1 : get s.fr it = some (.itr key)) (h2 : get s.ob key = some ⟨z, [.mp mk, .c (.int .i64 z)] :: done.map (bornR b)⟩) (h3 : get s.ob mk = some ⟨z, l.map (entR b kv vv)⟩) (hD : ∀ e ∈ l, (kv e).isD = true ∧ (vv e).isD = true)
  (hend : (∀ e ∈ l, ∃ d ∈ done, b d = b e) → K s (.tup [.c (.bool false)])) (hnext : ∀ e ∈ l, (∀ d ∈ done, b d ≠ b e) → K (s.obj key ⟨z, [.mp mk, .c (.int .i64 z)] :: (done ++ [e]).map (bornR b)⟩) (.tup [.c (.bool true), kv e, vv e])) : nextP s it K := by
 simp only [nextP, h1, h2]
 right
 refine ⟨mk, done.map (bornR b), _, rfl, h3, rfl, fun h => hend fun e he => ?_, fun bb kk vv' hm hc => ?_⟩
 ·obtain ⟨d, hd, hb⟩ := (cameR b done _).1 (h (b e) _ _ (List.mem_map.2 ⟨e, he, rfl⟩))
  exact ⟨d, hd, by omega⟩
 ·obtain ⟨e, he, hr⟩ := List.mem_map.1 hm
  simp only [entR, List.cons.injEq, AV.c.injEq, D.int.injEq, true_and, and_true] at hr
  obtain ⟨rfl, rfl, rfl⟩ := hr
  obtain ⟨d1, d2⟩ := hD e he
  refine ⟨d1, d2, ?_⟩
  have := hnext e he fun d hd hb => by rw [(cameR b done _).2 ⟨d, hd, by omega⟩] at hc; simp at hc
  rw [List.map_append] at this
  exact this
theorem lpW_map {f : St → (AX → St → Prop) → Prop} {K : AX → St → Prop} (hf : ∀ s (K K' : AX → St → Prop), (∀ ax s', K ax s' → K' ax s') → f s K → f s K') {l : List α} (hn : (l.map b).Nodup) (Hs : List α → St → Prop)
  (round : ∀ done s, Hs done s → (∃ rest, (done ++ rest).Perm l) → f s fun ax s' => (ax = .norm ∧ ∃ e ∈ l, (∀ d ∈ done, b d ≠ b e) ∧ Hs (done ++ [e]) s') ∨ (ax ≠ .norm ∧ (∀ e ∈ l, ∃ d ∈ done, b d = b e) ∧ (done.Perm l → K ax s')))
  (M : Nat) (s : St) (hs : Hs [] s) (hM : l.length < M) : lpW f M s K := by
 refine lpW_rule (f := f) (I := fun n s => ∃ done rest, Hs done s ∧ (done ++ rest).Perm l ∧ rest.length = n) hf ?_ l.length M s ⟨[], l, hs, .refl _, rfl⟩ hM
 rintro n s ⟨done, rest, hs, hp, rfl⟩
 have hnd : ((done ++ rest).map b).Nodup := (hp.map b).nodup_iff.2 hn
 rw [List.map_append, List.nodup_append] at hnd
 refine hf s _ _ (fun ax s' h => ?_) (round done s hs ⟨rest, hp⟩)
 rcases h with ⟨rfl, e, he, hno, hs'⟩ | ⟨hax, hend, hk⟩
 ·have hm := hp.mem_iff.2 he
  rcases List.mem_append.1 hm with hm | hm
  ·exact absurd rfl (hno e hm)
  ·obtain ⟨r1, r2, rfl⟩ := List.append_of_mem hm
   refine ⟨(r1 ++ r2).length, by simp, done ++ [e], r1 ++ r2, hs', ?_, rfl⟩
   refine List.Perm.trans ?_ hp
   rw [List.append_assoc]
   exact List.Perm.append_left _ (by simpa using (List.perm_middle (a := e) (l₁ := r1) (l₂ := r2)).symm)
 ·have hr : rest = [] := by
   cases rest with
   | nil => rfl
   | cons r rest =>
    obtain ⟨f, hf, hb⟩ := hend r (hp.mem_iff.1 (by simp))
    exact absurd hb (hnd.2.2 _ (List.mem_map.2 ⟨f, hf, rfl⟩) _ (List.mem_map.2 ⟨r, by simp, rfl⟩))
  subst hr
  rw [List.append_nil] at hp
  cases ax with
  | norm => exact absurd rfl hax
  | ex i => exact hk hp
  | ret => exact hk hp
end
theorem noTies_perm {lt : List Int → List Int → Bool} {a b : List (List Int)} (hp : a.Perm b) (h : noTies lt b = true) : noTies lt a = true := by
 unfold noTies at *
 rw [List.all_eq_true] at *
 intro x hx
 have := h x (hp.mem_iff.1 hx)
 rw [List.all_eq_true] at *
 intro y hy
 exact this y (hp.mem_iff.1 hy)
theorem resF_eq_perm {lt : List Int → List Int → Bool} (hO : SWO lt) {a b : List (List Int)} (hp : a.Perm b) (h : noTies lt b = true) : resF lt a = resF lt b := by
 have ha := noTies_perm hp h
 unfold resF
 rw [if_pos h, if_pos ha]
 refine sortedL_unique hO (srtL_sorted hO a) (srtL_sorted hO b) ((srtL_perm lt a).trans (hp.trans (srtL_perm lt b).symm)) fun x hx y hy h1 h2 => ?_
 unfold noTies at ha
 have := List.all_eq_true.1 (List.all_eq_true.1 ha x ((srtL_perm lt a).mem_iff.1 hx)) y ((srtL_perm lt a).mem_iff.1 hy)
 simpa [h1, h2] using this
theorem keepF_kf (lo hi : Nat) : ∀ ob : List (Nat × Obj), Kf lo hi (keepF lo hi [] ob)
 | [] => kf_nil lo hi
 | (k, o) :: r => by
  simp only [keepF, List.not_mem_nil, or_false]
  split
  ·rename_i h; exact (kf_cons h).2 (keepF_kf lo hi r)
  ·exact keepF_kf lo hi r
theorem keepF_del (lo hi k : Nat) (h1 : lo ≤ k % KT) (h2 : k % KT < hi) : ∀ ob : List (Nat × Obj), del (keepF lo hi [] ob) k = keepF lo hi [] ob
 | [] => rfl
 | (j, o) :: r => by
  simp only [keepF, List.not_mem_nil, or_false]
  split
  ·rename_i h
   simp only [del]
   rw [if_neg (by rintro rfl; omega), keepF_del lo hi k h1 h2 r]
  ·exact keepF_del lo hi k h1 h2 r
theorem get_of_del {α : Type} {l : List (Nat × α)} {k j : Nat} {o : α} (hd : del l k = l) (h : get l j = some o) : ¬ k = j := by
 rintro rfl
 rw [← hd, get_del, if_pos rfl] at h; simp at h
theorem nmFr_ghs (k : Nat) : ∀ l : List (Nat × AV), nmFr k l = true → nmFr k (ghs l) = true
 | [], _ => rfl
 | (i, v) :: r, h => by
  simp only [nmFr, Bool.and_eq_true] at h
  simp only [ghs]
  split
  ·simp only [nmFr, h.1, nmFr_ghs k r h.2, Bool.and_self]
  ·exact nmFr_ghs k r h.2
theorem nmFr_del (k j : Nat) : ∀ l : List (Nat × AV), nmFr k l = true → nmFr k (del l j) = true
 | [], _ => rfl
 | (i, v) :: r, h => by
  simp only [nmFr, Bool.and_eq_true] at h
  simp only [del]
  split
  ·exact nmFr_del k j r h.2
  ·simp only [nmFr, h.1, nmFr_del k j r h.2, Bool.and_self]
theorem nmFr_dels (k : Nat) : ∀ (R : List Nat) (l : List (Nat × AV)), nmFr k l = true → nmFr k (dels R l) = true
 | [], _, h => h
 | j :: R, l, h => nmFr_dels k R _ (nmFr_del k j l h)
theorem ghs_gh : ∀ l : List (Nat × AV), Gh (ghs l)
 | [] => rfl
 | (i, v) :: r => by
  have := ghs_gh r
  simp only [Gh, ghs] at this ⊢
  split
  ·rename_i h; simp only [ghs]; rw [if_pos h, this]
  ·exact this
def gW4 : List AV → Option W4
 | [.c (.int .i64 a), .c (.int .i64 b), .c (.int .i64 c), .c (.int .i64 d)] => some (a, b, c, d)
 | _ => none
def gW4s : Rows → Option (List W4)
 | [] => some []
 | r :: rs => match gW4 r, gW4s rs with
  | some e, some l => some (e :: l)
  | _, _ => none
theorem gW4s_map : ∀ l : List W4, gW4s (l.map w4R) = some l
 | [] => rfl
 | e :: l => by
  have h1 : gW4 (w4R e) = some e := rfl
  simp only [List.map_cons, gW4s, gW4s_map l, h1]
theorem gW4s_some : ∀ {r : Rows} {l : List W4}, gW4s r = some l → r = l.map w4R
 | [], l, h => by simp only [gW4s, Option.some.injEq] at h; subst h; rfl
 | x :: r, l, h => by
  unfold gW4s at h
  split at h
  ·rename_i e l' h1 h2
   simp only [Option.some.injEq] at h; subst h
   rw [gW4s_some h2, List.map_cons]
   congr 1
   unfold gW4 at h1
   split at h1
   ·simp only [Option.some.injEq] at h1; subst h1; rfl
   ·simp at h1
  ·simp at h
def gHQ (ob : List (Nat × Obj)) : List AV → Option HQ
 | [.c (.int .i64 b), .agg [.int .i64 f, .int .i64 d, .int .i64 c], .sl ky ver st n] => match get ob ky with
  | some o => match gW4s o.rows with
   | some ws => if 0 ≤ b ∧ o.sz = 4 ∧ ws.length = ver ∧ st + n = ver then some ⟨b.toNat, (f, d, c), ky, ws.take st, ws.drop st⟩ else none
   | none => none
  | none => none
 | _ => none
def gHQs (ob : List (Nat × Obj)) : Rows → Option (List HQ)
 | [] => some []
 | r :: rs => match gHQ ob r, gHQs ob rs with
  | some e, some l => some (e :: l)
  | _, _ => none
theorem gHQs_map {ob : List (Nat × Obj)} : ∀ {l : List HQ}, (∀ e ∈ l, get ob e.ky = some e.obj) → gHQs ob (l.map HQ.row) = some l
 | [], _ => rfl
 | e :: l, h => by
  have h1 : gHQ ob e.row = some e := by
   have h0 := h e (by simp)
   obtain ⟨b, ⟨k1, k2, k3⟩, ky, gone, l0⟩ := e
   simp only [HQ.row, HQ.val, k3D, gHQ]
   simp only at h0
   rw [h0]
   simp only [HQ.obj, gW4s_map, Int.natCast_nonneg, Int.toNat_natCast, List.length_append, true_and, and_self]
   simp
  simp only [List.map_cons, gHQs, gHQs_map fun e he => h e (List.mem_cons_of_mem _ he), h1]
theorem gHQs_some {ob : List (Nat × Obj)} : ∀ {r : Rows} {l : List HQ}, gHQs ob r = some l → r = l.map HQ.row ∧ ∀ e ∈ l, get ob e.ky = some e.obj
 | [], l, h => by simp only [gHQs, Option.some.injEq] at h; subst h; simp
 | x :: r, l, h => by
  unfold gHQs at h
  split at h
  ·rename_i e l' h1 h2
   simp only [Option.some.injEq] at h; subst h
   obtain ⟨e1, e2⟩ := gHQs_some h2
   rw [e1, List.map_cons]
   unfold gHQ at h1
   split at h1
   ·rename_i b f d c ky ver st n
    split at h1
    ·rename_i o ho
     split at h1
     ·rename_i ws hws
      split at h1
      ·rename_i hc
       obtain ⟨c1, c2, c3, c4⟩ := hc
       simp only [Option.some.injEq] at h1; subst h1
       have hr := gW4s_some hws
       refine ⟨?_, fun y hy => ?_⟩
       ·simp only [HQ.row, HQ.val, k3D, List.length_take, List.length_drop, Int.toNat_of_nonneg c1]
        rw [show min st ws.length = st by omega, show st + (ws.length - st) = ws.length by omega, c3, show ver - st = n by omega]
       ·rcases List.mem_cons.1 hy with rfl | hy
        ·simp only [HQ.obj, List.take_append_drop]
         rw [ho]
         obtain ⟨sz, rows⟩ := o
         simp only at c2 hr ⊢
         rw [c2, hr]
        ·exact e2 y hy
      ·simp at h1
     ·simp at h1
    ·simp at h1
   ·simp at h1
  ·simp at h
def hallQs (hk : Nat) (ob : List (Nat × Obj)) : Option (Option Nat × List HQ) := match get ob hk with
 | some ⟨3, [[.ot .nm, _, _]]⟩ => some (none, [])
 | some ⟨3, [[.mp K, _, _]]⟩ => match get ob K with
  | some o => (gHQs ob o.rows).map (some K, ·)
  | none => none
 | _ => none
def nodupB : List Nat → Bool
 | [] => true
 | e :: l => l.all (fun f => !decide (e = f)) && nodupB l
theorem nodupB_iff : ∀ {l : List Nat}, nodupB l = true ↔ l.Nodup
 | [] => by simp [nodupB]
 | e :: l => by
  simp only [nodupB, Bool.and_eq_true, List.all_eq_true, Bool.not_eq_true', decide_eq_false_iff_not, nodupB_iff (l := l), List.nodup_cons]
  refine and_congr_left fun _ => ⟨fun h hm => h e hm rfl, fun h x hx he => h (by rw [he]; exact hx)⟩
end Go.Am
namespace Go.Am
open Go.Proofs Go.Shelf Go.RowKit Go.Sort
abbrev ltId : List Int → List Int → Bool := ltOf cfId
def w4L (w : W4) : List Int := [w.1, w.2.1, w.2.2.1, w.2.2.2]
theorem w4R_rowI (l : List W4) : l.map w4R = (l.map w4L).map rowI := by rw [List.map_map]; rfl
abbrev allW (qs : List HQ) : List W4 := qs.flatMap (·.l)
abbrev obW (s : St) : List (Nat × Obj) := keepF 514000 515000 [] s.ob
def waitSide (s : St) : Bool := nmFr 514003 s.fr && nmFr 2923003274661805836407369665432566039311865599962 s.fr && nmOb 514003 (obW s) && nmOb 2923003274661805836407369665432566039311865599962 (obW s)
def waitQs (s : St) : Option (List HQ) := match get s.fr 0 with
 | some (.loc hk 0 0) => (hallQs hk (obW s)).map (·.2)
 | _ => none
def waitPt (s : St) : Option (List AV × List (Nat × Obj)) :=
 match waitQs s with
 | some qs => if (nodupB (qs.map (·.b)) && decide ((allW qs).length ≤ 200000) && decide (qs.length ≤ 200000) && noTies ltId ((allW qs).map w4L) && waitSide s) = true then some ([.sl 514003 (allW qs).length 0 (allW qs).length], (514003, ⟨4, (resF ltId ((allW qs).map w4L)).map rowI⟩) :: obW s) else none
 | none => none
theorem waitPt_mono (s : St) (rs : List AV) (ob : List (Nat × Obj)) (R : List Nat) (hR : ∀ r ∈ R, GB ≤ r) (h : waitPt s = some (rs, ob)) : waitPt ⟨dels R s.fr, s.ob⟩ = some (rs, ob) := by
 have hG : (0 : Nat) < GB := by decide
 have e0 : get (dels R s.fr) 0 = get s.fr 0 := by rw [get_dels, if_neg fun h => by have := hR _ h; omega]
 have e1 : waitQs ⟨dels R s.fr, s.ob⟩ = waitQs s := by simp only [waitQs, e0]
 unfold waitPt at h ⊢
 rw [e1]
 split at h
 case h_2 => simp at h
 split at h
 case isFalse => simp at h
 rename_i qs hq hc
 simp only [Bool.and_eq_true, waitSide] at hc
 obtain ⟨⟨⟨⟨c1, c2⟩, c2'⟩, c3⟩, ⟨⟨c4, c5⟩, c6⟩, c7⟩ := hc
 simp only [obW] at c6 c7
 simp only [hq, waitSide, obW, c1, c2, c2', c3, nmFr_dels _ R _ c4, nmFr_dels _ R _ c5, c6, c7, Bool.and_self, if_true]
 exact h
def wtEnv : Env := ⟨fun _ _ => none, fun f s => if f = 526 then sortGPt 4 cfoW s else none, fun _ _ => none⟩
theorem wtEnv_pt : wtEnv.pt 526 = sortGPt 4 cfoW := by funext s; simp [wtEnv]
theorem wtEnv_ok {nm : Nat → Option Nat} (h : nm 526 = some 67) : EnvOk Try.prog nm wtEnv where
 fv := fun g ds rs h => by simp [wtEnv] at h
 fvS := fun g F w ds vs rs _ _ h => by simp [wtEnv] at h
 fn := fun f g _ F w ds vs rs _ _ h => by simp [wtEnv] at h
 pt := fun f g hg => by
  by_cases hf : f = 526
  ·subst hf
   rw [h] at hg; simp only [Option.some.injEq] at hg; subst hg
   rw [wtEnv_pt]; exact sort_waiter
  ·have : wtEnv.pt f = fun _ => none := by funext s; simp [wtEnv, hf]
   rw [this]; exact SpecP.none
 mono := fun f s rs ob R hR h => by
  by_cases hf : f = 526
  ·subst hf
   rw [wtEnv_pt] at h ⊢
   exact sortG_mono _ _ s rs ob R hR h
  ·simp [wtEnv, hf] at h
abbrev bQ : HQ → Nat := (·.b)
abbrev kyQ (e : HQ) : AV := .agg (k3D e.k)
theorem rowQ (l : List HQ) : l.map HQ.row = l.map (entR bQ kyQ HQ.val) := rfl
def hdQ (b : Bool) (done : List HQ) (mk z : Nat) (gs : List (Nat × AV)) (ob : List (Nat × Obj)) : St :=
 ⟨(3, .sl 514003 (allW done).length 0 (allW done).length) :: (10, .itr 2923003274661805836407369665432566039311865599962) :: gs,
  if b then (514003, ⟨4, (allW done).map w4R⟩) :: (2923003274661805836407369665432566039311865599962, ⟨z, [.mp mk, .c (.int .i64 z)] :: done.map (bornR bQ)⟩) :: ob
  else (2923003274661805836407369665432566039311865599962, ⟨z, [.mp mk, .c (.int .i64 z)] :: done.map (bornR bQ)⟩) :: (514003, ⟨4, (allW done).map w4R⟩) :: ob⟩
section
variable {gs : List (Nat × AV)} {ob : List (Nat × Obj)}
structure WaH (gs : List (Nat × AV)) (ob : List (Nat × Obj)) : Prop where
 g : Gh gs
 k : Kf 514000 515000 ob
 d3 : del ob 514003 = ob
 di : del ob 2923003274661805836407369665432566039311865599962 = ob
 n3 : nmFr 514003 gs = true
 ni : nmFr 2923003274661805836407369665432566039311865599962 gs = true
 o3 : nmOb 514003 ob = true
 oi : nmOb 2923003274661805836407369665432566039311865599962 ob = true
def tailW : AW := .ac (.keepP [3] 514000 515000 [514003, 514017] (.seq (.reg r514_6) (.keepP [3] 514000 515000 [514003, 514017] (.seq (.reg r514_7) (.keepP [2] 514000 515000 [514003, 514017] (.ret))))))
theorem wait_tail (M : Nat) (done : List HQ) (hH : WaH gs ob) (hl : (allW done).length ≤ 200000) (K : AX → St → Prop)
  (hK : K .ret ⟨(2, .sl 514003 (allW done).length 0 (allW done).length) :: gs, (514003, ⟨4, (resF ltId ((allW done).map w4L)).map rowI⟩) :: ob⟩) :
  execW wtEnv M tailW ⟨(3, .sl 514003 (allW done).length 0 (allW done).length) :: gs, (514003, ⟨4, (allW done).map w4R⟩) :: ob⟩ K := by
 obtain ⟨g, k, d3, di, n3, ni, o3, oi⟩ := hH
 generalize hal : allW done = al at *
 have hs : ∀ xs : List (Nat × AV), get xs 2 = none → sortGPt 4 cfoW ⟨(0, .sl 514003 al.length 0 al.length) :: (1, .ot (.fn fv_queue_Hall_Waiting_1)) :: xs, (514003, ⟨4, al.map w4R⟩) :: ob⟩ = some ([], (514003, ⟨4, (resF ltId (al.map w4L)).map rowI⟩) :: ob) := by
  intro xs h2
  have hr : rowsI 4 (al.map w4R) = some (al.map w4L) := rowsI_map 4 w4L (fun _ => rfl) al
  unfold sortGPt
  simp [h2, hr, cfoW, d3, show al.length < 4611686018427387904 by omega]
 unfold tailW
 rw [execW_ac]
 simp only [fv_queue_Hall_Waiting_1] at hs
 simp -implicitDefEqProofs (disch := first | omega | (simp <;> fail) | assumption) [wtEnv_pt, hs, g, k, acK_some]
 exact hK
theorem wait_round (M : Nat) (b : Bool) (l done : List HQ) (mk z : Nat) (hH : WaH gs ob) (hl : (allW done).length ≤ 200000) (hn : (l.map (·.b)).Nodup) (hmk : get ob mk = some ⟨z, l.map HQ.row⟩) (hq : ∀ e ∈ l, get ob e.ky = some e.obj) (hll : ∀ e ∈ l, (allW done).length + e.l.length ≤ 400000) (K : AX → St → Prop)
  (hEnd : (∀ e ∈ l, ∃ f ∈ done, f.b = e.b) → K (.ex 0) ⟨(3, .sl 514003 (allW done).length 0 (allW done).length) :: gs, (514003, ⟨4, (allW done).map w4R⟩) :: ob⟩)
  (hNext : ∀ e ∈ l, (∀ f ∈ done, f.b ≠ e.b) → ∀ s', nrmP [3, 10] 514000 515000 [514003, 2923003274661805836407369665432566039311865599962, 514017] s' = hdQ true (done ++ [e]) mk z gs ob → K .norm s') :
  execW wtEnv M queue_Hall_Waiting_l1b (hdQ b done mk z gs ob) K := by
 obtain ⟨g, k, d3, di, n3, ni, o3, oi⟩ := hH
 have q3 := get_of_del d3 hmk
 have qi := get_of_del di hmk
 have q3' := Ne.symm q3
 have qi' := Ne.symm qi
 have a3 := fun k => nmRows_bornR bQ k done
 have a4 := fun k => lcRows_bornR bQ k done
 rw [queue_Hall_Waiting_l1b_x, execW_seq]
 have hg1 : get (hdQ b done mk z gs ob).fr 10 = some (.itr 2923003274661805836407369665432566039311865599962) := rfl
 have hg2 : get (hdQ b done mk z gs ob).ob 2923003274661805836407369665432566039311865599962 = some ⟨z, [.mp mk, .c (.int .i64 z)] :: done.map (bornR bQ)⟩ := by cases b <;> rfl
 have hg3 : get (hdQ b done mk z gs ob).ob mk = some ⟨z, l.map (entR bQ kyQ HQ.val)⟩ := by rw [← rowQ]; cases b <;> simp [hdQ, Go.Am.get, q3, qi, hmk]
 simp only [execW]
 refine nextP_map bQ kyQ HQ.val hg1 hg2 hg3 (fun e _ => ⟨rfl, rfl⟩) (fun hend => ?_) (fun e he hno => ?_)
 ·have hK := hEnd hend
  refine ⟨_, rfl, ?_⟩
  rw [seqK_norm, execW_ac]
  unfold hdQ
  generalize allW done = al at *
  cases b <;> simp -implicitDefEqProofs (disch := first | omega | (simp <;> fail) | assumption) [g, k, acK_some, d3, di] <;> exact hK
 ·have hf := find_bornR bQ kyQ HQ.val hn he
  have hK := hNext e he hno
  have hye := hq e he
  have y3 := get_of_del d3 hye
  have yi := get_of_del di hye
  have y3' := Ne.symm y3
  have yi' := Ne.symm yi
  have hle := hll e he
  have hlen1 : (List.map w4R (allW done)).length = (allW done).length := List.length_map _
  have hlen2 : (List.map w4R (e.gone ++ e.l)).length = e.gone.length + e.l.length := by simp
  have hdr : List.drop e.gone.length (List.map w4R (e.gone ++ e.l)) = List.map w4R e.l := by rw [List.map_append, List.drop_left' (by simp)]
  have hall : allW (done ++ [e]) = allW done ++ e.l := by simp [allW]
  have m1 := fun k => nmRows_w4 k (allW done)
  have m2 := fun k => nmRows_w4 k (e.gone ++ e.l)
  have m3 := fun k => nmRows_w4 k e.l
  have hw4 : ∀ l : List W4, allRows (l.map w4R) = some (l.map w4D) := fun l => allRows_comp w4D l
  have ha : allRows (List.map w4R e.gone ++ List.map w4R e.l) = some (e.gone.map w4D ++ e.l.map w4D) := by rw [← List.map_append, hw4, List.map_append]
  have hdr2 : List.take e.l.length (List.drop e.gone.length (e.gone.map w4D ++ e.l.map w4D)) = e.l.map w4D := by rw [List.drop_left' (by simp), List.take_of_length_le (by simp)]
  have htv : List.map toAV (e.l.map w4D) = e.l.map w4R := by rw [List.map_map]; rfl
  have l3 := lcFr_nm n3
  have l4 := lcRows_nm _ _ (m1 514003)
  have l5 := lcOb_nm o3
  refine ⟨_, rfl, ?_⟩
  rw [seqK_norm, execW_ac]
  rw [rowQ] at hmk
  simp only [HQ.obj] at hye
  simp only [hdQ, hall, List.length_append] at hK
  generalize hal : allW done = al at *
  obtain ⟨eb, ek, ky, gone, el⟩ := e
  simp only at *
  cases b <;> simp -implicitDefEqProofs (disch := first | omega | (simp <;> fail) | assumption) [hdQ, g, k, acK_some, d3, di, hf, a3, a4, entR, bornR, HQ.val, hmk, q3, qi, q3', qi', n3, ni, o3, oi, hye, y3, yi, y3', yi', hlen1, hlen2, hdr, m1, m2, m3, hal, ha, hdr2, htv, l3, l4, l5]
  all_goals
   refine hK _ ?_
   simp -implicitDefEqProofs (disch := first | omega | (simp <;> fail) | assumption) [g, k, bornR]
   exact List.take_of_length_le (by simp)
end
theorem wait_round0 (M : Nat) {gs : List (Nat × AV)} {ob : List (Nat × Obj)} (hH : WaH gs ob) (K : AX → St → Prop) (hEnd : K (.ex 0) ⟨(3, .sl 514003 0 0 0) :: gs, (514003, ⟨4, []⟩) :: ob⟩) :
  execW wtEnv M queue_Hall_Waiting_l1b ⟨(3, .sl 514003 0 0 0) :: (10, .itr 2923003274661805836407369665432566039311865599962) :: gs, (2923003274661805836407369665432566039311865599962, ⟨0, [[.ot .nm]]⟩) :: (514003, ⟨4, []⟩) :: ob⟩ K := by
 obtain ⟨g, k, d3, di, n3, ni, o3, oi⟩ := hH
 rw [queue_Hall_Waiting_l1b_x, execW_seq]
 have hg1 : get ((3, AV.sl 514003 0 0 0) :: (10, .itr 2923003274661805836407369665432566039311865599962) :: gs) 10 = some (.itr 2923003274661805836407369665432566039311865599962) := rfl
 have hg2 : get ((2923003274661805836407369665432566039311865599962, (⟨0, [[.ot .nm]]⟩ : Am.Obj)) :: (514003, ⟨4, []⟩) :: ob) 2923003274661805836407369665432566039311865599962 = some ⟨0, [[.ot .nm]]⟩ := rfl
 simp only [execW, nextP, hg1, hg2]
 left
 refine ⟨trivial, _, rfl, ?_⟩
 rw [seqK_norm, execW_ac]
 simp -implicitDefEqProofs (disch := first | omega | (simp <;> fail) | assumption) [g, k, acK_some, d3, di]
 exact hEnd
theorem wait_specP : SpecP Try.prog 47 waitPt := by
 refine runW_sound (nm := fun f => if f = 526 then some 67 else none) (Γ := wtEnv) (fn := queue_Hall_Waiting_f) (M := 200001) (wtEnv_ok rfl) (by decide +kernel) (by decide +kernel) waitPt ?_
 intro fr ob rs ob' h
 unfold waitPt at h
 split at h
 case h_2 => simp at h
 split at h
 case isFalse => simp at h
 rename_i qs hqs hc
 simp only [Option.some.injEq, Prod.mk.injEq] at h
 obtain ⟨rfl, rfl⟩ := h
 simp only [Bool.and_eq_true, waitSide, decide_eq_true_eq] at hc
 obtain ⟨⟨⟨⟨c1, c2⟩, c2'⟩, c3⟩, ⟨⟨c4, c5⟩, c6⟩, c7⟩ := hc
 have hH : WaH (ghs fr) (keepF 514000 515000 [] ob) := ⟨ghs_gh fr, keepF_kf _ _ ob, keepF_del _ _ _ (by decide) (by decide) ob, keepF_del _ _ _ (by decide) (by decide) ob,
  nmFr_ghs _ _ c4, nmFr_ghs _ _ c5, c6, c7⟩
 unfold waitQs at hqs
 split at hqs
 case h_2 => simp at hqs
 rename_i hk h0
 simp only [obW] at hqs ⊢
 generalize hob : keepF 514000 515000 [] ob = ob0 at *
 have hgs : ∀ i, GB ≤ i → get (ghs fr) i = get fr i := fun i hi => by rw [get_ghs, if_pos hi]
 generalize hgg : ghs fr = gs at *
 have hpl : ∀ done : List HQ, done.Perm qs → (allW done).Perm (allW qs) := fun done hp => hp.flatMap_right _
 have hend : ∀ done : List HQ, done.Perm qs → EndW queue_Hall_Waiting_f fr [.sl 514003 (allW qs).length 0 (allW qs).length] ((514003, ⟨4, (resF ltId ((allW qs).map w4L)).map rowI⟩) :: ob0) .ret ⟨(2, .sl 514003 (allW done).length 0 (allW done).length) :: gs, (514003, ⟨4, (resF ltId ((allW done).map w4L)).map rowI⟩) :: ob0⟩ := by
  intro done hp
  rw [(hpl done hp).length_eq, resF_eq_perm (lt := ltId) (show SWO ltId from swo_cmpInt _) ((hpl done hp).map w4L) c3]
  generalize (allW qs).length = n at *
  refine ⟨.inr rfl, ?_, ?_, fun i hi => ?_⟩
  ·simp
  ·simp [hH.k]
  ·have : ¬ 2 = i := by unfold GB at hi; omega
   simp only [Go.Am.get, if_neg this]; exact hgs i hi
 have hH' := hH
 obtain ⟨g, k, d3, di, n3, ni, o3, oi⟩ := hH
 generalize hKK : EndW queue_Hall_Waiting_f fr [.sl 514003 (allW qs).length 0 (allW qs).length] ((514003, ⟨4, (resF ltId ((allW qs).map w4L)).map rowI⟩) :: ob0) = K at *
 show execW wtEnv 200001 queue_Hall_Waiting_c _ _
 rw [queue_Hall_Waiting_c_x]
 simp only [Option.map_eq_some_iff] at hqs
 obtain ⟨⟨wm, qs'⟩, hqs, rfl⟩ := hqs
 simp only at *
 unfold hallQs at hqs
 split at hqs
 ·rename_i cmv nv hgk
  have q3 := get_of_del d3 hgk
  have qi := get_of_del di hgk
  have qi' := Ne.symm qi
  simp only [Option.some.injEq, Prod.mk.injEq] at hqs
  obtain ⟨rfl, rfl⟩ := hqs
  simp -implicitDefEqProofs (disch := first | omega | (simp <;> fail) | assumption) [execW_seq, execW_ac, execW_keepP, execW_own, execW_block, acK_some, seqK_norm, h0, hgg, hob, g, k, hgk, q3, qi, qi', d3, di, n3, ni, o3, oi]
  rw [execW_own wtEnv _ 3 514003 _ _ _ (sz := 4) rfl (by simp -implicitDefEqProofs (disch := first | omega | (simp <;> fail) | assumption) [n3, o3, d3, q3, Ne.symm q3])]
  simp -implicitDefEqProofs (disch := first | omega | (simp <;> fail) | assumption) [execW_seq, execW_ac, execW_keepP, execW_own, execW_block, acK_some, seqK_norm, h0, hgg, hob, g, k, hgk, q3, qi, qi', d3, di, n3, ni, o3, oi, execW_loop]
  show lpW _ (200000 + 1) _ _
  rw [lpW]
  rw [queue_Hall_Waiting_l1_x, execW_keepP]
  have hs : nrmP [3, 10] 514000 515000 [514003, 2923003274661805836407369665432566039311865599962, 514017] ⟨(3, AV.sl 514003 0 0 0) :: (10, .itr 2923003274661805836407369665432566039311865599962) :: gs, (2923003274661805836407369665432566039311865599962, ⟨0, [[.ot .nm]]⟩) :: (514003, ⟨4, []⟩) :: ob0⟩ = ⟨(3, AV.sl 514003 0 0 0) :: (10, .itr 2923003274661805836407369665432566039311865599962) :: gs, (2923003274661805836407369665432566039311865599962, ⟨0, [[.ot .nm]]⟩) :: (514003, ⟨4, []⟩) :: ob0⟩ := by simp [g, k]
  rw [hs]
  refine wait_round0 _ hH' _ ?_
  show blkK 0 _ (.ex 0) _
  rw [blkK_ex, if_pos rfl, seqK_norm]
  exact wait_tail _ [] hH' (by simp) K (hend [] (.refl _))
 ·rename_i mk cmv nv hgk
  have q3 := get_of_del d3 hgk
  have q5 := get_of_del di hgk
  have q5' := Ne.symm q5
  split at hqs
  ·rename_i om hmk
   obtain ⟨z, rows⟩ := om
   simp only [Option.map_eq_some_iff, Prod.mk.injEq] at hqs
   obtain ⟨qs2, hqs, rfl, rfl⟩ := hqs
   obtain ⟨hrw, hye⟩ := gHQs_some hqs
   have hrw : rows = _ := hrw
   subst hrw
   have qm := get_of_del d3 hmk
   have qi := get_of_del di hmk
   simp -implicitDefEqProofs (disch := first | omega | (simp <;> fail) | assumption) [execW_seq, execW_ac, execW_keepP, execW_own, execW_block, acK_some, seqK_norm, h0, hgg, hob, g, k, hgk, q3, q5, q5', d3, di, n3, ni, o3, oi, hmk]
   rw [execW_own wtEnv _ 3 514003 _ _ _ (sz := 4) rfl (by simp -implicitDefEqProofs (disch := first | omega | (simp <;> fail) | assumption) [n3, o3, d3, q3, Ne.symm q3])]
   simp -implicitDefEqProofs (disch := first | omega | (simp <;> fail) | assumption) [execW_seq, execW_ac, execW_keepP, execW_own, execW_block, acK_some, seqK_norm, h0, hgg, hob, g, k, hgk, q3, q5, q5', d3, di, n3, ni, o3, oi, hmk, qm, qi, Ne.symm qm, Ne.symm qi, execW_loop]
   refine lpW_map (f := execW wtEnv 200001 queue_Hall_Waiting_l1) (b := bQ) (fun s K K' h => execW_mono _ h) (l := qs2) (nodupB_iff.1 c1) (fun done s => ∃ b, nrmP [3, 10] 514000 515000 [514003, 2923003274661805836407369665432566039311865599962, 514017] s = hdQ b done mk z gs ob0) (fun done s hs hp => ?_) _ _ ?_ ?_
   rotate_left
   ·exact ⟨false, by simp [g, k, hdQ, allW]⟩
   ·omega
   obtain ⟨b, hs⟩ := hs
   obtain ⟨rest, hp⟩ := hp
   have hpp : (allW (done ++ rest)).length = (allW qs2).length := (hpl _ hp).length_eq
   have hdl : (allW done).length ≤ 200000 := by
    have : (allW (done ++ rest)) = allW done ++ allW rest := by simp [allW]
    rw [this, List.length_append] at hpp; omega
   rw [queue_Hall_Waiting_l1_x, execW_keepP]
   rw [hs]
   refine wait_round 200001 b qs2 done mk z hH' hdl (nodupB_iff.1 c1) hmk hye (fun e he => ?_) _ (fun hend' => .inr ⟨by simp, hend', fun hpd => ?_⟩) (fun e he hno s' hs' => .inl ⟨rfl, e, he, hno, true, hs'⟩)
   ·have : e.l.length ≤ (allW qs2).length := by
     obtain ⟨r1, r2, rfl⟩ := List.append_of_mem he
     simp only [allW, List.flatMap_append, List.flatMap_cons, List.length_append]; omega
    omega
   ·rw [blkK_ex, if_pos rfl, seqK_norm]
    exact wait_tail _ done hH' hdl K (hend done hpd)
  ·simp at hqs
 ·simp at hqs
end Go.Am
namespace Go.Am
open Go.Proofs Go.Shelf Go.RowKit Go.Sort
def cL (e : HC) : List Int := [e.f, e.d]
def cR (e : HC) : List AV := [i64 e.f, i64 e.d]
def pL (p : Int × Int) : List Int := [p.1, p.2]
def pR (p : Int × Int) : List AV := [i64 p.1, i64 p.2]
def oR (cs : List HC) (p : Int × Int) : List AV := [i64 p.1, i64 p.2, i64 (cOf cs (pL p))]
def ownC : List Nat := [516001, 516003, 516004, 516005, 516007, 2923003274661805836407369665432566039311865601964]
structure CaH (gs : List (Nat × AV)) (ob : List (Nat × Obj)) : Prop where
 g : Gh gs
 k : Kf 516000 517000 ob
 n : ∀ k ∈ ownC, nmFr k gs = true ∧ nmOb k ob = true ∧ del ob k = ob
def envC : Env := ⟨fun _ _ => none, fun f s => if f = 532 then sortGPt 2 cfoC s else none, fun _ _ => none⟩
theorem envC_pt : envC.pt 532 = sortGPt 2 cfoC := by funext s; simp [envC]
theorem envC_ok {nm : Nat → Option Nat} (h : nm 532 = some 69) : EnvOk Try.prog nm envC where
 fv := fun g ds rs h => by simp [envC] at h
 fvS := fun g F w ds vs rs _ _ h => by simp [envC] at h
 fn := fun f g _ F w ds vs rs _ _ h => by simp [envC] at h
 pt := fun f g hg => by
  by_cases hf : f = 532
  ·subst hf
   rw [h] at hg; simp only [Option.some.injEq] at hg; subst hg
   rw [envC_pt]; exact sort_call
  ·have : envC.pt f = fun _ => none := by funext s; simp [envC, hf]
   rw [this]; exact SpecP.none
 mono := fun f s rs ob R hR h => by
  by_cases hf : f = 532
  ·subst hf
   rw [envC_pt] at h ⊢
   exact sortG_mono _ _ s rs ob R hR h
  ·simp [envC, hf] at h
def MapC2 (hk : Nat) (cs : List HC) (ob : List (Nat × Obj)) : Prop := ∃ wv nv, (get ob hk = some ⟨3, [[wv, .ot .nm, nv]]⟩ ∧ cs = []) ∨ ∃ mk z, get ob hk = some ⟨3, [[wv, .mp mk, nv]]⟩ ∧ get ob mk = some ⟨z, cs.map HC.row⟩
theorem nmRows_pR (k : Nat) (l : List (Int × Int)) : nmRows k (l.map pR) = true := by induction l <;> simp_all [pR]
theorem lcRows_pR (k : Nat) (l : List (Int × Int)) : lcRows k (l.map pR) = true := by induction l <;> simp_all [pR]
theorem nmRows_oR (cs : List HC) (k : Nat) (l : List (Int × Int)) : nmRows k (l.map (oR cs)) = true := by induction l <;> simp_all [oR]
theorem lcRows_oR (cs : List HC) (k : Nat) (l : List (Int × Int)) : lcRows k (l.map (oR cs)) = true := by induction l <;> simp_all [oR]
section
variable {gs : List (Nat × AV)} {ob : List (Nat × Obj)}
theorem calls_loop (M : Nat) (hk : Nat) (cs : List HC) (L : List (Int × Int)) (hH : CaH gs ob) (hC : MapC2 hk cs ob) (hl : L.length ≤ 200000) (hM : 200000 < M) :
  ∃ ax s', (ax = .ex 2 ∧ s' = ⟨(5, .sl 516005 L.length 0 L.length) :: gs, (516005, ⟨3, L.map (oR cs)⟩) :: ob⟩) ∧ ∀ s0, nrmP [1, 5, 24, 25, 26] 516000 517000 [516001, 516003, 516005, 516020, 516044] s0 = ⟨(1, .loc 516001 0 0) :: (5, .sl 516005 0 0 0) :: (24, .sl 516003 L.length 0 L.length) :: (25, i64 L.length) :: (26, i64 (0 : Nat)) :: gs, (516005, ⟨3, (L.take 0).map (oR cs)⟩) :: (516003, ⟨2, L.map pR⟩) :: (516001, ⟨1, [[.loc hk 0 0]]⟩) :: ob⟩ → lp (exec envC M queue_Hall_Calls_l1) M s0 = some (ax, s') := by
 refine lp_allP (fun q : Nat => ⟨(1, .loc 516001 0 0) :: (5, .sl 516005 q 0 q) :: (24, .sl 516003 L.length 0 L.length) :: (25, i64 L.length) :: (26, i64 q) :: gs, (516005, ⟨3, (L.take q).map (oR cs)⟩) :: (516003, ⟨2, L.map pR⟩) :: (516001, ⟨1, [[.loc hk 0 0]]⟩) :: ob⟩) (fun q => q ≤ L.length) (fun q => L.length - q) _ 0 M (by omega) (by omega) ?_
 obtain ⟨g, k, hn⟩ := hH
 obtain ⟨n1, o1, d1⟩ := hn 516001 (by decide)
 obtain ⟨n3, o3, d3⟩ := hn 516003 (by decide)
 obtain ⟨n5, o5, d5⟩ := hn 516005 (by decide)
 obtain ⟨n7, o7, d7⟩ := hn 516007 (by decide)
 have l5 := lcFr_nm n5
 have p5 := lcOb_nm o5
 have y1 := fun k => nmRows_pR k L
 have y2 := fun k => lcRows_pR k L
 intro q hq
 by_cases hlt : q < L.length
 ·obtain ⟨⟨a, b⟩, hm⟩ : ∃ m, L[q] = m := ⟨_, rfl⟩
  have hrow : (L.map pR)[q]? = some [i64 a, i64 b] := by simp [hlt, hm, pR]
  have htl : (L.take q).length = q := by rw [List.length_take]; omega
  have htk : (L.take (q + 1)).map (oR cs) = (L.take q).map (oR cs) ++ [[i64 a, i64 b, i64 (cOf cs [a, b])]] := by
   rw [List.take_succ_eq_append_getElem hlt, List.map_append, hm]; rfl
  have y3 := fun k => nmRows_oR cs k (L.take q)
  have y4 := fun k => lcRows_oR cs k (L.take q)
  have hin : ∃ q', (q' = q + 1) := ⟨_, rfl⟩
  have mf := mfind_c a b cs 0
  have hcc : cOf cs [a, b] = match findC cs a b 0 with | some (_, e) => e.c | none => 0 := rfl
  obtain ⟨wv, nv, ⟨hho, rfl⟩ | ⟨mk, z, hho, hmo⟩⟩ := hC
  ·have w1 := get_of_del d1 hho
   have w3 := get_of_del d3 hho
   have w5 := get_of_del d5 hho
   have w7 := get_of_del d7 hho
   have hcc0 : cOf [] [a, b] = 0 := rfl
   rw [hcc0] at htk
   generalize hT : L.take q = T at *
   simp -implicitDefEqProofs (disch := first | omega | (simp [g, y1, y2, y3, y4, n7, o7, l5, p5] <;> fail) | assumption) [hlt, g, k, hrow, y1, y2, y3, y4, n7, o7, l5, p5, d7, d5, hm, htl, hho, w1, w3, w5, w7, Ne.symm w7, Ne.symm w1, Ne.symm w3, Ne.symm w5, pR]
   exact ⟨q + 1, by rw [← List.map_take, htk]; simp, by omega, by omega⟩
  ·have w1 := get_of_del d1 hho
   have w3 := get_of_del d3 hho
   have w5 := get_of_del d5 hho
   have w7 := get_of_del d7 hho
   have v1 := get_of_del d1 hmo
   have v3 := get_of_del d3 hmo
   have v5 := get_of_del d5 hmo
   have v7 := get_of_del d7 hmo
   cases hf : findC cs a b 0 with
   | none =>
    rw [hf] at mf hcc
    simp only [Option.map_none] at mf hcc
    rw [hcc] at htk
    generalize hT : L.take q = T at *
    simp -implicitDefEqProofs (disch := first | omega | (simp [g, y1, y2, y3, y4, n7, o7, l5, p5] <;> fail) | assumption) [hlt, g, k, hrow, y1, y2, y3, y4, n7, o7, l5, p5, d7, d5, hm, htl, hho, w1, w3, w5, w7, Ne.symm w7, Ne.symm w1, Ne.symm w3, Ne.symm w5, pR, hmo, v1, v3, v5, v7, Ne.symm v7, Ne.symm v1, Ne.symm v3, Ne.symm v5, mf]
    exact ⟨q + 1, by rw [← List.map_take, htk]; simp, by omega, by omega⟩
   | some p =>
    obtain ⟨i, e⟩ := p
    rw [hf] at mf hcc
    simp only [Option.map_some] at mf hcc
    rw [hcc] at htk
    generalize hT : L.take q = T at *
    simp -implicitDefEqProofs (disch := first | omega | (simp [g, y1, y2, y3, y4, n7, o7, l5, p5] <;> fail) | assumption) [hlt, g, k, hrow, y1, y2, y3, y4, n7, o7, l5, p5, d7, d5, hm, htl, hho, w1, w3, w5, w7, Ne.symm w7, Ne.symm w1, Ne.symm w3, Ne.symm w5, pR, hmo, v1, v3, v5, v7, Ne.symm v7, Ne.symm v1, Ne.symm v3, Ne.symm v5, mf]
    exact ⟨q + 1, by rw [← List.map_take, htk]; simp, by omega, by omega⟩
 ·obtain rfl : q = L.length := by omega
  simp -implicitDefEqProofs (disch := first | omega | (simp <;> fail) | assumption) [g, k]
end
end Go.Am
namespace Go.Am
open Go.Proofs Go.Shelf Go.RowKit Go.Sort
abbrev ltN (cs : List HC) : List Int → List Int → Bool := ltOf (cfN cs)
theorem cR_rowI (l : List HC) : l.map cR = (l.map cL).map rowI := by rw [List.map_map]; rfl
theorem pR_rowI (l : List (Int × Int)) : l.map pR = (l.map pL).map rowI := by rw [List.map_map]; rfl
def outC (cs l : List HC) : Rows := (resF (ltN cs) (l.map cL)).map fun x => [i64 (x.getD 0 0), i64 (x.getD 1 0), i64 (cOf cs x)]
theorem pairs_of {l : List (List Int)} (h : ∀ x ∈ l, ∃ p : Int × Int, x = pL p) : ∃ L : List (Int × Int), l = L.map pL := by
 induction l with
 | nil => exact ⟨[], rfl⟩
 | cons x l ih =>
  obtain ⟨p, rfl⟩ := h x (by simp)
  obtain ⟨L, rfl⟩ := ih fun y hy => h y (List.mem_cons_of_mem _ hy)
  exact ⟨p :: L, rfl⟩
abbrev obC (s : St) : List (Nat × Obj) := keepF 516000 517000 [] s.ob
def noKeys (lo hi : Nat) (ob : List (Nat × Obj)) : Bool := ob.all fun p => decide (p.1 % KT < lo) || decide (hi ≤ p.1 % KT)
theorem noKeys_kf {lo hi : Nat} {ob : List (Nat × Obj)} (h : noKeys lo hi ob = true) : Kf lo hi ob := kf_iff.2 fun p hp => by
 have := List.all_eq_true.1 h p hp
 simp only [Bool.or_eq_true, decide_eq_true_eq] at this
 exact this
def callsSide (s : St) : Bool := noKeys 516000 517000 s.ob && ownC.all fun k => nmFr k s.fr && nmOb k (obC s)
def callsCs (s : St) : Option (List HC) := match get s.fr 0 with
 | some (.loc hk 0 0) => hallCs 516003 hk (obC s)
 | _ => none
def callsPt (s : St) : Option (List AV × List (Nat × Obj)) :=
 match callsCs s with
 | some cs => if (nodupB (cs.map (·.b)) && decide (cs.length ≤ 200000) && noTies (ltN cs) (cs.map cL) && callsSide s) = true then some ([.sl 516005 cs.length 0 cs.length], (516005, ⟨3, outC cs cs⟩) :: obC s) else none
 | none => none
theorem callsPt_mono (s : St) (rs : List AV) (ob : List (Nat × Obj)) (R : List Nat) (hR : ∀ r ∈ R, GB ≤ r) (h : callsPt s = some (rs, ob)) : callsPt ⟨dels R s.fr, s.ob⟩ = some (rs, ob) := by
 have hG : (0 : Nat) < GB := by decide
 have e0 : get (dels R s.fr) 0 = get s.fr 0 := by rw [get_dels, if_neg fun h => by have := hR _ h; omega]
 have e1 : callsCs ⟨dels R s.fr, s.ob⟩ = callsCs s := by simp only [callsCs, e0]
 unfold callsPt at h ⊢
 rw [e1]
 split at h
 case h_2 => simp at h
 split at h
 case isFalse => simp at h
 rename_i cs hq hc
 simp only [Bool.and_eq_true, callsSide, List.all_eq_true] at hc
 obtain ⟨⟨⟨c1, c2⟩, c3⟩, c5, c4⟩ := hc
 have hs : callsSide ⟨dels R s.fr, s.ob⟩ = true := by
  simp only [callsSide, List.all_eq_true, Bool.and_eq_true]
  exact ⟨c5, fun k hk => ⟨nmFr_dels _ R _ (c4 k hk).1, (c4 k hk).2⟩⟩
 simp only [hq, c1, c2, c3, hs, Bool.and_self, if_true]
 exact h
def hdC (b : Bool) (done : List HC) (hk mk z : Nat) (gs : List (Nat × AV)) (ob : List (Nat × Obj)) : St :=
 ⟨(1, .loc 516001 0 0) :: (3, .sl 516003 done.length 0 done.length) :: (12, .itr 2923003274661805836407369665432566039311865601964) :: gs,
  if b then (516003, ⟨2, done.map cR⟩) :: (2923003274661805836407369665432566039311865601964, ⟨z, [.mp mk, .c (.int .i64 z)] :: done.map (bornR HC.b)⟩) :: (516001, ⟨1, [[.loc hk 0 0]]⟩) :: ob
  else (2923003274661805836407369665432566039311865601964, ⟨z, [.mp mk, .c (.int .i64 z)] :: done.map (bornR HC.b)⟩) :: (516003, ⟨2, done.map cR⟩) :: (516001, ⟨1, [[.loc hk 0 0]]⟩) :: ob⟩
abbrev kyC (e : HC) : AV := .agg [.int .i64 e.f, .int .i64 e.d]
abbrev vlC (e : HC) : AV := .agg [.int .i64 e.n, .int .i64 e.c]
theorem rowC (l : List HC) : l.map HC.row = l.map (entR HC.b kyC vlC) := rfl
theorem nmRows_cR (k : Nat) (l : List HC) : nmRows k (l.map cR) = true := by induction l <;> simp_all [cR]
theorem lcRows_cR (k : Nat) (l : List HC) : lcRows k (l.map cR) = true := by induction l <;> simp_all [cR]
section
variable {gs : List (Nat × AV)} {ob : List (Nat × Obj)}
def tailC : AC := .keepP [1, 3] 516000 517000 [516001, 516003, 516020] (.seq (.reg r516_6) (.keepP [1, 3] 516000 517000 [516001, 516003, 516020] (.seq (.reg r516_7) (.keepP [1, 3, 5] 516000 517000 [516001, 516003, 516005, 516020, 516044] (.own 5 516005 (.seq (.seq (.reg r516_8) (.keepP [1, 5, 24, 25, 26] 516000 517000 [516001, 516003, 516005, 516020, 516044] (.block 2 (.loop queue_Hall_Calls_l1)))) (.keepP [5] 516000 517000 [516005, 516044] (.seq (.reg r516_13) (.keepP [2] 516000 517000 [516005, 516044] (.ret))))))))))
theorem hallCs_of {hk : Nat} {cs : List HC} (hne : ¬ hk = 516003) (hC : MapC2 hk cs ob) : hallCs 516003 hk ob = some cs := by
 unfold hallCs
 rw [if_neg hne]
 obtain ⟨wv, nv, ⟨hho, rfl⟩ | ⟨mk, z, hho, hmo⟩⟩ := hC
 ·simp only [hho]
 ·simp only [hho, hmo, gHCs_map]
theorem mapC2_push {hk : Nat} {cs : List HC} {k0 : Nat} {o : Obj} (hn : get ob k0 = none) (hC : MapC2 hk cs ob) : MapC2 hk cs ((k0, o) :: ob) := by
 have keep : ∀ {k : Nat} {u : Obj}, get ob k = some u → get ((k0, o) :: ob) k = some u := fun {k u} hk => by
  have : k0 ≠ k := by rintro rfl; rw [hn] at hk; simp at hk
  simp only [Go.Am.get]; rw [if_neg this]; exact hk
 obtain ⟨wv, nv, ⟨hho, rfl⟩ | ⟨mk, z, hho, hmo⟩⟩ := hC
 ·exact ⟨wv, nv, .inl ⟨keep hho, rfl⟩⟩
 ·exact ⟨wv, nv, .inr ⟨mk, z, keep hho, keep hmo⟩⟩
theorem calls_tail (M : Nat) (hk : Nat) (cs done : List HC) (hH : CaH gs ob) (hC : MapC2 hk cs ob) (hl : done.length ≤ 200000) (hM : 200000 < M) :
  exec envC M tailC ⟨(1, .loc 516001 0 0) :: (3, .sl 516003 done.length 0 done.length) :: gs, (516003, ⟨2, done.map cR⟩) :: (516001, ⟨1, [[.loc hk 0 0]]⟩) :: ob⟩ = some (.ret, ⟨(2, .sl 516005 done.length 0 done.length) :: gs, (516005, ⟨3, outC cs done⟩) :: ob⟩) := by
 have hO := swo_cmpInt (nOf cs)
 have hperm := resF_perm (lt := ltN cs) hO (done.map cL)
 obtain ⟨L, hL⟩ := pairs_of (l := resF (ltN cs) (done.map cL)) fun x hx => by
  obtain ⟨e, _, rfl⟩ := List.mem_map.1 (hperm.mem_iff.1 hx)
  exact ⟨(e.f, e.d), rfl⟩
 have hlL : L.length = done.length := by
  have := hperm.length_eq
  rw [hL] at this
  simpa using this
 have hout : outC cs done = L.map (oR cs) := by
  unfold outC
  rw [hL, List.map_map]; rfl
 obtain ⟨ax, s', ⟨rfl, rfl⟩, hlp⟩ := calls_loop M hk cs L hH hC (by omega) hM
 obtain ⟨g, k, hn⟩ := hH
 obtain ⟨n1, o1, d1⟩ := hn 516001 (by decide)
 obtain ⟨n3, o3, d3⟩ := hn 516003 (by decide)
 obtain ⟨n5, o5, d5⟩ := hn 516005 (by decide)
 have x1 : get ob 516001 = none := by rw [← d1, get_del, if_pos rfl]
 have hhk : ¬ hk = 516003 ∧ ¬ hk = 516001 ∧ ¬ hk = 516005 := by
  obtain ⟨wv, nv, ⟨hho, _⟩ | ⟨mk, z, hho, _⟩⟩ := hC <;> exact ⟨Ne.symm (get_of_del d3 hho), Ne.symm (get_of_del d1 hho), Ne.symm (get_of_del d5 hho)⟩
 have hC1 := mapC2_push (k0 := 516001) (o := ⟨1, [[.loc hk 0 0]]⟩) x1 hC
 have hC2 := mapC2_push (k0 := 516003) (o := ⟨2, done.map cR⟩) (by simp only [Go.Am.get]; rw [if_neg (by omega), ← d3, get_del, if_pos rfl]) hC1
 have hcf := hallCs_of hhk.1 hC2
 have hs : ∀ xs : List (Nat × AV), get xs 2 = none → sortGPt 2 cfoC ⟨(0, .sl 516003 done.length 0 done.length) :: (1, .clo fv_queue_Hall_Calls_1 [.loc 516001 0 0]) :: xs, (516003, ⟨2, done.map cR⟩) :: (516001, ⟨1, [[.loc hk 0 0]]⟩) :: ob⟩ = some ([], (516003, ⟨2, L.map pR⟩) :: (516001, ⟨1, [[.loc hk 0 0]]⟩) :: ob) := by
  intro xs h2
  have hr : rowsI 2 (done.map cR) = some (done.map cL) := rowsI_map 2 cL (fun _ => rfl) done
  have hmk : (516003 : Nat) < MK := by rw [MK_eq]; omega
  have hg0 : get ((516003, (⟨2, done.map cR⟩ : Obj)) :: (516001, ⟨1, [[.loc hk 0 0]]⟩) :: ob) 516001 = some ⟨1, [[.loc hk 0 0]]⟩ := by simp only [Go.Am.get]; rw [if_neg (by omega), if_pos trivial]
  have hcfo : cfoC 516003 (.clo fv_queue_Hall_Calls_1 [.loc 516001 0 0]) ((516003, ⟨2, done.map cR⟩) :: (516001, ⟨1, [[.loc hk 0 0]]⟩) :: ob) = some (cfN cs) := by
   unfold cfoC
   simp only []
   rw [if_pos ⟨trivial, by omega, hmk⟩, hg0]
   simp only [hcf, Option.map_some]
  unfold sortGPt
  simp only [Go.Am.get, if_true, if_neg (show ¬ (0 : Nat) = 1 by omega), if_neg (show ¬ (0 : Nat) = 2 by omega), if_neg (show ¬ (1 : Nat) = 2 by omega), h2, List.length_map]
  rw [if_pos ⟨trivial, trivial, trivial, trivial, by omega⟩, hcfo, hr]
  simp only [Am.del, if_true, if_neg (show ¬ (516001 : Nat) = 516003 by omega), d3, hL, pR_rowI]
 have hlp2 := hlp ⟨(1, .loc 516001 0 0) :: (5, .sl 516005 0 0 0) :: (24, .sl 516003 L.length 0 L.length) :: (25, i64 L.length) :: (26, i64 0) :: gs, (516005, ⟨3, []⟩) :: (516003, ⟨2, L.map pR⟩) :: (516001, ⟨1, [[.loc hk 0 0]]⟩) :: ob⟩ (by
  simp -implicitDefEqProofs (disch := first | omega | (simp <;> fail) | assumption) [g, k])
 rw [hout]
 rw [← hlL] at hs ⊢
 simp only [fv_queue_Hall_Calls_1] at hs
 have hlen : (L.map pR).length = L.length := List.length_map _
 have y1 := fun k => nmRows_pR k L
 have b5 : (hk == 516005) = false := beq_false_of_ne hhk.2.2
 unfold tailC
 simp -implicitDefEqProofs (disch := first | omega | (simp <;> fail) | assumption) [envC_pt, hs, g, k, n5, o5, d5, hlp2, y1, hhk.1, hhk.2.1, hhk.2.2, b5]
theorem calls_round (M : Nat) (b : Bool) (l done : List HC) (hk mk z : Nat) (hH : CaH gs ob) (hl : done.length ≤ 200000) (hn : (l.map (·.b)).Nodup) (hmk : get ob mk = some ⟨z, l.map HC.row⟩) (hhk : ¬ hk = 516001 ∧ ¬ hk = 516003 ∧ ¬ hk = 516004 ∧ ¬ hk = 2923003274661805836407369665432566039311865601964) (K : AX → St → Prop)
  (hEnd : (∀ e ∈ l, ∃ f ∈ done, f.b = e.b) → K (.ex 0) ⟨(1, .loc 516001 0 0) :: (3, .sl 516003 done.length 0 done.length) :: gs, (516003, ⟨2, done.map cR⟩) :: (516001, ⟨1, [[.loc hk 0 0]]⟩) :: ob⟩)
  (hNext : ∀ e ∈ l, (∀ f ∈ done, f.b ≠ e.b) → ∀ s', nrmP [1, 3, 12] 516000 517000 [516001, 516003, 2923003274661805836407369665432566039311865601964, 516020] s' = hdC true (done ++ [e]) hk mk z gs ob → K .norm s') :
  execW envC M queue_Hall_Calls_l2b (hdC b done hk mk z gs ob) K := by
 obtain ⟨g, k, hN⟩ := hH
 obtain ⟨n1, o1, d1⟩ := hN 516001 (by decide)
 obtain ⟨n3, o3, d3⟩ := hN 516003 (by decide)
 obtain ⟨n4, o4, d4⟩ := hN 516004 (by decide)
 obtain ⟨ni, oi, di⟩ := hN 2923003274661805836407369665432566039311865601964 (by decide)
 have q1 := get_of_del d1 hmk
 have q3 := get_of_del d3 hmk
 have q4 := get_of_del d4 hmk
 have qi := get_of_del di hmk
 have a1 := fun k => nmRows_cR k done
 have a2 := fun k => lcRows_cR k done
 have a3 := fun k => nmRows_bornR HC.b k done
 have a4 := fun k => lcRows_bornR HC.b k done
 have l3 := lcFr_nm n3
 have p3 := lcOb_nm o3
 obtain ⟨h1, h3, h4, hi⟩ := hhk
 rw [queue_Hall_Calls_l2b_x, execW_seq]
 have hg1 : get (hdC b done hk mk z gs ob).fr 12 = some (.itr 2923003274661805836407369665432566039311865601964) := rfl
 have hg2 : get (hdC b done hk mk z gs ob).ob 2923003274661805836407369665432566039311865601964 = some ⟨z, [.mp mk, .c (.int .i64 z)] :: done.map (bornR HC.b)⟩ := by cases b <;> rfl
 have hg3 : get (hdC b done hk mk z gs ob).ob mk = some ⟨z, l.map (entR HC.b kyC vlC)⟩ := by rw [← rowC]; cases b <;> simp [hdC, Go.Am.get, q1, q3, qi, hmk]
 simp only [execW]
 refine nextP_map HC.b kyC vlC hg1 hg2 hg3 (fun e _ => ⟨rfl, rfl⟩) (fun hend => ?_) (fun e he hno => ?_)
 ·have hK := hEnd hend
  refine ⟨_, rfl, ?_⟩
  rw [seqK_norm, execW_ac]
  unfold hdC
  cases b <;> simp -implicitDefEqProofs (disch := first | omega | (simp <;> fail) | assumption) [g, k, acK_some, d1, d3, di] <;> exact hK
 ·have hf := find_bornR HC.b kyC vlC hn he
  have hK := hNext e he hno
  refine ⟨_, rfl, ?_⟩
  rw [seqK_norm, execW_ac]
  rw [rowC] at hmk
  have hlen1 : (List.map cR done).length = done.length := List.length_map _
  cases b <;> simp -implicitDefEqProofs (disch := first | omega | (simp <;> fail) | assumption) [hdC, g, k, acK_some, d1, d3, d4, di, hf, a1, a2, a3, a4, entR, bornR, hmk, q1, q3, q4, qi, Ne.symm q1, Ne.symm q3, Ne.symm q4, Ne.symm qi, n1, n3, n4, ni, o1, o3, o4, oi, hlen1, l3, p3, h1, h3, h4, hi]
  all_goals
   refine hK _ ?_
   simp -implicitDefEqProofs (disch := first | omega | (simp <;> fail) | assumption) [hdC, g, k, bornR, cR]
theorem calls_round0 (M : Nat) (hk : Nat) (hH : CaH gs ob) (K : AX → St → Prop) (hEnd : K (.ex 0) ⟨(1, .loc 516001 0 0) :: (3, .sl 516003 0 0 0) :: gs, (516003, ⟨2, []⟩) :: (516001, ⟨1, [[.loc hk 0 0]]⟩) :: ob⟩) :
  execW envC M queue_Hall_Calls_l2b ⟨(1, .loc 516001 0 0) :: (3, .sl 516003 0 0 0) :: (12, .itr 2923003274661805836407369665432566039311865601964) :: gs, (2923003274661805836407369665432566039311865601964, ⟨0, [[.ot .nm]]⟩) :: (516003, ⟨2, []⟩) :: (516001, ⟨1, [[.loc hk 0 0]]⟩) :: ob⟩ K := by
 obtain ⟨g, k, hN⟩ := hH
 obtain ⟨n1, o1, d1⟩ := hN 516001 (by decide)
 obtain ⟨n3, o3, d3⟩ := hN 516003 (by decide)
 obtain ⟨ni, oi, di⟩ := hN 2923003274661805836407369665432566039311865601964 (by decide)
 rw [queue_Hall_Calls_l2b_x, execW_seq]
 have hg1 : get ((1, AV.loc 516001 0 0) :: (3, AV.sl 516003 0 0 0) :: (12, .itr 2923003274661805836407369665432566039311865601964) :: gs) 12 = some (.itr 2923003274661805836407369665432566039311865601964) := rfl
 have hg2 : get ((2923003274661805836407369665432566039311865601964, (⟨0, [[.ot .nm]]⟩ : Am.Obj)) :: (516003, ⟨2, []⟩) :: (516001, ⟨1, [[.loc hk 0 0]]⟩) :: ob) 2923003274661805836407369665432566039311865601964 = some ⟨0, [[.ot .nm]]⟩ := rfl
 simp only [execW, nextP, hg1, hg2]
 left
 refine ⟨trivial, _, rfl, ?_⟩
 rw [seqK_norm, execW_ac]
 simp -implicitDefEqProofs (disch := first | omega | (simp <;> fail) | assumption) [g, k, acK_some, d1, d3, di]
 exact hEnd
end
end Go.Am
namespace Go.Am
open Go.Proofs Go.Shelf Go.RowKit Go.Sort
theorem outC_perm {cs done : List HC} (hp : done.Perm cs) (h : noTies (ltN cs) (cs.map cL) = true) : outC cs done = outC cs cs := by
 unfold outC
 rw [resF_eq_perm (lt := ltN cs) (show SWO (ltN cs) from swo_cmpInt _) (hp.map cL) h]
theorem calls_specP : SpecP Try.prog 49 callsPt := by
 refine runW_sound (nm := fun f => if f = 532 then some 69 else none) (Γ := envC) (fn := queue_Hall_Calls_f) (M := 200001) (envC_ok rfl) (by decide +kernel) (by decide +kernel) callsPt ?_
 intro fr ob rs ob' h
 unfold callsPt at h
 split at h
 case h_2 => simp at h
 split at h
 case isFalse => simp at h
 rename_i cs hcs hc
 simp only [Option.some.injEq, Prod.mk.injEq] at h
 obtain ⟨rfl, rfl⟩ := h
 simp only [Bool.and_eq_true, callsSide, decide_eq_true_eq, List.all_eq_true] at hc
 obtain ⟨⟨⟨c1, c2⟩, c3⟩, c5, c4⟩ := hc
 have hkeep : keepF 516000 517000 [] ob = ob := noKeys_kf c5 []
 have hm : ∀ k ∈ ownC, 516000 ≤ k % KT ∧ k % KT < 517000 := by decide
 have hH : CaH (ghs fr) (keepF 516000 517000 [] ob) := ⟨ghs_gh fr, keepF_kf _ _ ob, fun k hk => ⟨nmFr_ghs _ _ (c4 k hk).1, (c4 k hk).2, keepF_del _ _ _ (hm k hk).1 (hm k hk).2 ob⟩⟩
 unfold callsCs at hcs
 split at hcs
 case h_2 => simp at hcs
 rename_i hk h0
 simp only [obC] at hcs ⊢
 rw [hkeep] at hcs hH ⊢
 have f1 : nmFr 516001 fr = true := (c4 516001 (by decide)).1
 clear c4 hkeep c5
 have hgs : ∀ i, GB ≤ i → get (ghs fr) i = get fr i := fun i hi => by rw [get_ghs, if_pos hi]
 generalize hgg : ghs fr = gs at *
 have hH' := hH
 obtain ⟨g, k, hN⟩ := hH
 obtain ⟨n1, o1, d1⟩ := hN 516001 (by decide)
 obtain ⟨n3, o3, d3⟩ := hN 516003 (by decide)
 obtain ⟨n4, o4, d4⟩ := hN 516004 (by decide)
 obtain ⟨n5, o5, d5⟩ := hN 516005 (by decide)
 obtain ⟨ni, oi, di⟩ := hN 2923003274661805836407369665432566039311865601964 (by decide)
 have hend : ∀ done : List HC, done.Perm cs → EndW queue_Hall_Calls_f fr [.sl 516005 cs.length 0 cs.length] ((516005, ⟨3, outC cs cs⟩) :: ob) .ret ⟨(2, .sl 516005 done.length 0 done.length) :: gs, (516005, ⟨3, outC cs done⟩) :: ob⟩ := by
  intro done hp
  rw [hp.length_eq, outC_perm hp c3]
  generalize outC cs cs = R at *
  refine ⟨.inr rfl, ?_, ?_, fun i hi => ?_⟩
  ·simp
  ·simp [k]
  ·have : ¬ 2 = i := by unfold GB at hi; omega
   simp only [Go.Am.get, if_neg this]; exact hgs i hi
 show execW envC 200001 queue_Hall_Calls_c _ _
 generalize hKK : EndW queue_Hall_Calls_f fr [.sl 516005 cs.length 0 cs.length] ((516005, ⟨3, outC cs cs⟩) :: ob) = K at *
 rw [queue_Hall_Calls_c_x]
 have eT : tailC = .keepP [1, 3] 516000 517000 [516001, 516003, 516020] (.seq (.reg r516_6) (.keepP [1, 3] 516000 517000 [516001, 516003, 516020] (.seq (.reg r516_7) (.keepP [1, 3, 5] 516000 517000 [516001, 516003, 516005, 516020, 516044] (.own 5 516005 (.seq (.seq (.reg r516_8) (.keepP [1, 5, 24, 25, 26] 516000 517000 [516001, 516003, 516005, 516020, 516044] (.block 2 (.loop queue_Hall_Calls_l1)))) (.keepP [5] 516000 517000 [516005, 516044] (.seq (.reg r516_13) (.keepP [2] 516000 517000 [516005, 516044] (.ret)))))))))) := rfl
 try simp only [Cx.sr, Cx.pP, Cx.pQ, Cx.p0, Cx.rg, Cx.cd, Nat.reduceMul, Nat.reduceAdd]
 rw [← eT]
 have htl := fun done hC (hp : done.Perm cs) => calls_tail (gs := gs) (ob := ob) 200001 hk cs done hH' hC (by rw [hp.length_eq]; exact c2) (by omega)
 generalize tailC = T at *
 unfold hallCs at hcs
 split at hcs
 ·simp at hcs
 rename_i hkk
 have fin : ∀ done : List HC, MapC2 hk cs ob → done.Perm cs → execW envC 200001 (.ac T) ⟨(1, .loc 516001 0 0) :: (3, .sl 516003 done.length 0 done.length) :: gs, (516003, ⟨2, done.map cR⟩) :: (516001, ⟨1, [[.loc hk 0 0]]⟩) :: ob⟩ K := fun done hC hp => by
  rw [execW_ac, htl done hC hp]
  rw [acK_some]
  exact hend done hp
 split at hcs
 ·rename_i wv nv hgk
  have q1 := get_of_del d1 hgk
  have q3 := get_of_del d3 hgk
  have q4 := get_of_del d4 hgk
  have qi := get_of_del di hgk
  simp only [Option.some.injEq] at hcs; subst hcs
  simp -implicitDefEqProofs (disch := first | omega | (simp <;> fail) | assumption) [execW_seq, execW_ac, execW_keepP, execW_own, execW_block, acK_some, seqK_norm, h0, hgg, f1, g, k, hgk, q1, q3, q4, qi, Ne.symm q1, Ne.symm q3, Ne.symm qi, d1, d3, di, n1, n3, ni, o1, o3, oi]
  rw [execW_own envC _ 3 516003 _ _ _ (sz := 2) rfl (by simp -implicitDefEqProofs (disch := first | omega | (simp <;> fail) | assumption) [n3, o3, d3, q3, Ne.symm q3])]
  simp -implicitDefEqProofs (disch := first | omega | (simp <;> fail) | assumption) [execW_seq, execW_ac, execW_keepP, execW_own, execW_block, acK_some, seqK_norm, h0, hgg, f1, g, k, hgk, q1, q3, q4, qi, Ne.symm q1, Ne.symm q3, Ne.symm qi, d1, d3, di, n1, n3, ni, o1, o3, oi, execW_loop]
  show lpW _ (200000 + 1) _ _
  rw [lpW]
  rw [queue_Hall_Calls_l2_x, execW_keepP]
  have hs : nrmP [1, 3, 12] 516000 517000 [516001, 516003, 2923003274661805836407369665432566039311865601964, 516020] ⟨(1, .loc 516001 0 0) :: (3, AV.sl 516003 0 0 0) :: (12, .itr 2923003274661805836407369665432566039311865601964) :: gs, (2923003274661805836407369665432566039311865601964, ⟨0, [[.ot .nm]]⟩) :: (516003, ⟨2, []⟩) :: (516001, ⟨1, [[.loc hk 0 0]]⟩) :: ob⟩ = ⟨(1, .loc 516001 0 0) :: (3, AV.sl 516003 0 0 0) :: (12, .itr 2923003274661805836407369665432566039311865601964) :: gs, (2923003274661805836407369665432566039311865601964, ⟨0, [[.ot .nm]]⟩) :: (516003, ⟨2, []⟩) :: (516001, ⟨1, [[.loc hk 0 0]]⟩) :: ob⟩ := by simp [g, k]
  rw [hs]
  refine calls_round0 _ hk hH' _ ?_
  show blkK 0 _ (.ex 0) _
  rw [blkK_ex, if_pos rfl, seqK_norm]
  exact fin [] ⟨wv, nv, .inl ⟨hgk, rfl⟩⟩ (.refl _)
 ·rename_i wv mk nv hgk
  have q1 := get_of_del d1 hgk
  have q3 := get_of_del d3 hgk
  have q4 := get_of_del d4 hgk
  have qi := get_of_del di hgk
  split at hcs
  case h_2 => simp at hcs
  rename_i om hmk
  obtain ⟨z, rows⟩ := om
  have hrw : rows = _ := gHCs_some hcs
  subst hrw
  have m1 := get_of_del d1 hmk
  have m3 := get_of_del d3 hmk
  have mi := get_of_del di hmk
  simp -implicitDefEqProofs (disch := first | omega | (simp <;> fail) | assumption) [execW_seq, execW_ac, execW_keepP, execW_own, execW_block, acK_some, seqK_norm, h0, hgg, f1, g, k, hgk, q1, q3, q4, qi, Ne.symm q1, Ne.symm q3, Ne.symm qi, d1, d3, di, n1, n3, ni, o1, o3, oi]
  rw [execW_own envC _ 3 516003 _ _ _ (sz := 2) rfl (by simp -implicitDefEqProofs (disch := first | omega | (simp <;> fail) | assumption) [n3, o3, d3, q3, Ne.symm q3])]
  simp -implicitDefEqProofs (disch := first | omega | (simp <;> fail) | assumption) [execW_seq, execW_ac, execW_keepP, execW_own, execW_block, acK_some, seqK_norm, h0, hgg, f1, g, k, hgk, q1, q3, q4, qi, Ne.symm q1, Ne.symm q3, Ne.symm qi, d1, d3, di, n1, n3, ni, o1, o3, oi, hmk, m1, m3, mi, Ne.symm m1, Ne.symm m3, Ne.symm mi, execW_loop]
  refine lpW_map (f := execW envC 200001 queue_Hall_Calls_l2) (b := HC.b) (fun s K K' h => execW_mono _ h) (l := cs) (nodupB_iff.1 c1) (fun done s => ∃ b, nrmP [1, 3, 12] 516000 517000 [516001, 516003, 2923003274661805836407369665432566039311865601964, 516020] s = hdC b done hk mk z gs ob) (fun done s hs hp => ?_) _ _ ?_ ?_
  rotate_left
  ·exact ⟨false, by simp [g, k, hdC]⟩
  ·omega
  obtain ⟨b, hs⟩ := hs
  obtain ⟨rest, hp⟩ := hp
  have hpl := hp.length_eq
  rw [List.length_append] at hpl
  rw [queue_Hall_Calls_l2_x, execW_keepP, hs]
  refine calls_round 200001 b cs done hk mk z hH' (by omega) (nodupB_iff.1 c1) hmk ⟨Ne.symm q1, Ne.symm q3, Ne.symm q4, Ne.symm qi⟩ _ (fun hend' => .inr ⟨by simp, hend', fun hpd => ?_⟩) (fun e he hno s' hs' => .inl ⟨rfl, e, he, hno, true, hs'⟩)
  rw [blkK_ex, if_pos rfl, seqK_norm]
  exact fin done ⟨wv, nv, .inr ⟨mk, z, hgk, hmk⟩⟩ hpd
 ·simp at hcs
end Go.Am
namespace Go.Am
def wb (p : Nat → Bool) (a : Nat) : Nat → Nat
 | 0 => 0
 | k + 1 => wb p a k + (if p (a + k) then 2 ^ k else 0)
theorem wb_lt (p : Nat → Bool) (a : Nat) : ∀ k, wb p a k < 2 ^ k
 | 0 => by simp [wb]
 | k + 1 => by
  have := wb_lt p a k
  simp only [wb, Nat.pow_succ]
  split <;> omega
theorem wb_bit (p : Nat → Bool) (a : Nat) : ∀ k j, (wb p a k).testBit j = (decide (j < k) && p (a + j))
 | 0, j => by simp [wb]
 | k + 1, j => by
  have ih := wb_bit p a k
  have hlt := wb_lt p a k
  simp only [wb]
  have hz : (wb p a k).testBit k = false := Nat.testBit_lt_two_pow hlt
  split
  ·rename_i hp
   rw [Nat.add_comm]
   rcases Nat.lt_trichotomy j k with h | rfl | h
   ·rw [Nat.testBit_two_pow_add_gt h, ih, decide_eq_true h, decide_eq_true (by omega : j < k + 1)]
   ·rw [Nat.testBit_two_pow_add_eq, hz, hp]; simp
   ·rw [decide_eq_false (by omega), Bool.false_and]
    refine Nat.testBit_lt_two_pow ?_
    have : 2 ^ (k + 1) ≤ 2 ^ j := Nat.pow_le_pow_right (by omega) h
    rw [Nat.pow_succ] at this
    omega
  ·rename_i hp
   rw [Nat.add_zero, ih]
   by_cases h : j = k
   ·subst h; simp [hp]
   ·rw [decide_eq_decide.2 (show j < k ↔ j < k + 1 by omega)]
theorem wb_up (p : Nat → Bool) (a : Nat) : ∀ k, wb p a (k + 1) = 2 * wb p (a + 1) k + (if p a then 1 else 0)
 | 0 => by simp [wb]
 | k + 1 => by
  have ih := wb_up p a k
  rw [wb, ih, wb, Nat.pow_succ, show a + 1 + k = a + (k + 1) by omega]
  split <;> split <;> omega
theorem wb_congr {p q : Nat → Bool} {a : Nat} : ∀ {k : Nat}, (∀ j, j < k → p (a + j) = q (a + j)) → wb p a k = wb q a k
 | 0, _ => rfl
 | k + 1, h => by
  rw [wb, wb, wb_congr fun j hj => h j (by omega), h k (by omega)]
abbrev setD (p : Nat → Bool) : List D := [.int .u64 (wb p 0 64 : Nat), .int .u64 (wb p 64 64 : Nat)]
abbrev setA (p : Nat → Bool) : AV := .agg (setD p)
def addP (p : Nat → Bool) (n : Int) : Nat → Bool := fun m => p m || decide ((m : Int) = n)
def WithC (g : List AV → Option (List AV)) : Prop := ∀ (p : Nat → Bool) (n : Int), g [setA p, i64 n] = some [setA (addP p n)]
theorem or_u64 (x y : Nat) (hx : x < 2 ^ 64) (hy : y < 2 ^ 64) : bitsK .or .u64 x y = ((x ||| y : Nat) : Int) := by
 have h64 : IntKind.u64.bits = 64 := rfl
 have e : (BitVec.ofInt IntKind.u64.bits (x : Int) ||| BitVec.ofInt IntKind.u64.bits (y : Int)).toNat = x ||| y := by
  have h1 : (BitVec.ofInt IntKind.u64.bits (x : Int)).toNat = x := by simp only [BitVec.toNat_ofInt, h64]; omega
  have h2 : (BitVec.ofInt IntKind.u64.bits (y : Int)).toNat = y := by simp only [BitVec.toNat_ofInt, h64]; omega
  rw [BitVec.toNat_or, h1, h2]
 have h3 : x ||| y < 2 ^ 64 := Nat.or_lt_two_pow hx hy
 simp only [bitsK, e, IntKind.wrap_u64]
 omega
theorem and_63 (m : Nat) (h : m < 128) : bitsK .and .i64 m 63 = ((m % 64 : Nat) : Int) := by
 have h64 : IntKind.i64.bits = 64 := rfl
 have e : (BitVec.ofInt IntKind.i64.bits (m : Int) &&& BitVec.ofInt IntKind.i64.bits 63).toNat = m % 64 := by
  have h1 : (BitVec.ofInt IntKind.i64.bits (m : Int)).toNat = m := by simp only [BitVec.toNat_ofInt, h64]; omega
  have h2 : (BitVec.ofInt IntKind.i64.bits (63 : Int)).toNat = 2 ^ 6 - 1 := by decide
  rw [BitVec.toNat_and, h1, h2, Nat.and_two_pow_sub_one_eq_mod]
 simp only [bitsK, e, IntKind.wrap_i64]
 omega
theorem wb_add (p : Nat → Bool) (a j : Nat) (hj : j < 64) : wb p a 64 ||| 2 ^ j = wb (fun m => p m || decide ((m : Int) = (a + j : Nat))) a 64 := by
 refine Nat.eq_of_testBit_eq fun i => ?_
 rw [Nat.testBit_or, wb_bit, wb_bit, Nat.testBit_two_pow]
 by_cases hi : i < 64
 ·simp only [hi, decide_true, Bool.true_and]
  congr 1
  exact decide_eq_decide.2 (by omega)
 ·have : ¬ j = i := by omega
  simp [hi, this]
theorem bits_With_run (Γ : Env) (M : Nat) : WithC (run Γ M bits_With_f) := by
 intro p n
 have w0 := wb_lt p 0 64
 have w1 := wb_lt p 64 64
 by_cases h0 : 0 ≤ n ∧ n < 128
 ·obtain ⟨m, rfl⟩ : ∃ m : Nat, n = m := ⟨n.toNat, by omega⟩
  have hm : m < 128 := by omega
  have e2 := and_63 m hm
  have e3 : (2 : Nat) ^ (m % 64) < 2 ^ 64 := Nat.pow_lt_pow_right (by omega) (Nat.mod_lt _ (by omega))
  have e4 := or_u64 (wb p 0 64) (2 ^ (m % 64)) w0 e3
  have e5 := or_u64 (wb p 64 64) (2 ^ (m % 64)) w1 e3
  have e6 : min (m % 64) IntKind.u64.bits = m % 64 := by have : IntKind.u64.bits = 64 := rfl; omega
  have e7 : (2 ^ (m % 64) : Int) = ((2 ^ (m % 64) : Nat) : Int) := by simp
  have e8 : ∀ x : Nat, x < 2 ^ 64 → IntKind.u64.wrap (x : Int) = x := fun x hx => by rw [IntKind.wrap_u64]; omega
  have e9 := e8 _ e3
  have hp6 : (2 : Int) ^ min 6 IntKind.i64.bits = 64 := by decide
  by_cases h1 : m < 64
  ·have e1 : ((m : Int)).fdiv (2 ^ min 6 IntKind.i64.bits) = 0 := by rw [hp6, Int.fdiv_eq_ediv_of_nonneg _ (by omega)]; omega
   have f0 : wb (addP p m) 0 64 = wb p 0 64 ||| 2 ^ (m % 64) := by rw [wb_add p 0 _ (by omega)]; unfold addP; congr 1; funext x; rw [show (0 + m % 64 : Nat) = m by omega]
   have f1 : wb (addP p m) 64 64 = wb p 64 64 := wb_congr fun j _ => by unfold addP; simp; omega
   rw [setA, setA, setD, setD, f0, f1]
   generalize wb p 0 64 = x0 at *
   generalize wb p 64 64 = x1 at *
   rw [← e4]
   rw [← e7] at *
   generalize hj : m % 64 = j at *
   have hneg : ¬ (j : Int) < 0 := by omega
   simp -implicitDefEqProofs (disch := first | omega | (simp <;> fail) | assumption) [h0, h1, e1, e2, e6, e9, hneg]
  ·have e1 : ((m : Int)).fdiv (2 ^ min 6 IntKind.i64.bits) = 1 := by rw [hp6, Int.fdiv_eq_ediv_of_nonneg _ (by omega)]; omega
   have f0 : wb (addP p m) 0 64 = wb p 0 64 := wb_congr fun j _ => by unfold addP; simp; omega
   have f1 : wb (addP p m) 64 64 = wb p 64 64 ||| 2 ^ (m % 64) := by rw [wb_add p 64 _ (by omega)]; unfold addP; congr 1; funext x; rw [show (64 + m % 64 : Nat) = m by omega]
   rw [setA, setA, setD, setD, f0, f1]
   generalize wb p 0 64 = x0 at *
   generalize wb p 64 64 = x1 at *
   rw [← e5]
   rw [← e7] at *
   generalize hj : m % 64 = j at *
   have hneg : ¬ (j : Int) < 0 := by omega
   simp -implicitDefEqProofs (disch := first | omega | (simp <;> fail) | assumption) [h0, h1, e1, e2, e6, e9, hneg]
 ·have f0 : wb (addP p n) 0 64 = wb p 0 64 := wb_congr fun j _ => by unfold addP; simp; omega
  have f1 : wb (addP p n) 64 64 = wb p 64 64 := wb_congr fun j _ => by unfold addP; simp; omega
  rw [setA, setA, setD, setD, f0, f1]
  generalize wb p 0 64 = x0 at *
  generalize wb p 64 64 = x1 at *
  by_cases h1 : 0 ≤ n
  ·have h2 : ¬ n < 128 := by omega
   simp -implicitDefEqProofs (disch := first | omega | (simp <;> fail) | assumption) [h1, h2]
  ·simp -implicitDefEqProofs (disch := first | omega | (simp <;> fail) | assumption) [h1]
end Go.Am
namespace Go.Am
open Go.Proofs Go.Shelf Go.RowKit Go.Sort
def setOf (l : List Int) : Nat → Bool := fun m => l.any fun n => decide ((m : Int) = n)
theorem addP_setOf (l : List Int) (n : Int) : addP (setOf l) n = setOf (l ++ [n]) := by
 funext m; simp [addP, setOf]
theorem setOf_perm {a b : List Int} (h : a.Perm b) : setOf a = setOf b := by
 funext m
 unfold setOf
 rw [Bool.eq_iff_iff, List.any_eq_true, List.any_eq_true]
 exact ⟨fun ⟨x, hx, hm⟩ => ⟨x, h.mem_iff.1 hx, hm⟩, fun ⟨x, hx, hm⟩ => ⟨x, h.mem_iff.2 hx, hm⟩⟩
def selC (car dir : Int) (l : List HC) : List Int := (l.filter fun e => decide (e.c = car) && decide (e.d = dir)).map (·.f)
def selQ (car dir : Int) (l : List HQ) : List Int := (l.filter fun e => decide (e.k.2.2 = car) && decide (e.k.2.1 = dir) && decide (0 ≤ car)).map (·.k.1)
abbrev IT1 : Nat := 2923003274661805836407369665432566039311865603967
abbrev IT2 : Nat := 2923003274661805836407369665432566039311865603991
def ownL : List Nat := [518006, 518007, 518008, 518009, 518010, 2923003274661805836407369665432566039311865603967, 2923003274661805836407369665432566039311865603991]
structure LaH (gs : List (Nat × AV)) (ob : List (Nat × Obj)) : Prop where
 g : Gh gs
 k : Kf 518000 519000 ob
 n : ∀ k ∈ ownL, nmFr k gs = true ∧ nmOb k ob = true ∧ del ob k = ob
abbrev z2R : List AV := [.c (.int .u64 0), .c (.int .u64 0)]
abbrev setR (p : Nat → Bool) : List AV := [.c (.int .u64 (wb p 0 64 : Nat)), .c (.int .u64 (wb p 64 64 : Nat))]
def envL : Env := env [(527, bits_With_f, 2)] [] noEnv 10 1
theorem envL_with : WithC (envL 527) := by
 intro p n
 show env _ _ _ _ (0 + 1) _ _ = _
 rw [env_run (F := bits_With_f) (k := 2) rfl rfl]
 exact bits_With_run _ _ p n
def nmL : Nat → Option Nat := fun f => if f = 527 then some 71 else none
theorem envL_ok : EnvOk Try.prog nmL envL := env_ok (by kernel_rfl) noEnv_ok (by decide +kernel) (by rfl) 10 1
def hdL (b : Bool) (done : List HC) (hk mk z : Nat) (car dir : Int) (gs : List (Nat × AV)) (ob : List (Nat × Obj)) : St :=
 ⟨(0, .loc hk 0 0) :: (1, i64 car) :: (2, i64 dir) :: (6, .loc 518006 0 0) :: (7, .loc 518007 0 0) :: (15, .itr 2923003274661805836407369665432566039311865603967) :: gs,
  if b then (518007, ⟨2, [setR (setOf (selC car dir done))]⟩) :: (2923003274661805836407369665432566039311865603967, ⟨z, [.mp mk, .c (.int .i64 z)] :: done.map (bornR HC.b)⟩) :: (518006, ⟨2, [z2R]⟩) :: ob
  else (2923003274661805836407369665432566039311865603967, ⟨z, [.mp mk, .c (.int .i64 z)] :: done.map (bornR HC.b)⟩) :: (518007, ⟨2, [setR (setOf (selC car dir done))]⟩) :: (518006, ⟨2, [z2R]⟩) :: ob⟩
section
variable {gs : List (Nat × AV)} {ob : List (Nat × Obj)}
theorem lands_round (M : Nat) (b : Bool) (l done : List HC) (hk mk z : Nat) (car dir : Int) (hH : LaH gs ob) (hn : (l.map (·.b)).Nodup) (hmk : get ob mk = some ⟨z, l.map HC.row⟩) (hhk : ∀ k ∈ ownL, ¬ hk = k) (K : AX → St → Prop)
  (hEnd : (∀ e ∈ l, ∃ f ∈ done, f.b = e.b) → K (.ex 0) ⟨(0, .loc hk 0 0) :: (1, i64 car) :: (2, i64 dir) :: (6, .loc 518006 0 0) :: (7, .loc 518007 0 0) :: gs, (518007, ⟨2, [setR (setOf (selC car dir done))]⟩) :: (518006, ⟨2, [z2R]⟩) :: ob⟩)
  (hNext : ∀ e ∈ l, (∀ f ∈ done, f.b ≠ e.b) → ∀ b s', nrmP [0, 1, 2, 6, 7, 15] 518000 519000 [518006, 518007, 2923003274661805836407369665432566039311865603967] s' = hdL b (done ++ [e]) hk mk z car dir gs ob → K .norm s') :
  execW envL M queue_Hall_Lands_l2b (hdL b done hk mk z car dir gs ob) K := by
 obtain ⟨g, k, hN⟩ := hH
 obtain ⟨n6, o6, d6⟩ := hN 518006 (by decide)
 obtain ⟨n7, o7, d7⟩ := hN 518007 (by decide)
 obtain ⟨n8, o8, d8⟩ := hN 518008 (by decide)
 obtain ⟨n9, o9, d9⟩ := hN 518009 (by decide)
 obtain ⟨ni, oi, di⟩ := hN 2923003274661805836407369665432566039311865603967 (by decide)
 have h6 := hhk 518006 (by decide)
 have h7 := hhk 518007 (by decide)
 have h8 := hhk 518008 (by decide)
 have h9 := hhk 518009 (by decide)
 have hi := hhk 2923003274661805836407369665432566039311865603967 (by decide)
 have q6 := get_of_del d6 hmk
 have q7 := get_of_del d7 hmk
 have q8 := get_of_del d8 hmk
 have q9 := get_of_del d9 hmk
 have qi := get_of_del di hmk
 have a3 := fun k => nmRows_bornR HC.b k done
 have a4 := fun k => lcRows_bornR HC.b k done
 rw [queue_Hall_Lands_l2b_x, execW_seq]
 have hg1 : get (hdL b done hk mk z car dir gs ob).fr 15 = some (.itr 2923003274661805836407369665432566039311865603967) := rfl
 have hg2 : get (hdL b done hk mk z car dir gs ob).ob 2923003274661805836407369665432566039311865603967 = some ⟨z, [.mp mk, .c (.int .i64 z)] :: done.map (bornR HC.b)⟩ := by cases b <;> rfl
 have hg3 : get (hdL b done hk mk z car dir gs ob).ob mk = some ⟨z, l.map (entR HC.b kyC vlC)⟩ := by rw [← rowC]; cases b <;> simp [hdL, Go.Am.get, q6, q7, qi, hmk]
 simp only [execW]
 refine nextP_map HC.b kyC vlC hg1 hg2 hg3 (fun e _ => ⟨rfl, rfl⟩) (fun hend => ?_) (fun e he hno => ?_)
 ·have hK := hEnd hend
  refine ⟨_, rfl, ?_⟩
  rw [seqK_norm, execW_ac]
  unfold hdL
  generalize setOf (selC car dir done) = P at *
  cases b <;> simp -implicitDefEqProofs (disch := first | omega | (simp <;> fail) | assumption) [g, k, acK_some, d6, d7, di] <;> exact hK
 ·have hf := find_bornR HC.b kyC vlC hn he
  have hK := hNext e he hno
  have hW := envL_with (setOf (selC car dir done)) e.f
  rw [addP_setOf] at hW
  have hs1 : e.c = car → e.d = dir → selC car dir (done ++ [e]) = selC car dir done ++ [e.f] := fun h1 h2 => by simp [selC, List.filter_append, h1, h2]
  have hs2 : ¬ (e.c = car ∧ e.d = dir) → selC car dir (done ++ [e]) = selC car dir done := fun h => by
   have : (decide (e.c = car) && decide (e.d = dir)) = false := by simpa using h
   simp [selC, List.filter_append, this]
  refine ⟨_, rfl, ?_⟩
  rw [seqK_norm, execW_ac]
  rw [rowC] at hmk
  obtain ⟨eb, ef, ed, en, ec⟩ := e
  simp only at hW hs1 hs2
  by_cases hc : ec = car
  ·by_cases hd : ed = dir
   ·have hK := hK true
    simp only [hdL, hs1 hc hd] at hK
    unfold hdL
    generalize setOf (selC car dir done ++ [ef]) = P2 at *
    generalize setOf (selC car dir done) = P1 at *
    simp only [setA, setD] at hW
    cases b <;> simp -implicitDefEqProofs (disch := first | omega | (simp <;> fail) | assumption) [g, k, acK_some, d6, d7, d8, d9, di, hf, a3, a4, entR, bornR, hmk, q6, q7, q8, q9, qi, Ne.symm q6, Ne.symm q7, Ne.symm q8, Ne.symm q9, Ne.symm qi, n6, n7, n8, n9, ni, o6, o7, o8, o9, oi, h6, h7, h8, h9, hi, hc, hd, hW]
    all_goals
     refine hK _ ?_
     simp -implicitDefEqProofs (disch := first | omega | (simp <;> fail) | assumption) [g, k, bornR]
   ·have hK := hK false
    simp only [hdL, hs2 (fun h => hd h.2)] at hK
    unfold hdL
    generalize setOf (selC car dir done) = P1 at *
    cases b <;> simp -implicitDefEqProofs (disch := first | omega | (simp <;> fail) | assumption) [g, k, acK_some, d6, d7, d8, d9, di, hf, a3, a4, entR, bornR, hmk, q6, q7, q8, q9, qi, Ne.symm q6, Ne.symm q7, Ne.symm q8, Ne.symm q9, Ne.symm qi, n6, n7, n8, n9, ni, o6, o7, o8, o9, oi, h6, h7, h8, h9, hi, hc, hd]
    all_goals
     refine hK _ ?_
     simp -implicitDefEqProofs (disch := first | omega | (simp <;> fail) | assumption) [g, k, bornR]
  ·have hK := hK false
   simp only [hdL, hs2 (fun h => hc h.1)] at hK
   unfold hdL
   generalize setOf (selC car dir done) = P1 at *
   cases b <;> simp -implicitDefEqProofs (disch := first | omega | (simp <;> fail) | assumption) [g, k, acK_some, d6, d7, d8, d9, di, hf, a3, a4, entR, bornR, hmk, q6, q7, q8, q9, qi, Ne.symm q6, Ne.symm q7, Ne.symm q8, Ne.symm q9, Ne.symm qi, n6, n7, n8, n9, ni, o6, o7, o8, o9, oi, h6, h7, h8, h9, hi, hc]
   all_goals
    refine hK _ ?_
    simp -implicitDefEqProofs (disch := first | omega | (simp <;> fail) | assumption) [g, k, bornR]
theorem lands_round0 (M : Nat) (hk : Nat) (car dir : Int) (hH : LaH gs ob) (K : AX → St → Prop)
  (hEnd : K (.ex 0) ⟨(0, .loc hk 0 0) :: (1, i64 car) :: (2, i64 dir) :: (6, .loc 518006 0 0) :: (7, .loc 518007 0 0) :: gs, (518007, ⟨2, [z2R]⟩) :: (518006, ⟨2, [z2R]⟩) :: ob⟩) :
  execW envL M queue_Hall_Lands_l2b ⟨(0, .loc hk 0 0) :: (1, i64 car) :: (2, i64 dir) :: (6, .loc 518006 0 0) :: (7, .loc 518007 0 0) :: (15, .itr 2923003274661805836407369665432566039311865603967) :: gs, (2923003274661805836407369665432566039311865603967, ⟨0, [[.ot .nm]]⟩) :: (518007, ⟨2, [z2R]⟩) :: (518006, ⟨2, [z2R]⟩) :: ob⟩ K := by
 obtain ⟨g, k, hN⟩ := hH
 obtain ⟨n6, o6, d6⟩ := hN 518006 (by decide)
 obtain ⟨n7, o7, d7⟩ := hN 518007 (by decide)
 obtain ⟨ni, oi, di⟩ := hN 2923003274661805836407369665432566039311865603967 (by decide)
 rw [queue_Hall_Lands_l2b_x, execW_seq]
 have hg1 : get ((0, .loc hk 0 0) :: (1, i64 car) :: (2, i64 dir) :: (6, .loc 518006 0 0) :: (7, .loc 518007 0 0) :: (15, .itr 2923003274661805836407369665432566039311865603967) :: gs) 15 = some (.itr 2923003274661805836407369665432566039311865603967) := rfl
 have hg2 : get ((2923003274661805836407369665432566039311865603967, (⟨0, [[.ot .nm]]⟩ : Am.Obj)) :: (518007, ⟨2, [z2R]⟩) :: (518006, ⟨2, [z2R]⟩) :: ob) 2923003274661805836407369665432566039311865603967 = some ⟨0, [[.ot .nm]]⟩ := rfl
 simp only [execW, nextP, hg1, hg2]
 left
 refine ⟨trivial, _, rfl, ?_⟩
 rw [seqK_norm, execW_ac]
 simp -implicitDefEqProofs (disch := first | omega | (simp <;> fail) | assumption) [g, k, acK_some, d6, d7, di]
 exact hEnd
def hdM (b : Bool) (F : List Int) (done : List HQ) (mk z : Nat) (car dir : Int) (gs : List (Nat × AV)) (ob : List (Nat × Obj)) : St :=
 ⟨(1, i64 car) :: (2, i64 dir) :: (6, .loc 518006 0 0) :: (7, .loc 518007 0 0) :: (39, .itr 2923003274661805836407369665432566039311865603991) :: gs,
  if b then (518007, ⟨2, [setR (setOf (F ++ selQ car dir done))]⟩) :: (2923003274661805836407369665432566039311865603991, ⟨z, [.mp mk, .c (.int .i64 z)] :: done.map (bornR bQ)⟩) :: (518006, ⟨2, [z2R]⟩) :: ob
  else (2923003274661805836407369665432566039311865603991, ⟨z, [.mp mk, .c (.int .i64 z)] :: done.map (bornR bQ)⟩) :: (518007, ⟨2, [setR (setOf (F ++ selQ car dir done))]⟩) :: (518006, ⟨2, [z2R]⟩) :: ob⟩
theorem landsM_round (M : Nat) (b : Bool) (F : List Int) (l done : List HQ) (mk z : Nat) (car dir : Int) (hH : LaH gs ob) (hn : (l.map (·.b)).Nodup) (hmk : get ob mk = some ⟨z, l.map HQ.row⟩) (hq : ∀ e ∈ l, get ob e.ky = some e.obj) (K : AX → St → Prop)
  (hEnd : (∀ e ∈ l, ∃ f ∈ done, f.b = e.b) → K (.ex 2) ⟨(6, .loc 518006 0 0) :: (7, .loc 518007 0 0) :: gs, (518007, ⟨2, [setR (setOf (F ++ selQ car dir done))]⟩) :: (518006, ⟨2, [z2R]⟩) :: ob⟩)
  (hNext : ∀ e ∈ l, (∀ f ∈ done, f.b ≠ e.b) → ∀ b s', nrmP [1, 2, 6, 7, 39] 518000 519000 [518006, 518007, 2923003274661805836407369665432566039311865603991] s' = hdM b F (done ++ [e]) mk z car dir gs ob → K .norm s') :
  execW envL M queue_Hall_Lands_l1b (hdM b F done mk z car dir gs ob) K := by
 obtain ⟨g, k, hN⟩ := hH
 obtain ⟨n6, o6, d6⟩ := hN 518006 (by decide)
 obtain ⟨n7, o7, d7⟩ := hN 518007 (by decide)
 obtain ⟨n0, o0, d0⟩ := hN 518010 (by decide)
 obtain ⟨ni, oi, di⟩ := hN 2923003274661805836407369665432566039311865603991 (by decide)
 have q6 := get_of_del d6 hmk
 have q7 := get_of_del d7 hmk
 have q0 := get_of_del d0 hmk
 have qi := get_of_del di hmk
 have a3 := fun k => nmRows_bornR bQ k done
 have a4 := fun k => lcRows_bornR bQ k done
 rw [queue_Hall_Lands_l1b_x, execW_seq]
 have hg1 : get (hdM b F done mk z car dir gs ob).fr 39 = some (.itr 2923003274661805836407369665432566039311865603991) := rfl
 have hg2 : get (hdM b F done mk z car dir gs ob).ob 2923003274661805836407369665432566039311865603991 = some ⟨z, [.mp mk, .c (.int .i64 z)] :: done.map (bornR bQ)⟩ := by cases b <;> rfl
 have hg3 : get (hdM b F done mk z car dir gs ob).ob mk = some ⟨z, l.map (entR bQ kyQ HQ.val)⟩ := by rw [← rowQ]; cases b <;> simp [hdM, Go.Am.get, q6, q7, qi, hmk]
 simp only [execW]
 refine nextP_map bQ kyQ HQ.val hg1 hg2 hg3 (fun e _ => ⟨rfl, rfl⟩) (fun hend => ?_) (fun e he hno => ?_)
 ·have hK := hEnd hend
  refine ⟨_, rfl, ?_⟩
  rw [seqK_norm, execW_ac]
  unfold hdM
  generalize setOf (F ++ selQ car dir done) = P at *
  cases b <;> simp -implicitDefEqProofs (disch := first | omega | (simp <;> fail) | assumption) [g, k, acK_some, d6, d7, di] <;> exact hK
 ·have hf := find_bornR bQ kyQ HQ.val hn he
  have hK := hNext e he hno
  have hye := hq e he
  have y6 := get_of_del d6 hye
  have y7 := get_of_del d7 hye
  have y0 := get_of_del d0 hye
  have yi := get_of_del di hye
  have hW := envL_with (setOf (F ++ selQ car dir done)) e.k.1
  rw [addP_setOf, List.append_assoc] at hW
  have hs1 : e.k.2.2 = car → e.k.2.1 = dir → 0 ≤ car → selQ car dir (done ++ [e]) = selQ car dir done ++ [e.k.1] := fun h1 h2 h3 => by simp [selQ, List.filter_append, h1, h2, h3]
  have hs2 : ¬ (e.k.2.2 = car ∧ e.k.2.1 = dir ∧ 0 ≤ car) → selQ car dir (done ++ [e]) = selQ car dir done := fun h => by
   have : (decide (e.k.2.2 = car) && decide (e.k.2.1 = dir) && decide (0 ≤ car)) = false := by simpa [and_assoc] using h
   simp only [selQ, List.filter_append, List.filter_cons, this, List.filter_nil, if_false, Bool.false_eq_true, List.append_nil]
  refine ⟨_, rfl, ?_⟩
  rw [seqK_norm, execW_ac]
  rw [rowQ] at hmk
  obtain ⟨eb, ⟨ef, ed, ec⟩, ky, gone, el⟩ := e
  simp only at hW hs1 hs2 hye y6 y7 y0 yi
  have hlen2 : (List.map w4R (gone ++ el)).length = gone.length + el.length := by simp
  by_cases hc : ec = car ∧ ed = dir ∧ 0 ≤ car
  ·obtain ⟨hc, hd, h0⟩ := hc
   have hK := hK true
   simp only [hdM, hs1 hc hd h0] at hK
   unfold hdM
   generalize setOf (F ++ (selQ car dir done ++ [ef])) = P2 at *
   generalize setOf (F ++ selQ car dir done) = P1 at *
   simp only [setA, setD] at hW
   cases b <;> simp -implicitDefEqProofs (disch := first | omega | (simp <;> fail) | assumption) [g, k, acK_some, d6, d7, d0, di, hf, a3, a4, entR, bornR, k3D, hmk, q6, q7, q0, qi, Ne.symm q6, Ne.symm q7, Ne.symm q0, Ne.symm qi, n6, n7, n0, ni, o6, o7, o0, oi, hc, hd, h0, hW, HQ.val, hye, y6, y7, y0, yi, Ne.symm y6, Ne.symm y7, Ne.symm y0, Ne.symm yi, kyQ, hlen2]
   all_goals
    refine hK _ ?_
    simp -implicitDefEqProofs (disch := first | omega | (simp <;> fail) | assumption) [g, k, bornR]
  ·have hK := hK false
   simp only [hdM, hs2 hc] at hK
   unfold hdM
   generalize setOf (F ++ selQ car dir done) = P1 at *
   by_cases hc1 : ec = car
   ·by_cases hd1 : ed = dir
    ·have h01 : ¬ 0 ≤ car := fun h => hc ⟨hc1, hd1, h⟩
     cases b <;> simp -implicitDefEqProofs (disch := first | omega | (simp <;> fail) | assumption) [g, k, acK_some, d6, d7, d0, di, hf, a3, a4, entR, bornR, k3D, hmk, q6, q7, q0, qi, Ne.symm q6, Ne.symm q7, Ne.symm q0, Ne.symm qi, n6, n7, n0, ni, o6, o7, o0, oi, hc1, hd1, h01, HQ.val, hye, y6, y7, y0, yi, Ne.symm y6, Ne.symm y7, Ne.symm y0, Ne.symm yi, kyQ, hlen2]
     all_goals
      refine hK _ ?_
      simp -implicitDefEqProofs (disch := first | omega | (simp <;> fail) | assumption) [g, k, bornR]
    ·cases b <;> simp -implicitDefEqProofs (disch := first | omega | (simp <;> fail) | assumption) [g, k, acK_some, d6, d7, d0, di, hf, a3, a4, entR, bornR, k3D, hmk, q6, q7, q0, qi, Ne.symm q6, Ne.symm q7, Ne.symm q0, Ne.symm qi, n6, n7, n0, ni, o6, o7, o0, oi, hc1, hd1, HQ.val, hye, y6, y7, y0, yi, Ne.symm y6, Ne.symm y7, Ne.symm y0, Ne.symm yi, kyQ, hlen2]
     all_goals
      refine hK _ ?_
      simp -implicitDefEqProofs (disch := first | omega | (simp <;> fail) | assumption) [g, k, bornR]
   ·cases b <;> simp -implicitDefEqProofs (disch := first | omega | (simp <;> fail) | assumption) [g, k, acK_some, d6, d7, d0, di, hf, a3, a4, entR, bornR, k3D, hmk, q6, q7, q0, qi, Ne.symm q6, Ne.symm q7, Ne.symm q0, Ne.symm qi, n6, n7, n0, ni, o6, o7, o0, oi, hc1, HQ.val, hye, y6, y7, y0, yi, Ne.symm y6, Ne.symm y7, Ne.symm y0, Ne.symm yi, kyQ, hlen2]
    all_goals
     refine hK _ ?_
     simp -implicitDefEqProofs (disch := first | omega | (simp <;> fail) | assumption) [g, k, bornR]
theorem landsM_round0 (M : Nat) (F : List Int) (car dir : Int) (hH : LaH gs ob) (K : AX → St → Prop)
  (hEnd : K (.ex 2) ⟨(6, .loc 518006 0 0) :: (7, .loc 518007 0 0) :: gs, (518007, ⟨2, [setR (setOf F)]⟩) :: (518006, ⟨2, [z2R]⟩) :: ob⟩) :
  execW envL M queue_Hall_Lands_l1b ⟨(1, i64 car) :: (2, i64 dir) :: (6, .loc 518006 0 0) :: (7, .loc 518007 0 0) :: (39, .itr 2923003274661805836407369665432566039311865603991) :: gs, (2923003274661805836407369665432566039311865603991, ⟨0, [[.ot .nm]]⟩) :: (518007, ⟨2, [setR (setOf F)]⟩) :: (518006, ⟨2, [z2R]⟩) :: ob⟩ K := by
 obtain ⟨g, k, hN⟩ := hH
 obtain ⟨n6, o6, d6⟩ := hN 518006 (by decide)
 obtain ⟨n7, o7, d7⟩ := hN 518007 (by decide)
 obtain ⟨ni, oi, di⟩ := hN 2923003274661805836407369665432566039311865603991 (by decide)
 rw [queue_Hall_Lands_l1b_x, execW_seq]
 generalize setOf F = P at *
 have hg1 : get ((1, i64 car) :: (2, i64 dir) :: (6, .loc 518006 0 0) :: (7, .loc 518007 0 0) :: (39, .itr 2923003274661805836407369665432566039311865603991) :: gs) 39 = some (.itr 2923003274661805836407369665432566039311865603991) := rfl
 have hg2 : get ((2923003274661805836407369665432566039311865603991, (⟨0, [[.ot .nm]]⟩ : Am.Obj)) :: (518007, ⟨2, [setR P]⟩) :: (518006, ⟨2, [z2R]⟩) :: ob) 2923003274661805836407369665432566039311865603991 = some ⟨0, [[.ot .nm]]⟩ := rfl
 simp only [execW, nextP, hg1, hg2]
 left
 refine ⟨trivial, _, rfl, ?_⟩
 rw [seqK_norm, execW_ac]
 simp -implicitDefEqProofs (disch := first | omega | (simp <;> fail) | assumption) [g, k, acK_some, d6, d7, di]
 exact hEnd
end
end Go.Am
namespace Go.Am
open Go.Proofs Go.Shelf Go.RowKit Go.Sort
def landsSide (s : St) : Bool := noKeys 518000 519000 s.ob && ownL.all fun k => nmFr k s.fr && nmOb k s.ob
def landsIn (s : St) : Option (Int × Int × List HC × List HQ) := match get s.fr 0, get s.fr 1, get s.fr 2 with
 | some (.loc hk 0 0), some (.c (.int .i64 car)), some (.c (.int .i64 dir)) => match hallCs 518006 hk s.ob, hallQs hk s.ob with
  | some cs, some (_, qs) => some (car, dir, cs, qs)
  | _, _ => none
 | _, _, _ => none
def landsPt (s : St) : Option (List AV × List (Nat × Obj)) :=
 match landsIn s with
 | some (car, dir, cs, qs) => if (nodupB (cs.map (·.b)) && nodupB (qs.map (·.b)) && decide (cs.length ≤ 200000) && decide (qs.length ≤ 200000) && landsSide s) = true then some ([setA (setOf (selC car dir cs ++ selQ car dir qs))], s.ob) else none
 | none => none
theorem landsPt_mono (s : St) (rs : List AV) (ob : List (Nat × Obj)) (R : List Nat) (hR : ∀ r ∈ R, GB ≤ r) (h : landsPt s = some (rs, ob)) : landsPt ⟨dels R s.fr, s.ob⟩ = some (rs, ob) := by
 have hG : (2 : Nat) < GB := by decide
 have e0 : get (dels R s.fr) 0 = get s.fr 0 := by rw [get_dels, if_neg fun h => by have := hR _ h; omega]
 have e1 : get (dels R s.fr) 1 = get s.fr 1 := by rw [get_dels, if_neg fun h => by have := hR _ h; omega]
 have e2 : get (dels R s.fr) 2 = get s.fr 2 := by rw [get_dels, if_neg fun h => by have := hR _ h; omega]
 have e3 : landsIn ⟨dels R s.fr, s.ob⟩ = landsIn s := by simp only [landsIn, e0, e1, e2]
 unfold landsPt at h ⊢
 rw [e3]
 split at h
 case h_2 => simp at h
 split at h
 case isFalse => simp at h
 rename_i car dir cs qs hq hc
 simp only [Bool.and_eq_true, landsSide, List.all_eq_true] at hc
 obtain ⟨⟨⟨⟨c1, c2⟩, c3⟩, c4⟩, c5, c6⟩ := hc
 have hs : landsSide ⟨dels R s.fr, s.ob⟩ = true := by
  simp only [landsSide, List.all_eq_true, Bool.and_eq_true]
  exact ⟨c5, fun k hk => ⟨nmFr_dels _ R _ (c6 k hk).1, (c6 k hk).2⟩⟩
 simp only [hq, c1, c2, c3, c4, hs, Bool.and_self, if_true]
 exact h
section
variable {gs : List (Nat × AV)} {ob : List (Nat × Obj)}
def tailL : AW := .ac (.keepP [6, 7] 518000 519000 [518006, 518007] (.seq (.reg r518_12) (.keepP [6] 518000 519000 [518006] (.ret))))
def midL : AW := .seq (.seq (.ac (.reg r518_7)) (.keepP [1, 2, 6, 7, 39] 518000 519000 [518006, 518007, 2923003274661805836407369665432566039311865603991] (.block 2 (.loop queue_Hall_Lands_l1)))) tailL
theorem lands_tail (M : Nat) (P : Nat → Bool) (hH : LaH gs ob) (K : AX → St → Prop)
  (hK : K .ret ⟨(6, .loc 518006 0 0) :: gs, (518006, ⟨2, [setR P]⟩) :: ob⟩) :
  execW envL M tailL ⟨(6, .loc 518006 0 0) :: (7, .loc 518007 0 0) :: gs, (518007, ⟨2, [setR P]⟩) :: (518006, ⟨2, [z2R]⟩) :: ob⟩ K := by
 obtain ⟨g, k, hN⟩ := hH
 obtain ⟨n6, o6, d6⟩ := hN 518006 (by decide)
 obtain ⟨n7, o7, d7⟩ := hN 518007 (by decide)
 unfold tailL
 rw [execW_ac]
 simp -implicitDefEqProofs (disch := first | omega | (simp <;> fail) | assumption) [g, k, acK_some, d6, d7]
 exact hK
theorem selQ_perm {car dir : Int} {a b : List HQ} (h : a.Perm b) : (selQ car dir a).Perm (selQ car dir b) := (h.filter _).map _
theorem selC_perm {car dir : Int} {a b : List HC} (h : a.Perm b) : (selC car dir a).Perm (selC car dir b) := (h.filter _).map _
theorem lands_mid (hk : Nat) (car dir : Int) (F : List Int) (qs : List HQ) (wm : Option Nat) (hq : hallQs hk ob = some (wm, qs)) (hb : nodupB (qs.map (·.b)) = true) (hl : qs.length ≤ 200000) (hH : LaH gs ob) (hhk : ∀ k ∈ ownL, ¬ hk = k) (K : AX → St → Prop)
  (hK : K .ret ⟨(6, .loc 518006 0 0) :: gs, (518006, ⟨2, [setR (setOf (F ++ selQ car dir qs))]⟩) :: ob⟩) :
  execW envL 200001 midL ⟨(0, .loc hk 0 0) :: (1, i64 car) :: (2, i64 dir) :: (6, .loc 518006 0 0) :: (7, .loc 518007 0 0) :: gs, (518007, ⟨2, [setR (setOf F)]⟩) :: (518006, ⟨2, [z2R]⟩) :: ob⟩ K := by
 have hH' := hH
 obtain ⟨g, k, hN⟩ := hH
 obtain ⟨n6, o6, d6⟩ := hN 518006 (by decide)
 obtain ⟨n7, o7, d7⟩ := hN 518007 (by decide)
 obtain ⟨ni, oi, di⟩ := hN 2923003274661805836407369665432566039311865603991 (by decide)
 have h6 := hhk 518006 (by decide)
 have h7 := hhk 518007 (by decide)
 have hi := hhk 2923003274661805836407369665432566039311865603991 (by decide)
 have hdone : ∀ done : List HQ, done.Perm qs → K .ret ⟨(6, .loc 518006 0 0) :: gs, (518006, ⟨2, [setR (setOf (F ++ selQ car dir done))]⟩) :: ob⟩ := fun done hp => by
  rw [setOf_perm ((selQ_perm (car := car) (dir := dir) hp).append_left F)]; exact hK
 unfold midL
 have htl := fun P hK => lands_tail (gs := gs) (ob := ob) 200001 P hH' K hK
 generalize tailL = T at *
 unfold hallQs at hq
 split at hq
 ·rename_i cmv nv hgk
  simp only [Option.some.injEq, Prod.mk.injEq] at hq
  obtain ⟨rfl, rfl⟩ := hq
  have hS : setOf F = setOf F := rfl
  generalize hP : setOf F = P at *
  simp -implicitDefEqProofs (disch := first | omega | (simp <;> fail) | assumption) [execW_seq, execW_ac, execW_keepP, execW_block, acK_some, seqK_norm, g, k, hgk, h6, h7, hi, Ne.symm h6, Ne.symm h7, Ne.symm hi, d6, d7, di, n6, n7, ni, o6, o7, oi, execW_loop]
  show lpW _ (200000 + 1) _ _
  rw [lpW]
  rw [queue_Hall_Lands_l1_x, execW_keepP]
  subst hP
  have hs : nrmP [1, 2, 6, 7, 39] 518000 519000 [518006, 518007, 2923003274661805836407369665432566039311865603991] ⟨(1, i64 car) :: (2, i64 dir) :: (6, .loc 518006 0 0) :: (7, .loc 518007 0 0) :: (39, .itr 2923003274661805836407369665432566039311865603991) :: gs, (2923003274661805836407369665432566039311865603991, ⟨0, [[.ot .nm]]⟩) :: (518007, ⟨2, [setR (setOf F)]⟩) :: (518006, ⟨2, [z2R]⟩) :: ob⟩ = ⟨(1, i64 car) :: (2, i64 dir) :: (6, .loc 518006 0 0) :: (7, .loc 518007 0 0) :: (39, .itr 2923003274661805836407369665432566039311865603991) :: gs, (2923003274661805836407369665432566039311865603991, ⟨0, [[.ot .nm]]⟩) :: (518007, ⟨2, [setR (setOf F)]⟩) :: (518006, ⟨2, [z2R]⟩) :: ob⟩ := by simp [g, k]
  rw [hs]
  refine landsM_round0 _ F car dir hH' _ ?_
  show blkK 2 _ (.ex 2) _
  rw [blkK_ex, if_pos rfl, seqK_norm]
  exact htl _ (by have := hdone [] (.refl _); simpa [selQ] using this)
 ·rename_i mk cmv nv hgk
  split at hq
  case h_2 => simp at hq
  rename_i om hmk
  obtain ⟨z, rows⟩ := om
  simp only [Option.map_eq_some_iff, Prod.mk.injEq] at hq
  obtain ⟨qs2, hq, rfl, rfl⟩ := hq
  obtain ⟨hrw, hye⟩ := gHQs_some hq
  have hrw : rows = _ := hrw
  subst hrw
  have m6 := get_of_del d6 hmk
  have m7 := get_of_del d7 hmk
  have mi := get_of_del di hmk
  have hF0 : setOf F = setOf (F ++ selQ car dir []) := by simp [selQ]
  rw [hF0]
  generalize hP : setOf (F ++ selQ car dir []) = P
  simp -implicitDefEqProofs (disch := first | omega | (simp <;> fail) | assumption) [execW_seq, execW_ac, execW_keepP, execW_block, acK_some, seqK_norm, g, k, hgk, h6, h7, hi, Ne.symm h6, Ne.symm h7, Ne.symm hi, d6, d7, di, n6, n7, ni, o6, o7, oi, hmk, m6, m7, mi, Ne.symm m6, Ne.symm m7, Ne.symm mi, execW_loop]
  refine lpW_map (f := execW envL 200001 queue_Hall_Lands_l1) (b := bQ) (fun s K K' h => execW_mono _ h) (l := qs2) (nodupB_iff.1 hb) (fun done s => ∃ b, nrmP [1, 2, 6, 7, 39] 518000 519000 [518006, 518007, 2923003274661805836407369665432566039311865603991] s = hdM b F done mk z car dir gs ob) (fun done s hs hp => ?_) _ _ ?_ ?_
  rotate_left
  ·exact ⟨false, by rw [hdM, hP]; simp [g, k]⟩
  ·omega
  obtain ⟨b, hs⟩ := hs
  rw [queue_Hall_Lands_l1_x, execW_keepP, hs]
  refine landsM_round 200001 b F qs2 done mk z car dir hH' (nodupB_iff.1 hb) hmk hye _ (fun hend' => .inr ⟨by simp, hend', fun hpd => ?_⟩) (fun e he hno b s' hs' => .inl ⟨rfl, e, he, hno, b, hs'⟩)
  rw [blkK_ex, if_pos rfl, seqK_norm]
  exact htl _ (hdone done hpd)
 ·simp at hq
end
end Go.Am
namespace Go.Am
open Go.Proofs Go.Shelf Go.RowKit Go.Sort
theorem wb_nil (a : Nat) : ∀ k, wb (setOf []) a k = 0
 | 0 => rfl
 | k + 1 => by rw [wb, wb_nil a k]; simp [setOf]
theorem setR_nil : setR (setOf []) = z2R := by simp only [setR, wb_nil]; rfl
theorem lands_specP : SpecP Try.prog 50 landsPt := by
 refine runW_sound (nm := nmL) (Γ := envL) (fn := queue_Hall_Lands_f) (M := 200001) envL_ok (by decide +kernel) (by decide +kernel) landsPt ?_
 intro fr ob rs ob' h
 unfold landsPt at h
 split at h
 case h_2 => simp at h
 split at h
 case isFalse => simp at h
 rename_i car dir cs qs hin hc
 simp only [Option.some.injEq, Prod.mk.injEq] at h
 obtain ⟨rfl, rfl⟩ := h
 simp only [Bool.and_eq_true, landsSide, decide_eq_true_eq, List.all_eq_true] at hc
 obtain ⟨⟨⟨⟨c1, c2⟩, c3⟩, c4⟩, c5, c6⟩ := hc
 have hkf := noKeys_kf c5
 have hm : ∀ k ∈ ownL, 518000 ≤ k % KT ∧ k % KT < 519000 := by decide
 have hdel : ∀ k ∈ ownL, del ob k = ob := fun k hk => del_kf hkf (hm k hk).1 (hm k hk).2
 have hH : LaH (ghs fr) ob := ⟨ghs_gh fr, hkf, fun k hk => ⟨nmFr_ghs _ _ (c6 k hk).1, (c6 k hk).2, hdel k hk⟩⟩
 have f6 := (c6 518006 (by decide)).1
 clear c5 c6
 unfold landsIn at hin
 split at hin
 case h_2 => simp at hin
 rename_i hk car' dir' h0 h1 h2
 split at hin
 case h_2 => simp at hin
 rename_i cs' wm qs' hcs hqs
 simp only [Option.some.injEq, Prod.mk.injEq] at hin
 obtain ⟨rfl, rfl, rfl, rfl⟩ := hin
 simp only at h0 h1 h2
 have hgs : ∀ i, GB ≤ i → get (ghs fr) i = get fr i := fun i hi => by rw [get_ghs, if_pos hi]
 generalize hgg : ghs fr = gs at *
 have hH' := hH
 obtain ⟨g, k, hN⟩ := hH
 obtain ⟨n6, o6, d6⟩ := hN 518006 (by decide)
 obtain ⟨n7, o7, d7⟩ := hN 518007 (by decide)
 obtain ⟨ni, oi, di⟩ := hN 2923003274661805836407369665432566039311865603967 (by decide)
 have hend : EndW queue_Hall_Lands_f fr [setA (setOf (selC car' dir' cs' ++ selQ car' dir' qs'))] ob .ret ⟨(6, .loc 518006 0 0) :: gs, (518006, ⟨2, [setR (setOf (selC car' dir' cs' ++ selQ car' dir' qs'))]⟩) :: ob⟩ := by
  generalize setOf (selC car' dir' cs' ++ selQ car' dir' qs') = P
  refine ⟨.inr rfl, ?_, ?_, fun i hi => ?_⟩
  ·simp
  ·simp [k]
  ·have : ¬ 6 = i := by unfold GB at hi; omega
   simp only [Go.Am.get, if_neg this]; exact hgs i hi
 show execW envL 200001 queue_Hall_Lands_c _ _
 generalize hKK : EndW queue_Hall_Lands_f fr [setA (setOf (selC car' dir' cs' ++ selQ car' dir' qs'))] ob = K at *
 rw [queue_Hall_Lands_c_x]
 have eT : midL = .seq (.seq (.ac (.reg r518_7)) (.keepP [1, 2, 6, 7, 39] 518000 519000 [518006, 518007, 2923003274661805836407369665432566039311865603991] (.block 2 (.loop queue_Hall_Lands_l1)))) (.ac (.keepP [6, 7] 518000 519000 [518006, 518007] (.seq (.reg r518_12) (.keepP [6] 518000 519000 [518006] (.ret))))) := rfl
 try simp only [Cx.sr, Cx.pP, Cx.pQ, Cx.p0, Cx.rg, Cx.cd, Nat.reduceMul, Nat.reduceAdd]
 rw [← eT]
 have hhk : ∀ {o : Am.Obj}, get ob hk = some o → ∀ k ∈ ownL, ¬ hk = k := fun ho k hk' => Ne.symm (get_of_del (hdel k hk') ho)
 have hmid := fun F hhk hK => lands_mid (gs := gs) (ob := ob) hk car' dir' F qs' wm hqs c2 c4 hH' hhk K hK
 generalize midL = T at *
 unfold hallCs at hcs
 split at hcs
 ·simp at hcs
 split at hcs
 ·rename_i wv nv hgk
  have hhk := hhk hgk
  have h6 := hhk 518006 (by decide)
  have h7 := hhk 518007 (by decide)
  have hi := hhk 2923003274661805836407369665432566039311865603967 (by decide)
  simp only [Option.some.injEq] at hcs; subst hcs
  simp -implicitDefEqProofs (disch := first | omega | (simp <;> fail) | assumption) [execW_seq, execW_ac, execW_keepP, execW_block, acK_some, seqK_norm, h0, h1, h2, hgg, f6, g, k, hgk, h6, h7, hi, Ne.symm h6, Ne.symm h7, Ne.symm hi, d6, d7, di, n6, n7, ni, o6, o7, oi, execW_loop]
  show lpW _ (200000 + 1) _ _
  rw [lpW]
  rw [queue_Hall_Lands_l2_x, execW_keepP]
  have hs : nrmP [0, 1, 2, 6, 7, 15] 518000 519000 [518006, 518007, 2923003274661805836407369665432566039311865603967] ⟨(0, .loc hk 0 0) :: (1, i64 car') :: (2, i64 dir') :: (6, .loc 518006 0 0) :: (7, .loc 518007 0 0) :: (15, .itr 2923003274661805836407369665432566039311865603967) :: gs, (2923003274661805836407369665432566039311865603967, ⟨0, [[.ot .nm]]⟩) :: (518007, ⟨2, [z2R]⟩) :: (518006, ⟨2, [z2R]⟩) :: ob⟩ = ⟨(0, .loc hk 0 0) :: (1, i64 car') :: (2, i64 dir') :: (6, .loc 518006 0 0) :: (7, .loc 518007 0 0) :: (15, .itr 2923003274661805836407369665432566039311865603967) :: gs, (2923003274661805836407369665432566039311865603967, ⟨0, [[.ot .nm]]⟩) :: (518007, ⟨2, [z2R]⟩) :: (518006, ⟨2, [z2R]⟩) :: ob⟩ := by simp [g, k]
  rw [hs]
  refine lands_round0 _ hk car' dir' hH' _ ?_
  show blkK 0 _ (.ex 0) _
  rw [blkK_ex, if_pos rfl, seqK_norm, execW_keepP]
  have hs2 : nrmP [0, 1, 2, 6, 7] 518000 519000 [518006, 518007] ⟨(0, .loc hk 0 0) :: (1, i64 car') :: (2, i64 dir') :: (6, .loc 518006 0 0) :: (7, .loc 518007 0 0) :: gs, (518007, ⟨2, [z2R]⟩) :: (518006, ⟨2, [z2R]⟩) :: ob⟩ = ⟨(0, .loc hk 0 0) :: (1, i64 car') :: (2, i64 dir') :: (6, .loc 518006 0 0) :: (7, .loc 518007 0 0) :: gs, (518007, ⟨2, [z2R]⟩) :: (518006, ⟨2, [z2R]⟩) :: ob⟩ := by simp [g, k]
  rw [hs2]
  have hz := setR_nil
  have hm2 := hmid [] hhk hend
  rw [hz] at hm2
  exact hm2
 ·rename_i wv mk nv hgk
  have hhk := hhk hgk
  have h6 := hhk 518006 (by decide)
  have h7 := hhk 518007 (by decide)
  have hi := hhk 2923003274661805836407369665432566039311865603967 (by decide)
  split at hcs
  case h_2 => simp at hcs
  rename_i om hmk
  obtain ⟨z, rows⟩ := om
  have hrw : rows = _ := gHCs_some hcs
  subst hrw
  have m6 := get_of_del d6 hmk
  have m7 := get_of_del d7 hmk
  have mi := get_of_del di hmk
  have hz := setR_nil
  simp -implicitDefEqProofs (disch := first | omega | (simp <;> fail) | assumption) [execW_seq, execW_ac, execW_keepP, execW_block, acK_some, seqK_norm, h0, h1, h2, hgg, f6, g, k, hgk, h6, h7, hi, Ne.symm h6, Ne.symm h7, Ne.symm hi, d6, d7, di, n6, n7, ni, o6, o7, oi, hmk, m6, m7, mi, Ne.symm m6, Ne.symm m7, Ne.symm mi, execW_loop]
  refine lpW_map (f := execW envL 200001 queue_Hall_Lands_l2) (b := HC.b) (fun s K K' h => execW_mono _ h) (l := cs') (nodupB_iff.1 c1) (fun done s => ∃ b, nrmP [0, 1, 2, 6, 7, 15] 518000 519000 [518006, 518007, 2923003274661805836407369665432566039311865603967] s = hdL b done hk mk z car' dir' gs ob) (fun done s hs hp => ?_) _ _ ?_ ?_
  rotate_left
  ·exact ⟨false, by rw [hdL, show selC car' dir' [] = [] from rfl, hz]; simp [g, k]⟩
  ·omega
  obtain ⟨b, hs⟩ := hs
  rw [queue_Hall_Lands_l2_x, execW_keepP, hs]
  refine lands_round 200001 b cs' done hk mk z car' dir' hH' (nodupB_iff.1 c1) hmk hhk _ (fun hend' => .inr ⟨by simp, hend', fun hpd => ?_⟩) (fun e he hno b s' hs' => .inl ⟨rfl, e, he, hno, b, hs'⟩)
  rw [blkK_ex, if_pos rfl, seqK_norm, execW_keepP]
  have hm2 := hmid (selC car' dir' done) hhk (by rw [setOf_perm ((selC_perm (car := car') (dir := dir') hpd).append_right (selQ car' dir' qs'))]; exact hend)
  generalize setOf (selC car' dir' done) = P at *
  have hs2 : nrmP [0, 1, 2, 6, 7] 518000 519000 [518006, 518007] ⟨(0, .loc hk 0 0) :: (1, i64 car') :: (2, i64 dir') :: (6, .loc 518006 0 0) :: (7, .loc 518007 0 0) :: gs, (518007, ⟨2, [setR P]⟩) :: (518006, ⟨2, [z2R]⟩) :: ob⟩ = ⟨(0, .loc hk 0 0) :: (1, i64 car') :: (2, i64 dir') :: (6, .loc 518006 0 0) :: (7, .loc 518007 0 0) :: gs, (518007, ⟨2, [setR P]⟩) :: (518006, ⟨2, [z2R]⟩) :: ob⟩ := by simp [g, k]
  rw [hs2]
  exact hm2
 ·simp at hcs
end Go.Am
namespace Go.Am
open Go.RowKit
def frzPt (S : St → Option (List AV × List (Nat × Obj))) (s : St) : Option (List AV × List (Nat × Obj)) :=
 match S s with
 | some (rs, ob') => (((⟨[], ob'⟩ : St).frzs rs).map fun p => (p.1, (kill ⟨[], ob'⟩ p.2).ob))
 | none => none
theorem SpecP.frz {P : Program} {f : FuncId} {S : St → Option (List AV × List (Nat × Obj))} (h : SpecP P f S) : SpecP P f (frzPt S) := by
 intro γ B F ρ fr ob w us rs ob' hlen hal hm hf hS
 unfold frzPt at hS
 split at hS
 case h_2 => simp at hS
 rename_i rs0 ob0 h0
 simp only [Option.map_eq_some_iff, Prod.mk.injEq] at hS
 obtain ⟨⟨ds, ks⟩, hfz, rfl, rfl⟩ := hS
 refine (h γ B F ρ fr ob w us rs0 ob0 hlen hal hm hf h0).mono ?_
 rintro e w' ⟨qs, rfl, F', ρ', hm', hf', hr', hx⟩
 have hm2 : Mem B F' ρ' (⟨[], ob0⟩ : St).ob w' := hm'
 have hr2 : All2 (AR F' ρ' (⟨[], ob0⟩ : St).ob) rs0 qs := hr'
 refine ⟨qs, rfl, FrzF F' ρ' ob0 ks w', ρ', hm2.kill, fun i v hi hv => ?_, ?_, hx.trans ⟨FrzF.le, .refl _ _, fun ad u hu => FrzF.new hm' hu⟩⟩
 ·exact ((hf' i v hi hv).mono FrzF.le).sub (kill_sub ks (⟨[], ob0⟩ : St))
 ·exact (frzs_sound hm2 hfz hr2).imp fun _ _ h => AR.of_RR h
theorem frzPt_mono {S : St → Option (List AV × List (Nat × Obj))} (h : ∀ (s : St) (rs : List AV) (ob : List (Nat × Obj)) (R : List Nat), (∀ r ∈ R, GB ≤ r) → S s = some (rs, ob) → S ⟨dels R s.fr, s.ob⟩ = some (rs, ob)) (s : St) (rs : List AV) (ob : List (Nat × Obj)) (R : List Nat) (hR : ∀ r ∈ R, GB ≤ r) (hs : frzPt S s = some (rs, ob)) : frzPt S ⟨dels R s.fr, s.ob⟩ = some (rs, ob) := by
 unfold frzPt at hs ⊢
 split at hs
 case h_2 => simp at hs
 rename_i rs0 ob0 h0
 rw [h s rs0 ob0 R hR h0]
 exact hs
end Go.Am
