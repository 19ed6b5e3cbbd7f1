import Derived.Test.YtdnmppikakpdiaaLayRo
import Derived.Test.YtdnmppikakpdiaaSrg
import Derived.LoopN
import Derived.StillTailTactics
import Derived.Test.YtdnmppikakpdiaaRB
import Derived.Test.YtdnmppikakpdiaaAs
import Derived.Shelf.SlicesE.Clone
set_option maxHeartbeats 4000000
set_option maxRecDepth 10000
set_option linter.unusedVariables false
set_option linter.unusedSimpArgs false
set_option linter.unnecessarySimpa false
namespace Go.Am
open Go.Proofs Go.Shelf Go.RowKit Go.Sort
def cfSp (x y : List Int) : Int := Lib.compareInt (x.getD 0 0) (y.getD 0 0)
theorem lt_cfSp (x y : List Int) : ltOf cfSp x y = decide (x.getD 0 0 < y.getD 0 0) := by
 unfold ltOf cfSp Lib.compareInt
 generalize x.getD 0 0 = a
 generalize y.getD 0 0 = b
 by_cases h1 : a < b
 ·simp [h1]
 ·by_cases h2 : b < a <;> simp [h1, h2]
theorem swo_cfSp : SWO (ltOf cfSp) where
 irrefl x := by rw [lt_cfSp]; simp
 trans x y z h1 h2 := by rw [lt_cfSp] at *; simp only [decide_eq_true_eq] at *; omega
 ntrans x y z h1 h2 := by rw [lt_cfSp] at *; simp only [decide_eq_false_iff_not] at *; omega
set_option maxHeartbeats 1000000 in
theorem cmp_span (x y : List Int) (W : World) : Calls Try.prog fv_span_Merge_1 #[.agg (encK 2 x).toArray, .agg (encK 2 y).toArray] W fun e w' => e = .returned (.int .i64 (cfSp x y)) ∧ ∃ q os', w' = grow (W.drewN q) os' := by
 have ex : (encK 2 x).toArray = #[.int .i64 (x.getD 0 0), .int .i64 (x.getD 1 0)] := rfl
 have ey : (encK 2 y).toArray = #[.int .i64 (y.getD 0 0), .int .i64 (y.getD 1 0)] := rfl
 rw [ex, ey]
 unfold cfSp
 generalize x.getD 0 0 = a
 generalize x.getD 1 0 = b
 generalize y.getD 0 0 = c
 generalize y.getD 1 0 = d
 have hcon := fun W' => AnyG.cmp_Compare_int Try.cmpIntR a c W'
 change ∀ W', Calls Try.prog 61 _ _ _ at hcon
 generalize Lib.compareInt a c = r at hcon ⊢
 go_enter Try.func60, Try.ntmps60
 go_wp2_with (go_at_call 61; refine (hcon _).mono ?_; rintro e w' ⟨rfl, rfl⟩)
 go_ret
 rw [alloc_eq_grow, alloc_eq_grow, grow_grow]
 exact ⟨rfl, 0, _, rfl⟩
def cfoSp : CfO := fun _ x _ => match x with
 | .ot (.fn g) => if g = fv_span_Merge_1 then some cfSp else none
 | _ => none
theorem cmpOk_Sp : CmpOk Try.prog 2 cfoSp := by
 intro B F ρ ob w key x v cf o hc hm hx ho
 unfold cfoSp at hc
 split at hc
 case h_2 => simp at hc
 rename_i g
 split at hc
 case isFalse => simp at hc
 rename_i hg
 subst hg
 simp only [Option.some.injEq] at hc; subst hc
 exact ⟨swo_cfSp, _, #[], hx, enters_of Try.func60 (by kernel_rfl) rfl, fun W _ a b => cmp_span a b W⟩
def spEnv : Env := ⟨fun _ _ => none, fun f s => if f = 299 then sortGPt 2 cfoSp s else none, fun _ _ => none⟩
theorem spEnv_pt : spEnv.pt 299 = sortGPt 2 cfoSp := by funext s; simp [spEnv]
theorem sort_span : SpecP Try.prog 59 (sortGPt 2 cfoSp) :=
 sortG_specP Try.sortSpan 2 (by omega) Try.isAgg24 Try.sizeOf24 cfoSp cmpOk_Sp
theorem spEnv_ok {nm : Nat → Option Nat} {T : Tab} (h : nm 299 = some 59) : XOk Try.prog nm T spEnv where
 fn := fun f g _ _ F w ds vs rs _ _ h => by simp [spEnv] at h
 pt := fun f g hg _ => by
  by_cases hf : f = 299
  ·subst hf
   rw [h] at hg; simp only [Option.some.injEq] at hg; subst hg
   rw [spEnv_pt]; exact sort_span
  ·have : spEnv.pt f = fun _ => none := by funext s; simp [spEnv, hf]
   rw [this]; exact SpecP.none
 mono := fun f s rs ob R hR h => by
  by_cases hf : f = 299
  ·subst hf
   rw [spEnv_pt] at h ⊢
   exact sortG_mono _ _ s rs ob R hR h
  ·simp [spEnv, hf] at h
theorem sp_row (r : List D) (h : All2 WT [ctI, ctI] r) : ∃ t : Sp, r = t.cells ∧ t.Ok := by
 simp only [all2_cons, all2_nil, wt_i64] at h
 obtain ⟨_, _, rfl, ⟨a, rfl, ha⟩, _, _, rfl, ⟨b, rfl, hb⟩, rfl⟩ := h
 exact ⟨⟨a, b⟩, rfl, ⟨ha, hb⟩⟩
theorem wt_spans {d : D} (h : WT (.sl [ctI, ctI]) d) : ∃ l : List Sp, AV.c d = spL l ∧ ∀ s ∈ l, s.Ok := by
 rw [wt_sl] at h
 obtain ⟨rows, rfl, hl, h⟩ := h
 obtain ⟨ts, rfl, hts⟩ := rows_map sp_row rows h
 exact ⟨ts, rfl, hts⟩
end Go.Am
namespace Go.Am
open Go.Proofs Go.Shelf Go.RowKit
def cloneDPt (key k : Nat) (s : St) : Option (List AV × List (Nat × Obj)) :=
 match get s.fr 0, get s.fr 1 with
 | some (.c (.vs sz rows)), none => if sz = k ∧ rows.length ≤ 1000000 ∧ s.free key = true then some ([.sl key rows.length 0 rows.length], (key, ⟨k, rows.map toAV⟩) :: del s.ob key) else none
 | _, _ => none
set_option maxHeartbeats 2000000 in
set_option maxRecDepth 100000 in
theorem clone_at {P : Program} {τ : Ren} (L : SlLaysE0.n41 P τ) (i0 : TypeInfo) (z : Value) (size bytes : Nat) (hi : P.info? (τ.t 23) = some i0) (hz0 : i0.zero = some z) (hz1 : i0.size = size) (hz2 : i0.bytes = bytes) (hzs : z.cells.size = size) (hsz : 0 < size)
  (z23 : ∀ w, (Go.sizeOf (τ.t 23)).run P w = .ok size w) (ad : Addr) (n c : Nat) (news : List Value) (w : World) (hl : news.length = n * size) (hn : n ≤ maxLen) (hbig : n * bytes ≤ 140737488355328)
  (hc : ∀ j u, news[j]? = some u → w.cell? (ad.add j) = some u) (h1 : ∀ u ∈ news, u.oneCell' = true) :
  Calls P (τ.f 41) #[.slice (some ad) n c] w fun e w' => ∃ v', e = .returned v' ∧ w'.ownsRow w.heap.size (τ.t 23) size v' n news ∧ Below w.heap.size w w' := by
 have mixed := L.mixed; have t4 := L.t4; have a4 := L.a4; have z4 := L.z4; have v4 := L.v4; have t22 := L.t22; have a22 := L.a22; have z22 := L.z22; have v22 := L.v22
 have q22 : ∀ (w : World) (a : Option Addr) (n c n' c' : Nat), (binOp .eql (τ.t 22) (.slice a n c) (.slice none n' c')).run P w = .ok (.bool a.isNone) w := fun w a n c n' c' => Lib.run_eql_slice_nil w _ _ a n c n' c' L.t22
 have u22 : ∀ w, Sem.run P (underlying (τ.t 22)) w = .ok (TypeDesc.slice (τ.t 23)) w := run_underlying t22
 have A : Aside (∀ j u, news[j]? = some u → w.cell? (ad.add j) = some u) := hc
 clear hc
 obtain ⟨_, _, FG⟩ := L.f41
 go_enter FG, SlBodyN.n41_ntmps τ
 go_wp2_with (at_builtin; refine wpList_append_own _ rfl _ _ (τ.t 22) rfl w.heap.size (τ.t 23) i0 z size bytes t22 hi hz0 hz1 hz2 hzs hsz _ _ _ rfl (World.ownsRow_made w #[] 0 (Nat.le_refl _) (Nat.zero_le _) (by simp)) ad n c news rfl ?qc1 ?qc2 ?qc3 ?qc4 ?qc5 ?qc6 ?_)
 case qc1 => exact hl
 case qc2 => exact fun j u hj => Lib.cell?_alloc_some _ (A.out j u hj)
 case qc3 => exact h1
 case qc4 => rw [Nat.zero_add]; exact hn
 case qc5 => rw [Nat.zero_add]; exact hbig
 case qc6 => simp
 intro v' w1 hown hgrow hnil
 go_wp2
 go_ret
 exact ⟨v', rfl, by simpa using hown, ((Below.refl _ w).alloc (Nat.le_refl _) _).grown hgrow (by simp) (by intro k hk; simp [Value.ownBlock] at hk; omega)⟩
theorem flat_get {α : Type} (k : Nat) : ∀ (rows : List (List α)), (∀ r ∈ rows, r.length = k) → rows.flatten.length = rows.length * k ∧ ∀ (i : Nat) (r : List α) (j : Nat) (x : α), rows[i]? = some r → r[j]? = some x → rows.flatten[i * k + j]? = some x
 | [], _ => by simp
 | r0 :: rows, h => by
  obtain ⟨h1, h2⟩ := flat_get k rows fun r hr => h r (by simp [hr])
  have h0 := h r0 (by simp)
  refine ⟨by rw [List.flatten_cons, List.length_append, h1, h0, List.length_cons, Nat.add_mul, Nat.one_mul]; omega, fun i r j x hi hj => ?_⟩
  rw [List.flatten_cons]
  cases i with
  | zero =>
   simp only [List.getElem?_cons_zero, Option.some.injEq] at hi; subst hi
   have := (List.getElem?_eq_some_iff.1 hj).1
   rw [List.getElem?_append_left (by omega)]; simpa using hj
  | succ i =>
   rw [List.getElem?_cons_succ] at hi
   have e : (i + 1) * k + j = i * k + j + k := by rw [Nat.add_mul, Nat.one_mul]; omega
   rw [List.getElem?_append_right (by omega), h0, e, Nat.add_sub_cancel]
   exact h2 i r j x hi hj
theorem flat_back {α : Type} (k : Nat) : ∀ (rows : List (List α)), (∀ r ∈ rows, r.length = k) → ∀ (q : Nat) (x : α), rows.flatten[q]? = some x → ∃ i r j, rows[i]? = some r ∧ r[j]? = some x ∧ q = i * k + j
 | [], _, q, x, h => by simp at h
 | r0 :: rows, h, q, x, hq => by
  have h0 := h r0 (by simp)
  rw [List.flatten_cons] at hq
  rcases Nat.lt_or_ge q r0.length with h1 | h1
  ·rw [List.getElem?_append_left h1] at hq
   exact ⟨0, r0, q, rfl, hq, by simp⟩
  ·rw [List.getElem?_append_right h1] at hq
   obtain ⟨i, r, j, h2, h3, h4⟩ := flat_back k rows (fun r hr => h r (by simp [hr])) _ x hq
   exact ⟨i + 1, r, j, by simpa using h2, h3, by rw [Nat.add_mul, Nat.one_mul]; omega⟩
theorem clone_specP {P : Program} {τ : Ren} (L : SlLaysE0.n41 P τ) (i0 : TypeInfo) (z : Value) (k bytes : Nat) (hi : P.info? (τ.t 23) = some i0) (hz0 : i0.zero = some z) (hz1 : i0.size = k) (hz2 : i0.bytes = bytes) (hzs : z.cells.size = k) (hk : 0 < k) (hby : bytes ≤ 1000)
  (z23 : ∀ w, (Go.sizeOf (τ.t 23)).run P w = .ok k w) (key : Nat) (hkey : key < KT) : SpecP P (τ.f 41) (cloneDPt key k) := by
 intro γ B F ρ fr ob w us rs ob' hn hal hm hf h
 unfold cloneDPt at h
 split at h
 case h_2 => simp at h
 rename_i sz rows h0 h1
 simp only at h0 h1
 split at h
 case isFalse => simp at h
 rename_i hc
 obtain ⟨rfl, hlen, hfree⟩ := hc
 simp only [Option.some.injEq, Prod.mk.injEq] at h
 obtain ⟨rfl, rfl⟩ := h
 have hG : (0 : Nat) < GB := by decide
 have hMK : key < MK := Nat.lt_trans hkey (by decide)
 have hv := hf 0 _ h0
 rw [if_pos hG] at hv
 have hv : DR F (.vs sz rows) (us.getD 0 undef) := hv
 have hu : ∃ u, us = [u] ∧ us.getD 0 undef = u := by
  match us, hal, hv with
  | [], _, hv => exfalso; have hv : DR F (.vs sz rows) undef := hv; cases hv
  | [u], _, _ => exact ⟨u, rfl, rfl⟩
  | u :: v :: r, hal, _ =>
   obtain ⟨v, hv⟩ := hal 1 (by simp)
   rw [h1] at hv; simp at hv
 obtain ⟨u, rfl, hu⟩ := hu
 rw [hu] at hv
 clear hu
 have hcall : ∀ {p' : Option Place} {o' : Obj}, ∀ i v, GB ≤ i → get fr i = some v → AR F (updM ρ key p') ((⟨fr, ob⟩ : St).obj key o').ob v (γ.getD (i - GB) undef) := by
  intro p' o' i v hi hv
  have h2 := hf i v hv
  rw [if_neg (by omega)] at h2
  exact h2.upd ((free_spec hfree).1 i v hv) (fun k hk => updM_other _ hk) (fun k hk => obj_other hk)
 cases hv with
 | vs _ _ a cap ad uu hcap ha hsz hff hdd =>
  cases a with
  | none =>
   have hr : rows = [] := by
    cases rows with
    | nil => rfl
    | cons r l => have := ha (by simp); simp at this
   subst hr
   refine (AnyE.slices_Clone_nil L _ cap w).mono ?_
   rintro e w' ⟨rfl, rfl⟩
   refine ⟨[.slice none 0 0], rfl, F, updM ρ key none, hm.newBare (s := ⟨fr, ob⟩) hfree, hcall, .cons ?_ .nil, .refl _ _ _⟩
   refine ⟨hMK, fun o ho => ?_⟩
   have : get ((⟨fr, ob⟩ : St).obj key ⟨sz, []⟩).ob key = some ⟨sz, []⟩ := obj_same
   have ho : get ((⟨fr, ob⟩ : St).obj key ⟨sz, []⟩).ob key = some o := ho
   rw [this] at ho; simp only [Option.some.injEq] at ho; subst ho
   refine ⟨by simp, fun _ _ => ?_⟩
   unfold SlR
   rw [updM_same]
   exact ⟨rfl, rfl⟩
  | some a0 =>
   have hadr : rows ≠ [] → a0 = ad := fun h => by have := ha h; simpa using this
   obtain ⟨vals, hvl, hvg⟩ : ∃ vals : List (List Value), vals.length = rows.length ∧ ∀ i r, rows[i]? = some r → ∃ vs, vals[i]? = some vs ∧ vs.length = sz ∧ ∀ j x, r[j]? = some x → vs[j]? = some (uu i j) := by
    refine ⟨(List.range rows.length).map fun i => (List.range sz).map fun j => uu i j, by simp, fun i r hi => ?_⟩
    have hil := (List.getElem?_eq_some_iff.1 hi).1
    refine ⟨(List.range sz).map fun j => uu i j, by simp [hil], by simp, fun j x hj => ?_⟩
    have := hsz r (List.mem_of_getElem? hi)
    have hjl := (List.getElem?_eq_some_iff.1 hj).1
    simp [show j < sz by omega]
   have hvk : ∀ vs ∈ vals, vs.length = sz := fun vs hvs => by
    obtain ⟨i, hi⟩ := List.getElem?_of_mem hvs
    have hil := (List.getElem?_eq_some_iff.1 hi).1
    obtain ⟨vs', h1, h2, _⟩ := hvg i rows[i] (List.getElem?_eq_getElem (by omega))
    rw [hi] at h1; simp only [Option.some.injEq] at h1; subst h1; exact h2
   obtain ⟨f1, f2⟩ := flat_get sz vals hvk
   have fb := flat_back sz vals hvk
   have hcell : ∀ q v, vals.flatten[q]? = some v → w.cell? (ad.add q) = some v ∧ v.oneCell' = true := by
    intro q v hq
    obtain ⟨i, vs, j, h1, h2, rfl⟩ := fb q v hq
    have hil := (List.getElem?_eq_some_iff.1 h1).1
    have hr := List.getElem?_eq_getElem (show i < rows.length by omega)
    obtain ⟨vs', h3, h4, h5⟩ := hvg i _ hr
    rw [h1] at h3; simp only [Option.some.injEq] at h3; subst h3
    have hjl := (List.getElem?_eq_some_iff.1 h2).1
    have hrl := hsz rows[i] (List.getElem_mem _)
    have hx := List.getElem?_eq_getElem (show j < rows[i].length by omega)
    have h6 := h5 j _ hx
    rw [h2] at h6; simp only [Option.some.injEq] at h6; subst h6
    exact ⟨hm.facts _ _ (hff i _ j _ hr hx), (hdd i _ j _ hr hx).one⟩
   have hcell2 : ∀ q v, vals.flatten[q]? = some v → w.cell? (a0.add q) = some v := by
    intro q v hq
    have hr : rows ≠ [] := by
     rintro rfl
     have : vals = [] := List.eq_nil_of_length_eq_zero (by simpa using hvl)
     subst this; simp at hq
    rw [hadr hr]; exact (hcell q v hq).1
   rw [hvl] at f1
   refine (clone_at L i0 z sz bytes hi hz0 hz1 hz2 hzs hk z23 a0 rows.length cap vals.flatten w f1 (by unfold maxLen; omega) (by have := Nat.mul_le_mul hlen hby; omega) hcell2 (fun u hu => by
    obtain ⟨q, hq⟩ := List.getElem?_of_mem hu
    exact (hcell q u hq).2)).mono ?_
   rintro e w' ⟨v', rfl, ⟨_, hown⟩, hbel⟩
   rcases hown with ⟨rfl, hn0⟩ | ⟨g, cap', cur, rfl, hg, hhg, hcap', _, hcs, htk⟩
   ·have hr0 : rows = [] := List.eq_nil_of_length_eq_zero hn0
    subst hr0
    refine ⟨[.slice none 0 0], rfl, F, updM ρ key none, ?_, hcall, (.cons ?_ .nil), ⟨.refl F, hbel.mono hm.big, fun _ _ h => .inl h⟩⟩
    ·exact (hm.below hbel).newBare (s := ⟨fr, ob⟩) hfree
    ·refine ⟨hMK, fun o ho => ?_⟩
     have : get ((⟨fr, ob⟩ : St).obj key ⟨sz, []⟩).ob key = some ⟨sz, []⟩ := obj_same
     have ho : get ((⟨fr, ob⟩ : St).obj key ⟨sz, []⟩).ob key = some o := ho
     rw [this] at ho; simp only [Option.some.injEq] at ho; subst ho
     refine ⟨by simp, fun _ _ => ?_⟩
     unfold SlR
     rw [updM_same]
     exact ⟨rfl, rfl⟩
   ·have hgB : B ≤ g := Nat.le_trans hm.big hg
    have hsz0 : (rows.map toAV).length = rows.length := by simp
    have hm1 : Mem B F ρ (⟨fr, ob⟩ : St).ob w := hm
    have hT : ∀ k o, k ≠ key → get ob k = some o → ∀ r ∈ o.rows, ∀ x ∈ r, ∀ v, AR F ρ ob x v → AR F (updM ρ key (some ⟨g, sz, cap', 0⟩)) ((⟨fr, ob⟩ : St).obj key ⟨sz, rows.map toAV⟩).ob x v := fun k o hk ho r hr x hx v hv => hv.upd ((free_spec hfree).2 k o hk ho r hr x hx) (fun k hk => updM_other _ hk) (fun k hk => obj_other hk)
    have hMem := Mem.change0 (s := ⟨fr, ob⟩) (o' := ⟨sz, rows.map toAV⟩) (g := g) (sz := sz) (cap := cap') (et := τ.t 23) (w' := w') hMK (fun h => by omega) hm1 hgB (.inr hg) hbel.size (fun k hk _ => hbel.block k hk) hhg hcs (by rw [hsz0]; exact hcap') rfl (fun r hr => by
     obtain ⟨r', hr', rfl⟩ := List.mem_map.1 hr
     simp [toAV, hsz r' hr']) hT (fun i r j x hi hj => by
     simp only [List.getElem?_map, Option.map_eq_some_iff] at hi
     obtain ⟨r', hr', rfl⟩ := hi
     simp only [toAV, List.getElem?_map, Option.map_eq_some_iff] at hj
     obtain ⟨d, hd, rfl⟩ := hj
     obtain ⟨vs, h2, h3, h4⟩ := hvg i r' hr'
     have h5 := f2 i vs j _ h2 (h4 j d hd)
     refine ⟨rfl, uu i j, ?_, hdd i r' j d hr' hd⟩
     have hlt := (List.getElem?_eq_some_iff.1 h5).1
     rw [← htk] at h5
     rw [List.getElem?_take] at h5
     split at h5
     ·simpa using h5
     ·simp at h5)
    refine ⟨[.slice (some ⟨g, 0, none⟩) rows.length cap'], rfl, F, updM ρ key (some ⟨g, sz, cap', 0⟩), hMem, hcall, (.cons ?_ .nil), ⟨.refl F, hbel.mono hm.big, fun _ _ h => .inl h⟩⟩
    exact sl_ar (ob' := ((⟨fr, ob⟩ : St).obj key ⟨sz, rows.map toAV⟩).ob) hMK (p := ⟨g, sz, cap', 0⟩) hsz0 obj_same (updM_same _ _) hcap'
theorem clone_mono (key k : Nat) (s : St) (rs : List AV) (ob : List (Nat × Obj)) (R : List Nat) (hR : ∀ r ∈ R, GB ≤ r) (h : cloneDPt key k s = some (rs, ob)) : cloneDPt key k ⟨dels R s.fr, s.ob⟩ = some (rs, ob) := by
 have hG : (1 : Nat) < GB := by decide
 have e0 : get (dels R s.fr) 0 = get s.fr 0 := by rw [get_dels, if_neg fun h => by have := hR _ h; omega]
 have e1 : get (dels R s.fr) 1 = get s.fr 1 := by rw [get_dels, if_neg fun h => by have := hR _ h; omega]
 unfold cloneDPt at h ⊢
 simp only [e0, e1]
 split at h
 ·rename_i sz rows h0 h1
  (try rw [h0, h1])
  (try simp only)
  split at h
  ·rename_i hc
   rw [if_pos ⟨hc.1, hc.2.1, free_less R hc.2.2⟩]; exact h
  ·simp at h
 ·simp at h
end Go.Am
namespace Go.Am
open Go.Proofs Go.Shelf Go.Sort
def spI (s : Sp) : List Int := [s.f, s.t]
def toSp (z : List Int) : Sp := ⟨z.getD 0 0, z.getD 1 0⟩
theorem row_sp {z : List Int} (h : z.length = 2) : rowI z = toAV (toSp z).cells ∧ spI (toSp z) = z := by
 match z, h with
 | [a, b], _ => exact ⟨rfl, rfl⟩
def srtSp (l : List Sp) : List Sp := (resF (ltOf cfSp) (l.map spI)).map toSp
theorem srtSp_len2 (l : List Sp) : ∀ z ∈ resF (ltOf cfSp) (l.map spI), z.length = 2 := fun z hz => by
 have := (resF_perm swo_cfSp (l.map spI)).mem_iff.1 hz
 obtain ⟨s, _, rfl⟩ := List.mem_map.1 this
 rfl
theorem srtSp_rows (l : List Sp) : (resF (ltOf cfSp) (l.map spI)).map rowI = oR (srtSp l) := by
 unfold srtSp oR
 rw [List.map_map]
 exact List.map_congr_left fun z hz => (row_sp (srtSp_len2 l z hz)).1
theorem srtSp_perm (l : List Sp) : (srtSp l).Perm l := by
 have h := (resF_perm swo_cfSp (l.map spI)).map toSp
 rw [List.map_map] at h
 have e : l.map (toSp ∘ spI) = l := by
  conv => rhs; rw [← List.map_id l]
  exact List.map_congr_left fun s _ => rfl
 rw [e] at h
 exact h
theorem srtSp_sorted (l : List Sp) : (srtSp l).Pairwise fun a b => a.f ≤ b.f := by
 unfold srtSp
 rw [List.pairwise_map]
 refine (resF_sorted swo_cfSp (l.map spI)).imp fun {a b} h => ?_
 rw [lt_cfSp] at h
 simp only [decide_eq_false_iff_not] at h
 show a.getD 0 0 ≤ b.getD 0 0
 omega
theorem hasS_perm {a b : List Sp} (h : a.Perm b) (n : Int) : HasS a n ↔ HasS b n := by
 unfold HasS
 exact ⟨fun ⟨s, hs, k⟩ => ⟨s, h.mem_iff.1 hs, k⟩, fun ⟨s, hs, k⟩ => ⟨s, h.mem_iff.2 hs, k⟩⟩
structure MInv (m : List Sp) (k : Nat) (out : List Sp) : Prop where
 ro : SRight out
 ok : ∀ s ∈ out, s.Ok
 lo : ∀ x ∈ out, ∀ y ∈ m.drop k, x.f ≤ y.f
 has : ∀ n, HasS out n ↔ HasS (m.take k) n
 len : out.length ≤ k
theorem MInv.skip {m out : List Sp} {k : Nat} (h : MInv m k out) (hk : k < m.length) (hs : m[k].t ≤ m[k].f) : MInv m (k + 1) out where
 ro := h.ro
 ok := h.ok
 lo := fun x hx y hy => h.lo x hx y (by rw [List.drop_eq_getElem_cons hk]; exact List.mem_cons_of_mem _ hy)
 has := fun n => by
  rw [h.has, List.take_succ_eq_append_getElem hk, hasS_app, hasS_cons, hasS_nil, or_false]
  constructor
  ·exact .inl
  ·rintro (h1 | h1)
   ·exact h1
   ·omega
 len := by have := h.len; omega
theorem MInv.app {m out : List Sp} {k : Nat} (h : MInv m k out) (hk : k < m.length) (hsrt : m.Pairwise fun a b => a.f ≤ b.f) (ho : m[k].Ok) (hs : m[k].f < m[k].t) (hf : ∀ x ∈ out, x.t < m[k].f) : MInv m (k + 1) (out ++ [m[k]]) where
 ro := h.ro.snoc hs hf
 ok := fun s hm => by
  simp only [List.mem_append, List.mem_singleton] at hm
  rcases hm with hm | rfl
  ·exact h.ok s hm
  ·exact ho
 lo := fun x hx y hy => by
  simp only [List.mem_append, List.mem_singleton] at hx
  rcases hx with hx | rfl
  ·exact h.lo x hx y (by rw [List.drop_eq_getElem_cons hk]; exact List.mem_cons_of_mem _ hy)
  ·have := hsrt
   rw [← List.take_append_drop k m, List.drop_eq_getElem_cons hk] at this
   exact (List.pairwise_cons.1 (List.pairwise_append.1 this).2.1).1 y hy
 has := fun n => by
  rw [hasS_app, h.has, List.take_succ_eq_append_getElem hk, hasS_app]
 len := by have := h.len; simp; omega
theorem MInv.grow {m o : List Sp} {u : Sp} {k : Nat} (h : MInv m k (o ++ [u])) (hk : k < m.length) (ho : m[k].Ok) (hs : m[k].f ≤ u.t) (hs2 : m[k].f < m[k].t) : MInv m (k + 1) (o ++ [⟨u.f, max u.t m[k].t⟩]) where
 ro := by
  obtain ⟨h1, h2, h3⟩ := h.ro.of_app
  have := h2.some u (by simp)
  exact h1.snoc (by simp only; omega) fun x hx => h3 x hx u (by simp)
 ok := fun s hm => by
  simp only [List.mem_append, List.mem_singleton] at hm
  have hu := h.ok u (by simp)
  rcases hm with hm | rfl
  ·exact h.ok s (by simp [hm])
  ·refine ⟨hu.f, ?_⟩
   obtain ⟨_, h1, h2⟩ := hu
   obtain ⟨_, h3, h4⟩ := ho
   exact ⟨by simp only; omega, by simp only; omega⟩
 lo := fun x hx y hy => by
  have hy' : y ∈ m.drop k := by rw [List.drop_eq_getElem_cons hk]; exact List.mem_cons_of_mem _ hy
  simp only [List.mem_append, List.mem_singleton] at hx
  rcases hx with hx | rfl
  ·exact h.lo x (by simp [hx]) y hy'
  ·exact h.lo u (by simp) y hy'
 has := fun n => by
  have h1 := h.has n
  rw [List.take_succ_eq_append_getElem hk, hasS_app o, hasS_app (List.take k m), ← h1, hasS_app o, hasS_cons, hasS_nil, hasS_cons, hasS_nil, hasS_cons, hasS_nil]
  have hl := h.lo u (by simp) m[k] (by rw [List.drop_eq_getElem_cons hk]; exact List.mem_cons_self)
  simp only [or_false]
  constructor
  ·rintro (h2 | ⟨h2, h3⟩)
   ·exact .inl (.inl h2)
   ·rcases Int.lt_or_le n u.t with h4 | h4
    ·exact .inl (.inr ⟨h2, h4⟩)
    ·exact .inr ⟨by omega, by omega⟩
  ·rintro ((h2 | h2) | h2)
   ·exact .inl h2
   ·exact .inr ⟨h2.1, by omega⟩
   ·exact .inr ⟨by omega, by omega⟩
 len := by have := h.len; simp at this ⊢; omega
def MergeC (g : List AV → Option (List AV)) : Prop := ∀ l : List Sp, l.length ≤ 1000 → (∀ s ∈ l, s.Ok) → ∃ o : List Sp, g [spL l] = some [spL o] ∧ SRight o ∧ (∀ s ∈ o, s.Ok) ∧ o.length ≤ l.length ∧ ∀ n, HasS o n ↔ HasS l n
structure MgX (Γ : Env) : Prop where
 clone : Γ.pt 368 = cloneDPt 368005 2
 sort : Γ.pt 299 = sortGPt 2 cfoSp
theorem rowsI_oR (l : List Sp) : rowsI 2 (oR l) = some (l.map spI) := rowsI_map 2 spI (fun _ => rfl) l
theorem span_Merge_run (Γ : Env) (M : Nat) (hM : 1100 < M) (hX : MgX Γ) : MergeC (run Γ M span_Merge_f) := by
 intro l hl hok
 obtain ⟨m, hm⟩ : ∃ m, srtSp l = m := ⟨_, rfl⟩
 have hperm : m.Perm l := hm ▸ srtSp_perm l
 have hsrt : m.Pairwise fun a b => a.f ≤ b.f := hm ▸ srtSp_sorted l
 have hml : m.length = l.length := hperm.length_eq
 have hmo : ∀ s ∈ m, s.Ok := fun s hs => hok s (hperm.mem_iff.1 hs)
 have hrm := oR_len m
 obtain ⟨ax, s', ⟨o, rfl, rfl, ho⟩, hin⟩ : ∃ ax s', (∃ o : List Sp, ax = .ex 0 ∧ s' = ⟨[(4, .sl 4 o.length 0 o.length)], [(4, ⟨2, oR o⟩), (368005, ⟨2, oR m⟩)]⟩ ∧ MInv m m.length o) ∧ ∀ t, nrmP [4, 12, 13, 14] 0 1000 [4, 55] t = ⟨[(4, .sl 4 ([] : List Sp).length 0 ([] : List Sp).length), (12, .sl 368005 m.length 0 m.length), (13, i64 m.length), (14, i64 (0 : Nat))], [(4, ⟨2, oR []⟩), (368005, ⟨2, oR m⟩)]⟩ → lp (exec Γ M span_Merge_l1) M t = some (ax, s') := by
  refine lp_allP (fun q : Nat × List Sp => ⟨[(4, .sl 4 q.2.length 0 q.2.length), (12, .sl 368005 m.length 0 m.length), (13, i64 m.length), (14, i64 q.1)], [(4, ⟨2, oR q.2⟩), (368005, ⟨2, oR m⟩)]⟩) (fun q => q.1 ≤ m.length ∧ MInv m q.1 q.2) (fun q => m.length - q.1) _ (0, []) M ⟨by simp, .nil, by simp, by simp, fun n => by simp [HasS], by simp⟩ (by dsimp only; omega) ?_
  rintro ⟨k, out⟩ ⟨hk, h⟩
  dsimp only at hk h ⊢
  have hrl := oR_len out
  have hlen := h.len
  have hlc : lcRows 4 (oR out) = true := lcRows_comp 4 Sp.cells out
  have hlm : lcRows 4 (oR m) = true := lcRows_comp 4 Sp.cells m
  have hnm : nmRows 6 (oR out) = true := nmRows_comp 6 Sp.cells out
  have hnm2 : nmRows 6 (oR m) = true := nmRows_comp 6 Sp.cells m
  by_cases hlt : k < m.length
  ·obtain ⟨s, hs⟩ : ∃ t, m[k]'hlt = t := ⟨_, rfl⟩
   have hso := hmo s (hs ▸ List.getElem_mem hlt)
   have hrow : (oR m)[k]? = some [i64 s.f, i64 s.t] := by unfold oR; rw [List.getElem?_map, List.getElem?_eq_getElem hlt, hs]; rfl
   have hrow2 := (List.getElem?_eq_some_iff.1 hrow).2
   by_cases c1 : s.t ≤ s.f
   ·have h1 := h.skip hlt (by rw [hs]; exact c1)
    simp -implicitDefEqProofs (disch := first | omega | (simp <;> fail) | assumption) [hlt, hrm, hrl, hrow, hrow2, hlc, hlm, hnm, hnm2, c1]
    exact ⟨k + 1, out, ⟨⟨rfl, by omega⟩, rfl⟩, ⟨by omega, h1⟩, by omega⟩
   ·rcases List.eq_nil_or_concat out with rfl | ⟨o', u, rfl⟩
    ·have h1 := h.app hlt hsrt (by rw [hs]; exact hso) (by rw [hs]; omega) (by simp)
     rw [hs] at h1
     have e0 : oR [] = [] := rfl
     simp -implicitDefEqProofs (disch := first | omega | (simp <;> fail) | assumption) [hlt, hrm, hrl, hrow, hrow2, hlc, hlm, hnm, hnm2, c1, e0]
     exact ⟨k + 1, [s], ⟨⟨rfl, by omega⟩, rfl⟩, ⟨by omega, h1⟩, by omega⟩
    ·rw [List.concat_eq_append] at *
     have hol : (o' ++ [u]).length = o'.length + 1 := by simp
     have hget : (oR (o' ++ [u]))[o'.length]? = some [i64 u.f, i64 u.t] := by unfold oR; rw [List.getElem?_map, List.getElem?_append_right (by omega), Nat.sub_self]; rfl
     have hget2 := (List.getElem?_eq_some_iff.1 hget).2
     rw [hol] at hrl hlen ⊢
     by_cases c2 : s.f ≤ u.t
     ·have h1 := h.grow hlt (by rw [hs]; exact hso) (by rw [hs]; exact c2) (by rw [hs]; omega)
      rw [hs] at h1
      have hset : (oR (o' ++ [u])).set o'.length [i64 u.f, i64 (max u.t s.t)] = oR (o' ++ [⟨u.f, max u.t s.t⟩]) := by
       unfold oR; rw [List.map_append, List.map_append, List.set_append_right _ _ (by simp)]; simp [toAV, Sp.cells]
      have e2 : (if u.t < s.t then s.t else u.t) = max u.t s.t := by split <;> omega
      simp -implicitDefEqProofs (disch := first | omega | (simp <;> fail) | assumption) [hlt, hrm, hrl, hrow, hrow2, hlc, hlm, hnm, hnm2, c1, c2, hget, hget2, e2]
      refine ⟨k + 1, _, ⟨⟨?_, by omega⟩, ?_⟩, ⟨by omega, h1⟩, by omega⟩
      ·simp
      ·rw [← hset, List.set_eq_take_append_cons_drop, if_pos (by omega)]
     ·have hright := h.ro
      have h1 := h.app hlt hsrt (by rw [hs]; exact hso) (by rw [hs]; omega) (fun x hx => by
       rw [hs]
       simp only [List.mem_append, List.mem_singleton] at hx
       obtain ⟨_, h4, h5⟩ := hright.of_app
       rcases hx with hx | rfl
       ·have := h5 x hx u (by simp)
        have := h4.some u (by simp); omega
       ·omega)
      rw [hs] at h1
      have hap : oR (o' ++ [u]) ++ [[i64 s.f, i64 s.t]] = oR (o' ++ [u] ++ [s]) := by unfold oR; rw [List.map_append (l₁ := o' ++ [u])]; rfl
      simp -implicitDefEqProofs (disch := first | omega | (simp <;> fail) | assumption) [hlt, hrm, hrl, hrow, hrow2, hlc, hlm, hnm, hnm2, c1, c2, hget, hget2]
      refine ⟨k + 1, _, ⟨⟨?_, by omega⟩, hap⟩, ⟨by omega, h1⟩, by omega⟩
      simp
  ·obtain rfl : k = m.length := by omega
   simp -implicitDefEqProofs (disch := first | omega | (simp <;> fail) | assumption) [hrl, hrm]
   exact ⟨out, ⟨rfl, rfl⟩, h⟩
 have hlp : ∀ t, nrmP [4, 12, 13, 14] 0 1000 [4, 55] t = ⟨[(4, .sl 4 0 0 0), (12, .sl 368005 m.length 0 m.length), (13, i64 m.length), (14, i64 0)], [(4, ⟨2, []⟩), (368005, ⟨2, oR m⟩)]⟩ → lp (exec Γ M span_Merge_l1) M t = some (.ex 0, ⟨[(4, .sl 4 o.length 0 o.length)], [(4, ⟨2, oR o⟩), (368005, ⟨2, oR m⟩)]⟩) := hin
 have hlen := ho.len
 refine ⟨o, ?_, ho.ro, ho.ok, by omega, fun n => by rw [ho.has, List.take_length]; exact hasS_perm hperm n⟩
 have hall := allRows_comp Sp.cells o
 have hrl := oR_len o
 have hF := List.take_of_length_le (i := o.length) (l := o.map Sp.cells) (by simp)
 rw [show List.map (toAV ∘ Sp.cells) o = oR o from rfl] at hall
 have hcl : ∀ gs, Gh gs → nmFr 368005 gs = true → Γ.pt 368 ⟨(0, spL l) :: gs, []⟩ = some ([.sl 368005 m.length 0 m.length], [(368005, ⟨2, oR l⟩)]) := by
  intro gs hg hn
  rw [hX.clone]
  have hfr : St.free ⟨(0, spL l) :: gs, []⟩ 368005 = true := by rw [free_eq]; simp [hn]
  have e1 : l.map (toAV ∘ Sp.cells) = oR l := rfl
  have g1 : get gs 1 = none := Gh.get hg (by omega)
  have h6 : l.length ≤ 1000000 := by omega
  simp [cloneDPt, g1, hfr, hml, e1, h6, hn]
 have hso : ∀ gs, Gh gs → Γ.pt 299 ⟨(0, .sl 368005 m.length 0 m.length) :: (1, .ot (.fn fv_span_Merge_1)) :: gs, [(368005, ⟨2, oR l⟩)]⟩ = some ([], [(368005, ⟨2, oR m⟩)]) := by
  intro gs hg
  rw [hX.sort]
  have hol := oR_len l
  have hsr := srtSp_rows l
  rw [hm] at hsr
  have g1 : get gs 2 = none := Gh.get hg (by omega)
  simp [sortGPt, cfoSp, g1, hol, hml, rowsI_oR, hsr]
  omega
 simp only [fv_span_Merge_1] at hso
 have hn4 : nmRows 4 (oR m) = true := nmRows_comp 4 Sp.cells m
 generalize hG : oR o = G at *
 generalize hK : o.map Sp.cells = K at *
 simp -implicitDefEqProofs (disch := first | omega | (simp <;> fail) | assumption) [hlp, hall, hrl, hF, hK, hcl, hso, hn4, hrm]
def okAt (l : List Sp) (i : Nat) : Bool := decide ((l.getD i ⟨0, 0⟩).f < (l.getD i ⟨0, 0⟩).t) && (decide (i = 0) || decide ((l.getD (i - 1) ⟨0, 0⟩).t < (l.getD i ⟨0, 0⟩).f))
def rB (l : List Sp) : Bool := (List.range l.length).all (okAt l)
theorem rB_right {l : List Sp} (h : SRight l) : rB l = true := by
 unfold rB
 rw [List.all_eq_true]
 intro i hi
 rw [List.mem_range] at hi
 have e : ∀ j (hj : j < l.length), l.getD j ⟨0, 0⟩ = l[j] := fun j hj => by rw [List.getD_eq_getElem?_getD, List.getElem?_eq_getElem hj]; rfl
 unfold okAt
 rw [e i hi]
 have := h.some l[i] (List.getElem_mem hi)
 rcases Nat.eq_zero_or_pos i with h0 | h0
 ·simp [h0]; simpa [h0] using this
 ·rw [e (i - 1) (by omega)]
  have := List.pairwise_iff_getElem.1 h.apart (i - 1) i (by omega) hi (by omega)
  simp [*]
theorem rB_loop {l : List Sp} {k : Nat} (hk : k < l.length) (hall : ∀ j, j < k → okAt l j = true) : (okAt l k = false → rB l = false) ∧ (okAt l k = true → ∀ j, j < k + 1 → okAt l j = true) := by
 refine ⟨fun h => ?_, fun h j hj => ?_⟩
 ·unfold rB
  rw [← Bool.not_eq_true, List.all_eq_true]
  intro h2
  have := h2 k (List.mem_range.2 hk)
  rw [h] at this; simp at this
 ·rcases Nat.lt_or_ge j k with h1 | h1
  ·exact hall j h1
  ·obtain rfl : j = k := by omega
   exact h
def mgEnv : Env := ⟨fun _ _ => none, fun f s => if f = 299 then sortGPt 2 cfoSp s else if f = 368 then cloneDPt 368005 2 s else none, fun _ _ => none⟩
theorem mgEnv_pt : mgEnv.pt 299 = sortGPt 2 cfoSp := by funext s; simp [mgEnv]
theorem mgEnv_pt2 : mgEnv.pt 368 = cloneDPt 368005 2 := by funext s; simp [mgEnv]
theorem clone_span : SpecP Try.prog 58 (cloneDPt 368005 2) :=
 clone_specP Try.cloneSpan Try.t24 (.agg #[.int .i64 0, .int .i64 0]) 2 16 (by kernel_rfl) (by kernel_rfl) (by kernel_rfl) (by kernel_rfl) (by kernel_rfl) (by omega) (by omega) Try.sizeOf24 368005 (by decide)
theorem mgEnv_ok {nm : Nat → Option Nat} {T : Tab} (h : nm 299 = some 59) (h2 : nm 368 = some 58) : XOk Try.prog nm T mgEnv where
 fn := fun f g _ _ F w ds vs rs _ _ h => by simp [mgEnv] at h
 pt := fun f g hg _ => by
  by_cases hf : f = 299
  ·subst hf
   rw [h] at hg; simp only [Option.some.injEq] at hg; subst hg
   rw [mgEnv_pt]; exact sort_span
  ·by_cases hf2 : f = 368
   ·subst hf2
    rw [h2] at hg; simp only [Option.some.injEq] at hg; subst hg
    rw [mgEnv_pt2]; exact clone_span
   ·have : mgEnv.pt f = fun _ => none := by funext s; simp [mgEnv, hf, hf2]
    rw [this]; exact SpecP.none
 mono := fun f s rs ob R hR h => by
  by_cases hf : f = 299
  ·subst hf
   rw [mgEnv_pt] at h ⊢
   exact sortG_mono _ _ s rs ob R hR h
  ·by_cases hf2 : f = 368
   ·subst hf2
    rw [mgEnv_pt2] at h ⊢
    exact clone_mono _ _ s rs ob R hR h
   ·simp [mgEnv, hf, hf2] at h
end Go.Am
namespace Go.Am
open Go.Proofs Go.Shelf Go.Sort
def MergeP_C (g : St → Option (List AV × List (Nat × Obj))) : Prop := ∀ l : List Sp, l.length ≤ 1000 → (∀ s ∈ l, s.Ok) → ∃ o m : List Sp, g ⟨[(0, spL l)], []⟩ = some ([.sl 737004 o.length 0 o.length], [(737004, ⟨2, oR o⟩), (368005, ⟨2, oR m⟩)]) ∧ SRight o ∧ (∀ s ∈ o, s.Ok) ∧ o.length ≤ l.length ∧ ∀ n, HasS o n ↔ HasS l n
theorem span_Merge_P_run (Γ : Env) (M : Nat) (hM : 1100 < M) (hX : MgX Γ) : MergeP_C (runP Γ M span_Merge_P_f) := by
 intro l hl hok
 obtain ⟨m, hm⟩ : ∃ m, srtSp l = m := ⟨_, rfl⟩
 have hperm : m.Perm l := hm ▸ srtSp_perm l
 have hsrt : m.Pairwise fun a b => a.f ≤ b.f := hm ▸ srtSp_sorted l
 have hml : m.length = l.length := hperm.length_eq
 have hmo : ∀ s ∈ m, s.Ok := fun s hs => hok s (hperm.mem_iff.1 hs)
 have hrm := oR_len m
 obtain ⟨ax, s', ⟨o, rfl, rfl, ho⟩, hin⟩ : ∃ ax s', (∃ o : List Sp, ax = .ex 0 ∧ s' = ⟨[(4, .sl 737004 o.length 0 o.length)], [(737004, ⟨2, oR o⟩), (368005, ⟨2, oR m⟩)]⟩ ∧ MInv m m.length o) ∧ ∀ t, nrmP [4, 12, 13, 14] 737000 738000 [737004, 737055] t = ⟨[(4, .sl 737004 ([] : List Sp).length 0 ([] : List Sp).length), (12, .sl 368005 m.length 0 m.length), (13, i64 m.length), (14, i64 (0 : Nat))], [(737004, ⟨2, oR []⟩), (368005, ⟨2, oR m⟩)]⟩ → lp (exec Γ M span_Merge_P_l1) M t = some (ax, s') := by
  refine lp_allP (fun q : Nat × List Sp => ⟨[(4, .sl 737004 q.2.length 0 q.2.length), (12, .sl 368005 m.length 0 m.length), (13, i64 m.length), (14, i64 q.1)], [(737004, ⟨2, oR q.2⟩), (368005, ⟨2, oR m⟩)]⟩) (fun q => q.1 ≤ m.length ∧ MInv m q.1 q.2) (fun q => m.length - q.1) _ (0, []) M ⟨by simp, .nil, by simp, by simp, fun n => by simp [HasS], by simp⟩ (by dsimp only; omega) ?_
  rintro ⟨k, out⟩ ⟨hk, h⟩
  dsimp only at hk h ⊢
  have hrl := oR_len out
  have hlen := h.len
  have hlc : lcRows 737004 (oR out) = true := lcRows_comp 737004 Sp.cells out
  have hlm : lcRows 737004 (oR m) = true := lcRows_comp 737004 Sp.cells m
  have hnm : nmRows 737006 (oR out) = true := nmRows_comp 737006 Sp.cells out
  have hnm2 : nmRows 737006 (oR m) = true := nmRows_comp 737006 Sp.cells m
  by_cases hlt : k < m.length
  ·obtain ⟨s, hs⟩ : ∃ t, m[k]'hlt = t := ⟨_, rfl⟩
   have hso := hmo s (hs ▸ List.getElem_mem hlt)
   have hrow : (oR m)[k]? = some [i64 s.f, i64 s.t] := by unfold oR; rw [List.getElem?_map, List.getElem?_eq_getElem hlt, hs]; rfl
   have hrow2 := (List.getElem?_eq_some_iff.1 hrow).2
   by_cases c1 : s.t ≤ s.f
   ·have h1 := h.skip hlt (by rw [hs]; exact c1)
    simp -implicitDefEqProofs (disch := first | omega | (simp <;> fail) | assumption) [hlt, hrm, hrl, hrow, hrow2, hlc, hlm, hnm, hnm2, c1]
    exact ⟨k + 1, out, ⟨⟨rfl, by omega⟩, rfl⟩, ⟨by omega, h1⟩, by omega⟩
   ·rcases List.eq_nil_or_concat out with rfl | ⟨o', u, rfl⟩
    ·have h1 := h.app hlt hsrt (by rw [hs]; exact hso) (by rw [hs]; omega) (by simp)
     rw [hs] at h1
     have e0 : oR [] = [] := rfl
     simp -implicitDefEqProofs (disch := first | omega | (simp <;> fail) | assumption) [hlt, hrm, hrl, hrow, hrow2, hlc, hlm, hnm, hnm2, c1, e0]
     exact ⟨k + 1, [s], ⟨⟨rfl, by omega⟩, rfl⟩, ⟨by omega, h1⟩, by omega⟩
    ·rw [List.concat_eq_append] at *
     have hol : (o' ++ [u]).length = o'.length + 1 := by simp
     have hget : (oR (o' ++ [u]))[o'.length]? = some [i64 u.f, i64 u.t] := by unfold oR; rw [List.getElem?_map, List.getElem?_append_right (by omega), Nat.sub_self]; rfl
     have hget2 := (List.getElem?_eq_some_iff.1 hget).2
     rw [hol] at hrl hlen ⊢
     by_cases c2 : s.f ≤ u.t
     ·have h1 := h.grow hlt (by rw [hs]; exact hso) (by rw [hs]; exact c2) (by rw [hs]; omega)
      rw [hs] at h1
      have hset : (oR (o' ++ [u])).set o'.length [i64 u.f, i64 (max u.t s.t)] = oR (o' ++ [⟨u.f, max u.t s.t⟩]) := by
       unfold oR; rw [List.map_append, List.map_append, List.set_append_right _ _ (by simp)]; simp [toAV, Sp.cells]
      have e2 : (if u.t < s.t then s.t else u.t) = max u.t s.t := by split <;> omega
      simp -implicitDefEqProofs (disch := first | omega | (simp <;> fail) | assumption) [hlt, hrm, hrl, hrow, hrow2, hlc, hlm, hnm, hnm2, c1, c2, hget, hget2, e2]
      refine ⟨k + 1, _, ⟨⟨?_, by omega⟩, ?_⟩, ⟨by omega, h1⟩, by omega⟩
      ·simp
      ·rw [← hset, List.set_eq_take_append_cons_drop, if_pos (by omega)]
     ·have hright := h.ro
      have h1 := h.app hlt hsrt (by rw [hs]; exact hso) (by rw [hs]; omega) (fun x hx => by
       rw [hs]
       simp only [List.mem_append, List.mem_singleton] at hx
       obtain ⟨_, h4, h5⟩ := hright.of_app
       rcases hx with hx | rfl
       ·have := h5 x hx u (by simp)
        have := h4.some u (by simp); omega
       ·omega)
      rw [hs] at h1
      have hap : oR (o' ++ [u]) ++ [[i64 s.f, i64 s.t]] = oR (o' ++ [u] ++ [s]) := by unfold oR; rw [List.map_append (l₁ := o' ++ [u])]; rfl
      simp -implicitDefEqProofs (disch := first | omega | (simp <;> fail) | assumption) [hlt, hrm, hrl, hrow, hrow2, hlc, hlm, hnm, hnm2, c1, c2, hget, hget2]
      refine ⟨k + 1, _, ⟨⟨?_, by omega⟩, hap⟩, ⟨by omega, h1⟩, by omega⟩
      simp
  ·obtain rfl : k = m.length := by omega
   simp -implicitDefEqProofs (disch := first | omega | (simp <;> fail) | assumption) [hrl, hrm]
   exact ⟨out, ⟨rfl, rfl⟩, h⟩
 have hlp : ∀ t, nrmP [4, 12, 13, 14] 737000 738000 [737004, 737055] t = ⟨[(4, .sl 737004 0 0 0), (12, .sl 368005 m.length 0 m.length), (13, i64 m.length), (14, i64 0)], [(737004, ⟨2, []⟩), (368005, ⟨2, oR m⟩)]⟩ → lp (exec Γ M span_Merge_P_l1) M t = some (.ex 0, ⟨[(4, .sl 737004 o.length 0 o.length)], [(737004, ⟨2, oR o⟩), (368005, ⟨2, oR m⟩)]⟩) := hin
 have hlen := ho.len
 refine ⟨o, m, ?_, ho.ro, ho.ok, by omega, fun n => by rw [ho.has, List.take_length]; exact hasS_perm hperm n⟩
 have hall := allRows_comp Sp.cells o
 have hrl := oR_len o
 have hF := List.take_of_length_le (i := o.length) (l := o.map Sp.cells) (by simp)
 rw [show List.map (toAV ∘ Sp.cells) o = oR o from rfl] at hall
 have hcl : ∀ gs, Gh gs → nmFr 368005 gs = true → Γ.pt 368 ⟨(0, spL l) :: gs, []⟩ = some ([.sl 368005 m.length 0 m.length], [(368005, ⟨2, oR l⟩)]) := by
  intro gs hg hn
  rw [hX.clone]
  have hfr : St.free ⟨(0, spL l) :: gs, []⟩ 368005 = true := by rw [free_eq]; simp [hn]
  have e1 : l.map (toAV ∘ Sp.cells) = oR l := rfl
  have g1 : get gs 1 = none := Gh.get hg (by omega)
  have h6 : l.length ≤ 1000000 := by omega
  simp [cloneDPt, g1, hfr, hml, e1, h6, hn]
 have hso : ∀ gs, Gh gs → Γ.pt 299 ⟨(0, .sl 368005 m.length 0 m.length) :: (1, .ot (.fn fv_span_Merge_1)) :: gs, [(368005, ⟨2, oR l⟩)]⟩ = some ([], [(368005, ⟨2, oR m⟩)]) := by
  intro gs hg
  rw [hX.sort]
  have hol := oR_len l
  have hsr := srtSp_rows l
  rw [hm] at hsr
  have g1 : get gs 2 = none := Gh.get hg (by omega)
  simp [sortGPt, cfoSp, g1, hol, hml, rowsI_oR, hsr]
  omega
 simp only [fv_span_Merge_1] at hso
 have hn4 : nmRows 737004 (oR m) = true := nmRows_comp 737004 Sp.cells m
 generalize hG : oR o = G at *
 generalize hK : o.map Sp.cells = K at *
 simp -implicitDefEqProofs (disch := first | omega | (simp <;> fail) | assumption) [hlp, hall, hrl, hF, hK, hcl, hso, hn4, hrm]
end Go.Am
namespace Go.Am
open Go.RowKit
def AV.in1 (K : List Nat) : AV → Bool
 | .sl k _ _ _ => K.contains k
 | .loc k _ _ => K.contains k
 | .mp k => K.contains k
 | .itr k => K.contains k
 | _ => true
def AV.inn (K : List Nat) : AV → Bool
 | .tup vs => vs.all (in1 K)
 | .ags vs => vs.all (in1 K)
 | .clo _ vs => vs.all (in1 K)
 | x => x.in1 K
theorem AR1.cong {F : Facts} {ρ ρ' : Map} {ob ob' : List (Nat × Obj)} {x : AV} {v : Value} (hn : ∀ k, x.names1 k = true → ρ' k = ρ k ∧ ∀ o, get ob' k = some o → get ob k = some o) (h : AR1 F ρ ob x v) : AR1 F ρ' ob' x v := by
 cases x <;> simp only [AR1] at h ⊢
 ·exact h
 ·exact h
 ·exact h
 ·rename_i k ver start len
  obtain ⟨h1, h2⟩ := hn k (by simp [AV.names1])
  refine ⟨h.1, fun o hob => ?_⟩
  obtain ⟨g1, g2⟩ := h.2 o (h2 o hob)
  refine ⟨g1, fun a b => ?_⟩
  have := g2 a b
  unfold SlR at this ⊢
  rw [h1]; exact this
 ·rename_i k row off
  obtain ⟨h1, h2⟩ := hn k (by simp [AV.names1])
  exact ⟨h.1, fun o hob => by rw [h1]; exact h.2 o (h2 o hob)⟩
 ·exact h
 ·exact h
 ·rename_i k
  obtain ⟨h1, h2⟩ := hn k (by simp [AV.names1])
  exact ⟨h.1, h.2.1, fun o hob => by rw [h1]; exact h.2.2 o (h2 o hob)⟩
 ·rename_i k
  obtain ⟨h1, h2⟩ := hn k (by simp [AV.names1])
  exact ⟨h.1, fun o hob => by rw [h1]; exact h.2 o (h2 o hob)⟩
theorem AV.all1_in {K : List Nat} {x : AV} (h : x.inn K = true) : x.all1 fun y => ∀ k, y.names1 k = true → k ∈ K := by
 have key : ∀ y : AV, y.in1 K = true → ∀ k, y.names1 k = true → k ∈ K := fun y hy k hk => by
  cases y <;> simp only [AV.names1, beq_iff_eq, reduceCtorEq, Bool.false_eq_true] at hk
  all_goals subst hk; simpa [AV.in1] using hy
 cases x <;> simp only [AV.inn, List.all_eq_true] at h <;> first | exact fun y hy => key y (h y hy) | exact key _ h
theorem AV.all1_no {K : List Nat} {x : AV} (h : ∀ k ∈ K, x.names k = false) : x.all1 fun y => ∀ k, y.names1 k = true → k ∉ K := by
 cases x
 case tup vs => exact fun y hy k hk hK => by have := h k hK; simp only [AV.names, List.any_eq_false] at this; exact this y hy hk
 case ags vs => exact fun y hy k hk hK => by have := h k hK; simp only [AV.names, List.any_eq_false] at this; exact this y hy hk
 case clo g vs => exact fun y hy k hk hK => by have := h k hK; simp only [AV.names, List.any_eq_false] at this; exact this y hy hk
 all_goals exact fun k hk hK => by have := h k hK; simp only [AV.names] at this; rw [this] at hk; simp at hk
def argsF (fr : List (Nat × AV)) : Nat → Nat → Option (List AV)
 | _, 0 => some []
 | i, c + 1 => match get fr i, argsF fr (i + 1) c with
  | some v, some vs => some (v :: vs)
  | _, _ => none
def numF : Nat → List AV → List (Nat × AV)
 | _, [] => []
 | i, v :: vs => (i, v) :: numF (i + 1) vs
theorem argsF_some {fr : List (Nat × AV)} : ∀ {i c : Nat} {vs : List AV}, argsF fr i c = some vs → vs.length = c ∧ ∀ j, j < c → get fr (i + j) = vs[j]?
 | i, 0, vs, h => by simp only [argsF, Option.some.injEq] at h; subst h; exact ⟨rfl, fun j hj => absurd hj (by omega)⟩
 | i, c + 1, vs, h => by
  simp only [argsF] at h
  split at h
  case h_2 => simp at h
  rename_i v vs' h1 h2
  simp only [Option.some.injEq] at h; subst h
  obtain ⟨g1, g2⟩ := argsF_some h2
  refine ⟨by simp [g1], fun j hj => ?_⟩
  cases j with
  | zero => simpa using h1
  | succ j => have := g2 j (by omega); rw [show i + (j + 1) = i + 1 + j by omega]; simpa using this
theorem get_numF : ∀ (vs : List AV) (i j : Nat), get (numF i vs) j = if i ≤ j then vs[j - i]? else none
 | [], i, j => by simp [numF, Go.Am.get]
 | v :: vs, i, j => by
  simp only [numF, Go.Am.get, get_numF vs (i + 1) j]
  by_cases h : i = j
  ·subst h; simp
  ·rw [if_neg h]
   by_cases h2 : i + 1 ≤ j
   ·rw [if_pos h2, if_pos (by omega), show j - i = (j - (i + 1)) + 1 by omega]; simp
   ·rw [if_neg h2, if_neg (by omega)]
def ownPt (n : Nat) (K : List Nat) (S : St → Option (List AV × List (Nat × Obj))) (s : St) : Option (List AV × List (Nat × Obj)) :=
 if n < GB ∧ (get s.fr n).isNone = true then
  match argsF s.fr 0 n with
  | some vs => match s.frzs vs with
   | some (ds, ks) => match S ⟨numF 0 ds, []⟩ with
    | some (rs, ob1) =>
     if ((ob1.filter fun p => K.contains p.1).all fun p => p.2.rows.all fun r => r.all fun v => v.inn K) = true ∧ (rs.all fun v => v.inn K) = true ∧ (K.all fun k => (get (kill s ks).ob k).isNone && nmFr k s.fr && nmOb k (kill s ks).ob) = true then
      some (rs, (ob1.filter fun p => K.contains p.1) ++ (kill s ks).ob) else none
    | none => none
   | none => none
  | none => none
 else none
theorem get_filt {K : List Nat} : ∀ (ob : List (Nat × Obj)) (k : Nat), get (ob.filter fun p => K.contains p.1) k = if k ∈ K then get ob k else none
 | [], k => by simp [Go.Am.get]
 | (j, o) :: ob, k => by
  have ih := get_filt (K := K) ob k
  by_cases hj : j ∈ K
  ·rw [List.filter_cons_of_pos (by simpa using hj)]
   simp only [Go.Am.get, ih]
   by_cases h : j = k
   ·subst h; simp [hj]
   ·simp [h]
  ·rw [List.filter_cons_of_neg (by simpa using hj)]
   simp only [Go.Am.get, ih]
   by_cases h : j = k
   ·subst h; simp [hj]
   ·simp [h]
theorem nmFr_mem {k : Nat} {fr : List (Nat × AV)} (h : nmFr k fr = true) {i : Nat} {v : AV} (hv : get fr i = some v) : v.names k = false := by
 rw [← nmFr_all, List.all_eq_true] at h
 simpa using h (i, v) (get_mem hv)
theorem nmOb_mem {k : Nat} {ob : List (Nat × Obj)} (h : nmOb k ob = true) {i : Nat} {o : Obj} (hv : get ob i = some o) : ∀ r ∈ o.rows, ∀ x ∈ r, AV.names k x = false := by
 rw [← nmOb_all, List.all_eq_true] at h
 have := h (i, o) (get_mem hv)
 simp only [List.all_eq_true] at this
 exact fun r hr x hx => by simpa using this r hr x hx
theorem ownPt_some {n : Nat} {K : List Nat} {S : St → Option (List AV × List (Nat × Obj))} {s : St} {rs : List AV} {ob' : List (Nat × Obj)} (h : ownPt n K S s = some (rs, ob')) :
  n < GB ∧ get s.fr n = none ∧ ∃ vs ds ks ob1, argsF s.fr 0 n = some vs ∧ s.frzs vs = some (ds, ks) ∧ S ⟨numF 0 ds, []⟩ = some (rs, ob1) ∧ ob' = (ob1.filter fun p => K.contains p.1) ++ (kill s ks).ob ∧
   (∀ k o, k ∈ K → get ob1 k = some o → ∀ r ∈ o.rows, ∀ x ∈ r, AV.inn K x = true) ∧ (∀ v ∈ rs, AV.inn K v = true) ∧ ∀ k ∈ K, get (kill s ks).ob k = none ∧ nmFr k s.fr = true ∧ nmOb k (kill s ks).ob = true := by
 unfold ownPt at h
 split at h
 case isFalse => simp at h
 rename_i h0
 split at h
 case h_2 => simp at h
 rename_i vs h1
 split at h
 case h_2 => simp at h
 rename_i ds ks h2
 split at h
 case h_2 => simp at h
 rename_i rs0 ob1 h3
 split at h
 case isFalse => simp at h
 rename_i h4
 simp only [Option.some.injEq, Prod.mk.injEq] at h
 obtain ⟨rfl, rfl⟩ := h
 obtain ⟨a1, a2, a3⟩ := h4
 refine ⟨h0.1, by simpa using h0.2, vs, ds, ks, ob1, h1, h2, h3, rfl, fun k o hk ho r hr x hx => ?_, by simpa using a2, fun k hk => ?_⟩
 ·simp only [List.all_eq_true] at a1
  have hg : get (ob1.filter fun p => K.contains p.1) k = some o := by rw [get_filt, if_pos hk]; exact ho
  exact a1 _ (get_mem hg) r hr x hx
 ·simp only [List.all_eq_true, Bool.and_eq_true, Option.isNone_iff_eq_none] at a3
  obtain ⟨⟨b1, b2⟩, b3⟩ := a3 k hk
  exact ⟨b1, b2, b3⟩
theorem SpecP.own {P : Program} {f : FuncId} {n : Nat} {K : List Nat} {S : St → Option (List AV × List (Nat × Obj))} (h : SpecP P f S) : SpecP P f (ownPt n K S) := by
 intro γ B F ρ fr ob w us rs ob' hlen hal hm hf hS
 obtain ⟨hn, hnone, vs, ds, ks, ob1, hv, hfz, hrun, rfl, hin, hrin, hK⟩ := ownPt_some hS
 obtain ⟨hvl, hvg⟩ := argsF_some hv
 have hul : us.length ≤ n := by
  rcases Nat.lt_or_ge n us.length with h1 | h1
  ·obtain ⟨v, h2⟩ := hal n h1; rw [hnone] at h2; simp at h2
  ·exact h1
 have hvs : All2 (AR F ρ ob) vs ((List.range n).map fun j => us.getD j undef) := by
  refine All2.of_get (by simp [hvl]) fun i v hi => ?_
  have hi2 : i < n := by have := (List.getElem?_eq_some_iff.1 hi).1; omega
  refine ⟨us.getD i undef, by simp [hi2], ?_⟩
  have := hf i v (by rw [← hi, ← hvg i hi2, Nat.zero_add])
  rwa [if_pos (by omega)] at this
 have hds := frzs_sound (s := ⟨fr, ob⟩) hm hfz hvs
 have hdl : ds.length = n := by have := hds.length; simpa using this
 obtain ⟨F1, hF1⟩ : ∃ F1, FrzF F ρ ob ks w = F1 := ⟨_, rfl⟩
 have hk1 := Mem.kill (s := ⟨fr, ob⟩) (ks := ks) hm
 have hle1 : F.le F1 := hF1 ▸ FrzF.le
 have hnew1 : ∀ a u, F1 a u → F a u ∨ B ≤ a.block := fun a u hu => FrzF.new hm (by rw [hF1]; exact hu)
 have hsub := kill_sub ks (⟨fr, ob⟩ : St)
 simp only [hF1] at hds hk1
 generalize (kill ⟨fr, ob⟩ ks).ob = ob0 at *
 have hm1 : Mem w.heap.size F1 ρ [] w := ⟨hk1.facts, Nat.le_refl _, fun k o h => by simp [Go.Am.get] at h, fun k o p h => by simp [Go.Am.get] at h, fun k o p h => by simp [Go.Am.get] at h, fun k o p k' o' p' h => by simp [Go.Am.get] at h⟩
 have hgn : ∀ i v, get (numF 0 ds) i = some v → i < n ∧ ds[i]? = some v := fun i v hi => by
  rw [get_numF, if_pos (Nat.zero_le _), Nat.sub_zero] at hi
  exact ⟨by have := (List.getElem?_eq_some_iff.1 hi).1; omega, hi⟩
 refine (h #[] w.heap.size F1 ρ (numF 0 ds) [] w us rs ob1 hlen (fun i hi => ?_) hm1 (fun i v hi => ?_) hrun).mono ?_
 ·have : i < ds.length := by omega
  exact ⟨ds[i], by rw [get_numF, if_pos (Nat.zero_le _), Nat.sub_zero]; exact List.getElem?_eq_getElem this⟩
 ·obtain ⟨h1, h2⟩ := hgn i v hi
  obtain ⟨u, h3, h4⟩ := hds.get? i v h2
  rw [if_pos (by omega)]
  simp [h1] at h3
  subst h3
  exact AR.of_RR h4
 rintro e w' ⟨qs, rfl, F', ρ', hm', -, hr', hx⟩
 have hgK : ∀ k, k ∈ K → get ((ob1.filter fun p => K.contains p.1) ++ ob0) k = get ob1 k := fun k hk => by
  rw [get_append, get_filt, if_pos hk]
  cases get ob1 k with
  | some o => rfl
  | none => exact (hK k hk).1
 have hgN : ∀ k, k ∉ K → get ((ob1.filter fun p => K.contains p.1) ++ ob0) k = get ob0 k := fun k hk => by rw [get_append, get_filt, if_neg hk]
 have cN : ∀ {x : AV} {v : Value}, AV.inn K x = true → AR F' ρ' ob1 x v → AR F' (fun k => if k ∈ K then ρ' k else ρ k) ((ob1.filter fun p => K.contains p.1) ++ ob0) x v := fun {x v} hi ha =>
  ha.lift _ (AV.all1_in hi) fun y u hq h => h.cong fun k hk => ⟨by simp [hq k hk], fun o ho => by rw [hgK k (hq k hk)] at ho; exact ho⟩
 have cO : ∀ {x : AV} {v : Value}, (∀ k ∈ K, AV.names k x = false) → AR F1 ρ ob0 x v → AR F' (fun k => if k ∈ K then ρ' k else ρ k) ((ob1.filter fun p => K.contains p.1) ++ ob0) x v := fun {x v} hi ha =>
  (ha.mono hx.le).lift _ (AV.all1_no hi) fun y u hq h => h.cong fun k hk => ⟨by simp [hq k hk], fun o ho => by rw [hgN k (hq k hk)] at ho; exact ho⟩
 refine ⟨qs, rfl, F', fun k => if k ∈ K then ρ' k else ρ k, ⟨hm'.facts, Nat.le_trans hm.big hm'.big, fun k o h1 h2 => ?_, fun k o p h1 h2 => ?_, fun k o p h1 h2 a u hu => ?_, fun k o p k' o' p' h1 h2 h3 h4 h5 => ?_⟩, fun i v hi hv => ?_, ?_, ⟨hle1.trans hx.le, hx.below.mono hm.big, fun a u hu => ?_⟩⟩
 ·by_cases hk : k ∈ K
  ·rw [hgK k hk] at h1; rw [if_pos hk] at h2; exact hm'.bare k o h1 h2
  ·rw [hgN k hk] at h1; rw [if_neg hk] at h2; exact hk1.bare k o h1 h2
 ·by_cases hk : k ∈ K
  ·rw [hgK k hk] at h1; rw [if_pos hk] at h2
   obtain ⟨g1, g2⟩ := hm'.own k o p h1 h2
   exact ⟨Nat.le_trans hm.big g1, g2.imp fun r hr x hxx v hv => cN (hin k o hk h1 r hr x hxx) hv⟩
  ·rw [hgN k hk] at h1; rw [if_neg hk] at h2
   obtain ⟨g1, g2⟩ := hk1.own k o p h1 h2
   rw [hx.below.block _ (hk1.lt h1 h2)]
   exact ⟨g1, g2.imp fun r hr x hxx v hv => cO (fun j hj => nmOb_mem (hK j hj).2.2 h1 r hr x hxx) hv⟩
 ·by_cases hk : k ∈ K
  ·rw [hgK k hk] at h1; rw [if_pos hk] at h2; exact hm'.apart k o p h1 h2 a u hu
  ·rw [hgN k hk] at h1; rw [if_neg hk] at h2
   rcases hx.new a u hu with h3 | h3
   ·exact hk1.apart k o p h1 h2 a u h3
   ·have := hk1.lt h1 h2; omega
 ·by_cases hk : k ∈ K
  ·rw [hgK k hk] at h1; rw [if_pos hk] at h2
   by_cases hk' : k' ∈ K
   ·rw [hgK k' hk'] at h3; rw [if_pos hk'] at h4; exact hm'.inj k o p k' o' p' h1 h2 h3 h4 h5
   ·rw [hgN k' hk'] at h3; rw [if_neg hk'] at h4
    have a1 := (hm'.own k o p h1 h2).1
    have a2 := hk1.lt h3 h4
    omega
  ·rw [hgN k hk] at h1; rw [if_neg hk] at h2
   by_cases hk' : k' ∈ K
   ·rw [hgK k' hk'] at h3; rw [if_pos hk'] at h4
    have a1 := (hm'.own k' o' p' h3 h4).1
    have a2 := hk1.lt h1 h2
    omega
   ·rw [hgN k' hk'] at h3; rw [if_neg hk'] at h4; exact hk1.inj k o p k' o' p' h1 h2 h3 h4 h5
 ·have := hf i v hv
  rw [if_neg (by omega)] at this
  exact cO (fun j hj => nmFr_mem (hK j hj).2.1 hv) ((this.mono hle1).sub hsub)
 ·refine All2.of_get hr'.length fun i v hi => ?_
  obtain ⟨u, h1, h2⟩ := hr'.get? i v hi
  exact ⟨u, h1, cN (hrin v (List.mem_of_getElem? hi)) h2⟩
 ·rcases hx.new a u hu with h3 | h3
  ·exact hnew1 a u h3
  ·exact .inr (Nat.le_trans hm.big h3)
theorem ownPt_mono {n : Nat} {K : List Nat} {S : St → Option (List AV × List (Nat × Obj))} (s : St) (rs : List AV) (ob : List (Nat × Obj)) (R : List Nat) (hR : ∀ r ∈ R, GB ≤ r) (hs : ownPt n K S s = some (rs, ob)) : ownPt n K S ⟨dels R s.fr, s.ob⟩ = some (rs, ob) := by
 have hgd : ∀ i, i < GB → get (dels R s.fr) i = get s.fr i := fun i hi => by rw [get_dels, if_neg fun h => by have := hR _ h; omega]
 have ha : ∀ c i, i + c ≤ GB → argsF (dels R s.fr) i c = argsF s.fr i c := by
  intro c
  induction c with
  | zero => intro i _; rfl
  | succ c ih => intro i hi; simp only [argsF]; rw [hgd i (by omega), ih (i + 1) (by omega)]
 have hfz : ∀ vs, St.frzs ⟨dels R s.fr, s.ob⟩ vs = s.frzs vs := by
  intro vs
  induction vs with
  | nil => rfl
  | cons v vs ih =>
   simp only [St.frzs, ih]
   rfl
 have hkl : ∀ ks (f1 f2 : List (Nat × AV)) (o : List (Nat × Obj)), (kill ⟨f1, o⟩ ks).ob = (kill ⟨f2, o⟩ ks).ob := by
  intro ks
  induction ks with
  | nil => intro f1 f2 o; rfl
  | cons k ks ih => intro f1 f2 o; exact ih f1 f2 _
 have hnf : ∀ k, nmFr k s.fr = true → nmFr k (dels R s.fr) = true := fun k h => by
  rw [← nmFr_all, List.all_eq_true] at h ⊢
  exact fun p hp => h p (mem_dels hp).1
 unfold ownPt at hs ⊢
 split at hs
 case isFalse => simp at hs
 rename_i h0
 rw [if_pos (by rw [hgd n h0.1]; exact h0), ha n 0 (by omega)]
 split at hs
 case h_2 => simp at hs
 rename_i vs h1
 simp only [hfz]
 split at hs
 case h_2 => simp at hs
 rename_i ds ks h2
 simp only [hkl ks (dels R s.fr) s.fr s.ob]
 split at hs
 case h_2 => simp at hs
 rename_i rs0 ob1 h3
 split at hs
 case isFalse => simp at hs
 rename_i h4
 have h5 : (K.all fun k => (get (kill s ks).ob k).isNone && nmFr k (dels R s.fr) && nmOb k (kill s ks).ob) = true := by
  have := h4.2.2
  simp only [List.all_eq_true, Bool.and_eq_true] at this ⊢
  exact fun k hk => ⟨⟨(this k hk).1.1, hnf k (this k hk).1.2⟩, (this k hk).2⟩
 exact (if_pos ⟨h4.1, h4.2.1, h5⟩).trans hs
end Go.Am
namespace Go.Am
open Go.RowKit
def freeK (s : St) (ob0 : List (Nat × Obj)) (k : Nat) : Bool := nmFr k s.fr && nmOb k ob0
def ownC (n K : Nat) (S : St → Option (List AV × List (Nat × Obj))) (s : St) : Option (List AV × List (Nat × Obj)) :=
 if n < GB ∧ (get s.fr n).isNone = true ∧ K < KT then
  match argsF s.fr 0 n with
  | some vs => match s.frzs vs with
   | some (ds, ks) => match S ⟨numF 0 ds, []⟩ with
    | some ([.sl k v st l], ob1) => match get ob1 K with
     | some o => if k = K ∧ (o.rows.all fun r => r.all fun x => x.inn []) = true ∧ cntOf (kill s ks).ob < DB ∧ (get (kill s ks).ob (DB + cntOf (kill s ks).ob)).isNone = true ∧ freeK s (kill s ks).ob (DB + cntOf (kill s ks).ob) = true ∧ freeK s (kill s ks).ob CK = true then
       some ([.sl (DB + cntOf (kill s ks).ob) v st l], (CK, ⟨cntOf (kill s ks).ob + 1, []⟩) :: (DB + cntOf (kill s ks).ob, o) :: del (kill s ks).ob CK) else none
     | none => none
    | _ => none
   | none => none
  | none => none
 else none
theorem ownC_some {n K : Nat} {S : St → Option (List AV × List (Nat × Obj))} {s : St} {rs : List AV} {ob' : List (Nat × Obj)} (h : ownC n K S s = some (rs, ob')) :
  n < GB ∧ get s.fr n = none ∧ K < KT ∧ ∃ vs ds ks v st l ob1 o c, argsF s.fr 0 n = some vs ∧ s.frzs vs = some (ds, ks) ∧ S ⟨numF 0 ds, []⟩ = some ([.sl K v st l], ob1) ∧ get ob1 K = some o ∧ cntOf (kill s ks).ob = c ∧ c < DB ∧
   rs = [.sl (DB + c) v st l] ∧ ob' = (CK, ⟨c + 1, []⟩) :: (DB + c, o) :: del (kill s ks).ob CK ∧
   (∀ r ∈ o.rows, ∀ x ∈ r, AV.inn [] x = true) ∧ get (kill s ks).ob (DB + c) = none ∧ (∀ k ∈ [DB + c, CK], nmFr k s.fr = true ∧ nmOb k (kill s ks).ob = true) := by
 unfold ownC at h
 split at h
 case isFalse => simp at h
 rename_i h0
 split at h
 case h_2 => simp at h
 rename_i vs h1
 split at h
 case h_2 => simp at h
 rename_i ds ks h2
 split at h
 case h_2 => simp at h
 rename_i k v st l ob1 h3
 split at h
 case h_2 => simp at h
 rename_i o h4
 split at h
 case isFalse => simp at h
 rename_i h5
 simp only [Option.some.injEq, Prod.mk.injEq] at h
 obtain ⟨rfl, rfl⟩ := h
 obtain ⟨rfl, a1, a2, a3, a4, a5⟩ := h5
 refine ⟨h0.1, by simpa using h0.2.1, h0.2.2, vs, ds, ks, v, st, l, ob1, o, _, h1, h2, h3, h4, rfl, a2, rfl, rfl, fun r hr x hx => ?_, by simpa using a3, fun k hk => ?_⟩
 ·simp only [List.all_eq_true] at a1
  exact a1 r hr x hx
 ·simp only [freeK, Bool.and_eq_true] at a4 a5
  simp only [List.mem_cons, List.mem_nil_iff, or_false] at hk
  rcases hk with rfl | rfl
  ·exact a4
  ·exact a5
theorem ownC_eq {n K v st l c : Nat} {S : St → Option (List AV × List (Nat × Obj))} {s : St} {vs ds : List AV} {ks : List Nat} {ob1 ob0 : List (Nat × Obj)} {o : Obj} (hn : n < GB) (h0 : get s.fr n = none) (hK : K < KT) (h1 : argsF s.fr 0 n = some vs) (h2 : s.frzs vs = some (ds, ks))
  (h3 : S ⟨numF 0 ds, []⟩ = some ([.sl K v st l], ob1)) (h4 : get ob1 K = some o) (h5 : (o.rows.all fun r => r.all fun x => x.inn []) = true) (h6 : (kill s ks).ob = ob0) (h7 : cntOf ob0 = c) (h8 : c < DB) (h9 : get ob0 (DB + c) = none) (h10 : nmFr (DB + c) s.fr = true) (h11 : nmOb (DB + c) ob0 = true) (h12 : nmFr CK s.fr = true) (h13 : nmOb CK ob0 = true) :
  ownC n K S s = some ([.sl (DB + c) v st l], (CK, ⟨c + 1, []⟩) :: (DB + c, o) :: del ob0 CK) := by
 unfold ownC
 rw [if_pos ⟨hn, by rw [h0]; rfl, hK⟩, h1]
 simp only [h2, h3, h4, h6, h7]
 exact if_pos ⟨trivial, h5, h8, by rw [h9]; rfl, by simp only [freeK, h10, h11, Bool.and_self], by simp only [freeK, h12, h13, Bool.and_self]⟩
theorem SpecP.ownC {P : Program} {f : FuncId} {n K : Nat} {S : St → Option (List AV × List (Nat × Obj))} (h : SpecP P f S) : SpecP P f (ownC n K S) := by
 intro γ B F ρ fr ob w us rs ob' hlen hal hm hf hS
 obtain ⟨hn, hnone, hKT, vs, ds, ks, v0, st0, l0, ob1, o1, c, hv, hfz, hrun, ho1, hcn, hcD, rfl, rfl, hin, hfree, hK⟩ := ownC_some hS
 have hdb : DB = 1000000000000000000 := rfl
 have hck : CK = 900000000000000000 := rfl
 have hkt : KT = 18446744073709551616 := KT_eq
 have hmk : MK = 1461501637330902918203684832716283019655932542976 := MK_eq
 obtain ⟨hvl, hvg⟩ := argsF_some hv
 have hul : us.length ≤ n := by
  rcases Nat.lt_or_ge n us.length with h1 | h1
  ·obtain ⟨v, h2⟩ := hal n h1; rw [hnone] at h2; simp at h2
  ·exact h1
 have hvs : All2 (AR F ρ ob) vs ((List.range n).map fun j => us.getD j undef) := by
  refine All2.of_get (by simp [hvl]) fun i v hi => ?_
  have hi2 : i < n := by have := (List.getElem?_eq_some_iff.1 hi).1; omega
  refine ⟨us.getD i undef, by simp [hi2], ?_⟩
  have := hf i v (by rw [← hi, ← hvg i hi2, Nat.zero_add])
  rwa [if_pos (by omega)] at this
 have hds := frzs_sound (s := ⟨fr, ob⟩) hm hfz hvs
 have hdl : ds.length = n := by have := hds.length; simpa using this
 obtain ⟨F1, hF1⟩ : ∃ F1, FrzF F ρ ob ks w = F1 := ⟨_, rfl⟩
 have hk1 := Mem.kill (s := ⟨fr, ob⟩) (ks := ks) hm
 have hle1 : F.le F1 := hF1 ▸ FrzF.le
 have hnew1 : ∀ a u, F1 a u → F a u ∨ B ≤ a.block := fun a u hu => FrzF.new hm (by rw [hF1]; exact hu)
 have hsub := kill_sub ks (⟨fr, ob⟩ : St)
 simp only [hF1] at hds hk1
 generalize (kill ⟨fr, ob⟩ ks).ob = ob0 at *
 have hm1 : Mem w.heap.size F1 ρ [] w := ⟨hk1.facts, Nat.le_refl _, fun k o h => by simp [Go.Am.get] at h, fun k o p h => by simp [Go.Am.get] at h, fun k o p h => by simp [Go.Am.get] at h, fun k o p k' o' p' h => by simp [Go.Am.get] at h⟩
 have hgn : ∀ i v, get (numF 0 ds) i = some v → i < n ∧ ds[i]? = some v := fun i v hi => by
  rw [get_numF, if_pos (Nat.zero_le _), Nat.sub_zero] at hi
  exact ⟨by have := (List.getElem?_eq_some_iff.1 hi).1; omega, hi⟩
 refine (h #[] w.heap.size F1 ρ (numF 0 ds) [] w us _ ob1 hlen (fun i hi => ?_) hm1 (fun i v hi => ?_) hrun).mono ?_
 ·have : i < ds.length := by omega
  exact ⟨ds[i], by rw [get_numF, if_pos (Nat.zero_le _), Nat.sub_zero]; exact List.getElem?_eq_getElem this⟩
 ·obtain ⟨h1, h2⟩ := hgn i v hi
  obtain ⟨u, h3, h4⟩ := hds.get? i v h2
  rw [if_pos (by omega)]
  simp [h1] at h3
  subst h3
  exact AR.of_RR h4
 rintro e w' ⟨qs, rfl, F', ρ', hm', -, hr', hx⟩
 have hne : ¬ CK = DB + c := by omega
 have gC : get ((CK, (⟨c + 1, []⟩ : Obj)) :: (DB + c, o1) :: del ob0 CK) CK = some ⟨c + 1, []⟩ := by simp [Go.Am.get]
 have gD : get ((CK, (⟨c + 1, []⟩ : Obj)) :: (DB + c, o1) :: del ob0 CK) (DB + c) = some o1 := by simp only [Go.Am.get]; rw [if_neg hne]; simp
 have gN : ∀ k, k ≠ CK → k ≠ DB + c → get ((CK, (⟨c + 1, []⟩ : Obj)) :: (DB + c, o1) :: del ob0 CK) k = get ob0 k := fun k h1 h2 => by
  simp only [Go.Am.get]; rw [if_neg (Ne.symm h1), if_neg (Ne.symm h2), get_del, if_neg h1]
 obtain ⟨R, hR⟩ : ∃ R : Map, (fun k => if k = CK then Option.none else if k = DB + c then ρ' K else ρ k) = R := ⟨_, rfl⟩
 have rC : R CK = Option.none := by rw [← hR]; simp
 have rD : R (DB + c) = ρ' K := by rw [← hR]; show (if _ then _ else _) = _; rw [if_neg (Ne.symm hne)]; exact if_pos rfl
 have rN : ∀ k, k ≠ CK → k ≠ DB + c → R k = ρ k := fun k h1 h2 => by rw [← hR]; show (if _ then _ else _) = _; rw [if_neg h1]; exact if_neg h2
 generalize hO : (CK, (⟨c + 1, []⟩ : Obj)) :: (DB + c, o1) :: del ob0 CK = O at *
 have cN : ∀ {x : AV} {v : Value}, AV.inn [] x = true → AR F' ρ' ob1 x v → AR F' R O x v := fun {x v} hi ha =>
  ha.lift _ (AV.all1_in hi) fun y u hq h => h.cong fun k hk => absurd (hq k hk) (by simp)
 have cO : ∀ {x : AV} {v : Value}, (∀ k ∈ [DB + c, CK], AV.names k x = false) → AR F1 ρ ob0 x v → AR F' R O x v := fun {x v} hi ha =>
  (ha.mono hx.le).lift _ (AV.all1_no hi) fun y u hq h => h.cong fun k hk => by
   have h1 := hq k hk
   simp only [List.mem_cons, List.mem_nil_iff, or_false, not_or] at h1
   exact ⟨rN k h1.2 h1.1, fun o ho => by rw [gN k h1.2 h1.1] at ho; exact ho⟩
 have eachK : ∀ k, k = CK ∨ k = DB + c ∨ (k ≠ CK ∧ k ≠ DB + c) := fun k => by
  by_cases h1 : k = CK
  ·exact .inl h1
  ·by_cases h2 : k = DB + c
   ·exact .inr (.inl h2)
   ·exact .inr (.inr ⟨h1, h2⟩)
 refine ⟨qs, rfl, F', R, ⟨hm'.facts, Nat.le_trans hm.big hm'.big, fun k o h1 h2 => ?_, fun k o p h1 h2 => ?_, fun k o p h1 h2 a u hu => ?_, fun k o p k' o' p' h1 h2 h3 h4 h5 => ?_⟩, fun i v hi hv => ?_, ?_, ⟨hle1.trans hx.le, hx.below.mono hm.big, fun a u hu => ?_⟩⟩
 ·rcases eachK k with rfl | rfl | ⟨n1, n2⟩
  ·rw [gC] at h1; simp only [Option.some.injEq] at h1; subst h1; rfl
  ·rw [gD] at h1; rw [rD] at h2; simp only [Option.some.injEq] at h1; subst h1; exact hm'.bare K _ ho1 h2
  ·rw [gN k n1 n2] at h1; rw [rN k n1 n2] at h2; exact hk1.bare k o h1 h2
 ·rcases eachK k with rfl | rfl | ⟨n1, n2⟩
  ·rw [rC] at h2; simp at h2
  ·rw [gD] at h1; rw [rD] at h2; simp only [Option.some.injEq] at h1; subst h1
   obtain ⟨g1, g2⟩ := hm'.own K _ p ho1 h2
   have g3 : Cont F' R O w'.heap[p.g]? K o1 p := g2.imp fun r hr x hxx v hv => cN (hin r hr x hxx) hv
   exact ⟨Nat.le_trans hm.big g1, ⟨fun _ => ⟨(g3.1 (by omega)).1, fun h => absurd h (by omega)⟩, fun h => absurd h (by omega), fun h => absurd h (by omega)⟩⟩
  ·rw [gN k n1 n2] at h1; rw [rN k n1 n2] at h2
   obtain ⟨g1, g2⟩ := hk1.own k o p h1 h2
   rw [hx.below.block _ (hk1.lt h1 h2)]
   exact ⟨g1, g2.imp fun r hr x hxx v hv => cO (fun j hj => nmOb_mem (hK j hj).2 h1 r hr x hxx) hv⟩
 ·rcases eachK k with rfl | rfl | ⟨n1, n2⟩
  ·rw [rC] at h2; simp at h2
  ·rw [rD] at h2; exact hm'.apart K _ p ho1 h2 a u hu
  ·rw [gN k n1 n2] at h1; rw [rN k n1 n2] at h2
   rcases hx.new a u hu with h3 | h3
   ·exact hk1.apart k o p h1 h2 a u h3
   ·have := hk1.lt h1 h2; omega
 ·rcases eachK k with rfl | rfl | ⟨n1, n2⟩
  ·rw [rC] at h2; simp at h2
  ·rw [rD] at h2
   rcases eachK k' with rfl | rfl | ⟨n3, n4⟩
   ·rw [rC] at h4; simp at h4
   ·rfl
   ·rw [gN k' n3 n4] at h3; rw [rN k' n3 n4] at h4
    have a1 := (hm'.own K _ p ho1 h2).1
    have a2 := hk1.lt h3 h4
    omega
  ·rw [gN k n1 n2] at h1; rw [rN k n1 n2] at h2
   rcases eachK k' with rfl | rfl | ⟨n3, n4⟩
   ·rw [rC] at h4; simp at h4
   ·rw [rD] at h4
    have a1 := (hm'.own K _ p' ho1 h4).1
    have a2 := hk1.lt h1 h2
    omega
   ·rw [gN k' n3 n4] at h3; rw [rN k' n3 n4] at h4; exact hk1.inj k o p k' o' p' h1 h2 h3 h4 h5
 ·have := hf i v hv
  rw [if_neg (by omega)] at this
  exact cO (fun j hj => nmFr_mem (hK j hj).1 hv) ((this.mono hle1).sub hsub)
 ·cases hr' with
  | cons h1 h2 =>
   cases h2
   have h1 : AR1 F' ρ' ob1 (.sl K v0 st0 l0) _ := h1
   refine .cons (?_ : AR1 F' R O (.sl (DB + c) v0 st0 l0) _) .nil
   simp only [AR1] at h1 ⊢
   refine ⟨by omega, fun o ho => ?_⟩
   rw [gD] at ho
   simp only [Option.some.injEq] at ho; subst ho
   obtain ⟨g1, g2⟩ := h1.2 _ ho1
   refine ⟨g1, fun a b => ?_⟩
   have := g2 a b
   unfold SlR at this ⊢
   rw [rD]; exact this
 ·rcases hx.new a u hu with h3 | h3
  ·exact hnew1 a u h3
  ·exact .inr (Nat.le_trans hm.big h3)
theorem ownC_mono {n K : Nat} {S : St → Option (List AV × List (Nat × Obj))} (s : St) (rs : List AV) (ob : List (Nat × Obj)) (R : List Nat) (hR : ∀ r ∈ R, GB ≤ r) (hs : ownC n K S s = some (rs, ob)) : ownC n K S ⟨dels R s.fr, s.ob⟩ = some (rs, ob) := by
 have hgd : ∀ i, i < GB → get (dels R s.fr) i = get s.fr i := fun i hi => by rw [get_dels, if_neg fun h => by have := hR _ h; omega]
 have ha : ∀ c i, i + c ≤ GB → argsF (dels R s.fr) i c = argsF s.fr i c := by
  intro c
  induction c with
  | zero => intro i _; rfl
  | succ c ih => intro i hi; simp only [argsF]; rw [hgd i (by omega), ih (i + 1) (by omega)]
 have hfz : ∀ vs, St.frzs ⟨dels R s.fr, s.ob⟩ vs = s.frzs vs := by
  intro vs
  induction vs with
  | nil => rfl
  | cons v vs ih =>
   simp only [St.frzs, ih]
   rfl
 have hkl : ∀ ks (f1 f2 : List (Nat × AV)) (o : List (Nat × Obj)), (kill ⟨f1, o⟩ ks).ob = (kill ⟨f2, o⟩ ks).ob := by
  intro ks
  induction ks with
  | nil => intro f1 f2 o; rfl
  | cons k ks ih => intro f1 f2 o; exact ih f1 f2 _
 have hnf : ∀ k, nmFr k s.fr = true → nmFr k (dels R s.fr) = true := fun k h => by
  rw [← nmFr_all, List.all_eq_true] at h ⊢
  exact fun p hp => h p (mem_dels hp).1
 unfold ownC at hs ⊢
 split at hs
 case isFalse => simp at hs
 rename_i h0
 rw [if_pos (by rw [hgd n h0.1]; exact h0), ha n 0 (by omega)]
 split at hs
 case h_2 => simp at hs
 rename_i vs h1
 simp only [hfz]
 split at hs
 case h_2 => simp at hs
 rename_i ds ks h2
 simp only [hkl ks (dels R s.fr) s.fr s.ob]
 split at hs
 case h_2 => simp at hs
 rename_i k v st l ob1 h3
 split at hs
 case h_2 => simp at hs
 rename_i o h4
 split at hs
 case isFalse => simp at hs
 rename_i h5
 simp only [freeK, Bool.and_eq_true] at h5 ⊢
 exact (if_pos ⟨h5.1, h5.2.1, h5.2.2.1, h5.2.2.2.1, ⟨hnf _ h5.2.2.2.2.1.1, h5.2.2.2.2.1.2⟩, ⟨hnf _ h5.2.2.2.2.2.1, h5.2.2.2.2.2.2⟩⟩).trans hs
end Go.Am
namespace Go.Am
open Go.RowKit
def frzPt (S : St → Option (List AV × List (Nat × Obj))) (s : St) : Option (List AV × List (Nat × Obj)) :=
 match S s with
 | some (rs, ob') => (((⟨[], ob'⟩ : St).frzs rs).map fun p => (p.1, (kill ⟨[], ob'⟩ p.2).ob))
 | none => none
theorem SpecP.frz {P : Program} {f : FuncId} {S : St → Option (List AV × List (Nat × Obj))} (h : SpecP P f S) : SpecP P f (frzPt S) := by
 intro γ B F ρ fr ob w us rs ob' hlen hal hm hf hS
 unfold frzPt at hS
 split at hS
 case h_2 => simp at hS
 rename_i rs0 ob0 h0
 simp only [Option.map_eq_some_iff, Prod.mk.injEq] at hS
 obtain ⟨⟨ds, ks⟩, hfz, rfl, rfl⟩ := hS
 refine (h γ B F ρ fr ob w us rs0 ob0 hlen hal hm hf h0).mono ?_
 rintro e w' ⟨qs, rfl, F', ρ', hm', hf', hr', hx⟩
 have hm2 : Mem B F' ρ' (⟨[], ob0⟩ : St).ob w' := hm'
 have hr2 : All2 (AR F' ρ' (⟨[], ob0⟩ : St).ob) rs0 qs := hr'
 refine ⟨qs, rfl, FrzF F' ρ' ob0 ks w', ρ', hm2.kill, fun i v hi hv => ?_, ?_, hx.trans ⟨FrzF.le, .refl _ _, fun ad u hu => FrzF.new hm' hu⟩⟩
 ·exact ((hf' i v hi hv).mono FrzF.le).sub (kill_sub ks (⟨[], ob0⟩ : St))
 ·exact (frzs_sound hm2 hfz hr2).imp fun _ _ h => AR.of_RR h
theorem frzPt_mono {S : St → Option (List AV × List (Nat × Obj))} (h : ∀ (s : St) (rs : List AV) (ob : List (Nat × Obj)) (R : List Nat), (∀ r ∈ R, GB ≤ r) → S s = some (rs, ob) → S ⟨dels R s.fr, s.ob⟩ = some (rs, ob)) (s : St) (rs : List AV) (ob : List (Nat × Obj)) (R : List Nat) (hR : ∀ r ∈ R, GB ≤ r) (hs : frzPt S s = some (rs, ob)) : frzPt S ⟨dels R s.fr, s.ob⟩ = some (rs, ob) := by
 unfold frzPt at hs ⊢
 split at hs
 case h_2 => simp at hs
 rename_i rs0 ob0 h0
 rw [h s rs0 ob0 R hR h0]
 exact hs
end Go.Am
namespace Go.Am
open Go.RowKit
def AV.flatR : AV → Bool
 | .c d => d.flat
 | .agg cs => cs.all D.flat
 | .nil _ | .sl _ _ _ _ | .loc _ _ _ | .mp _ | .itr _ | .ot _ => true
 | _ => false
theorem AR.flatR {F F' : Facts} {ρ : Map} {ob : List (Nat × Obj)} {x : AV} {v : Value} (hx : x.flatR = true) (h : AR F ρ ob x v) : AR F' ρ ob x v := by
 cases x <;> simp only [AV.flatR, Bool.false_eq_true] at hx
 case c d => exact DR.of_flat (h : DR F d v) hx
 case agg cs =>
  obtain ⟨vs, rfl, h⟩ := (h : ∃ vs : List Value, v = .agg vs.toArray ∧ All2 (DR F) cs vs)
  simp only [List.all_eq_true] at hx
  exact ⟨vs, rfl, All2.of_get h.length fun i a ha => by
   obtain ⟨b, hb, hr⟩ := h.get? i a ha
   exact ⟨b, hb, hr.of_flat (hx _ (List.mem_of_getElem? ha))⟩⟩
 all_goals exact h
def borPt (n : Nat) (K : List Nat) (S : St → Option (List AV × List (Nat × Obj))) (s : St) : Option (List AV × List (Nat × Obj)) :=
 if n < GB ∧ (get s.fr n).isNone = true then
  match argsF s.fr 0 n with
  | some vs => match s.frzs vs with
   | some (ds, ks) => match S ⟨numF 0 ds, []⟩ with
    | some (rs, ob1) =>
     if ((ob1.filter fun p => K.contains p.1).all fun p => p.2.rows.all fun r => r.all fun v => v.inn K && v.flatR) = true ∧ (rs.all fun v => v.inn K && v.flatR) = true ∧ (K.all fun k => (get s.ob k).isNone && nmFr k s.fr && nmOb k s.ob) = true then
      some (rs, (ob1.filter fun p => K.contains p.1) ++ s.ob) else none
    | none => none
   | none => none
  | none => none
 else none
theorem borPt_some {n : Nat} {K : List Nat} {S : St → Option (List AV × List (Nat × Obj))} {s : St} {rs : List AV} {ob' : List (Nat × Obj)} (h : borPt n K S s = some (rs, ob')) :
  n < GB ∧ get s.fr n = none ∧ ∃ vs ds ks ob1, argsF s.fr 0 n = some vs ∧ s.frzs vs = some (ds, ks) ∧ S ⟨numF 0 ds, []⟩ = some (rs, ob1) ∧ ob' = (ob1.filter fun p => K.contains p.1) ++ s.ob ∧
   (∀ k o, k ∈ K → get ob1 k = some o → ∀ r ∈ o.rows, ∀ x ∈ r, AV.inn K x = true ∧ AV.flatR x = true) ∧ (∀ v ∈ rs, AV.inn K v = true ∧ AV.flatR v = true) ∧ ∀ k ∈ K, get s.ob k = none ∧ nmFr k s.fr = true ∧ nmOb k s.ob = true := by
 unfold borPt at h
 split at h
 case isFalse => simp at h
 rename_i h0
 split at h
 case h_2 => simp at h
 rename_i vs h1
 split at h
 case h_2 => simp at h
 rename_i ds ks h2
 split at h
 case h_2 => simp at h
 rename_i rs0 ob1 h3
 split at h
 case isFalse => simp at h
 rename_i h4
 simp only [Option.some.injEq, Prod.mk.injEq] at h
 obtain ⟨rfl, rfl⟩ := h
 obtain ⟨a1, a2, a3⟩ := h4
 simp only [List.all_eq_true, Bool.and_eq_true] at a1 a2
 refine ⟨h0.1, by simpa using h0.2, vs, ds, ks, ob1, h1, h2, h3, rfl, fun k o hk ho r hr x hx => ?_, a2, fun k hk => ?_⟩
 ·have hg : get (ob1.filter fun p => K.contains p.1) k = some o := by rw [get_filt, if_pos hk]; exact ho
  exact a1 _ (get_mem hg) r hr x hx
 ·simp only [List.all_eq_true, Bool.and_eq_true, Option.isNone_iff_eq_none] at a3
  obtain ⟨⟨b1, b2⟩, b3⟩ := a3 k hk
  exact ⟨b1, b2, b3⟩
theorem SpecP.bor {P : Program} {f : FuncId} {n : Nat} {K : List Nat} {S : St → Option (List AV × List (Nat × Obj))} (h : SpecP P f S) : SpecP P f (borPt n K S) := by
 intro γ B F ρ fr ob w us rs ob' hlen hal hm hf hS
 obtain ⟨hn, hnone, vs, ds, ks, ob1, hv, hfz, hrun, rfl, hin, hrin, hK⟩ := borPt_some hS
 obtain ⟨hvl, hvg⟩ := argsF_some hv
 have hul : us.length ≤ n := by
  rcases Nat.lt_or_ge n us.length with h1 | h1
  ·obtain ⟨v, h2⟩ := hal n h1; rw [hnone] at h2; simp at h2
  ·exact h1
 have hvs : All2 (AR F ρ ob) vs ((List.range n).map fun j => us.getD j undef) := by
  refine All2.of_get (by simp [hvl]) fun i v hi => ?_
  have hi2 : i < n := by have := (List.getElem?_eq_some_iff.1 hi).1; omega
  refine ⟨us.getD i undef, by simp [hi2], ?_⟩
  have := hf i v (by rw [← hi, ← hvg i hi2, Nat.zero_add])
  rwa [if_pos (by omega)] at this
 have hds := frzs_sound (s := ⟨fr, ob⟩) hm hfz hvs
 have hdl : ds.length = n := by have := hds.length; simpa using this
 obtain ⟨F1, hF1⟩ : ∃ F1, FrzF F ρ ob ks w = F1 := ⟨_, rfl⟩
 have hk1 := Mem.kill (s := ⟨fr, ob⟩) (ks := ks) hm
 have hle1 : F.le F1 := hF1 ▸ FrzF.le
 have hnew1 : ∀ a u, F1 a u → F a u ∨ B ≤ a.block := fun a u hu => FrzF.new hm (by rw [hF1]; exact hu)
 simp only [hF1] at hds hk1
 have hm1 : Mem w.heap.size F1 ρ [] w := ⟨hk1.facts, Nat.le_refl _, fun k o h => by simp [Go.Am.get] at h, fun k o p h => by simp [Go.Am.get] at h, fun k o p h => by simp [Go.Am.get] at h, fun k o p k' o' p' h => by simp [Go.Am.get] at h⟩
 have hgn : ∀ i v, get (numF 0 ds) i = some v → i < n ∧ ds[i]? = some v := fun i v hi => by
  rw [get_numF, if_pos (Nat.zero_le _), Nat.sub_zero] at hi
  exact ⟨by have := (List.getElem?_eq_some_iff.1 hi).1; omega, hi⟩
 refine (h #[] w.heap.size F1 ρ (numF 0 ds) [] w us rs ob1 hlen (fun i hi => ?_) hm1 (fun i v hi => ?_) hrun).mono ?_
 ·have : i < ds.length := by omega
  exact ⟨ds[i], by rw [get_numF, if_pos (Nat.zero_le _), Nat.sub_zero]; exact List.getElem?_eq_getElem this⟩
 ·obtain ⟨h1, h2⟩ := hgn i v hi
  obtain ⟨u, h3, h4⟩ := hds.get? i v h2
  rw [if_pos (by omega)]
  simp [h1] at h3
  subst h3
  exact AR.of_RR h4
 rintro e w' ⟨qs, rfl, F', ρ', hm', -, hr', hx⟩
 obtain ⟨F2, hF2⟩ : ∃ F2 : Facts, (fun a u => F' a u ∧ (F a u ∨ w.heap.size ≤ a.block)) = F2 := ⟨_, rfl⟩
 have h2i : ∀ a u, F2 a u → F' a u ∧ (F a u ∨ w.heap.size ≤ a.block) := fun a u h => by rw [← hF2] at h; exact h
 have hle2 : F.le F2 := fun a u h => by rw [← hF2]; exact ⟨hx.le _ _ (hle1 _ _ h), .inl h⟩
 have hok2 : F2.ok w' := ⟨fun a u h => hm'.facts a u (h2i a u h).1, hm.facts.glob.mono hle2⟩
 have hgK : ∀ k, k ∈ K → get ((ob1.filter fun p => K.contains p.1) ++ ob) k = get ob1 k := fun k hk => by
  rw [get_append, get_filt, if_pos hk]
  cases get ob1 k with
  | some o => rfl
  | none => exact (hK k hk).1
 have hgN : ∀ k, k ∉ K → get ((ob1.filter fun p => K.contains p.1) ++ ob) k = get ob k := fun k hk => by rw [get_append, get_filt, if_neg hk]
 have cN : ∀ {x : AV} {v : Value}, AV.inn K x = true ∧ AV.flatR x = true → AR F' ρ' ob1 x v → AR F2 (fun k => if k ∈ K then ρ' k else ρ k) ((ob1.filter fun p => K.contains p.1) ++ ob) x v := fun {x v} hi ha =>
  (ha.flatR (F' := F2) hi.2).lift _ (AV.all1_in hi.1) fun y u hq h => h.cong fun k hk => ⟨by simp [hq k hk], fun o ho => by rw [hgK k (hq k hk)] at ho; exact ho⟩
 have cO : ∀ {x : AV} {v : Value}, (∀ k ∈ K, AV.names k x = false) → AR F ρ ob x v → AR F2 (fun k => if k ∈ K then ρ' k else ρ k) ((ob1.filter fun p => K.contains p.1) ++ ob) x v := fun {x v} hi ha =>
  (ha.mono hle2).lift _ (AV.all1_no hi) fun y u hq h => h.cong fun k hk => ⟨by simp [hq k hk], fun o ho => by rw [hgN k (hq k hk)] at ho; exact ho⟩
 refine ⟨qs, rfl, F2, fun k => if k ∈ K then ρ' k else ρ k, ⟨hok2, Nat.le_trans hm.big hm'.big, fun k o h1 h2 => ?_, fun k o p h1 h2 => ?_, fun k o p h1 h2 a u hu => ?_, fun k o p k' o' p' h1 h2 h3 h4 h5 => ?_⟩, fun i v hi hv => ?_, ?_, ⟨hle2, hx.below.mono hm.big, fun a u hu => ?_⟩⟩
 ·by_cases hk : k ∈ K
  ·rw [hgK k hk] at h1; rw [if_pos hk] at h2; exact hm'.bare k o h1 h2
  ·rw [hgN k hk] at h1; rw [if_neg hk] at h2; exact hm.bare k o h1 h2
 ·by_cases hk : k ∈ K
  ·rw [hgK k hk] at h1; rw [if_pos hk] at h2
   obtain ⟨g1, g2⟩ := hm'.own k o p h1 h2
   exact ⟨Nat.le_trans hm.big g1, g2.imp fun r hr x hxx v hv => cN (hin k o hk h1 r hr x hxx) hv⟩
  ·rw [hgN k hk] at h1; rw [if_neg hk] at h2
   obtain ⟨g1, g2⟩ := hm.own k o p h1 h2
   rw [hx.below.block _ (hm.lt h1 h2)]
   exact ⟨g1, g2.imp fun r hr x hxx v hv => cO (fun j hj => nmOb_mem (hK j hj).2.2 h1 r hr x hxx) hv⟩
 ·by_cases hk : k ∈ K
  ·rw [hgK k hk] at h1; rw [if_pos hk] at h2; exact hm'.apart k o p h1 h2 a u (h2i a u hu).1
  ·rw [hgN k hk] at h1; rw [if_neg hk] at h2
   rcases (h2i a u hu).2 with h3 | h3
   ·exact hm.apart k o p h1 h2 a u h3
   ·have := hm.lt h1 h2; omega
 ·by_cases hk : k ∈ K
  ·rw [hgK k hk] at h1; rw [if_pos hk] at h2
   by_cases hk' : k' ∈ K
   ·rw [hgK k' hk'] at h3; rw [if_pos hk'] at h4; exact hm'.inj k o p k' o' p' h1 h2 h3 h4 h5
   ·rw [hgN k' hk'] at h3; rw [if_neg hk'] at h4
    have a1 := (hm'.own k o p h1 h2).1
    have a2 := hm.lt h3 h4
    omega
  ·rw [hgN k hk] at h1; rw [if_neg hk] at h2
   by_cases hk' : k' ∈ K
   ·rw [hgK k' hk'] at h3; rw [if_pos hk'] at h4
    have a1 := (hm'.own k' o' p' h3 h4).1
    have a2 := hm.lt h1 h2
    omega
   ·rw [hgN k' hk'] at h3; rw [if_neg hk'] at h4; exact hm.inj k o p k' o' p' h1 h2 h3 h4 h5
 ·have := hf i v hv
  rw [if_neg (by omega)] at this
  exact cO (fun j hj => nmFr_mem (hK j hj).2.1 hv) this
 ·refine All2.of_get hr'.length fun i v hi => ?_
  obtain ⟨u, h1, h2⟩ := hr'.get? i v hi
  exact ⟨u, h1, cN (hrin v (List.mem_of_getElem? hi)) h2⟩
 ·rcases (h2i a u hu).2 with h3 | h3
  ·exact .inl h3
  ·exact .inr (Nat.le_trans hm.big h3)
theorem borPt_mono {n : Nat} {K : List Nat} {S : St → Option (List AV × List (Nat × Obj))} (s : St) (rs : List AV) (ob : List (Nat × Obj)) (R : List Nat) (hR : ∀ r ∈ R, GB ≤ r) (hs : borPt n K S s = some (rs, ob)) : borPt n K S ⟨dels R s.fr, s.ob⟩ = some (rs, ob) := by
 have hgd : ∀ i, i < GB → get (dels R s.fr) i = get s.fr i := fun i hi => by rw [get_dels, if_neg fun h => by have := hR _ h; omega]
 have ha : ∀ c i, i + c ≤ GB → argsF (dels R s.fr) i c = argsF s.fr i c := by
  intro c
  induction c with
  | zero => intro i _; rfl
  | succ c ih => intro i hi; simp only [argsF]; rw [hgd i (by omega), ih (i + 1) (by omega)]
 have hfz : ∀ vs, St.frzs ⟨dels R s.fr, s.ob⟩ vs = s.frzs vs := by
  intro vs
  induction vs with
  | nil => rfl
  | cons v vs ih =>
   simp only [St.frzs, ih]
   rfl
 have hnf : ∀ k, nmFr k s.fr = true → nmFr k (dels R s.fr) = true := fun k h => by
  rw [← nmFr_all, List.all_eq_true] at h ⊢
  exact fun p hp => h p (mem_dels hp).1
 unfold borPt at hs ⊢
 split at hs
 case isFalse => simp at hs
 rename_i h0
 rw [if_pos (by rw [hgd n h0.1]; exact h0), ha n 0 (by omega)]
 split at hs
 case h_2 => simp at hs
 rename_i vs h1
 simp only [hfz]
 split at hs
 case h_2 => simp at hs
 rename_i ds ks h2
 split at hs
 case h_2 => simp at hs
 rename_i rs0 ob1 h3
 split at hs
 case isFalse => simp at hs
 rename_i h4
 have h5 : (K.all fun k => (get s.ob k).isNone && nmFr k (dels R s.fr) && nmOb k s.ob) = true := by
  have := h4.2.2
  simp only [List.all_eq_true, Bool.and_eq_true] at this ⊢
  exact fun k hk => ⟨⟨(this k hk).1.1, hnf k (this k hk).1.2⟩, (this k hk).2⟩
 exact (if_pos ⟨h4.1, h4.2.1, h5⟩).trans hs
theorem borPt_eq {n : Nat} {K : List Nat} {S : St → Option (List AV × List (Nat × Obj))} {s : St} {vs ds rs : List AV} {ks : List Nat} {ob1 : List (Nat × Obj)} (hn : n < GB) (h0 : get s.fr n = none) (h1 : argsF s.fr 0 n = some vs) (h2 : s.frzs vs = some (ds, ks)) (h3 : S ⟨numF 0 ds, []⟩ = some (rs, ob1))
  (h4 : ((ob1.filter fun p => K.contains p.1).all fun p => p.2.rows.all fun r => r.all fun v => v.inn K && v.flatR) = true) (h5 : (rs.all fun v => v.inn K && v.flatR) = true) (h6 : (K.all fun k => (get s.ob k).isNone && nmFr k s.fr && nmOb k s.ob) = true) :
  borPt n K S s = some (rs, (ob1.filter fun p => K.contains p.1) ++ s.ob) := by
 unfold borPt
 rw [if_pos ⟨hn, by rw [h0]; rfl⟩, h1]
 simp only [h2, h3]
 exact if_pos ⟨h4, h5, h6⟩
end Go.Am
