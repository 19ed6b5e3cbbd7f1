/- A copy of a slice that is only read: slices.Clone, as a function from outside of the table. -/
import Derived.Test.YtiabedphaioidaaAs
import Derived.Shelf.SlicesE.Clone
set_option linter.unusedVariables false
set_option linter.unusedSimpArgs false
namespace Go.Am
open Go.Proofs Go.Shelf Go.RowKit
def cloneDPt (key k : Nat) (s : St) : Option (List AV × List (Nat × Obj)) :=
  match get s.fr 0, get s.fr 1 with
  | some (.c (.vs sz rows)), none => if sz = k ∧ rows.length ≤ 1000000 ∧ s.free key = true then some ([.sl key rows.length 0 rows.length], (key, ⟨k, rows.map toAV⟩) :: del s.ob key) else none
  | _, _ => none
set_option maxHeartbeats 2000000 in
set_option maxRecDepth 100000 in
/-- A copy of a slice that is not nil, whatever its address. -/
theorem clone_at {P : Program} {τ : Ren} (L : SlLaysE0.n41 P τ) (i0 : TypeInfo) (z : Value) (size bytes : Nat) (hi : P.info? (τ.t 23) = some i0) (hz0 : i0.zero = some z) (hz1 : i0.size = size) (hz2 : i0.bytes = bytes) (hzs : z.cells.size = size) (hsz : 0 < size)
    (z23 : ∀ w, (Go.sizeOf (τ.t 23)).run P w = .ok size w) (ad : Addr) (n c : Nat) (news : List Value) (w : World) (hl : news.length = n * size) (hn : n ≤ maxLen) (hbig : n * bytes ≤ 140737488355328)
    (hc : ∀ j u, news[j]? = some u → w.cell? (ad.add j) = some u) (h1 : ∀ u ∈ news, u.oneCell' = true) :
    Calls P (τ.f 41) #[.slice (some ad) n c] w fun e w' => ∃ v', e = .returned v' ∧ w'.ownsRow w.heap.size (τ.t 23) size v' n news ∧ Below w.heap.size w w' := by
  have mixed := L.mixed; have t4 := L.t4; have a4 := L.a4; have z4 := L.z4; have v4 := L.v4; have t22 := L.t22; have a22 := L.a22; have z22 := L.z22; have v22 := L.v22
  have q22 : ∀ (w : World) (a : Option Addr) (n c n' c' : Nat), (binOp .eql (τ.t 22) (.slice a n c) (.slice none n' c')).run P w = .ok (.bool a.isNone) w := fun w a n c n' c' => Lib.run_eql_slice_nil w _ _ a n c n' c' L.t22
  have u22 : ∀ w, Sem.run P (underlying (τ.t 22)) w = .ok (TypeDesc.slice (τ.t 23)) w := run_underlying t22
  have A : Aside (∀ j u, news[j]? = some u → w.cell? (ad.add j) = some u) := hc
  clear hc
  obtain ⟨_, _, FG⟩ := L.f41
  go_enter FG, SlBodyN.n41_ntmps τ
  go_wp2_with (at_builtin; refine wpList_append_own _ rfl _ _ (τ.t 22) rfl w.heap.size (τ.t 23) i0 z size bytes t22 hi hz0 hz1 hz2 hzs hsz _ _ _ rfl (World.ownsRow_made w #[] 0 (Nat.le_refl _) (Nat.zero_le _) (by simp)) ad n c news rfl ?qc1 ?qc2 ?qc3 ?qc4 ?qc5 ?qc6 ?_)
  case qc1 => exact hl
  case qc2 => exact fun j u hj => Lib.cell?_alloc_some _ (A.out j u hj)
  case qc3 => exact h1
  case qc4 => rw [Nat.zero_add]; exact hn
  case qc5 => rw [Nat.zero_add]; exact hbig
  case qc6 => simp
  intro v' w1 hown hgrow hnil
  go_wp2
  go_ret
  exact ⟨v', rfl, by simpa using hown, ((Below.refl _ w).alloc (Nat.le_refl _) _).grown hgrow (by simp) (by intro k hk; simp [Value.ownBlock] at hk; omega)⟩
theorem flat_get {α : Type} (k : Nat) : ∀ (rows : List (List α)), (∀ r ∈ rows, r.length = k) → rows.flatten.length = rows.length * k ∧ ∀ (i : Nat) (r : List α) (j : Nat) (x : α), rows[i]? = some r → r[j]? = some x → rows.flatten[i * k + j]? = some x
  | [], _ => by simp
  | r0 :: rows, h => by
    obtain ⟨h1, h2⟩ := flat_get k rows fun r hr => h r (by simp [hr])
    have h0 := h r0 (by simp)
    refine ⟨by rw [List.flatten_cons, List.length_append, h1, h0, List.length_cons, Nat.add_mul, Nat.one_mul]; omega, fun i r j x hi hj => ?_⟩
    rw [List.flatten_cons]
    cases i with
    | zero =>
      simp only [List.getElem?_cons_zero, Option.some.injEq] at hi; subst hi
      have := (List.getElem?_eq_some_iff.1 hj).1
      rw [List.getElem?_append_left (by omega)]; simpa using hj
    | succ i =>
      rw [List.getElem?_cons_succ] at hi
      have e : (i + 1) * k + j = i * k + j + k := by rw [Nat.add_mul, Nat.one_mul]; omega
      rw [List.getElem?_append_right (by omega), h0, e, Nat.add_sub_cancel]
      exact h2 i r j x hi hj
theorem flat_back {α : Type} (k : Nat) : ∀ (rows : List (List α)), (∀ r ∈ rows, r.length = k) → ∀ (q : Nat) (x : α), rows.flatten[q]? = some x → ∃ i r j, rows[i]? = some r ∧ r[j]? = some x ∧ q = i * k + j
  | [], _, q, x, h => by simp at h
  | r0 :: rows, h, q, x, hq => by
    have h0 := h r0 (by simp)
    rw [List.flatten_cons] at hq
    rcases Nat.lt_or_ge q r0.length with h1 | h1
    · rw [List.getElem?_append_left h1] at hq
      exact ⟨0, r0, q, rfl, hq, by simp⟩
    · rw [List.getElem?_append_right h1] at hq
      obtain ⟨i, r, j, h2, h3, h4⟩ := flat_back k rows (fun r hr => h r (by simp [hr])) _ x hq
      exact ⟨i + 1, r, j, by simpa using h2, h3, by rw [Nat.add_mul, Nat.one_mul]; omega⟩
theorem clone_specP {P : Program} {τ : Ren} (L : SlLaysE0.n41 P τ) (i0 : TypeInfo) (z : Value) (k bytes : Nat) (hi : P.info? (τ.t 23) = some i0) (hz0 : i0.zero = some z) (hz1 : i0.size = k) (hz2 : i0.bytes = bytes) (hzs : z.cells.size = k) (hk : 0 < k) (hby : bytes ≤ 1000)
    (z23 : ∀ w, (Go.sizeOf (τ.t 23)).run P w = .ok k w) (key : Nat) (hkey : key < KT) : SpecP P (τ.f 41) (cloneDPt key k) := by
  intro γ B F ρ fr ob w us rs ob' hn hal hm hf h
  unfold cloneDPt at h
  split at h
  case h_2 => simp at h
  rename_i sz rows h0 h1
  simp only at h0 h1
  split at h
  case isFalse => simp at h
  rename_i hc
  obtain ⟨rfl, hlen, hfree⟩ := hc
  simp only [Option.some.injEq, Prod.mk.injEq] at h
  obtain ⟨rfl, rfl⟩ := h
  have hG : (0 : Nat) < GB := by decide
  have hMK : key < MK := Nat.lt_trans hkey (by decide)
  have hv := hf 0 _ h0
  rw [if_pos hG] at hv
  have hv : DR F (.vs sz rows) (us.getD 0 undef) := hv
  have hu : ∃ u, us = [u] ∧ us.getD 0 undef = u := by
    match us, hal, hv with
    | [], _, hv => exfalso; have hv : DR F (.vs sz rows) undef := hv; cases hv
    | [u], _, _ => exact ⟨u, rfl, rfl⟩
    | u :: v :: r, hal, _ =>
      obtain ⟨v, hv⟩ := hal 1 (by simp)
      rw [h1] at hv; simp at hv
  obtain ⟨u, rfl, hu⟩ := hu
  rw [hu] at hv
  clear hu
  have hcall : ∀ {p' : Option Place} {o' : Obj}, ∀ i v, GB ≤ i → get fr i = some v → AR F (updM ρ key p') ((⟨fr, ob⟩ : St).obj key o').ob v (γ.getD (i - GB) undef) := by
    intro p' o' i v hi hv
    have h2 := hf i v hv
    rw [if_neg (by omega)] at h2
    exact h2.upd ((free_spec hfree).1 i v hv) (fun k hk => updM_other _ hk) (fun k hk => obj_other hk)
  cases hv with
  | vs _ _ a cap ad uu hcap ha hsz hff hdd =>
    cases a with
    | none =>
      have hr : rows = [] := by
        cases rows with
        | nil => rfl
        | cons r l => have := ha (by simp); simp at this
      subst hr
      refine (AnyE.slices_Clone_nil L _ cap w).mono ?_
      rintro e w' ⟨rfl, rfl⟩
      refine ⟨[.slice none 0 0], rfl, F, updM ρ key none, hm.newBare (s := ⟨fr, ob⟩) hfree, hcall, .cons ?_ .nil, .refl _ _ _⟩
      refine ⟨hMK, fun o ho => ?_⟩
      have : get ((⟨fr, ob⟩ : St).obj key ⟨sz, []⟩).ob key = some ⟨sz, []⟩ := obj_same
      have ho : get ((⟨fr, ob⟩ : St).obj key ⟨sz, []⟩).ob key = some o := ho
      rw [this] at ho; simp only [Option.some.injEq] at ho; subst ho
      refine ⟨by simp, fun _ _ => ?_⟩
      unfold SlR
      rw [updM_same]
      exact ⟨rfl, rfl⟩
    | some a0 =>
      have hadr : rows ≠ [] → a0 = ad := fun h => by have := ha h; simpa using this
      -- the cells, one behind the other
      obtain ⟨vals, hvl, hvg⟩ : ∃ vals : List (List Value), vals.length = rows.length ∧ ∀ i r, rows[i]? = some r → ∃ vs, vals[i]? = some vs ∧ vs.length = sz ∧ ∀ j x, r[j]? = some x → vs[j]? = some (uu i j) := by
        refine ⟨(List.range rows.length).map fun i => (List.range sz).map fun j => uu i j, by simp, fun i r hi => ?_⟩
        have hil := (List.getElem?_eq_some_iff.1 hi).1
        refine ⟨(List.range sz).map fun j => uu i j, by simp [hil], by simp, fun j x hj => ?_⟩
        have := hsz r (List.mem_of_getElem? hi)
        have hjl := (List.getElem?_eq_some_iff.1 hj).1
        simp [show j < sz by omega]
      have hvk : ∀ vs ∈ vals, vs.length = sz := fun vs hvs => by
        obtain ⟨i, hi⟩ := List.getElem?_of_mem hvs
        have hil := (List.getElem?_eq_some_iff.1 hi).1
        obtain ⟨vs', h1, h2, _⟩ := hvg i rows[i] (List.getElem?_eq_getElem (by omega))
        rw [hi] at h1; simp only [Option.some.injEq] at h1; subst h1; exact h2
      obtain ⟨f1, f2⟩ := flat_get sz vals hvk
      have fb := flat_back sz vals hvk
      have hcell : ∀ q v, vals.flatten[q]? = some v → w.cell? (ad.add q) = some v ∧ v.oneCell' = true := by
        intro q v hq
        obtain ⟨i, vs, j, h1, h2, rfl⟩ := fb q v hq
        have hil := (List.getElem?_eq_some_iff.1 h1).1
        have hr := List.getElem?_eq_getElem (show i < rows.length by omega)
        obtain ⟨vs', h3, h4, h5⟩ := hvg i _ hr
        rw [h1] at h3; simp only [Option.some.injEq] at h3; subst h3
        have hjl := (List.getElem?_eq_some_iff.1 h2).1
        have hrl := hsz rows[i] (List.getElem_mem _)
        have hx := List.getElem?_eq_getElem (show j < rows[i].length by omega)
        have h6 := h5 j _ hx
        rw [h2] at h6; simp only [Option.some.injEq] at h6; subst h6
        exact ⟨hm.facts _ _ (hff i _ j _ hr hx), (hdd i _ j _ hr hx).one⟩
      have hcell2 : ∀ q v, vals.flatten[q]? = some v → w.cell? (a0.add q) = some v := by
        intro q v hq
        have hr : rows ≠ [] := by
          rintro rfl
          have : vals = [] := List.eq_nil_of_length_eq_zero (by simpa using hvl)
          subst this; simp at hq
        rw [hadr hr]; exact (hcell q v hq).1
      rw [hvl] at f1
      refine (clone_at L i0 z sz bytes hi hz0 hz1 hz2 hzs hk z23 a0 rows.length cap vals.flatten w f1 (by unfold maxLen; omega) (by have := Nat.mul_le_mul hlen hby; omega) hcell2 (fun u hu => by
        obtain ⟨q, hq⟩ := List.getElem?_of_mem hu
        exact (hcell q u hq).2)).mono ?_
      rintro e w' ⟨v', rfl, ⟨_, hown⟩, hbel⟩
      rcases hown with ⟨rfl, hn0⟩ | ⟨g, cap', cur, rfl, hg, hhg, hcap', _, hcs, htk⟩
      · have hr0 : rows = [] := List.eq_nil_of_length_eq_zero hn0
        subst hr0
        refine ⟨[.slice none 0 0], rfl, F, updM ρ key none, ?_, hcall, (.cons ?_ .nil), ⟨.refl F, hbel.mono hm.big, fun _ _ h => .inl h⟩⟩
        · exact (hm.below hbel).newBare (s := ⟨fr, ob⟩) hfree
        · refine ⟨hMK, fun o ho => ?_⟩
          have : get ((⟨fr, ob⟩ : St).obj key ⟨sz, []⟩).ob key = some ⟨sz, []⟩ := obj_same
          have ho : get ((⟨fr, ob⟩ : St).obj key ⟨sz, []⟩).ob key = some o := ho
          rw [this] at ho; simp only [Option.some.injEq] at ho; subst ho
          refine ⟨by simp, fun _ _ => ?_⟩
          unfold SlR
          rw [updM_same]
          exact ⟨rfl, rfl⟩
      · have hgB : B ≤ g := Nat.le_trans hm.big hg
        have hsz0 : (rows.map toAV).length = rows.length := by simp
        have hm1 : Mem B F ρ (⟨fr, ob⟩ : St).ob w := hm
        have hT : ∀ k o, k ≠ key → get ob k = some o → ∀ r ∈ o.rows, ∀ x ∈ r, ∀ v, AR F ρ ob x v → AR F (updM ρ key (some ⟨g, sz, cap'⟩)) ((⟨fr, ob⟩ : St).obj key ⟨sz, rows.map toAV⟩).ob x v := fun k o hk ho r hr x hx v hv => hv.upd ((free_spec hfree).2 k o hk ho r hr x hx) (fun k hk => updM_other _ hk) (fun k hk => obj_other hk)
        have hMem := Mem.change (s := ⟨fr, ob⟩) (o' := ⟨sz, rows.map toAV⟩) (p' := ⟨g, sz, cap'⟩) (et := τ.t 23) (w' := w') hMK (fun h => by omega) hm1 hgB (.inr hg) hbel.size (fun k hk _ => hbel.block k hk) hhg hcs (by rw [hsz0]; exact hcap') rfl (fun r hr => by
          obtain ⟨r', hr', rfl⟩ := List.mem_map.1 hr
          simp [toAV, hsz r' hr']) hT (fun i r j x hi hj => by
          simp only [List.getElem?_map, Option.map_eq_some_iff] at hi
          obtain ⟨r', hr', rfl⟩ := hi
          simp only [toAV, List.getElem?_map, Option.map_eq_some_iff] at hj
          obtain ⟨d, hd, rfl⟩ := hj
          obtain ⟨vs, h2, h3, h4⟩ := hvg i r' hr'
          have h5 := f2 i vs j _ h2 (h4 j d hd)
          refine ⟨rfl, uu i j, ?_, hdd i r' j d hr' hd⟩
          have hlt := (List.getElem?_eq_some_iff.1 h5).1
          rw [← htk] at h5
          rw [List.getElem?_take] at h5
          split at h5
          · simpa using h5
          · simp at h5)
        refine ⟨[.slice (some ⟨g, 0, none⟩) rows.length cap'], rfl, F, updM ρ key (some ⟨g, sz, cap'⟩), hMem, hcall, (.cons ?_ .nil), ⟨.refl F, hbel.mono hm.big, fun _ _ h => .inl h⟩⟩
        exact sl_ar (ob' := ((⟨fr, ob⟩ : St).obj key ⟨sz, rows.map toAV⟩).ob) hMK (p := ⟨g, sz, cap'⟩) hsz0 obj_same (updM_same _ _) hcap'
theorem clone_mono (key k : Nat) (s : St) (rs : List AV) (ob : List (Nat × Obj)) (R : List Nat) (hR : ∀ r ∈ R, GB ≤ r) (h : cloneDPt key k s = some (rs, ob)) : cloneDPt key k ⟨dels R s.fr, s.ob⟩ = some (rs, ob) := by
  have hG : (1 : Nat) < GB := by decide
  have e0 : get (dels R s.fr) 0 = get s.fr 0 := by rw [get_dels, if_neg fun h => by have := hR _ h; omega]
  have e1 : get (dels R s.fr) 1 = get s.fr 1 := by rw [get_dels, if_neg fun h => by have := hR _ h; omega]
  unfold cloneDPt at h ⊢
  simp only [e0, e1]
  split at h
  · rename_i sz rows h0 h1
    (try rw [h0, h1])
    (try simp only)
    split at h
    · rename_i hc
      rw [if_pos ⟨hc.1, hc.2.1, free_less R hc.2.2⟩]; exact h
    · simp at h
  · simp at h
end Go.Am
