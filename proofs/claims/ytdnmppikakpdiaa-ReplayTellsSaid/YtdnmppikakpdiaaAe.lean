/- New objects, stores, append. -/
import Derived.Test.YtdnmppikakpdiaaAd
set_option linter.unusedVariables false
namespace Go.Am
open Go.RowKit
section
variable {P : Program} {B : Nat} {F F' : Facts} {ρ ρ' : Map} {s : St} {a : Go.Act} {w w' : World} {o : Oper} {ob ob' : List (Nat × Obj)}

def updM (ρ : Map) (key : Nat) (p : Option Place) : Map := fun k => if k = key then p else ρ k
theorem updM_same (key : Nat) (p : Option Place) : updM ρ key p key = p := by simp [updM]
theorem updM_other {key k : Nat} (p : Option Place) (h : k ≠ key) : updM ρ key p k = ρ k := by simp [updM, h]
theorem get_mem {α : Type} : ∀ {l : List (Nat × α)} {i : Nat} {v : α}, get l i = some v → (i, v) ∈ l
  | [], i, v, h => by simp [get] at h
  | (k, x) :: l, i, v, h => by
    simp only [get] at h
    split at h
    · rename_i hk; subst hk; simp only [Option.some.injEq] at h; subst h; simp
    · exact List.mem_cons_of_mem _ (get_mem h)
theorem free_spec {key : Nat} (h : s.free key = true) : (∀ i v, get s.fr i = some v → v.names key = false) ∧ ∀ k o, k ≠ key → get s.ob k = some o → ∀ r ∈ o.rows, ∀ x ∈ r, x.names key = false := by
  unfold St.free at h
  simp only [Bool.and_eq_true, List.all_eq_true, Bool.not_eq_true'] at h
  refine ⟨fun i v hi => h.1 _ (get_mem hi), fun k o hk ho r hr x hx => ?_⟩
  have : get (del s.ob key) k = some o := by rw [get_del, if_neg hk]; exact ho
  exact h.2 _ (get_mem this) r hr x hx
theorem noLoc_spec {key : Nat} (h : s.noLoc key = true) : (∀ i v, get s.fr i = some v → v.isLoc key = false) ∧ ∀ k o, get s.ob k = some o → ∀ r ∈ o.rows, ∀ x ∈ r, x.isLoc key = false := by
  unfold St.noLoc at h
  simp only [Bool.and_eq_true, List.all_eq_true, Bool.not_eq_true'] at h
  exact ⟨fun i v hi => h.1 _ (get_mem hi), fun k o ho r hr x hx => h.2 _ (get_mem ho) r hr x hx⟩

/-- One object changes, or is new; all else stays. -/
theorem Mem.changeG {key : Nat} {o' : Obj} {p' : Place} (hm : Mem B F ρ s.ob w) (hB : B ≤ p'.g)
    (hp1 : ∀ k o p, key ≠ k → get s.ob k = some o → ρ k = some p → p.g ≠ p'.g) (hp2 : ∀ a u, F a u → a.block ≠ p'.g)
    (hsize : w.heap.size ≤ w'.heap.size) (hblk : ∀ k, k < w.heap.size → k ≠ p'.g → w'.heap[k]? = w.heap[k]?)
    (hT : ∀ k o, k ≠ key → get s.ob k = some o → ∀ r ∈ o.rows, ∀ x ∈ r, ∀ v, AR F ρ s.ob x v → AR F (updM ρ key (some p')) (s.obj key o').ob x v)
    (hc : Cont F (updM ρ key (some p')) (s.obj key o').ob w'.heap[p'.g]? key o' p') :
    Mem B F (updM ρ key (some p')) (s.obj key o').ob w' where
  facts := ⟨fun ad u hu => by
    have h0 := hm.facts ad u hu
    have hlt := cell?_lt h0
    have hne : ad.block ≠ p'.g := hp2 ad u hu
    rw [World.cell?_of_block (hblk _ hlt hne)]; exact h0, hm.facts.glob⟩
  big := Nat.le_trans hm.big hsize
  bare := fun k o ho hk => by
    rw [get_obj] at ho
    by_cases h : key = k
    · subst h; rw [updM_same] at hk; simp at hk
    · rw [if_neg h] at ho
      rw [updM_other _ (Ne.symm h)] at hk
      exact hm.bare k o ho hk
  own := fun k o p ho hk => by
    rw [get_obj] at ho
    by_cases h : key = k
    · subst h
      rw [if_pos rfl] at ho
      rw [updM_same] at hk
      simp only [Option.some.injEq] at ho hk
      subst ho; subst hk
      exact ⟨hB, hc⟩
    · rw [if_neg h] at ho
      rw [updM_other _ (Ne.symm h)] at hk
      obtain ⟨g1, g2⟩ := hm.own k o p ho hk
      have hlt := hm.lt ho hk
      have hne : p.g ≠ p'.g := hp1 k o p h ho hk
      rw [hblk _ hlt hne]
      exact ⟨g1, g2.imp fun r hr x hx v hv => hT k o (Ne.symm h) ho r hr x hx v hv⟩
  apart := fun k o p ho hk ad u hu => by
    rw [get_obj] at ho
    by_cases h : key = k
    · subst h
      rw [updM_same] at hk
      simp only [Option.some.injEq] at hk; subst hk
      exact hp2 ad u hu
    · rw [if_neg h] at ho
      rw [updM_other _ (Ne.symm h)] at hk
      exact hm.apart k o p ho hk ad u hu
  inj := fun k o p k2 o2 p2 ho hk ho2 hk2 he => by
    rw [get_obj] at ho ho2
    have key_ := hp1
    by_cases h : key = k <;> by_cases h2 : key = k2
    · rw [← h, ← h2]
    · subst h
      rw [if_neg h2] at ho2
      rw [updM_other _ (Ne.symm h2)] at hk2
      rw [updM_same] at hk
      simp only [Option.some.injEq] at hk; subst hk
      exact absurd he.symm (key_ k2 o2 p2 h2 ho2 hk2)
    · subst h2
      rw [if_neg h] at ho
      rw [updM_other _ (Ne.symm h)] at hk
      rw [updM_same] at hk2
      simp only [Option.some.injEq] at hk2; subst hk2
      exact absurd he (key_ k o p h ho hk)
    · rw [if_neg h] at ho
      rw [if_neg h2] at ho2
      rw [updM_other _ (Ne.symm h)] at hk
      rw [updM_other _ (Ne.symm h2)] at hk2
      exact hm.inj k o p k2 o2 p2 ho hk ho2 hk2 he
theorem Mem.changeC {key : Nat} {o' : Obj} {p' : Place} (hm : Mem B F ρ s.ob w) (hB : B ≤ p'.g)
    (hpg : (∃ o p, get s.ob key = some o ∧ ρ key = some p ∧ p.g = p'.g) ∨ w.heap.size ≤ p'.g)
    (hsize : w.heap.size ≤ w'.heap.size) (hblk : ∀ k, k < w.heap.size → k ≠ p'.g → w'.heap[k]? = w.heap[k]?)
    (hT : ∀ k o, k ≠ key → get s.ob k = some o → ∀ r ∈ o.rows, ∀ x ∈ r, ∀ v, AR F ρ s.ob x v → AR F (updM ρ key (some p')) (s.obj key o').ob x v)
    (hc : Cont F (updM ρ key (some p')) (s.obj key o').ob w'.heap[p'.g]? key o' p') :
    Mem B F (updM ρ key (some p')) (s.obj key o').ob w' := by
  refine hm.changeG hB (fun k o p h ho hk => ?_) (fun ad u hu => ?_) hsize hblk hT hc
  · rcases hpg with ⟨o0, p0, q1, q2, q3⟩ | hge
    · intro he
      exact h (hm.inj key o0 p0 k o p q1 q2 ho hk (by rw [q3, he]))
    · have := hm.lt ho hk; omega
  · rcases hpg with ⟨o, p, g1, g2, g3⟩ | hge
    · rw [← g3]; exact hm.apart key o p g1 g2 ad u hu
    · have := cell?_lt (hm.facts ad u hu); omega
theorem Mem.change {key : Nat} {o' : Obj} {p' : Place} {cs : Array Value} {et : TypeId} (hK : key < MK) (hty : KT ≤ key → et + 1 = key / KT) (hto : KT ≤ key → p'.o = 0) (hm : Mem B F ρ s.ob w) (hB : B ≤ p'.g)
    (hpg : (∃ o p, get s.ob key = some o ∧ ρ key = some p ∧ p.g = p'.g) ∨ w.heap.size ≤ p'.g)
    (hsize : w.heap.size ≤ w'.heap.size) (hblk : ∀ k, k < w.heap.size → k ≠ p'.g → w'.heap[k]? = w.heap[k]?)
    (hh : w'.heap[p'.g]? = some (.cells cs et (0, 0))) (hcs : cs.size = p'.o + p'.cap * p'.sz) (hcap : o'.rows.length ≤ p'.cap) (hsz : p'.sz = o'.sz) (hrl : ∀ r ∈ o'.rows, r.length = p'.sz)
    (hT : ∀ k o, k ≠ key → get s.ob k = some o → ∀ r ∈ o.rows, ∀ x ∈ r, ∀ v, AR F ρ s.ob x v → AR F (updM ρ key (some p')) (s.obj key o').ob x v)
    (hc : ∀ (i : Nat) (r : List AV) (j : Nat) (x : AV), o'.rows[i]? = some r → r[j]? = some x → x.one = true ∧ ∃ u, cs[p'.o + i * p'.sz + j]? = some u ∧ AR F (updM ρ key (some p')) (s.obj key o').ob x u) :
    Mem B F (updM ρ key (some p')) (s.obj key o').ob w' :=
  hm.changeC hB hpg hsize hblk hT ⟨fun _ => ⟨⟨hcap, hsz, hrl, cs, et, hh, hcs, hc⟩, fun h => ⟨hto h, fun cs' et' fz hb => by
    rw [hh] at hb; simp only [Option.some.injEq, Go.Obj.cells.injEq] at hb; rw [← hb.2.1]; exact hty h⟩⟩, fun h => by omega, fun h => by omega⟩
theorem Mem.change0 {key g sz cap : Nat} {o' : Obj} {cs : Array Value} {et : TypeId} (hK : key < MK) (hty : KT ≤ key → et + 1 = key / KT) (hm : Mem B F ρ s.ob w) (hB : B ≤ g)
    (hpg : (∃ o p, get s.ob key = some o ∧ ρ key = some p ∧ p.g = g) ∨ w.heap.size ≤ g)
    (hsize : w.heap.size ≤ w'.heap.size) (hblk : ∀ k, k < w.heap.size → k ≠ g → w'.heap[k]? = w.heap[k]?)
    (hh : w'.heap[g]? = some (.cells cs et (0, 0))) (hcs : cs.size = cap * sz) (hcap : o'.rows.length ≤ cap) (hsz : sz = o'.sz) (hrl : ∀ r ∈ o'.rows, r.length = sz)
    (hT : ∀ k o, k ≠ key → get s.ob k = some o → ∀ r ∈ o.rows, ∀ x ∈ r, ∀ v, AR F ρ s.ob x v → AR F (updM ρ key (some ⟨g, sz, cap, 0⟩)) (s.obj key o').ob x v)
    (hc : ∀ (i : Nat) (r : List AV) (j : Nat) (x : AV), o'.rows[i]? = some r → r[j]? = some x → x.one = true ∧ ∃ u, cs[i * sz + j]? = some u ∧ AR F (updM ρ key (some ⟨g, sz, cap, 0⟩)) (s.obj key o').ob x u) :
    Mem B F (updM ρ key (some ⟨g, sz, cap, 0⟩)) (s.obj key o').ob w' :=
  Mem.change (p' := ⟨g, sz, cap, 0⟩) hK hty (fun _ => rfl) hm hB hpg hsize hblk hh (by simpa using hcs) hcap hsz hrl hT (fun i r j x h1 h2 => by simpa using hc i r j x h1 h2)
/-- With fewer objects. -/
theorem Mem.fewer (hm : Mem B F ρ ob w) (hs : ∀ k o, get ob' k = some o → get ob k = some o) : Mem B F ρ ob' w where
  facts := hm.facts
  big := hm.big
  bare := fun k o h => hm.bare k o (hs k o h)
  own := fun k o p h1 h2 => by
    obtain ⟨g1, g2⟩ := hm.own k o p (hs k o h1) h2
    exact ⟨g1, g2.imp fun r hr x hx v hv => hv.sub hs⟩
  apart := fun k o p h1 h2 => hm.apart k o p (hs k o h1) h2
  inj := fun k o p k' o' p' h1 h2 h3 h4 => hm.inj k o p k' o' p' (hs k o h1) h2 (hs k' o' h3) h4
theorem del_sub (ob : List (Nat × Obj)) (k : Nat) : ∀ j o, get (del ob k) j = some o → get ob j = some o := fun j o h => by
  rw [get_del] at h
  split at h
  · simp at h
  · exact h
theorem del_memE {α : Type} {p : Nat × α} {k : Nat} : ∀ {l : List (Nat × α)}, p ∈ del l k → p ∈ l
  | [], h => by simp [del] at h
  | (j, v) :: l, h => by
    simp only [del] at h
    split at h
    · exact List.mem_cons_of_mem _ (del_memE h)
    · rcases List.mem_cons.1 h with rfl | h
      · simp
      · exact List.mem_cons_of_mem _ (del_memE h)
theorem del_commE {α : Type} (k j : Nat) : ∀ l : List (Nat × α), del (del l k) j = del (del l j) k
  | [] => rfl
  | (i, v) :: l => by
    have ih := del_commE k j l
    by_cases h1 : i = k <;> by_cases h2 : i = j
    · simp only [del, if_pos h1, if_pos h2]; exact ih
    · simp only [del, if_pos h1, if_neg h2]; exact ih
    · simp only [del, if_neg h1, if_pos h2]; exact ih
    · simp only [del, if_neg h1, if_neg h2]; rw [ih]
theorem free_del {key k : Nat} (h : s.free key = true) : St.free ⟨s.fr, del s.ob k⟩ key = true := by
  simp only [St.free, Bool.and_eq_true, List.all_eq_true, Bool.not_eq_true'] at h ⊢
  refine ⟨h.1, fun p hp => h.2 p ?_⟩
  rw [del_commE] at hp
  exact del_memE hp
theorem obj_other {key k : Nat} {o' : Obj} (h : k ≠ key) : get (s.obj key o').ob k = get s.ob k := by rw [get_obj, if_neg (Ne.symm h)]
theorem obj_same {key : Nat} {o' : Obj} : get (s.obj key o').ob key = some o' := by rw [get_obj, if_pos rfl]
/-- What a free key lets through. -/
theorem free_ar {key : Nat} {o' : Obj} {p' : Option Place} (h : s.free key = true) : (∀ k o, k ≠ key → get s.ob k = some o → ∀ r ∈ o.rows, ∀ x ∈ r, ∀ v, AR F ρ s.ob x v → AR F (updM ρ key p') (s.obj key o').ob x v) ∧
    (Fr F ρ s.ob s.fr a → Fr F (updM ρ key p') (s.obj key o').ob s.fr a) := by
  obtain ⟨h1, h2⟩ := free_spec h
  exact ⟨fun k o hk ho r hr x hx v hv => hv.upd (h2 k o hk ho r hr x hx) (fun k hk => updM_other _ hk) (fun k hk => obj_other hk),
    fun hf i v hi => (hf i v hi).upd (h1 i v hi) (fun k hk => updM_other _ hk) (fun k hk => obj_other hk)⟩

theorem DR.one {d : D} {v : Value} (h : DR F d v) : v.oneCell' = true := by cases h <;> first | rfl | exact (Oth.one (by assumption)).1
theorem DR.cells {d : D} {v : Value} (h : DR F d v) : v.cells = #[v] := by cases h <;> first | rfl | exact (Oth.one (by assumption)).2
theorem cellsOf_sound {x : AV} {cs : List AV} {v : Value} (h : s.cellsOf x = some cs) (hr : AR F ρ s.ob x v) :
    ∃ us : List Value, v.cells = us.toArray ∧ All2 (AR F ρ s.ob) cs us ∧ (∀ u ∈ us, u.oneCell' = true) ∧ (∀ c ∈ cs, c.one = true) ∧ (∀ key, x.names key = false → ∀ c ∈ cs, c.names key = false) := by
  unfold St.cellsOf at h
  split at h
  · rename_i d
    simp only [Option.some.injEq] at h; subst h
    exact ⟨[v], DR.cells hr, .cons hr .nil, by simp [DR.one hr], by simp [AV.one], by simp [AV.names, AV.names1]⟩
  · rename_i ds
    simp only [Option.some.injEq] at h; subst h
    obtain ⟨us, rfl, hus⟩ := hr
    refine ⟨us, rfl, ?_, ?_, ?_, ?_⟩
    · refine All2.of_get (by simp [boxAV, hus.length]) fun i c hc => ?_
      simp only [boxAV, List.getElem?_map, Option.map_eq_some_iff] at hc
      obtain ⟨d, hd, rfl⟩ := hc
      obtain ⟨u, hu, hdr⟩ := hus.get? i d hd
      refine ⟨u, hu, ?_⟩
      cases d with
      | nil sz => cases hdr with | nil _ => rfl
      | ot x => cases hdr with | ot _ _ h => exact h
      | _ => exact hdr
    · intro u hu
      obtain ⟨i, hi⟩ := List.getElem?_of_mem hu
      have hlt := (List.getElem?_eq_some_iff.1 hi).1
      have hd : ds[i]? = some (ds[i]'(by rw [hus.length]; exact hlt)) := List.getElem?_eq_getElem _
      obtain ⟨u', hu', hdr⟩ := hus.get? i _ hd
      rw [hi] at hu'; simp only [Option.some.injEq] at hu'; subst hu'
      exact DR.one hdr
    · intro c hc; simp only [boxAV, List.mem_map] at hc; obtain ⟨d, _, rfl⟩ := hc; cases d <;> rfl
    · intro key _ c hc; simp only [boxAV, List.mem_map] at hc; obtain ⟨d, _, rfl⟩ := hc; cases d <;> rfl
  · simp only [Option.some.injEq] at h; subst h
    obtain rfl : v = _ := hr
    exact ⟨[.slice none 0 0], rfl, .cons rfl .nil, by simp [Value.oneCell'], by simp [AV.one], by simp [AV.names, AV.names1]⟩
  · rename_i k ver st n
    split at h
    · rename_i o ho
      split at h
      · rename_i hc
        simp only [Option.some.injEq] at h; subst h
        obtain ⟨y, c, rfl, _⟩ := SlR.form ((hr.2 o ho).2 hc.1 hc.2)
        exact ⟨[.slice y n c], rfl, .cons hr .nil, by simp [Value.oneCell'], by simp [AV.one], fun key hk c hc => by simp at hc; subst hc; exact hk⟩
      · simp at h
    · simp at h
  · rename_i k r f
    simp only [Option.map_eq_some_iff] at h
    obtain ⟨o, ho, rfl⟩ := h
    obtain ⟨p, _, hv⟩ := hr.2 o ho
    exact ⟨[v], by rw [hv]; rfl, .cons hr .nil, by rw [hv]; simp [Value.oneCell'], by simp [AV.one], fun key hk c hc => by simp at hc; subst hc; exact hk⟩
  · rename_i k
    simp only [Option.map_eq_some_iff] at h
    obtain ⟨o, ho, rfl⟩ := h
    obtain ⟨p, _, hv⟩ := hr.2.2 o ho
    exact ⟨[v], by rw [hv]; rfl, .cons hr .nil, by rw [hv]; simp [Value.oneCell'], by simp [AV.one], fun key hk c hc => by simp at hc; subst hc; exact hk⟩
  · rename_i y
    simp only [Option.some.injEq] at h; subst h
    have hv := Oth.one (show y.Is v from hr)
    exact ⟨[v], hv.2, .cons hr .nil, by simp [hv.1], by simp [AV.one], fun key hk c hc => by simp at hc; subst hc; exact hk⟩
  · rename_i cs0
    split at h
    · rename_i hone
      simp only [Option.some.injEq] at h; subst h
      obtain ⟨vs, rfl, hall, h1⟩ := hr
      rw [List.all_eq_true] at hone
      refine ⟨vs, rfl, hall.imp fun _ _ h => .of1 h, h1, hone, fun key hk c hc => ?_⟩
      simp only [AV.names, List.any_eq_false] at hk
      have h2 := hk c hc
      have h3 := hone c hc
      cases c <;> simp_all [AV.names, AV.one]
    · simp at h
  · simp at h
theorem cst_names {x : AV} {v : Value} {key : Nat} (h : cst x v = true) : x.names key = false := by
  unfold cst at h
  split at h <;> simp_all [AV.names, AV.names1]
theorem opd_names {x : Operand} {y : Opd} {v : AV} {key : Nat} (hc : chkO x y = true) (h : s.opd y = some v) (hf : s.free key = true) : v.names key = false := by
  unfold chkO at hc
  split at hc
  · simp only [St.opd] at h
    exact (free_spec hf).1 _ _ h
  · simp only [St.opd, Option.some.injEq] at h; subst h
    exact cst_names hc
  · simp only [St.opd, Option.some.injEq] at h; subst h
    rfl
  · simp at hc

/-- A new block of a struct's cells. -/
theorem new_one {key : Nat} {cs : List AV} {us : List Value} {et : TypeId} (hK : key < MK) (hty : KT ≤ key → et + 1 = key / KT) (hm : Mem B F ρ s.ob w) (hf : Fr F ρ s.ob s.fr a) (hfree : s.free key = true) (hcs : All2 (AR F ρ s.ob) cs us) (hone : ∀ c ∈ cs, c.one = true) (hn : ∀ c ∈ cs, c.names key = false) :
    Post B F w s.fr a (s.obj key ⟨cs.length, [cs]⟩).ob (.loc key 0 0) (.pointer (some ⟨w.heap.size, 0, none⟩)) (w.alloc (.cells us.toArray et)) := by
  obtain ⟨hT, hFr⟩ := free_ar (F := F) (ρ := ρ) (a := a) (o' := ⟨cs.length, [cs]⟩) (p' := some ⟨w.heap.size, cs.length, 1, 0⟩) hfree
  refine ⟨F, updM ρ key (some ⟨w.heap.size, cs.length, 1, 0⟩), ?_, hFr hf, ?_, .refl F, (Below.refl _ _).alloc hm.big _, fun _ _ h => .inl h⟩
  · refine Mem.change0 (cs := us.toArray) (et := et) hK hty hm hm.big (.inr (Nat.le_refl _)) (by simp) (fun k hk _ => Below.heap_alloc w _ k hk) (heap_alloc_new w _) (by simp [hcs.length]) (by simp) rfl (by simp) hT ?_
    intro i r j x hi hj
    cases i with
    | zero =>
      simp at hi; subst hi
      obtain ⟨u, hu, har⟩ := hcs.get? j x hj
      have hx := List.mem_of_getElem? hj
      exact ⟨hone x hx, u, by simpa using hu, har.upd (hn x hx) (fun k hk => updM_other _ hk) (fun k hk => obj_other hk)⟩
    | succ i => simp at hi
  · exact ⟨hK, fun o ho => ⟨_, updM_same _ _, by simp⟩⟩

/-- A key that says which type its elements have: is it the operation's? -/
def tyKey (P : Program) (o : Oper) (key : Nat) : Bool := decide (key < KT) || match o.op with
  | .alloc t => t + 1 == key / KT
  | .box t _ => t + 1 == key / KT
  | .makeSlice t _ _ => (match P.underlying t with | some (.slice e) => e + 1 == key / KT | _ => false)
  | .buildSlice t _ _ => (match P.underlying t with | some (.slice e) => e + 1 == key / KT | _ => false)
  | .call { callee := _, args := _, argTypes := ts } => (match ts.toList with | t :: _ => (match P.underlying t with | some (.slice e) => e + 1 == key / KT | _ => false) | [] => false)
  | _ => false
theorem tyKey_or {o : Oper} {key : Nat} {b : Bool} (h : (decide (key < KT) || b) = true) {e : Nat} (he : b = (e + 1 == key / KT)) : KT ≤ key → e + 1 = key / KT := by
  intro hk
  rw [he] at h
  simp only [Bool.or_eq_true, decide_eq_true_eq, beq_iff_eq] at h
  omega
def chkBox (o : Oper) (x : Opd) : Bool := match o.op with | .box _ x' => chkO x' x | _ => false
theorem does_box {key : Nat} {x : Opd} {v : AV} {cs : List AV} (hK : key < MK) (hT : tyKey P o key = true) (hm : Mem B F ρ s.ob w) (hf : Fr F ρ s.ob s.fr a) (hc : chkBox o x = true) (h1 : s.opd x = some v) (h2 : s.cellsOf v = some cs) (hfree : s.free key = true) :
    Does P o a w (Post B F w s.fr a (s.obj key ⟨cs.length, [cs]⟩).ob (.loc key 0 0)) := by
  unfold chkBox at hc
  split at hc
  · rename_i t x' hop
    have hr := opd_sound hf hc h1
    obtain ⟨us, hus, hall, _, hone, hn⟩ := cellsOf_sound h2 hr
    refine does_value (w' := w.alloc (.cells us.toArray t)) (u := .pointer (some ⟨w.heap.size, 0, none⟩)) ?_ (new_one hK (by simp only [tyKey, hop] at hT; exact tyKey_or (o := o) hT rfl) hm hf hfree hall hone (hn key (opd_names hc h1 hfree)))
    simp [execOp, hop, Instr.box, newVar, newRow, hus]
  · simp at hc

def cstL : List AV → List Value → Bool
  | [], [] => true
  | x :: xs, v :: vs => cst x v && x.one && cstL xs vs
  | _, _ => false
theorem cstL_sound : ∀ {cs : List AV} {vs : List Value}, cstL cs vs = true → All2 (AR F ρ ob) cs vs ∧ (∀ c ∈ cs, c.one = true) ∧ ∀ key, ∀ c ∈ cs, c.names key = false
  | [], [], _ => ⟨.nil, by simp, by simp⟩
  | x :: xs, v :: vs, h => by
    simp only [cstL, Bool.and_eq_true] at h
    obtain ⟨⟨h1, h2⟩, h3⟩ := h
    obtain ⟨g1, g2, g3⟩ := cstL_sound h3
    exact ⟨.cons (cst_sound h1) g1, by simpa [h2] using g2, fun key => by simpa [cst_names h1] using g3 key⟩
  | [], _ :: _, h => by simp [cstL] at h
  | _ :: _, [], h => by simp [cstL] at h
def zeroOk (P : Program) (t : TypeId) (f : Value → Bool) : Bool := match P.info? t with | some i => (match i.zero with | some z => f z | none => false) | none => false
theorem zeroOk_spec {t : TypeId} {f : Value → Bool} (h : zeroOk P t f = true) : ∃ i z, P.info? t = some i ∧ i.zero = some z ∧ f z = true := by
  unfold zeroOk at h
  split at h
  · rename_i i hi
    split at h
    · rename_i z hz; exact ⟨i, z, hi, hz, h⟩
    · simp at h
  · simp at h
def chkAlc (P : Program) (o : Oper) (cs : List AV) : Bool := match o.op with | .alloc t => zeroOk P t fun z => cstL cs z.cells.toList | _ => false
theorem does_alc {key : Nat} {cs : List AV} (hK : key < MK) (hT : tyKey P o key = true) (hm : Mem B F ρ s.ob w) (hf : Fr F ρ s.ob s.fr a) (hc : chkAlc P o cs = true) (hfree : s.free key = true) :
    Does P o a w (Post B F w s.fr a (s.obj key ⟨cs.length, [cs]⟩).ob (.loc key 0 0)) := by
  unfold chkAlc at hc
  split at hc
  · rename_i t hop
    obtain ⟨i, z, hi, hz, hcs⟩ := zeroOk_spec hc
    obtain ⟨g1, g2, g3⟩ := cstL_sound (F := F) (ρ := ρ) (ob := s.ob) hcs
    refine does_value (w' := w.alloc (.cells z.cells.toList.toArray t)) (u := .pointer (some ⟨w.heap.size, 0, none⟩)) ?_ (new_one hK (by simp only [tyKey, hop] at hT; exact tyKey_or (o := o) hT rfl) hm hf hfree g1 g2 (g3 key))
    simp [execOp, hop, Instr.alloc, zeroValue, typeInfo, hi, hz, newVar, newRow]
  · simp at hc
end
end Go.Am
