/- Law 26: a line. -/
import Derived.Test.YtnjjnokckgjecaaParG
set_option linter.unusedVariables false
set_option linter.unusedSimpArgs false
set_option maxRecDepth 10000
set_option maxHeartbeats 2000000
namespace Go.Am
/-- The reader's objects: their keys; none but the reader's own names another. -/
def Rd (R : Obj) (ob : List (Nat × Obj)) : Prop := ∀ p ∈ ob, p.1 ∈ [34, 1000212, 1461501637330902918203684832716283019655932543008, 2, 3, 6, 8, 171006, 1000242] ∧ (p.1 = 34 → p.2 = R) ∧ (p.1 ≠ 34 → ∀ j, nmRows j p.2.rows = true ∧ lcRows j p.2.rows = true)
theorem Rd.nm {R : Obj} {j : Nat} (hj : nmRows j R.rows = true) : ∀ {ob : List (Nat × Obj)}, Rd R ob → nmOb j ob = true
  | [], _ => rfl
  | (k, o) :: r, h => by
    have h1 := h (k, o) (by simp)
    have hr : Rd R r := fun p hp => h p (by simp [hp])
    simp only [nmOb, Rd.nm hj hr, Bool.and_true]
    by_cases hk : k = 34
    · have e : o = R := h1.2.1 hk
      rw [e]; exact hj
    · exact (h1.2.2 hk j).1
theorem Rd.lc {R : Obj} {j : Nat} (hj : lcRows j R.rows = true) : ∀ {ob : List (Nat × Obj)}, Rd R ob → lcOb j ob = true
  | [], _ => rfl
  | (k, o) :: r, h => by
    have h1 := h (k, o) (by simp)
    have hr : Rd R r := fun p hp => h p (by simp [hp])
    simp only [lcOb, Rd.lc hj hr, Bool.and_true]
    by_cases hk : k = 34
    · have e : o = R := h1.2.1 hk
      rw [e]; exact hj
    · exact (h1.2.2 hk j).2
theorem del_not {α : Type} {j : Nat} : ∀ {ob : List (Nat × α)}, (∀ p ∈ ob, p.1 ≠ j) → del ob j = ob
  | [], _ => rfl
  | (k, o) :: r, h => by
    simp only [del]
    rw [if_neg (h (k, o) (by simp)), del_not fun p hp => h p (by simp [hp])]
theorem Rd.del {R : Obj} {j : Nat} : ∀ {ob : List (Nat × Obj)}, Rd R ob → Rd R (Am.del ob j)
  | [], h => h
  | (k, o) :: r, h => by
    have hr : Rd R r := fun p hp => h p (by simp [hp])
    simp only [Am.del]
    split
    · exact hr.del
    · intro p hp
      simp only [List.mem_cons] at hp
      rcases hp with rfl | hp
      · exact h _ (by simp)
      · exact hr.del p hp
theorem Rd.put {R R' : Obj} {ob : List (Nat × Obj)} (h : Rd R ob) : Rd R' ((34, R') :: Am.del ob 34) := by
  intro p hp
  simp only [List.mem_cons] at hp
  rcases hp with rfl | hp
  · exact ⟨by simp, fun _ => rfl, fun h => (h rfl).elim⟩
  · obtain ⟨h1, h2⟩ := mem_del hp
    exact ⟨(h p h1).1, fun h => (h2 h).elim, (h p h1).2.2⟩
theorem Rd.cons {R : Obj} {ob : List (Nat × Obj)} {k : Nat} {o : Obj} (h : Rd R ob) (hk : k ∈ [1000212, 1461501637330902918203684832716283019655932543008, 2, 3, 6, 8, 171006, 1000242]) (ho : ∀ j, nmRows j o.rows = true ∧ lcRows j o.rows = true) : Rd R ((k, o) :: Am.del ob k) := by
  intro p hp
  simp only [List.mem_cons] at hp
  rcases hp with rfl | hp
  · refine ⟨List.mem_cons_of_mem _ hk, ?_, fun _ => ho⟩
    intro h34; simp only at h34; subst h34; simp at hk
  · exact h p (mem_del hp).1
theorem Rd.kf {R : Obj} {lo hi : Nat} (hk : ∀ k ∈ [34, 1000212, 1461501637330902918203684832716283019655932543008, 2, 3, 6, 8, 171006, 1000242], k % 18446744073709551616 < lo ∨ hi ≤ k % 18446744073709551616) : ∀ {ob : List (Nat × Obj)}, Rd R ob → Kf lo hi ob
  | [], _ => kf_nil _ _
  | (k, o) :: r, h => by
    have hr : Rd R r := fun p hp => h p (by simp [hp])
    rw [kf_cons (hk k (h (k, o) (by simp)).1)]
    exact hr.kf hk
/-- All but the numbers' own. -/
theorem keepF_nums {R : Obj} : ∀ {ob : List (Nat × Obj)}, Rd R ob → keepF 171000 172000 [] ob = Am.del ob 171006
  | [], _ => rfl
  | (k, o) :: r, h => by
    have hr : Rd R r := fun p hp => h p (by simp [hp])
    have hk := (h (k, o) (by simp)).1
    simp only [List.mem_cons, List.not_mem_nil, or_false] at hk
    simp only [keepF, Am.del, keepF_nums hr]
    rcases hk with rfl | rfl | rfl | rfl | rfl | rfl | rfl | rfl | rfl <;> simp [KT_eq]
theorem Rd.nk {R : Obj} {j : Nat} {gs : List (Nat × AV)} {ob : List (Nat × Obj)} (h : Rd R ob) (hj : j ∉ [34, 1000212, 1461501637330902918203684832716283019655932543008, 2, 3, 6, 8, 171006, 1000242]) (hR : nmRows j R.rows = true) (hg : nmFr j gs = true) : Nk j gs ob :=
  ⟨hg, h.nm hR, del_not fun p hp hpj => hj (hpj ▸ (h p hp).1)⟩
/-- The segments, as the reader holds them. -/
def segT (l : List Seg) : List Sgt := l.map fun g => (g.kind, g.ticks, g.rate)
def scOf (s : Scn) : Sc := ⟨s.floors, s.gap, s.cars, s.capacity, s.opn, s.dwell, s.cls, s.transfer, sgV (segT s.segs), s.disp, s.horizon, s.bins, s.width⟩
theorem sgV_names (l : List Sgt) {j : Nat} (hj : j ≠ 1000242) : (sgV l).names j = false := by
  unfold sgV; split <;> simp [Ne.symm hj]
theorem sgV_isLoc (l : List Sgt) (j : Nat) : (sgV l).isLoc j = false := by
  unfold sgV; split <;> simp
/-- What a line's call wants of the callers' slots. -/
def OwnFr (gs : List (Nat × AV)) : Prop := ∀ j ∈ [170002, 170003, 169005, 177006, 176002, 176004, 172006, 239003, 239011, 171006, 1000242], nmFr j gs = true ∧ lcFr j gs = true
theorem ownFr_iff (gs : List (Nat × AV)) : OwnFr gs ↔ (nmFr 170002 gs = true ∧ nmFr 170003 gs = true ∧ nmFr 169005 gs = true ∧ nmFr 177006 gs = true ∧ nmFr 176002 gs = true ∧ nmFr 176004 gs = true ∧ nmFr 172006 gs = true ∧ nmFr 239003 gs = true ∧ nmFr 239011 gs = true ∧ nmFr 171006 gs = true ∧ nmFr 1000242 gs = true) ∧
    (lcFr 170002 gs = true ∧ lcFr 170003 gs = true ∧ lcFr 169005 gs = true ∧ lcFr 177006 gs = true ∧ lcFr 176002 gs = true ∧ lcFr 176004 gs = true ∧ lcFr 172006 gs = true ∧ lcFr 239003 gs = true ∧ lcFr 239011 gs = true ∧ lcFr 171006 gs = true ∧ lcFr 1000242 gs = true) := by
  unfold OwnFr; simp; constructor
  · rintro ⟨⟨a1, b1⟩, ⟨a2, b2⟩, ⟨a3, b3⟩, ⟨a4, b4⟩, ⟨a5, b5⟩, ⟨a6, b6⟩, ⟨a7, b7⟩, ⟨a8, b8⟩, ⟨a9, b9⟩, ⟨a10, b10⟩, a11, b11⟩
    exact ⟨⟨a1, a2, a3, a4, a5, a6, a7, a8, a9, a10, a11⟩, b1, b2, b3, b4, b5, b6, b7, b8, b9, b10, b11⟩
  · rintro ⟨⟨a1, a2, a3, a4, a5, a6, a7, a8, a9, a10, a11⟩, b1, b2, b3, b4, b5, b6, b7, b8, b9, b10, b11⟩
    exact ⟨⟨a1, b1⟩, ⟨a2, b2⟩, ⟨a3, b3⟩, ⟨a4, b4⟩, ⟨a5, b5⟩, ⟨a6, b6⟩, ⟨a7, b7⟩, ⟨a8, b8⟩, ⟨a9, b9⟩, ⟨a10, b10⟩, a11, b11⟩
/-- The words seen, each once. -/
def dd (seen : List (List UInt8)) : List (List UInt8) := seen.foldl seenAdd []
theorem dd_snoc (seen : List (List UInt8)) (w : List UInt8) : dd (seen ++ [w]) = seenAdd (dd seen) w := by simp [dd]
theorem mem_seenAdd {l : List (List UInt8)} {w x : List UInt8} : x ∈ seenAdd l w ↔ x ∈ l ∨ x = w := by
  unfold seenAdd; split
  · rename_i h; constructor
    · exact .inl
    · rintro (h1 | rfl)
      · exact h1
      · exact h
  · simp
theorem mem_foldl {x : List UInt8} : ∀ (seen l : List (List UInt8)), x ∈ seen.foldl seenAdd l ↔ x ∈ l ∨ x ∈ seen
  | [], l => by simp
  | w :: r, l => by rw [List.foldl_cons, mem_foldl r, mem_seenAdd, List.mem_cons, or_assoc]
theorem mem_dd {seen : List (List UInt8)} {x : List UInt8} : x ∈ dd seen ↔ x ∈ seen := by simp [dd, mem_foldl]
abbrev mapO (seen : List (List UInt8)) : Obj := ⟨(dd seen).length, seenR 0 (dd seen)⟩
theorem seenR_free (j : Nat) : ∀ (l : List (List UInt8)) (n : Nat), nmRows j (seenR n l) = true ∧ lcRows j (seenR n l) = true
  | [], n => ⟨rfl, rfl⟩
  | w :: l, n => by have := seenR_free j l (n + 1); simp [seenR, this.1, this.2]
abbrev MK32 : Nat := 1461501637330902918203684832716283019655932543008
/-- What the reader's objects hold. -/
structure RB (R T M : Obj) (G : Option Obj) (base ob : List (Nat × Obj)) : Prop where
  rd : Rd R ob
  g34 : get ob 34 = some R
  gT : get ob 1000212 = some T
  gM : get ob MK32 = some M
  gG : get ob 1000242 = G
  oth : ∀ j ∈ [2, 3, 6], get ob j = get base j
theorem RB.put {R R' T M : Obj} {G : Option Obj} {base ob : List (Nat × Obj)} (h : RB R T M G base ob) : RB R' T M G base ((34, R') :: Am.del ob 34) where
  rd := h.rd.put
  g34 := by simp [MK32, Am.get]
  gT := by simp [MK32, Am.get, get_del, h.gT]
  gM := by simp [MK32, Am.get, get_del, h.gM]
  gG := by simp [MK32, Am.get, get_del, h.gG]
  oth := fun j hj => by
    have hne : ¬ 34 = j := by intro h; subst h; simp [MK32] at hj
    simp [MK32, Am.get, get_del, hne, Ne.symm hne, h.oth j hj]
theorem RB.nums {R T M o : Obj} {G : Option Obj} {base ob : List (Nat × Obj)} (h : RB R T M G base ob) (ho : ∀ j, nmRows j o.rows = true ∧ lcRows j o.rows = true) : RB R T M G base ((171006, o) :: Am.del ob 171006) where
  rd := h.rd.cons (by simp) ho
  g34 := by simp [MK32, Am.get, get_del, h.g34]
  gT := by simp [MK32, Am.get, get_del, h.gT]
  gM := by simp [MK32, Am.get, get_del, h.gM]
  gG := by simp [MK32, Am.get, get_del, h.gG]
  oth := fun j hj => by
    have hne : ¬ 171006 = j := by intro h; subst h; simp [MK32] at hj
    simp [MK32, Am.get, get_del, hne, Ne.symm hne, h.oth j hj]
theorem RB.map {R T M M' : Obj} {G : Option Obj} {base ob : List (Nat × Obj)} (h : RB R T M G base ob) (ho : ∀ j, nmRows j M'.rows = true ∧ lcRows j M'.rows = true) : RB R T M' G base ((MK32, M') :: Am.del ob MK32) where
  rd := h.rd.cons (by simp) ho
  g34 := by simp [MK32, Am.get, get_del, h.g34]
  gT := by simp [MK32, Am.get, get_del, h.gT]
  gM := by simp [MK32, Am.get, get_del]
  gG := by simp [MK32, Am.get, get_del, h.gG]
  oth := fun j hj => by
    have hne : ¬ MK32 = j := by intro h; rw [← h] at hj; simp [MK32] at hj
    simp [MK32, Am.get, get_del, hne, Ne.symm hne, h.oth j hj]
theorem RB.segs {R T M o : Obj} {G : Option Obj} {base ob : List (Nat × Obj)} (h : RB R T M G base ob) (ho : ∀ j, nmRows j o.rows = true ∧ lcRows j o.rows = true) : RB R T M (some o) base ((1000242, o) :: Am.del ob 1000242) where
  rd := h.rd.cons (by simp) ho
  g34 := by simp [MK32, Am.get, get_del, h.g34]
  gT := by simp [MK32, Am.get, get_del, h.gT]
  gM := by simp [MK32, Am.get, get_del, h.gM]
  gG := by simp [MK32, Am.get]
  oth := fun j hj => by
    have hne : ¬ 1000242 = j := by intro h; subst h; simp [MK32] at hj
    simp [MK32, Am.get, get_del, hne, Ne.symm hne, h.oth j hj]
theorem sgsR_free (j : Nat) : ∀ l : List Sgt, nmRows j (sgsR l) = true ∧ lcRows j (sgsR l) = true
  | [] => ⟨rfl, rfl⟩
  | x :: l => by have := sgsR_free j l; simp [sgsR] at this ⊢; simp [this.1, this.2]
/-- The reader's own object: which names it has. -/
theorem rdr_nm (N k m : Nat) (s : Scn) (e l c : Int) {j : Nat} (h1 : j ≠ 1000212) (h2 : j ≠ 1000242) (h3 : j ≠ MK32) : nmRows j (rdr N k m (rdT (scOf s) e l c)).rows = true := by
  simp [scOf, sgV_names _ h2, Ne.symm h1, Ne.symm h3]
theorem rdr_lc (N k m : Nat) (s : Scn) (e l c : Int) (j : Nat) : lcRows j (rdr N k m (rdT (scOf s) e l c)).rows = true := by
  simp [scOf, sgV_isLoc]
abbrev rdS (l : List Tk) (k : Nat) (s : Scn) (e0 l0 c0 : Int) : Obj := rdr (l.length + 1) k (l.length + 1 - k) (rdT (scOf s) e0 l0 c0)
theorem RB.nk {l : List Tk} {k : Nat} {s : Scn} {e0 l0 c0 : Int} {T M : Obj} {G : Option Obj} {base ob : List (Nat × Obj)} (h : RB (rdS l k s e0 l0 c0) T M G base ob) {gs : List (Nat × AV)} {j : Nat} (hj : j ∉ [34, 1000212, MK32, 2, 3, 6, 8, 171006, 1000242]) (hg : nmFr j gs = true) : Nk j gs ob :=
  h.rd.nk hj (rdr_nm _ _ _ _ _ _ _ (by rintro rfl; simp at hj) (by rintro rfl; simp at hj) (by rintro rfl; simp at hj)) hg
theorem RB.kf {R T M : Obj} {G : Option Obj} {base ob : List (Nat × Obj)} (h : RB R T M G base ob) (i : Nat) (hi : 169 ≤ i ∧ i ≤ 177 ∧ i ≠ 171 ∨ i = 239) : Kf (i * 1000) (i * 1000 + 1000) ob := by
  refine h.rd.kf fun k hk => ?_
  simp only [List.mem_cons, List.not_mem_nil, or_false] at hk
  rcases hk with rfl | rfl | rfl | rfl | rfl | rfl | rfl | rfl | rfl <;> omega
def segG (s : Scn) : Option Obj := if s.segs = [] then none else some ⟨3, sgsR (segT s.segs)⟩
def lineRes (l : List Tk) (T : Obj) (seen : List (List UInt8)) (t : Tk) (base : List (Nat × Obj)) (res : Option (List AV × List (Nat × Obj))) : LO → Prop
  | .ok s' r => ∃ k' ob' e0 l0 c0, l.drop k' = r ∧ k' ≤ l.length ∧ res = some ([bo true], ob') ∧ RB (rdS l k' s' e0 l0 c0) T (mapO (seen ++ [t.tx])) (segG s') base ob'
  | .bad e x r => ∃ k' s' M G ob', res = some ([bo false], ob') ∧ RB (rdS l k' s' e x.l x.c) T M G base ob'
def LineT (g : St → Option (List AV × List (Nat × Obj))) : Prop := ∀ gs base ob l k (s : Scn) seen (e0 l0 c0 : Int) (t : Tk) last, Gh gs → OwnFr gs → RB (rdS l k s e0 l0 c0) ⟨5, rowsL l last⟩ (mapO seen) (segG s) base ob → l.length < 100000 → EndL (l.drop k) → t.kd ≠ 3 → (∀ x ∈ l, x.kd = 1 ∨ x.kd = 2 ∨ x.kd = 3) → s.segs.length ≤ 8 →
  lineRes l ⟨5, rowsL l last⟩ seen t base (g ⟨(0, .loc 34 0 0) :: (1, .agg t.cells) :: gs, ob⟩) (lineP s seen t (l.drop k))
end Go.Am
