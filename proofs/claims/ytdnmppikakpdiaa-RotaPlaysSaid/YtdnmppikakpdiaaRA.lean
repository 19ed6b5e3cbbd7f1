import Derived.Test.YtdnmppikakpdiaaAs
import Derived.Test.YtdnmppikakpdiaaRK
set_option maxHeartbeats 4000000
set_option maxRecDepth 10000
set_option linter.unusedVariables false
set_option linter.unusedSimpArgs false
set_option linter.unnecessarySimpa false
namespace Go.Am
theorem kf_iff {lo hi : Nat} : ∀ {ob : List (Nat × Obj)}, Kf lo hi ob ↔ ∀ p ∈ ob, p.1 % KT < lo ∨ hi ≤ p.1 % KT
 | [] => by simp
 | (k, o) :: ob => by
  constructor
  ·intro h p hp
   have h0 := h []
   simp only [keepF, List.not_mem_nil, or_false] at h0
   split at h0
   ·rename_i hk
    rcases List.mem_cons.1 hp with rfl | hp
    ·exact hk
    ·exact (kf_iff.1 ((kf_cons hk).1 h)) p hp
   ·exfalso
    have hl : ∀ l : List (Nat × Obj), (keepF lo hi [] l).length ≤ l.length := by
     intro l
     induction l with
     | nil => simp [keepF]
     | cons q l ih =>
      obtain ⟨i, v⟩ := q
      simp only [keepF]
      split
      ·simpa using ih
      ·simp only [List.length_cons]; omega
    have := hl ob
    rw [h0] at this
    simp at this
    omega
  ·intro h
   exact (kf_cons (h (k, o) (by simp))).2 (kf_iff.2 fun p hp => h p (List.mem_cons_of_mem _ hp))
theorem mem_keepF {lo hi : Nat} {os : List Nat} : ∀ {ob : List (Nat × Obj)} {p : Nat × Obj}, p ∈ keepF lo hi os ob → p ∈ ob
 | [], p, h => by simp [keepF] at h
 | (k, o) :: ob, p, h => by
  simp only [keepF] at h
  split at h
  ·rcases List.mem_cons.1 h with rfl | h
   ·simp
   ·exact List.mem_cons_of_mem _ (mem_keepF h)
  ·exact List.mem_cons_of_mem _ (mem_keepF h)
theorem mem_delO {k : Nat} : ∀ {ob : List (Nat × Obj)} {p : Nat × Obj}, p ∈ del ob k → p ∈ ob
 | [], p, h => by simp [del] at h
 | (j, o) :: ob, p, h => by
  simp only [del] at h
  split at h
  ·exact List.mem_cons_of_mem _ (mem_delO h)
  ·rcases List.mem_cons.1 h with rfl | h
   ·simp
   ·exact List.mem_cons_of_mem _ (mem_delO h)
theorem kf_keep {lo hi a b : Nat} {os : List Nat} {ob : List (Nat × Obj)} (h : Kf lo hi ob) : Kf lo hi (keepF a b os ob) := kf_iff.2 fun p hp => kf_iff.1 h p (mem_keepF hp)
theorem kf_kept (lo hi : Nat) (ob : List (Nat × Obj)) : Kf lo hi (keepF lo hi [] ob) := by
 induction ob with
 | nil => simp [keepF]
 | cons p ob ih =>
  obtain ⟨k, o⟩ := p
  simp only [keepF, List.not_mem_nil, or_false]
  split
  ·rename_i hk; exact (kf_cons hk).2 ih
  ·exact ih
theorem kf_delO {lo hi k : Nat} {ob : List (Nat × Obj)} (h : Kf lo hi ob) : Kf lo hi (del ob k) := kf_iff.2 fun p hp => kf_iff.1 h p (mem_delO hp)
theorem nmOb_iff {k : Nat} : ∀ {ob : List (Nat × Obj)}, nmOb k ob = true ↔ ∀ p ∈ ob, nmRows k p.2.rows = true
 | [] => by simp
 | (j, o) :: ob => by simp [nmOb, nmOb_iff (ob := ob)]
theorem nmOb_keep {k lo hi : Nat} {os : List Nat} {ob : List (Nat × Obj)} (h : nmOb k ob = true) : nmOb k (keepF lo hi os ob) = true := nmOb_iff.2 fun p hp => nmOb_iff.1 h p (mem_keepF hp)
theorem nmOb_delO {k j : Nat} {ob : List (Nat × Obj)} (h : nmOb k ob = true) : nmOb k (del ob j) = true := nmOb_iff.2 fun p hp => nmOb_iff.1 h p (mem_delO hp)
theorem isLoc_names (k : Nat) (v : AV) (h : v.names k = false) : v.isLoc k = false := by
 cases v <;> simp_all [AV.names, AV.isLoc, AV.names1, AV.isLoc1]
 case tup vs => intro x hx; have := h x hx; cases x <;> simp_all [AV.names1, AV.isLoc1]
 case ags vs => intro x hx; have := h x hx; cases x <;> simp_all [AV.names1, AV.isLoc1]
 case clo g vs => intro x hx; have := h x hx; cases x <;> simp_all [AV.names1, AV.isLoc1]
theorem lcRow_nm (k : Nat) : ∀ r : List AV, nmRow k r = true → lcRow k r = true
 | [], _ => rfl
 | v :: r, h => by
  simp only [nmRow, Bool.and_eq_true, Bool.not_eq_true'] at h
  simp only [lcRow, isLoc_names k v h.1, lcRow_nm k r h.2, Bool.not_false, Bool.and_self]
theorem lcRows_nm (k : Nat) : ∀ r : Rows, nmRows k r = true → lcRows k r = true
 | [], _ => rfl
 | v :: r, h => by
  simp only [nmRows, Bool.and_eq_true] at h
  simp only [lcRows, lcRow_nm k v h.1, lcRows_nm k r h.2, Bool.and_self]
theorem lcOb_nm {k : Nat} : ∀ {ob : List (Nat × Obj)}, nmOb k ob = true → lcOb k ob = true
 | [], _ => rfl
 | (j, o) :: r, h => by
  simp only [nmOb, Bool.and_eq_true] at h
  simp only [lcOb, lcRows_nm k _ h.1, lcOb_nm h.2, Bool.and_self]
theorem lcFr_nm {k : Nat} : ∀ {l : List (Nat × AV)}, nmFr k l = true → lcFr k l = true
 | [], _ => rfl
 | (j, v) :: r, h => by
  simp only [nmFr, Bool.and_eq_true, Bool.not_eq_true'] at h
  simp only [lcFr, isLoc_names k v h.1, lcFr_nm h.2, Bool.not_false, Bool.and_self]
theorem del_kf {lo hi k : Nat} {ob : List (Nat × Obj)} (h : Kf lo hi ob) (h1 : lo ≤ k % KT) (h2 : k % KT < hi) : del ob k = ob := by
 refine del_absent _ _ ?_
 cases hg : get ob k with
 | none => rfl
 | some o =>
  exfalso
  have : ∀ {l : List (Nat × Obj)} {o : Obj}, get l k = some o → ∃ p ∈ l, p.1 = k := by
   intro l
   induction l with
   | nil => intro o h; simp [Go.Am.get] at h
   | cons q l ih =>
    intro o h
    obtain ⟨i, v⟩ := q
    simp only [Go.Am.get] at h
    split at h
    ·rename_i hik; exact ⟨(i, v), by simp, hik⟩
    ·obtain ⟨p, hp, he⟩ := ih h
     exact ⟨p, List.mem_cons_of_mem _ hp, he⟩
  obtain ⟨p, hp, rfl⟩ := this hg
  have := kf_iff.1 h p hp
  omega
theorem get_kf {lo hi k : Nat} {ob : List (Nat × Obj)} (h : Kf lo hi ob) (h1 : lo ≤ k % KT) (h2 : k % KT < hi) : get ob k = none := by
 rw [← del_kf h h1 h2, get_del, if_pos rfl]
theorem get_keepO {lo hi k : Nat} {os : List Nat} (hk : k % KT < lo ∨ hi ≤ k % KT) : ∀ ob : List (Nat × Obj), get (keepF lo hi os ob) k = get ob k
 | [] => rfl
 | (j, o) :: ob => by
  simp only [keepF]
  split
  ·simp only [Go.Am.get, get_keepO hk ob]
  ·rename_i hj
   have : ¬ j = k := by rintro rfl; exact hj (hk.elim .inl fun h => .inr (.inl h))
   simp only [Go.Am.get, if_neg this, get_keepO hk ob]
theorem get_nm {k i : Nat} {o : Obj} {ob : List (Nat × Obj)} (h : nmOb k ob = true) (hg : get ob i = some o) : nmRows k o.rows = true := by
 induction ob with
 | nil => simp [Go.Am.get] at hg
 | cons q l ih =>
  obtain ⟨j, v⟩ := q
  simp only [nmOb, Bool.and_eq_true] at h
  simp only [Go.Am.get] at hg
  split at hg
  ·simp only [Option.some.injEq] at hg; subst hg; exact h.1
  ·exact ih h.2 hg
end Go.Am
namespace Go.Am
def inR (fs : List Nat) (k : Nat) : Bool := fs.contains (k % KT / 1000)
def nmsV (q : Nat → Bool) (v : AV) : Prop := ∀ k, q k = true → v.names k = false
def NoO (fs : List Nat) (ob : List (Nat × Obj)) : Prop := ∀ p ∈ ob, inR fs p.1 = false ∧ ∀ r ∈ p.2.rows, ∀ v ∈ r, nmsV (inR fs) v
def NoF (fs : List Nat) (gs : List (Nat × AV)) : Prop := Gh gs ∧ ∀ p ∈ gs, nmsV (inR fs) p.2
theorem inR_mono {fs fs' : List Nat} (h : ∀ f ∈ fs', f ∈ fs) {k : Nat} (hk : inR fs' k = true) : inR fs k = true := by
 simp only [inR, List.contains_eq_mem, decide_eq_true_eq] at hk ⊢; exact h _ hk
theorem NoO.mono {fs fs' : List Nat} {ob : List (Nat × Obj)} (h : NoO fs ob) (hs : ∀ f ∈ fs', f ∈ fs) : NoO fs' ob := fun p hp => by
 obtain ⟨h1, h2⟩ := h p hp
 refine ⟨?_, fun r hr v hv k hk => h2 r hr v hv k (inR_mono hs hk)⟩
 cases h3 : inR fs' p.1 with
 | false => rfl
 | true => rw [inR_mono hs h3] at h1; simp at h1
theorem NoF.mono {fs fs' : List Nat} {gs : List (Nat × AV)} (h : NoF fs gs) (hs : ∀ f ∈ fs', f ∈ fs) : NoF fs' gs := ⟨h.1, fun p hp k hk => h.2 p hp k (inR_mono hs hk)⟩
theorem nmRows_iff {k : Nat} : ∀ {rows : Rows}, nmRows k rows = true ↔ ∀ r ∈ rows, ∀ v ∈ r, v.names k = false
 | [] => by simp [nmRows]
 | r :: rows => by
  have hr : ∀ r : List AV, nmRow k r = true ↔ ∀ v ∈ r, v.names k = false := fun r => by
   induction r with
   | nil => simp [nmRow]
   | cons v r ih => simp [nmRow, ih]
  simp only [nmRows, Bool.and_eq_true, hr, nmRows_iff (rows := rows), List.mem_cons, forall_eq_or_imp]
theorem noO_cons {fs : List Nat} {k : Nat} {o : Obj} {ob : List (Nat × Obj)} : NoO fs ((k, o) :: ob) ↔ inR fs k = false ∧ (∀ j, inR fs j = true → nmRows j o.rows = true) ∧ NoO fs ob := by
 constructor
 ·intro h
  obtain ⟨h1, h2⟩ := h (k, o) (by simp)
  exact ⟨h1, fun j hj => nmRows_iff.2 fun r hr v hv => h2 r hr v hv j hj, fun p hp => h p (List.mem_cons_of_mem _ hp)⟩
 ·rintro ⟨h1, h2, h3⟩ p hp
  rcases List.mem_cons.1 hp with rfl | hp
  ·exact ⟨h1, fun r hr v hv j hj => nmRows_iff.1 (h2 j hj) r hr v hv⟩
  ·exact h3 p hp
theorem noO_nil (fs : List Nat) : NoO fs [] := fun p hp => by simp at hp
theorem NoO.nm {fs : List Nat} {ob : List (Nat × Obj)} (h : NoO fs ob) {k : Nat} (hk : inR fs k = true) : nmOb k ob = true := nmOb_iff.2 fun p hp => nmRows_iff.2 fun r hr v hv => (h p hp).2 r hr v hv k hk
theorem NoO.none {fs : List Nat} {ob : List (Nat × Obj)} (h : NoO fs ob) {k : Nat} (hk : inR fs k = true) : get ob k = none := by
 cases hg : get ob k with
 | none => rfl
 | some o => have := (h _ (get_mem hg)).1; simp only at this; rw [hk] at this; simp at this
theorem NoO.del {fs : List Nat} {ob : List (Nat × Obj)} (h : NoO fs ob) {k : Nat} (hk : inR fs k = true) : Am.del ob k = ob := del_absent _ _ (h.none hk)
theorem NoO.kf {fs : List Nat} {ob : List (Nat × Obj)} (h : NoO fs ob) {f : Nat} (hf : f ∈ fs) : Kf (1000 * f) (1000 * f + 1000) ob := kf_iff.2 fun p hp => by
 have h1 := (h p hp).1
 simp only [inR, List.contains_eq_mem, decide_eq_false_iff_not] at h1
 by_cases h2 : p.1 % KT < 1000 * f
 ·exact .inl h2
 ·refine .inr (Nat.not_lt.1 fun h3 => h1 ?_)
  have : p.1 % KT / 1000 = f := by omega
  rw [this]; exact hf
theorem nmFr_iff {k : Nat} : ∀ {l : List (Nat × AV)}, nmFr k l = true ↔ ∀ p ∈ l, p.2.names k = false
 | [] => by simp [nmFr]
 | (i, v) :: l => by simp [nmFr, nmFr_iff (l := l)]
theorem nmFrB_nmH {d k : Nat} : ∀ {l : List (Nat × AV)}, nmFr k l = true → nmFrB d k l = true
 | [], _ => rfl
 | (i, v) :: l, h => by
  simp only [nmFr, Bool.and_eq_true] at h
  simp only [nmFrB, h.1, nmFrB_nmH h.2, Bool.or_true, Bool.and_self]
theorem NoF.nm {fs : List Nat} {gs : List (Nat × AV)} (h : NoF fs gs) {k : Nat} (hk : inR fs k = true) : nmFr k gs = true := nmFr_iff.2 fun p hp => h.2 p hp k hk
theorem noO_del {fs : List Nat} {ob : List (Nat × Obj)} (h : NoO fs ob) (k : Nat) : NoO fs (del ob k) := fun p hp => h p (mem_delO hp)
abbrev W4 := Int × Int × Int × Int
def w4D (w : W4) : List D := [.int .i64 w.1, .int .i64 w.2.1, .int .i64 w.2.2.1, .int .i64 w.2.2.2]
def w4R (w : W4) : List AV := toAV (w4D w)
abbrev K3 := Int × Int × Int
def k3D (k : K3) : List D := [.int .i64 k.1, .int .i64 k.2.1, .int .i64 k.2.2]
abbrev kk3 : KK := (true, [.int .i64, .int .i64, .int .i64])
structure HQ where
 b : Nat
 k : K3
 ky : Nat
 gone : List W4
 l : List W4
def HQ.val (e : HQ) : AV := .sl e.ky (e.gone.length + e.l.length) e.gone.length e.l.length
def HQ.row (e : HQ) : List AV := [.c (.int .i64 e.b), .agg (k3D e.k), e.val]
def HQ.obj (e : HQ) : Obj := ⟨4, (e.gone ++ e.l).map w4R⟩
def findQ : List HQ → K3 → Nat → Option (Nat × HQ)
 | [], _, _ => none
 | e :: r, k, i => if e.k = k then some (i, e) else findQ r k (i + 1)
theorem k3_eq (a b : K3) : mkeq kk3 (.agg (k3D a)) (.agg (k3D b)) = some (decide (a = b)) := by
 obtain ⟨a1, a2, a3⟩ := a
 obtain ⟨b1, b2, b3⟩ := b
 simp [mkeq, k3D, eqKs, eqK, Prod.mk.injEq]
theorem mfind_q (k : K3) : ∀ (qs : List HQ) (i : Nat), mfind kk3 (.agg (k3D k)) (qs.map HQ.row) i = some ((findQ qs k i).map fun p => (p.1, p.2.val))
 | [], i => rfl
 | e :: qs, i => by
  simp only [List.map_cons, HQ.row, mfind, k3_eq, findQ]
  by_cases h : k = e.k
  ·simp [h]
  ·have h' : ¬ e.k = k := fun h2 => h h2.symm
   simp only [h, decide_false, if_neg h']
   exact mfind_q k qs (i + 1)
theorem findQ_spec {k : K3} : ∀ {qs : List HQ} {i j : Nat} {e : HQ}, findQ qs k i = some (j, e) → i ≤ j ∧ qs[j - i]? = some e ∧ e.k = k
 | [], i, j, e, h => by simp [findQ] at h
 | x :: qs, i, j, e, h => by
  simp only [findQ] at h
  split at h
  ·rename_i hk
   simp only [Option.some.injEq, Prod.mk.injEq] at h
   obtain ⟨rfl, rfl⟩ := h
   exact ⟨Nat.le_refl _, by simp, hk⟩
  ·obtain ⟨h1, h2, h3⟩ := findQ_spec h
   refine ⟨by omega, ?_, h3⟩
   rw [show j - i = (j - (i + 1)) + 1 by omega, List.getElem?_cons_succ]; exact h2
theorem findQ_none {k : K3} : ∀ {qs : List HQ} {i : Nat}, findQ qs k i = none → ∀ e ∈ qs, e.k ≠ k
 | [], i, _, e, he => by simp at he
 | x :: qs, i, h, e, he => by
  simp only [findQ] at h
  split at h
  ·simp at h
  ·rename_i hk
   rcases List.mem_cons.1 he with rfl | he
   ·exact hk
   ·exact findQ_none h e he
def wait : List HQ → K3 → List W4
 | [], _ => []
 | e :: r, k => if e.k = k then e.l else wait r k
theorem wait_find {qs : List HQ} {k : K3} (i : Nat) : wait qs k = match findQ qs k i with | some (_, e) => e.l | none => [] := by
 induction qs generalizing i with
 | nil => rfl
 | cons x qs ih =>
  simp only [wait, findQ]
  split
  ·rfl
  ·exact ih (i + 1)
structure HC where
 b : Nat
 f : Int
 d : Int
 n : Int
 c : Int
def HC.row (e : HC) : List AV := [.c (.int .i64 e.b), .agg [.int .i64 e.f, .int .i64 e.d], .agg [.int .i64 e.n, .int .i64 e.c]]
abbrev kk2 : KK := (true, [.int .i64, .int .i64])
def findC : List HC → Int → Int → Nat → Option (Nat × HC)
 | [], _, _, _ => none
 | e :: r, f, d, i => if e.f = f ∧ e.d = d then some (i, e) else findC r f d (i + 1)
theorem mfind_c (f d : Int) : ∀ (cs : List HC) (i : Nat), mfind kk2 (.agg [.int .i64 f, .int .i64 d]) (cs.map HC.row) i = some ((findC cs f d i).map fun p => (p.1, .agg [.int .i64 p.2.n, .int .i64 p.2.c]))
 | [], i => rfl
 | e :: cs, i => by
  have h0 : mkeq kk2 (.agg [.int .i64 f, .int .i64 d]) (.agg [.int .i64 e.f, .int .i64 e.d]) = some (decide (e.f = f ∧ e.d = d)) := by
   simp [mkeq, eqKs, eqK, eq_comm (a := f), eq_comm (a := d)]
  simp only [List.map_cons, HC.row, mfind, h0, findC]
  by_cases h : e.f = f ∧ e.d = d
  ·simp [h]
  ·simp only [h, decide_false, if_false]
   exact mfind_c f d cs (i + 1)
theorem findC_spec {f d : Int} : ∀ {cs : List HC} {i j : Nat} {e : HC}, findC cs f d i = some (j, e) → i ≤ j ∧ cs[j - i]? = some e ∧ e.f = f ∧ e.d = d
 | [], i, j, e, h => by simp [findC] at h
 | x :: cs, i, j, e, h => by
  simp only [findC] at h
  split at h
  ·rename_i hk
   simp only [Option.some.injEq, Prod.mk.injEq] at h
   obtain ⟨rfl, rfl⟩ := h
   exact ⟨Nat.le_refl _, by simp, hk⟩
  ·obtain ⟨h1, h2, h3⟩ := findC_spec h
   refine ⟨by omega, ?_, h3⟩
   rw [show j - i = (j - (i + 1)) + 1 by omega, List.getElem?_cons_succ]; exact h2
theorem findC_none {f d : Int} : ∀ {cs : List HC} {i : Nat}, findC cs f d i = none → ∀ e ∈ cs, ¬ (e.f = f ∧ e.d = d)
 | [], i, _, e, he => by simp at he
 | x :: cs, i, h, e, he => by
  simp only [findC] at h
  split at h
  ·simp at h
  ·rename_i hk
   rcases List.mem_cons.1 he with rfl | he
   ·exact hk
   ·exact findC_none h e he
def MapAt (m : Option Nat) (z : Nat) (rows : Rows) (ob : List (Nat × Obj)) : Prop := match m with
 | none => rows = []
 | some key => get ob key = some ⟨z, rows⟩
def mapV : Option Nat → AV
 | none => .ot .nm
 | some key => .mp key
structure Cn (c : Nat) (ob : List (Nat × Obj)) : Prop where
 cnt : cntOf ob = c
 le : c ≤ 1000000000
 a : ∀ n, c ≤ n → n < DB → get ob (DB + n) = none ∧ nmOb (DB + n) ob = true
 m : ∀ n, c ≤ n → n < DB → get ob (MK + DB + n) = none ∧ nmOb (MK + DB + n) ob = true
 nck : nmOb CK ob = true
structure Cf (c : Nat) (gs : List (Nat × AV)) : Prop where
 a : ∀ n, c ≤ n → n < DB → nmFr (DB + n) gs = true
 m : ∀ n, c ≤ n → n < DB → nmFr (MK + DB + n) gs = true
 nck : nmFr CK gs = true
theorem Cf.le {c c' : Nat} {gs : List (Nat × AV)} (h : Cf c gs) (hc : c ≤ c') : Cf c' gs := ⟨fun n h1 h2 => h.a n (by omega) h2, fun n h1 h2 => h.m n (by omega) h2, h.nck⟩
structure HallI (hk : Nat) (wm cm : Option Nat) (qs : List HQ) (cs : List HC) (n : Int) (c : Nat) (ob : List (Nat × Obj)) : Prop where
 hall : get ob hk = some ⟨3, [[mapV wm, mapV cm, i64 n]]⟩
 wz : ∃ z, MapAt wm z (qs.map HQ.row) ob ∧ ∀ e ∈ qs, e.b < z
 cz : ∃ z, MapAt cm z (cs.map HC.row) ob ∧ ∀ e ∈ cs, e.b < z
 wk : ∀ k, wm = some k → MK + DB ≤ k ∧ k < MK + DB + c
 ck : ∀ k, cm = some k → MK + DB ≤ k ∧ k < MK + DB + c
 wc : ∀ k, wm = some k → cm ≠ some k
 q : ∀ e ∈ qs, get ob e.ky = some e.obj ∧ DB ≤ e.ky ∧ e.ky < DB + c ∧ e.l ≠ []
 qb : (qs.map (·.b)).Nodup
 qy : (qs.map (·.ky)).Nodup
 qk : (qs.map (·.k)).Nodup
 cb : (cs.map (·.b)).Nodup
 cd : (cs.map fun e => (e.f, e.d)).Nodup
 hb : hk < CK
def HOwn (hk : Nat) (wm cm : Option Nat) (qs : List HQ) (k : Nat) : Prop := k = hk ∨ wm = some k ∨ cm = some k ∨ ∃ e ∈ qs, e.ky = k
def New (c c' k : Nat) : Prop := (∃ n, c ≤ n ∧ n < c' ∧ k = DB + n) ∨ ∃ n, c ≤ n ∧ n < c' ∧ k = MK + DB + n
theorem inR_big {fs : List Nat} (hf : ∀ f ∈ fs, f < 1000000) {n : Nat} (hn : n < DB) : inR fs (DB + n) = false ∧ inR fs (MK + DB + n) = false ∧ inR fs CK = false := by
 have h1 : (DB + n) % KT = DB + n := Nat.mod_eq_of_lt (by unfold DB at *; rw [KT_eq]; omega)
 have h2 : (MK + DB + n) % KT = DB + n := by unfold DB at *; rw [MK_eq, KT_eq]; omega
 have h3 : CK % KT = CK := Nat.mod_eq_of_lt (by unfold CK; rw [KT_eq]; omega)
 have big : ∀ k, CK ≤ k → fs.contains (k / 1000) = false := fun k hk => by
  rw [List.contains_eq_mem, decide_eq_false_iff_not]
  intro hm
  have := hf _ hm
  unfold CK at hk; omega
 unfold inR
 rw [h1, h2, h3]
 exact ⟨big _ (by unfold DB CK; omega), big _ (by unfold DB CK; omega), big _ (Nat.le_refl _)⟩
end Go.Am
namespace Go.Am
def sgnI (n : Int) : Int := if n < 0 then -1 else if 0 < n then 1 else 0
def keyW (w : W4) : K3 := (w.2.1, sgnI (w.2.2.1 - w.2.1), w.2.2.2)
def SmF (n : Int) : Prop := -4611686018427387904 ≤ n ∧ n ≤ 4611686018427387903
def SgnC (g : List AV → Option (List AV)) : Prop := ∀ n : Int, g [i64 n] = some [i64 (sgnI n)]
theorem place_Sign_run (Γ : Env) (M : Nat) : SgnC (run Γ M place_Sign_f) := by
 intro n
 unfold sgnI
 by_cases h1 : n < 0
 ·simp -implicitDefEqProofs (disch := omega) [h1]
 ·by_cases h2 : 0 < n
  ·simp -implicitDefEqProofs (disch := omega) [h1, h2]
  ·simp -implicitDefEqProofs (disch := omega) [h1, h2]
def DirC (g : List AV → Option (List AV)) : Prop := ∀ a b : Int, SmF a → SmF b → g [i64 a, i64 b] = some [i64 (sgnI (b - a))]
theorem place_Dir_run (Γ : Env) (M : Nat) (hS : SgnC (Γ 178)) : DirC (run Γ M place_Dir_f) := by
 intro a b ha hb
 obtain ⟨a1, a2⟩ := ha
 obtain ⟨b1, b2⟩ := hb
 have e := hS (b - a)
 simp -implicitDefEqProofs (disch := omega) [e]
structure SmW (w : W4) : Prop where
 a : SmF w.2.1
 b : SmF w.2.2.1
def OfWC (g : List AV → Option (List AV)) : Prop := ∀ w : W4, SmW w → g [.agg (w4D w)] = some [.agg (k3D (keyW w))]
theorem queue_Of_run (Γ : Env) (M : Nat) (hD : DirC (Γ 173)) : OfWC (run Γ M queue_Of_f) := by
 intro w hw
 obtain ⟨a, b, c, d⟩ := w
 have e := hD b c hw.a hw.b
 simp -implicitDefEqProofs (disch := omega) [e, w4D, k3D, keyW]
def CellC (g : List AV → Option (List AV)) : Prop := ∀ a b : Int, g [i64 a, i64 b] = some [.agg [.int .i64 a, .int .i64 b]]
theorem queue_cell_run (Γ : Env) (M : Nat) : CellC (run Γ M queue_cell_f) := by
 intro a b
 simp -implicitDefEqProofs (disch := omega)
end Go.Am
namespace Go.Am
def comeA : AC := .seq (.reg r508_1) (.keepP [0, 3, 8] 508000 509000 [508003, 1461501637330902918203684832716283019655933050986, 508028] (.cond (.t 8) (.keepP [0, 3] 508000 509000 [508003, 1461501637330902918203684832716283019655933050986, 508028] (.renA 1461501637330902918203684832716283019655933050986 (.reg r508_2))) (.skip)))
theorem get_del_none {α : Type} {l : List (Nat × α)} {j : Nat} (k : Nat) (h : get l j = none) : get (del l k) j = none := by
 rw [get_del]; split
 ·rfl
 ·exact h
theorem names_mapV {m : Option Nat} {k : Nat} (h : ∀ j, m = some j → j ≠ k) : (mapV m).names k = false := by
 cases m with
 | none => rfl
 | some j => simp [mapV, AV.names, AV.names1, h j rfl]
structure CmO (w : W4) (ob : List (Nat × Obj)) : Prop where
 b : get ob 508003 = some ⟨4, [w4R w]⟩
 k : ∀ os, 508003 ∈ os → keepF 508000 509000 os ob = ob
 n : ∀ k, k % KT / 1000 = 508 → nmOb k ob = true
 x : ∀ k, k % KT / 1000 = 508 → k ≠ 508003 → get ob k = none
theorem comeA_nil (Γ : Env) (M : Nat) (w : W4) (hk : Nat) (cm : Option Nat) (n : Int) (c : Nat) (gs : List (Nat × AV)) (ob : List (Nat × Obj)) (hO : CmO w ob) (hF : NoF [508] gs) (hC : Cn c ob) (hCf : Cf c gs) (hh : get ob hk = some ⟨3, [[.ot .nm, mapV cm, i64 n]]⟩) (hb : hk < CK) (hne : hk % KT / 1000 ≠ 508) (hcm : ∀ k, cm = some k → MK + DB ≤ k ∧ k < MK + DB + c) :
  exec Γ M comeA ⟨(0, .loc hk 0 0) :: (3, .loc 508003 0 0) :: gs, ob⟩ = some (.norm, ⟨(12, .loc hk 0 0) :: (11, .loc hk 0 0) :: (10, .mp (MK + DB + c)) :: (9, .loc hk 0 0) :: (0, .loc hk 0 0) :: (3, .loc 508003 0 0) :: gs, (CK, ⟨c + 1, []⟩) :: (hk, ⟨3, [[.mp (MK + DB + c), mapV cm, i64 n]]⟩) :: (MK + DB + c, ⟨0, []⟩) :: del (del ob hk) CK⟩) := by
 have g := hF.1
 have e1 := hO.k
 have e2 := hO.b
 have nW := hO.n 1461501637330902918203684832716283019655933050986 (by rw [KT_eq])
 have xW := hO.x 1461501637330902918203684832716283019655933050986 (by rw [KT_eq]) (by omega)
 have dW := del_absent _ _ xW
 have fW := hF.nm (k := 1461501637330902918203684832716283019655933050986) (by decide)
 have hkW : ¬ hk = 1461501637330902918203684832716283019655933050986 := by rintro rfl; exact hne (by rw [KT_eq])
 have hkW' := Ne.symm hkW
 have hkC : ¬ hk = 900000000000000000 := by unfold CK at hb; omega
 have hkL : ¬ hk = 1461501637330902918203684832717283019655932542976 + c := by unfold CK at hb; omega
 have eL : MK + DB + c = 1461501637330902918203684832717283019655932542976 + c := by rw [MK_eq]; unfold DB; omega
 have hm := hC.m c (Nat.le_refl _) (by have := hC.le; unfold DB; omega)
 have fm := hCf.m c (Nat.le_refl _) (by have := hC.le; unfold DB; omega)
 rw [eL] at hm fm ⊢
 obtain ⟨hm1, hm2⟩ := hm
 have hcn : cntX (get ob 900000000000000000) = c := by rw [← cntOf_eq]; exact hC.cnt
 have hcx : get (del ob hk) 900000000000000000 = get ob 900000000000000000 := by rw [get_del, if_neg (Ne.symm hkC)]
 have hck : nmOb 900000000000000000 ob = true := hC.nck
 have hcf : nmFr 900000000000000000 gs = true := hCf.nck
 have hle : c < 1000000000000000000 := by have := hC.le; omega
 have hmd := fun k => get_del_none k (get_del_none hk hm1)
 have hmd1 := get_del_none hk hm1
 have n1 : ∀ k j i, nmOb k ob = true → nmOb k (del (del ob i) j) = true := fun k j i h => nmOb_delO (nmOb_delO h)
 have n2 : ∀ k i, nmOb k ob = true → nmOb k (del ob i) = true := fun k i h => nmOb_delO h
 have eW := renOb_nm (a := 1461501637330902918203684832716283019655933050986) (b := 1461501637330902918203684832717283019655932542976 + c) (l := del (del ob hk) 900000000000000000) (n1 _ _ _ nW) (get_del_none _ (get_del_none _ xW))
 have eF := renFr_nm (a := 1461501637330902918203684832716283019655933050986) (b := 1461501637330902918203684832717283019655932542976 + c) fW
 have hdd : del (del ob hk) (1461501637330902918203684832717283019655932542976 + c) = del ob hk := del_absent _ _ hmd1
 have hWL : ¬ (1461501637330902918203684832716283019655933050986 : Nat) = 1461501637330902918203684832717283019655932542976 + c := by omega
 have e3 : (mapV cm).names 900000000000000000 = false ∧ (mapV cm).names 1461501637330902918203684832716283019655933050986 = false ∧ (mapV cm).names (1461501637330902918203684832717283019655932542976 + c) = false := by
  have hmk : MK + DB = 1461501637330902918203684832717283019655932542976 := by rw [MK_eq]; unfold DB; omega
  refine ⟨names_mapV fun j hj => ?_, names_mapV fun j hj => ?_, names_mapV fun j hj => ?_⟩ <;> have := hcm j hj <;> rw [hmk] at this <;> omega
 have b1 : (hk == 900000000000000000) = false := beq_false_of_ne hkC
 have b2 : (hk == 1461501637330902918203684832717283019655932542976 + c) = false := beq_false_of_ne hkL
 have b3 : ((1461501637330902918203684832716283019655933050986 : Nat) == 1461501637330902918203684832717283019655932542976 + c) = false := beq_false_of_ne hWL
 have b4 : ((508003 : Nat) == 1461501637330902918203684832717283019655932542976 + c) = false := beq_false_of_ne (by omega)
 have hmk : MK + DB = 1461501637330902918203684832717283019655932542976 := by rw [MK_eq]; unfold DB; omega
 cases cm with
 | none =>
  simp only [mapV] at hh e3 ⊢
  simp -implicitDefEqProofs (disch := first | omega | (simp [g] <;> fail) | assumption) [comeA, g, e1, e2, hh, nW, dW, fW, hkW, hkW', hkC, hkL, hcn, hcx, hck, hcf, hle, hmd, hmd1, n1, n2, hm1, hm2, fm, eW, eF, hdd, hWL, e3, b1, b2, b3, b4, CK]
 | some j =>
  have hj := hcm j rfl
  rw [hmk] at hj
  have hjW : ¬ j = 1461501637330902918203684832716283019655933050986 := by omega
  have b5 : (j == 900000000000000000) = false := beq_false_of_ne (by omega)
  have b6 : (j == 1461501637330902918203684832717283019655932542976 + c) = false := beq_false_of_ne (by omega)
  have b7 : (j == 1461501637330902918203684832716283019655933050986) = false := beq_false_of_ne (by omega)
  simp only [mapV] at hh e3 ⊢
  simp -implicitDefEqProofs (disch := first | omega | (simp [g] <;> fail) | assumption) [comeA, g, e1, e2, hh, nW, dW, fW, hkW, hkW', hkC, hkL, hcn, hcx, hck, hcf, hle, hmd, hmd1, n1, n2, hm1, hm2, fm, eW, eF, hdd, hWL, e3, b1, b2, b3, b4, b5, b6, b7, hjW, CK]
end Go.Am
namespace Go.Am
def comeB : AC := .renA 508028 (.draw r508_3q [] [(15, (some 28), .appM 508028 4 32 (.t 25) (.t 27), [1, 2, 3], [4, 5, 6, 7, 8, 9, 10, 11, 12, 13, 14])] r508_3)
theorem nmRows_w4 (k : Nat) (l : List W4) : nmRows k (l.map w4R) = true := nmRows_iff.2 fun r hr v hv => by
 obtain ⟨w, _, rfl⟩ := List.mem_map.1 hr
 simp only [w4R, toAV, w4D, List.map_cons, List.map_nil, List.mem_cons, List.not_mem_nil, or_false] at hv
 rcases hv with rfl | rfl | rfl | rfl <;> rfl
theorem nmRows_take {k : Nat} {rows : Rows} (h : nmRows k rows = true) (i : Nat) : nmRows k (rows.take i) = true := nmRows_iff.2 fun r hr => nmRows_iff.1 h r (List.mem_of_mem_take hr)
theorem nmRows_drop {k : Nat} {rows : Rows} (h : nmRows k rows = true) (i : Nat) : nmRows k (rows.drop i) = true := nmRows_iff.2 fun r hr => nmRows_iff.1 h r (List.mem_of_mem_drop hr)
theorem comeB_new (Γ : Env) (M : Nat) (hOf : OfWC (Γ 507)) (w : W4) (hw : SmW w) (hk K : Nat) (cv : AV) (n : Int) (c z : Nat) (qs : List HQ) (gs : List (Nat × AV)) (ob : List (Nat × Obj)) (hO : CmO w ob) (hF : NoF [508] gs) (hC : Cn c ob) (hCf : Cf c gs) (hh : get ob hk = some ⟨3, [[.mp K, cv, i64 n]]⟩) (hK1 : MK + DB ≤ K) (hm : get ob K = some ⟨z, qs.map HQ.row⟩) (hb : hk < CK) (hne : hk % KT / 1000 ≠ 508)
  (hf : findQ qs (keyW w) 0 = none) :
  (exec Γ M comeB ⟨(0, .loc hk 0 0) :: (3, .loc 508003 0 0) :: gs, ob⟩).map (fun p => (p.1, p.2.ob)) = some (.norm, (CK, ⟨c + 1, []⟩) :: (K, ⟨z + 1, qs.map HQ.row ++ [[.c (.int .i64 z), .agg (k3D (keyW w)), .sl (DB + c) 1 0 1]]⟩) :: (DB + c, ⟨4, [w4R w]⟩) :: del (del ob K) CK) := by
 have g := hF.1
 have e1 := hO.k
 have e2 := hO.b
 have e4 := hOf w hw
 have nW := hO.n 508028 (by rw [KT_eq])
 have xW := hO.x 508028 (by rw [KT_eq]) (by omega)
 have dW := del_absent _ _ xW
 have fW := hF.nm (k := 508028) (by decide)
 have mf := mfind_q (keyW w) qs 0
 rw [hf] at mf
 simp only [Option.map_none] at mf
 have hkK : ¬ hk = K := by unfold CK at hb; unfold DB at hK1; rw [MK_eq] at hK1; omega
 simp only [w4D, k3D] at e4 mf
 have hmk : MK + DB = 1461501637330902918203684832717283019655932542976 := by rw [MK_eq]; unfold DB; omega
 have hdb : DB + c = 1000000000000000000 + c := by unfold DB; omega
 rw [hmk] at hK1
 unfold CK at hb
 have k1 : ¬ K = 508028 := by omega
 have k2 : ¬ hk = 508028 := by rintro rfl; exact hne (by rw [KT_eq])
 have k3 : ¬ K = 900000000000000000 := by omega
 have k4 : ¬ K = 1000000000000000000 + c := by have := hC.le; omega
 have k5 : ¬ hk = 1000000000000000000 + c := by omega
 have k6 : ¬ hk = 900000000000000000 := by omega
 have k1' := Ne.symm k1
 have k3' := Ne.symm k3
 have k2' := Ne.symm k2
 have k4' := Ne.symm k4
 obtain ⟨ha1, ha2⟩ := hC.a c (Nat.le_refl _) (by have := hC.le; unfold DB; omega)
 have fa := hCf.a c (Nat.le_refl _) (by have := hC.le; unfold DB; omega)
 rw [hdb] at ha1 ha2 fa
 have hcn : cntX (get ob 900000000000000000) = c := by rw [← cntOf_eq]; exact hC.cnt
 have hcx : get (del ob K) 900000000000000000 = get ob 900000000000000000 := by rw [get_del, if_neg k3']
 have hck : nmOb 900000000000000000 ob = true := hC.nck
 have hcf : nmFr 900000000000000000 gs = true := hCf.nck
 have hle : c < 1000000000000000000 := by have := hC.le; omega
 have hmd := fun k => get_del_none k (get_del_none K ha1)
 have hmd1 := get_del_none K ha1
 have n1 : ∀ k j i, nmOb k ob = true → nmOb k (del (del ob i) j) = true := fun k j i h => nmOb_delO (nmOb_delO h)
 have n2 : ∀ k i, nmOb k ob = true → nmOb k (del ob i) = true := fun k i h => nmOb_delO h
 have hrow : ∀ k, nmOb k ob = true → nmRows k (qs.map HQ.row) = true := fun k h => nmOb_iff.1 h (K, ⟨z, qs.map HQ.row⟩) (get_mem hm)
 have hr1 := hrow _ nW
 have hr2 := hrow _ hck
 have hr3 := hrow _ ha2
 have hrr := renRows_nm (a := 508028) (b := 1000000000000000000 + c) hr1
 have eW := renOb_nm (a := 508028) (b := 1000000000000000000 + c) (l := del (del ob K) 900000000000000000) (n1 _ _ _ nW) (get_del_none _ (get_del_none _ xW))
 have eF := renFr_nm (a := 508028) (b := 1000000000000000000 + c) fW
 have hdd : del (del ob K) (1000000000000000000 + c) = del ob K := del_absent _ _ hmd1
 have hmu : ∀ (s : St) (v : AV), mupd K (true, [.int .i64, .int .i64, .int .i64]) (.agg [.int .i64 (keyW w).1, .int .i64 (keyW w).2.1, .int .i64 (keyW w).2.2]) v ⟨z, qs.map HQ.row⟩ s = some (s.obj K ⟨z + 1, qs.map HQ.row ++ [[.c (.int .i64 z), .agg [.int .i64 (keyW w).1, .int .i64 (keyW w).2.1, .int .i64 (keyW w).2.2], v]]⟩) := fun s v => by simp only [mupd, mf]
 have b1 : (hk == 900000000000000000) = false := beq_false_of_ne k6
 have b2 : (hk == 1000000000000000000 + c) = false := beq_false_of_ne k5
 have b3 : (K == 900000000000000000) = false := beq_false_of_ne k3
 have b4 : (K == 1000000000000000000 + c) = false := beq_false_of_ne k4
 have b5 : ((508028 : Nat) == 1000000000000000000 + c) = false := beq_false_of_ne (by omega)
 have b6 : ((508003 : Nat) == 1000000000000000000 + c) = false := beq_false_of_ne (by omega)
 have b7 : (K == 508028) = false := beq_false_of_ne k1
 have b8 : (hk == 508028) = false := beq_false_of_ne k2
 have b9 : ¬ (508028 : Nat) = 1000000000000000000 + c := by omega
 simp -implicitDefEqProofs (disch := first | omega | (simp [g] <;> fail) | assumption) [comeB, g, e1, e2, hh, hm, e4, nW, dW, fW, mf, w4R, w4D, k3D, hkK, k1, k2, k3, k4, k5, k6, k1', k2', k3', k4', ha1, ha2, fa, hcn, hcx, hck, hcf, hle, hmd, hmd1, n1, n2, hr1, hr2, hr3, hrr, eW, eF, hdd, b1, b2, b3, b4, b5, b6, b7, b8, b9, hmu, CK, hdb]
theorem comeB_old (Γ : Env) (M : Nat) (hOf : OfWC (Γ 507)) (w : W4) (hw : SmW w) (hk K : Nat) (cv : AV) (n : Int) (c z : Nat) (qs : List HQ) (gs : List (Nat × AV)) (ob : List (Nat × Obj)) (hO : CmO w ob) (hF : NoF [508] gs) (hC : Cn c ob) (hCf : Cf c gs) (hh : get ob hk = some ⟨3, [[.mp K, cv, i64 n]]⟩) (hK1 : MK + DB ≤ K) (hm : get ob K = some ⟨z, qs.map HQ.row⟩) (hb : hk < CK) (hne : hk % KT / 1000 ≠ 508)
  (i : Nat) (e : HQ) (hf : findQ qs (keyW w) 0 = some (i, e)) (hq : get ob e.ky = some e.obj) (hy1 : DB ≤ e.ky) (hy2 : e.ky < DB + c) (hl : e.l ≠ []) (hlen : e.l.length < 1000000) :
  (exec Γ M comeB ⟨(0, .loc hk 0 0) :: (3, .loc 508003 0 0) :: gs, ob⟩).map (fun p => (p.1, p.2.ob)) = some (.norm, (CK, ⟨c + 1, []⟩) :: (K, ⟨z, setRow (qs.map HQ.row) i [.c (.int .i64 e.b), .agg (k3D (keyW w)), .sl (DB + c) (e.l.length + 1) 0 (e.l.length + 1)]⟩) :: (DB + c, ⟨4, (e.l ++ [w]).map w4R⟩) :: del (del (del ob e.ky) K) CK) := by
 have g := hF.1
 have e1 := hO.k
 have e2 := hO.b
 have e4 := hOf w hw
 have nW := hO.n 508028 (by rw [KT_eq])
 have xW := hO.x 508028 (by rw [KT_eq]) (by omega)
 have dW := del_absent _ _ xW
 have fW := hF.nm (k := 508028) (by decide)
 have mf := mfind_q (keyW w) qs 0
 rw [hf] at mf
 simp only [Option.map_some] at mf
 obtain ⟨_, hqi, hek⟩ := findQ_spec hf
 rw [Nat.sub_zero] at hqi
 have hkK : ¬ hk = K := by unfold CK at hb; unfold DB at hK1; rw [MK_eq] at hK1; omega
 simp only [w4D, k3D] at e4 mf
 have hmk : MK + DB = 1461501637330902918203684832717283019655932542976 := by rw [MK_eq]; unfold DB; omega
 have hdb : DB + c = 1000000000000000000 + c := by unfold DB; omega
 rw [hmk] at hK1
 unfold CK at hb
 have k1 : ¬ K = 508028 := by omega
 have k2 : ¬ hk = 508028 := by rintro rfl; exact hne (by rw [KT_eq])
 have k3 : ¬ K = 900000000000000000 := by omega
 have k4 : ¬ K = 1000000000000000000 + c := by have := hC.le; omega
 have k5 : ¬ hk = 1000000000000000000 + c := by omega
 have k6 : ¬ hk = 900000000000000000 := by omega
 have k1' := Ne.symm k1
 have k3' := Ne.symm k3
 have k2' := Ne.symm k2
 have k4' := Ne.symm k4
 obtain ⟨ha1, ha2⟩ := hC.a c (Nat.le_refl _) (by have := hC.le; unfold DB; omega)
 have fa := hCf.a c (Nat.le_refl _) (by have := hC.le; unfold DB; omega)
 rw [hdb] at ha1 ha2 fa
 have hcn : cntX (get ob 900000000000000000) = c := by rw [← cntOf_eq]; exact hC.cnt
 have hcx : get (del ob K) 900000000000000000 = get ob 900000000000000000 := by rw [get_del, if_neg k3']
 have hck : nmOb 900000000000000000 ob = true := hC.nck
 have hcf : nmFr 900000000000000000 gs = true := hCf.nck
 have hle : c < 1000000000000000000 := by have := hC.le; omega
 have hmd := fun k => get_del_none k (get_del_none K ha1)
 have hmd1 := get_del_none K ha1
 have n1 : ∀ k j i, nmOb k ob = true → nmOb k (del (del ob i) j) = true := fun k j i h => nmOb_delO (nmOb_delO h)
 have n2 : ∀ k i, nmOb k ob = true → nmOb k (del ob i) = true := fun k i h => nmOb_delO h
 have hrow : ∀ k, nmOb k ob = true → nmRows k (qs.map HQ.row) = true := fun k h => nmOb_iff.1 h (K, ⟨z, qs.map HQ.row⟩) (get_mem hm)
 have hr1 := hrow _ nW
 have hr2 := hrow _ hck
 have hr3 := hrow _ ha2
 have hrr := renRows_nm (a := 508028) (b := 1000000000000000000 + c) hr1
 have eW := renOb_nm (a := 508028) (b := 1000000000000000000 + c) (l := del (del ob K) 900000000000000000) (n1 _ _ _ nW) (get_del_none _ (get_del_none _ xW))
 have eF := renFr_nm (a := 508028) (b := 1000000000000000000 + c) fW
 have hdd : del (del ob K) (1000000000000000000 + c) = del ob K := del_absent _ _ hmd1
 obtain ⟨eb, ek, ky, gone, l⟩ := e
 simp only at hek hy1 hy2 hl hlen hq
 subst hek
 simp only [HQ.val, HQ.obj] at mf hq
 rw [show DB = 1000000000000000000 from rfl] at hy1 hy2
 have y1 : ¬ ky = 508028 := by omega
 have y2 : ¬ ky = hk := by omega
 have y3 : ¬ ky = K := by omega
 have y4 : ¬ ky = 900000000000000000 := by omega
 have y5 : ¬ ky = 1000000000000000000 + c := by omega
 have y2' := Ne.symm y2
 have y3' := Ne.symm y3
 have y4' := Ne.symm y4
 have y5' := Ne.symm y5
 have b10 : (ky == 900000000000000000) = false := beq_false_of_ne y4
 have b11 : (ky == 1000000000000000000 + c) = false := beq_false_of_ne y5
 have b12 : (ky == 508028) = false := beq_false_of_ne y1
 have hl0 : 0 < l.length := List.length_pos_iff.2 hl
 have hdr : List.drop gone.length (List.map w4R (gone ++ l)) = List.map w4R l := by rw [List.map_append, List.drop_left' (by simp)]
 have hlen2 : (List.map w4R (gone ++ l)).length = gone.length + l.length := by simp
 have hstamp : stampAt (qs.map HQ.row) i = .c (.int .i64 eb) := by
  unfold stampAt
  rw [List.getElem?_map, hqi]; rfl
 have hmu : ∀ (s : St) (v : AV), mupd K (true, [.int .i64, .int .i64, .int .i64]) (.agg [.int .i64 (keyW w).1, .int .i64 (keyW w).2.1, .int .i64 (keyW w).2.2]) v ⟨z, qs.map HQ.row⟩ s = some (s.obj K ⟨z, setRow (qs.map HQ.row) i [.c (.int .i64 eb), .agg [.int .i64 (keyW w).1, .int .i64 (keyW w).2.1, .int .i64 (keyW w).2.2], v]⟩) := fun s v => by simp only [mupd, mf, hstamp]
 have dW2 : del (del ob ky) 508028 = del ob ky := del_absent _ _ (get_del_none _ xW)
 have dd2 : get (del ob ky) K = get ob K := by rw [get_del, if_neg y3']
 have m1 := fun k (h : nmRows k (qs.map HQ.row) = true) => nmRows_take h i
 have m2 := fun k (h : nmRows k (qs.map HQ.row) = true) => nmRows_drop h (i + 1)
 have m3 := renRows_nm (b := 1000000000000000000 + c) (m1 _ hr1)
 have m4 := renRows_nm (b := 1000000000000000000 + c) (m2 _ hr1)
 have m5 := fun k => nmRows_w4 k l
 have m6 := renRows_nm (b := 1000000000000000000 + c) (m5 508028)
 have n3 : ∀ k j i g, nmOb k ob = true → nmOb k (del (del (del ob g) i) j) = true := fun k j i g h => nmOb_delO (nmOb_delO (nmOb_delO h))
 have eW2 := renOb_nm (a := 508028) (b := 1000000000000000000 + c) (l := del (del (del ob ky) K) 900000000000000000) (n3 _ _ _ _ nW) (get_del_none _ (get_del_none _ (get_del_none _ xW)))
 have hmd2 := fun k => get_del_none k (get_del_none K (get_del_none ky ha1))
 have hmd3 := get_del_none K (get_del_none ky ha1)
 have hdd2 : del (del (del ob ky) K) (1000000000000000000 + c) = del (del ob ky) K := del_absent _ _ hmd3
 have hcx2 : get (del (del ob ky) K) 900000000000000000 = get ob 900000000000000000 := by rw [get_del, if_neg k3', get_del, if_neg y4']
 have dd : get (del ob ky) hk = get ob hk := by rw [get_del, if_neg y2']
 have b1 : (hk == 900000000000000000) = false := beq_false_of_ne k6
 have b2 : (hk == 1000000000000000000 + c) = false := beq_false_of_ne k5
 have b3 : (K == 900000000000000000) = false := beq_false_of_ne k3
 have b4 : (K == 1000000000000000000 + c) = false := beq_false_of_ne k4
 have b5 : ((508028 : Nat) == 1000000000000000000 + c) = false := beq_false_of_ne (by omega)
 have b6 : ((508003 : Nat) == 1000000000000000000 + c) = false := beq_false_of_ne (by omega)
 have b7 : (K == 508028) = false := beq_false_of_ne k1
 have b8 : (hk == 508028) = false := beq_false_of_ne k2
 have b9 : ¬ (508028 : Nat) = 1000000000000000000 + c := by omega
 simp -implicitDefEqProofs (disch := first | omega | (simp [g] <;> fail) | assumption) [comeB, g, e1, e2, hh, hm, e4, nW, dW, fW, mf, w4R, w4D, k3D, hkK, k1, k2, k3, k4, k5, k6, k1', k2', k3', k4', ha1, ha2, fa, hcn, hcx, hck, hcf, hle, hmd, hmd1, n1, n2, hr1, hr2, hr3, hrr, eW, eF, hdd, b1, b2, b3, b4, b5, b6, b7, b8, b9, hmu, CK, hdb, HQ.val, hq, y1, y2, y3, y4, y5, y2', y3', y4', y5', b10, b11, b12, hl0, hdr, hlen2, dW2, dd, dd2, m1, m2, m3, m4, m5, m6, n3, eW2, hmd2, hmd3, hdd2, hcx2]
end Go.Am
namespace Go.Am
theorem setRow_set {rows : Rows} {i : Nat} {r : List AV} (h : i < rows.length) : setRow rows i r = rows.set i r := by
 unfold setRow; rw [List.set_eq_take_append_cons_drop, if_pos h]
theorem keyDB (n : Nat) (h : n < DB) : DB + n < MK := by unfold DB at *; rw [MK_eq]; omega
def comeQ (qs : List HQ) (w : W4) (z c : Nat) : List HQ := match findQ qs (keyW w) 0 with
 | none => qs ++ [⟨z, keyW w, DB + c, [], [w]⟩]
 | some (i, e) => qs.set i ⟨e.b, e.k, DB + c, [], e.l ++ [w]⟩
theorem wait_append (qs : List HQ) (e : HQ) (k : K3) : wait (qs ++ [e]) k = match findQ qs k 0 with | some (_, x) => x.l | none => if e.k = k then e.l else [] := by
 have : ∀ (qs : List HQ) (i : Nat), wait (qs ++ [e]) k = match findQ qs k i with | some (_, x) => x.l | none => if e.k = k then e.l else [] := by
  intro qs
  induction qs with
  | nil => intro i; simp [wait, findQ]
  | cons x qs ih =>
   intro i
   simp only [List.cons_append, wait, findQ]
   split
   ·rfl
   ·exact ih (i + 1)
 exact this qs 0
theorem wait_set {k : K3} : ∀ {qs : List HQ} {i : Nat} {e e' : HQ}, qs[i]? = some e → e'.k = e.k → (qs.map (·.k)).Nodup → wait (qs.set i e') k = if e.k = k then e'.l else wait qs k
 | [], i, e, e', h, _, _ => by simp at h
 | x :: qs, 0, e, e', h, hk, _ => by
  simp only [List.getElem?_cons_zero, Option.some.injEq] at h; subst h
  simp only [List.set_cons_zero, wait, hk]
  split <;> rfl
 | x :: qs, i + 1, e, e', h, hk, hn => by
  simp only [List.getElem?_cons_succ] at h
  simp only [List.map_cons, List.nodup_cons] at hn
  simp only [List.set_cons_succ, wait, wait_set h hk hn.2]
  by_cases hx : x.k = k
  ·rw [if_pos hx, if_pos hx]
   have : ¬ e.k = k := fun he => hn.1 (List.mem_map.2 ⟨e, List.mem_of_getElem? h, by rw [he, hx]⟩)
   rw [if_neg this]
  ·rw [if_neg hx, if_neg hx]
theorem wait_come {qs : List HQ} {w : W4} {z c : Nat} (hn : (qs.map (·.k)).Nodup) (k : K3) : wait (comeQ qs w z c) k = if keyW w = k then wait qs k ++ [w] else wait qs k := by
 unfold comeQ
 cases hf : findQ qs (keyW w) 0 with
 | none =>
  simp only [wait_append]
  by_cases hk : keyW w = k
  ·subst hk; rw [wait_find 0, hf]; simp
  ·rw [if_neg hk, if_neg hk, wait_find 0] <;> cases findQ qs k 0 <;> rfl
 | some p =>
  obtain ⟨i, e⟩ := p
  obtain ⟨_, h2, h3⟩ := findQ_spec hf
  rw [Nat.sub_zero] at h2
  simp only
  rw [wait_set (e' := ⟨e.b, e.k, DB + c, [], e.l ++ [w]⟩) h2 rfl hn, h3]
  by_cases hk : keyW w = k
  ·subst hk; rw [if_pos rfl, if_pos rfl, wait_find 0, hf]
  ·rw [if_neg hk, if_neg hk]
theorem map_set_same {α β : Type} (f : α → β) : ∀ {l : List α} {i : Nat} {a b : α}, l[i]? = some a → f b = f a → (l.set i b).map f = l.map f
 | [], i, a, b, h, _ => by simp at h
 | x :: l, 0, a, b, h, hf => by simp only [List.getElem?_cons_zero, Option.some.injEq] at h; subst h; simp [hf]
 | x :: l, i + 1, a, b, h, hf => by simp only [List.getElem?_cons_succ] at h; simp only [List.set_cons_succ, List.map_cons, map_set_same f h hf]
theorem mem_set {α : Type} {l : List α} {i : Nat} {a x : α} (h : x ∈ l.set i a) : x = a ∨ ∃ j, j ≠ i ∧ l[j]? = some x := by
 obtain ⟨j, hj⟩ := List.getElem?_of_mem h
 by_cases hji : i = j
 ·subst hji
  rw [List.getElem?_set_self'] at hj
  cases hl : l[i]? with
  | none => rw [hl] at hj; simp at hj
  | some y => rw [hl] at hj; simp at hj; exact .inl hj.symm
 ·rw [List.getElem?_set_ne hji] at hj; exact .inr ⟨j, Ne.symm hji, hj⟩
theorem nodup_idx {α β : Type} {f : α → β} {l : List α} (hn : (l.map f).Nodup) {i j : Nat} {a b : α} (hi : l[i]? = some a) (hj : l[j]? = some b) (h : f a = f b) : i = j := by
 have h1 : i < (l.map f).length := by rw [List.length_map]; exact (List.getElem?_eq_some_iff.1 hi).1
 have h2 : j < (l.map f).length := by rw [List.length_map]; exact (List.getElem?_eq_some_iff.1 hj).1
 have e1 : (l.map f)[i] = f a := by simp only [List.getElem_map]; congr 1; exact (List.getElem?_eq_some_iff.1 hi).2
 have e2 : (l.map f)[j] = f b := by simp only [List.getElem_map]; congr 1; exact (List.getElem?_eq_some_iff.1 hj).2
 rcases Nat.lt_trichotomy i j with hlt | he | hlt
 ·exact absurd (by rw [e1, e2, h]) (List.pairwise_iff_getElem.1 hn i j h1 h2 hlt)
 ·exact he
 ·exact absurd (by rw [e1, e2, h]) (List.pairwise_iff_getElem.1 hn j i h2 h1 hlt)
def goneK (qs : List HQ) (w : W4) : Option Nat := (findQ qs (keyW w) 0).map fun p => p.2.ky
structure ComeM (K : Nat) (qs : List HQ) (w : W4) (z c : Nat) (ob ob' : List (Nat × Obj)) : Prop where
 ck : get ob' CK = some ⟨c + 1, []⟩
 k : ∃ z', z ≤ z' ∧ (∀ e ∈ comeQ qs w z c, (∀ x ∈ qs, x.b < z) → e.b < z') ∧ get ob' K = some ⟨z', (comeQ qs w z c).map HQ.row⟩
 new : get ob' (DB + c) = some ⟨4, (wait qs (keyW w) ++ [w]).map w4R⟩
 gone : ∀ y, goneK qs w = some y → get ob' y = none
 o : ∀ k, k ≠ CK → k ≠ K → k ≠ DB + c → goneK qs w ≠ some k → get ob' k = get ob k
 key : ∀ p ∈ ob', p.1 = CK ∨ p.1 = K ∨ p.1 = DB + c ∨ p ∈ ob
 nm : ∀ j, j ≠ DB + c → nmOb j ob = true → nmOb j ob' = true
theorem comeB_spec (Γ : Env) (M : Nat) (hOf : OfWC (Γ 507)) (w : W4) (hw : SmW w) (hk K : Nat) (cv : AV) (n : Int) (c z : Nat) (qs : List HQ) (gs : List (Nat × AV)) (ob : List (Nat × Obj)) (hO : CmO w ob) (hF : NoF [508] gs) (hC : Cn c ob) (hCf : Cf c gs) (hh : get ob hk = some ⟨3, [[.mp K, cv, i64 n]]⟩) (hK1 : MK + DB ≤ K) (hK2 : K < MK + DB + c) (hm : get ob K = some ⟨z, qs.map HQ.row⟩) (hb : hk < CK) (hne : hk % KT / 1000 ≠ 508)
  (hq : ∀ e ∈ qs, get ob e.ky = some e.obj ∧ DB ≤ e.ky ∧ e.ky < DB + c ∧ e.l ≠ []) (hlen : ∀ e ∈ qs, e.l.length < 1000000) :
  ∃ ob', (exec Γ M comeB ⟨(0, .loc hk 0 0) :: (3, .loc 508003 0 0) :: gs, ob⟩).map (fun p => (p.1, p.2.ob)) = some (.norm, ob') ∧ ComeM K qs w z c ob ob' := by
 have hmk : MK + DB = 1461501637330902918203684832717283019655932542976 := by rw [MK_eq]; unfold DB; omega
 have hdb : DB = 1000000000000000000 := rfl
 have hckv : CK = 900000000000000000 := rfl
 have hcl := hC.le
 have hrowN : ∀ k, nmOb k ob = true → nmRows k (qs.map HQ.row) = true := fun k h => nmOb_iff.1 h (K, ⟨z, qs.map HQ.row⟩) (get_mem hm)
 have q1 : CK ≠ K := by omega
 have q2 : CK ≠ DB + c := by omega
 have q3 : K ≠ DB + c := by omega
 cases hf : findQ qs (keyW w) 0 with
 | none =>
  have hg : goneK qs w = none := by simp [goneK, hf]
  have hcq : comeQ qs w z c = qs ++ [⟨z, keyW w, DB + c, [], [w]⟩] := by simp [comeQ, hf]
  have hwt : wait qs (keyW w) = [] := by rw [wait_find 0, hf]
  refine ⟨_, comeB_new Γ M hOf w hw hk K cv n c z qs gs ob hO hF hC hCf hh hK1 hm hb hne hf, ?_⟩
  refine ⟨rfl, ⟨z + 1, by omega, fun e he hx => ?_, ?_⟩, ?_, fun y hy => by rw [hg] at hy; simp at hy, fun k h1 h2 h3 _ => ?_, fun p hp => ?_, fun j hj hn => ?_⟩
  ·rw [hcq] at he
   rcases List.mem_append.1 he with he | he
   ·have := hx e he; omega
   ·simp only [List.mem_singleton] at he; subst he; simp
  ·simp only [Go.Am.get]; rw [if_neg q1, if_pos trivial, hcq, List.map_append]; rfl
  ·simp only [Go.Am.get]; rw [if_neg q2, if_neg q3, if_pos trivial, hwt]; rfl
  ·simp only [Go.Am.get]; rw [if_neg (Ne.symm h1), if_neg (Ne.symm h2), if_neg (Ne.symm h3), get_del, if_neg h1, get_del, if_neg h2]
  ·simp only [List.mem_cons] at hp
   rcases hp with rfl | rfl | rfl | hp
   ·exact .inl rfl
   ·exact .inr (.inl rfl)
   ·exact .inr (.inr (.inl rfl))
   ·exact .inr (.inr (.inr (mem_delO (mem_delO hp))))
  ·have hjc : ((DB + c) == j) = false := beq_false_of_ne (Ne.symm hj)
   have := nmRows_w4 j [w]
   simp only [List.map_cons, List.map_nil, nmRows, Bool.and_true] at this
   simp only [nmOb, nmRows, nmRow, this, hrowN j hn, nmRows_append, nmOb_delO (nmOb_delO hn), AV.names, AV.names1, hjc, Bool.and_true, Bool.not_false, Bool.and_self]
 | some p =>
  obtain ⟨i, e⟩ := p
  obtain ⟨_, hqi, hek⟩ := findQ_spec hf
  rw [Nat.sub_zero] at hqi
  have hem := List.mem_of_getElem? hqi
  obtain ⟨y0, y1, y2, y3⟩ := hq e hem
  have hg : goneK qs w = some e.ky := by simp [goneK, hf]
  have hcq : comeQ qs w z c = qs.set i ⟨e.b, e.k, DB + c, [], e.l ++ [w]⟩ := by simp [comeQ, hf]
  have hwt : wait qs (keyW w) = e.l := by rw [wait_find 0, hf]
  have hrow : setRow (qs.map HQ.row) i [.c (.int .i64 e.b), .agg (k3D (keyW w)), .sl (DB + c) (e.l.length + 1) 0 (e.l.length + 1)] = (comeQ qs w z c).map HQ.row := by
   rw [setRow_set (by rw [List.length_map]; exact (List.getElem?_eq_some_iff.1 hqi).1), hcq, List.map_set]
   congr 1
   simp [HQ.row, HQ.val, hek]
  refine ⟨_, comeB_old Γ M hOf w hw hk K cv n c z qs gs ob hO hF hC hCf hh hK1 hm hb hne i e hf y0 y1 y2 y3 (hlen e hem), ?_⟩
  rw [hrow]
  have q4 : e.ky ≠ CK := by omega
  have q5 : e.ky ≠ K := by omega
  have q6 : e.ky ≠ DB + c := by omega
  refine ⟨rfl, ⟨z, by omega, fun x hx hb => ?_, ?_⟩, ?_, fun y hy => ?_, fun k h1 h2 h3 h4 => ?_, fun p hp => ?_, fun j hj hn => ?_⟩
  ·rw [hcq] at hx
   rcases mem_set hx with rfl | ⟨j, _, hj⟩
   ·exact hb e hem
   ·exact hb x (List.mem_of_getElem? hj)
  ·simp only [Go.Am.get]; rw [if_neg q1, if_pos trivial]
  ·simp only [Go.Am.get]; rw [if_neg q2, if_neg q3, if_pos trivial, hwt]
  ·rw [hg] at hy; simp only [Option.some.injEq] at hy; subst hy
   simp only [Go.Am.get]; rw [if_neg (Ne.symm q4), if_neg (Ne.symm q5), if_neg (Ne.symm q6), get_del, if_neg q4, get_del, if_neg q5, get_del, if_pos rfl]
  ·rw [hg] at h4
   have h4 : ¬ k = e.ky := fun h => h4 (by rw [h])
   simp only [Go.Am.get]; rw [if_neg (Ne.symm h1), if_neg (Ne.symm h2), if_neg (Ne.symm h3), get_del, if_neg h1, get_del, if_neg h2, get_del, if_neg h4]
  ·simp only [List.mem_cons] at hp
   rcases hp with rfl | rfl | rfl | hp
   ·exact .inl rfl
   ·exact .inr (.inl rfl)
   ·exact .inr (.inr (.inl rfl))
   ·exact .inr (.inr (.inr (mem_delO (mem_delO (mem_delO hp)))))
  ·have hjc : ((DB + c) == j) = false := beq_false_of_ne (Ne.symm hj)
   have h1 : nmRows j ((comeQ qs w z c).map HQ.row) = true := by
    rw [← hrow]; unfold setRow
    simp only [nmRows_append, nmRows, nmRow, nmRows_take (hrowN j hn) i, nmRows_drop (hrowN j hn) (i + 1), AV.names, AV.names1, hjc, Bool.not_false, Bool.and_self]
   simp only [nmOb, nmRows, nmRow, nmRows_w4, h1, nmOb_delO (nmOb_delO (nmOb_delO hn)), Bool.and_self]
end Go.Am
namespace Go.Am
theorem CmO.of {w : W4} {ob : List (Nat × Obj)} (h : NoO [508] ob) : CmO w ((508003, ⟨4, [w4R w]⟩) :: ob) where
 b := rfl
 k := fun os ho => by
  have := h.kf (f := 508) (by simp)
  simp only [keepF]
  rw [if_pos (.inr (.inr ho))]
  congr 1
  exact this os
 n := fun k hk => by
  have hr : inR [508] k = true := by simp only [inR, hk]; decide
  have := nmRows_w4 k [w]
  simp only [List.map_cons, List.map_nil] at this
  simp only [nmOb, this, h.nm hr, Bool.and_self]
 x := fun k hk hne => by
  have hr : inR [508] k = true := by simp only [inR, hk]; decide
  simp only [Go.Am.get]
  rw [if_neg (Ne.symm hne), h.none hr]
theorem comeA_some (Γ : Env) (M : Nat) (w : W4) (hk K : Nat) (cv : AV) (n : Int) (o : Obj) (gs : List (Nat × AV)) (ob : List (Nat × Obj)) (hO : CmO w ob) (hg : Gh gs) (hh : get ob hk = some ⟨3, [[.mp K, cv, i64 n]]⟩) (hK : get ob K = some o) :
  exec Γ M comeA ⟨(0, .loc hk 0 0) :: (3, .loc 508003 0 0) :: gs, ob⟩ = some (.norm, ⟨(0, .loc hk 0 0) :: (3, .loc 508003 0 0) :: (8, bo false) :: gs, ob⟩) := by
 have e1 := hO.k
 simp -implicitDefEqProofs (disch := first | omega | (simp [hg] <;> fail) | assumption) [comeA, hg, e1, hh, hK]
structure ComeR (hk : Nat) (wm cm : Option Nat) (qs : List HQ) (cs : List HC) (n : Int) (c : Nat) (w : W4) (ob : List (Nat × Obj)) (wm' : Option Nat) (qs' : List HQ) (c' : Nat) (ob' : List (Nat × Obj)) : Prop where
 hall : HallI hk wm' cm qs' cs n c' ob'
 cn : Cn c' ob'
 le : c < c' ∧ c' ≤ c + 2
 wt : ∀ k, wait qs' k = if keyW w = k then wait qs k ++ [w] else wait qs k
 fr : ∀ k, ¬ HOwn hk wm cm qs k → ¬ New c c' k → k ≠ CK → get ob' k = get ob k
 own : ∀ k, HOwn hk wm' cm qs' k → HOwn hk wm cm qs k ∨ New c c' k
 no : ∀ fs, (∀ f ∈ fs, f < 1000000) → NoO fs ob → NoO fs ob'
 nm : ∀ k, ¬ New c c' k → nmOb k ob = true → nmOb k ob' = true
def ComeC (g : St → Option (List AV × List (Nat × Obj))) : Prop := ∀ (w : W4) (hk : Nat) (wm cm : Option Nat) (qs : List HQ) (cs : List HC) (n : Int) (c : Nat) gs ob, SmW w → NoO [508] ob → NoF [508] gs → Cf c gs → Cn c ob → c + 2 ≤ 1000000000 → HallI hk wm cm qs cs n c ob → (∀ e ∈ qs, e.l.length < 1000000) →
 ∃ wm' qs' c' ob', g ⟨(0, .loc hk 0 0) :: (1, .agg (w4D w)) :: gs, ob⟩ = some ([], ob') ∧ ComeR hk wm cm qs cs n c w ob wm' qs' c' ob'
theorem come_body (Γ : Env) (M : Nat) (w : W4) (hk : Nat) (gs : List (Nat × AV)) (ob : List (Nat × Obj)) (hO : NoO [508] ob) (hF : NoF [508] gs) (hk3 : ¬ hk = 508003) (fr2 : List (Nat × AV)) (ob2 ob3 : List (Nat × Obj)) (hO2 : CmO w ob2) (hfr : keep [0, 3] fr2 ++ ghs fr2 = (0, .loc hk 0 0) :: (3, .loc 508003 0 0) :: gs)
  (hA : exec Γ M comeA ⟨(0, .loc hk 0 0) :: (3, .loc 508003 0 0) :: gs, (508003, ⟨4, [w4R w]⟩) :: ob⟩ = some (.norm, ⟨fr2, ob2⟩))
  (hB : (exec Γ M comeB ⟨(0, .loc hk 0 0) :: (3, .loc 508003 0 0) :: gs, ob2⟩).map (fun p => (p.1, p.2.ob)) = some (.norm, ob3)) :
  runP Γ M queue_Hall_Come_f ⟨(0, .loc hk 0 0) :: (1, .agg (w4D w)) :: gs, ob⟩ = some ([], keepF 508000 509000 [1461501637330902918203684832716283019655933050986, 508028] ob3) := by
 have g := hF.1
 have k1 := (CmO.of (w := w) hO).k
 have k2 := hO2.k
 have n1 := hO.nm (k := 508003) (by decide)
 have d1 := hO.del (k := 508003) (by decide)
 have f1 := hF.nm (k := 508003) (by decide)
 simp only [Option.map_eq_some_iff, Prod.mk.injEq] at hB
 obtain ⟨⟨ax, s3⟩, h3, h4, h5⟩ := hB
 simp only at h4 h5
 subst h4; subst h5
 have hne : ¬ hk = 508003 ∨ True := .inr trivial
 have e0 : queue_Hall_Come_c = .seq (.reg r508_0) (.keepP [0, 3] 508000 509000 [508003, 1461501637330902918203684832716283019655933050986, 508028] (.seq comeA (.keepP [0, 3] 508000 509000 [508003, 1461501637330902918203684832716283019655933050986, 508028] comeB))) := rfl
 have r0 : ev Γ r508_0 ⟨(0, .loc hk 0 0) :: (1, .agg (w4D w)) :: gs, ob⟩ = some ⟨(3, .loc 508003 0 0) :: (0, .loc hk 0 0) :: (1, .agg (w4D w)) :: gs, (508003, ⟨4, [w4R w]⟩) :: ob⟩ := by
  simp -implicitDefEqProofs (disch := first | omega | (simp [g] <;> fail) | assumption) [g, n1, d1, f1, w4D, w4R, hk3]
 have s1 : (⟨keep [0, 3] ((3, AV.loc 508003 0 0) :: (0, .loc hk 0 0) :: (1, .agg (w4D w)) :: gs) ++ ghs ((3, AV.loc 508003 0 0) :: (0, .loc hk 0 0) :: (1, .agg (w4D w)) :: gs), keepF 508000 509000 [508003, 1461501637330902918203684832716283019655933050986, 508028] ((508003, ⟨4, [w4R w]⟩) :: ob)⟩ : St) = ⟨(0, .loc hk 0 0) :: (3, .loc 508003 0 0) :: gs, (508003, ⟨4, [w4R w]⟩) :: ob⟩ := by
  rw [k1 _ (by simp)]
  simp [g]
 have hX : exec Γ M queue_Hall_Come_c ⟨(0, .loc hk 0 0) :: (1, .agg (w4D w)) :: gs, ob⟩ = some (.norm, s3) := by
  rw [e0, exec_seq, exec_reg, r0, xNorm_some, xSeq_norm, exec_keepP, s1, exec_seq, hA, xSeq_norm, exec_keepP, hfr, k2 _ (by simp), h3]
 unfold runP queue_Hall_Come_f
 simp only [hX, St.slots, Option.map]
end Go.Am
namespace Go.Am
theorem get_keepK {lo hi : Nat} {os : List Nat} : ∀ (ob : List (Nat × Obj)) (k : Nat), get (keepF lo hi os ob) k = if k % KT < lo ∨ hi ≤ k % KT ∨ k ∈ os then get ob k else none
 | [], k => by simp only [keepF, Go.Am.get]; split <;> rfl
 | (j, o) :: ob, k => by
  have ih := get_keepK (lo := lo) (hi := hi) (os := os) ob k
  simp only [keepF]
  by_cases hj : j % KT < lo ∨ hi ≤ j % KT ∨ j ∈ os
  ·rw [if_pos hj]
   simp only [Go.Am.get]
   by_cases h : j = k
   ·subst h; rw [if_pos rfl, if_pos rfl, if_pos hj]
   ·rw [if_neg h, if_neg h]; exact ih
  ·rw [if_neg hj, ih]
   by_cases hk : k % KT < lo ∨ hi ≤ k % KT ∨ k ∈ os
   ·rw [if_pos hk, if_pos hk]
    simp only [Go.Am.get]
    rw [if_neg (by rintro rfl; exact hj hk)]
   ·rw [if_neg hk, if_neg hk]
theorem nodup_set {α : Type} : ∀ {l : List α} {i : Nat} {a : α}, l.Nodup → a ∉ l → (l.set i a).Nodup
 | [], i, a, _, _ => by simp
 | x :: l, 0, a, h, ha => by
  rw [List.nodup_cons] at h
  rw [List.set_cons_zero, List.nodup_cons]
  exact ⟨fun hm => ha (List.mem_cons_of_mem _ hm), h.2⟩
 | x :: l, i + 1, a, h, ha => by
  rw [List.nodup_cons] at h
  rw [List.set_cons_succ, List.nodup_cons]
  refine ⟨fun hm => ?_, nodup_set h.2 fun hm => ha (List.mem_cons_of_mem _ hm)⟩
  rcases mem_set hm with rfl | ⟨j, _, hj⟩
  ·exact ha (by simp)
  ·exact h.1 (List.mem_of_getElem? hj)
theorem mem_keepC {lo hi : Nat} {os : List Nat} : ∀ {ob : List (Nat × Obj)} {p : Nat × Obj}, p ∈ keepF lo hi os ob → p.1 % KT < lo ∨ hi ≤ p.1 % KT ∨ p.1 ∈ os
 | [], p, h => by simp [keepF] at h
 | (k, o) :: ob, p, h => by
  simp only [keepF] at h
  split at h
  ·rename_i hc
   rcases List.mem_cons.1 h with rfl | h
   ·exact hc
   ·exact mem_keepC h
  ·exact mem_keepC h
theorem keepK_id {lo hi : Nat} {os : List Nat} : ∀ {ob : List (Nat × Obj)}, (∀ p ∈ ob, p.1 % KT < lo ∨ hi ≤ p.1 % KT ∨ p.1 ∈ os) → keepF lo hi os ob = ob
 | [], _ => rfl
 | (k, o) :: ob, h => by
  simp only [keepF]
  rw [if_pos (h (k, o) (by simp)), keepK_id fun p hp => h p (List.mem_cons_of_mem _ hp)]
theorem cntOf_get {ob : List (Nat × Obj)} {c : Nat} (h : get ob CK = some ⟨c, []⟩) : cntOf ob = c := by unfold cntOf; rw [h]
theorem modDB {n : Nat} (h : n < DB) : (DB + n) % KT = DB + n ∧ (MK + DB + n) % KT = DB + n := by
 unfold DB at *
 rw [KT_eq, MK_eq]; omega
abbrev finC (ob : List (Nat × Obj)) : List (Nat × Obj) := keepF 508000 509000 [1461501637330902918203684832716283019655933050986, 508028] ob
theorem come_fin {w : W4} {hk K : Nat} {cm : Option Nat} {qs : List HQ} {cs : List HC} {n : Int} {c z : Nat} {ob ob3 : List (Nat × Obj)} (hM : ComeM K qs w z c ob ob3) (hh : get ob hk = some ⟨3, [[.mp K, mapV cm, i64 n]]⟩) (hz : ∀ e ∈ qs, e.b < z) (hc : c + 1 ≤ 1000000000) (hC : Cn c ob)
  (hcz : ∃ z, MapAt cm z (cs.map HC.row) ob ∧ ∀ e ∈ cs, e.b < z) (hK : MK + DB ≤ K ∧ K < MK + DB + c) (hcm : ∀ k, cm = some k → MK + DB ≤ k ∧ k < MK + DB + c) (hne : cm ≠ some K)
  (hq : ∀ e ∈ qs, get ob e.ky = some e.obj ∧ DB ≤ e.ky ∧ e.ky < DB + c ∧ e.l ≠ []) (qb : (qs.map (·.b)).Nodup) (qy : (qs.map (·.ky)).Nodup) (qk : (qs.map (·.k)).Nodup) (cb : (cs.map (·.b)).Nodup) (cd : (cs.map fun e => (e.f, e.d)).Nodup) (hb : hk < CK) (hm5 : hk % KT / 1000 ≠ 508) :
  HallI hk (some K) cm (comeQ qs w z c) cs n (c + 1) (finC ob3) ∧ Cn (c + 1) (finC ob3) := by
 have hdb : DB = 1000000000000000000 := rfl
 have hck : CK = 900000000000000000 := rfl
 have hmk : MK = 1461501637330902918203684832716283019655932542976 := MK_eq
 have hkt : KT = 18446744073709551616 := KT_eq
 have keepB : ∀ i, i < DB → get (finC ob3) (DB + i) = get ob3 (DB + i) := fun i hi => by
  rw [get_keepK, if_pos (.inr (.inl (by rw [(modDB hi).1]; omega)))]
 have keepM : ∀ i, i < DB → get (finC ob3) (MK + DB + i) = get ob3 (MK + DB + i) := fun i hi => by
  rw [get_keepK, if_pos (.inr (.inl (by rw [(modDB hi).2]; omega)))]
 have keepH : get (finC ob3) hk = get ob3 hk := by
  rw [get_keepK, if_pos ?_]
  have hm : hk % KT = hk := Nat.mod_eq_of_lt (by omega)
  rw [hm] at hm5 ⊢
  by_cases h1 : hk < 508000
  ·exact .inl h1
  ·exact .inr (.inl (by omega))
 have keepC : get (finC ob3) CK = get ob3 CK := by rw [get_keepK, if_pos (.inr (.inl (by rw [hck, hkt]; omega)))]
 have eK : get (finC ob3) K = get ob3 K := by
  obtain ⟨i, hi⟩ : ∃ i, K = MK + DB + i := ⟨K - (MK + DB), by omega⟩
  rw [hi]; exact keepM i (by omega)
 have hgone : ∀ y, goneK qs w = some y → ∃ e ∈ qs, e.ky = y := fun y hy => by
  unfold goneK at hy
  cases hf : findQ qs (keyW w) 0 with
  | none => rw [hf] at hy; simp at hy
  | some p =>
   rw [hf] at hy
   simp only [Option.map_some, Option.some.injEq] at hy
   obtain ⟨_, h2, _⟩ := findQ_spec (j := p.1) (e := p.2) hf
   exact ⟨p.2, List.mem_of_getElem? h2, hy⟩
 have gB : ∀ k, goneK qs w = some k → DB ≤ k ∧ k < DB + c := fun k hk => by
  obtain ⟨e, he, rfl⟩ := hgone k hk; exact ⟨(hq e he).2.1, (hq e he).2.2.1⟩
 have oH : get ob3 hk = get ob hk := hM.o hk (by omega) (by omega) (by omega) fun h => by have := gB hk h; omega
 have oM : ∀ k, cm = some k → get ob3 k = get ob k := fun k hk => by
  have h1 := hcm k hk
  have h2 : k ≠ K := fun h => hne (by rw [hk, h])
  exact hM.o k (by omega) h2 (by omega) fun h => by have := gB k h; omega
 have hnew : ∀ e' ∈ comeQ qs w z c, (e'.ky = DB + c ∧ e'.gone = [] ∧ e'.l = wait qs (keyW w) ++ [w]) ∨ (e' ∈ qs ∧ goneK qs w ≠ some e'.ky) := by
  intro e' he
  unfold comeQ at he
  cases hf : findQ qs (keyW w) 0 with
  | none =>
   rw [hf] at he
   have hg : goneK qs w = none := by simp [goneK, hf]
   rcases List.mem_append.1 he with he | he
   ·exact .inr ⟨he, by rw [hg]; simp⟩
   ·simp only [List.mem_singleton] at he; subst he
    exact .inl ⟨rfl, rfl, by rw [wait_find 0, hf]; rfl⟩
  | some p =>
   obtain ⟨i, e⟩ := p
   rw [hf] at he
   obtain ⟨_, h2, _⟩ := findQ_spec hf
   rw [Nat.sub_zero] at h2
   have hg : goneK qs w = some e.ky := by simp [goneK, hf]
   rcases mem_set he with rfl | ⟨j, hj, hjj⟩
   ·exact .inl ⟨rfl, rfl, by rw [wait_find 0, hf]⟩
   ·refine .inr ⟨List.mem_of_getElem? hjj, fun h => ?_⟩
    rw [hg, Option.some.injEq] at h
    exact hj (nodup_idx (f := HQ.ky) qy hjj h2 h.symm)
 obtain ⟨z', hz1, hz2, hz3⟩ := hM.k
 refine ⟨⟨by rw [keepH, oH]; exact hh, ⟨z', by rw [MapAt, eK]; exact hz3, fun e he => hz2 e he hz⟩, ?_, fun k hk => ?_, fun k hk => ?_, fun k hk => ?_, fun e he => ?_, ?_, ?_, ?_, cb, cd, hb⟩, ?_⟩
 ·obtain ⟨zc, h1, h2⟩ := hcz
  refine ⟨zc, ?_, h2⟩
  cases hcmv : cm with
  | none => rw [hcmv] at h1; exact h1
  | some k =>
   rw [hcmv] at h1
   simp only [MapAt] at h1 ⊢
   have hb2 := hcm k hcmv
   obtain ⟨i, hi⟩ : ∃ i, k = MK + DB + i := ⟨k - (MK + DB), by omega⟩
   have := oM k hcmv
   rw [hi] at this h1 ⊢
   rw [keepM i (by omega), this]; exact h1
 ·simp only [Option.some.injEq] at hk; subst hk; omega
 ·have := hcm k hk; omega
 ·simp only [Option.some.injEq] at hk; subst hk; exact hne
 ·rcases hnew e he with ⟨h1, h2, h3⟩ | ⟨h1, h2⟩
  ·refine ⟨?_, by omega, by omega, by rw [h3]; simp⟩
   rw [h1, keepB c (by omega), hM.new, HQ.obj, h2, h3]; rfl
  ·obtain ⟨q1, q2, q3, q4⟩ := hq e h1
   refine ⟨?_, q2, by omega, q4⟩
   obtain ⟨i, hi⟩ : ∃ i, e.ky = DB + i := ⟨e.ky - DB, by omega⟩
   rw [hi, keepB i (by omega), ← hi, hM.o e.ky (by omega) (by omega) (by omega) h2]; exact q1
 ·
  unfold comeQ
  cases hf : findQ qs (keyW w) 0 with
  | none =>
   rw [List.map_append, List.nodup_append]
   refine ⟨qb, by simp, fun a ha b hb => ?_⟩
   obtain ⟨e, he, rfl⟩ := List.mem_map.1 ha
   simp only [List.map_cons, List.map_nil, List.mem_singleton] at hb
   have := hz e he; omega
  | some p =>
   obtain ⟨i, e⟩ := p
   obtain ⟨_, h2, _⟩ := findQ_spec hf
   rw [Nat.sub_zero] at h2
   simp only
   rw [map_set_same (f := HQ.b) (b := ⟨e.b, e.k, DB + c, [], e.l ++ [w]⟩) h2 rfl]; exact qb
 ·unfold comeQ
  cases hf : findQ qs (keyW w) 0 with
  | none =>
   rw [List.map_append, List.nodup_append]
   refine ⟨qy, by simp, fun a ha b hb => ?_⟩
   obtain ⟨e, he, rfl⟩ := List.mem_map.1 ha
   simp only [List.map_cons, List.map_nil, List.mem_singleton] at hb
   have := (hq e he).2.2.1; omega
  | some p =>
   obtain ⟨i, e⟩ := p
   simp only
   rw [List.map_set]
   refine nodup_set qy fun h => ?_
   obtain ⟨x, hx, hxy⟩ := List.mem_map.1 h
   have := (hq x hx).2.2.1; simp only at hxy; omega
 ·unfold comeQ
  cases hf : findQ qs (keyW w) 0 with
  | none =>
   rw [List.map_append, List.nodup_append]
   refine ⟨qk, by simp, fun a ha b hb => ?_⟩
   obtain ⟨e, he, rfl⟩ := List.mem_map.1 ha
   simp only [List.map_cons, List.map_nil, List.mem_singleton] at hb
   subst hb
   exact findQ_none hf e he
  | some p =>
   obtain ⟨i, e⟩ := p
   obtain ⟨_, h2, _⟩ := findQ_spec hf
   rw [Nat.sub_zero] at h2
   simp only
   rw [map_set_same (f := HQ.k) (b := ⟨e.b, e.k, DB + c, [], e.l ++ [w]⟩) h2 rfl]; exact qk
 ·refine ⟨cntOf_get (by rw [keepC]; exact hM.ck), hc, fun i h1 h2 => ⟨?_, ?_⟩, fun i h1 h2 => ⟨?_, ?_⟩, ?_⟩
  ·rw [keepB i h2, hM.o _ (by omega) (by omega) (by omega) fun h => by have := gB _ h; omega]
   exact (hC.a i (by omega) h2).1
  ·exact nmOb_keep (hM.nm _ (by omega) (hC.a i (by omega) h2).2)
  ·rw [keepM i h2, hM.o _ (by omega) (by omega) (by omega) fun h => by have := gB _ h; omega]
   exact (hC.m i (by omega) h2).1
  ·exact nmOb_keep (hM.nm _ (by omega) (hC.m i (by omega) h2).2)
  ·exact nmOb_keep (hM.nm _ (by omega) hC.nck)
theorem cn_box {w : W4} {c : Nat} {ob : List (Nat × Obj)} (h : Cn c ob) : Cn c ((508003, ⟨4, [w4R w]⟩) :: ob) := by
 have hdb : DB = 1000000000000000000 := rfl
 have hck : CK = 900000000000000000 := rfl
 have hn : ∀ k, nmRows k [w4R w] = true := fun k => by have := nmRows_w4 k [w]; simpa only [List.map_cons, List.map_nil] using this
 refine ⟨?_, h.le, fun i h1 h2 => ⟨?_, ?_⟩, fun i h1 h2 => ⟨?_, ?_⟩, ?_⟩
 ·have := h.cnt
  unfold cntOf at this ⊢
  simp only [Go.Am.get]
  rw [if_neg (by omega)]; exact this
 ·simp only [Go.Am.get]; rw [if_neg (by omega)]; exact (h.a i h1 h2).1
 ·simp only [nmOb, hn, (h.a i h1 h2).2, Bool.and_self]
 ·simp only [Go.Am.get]; rw [if_neg (by omega)]; exact (h.m i h1 h2).1
 ·simp only [nmOb, hn, (h.m i h1 h2).2, Bool.and_self]
 ·simp only [nmOb, hn, h.nck, Bool.and_self]
theorem get_box {w : W4} {ob : List (Nat × Obj)} {k : Nat} (h : k ≠ 508003) : get ((508003, (⟨4, [w4R w]⟩ : Obj)) :: ob) k = get ob k := by
 simp only [Go.Am.get]; rw [if_neg (Ne.symm h)]
theorem queue_Hall_Come_run (Γ : Env) (M : Nat) (hOf : OfWC (Γ 507)) : ComeC (runP Γ M queue_Hall_Come_f) := by
 intro w hk wm cm qs cs n c gs ob hw hO hF hCf hC hc2 hH hlen
 have hdb : DB = 1000000000000000000 := rfl
 have hckv : CK = 900000000000000000 := rfl
 have hmk : MK = 1461501637330902918203684832716283019655932542976 := MK_eq
 have hkt : KT = 18446744073709551616 := KT_eq
 have hb := hH.hb
 have h508 : hk % KT / 1000 ≠ 508 := fun h => by
  have := (hO _ (get_mem hH.hall)).1
  simp [inR, h] at this
  rw [hkt] at h; exact this h
 have hk3 : ¬ hk = 508003 := by rintro rfl; exact h508 (by rw [hkt])
 have hnw : ∀ k, nmRows k [w4R w] = true := fun k => by have := nmRows_w4 k [w]; simpa only [List.map_cons, List.map_nil] using this
 have hC1 := cn_box (w := w) hC
 have hO1 := CmO.of (w := w) hO
 have hh1 : get ((508003, (⟨4, [w4R w]⟩ : Obj)) :: ob) hk = some ⟨3, [[mapV wm, mapV cm, i64 n]]⟩ := by rw [get_box hk3]; exact hH.hall
 have hq1 : ∀ e ∈ qs, get ((508003, (⟨4, [w4R w]⟩ : Obj)) :: ob) e.ky = some e.obj ∧ DB ≤ e.ky ∧ e.ky < DB + c ∧ e.l ≠ [] := fun e he => by
  obtain ⟨a1, a2, a3, a4⟩ := hH.q e he
  exact ⟨by rw [get_box (by omega)]; exact a1, a2, a3, a4⟩
 have hcz1 : ∀ c' : Nat, ∃ z, MapAt cm z (cs.map HC.row) ((508003, (⟨4, [w4R w]⟩ : Obj)) :: ob) ∧ ∀ e ∈ cs, e.b < z := fun _ => by
  obtain ⟨z, h1, h2⟩ := hH.cz
  refine ⟨z, ?_, h2⟩
  cases hcv : cm with
  | none => rw [hcv] at h1; exact h1
  | some k =>
   rw [hcv] at h1
   have := hH.ck k hcv
   simp only [MapAt] at h1 ⊢
   rw [get_box (by omega)]; exact h1
 have noFin : ∀ {K c1 z : Nat} {ob2 ob3 : List (Nat × Obj)}, ComeM K qs w z c1 ob2 ob3 → MK + DB ≤ K → K < MK + DB + DB → c1 < DB → (∀ p ∈ ob2, p.1 = CK ∨ p.1 = hk ∨ p.1 = K ∨ p.1 = 508003 ∨ p ∈ ob) → (∀ fs, (∀ f ∈ fs, f < 1000000) → (∀ k, inR fs k = true → nmOb k ob = true) → ∀ k, inR fs k = true → nmOb k ob2 = true) → ∀ fs, (∀ f ∈ fs, f < 1000000) → NoO fs ob → NoO fs (finC ob3) := by
  intro K c1 z ob2 ob3 hM k1 k2 k3 hkey hnm fs hfs hno p hp
  have hp3 := mem_keepF hp
  have hcond := mem_keepC hp
  have hbig := inR_big hfs k3
  obtain ⟨i, hi⟩ : ∃ i, K = MK + DB + i := ⟨K - (MK + DB), by omega⟩
  have hKb := (inR_big hfs (n := i) (by omega)).2.1
  rw [← hi] at hKb
  refine ⟨?_, fun r hr v hv k hk => ?_⟩
  ·rcases hM.key p hp3 with h | h | h | h
   ·rw [h]; exact hbig.2.2
   ·rw [h]; exact hKb
   ·rw [h]; exact hbig.1
   ·rcases hkey p h with h | h | h | h | h
    ·rw [h]; exact hbig.2.2
    ·rw [h]; exact (hno _ (get_mem hH.hall)).1
    ·rw [h]; exact hKb
    ·exfalso
     rw [h, hkt] at hcond
     simp only [List.mem_cons, List.not_mem_nil, or_false] at hcond
     omega
    ·exact (hno p h).1
  ·have h1 : k ≠ DB + c1 := by rintro rfl; rw [hbig.1] at hk; simp at hk
   have h2 := hM.nm k h1 (hnm fs hfs (fun k hk => hno.nm hk) k hk)
   exact nmRows_iff.1 (nmOb_iff.1 h2 p hp3) r hr v hv
 have frFin : ∀ {ob3 : List (Nat × Obj)} (k : Nat), get ob3 k = get ob k → get (finC ob3) k = get ob k := fun {ob3} k h => by
  rw [get_keepK]
  split
  ·exact h
  ·rename_i hc
   have hr : inR [508] k = true := by
    simp only [inR, List.contains_eq_mem, decide_eq_true_eq, List.mem_singleton]
    omega
   rw [hO.none hr]
 cases hwm : wm with
 | none =>
  subst hwm
  obtain ⟨z0, hz0, hzb⟩ := hH.wz
  have hqs : qs = [] := by simpa [MapAt] using hz0
  subst hqs
  simp only [mapV] at hh1
  have hA := comeA_nil Γ M w hk cm n c gs _ hO1 hF hC1 hCf hh1 hb h508 hH.ck
  obtain ⟨ob2, hob2⟩ : ∃ ob2, ((CK, (⟨c + 1, []⟩ : Obj)) :: (hk, ⟨3, [[.mp (MK + DB + c), mapV cm, i64 n]]⟩) :: (MK + DB + c, ⟨0, []⟩) :: del (del ((508003, (⟨4, [w4R w]⟩ : Obj)) :: ob) hk) CK) = ob2 := ⟨_, rfl⟩
  rw [hob2] at hA
  have g2 : ∀ k, k ≠ CK → k ≠ hk → k ≠ MK + DB + c → get ob2 k = get ((508003, (⟨4, [w4R w]⟩ : Obj)) :: ob) k := fun k a1 a2 a3 => by
   rw [← hob2]; simp only [Go.Am.get]; rw [if_neg (Ne.symm a1), if_neg (Ne.symm a2), if_neg (Ne.symm a3), get_del, if_neg a1, get_del, if_neg a2]; simp only [Go.Am.get]
  have key2 : ∀ p ∈ ob2, p.1 = CK ∨ p.1 = hk ∨ p.1 = MK + DB + c ∨ p ∈ ((508003, (⟨4, [w4R w]⟩ : Obj)) :: ob) := fun p hp => by
   rw [← hob2] at hp
   simp only [List.mem_cons] at hp
   rcases hp with rfl | rfl | rfl | hp
   ·exact .inl rfl
   ·exact .inr (.inl rfl)
   ·exact .inr (.inr (.inl rfl))
   ·exact .inr (.inr (.inr (mem_delO (mem_delO hp))))
  have nm2 : ∀ k, k ≠ MK + DB + c → nmOb k ((508003, (⟨4, [w4R w]⟩ : Obj)) :: ob) = true → nmOb k ob2 = true := fun k hk1 h => by
   have hrow := nmOb_iff.1 h (hk, ⟨3, [[.ot .nm, mapV cm, i64 n]]⟩) (get_mem hh1)
   simp only [nmRows, nmRow, Bool.and_true, Bool.and_eq_true] at hrow
   have hb1 : ((MK + DB + c) == k) = false := beq_false_of_ne (Ne.symm hk1)
   rw [← hob2]
   simp only [nmOb, nmRows, nmRow, Bool.and_true, Bool.true_and, nmOb_delO (nmOb_delO h), names_mp, hb1, Bool.not_false, hrow.2.1]
   rfl
  have hh2 : get ob2 hk = some ⟨3, [[.mp (MK + DB + c), mapV cm, i64 n]]⟩ := by
   rw [← hob2]; simp only [Go.Am.get]; rw [if_neg (by omega), if_pos trivial]
  have hK2 : get ob2 (MK + DB + c) = some ⟨0, ([] : List HQ).map HQ.row⟩ := by
   rw [← hob2]; simp only [Go.Am.get]; rw [if_neg (by omega), if_neg (by omega), if_pos trivial]; rfl
  have hC2 : Cn (c + 1) ob2 := by
   refine ⟨cntOf_get (by rw [← hob2]; simp only [Go.Am.get]; rw [if_pos trivial]), by omega, fun i h1 h2 => ⟨?_, ?_⟩, fun i h1 h2 => ⟨?_, ?_⟩, ?_⟩
   ·rw [g2 _ (by omega) (by omega) (by omega)]; exact (hC1.a i (by omega) h2).1
   ·exact nm2 _ (by omega) (hC1.a i (by omega) h2).2
   ·rw [g2 _ (by omega) (by omega) (by omega)]; exact (hC1.m i (by omega) h2).1
   ·exact nm2 _ (by omega) (hC1.m i (by omega) h2).2
   ·exact nm2 _ (by omega) hC1.nck
  have hO2 : CmO w ob2 := by
   refine ⟨by rw [g2 _ (by omega) (Ne.symm hk3) (by omega)]; exact hO1.b, fun os ho => keepK_id fun p hp => ?_, fun k hk1 => nm2 k (fun h => ?_) (hO1.n k hk1), fun k hk1 hk2 => ?_⟩
   ·rcases key2 p hp with h | h | h | h
    ·exact .inr (.inl (by rw [h, hckv, hkt]; omega))
    ·have hm : hk % KT = hk := Nat.mod_eq_of_lt (by omega)
     rw [h]
     rw [hm] at h508 ⊢
     by_cases h1 : hk < 508000
     ·exact .inl h1
     ·exact .inr (.inl (by omega))
    ·exact .inr (.inl (by rw [h, (modDB (n := c) (by omega)).2]; omega))
    ·rcases List.mem_cons.1 h with rfl | h
     ·exact .inr (.inr ho)
     ·have := kf_iff.1 (hO.kf (f := 508) (by simp)) p h
      rcases this with h | h
      ·exact .inl h
      ·exact .inr (.inl h)
   ·subst h; rw [(modDB (n := c) (by omega)).2] at hk1; omega
   ·rw [g2 k (by rintro rfl; rw [hckv, hkt] at hk1; omega) (by rintro rfl; exact h508 hk1) (by rintro rfl; rw [(modDB (n := c) (by omega)).2] at hk1; omega)]
    exact hO1.x k hk1 hk2
  obtain ⟨ob3, hB, hM⟩ := comeB_spec Γ M hOf w hw hk (MK + DB + c) (mapV cm) n (c + 1) 0 [] gs ob2 hO2 hF hC2 (hCf.le (by omega)) hh2 (by omega) (by omega) hK2 hb h508 (by simp) (by simp)
  have hbody := come_body Γ M w hk gs ob hO hF hk3 _ ob2 ob3 hO2 (by simp [hF.1]) hA hB
  have hcz2 : ∃ z, MapAt cm z (cs.map HC.row) ob2 ∧ ∀ e ∈ cs, e.b < z := by
   obtain ⟨z, a1, a2⟩ := hcz1 c
   refine ⟨z, ?_, a2⟩
   cases hcv : cm with
   | none => rw [hcv] at a1; exact a1
   | some k =>
    rw [hcv] at a1
    have := hH.ck k hcv
    simp only [MapAt] at a1 ⊢
    rw [g2 k (by omega) (by omega) (by omega)]; exact a1
  obtain ⟨r1, r2⟩ := come_fin hM hh2 (by simp) (by omega) hC2 hcz2 (by omega) (fun k hk => by have := hH.ck k hk; omega) (fun h => by have := hH.ck _ h; omega) (by simp) (by simp) (by simp) (by simp) hH.cb hH.cd hb h508
  refine ⟨some (MK + DB + c), comeQ [] w 0 (c + 1), c + 2, finC ob3, hbody, r1, r2, ⟨by omega, by omega⟩, fun k => wait_come (by simp) k, fun k a1 a2 a3 => ?_, fun k a1 => ?_, noFin hM (by omega) (by omega) (by omega) (fun p hp => ?_) (fun fs hfs h k hk => ?_), fun k a1 a2 => ?_⟩
  ·have e1 : k ≠ MK + DB + c := fun h => a2 (.inr ⟨c, by omega, by omega, h⟩)
   have e2 : k ≠ DB + (c + 1) := fun h => a2 (.inl ⟨c + 1, by omega, by omega, h⟩)
   have e3 : k ≠ hk := fun h => a1 (.inl h)
   by_cases hbx : k = 508003
   ·subst hbx
    rw [get_keepK, if_neg (by rw [hkt]; simp), hO.none (by decide)]
   ·refine frFin k ?_
    rw [hM.o k a3 e1 e2 (by simp [goneK, findQ]), g2 k a3 e3 e1, get_box hbx]
  ·rcases a1 with h | h | h | ⟨e, he, h⟩
   ·exact .inl (.inl h)
   ·simp only [Option.some.injEq] at h; exact .inr (.inr ⟨c, by omega, by omega, h.symm⟩)
   ·exact .inl (.inr (.inr (.inl h)))
   ·simp only [comeQ, findQ, List.nil_append, List.mem_singleton] at he
    subst he
    exact .inr (.inl ⟨c + 1, by omega, by omega, h.symm⟩)
  ·rcases key2 p hp with h | h | h | h
   ·exact .inl h
   ·exact .inr (.inl h)
   ·exact .inr (.inr (.inl h))
   ·rcases List.mem_cons.1 h with rfl | h
    ·exact .inr (.inr (.inr (.inl rfl)))
    ·exact .inr (.inr (.inr (.inr h)))
  ·refine nm2 k ?_ (by simp only [nmOb, hnw, h k hk, Bool.and_self])
   rintro rfl
   rw [(inR_big hfs (n := c) (by omega)).2.1] at hk; simp at hk
  ·have e1 : k ≠ MK + DB + c := fun h => a1 (.inr ⟨c, by omega, by omega, h⟩)
   have e2 : k ≠ DB + (c + 1) := fun h => a1 (.inl ⟨c + 1, by omega, by omega, h⟩)
   exact nmOb_keep (hM.nm k e2 (nm2 k e1 (by simp only [nmOb, hnw, a2, Bool.and_self])))
 | some K =>
  subst hwm
  obtain ⟨z, hz, hzb⟩ := hH.wz
  have hKb := hH.wk K rfl
  simp only [mapV] at hh1
  have hK1 : get ((508003, (⟨4, [w4R w]⟩ : Obj)) :: ob) K = some ⟨z, qs.map HQ.row⟩ := by rw [get_box (by omega)]; exact hz
  have hA := comeA_some Γ M w hk K (mapV cm) n _ gs _ hO1 hF.1 hh1 hK1
  obtain ⟨ob3, hB, hM⟩ := comeB_spec Γ M hOf w hw hk K (mapV cm) n c z qs gs _ hO1 hF hC1 hCf hh1 (by omega) (by omega) hK1 hb h508 hq1 hlen
  have hbody := come_body Γ M w hk gs ob hO hF hk3 _ _ ob3 hO1 (by simp [hF.1]) hA hB
  obtain ⟨r1, r2⟩ := come_fin hM hh1 hzb (by omega) hC1 (hcz1 c) (by omega) hH.ck (hH.wc K rfl) hq1 hH.qb hH.qy hH.qk hH.cb hH.cd hb h508
  have gO : ∀ k, goneK qs w = some k → ∃ e ∈ qs, e.ky = k := fun k hk => by
   unfold goneK at hk
   cases hf : findQ qs (keyW w) 0 with
   | none => rw [hf] at hk; simp at hk
   | some p =>
    rw [hf] at hk
    simp only [Option.map_some, Option.some.injEq] at hk
    obtain ⟨_, h2, _⟩ := findQ_spec (j := p.1) (e := p.2) hf
    exact ⟨p.2, List.mem_of_getElem? h2, hk⟩
  refine ⟨some K, comeQ qs w z c, c + 1, finC ob3, hbody, r1, r2, ⟨by omega, by omega⟩, fun k => wait_come hH.qk k, fun k a1 a2 a3 => ?_, fun k a1 => ?_, noFin hM (by omega) (by omega) (by omega) (fun p hp => ?_) (fun fs hfs h k hk => by simp only [nmOb, hnw, h k hk, Bool.and_self]), fun k a1 a2 => ?_⟩
  ·have e1 : k ≠ K := fun h => a1 (.inr (.inl (by rw [h])))
   have e2 : k ≠ DB + c := fun h => a2 (.inl ⟨c, by omega, by omega, h⟩)
   have e3 : goneK qs w ≠ some k := fun h => a1 (.inr (.inr (.inr (gO k h))))
   by_cases hbx : k = 508003
   ·subst hbx
    rw [get_keepK, if_neg (by rw [hkt]; simp), hO.none (by decide)]
   ·refine frFin k ?_
    rw [hM.o k a3 e1 e2 e3, get_box hbx]
  ·rcases a1 with h | h | h | ⟨e, he, h⟩
   ·exact .inl (.inl h)
   ·exact .inl (.inr (.inl h))
   ·exact .inl (.inr (.inr (.inl h)))
   ·unfold comeQ at he
    cases hf : findQ qs (keyW w) 0 with
    | none =>
     rw [hf] at he
     rcases List.mem_append.1 he with he | he
     ·exact .inl (.inr (.inr (.inr ⟨e, he, h⟩)))
     ·simp only [List.mem_singleton] at he; subst he
      exact .inr (.inl ⟨c, by omega, by omega, h.symm⟩)
    | some p =>
     obtain ⟨i, e0⟩ := p
     rw [hf] at he
     rcases mem_set he with rfl | ⟨j, _, hj⟩
     ·exact .inr (.inl ⟨c, by omega, by omega, h.symm⟩)
     ·exact .inl (.inr (.inr (.inr ⟨e, List.mem_of_getElem? hj, h⟩)))
  ·rcases List.mem_cons.1 hp with rfl | h
   ·exact .inr (.inr (.inr (.inl rfl)))
   ·exact .inr (.inr (.inr (.inr h)))
  ·have e2 : k ≠ DB + c := fun h => a1 (.inl ⟨c, by omega, by omega, h⟩)
   exact nmOb_keep (hM.nm k e2 (by simp only [nmOb, hnw, a2, Bool.and_self]))
end Go.Am
