import Derived.Test.YtdnmppikakpdiaaRC
import Derived.Test.YtdnmppikakpdiaaRB
import Derived.Test.YtdnmppikakpdiaaRA
set_option maxHeartbeats 4000000
set_option maxRecDepth 10000
set_option linter.unusedVariables false
set_option linter.unusedSimpArgs false
set_option linter.unnecessarySimpa false
namespace Go.Am
def Big (c k : Nat) : Prop := (DB ≤ k ∧ k < DB + c) ∨ (MK + DB ≤ k ∧ k < MK + DB + c)
theorem Big.le {c c' k : Nat} (h : Big c k) (hc : c ≤ c') : Big c' k := by unfold Big at *; omega
structure KN (c : Nat) (ob : List (Nat × Obj)) : Prop where
 k : ∀ p ∈ ob, p.1 = 3 ∨ p.1 = 18 ∨ p.1 = CK ∨ Big c p.1
 n : ∀ p ∈ ob, ∀ r ∈ p.2.rows, ∀ x ∈ r, ∀ k, AV.names k x = true → Big c k
theorem KN.none {c k : Nat} {ob : List (Nat × Obj)} (h : KN c ob) (h1 : k ≠ 3) (h2 : k ≠ 18) (h3 : k ≠ CK) (h4 : ¬ Big c k) : get ob k = none := by
 cases hg : get ob k with
 | none => rfl
 | some o => rcases h.k _ (get_mem hg) with e | e | e | e <;> simp only at e <;> contradiction
theorem KN.nm {c k : Nat} {ob : List (Nat × Obj)} (h : KN c ob) (h4 : ¬ Big c k) : nmOb k ob = true := nmOb_iff.2 fun p hp => nmRows_iff.2 fun r hr x hx => by
 cases hn : AV.names k x with
 | false => rfl
 | true => exact absurd (h.n p hp r hr x hx k hn) h4
theorem KN.mod {c : Nat} (hc : c ≤ 1000000) {k : Nat} (h : k = 3 ∨ k = 18 ∨ k = CK ∨ Big c k) : k = 3 ∨ k = 18 ∨ 1000000 ≤ k % KT := by
 have hdb : DB = 1000000000000000000 := rfl
 have hck : CK = 900000000000000000 := rfl
 have hmk : MK = 1461501637330902918203684832716283019655932542976 := MK_eq
 have hkt : KT = 18446744073709551616 := KT_eq
 rcases h with h | h | h | h | h
 ·exact .inl h
 ·exact .inr (.inl h)
 ·rw [h, hck, hkt]; exact .inr (.inr (by omega))
 ·obtain ⟨i, rfl⟩ : ∃ i, k = DB + i := ⟨k - DB, by omega⟩
  rw [(modDB (by omega)).1]; exact .inr (.inr (by omega))
 ·obtain ⟨i, rfl⟩ : ∃ i, k = MK + DB + i := ⟨k - (MK + DB), by omega⟩
  rw [(modDB (by omega)).2]; exact .inr (.inr (by omega))
theorem KN.keep {c lo hi : Nat} {os : List Nat} {ob : List (Nat × Obj)} (h : KN c ob) (hc : c ≤ 1000000) (h1 : 1000 ≤ lo) (h2 : hi ≤ 1000000) : keepF lo hi os ob = ob := keepK_id fun p hp => by
 have hkt : KT = 18446744073709551616 := KT_eq
 rcases KN.mod hc (h.k p hp) with e | e | e
 ·rw [e, hkt]; omega
 ·rw [e, hkt]; omega
 ·omega
theorem KN.keep0 {c : Nat} {os : List Nat} {ob : List (Nat × Obj)} (h : KN c ob) (hc : c ≤ 1000000) (h1 : 3 ∈ os) (h2 : 18 ∈ os) : keepF 0 1000 os ob = ob := keepK_id fun p hp => by
 rcases KN.mod hc (h.k p hp) with e | e | e
 ·exact .inr (.inr (by rw [e]; exact h1))
 ·exact .inr (.inr (by rw [e]; exact h2))
 ·omega
theorem KN.le {c c' : Nat} {ob : List (Nat × Obj)} (h : KN c ob) (hc : c ≤ c') : KN c' ob := ⟨fun p hp => (h.k p hp).imp id fun e => e.imp id fun e => e.imp id fun e => e.le hc, fun p hp r hr x hx k hk => (h.n p hp r hr x hx k hk).le hc⟩
theorem KN.cons {c k : Nat} {o : Obj} {ob : List (Nat × Obj)} (h : KN c ob) (hk : k = 3 ∨ k = 18 ∨ k = CK ∨ Big c k) (hn : ∀ r ∈ o.rows, ∀ x ∈ r, ∀ j, AV.names j x = true → Big c j) : KN c ((k, o) :: ob) :=
 ⟨fun p hp => by
  rcases List.mem_cons.1 hp with rfl | hp
  ·exact hk
  ·exact h.k p hp, fun p hp => by
  rcases List.mem_cons.1 hp with rfl | hp
  ·exact hn
  ·exact h.n p hp⟩
theorem KN.del {c : Nat} {ob : List (Nat × Obj)} (h : KN c ob) (k : Nat) : KN c (Am.del ob k) := ⟨fun p hp => h.k p (mem_delO hp), fun p hp => h.n p (mem_delO hp)⟩
theorem KN.sub {c lo hi : Nat} {os : List Nat} {ob : List (Nat × Obj)} (h : KN c ob) : KN c (keepF lo hi os ob) := ⟨fun p hp => h.k p (mem_keepF hp), fun p hp => h.n p (mem_keepF hp)⟩
theorem oR_names (l : List Sp) (c : Nat) : ∀ r ∈ oR l, ∀ x ∈ r, ∀ j, AV.names j x = true → Big c j := by
 intro r hr x hx j hj
 obtain ⟨s, hs, rfl⟩ := List.mem_map.1 hr
 simp only [Function.comp, toAV, Sp.cells, List.map_cons, List.map_nil, List.mem_cons, List.mem_nil_iff, or_false] at hx
 rcases hx with rfl | rfl <;> simp [AV.names, AV.names1] at hj
structure GN (gs : List (Nat × AV)) : Prop where
 g : Gh gs
 n : ∀ p ∈ gs, ∀ k, AV.names k p.2 = true → k < 1000
theorem GN.nm {gs : List (Nat × AV)} (h : GN gs) {k : Nat} (hk : 1000 ≤ k) : nmFr k gs = true := nmFr_iff.2 fun p hp => by
 cases hn : AV.names k p.2 with
 | false => rfl
 | true => have := h.n p hp k hn; omega
def RowO (k c : Nat) (o : List Sp) (ob : List (Nat × Obj)) : List AV × List (Nat × Obj) := ([.sl (DB + c) o.length 0 o.length], (CK, ⟨c + 1, []⟩) :: (DB + c, ⟨2, oR o⟩) :: del ob CK)
def MergeO (g : St → Option (List AV × List (Nat × Obj))) : Prop := ∀ l : List Sp, l.length ≤ 1000 → (∀ s ∈ l, s.Ok) → ∃ o : List Sp, SRight o ∧ (∀ s ∈ o, s.Ok) ∧ o.length ≤ l.length ∧ (∀ n, HasS o n ↔ HasS l n) ∧
 ∀ (k c : Nat) gs ob, Gh gs → get ob k = some ⟨2, oR l⟩ → k < CK → cntOf ob = c → c ≤ 1000000 → get ob (DB + c) = none → nmFr (DB + c) gs = true → nmOb (DB + c) ob = true → nmFr CK gs = true → nmOb CK ob = true →
  g ⟨(0, .sl k l.length 0 l.length) :: gs, ob⟩ = some ([.sl (DB + c) o.length 0 o.length], (CK, ⟨c + 1, []⟩) :: (DB + c, ⟨2, oR o⟩) :: del (del ob k) CK)
theorem inn_oR (l : List Sp) : ((oR l).all fun r => r.all fun x => AV.inn [] x) = true := by
 simp only [List.all_eq_true]
 intro r hr x hx
 obtain ⟨s, hs, rfl⟩ := List.mem_map.1 hr
 simp only [Function.comp, toAV, Sp.cells, List.map_cons, List.map_nil, List.mem_cons, List.mem_nil_iff, or_false] at hx
 rcases hx with rfl | rfl <;> rfl
theorem frz_oR {fr : List (Nat × AV)} {ob : List (Nat × Obj)} {k : Nat} {l : List Sp} (h : get ob k = some ⟨2, oR l⟩) : St.frz ⟨fr, ob⟩ (.sl k l.length 0 l.length) = some (spL l, some k) := by
 have hall := allRows_comp Sp.cells l
 have hrl := oR_len l
 have hF := List.take_of_length_le (i := l.length) (l := l.map Sp.cells) (by simp)
 rw [show List.map (toAV ∘ Sp.cells) l = oR l from rfl] at hall
 simp [St.frz, St.view, h, hrl, hall, hF]
theorem merge_own {g : St → Option (List AV × List (Nat × Obj))} (h : MergeP_C g) : MergeO (ownC 1 737004 g) := by
 intro l hl hok
 obtain ⟨o, m, e, h1, h2, h3, h4⟩ := h l hl hok
 refine ⟨o, h1, h2, h3, h4, fun k c gs ob hg hk hk2 hc hc2 n1 n2 n3 n4 n5 => ?_⟩
 have hdb : DB = 1000000000000000000 := rfl
 have hck : CK = 900000000000000000 := rfl
 have g1 : get gs 1 = none := Gh.get hg (by omega)
 have hf := frz_oR (fr := (0, .sl k l.length 0 l.length) :: gs) hk
 have hcn : cntOf (del ob k) = c := by
  rw [← hc]; unfold cntOf; rw [get_del, if_neg (by omega)]
 have hk3 : ¬ k = DB + c := by omega
 have hk4 : ¬ k = CK := by omega
 have b3 : (k == DB + c) = false := beq_false_of_ne hk3
 have b4 : (k == CK) = false := beq_false_of_ne hk4
 exact ownC_eq (s := ⟨(0, .sl k l.length 0 l.length) :: gs, ob⟩) (vs := [.sl k l.length 0 l.length]) (ds := [spL l]) (ks := [k]) (by decide) (by simp only [Go.Am.get]; rw [if_neg (by omega)]; exact g1) (by rw [KT_eq]; omega) rfl (by simp only [St.frzs, hf]; rfl) e rfl (inn_oR o) rfl hcn (by omega) (get_del_none k n1)
  (by simp only [nmFr, n2, AV.names, AV.names1, b3]; rfl) (nmOb_delO n3) (by simp only [nmFr, n4, AV.names, AV.names1, b4]; rfl) (nmOb_delO n5)
def SubO (g : St → Option (List AV × List (Nat × Obj))) : Prop := ∀ a b : List Sp, a.length ≤ 100 → b.length ≤ 100 → SRight a → SRight b → (∀ s ∈ a, s.Ok) → (∀ s ∈ b, s.Ok) →
 ∃ o : List Sp, SRight o ∧ (∀ s ∈ o, s.Ok) ∧ (∀ n, HasS o n ↔ HasS a n ∧ ¬ HasS b n) ∧
 (∀ (k c : Nat) gs ob, Gh gs → get ob k = some ⟨2, oR a⟩ → k < DB + c → k ≠ CK → cntOf ob = c → c ≤ 1000000 → get ob (DB + c) = none → nmFr (DB + c) gs = true → nmOb (DB + c) ob = true → nmFr CK gs = true → nmOb CK ob = true →
  g ⟨(0, .sl k a.length 0 a.length) :: (1, spL b) :: gs, ob⟩ = some ([.sl (DB + c) o.length 0 o.length], (CK, ⟨c + 1, []⟩) :: (DB + c, ⟨2, oR o⟩) :: del (del ob k) CK)) ∧
 (a = [] → ∀ (c : Nat) gs ob, Gh gs → cntOf ob = c → c ≤ 1000000 → get ob (DB + c) = none → nmFr (DB + c) gs = true → nmOb (DB + c) ob = true → nmFr CK gs = true → nmOb CK ob = true →
  g ⟨(0, .nil 2) :: (1, spL b) :: gs, ob⟩ = some ([.sl (DB + c) o.length 0 o.length], (CK, ⟨c + 1, []⟩) :: (DB + c, ⟨2, oR o⟩) :: del ob CK))
theorem sub_own {g : St → Option (List AV × List (Nat × Obj))} (h : SubP_C g) : SubO (ownC 2 736005 g) := by
 intro a b ha hb ra rb oa ob'
 obtain ⟨o, e, h1, h2, h4⟩ := h a b ha hb ra rb oa ob'
 have hdb : DB = 1000000000000000000 := rfl
 have hck : CK = 900000000000000000 := rfl
 refine ⟨o, h1, h2, h4, fun k c gs ob hg hk hk2 hk5 hc hc2 n1 n2 n3 n4 n5 => ?_, fun hnil c gs ob hg hc hc2 n1 n2 n3 n4 n5 => ?_⟩
 ·have g1 : get gs 2 = none := Gh.get hg (by omega)
  have hf := frz_oR (fr := (0, .sl k a.length 0 a.length) :: (1, spL b) :: gs) hk
  have hcn : cntOf (del ob k) = c := by
   rw [← hc]; unfold cntOf; rw [get_del, if_neg (Ne.symm hk5)]
  have hk3 : ¬ k = DB + c := by omega
  have b3 : (k == DB + c) = false := beq_false_of_ne hk3
  have b4 : (k == CK) = false := beq_false_of_ne hk5
  exact ownC_eq (s := ⟨(0, .sl k a.length 0 a.length) :: (1, spL b) :: gs, ob⟩) (vs := [.sl k a.length 0 a.length, spL b]) (ds := [spL a, spL b]) (ks := [k]) (by decide) (by simp only [Go.Am.get]; rw [if_neg (by omega), if_neg (by omega)]; exact g1) (by rw [KT_eq]; omega) rfl (by simp only [St.frzs, hf]; rfl) e rfl (inn_oR o) rfl hcn (by omega) (get_del_none k n1)
   (by simp only [nmFr, n2, AV.names, AV.names1, b3]; rfl) (nmOb_delO n3) (by simp only [nmFr, n4, AV.names, AV.names1, b4]; rfl) (nmOb_delO n5)
 ·subst hnil
  have g1 : get gs 2 = none := Gh.get hg (by omega)
  exact ownC_eq (s := ⟨(0, .nil 2) :: (1, spL b) :: gs, ob⟩) (vs := [.nil 2, spL b]) (ds := [spL [], spL b]) (ks := []) (by decide) (by simp only [Go.Am.get]; rw [if_neg (by omega), if_neg (by omega)]; exact g1) (by rw [KT_eq]; omega) rfl rfl e rfl (inn_oR o) rfl hc (by omega) n1
   (by simp only [nmFr, n2, AV.names, AV.names1]; rfl) n3 (by simp only [nmFr, n4, AV.names, AV.names1]; rfl) n5
end Go.Am
namespace Go.Am
structure RQ where
 car : Int
 b : Nat
 ky : Nat
 l : List Sp
def RQ.val (e : RQ) : AV := .sl e.ky e.l.length 0 e.l.length
def RQ.row (e : RQ) : List AV := [.c (.int .i64 e.b), i64 e.car, e.val]
abbrev kkR : KK := (false, [.int .i64])
def findR : List RQ → Int → Nat → Option (Nat × RQ)
 | [], _, _ => none
 | e :: r, k, i => if e.car = k then some (i, e) else findR r k (i + 1)
theorem kR_eq (a b : Int) : mkeq kkR (i64 a) (i64 b) = some (decide (a = b)) := by
 simp [mkeq, eqKs, eqK]
theorem mfind_r (k : Int) : ∀ (qs : List RQ) (i : Nat), mfind kkR (i64 k) (qs.map RQ.row) i = some ((findR qs k i).map fun p => (p.1, p.2.val))
 | [], i => rfl
 | e :: qs, i => by
  simp only [List.map_cons, RQ.row, mfind, kR_eq, findR]
  by_cases h : k = e.car
  ·simp [h]
  ·have h' : ¬ e.car = k := fun h2 => h h2.symm
   simp only [h, decide_false, if_neg h']
   exact mfind_r k qs (i + 1)
theorem findR_spec {k : Int} : ∀ {qs : List RQ} {i j : Nat} {e : RQ}, findR qs k i = some (j, e) → i ≤ j ∧ qs[j - i]? = some e ∧ e.car = k
 | [], i, j, e, h => by simp [findR] at h
 | x :: qs, i, j, e, h => by
  simp only [findR] at h
  split at h
  ·rename_i hk
   simp only [Option.some.injEq, Prod.mk.injEq] at h
   obtain ⟨rfl, rfl⟩ := h
   exact ⟨Nat.le_refl _, by simp, hk⟩
  ·obtain ⟨h1, h2, h3⟩ := findR_spec h
   refine ⟨by omega, ?_, h3⟩
   rw [show j - i = (j - (i + 1)) + 1 by omega, List.getElem?_cons_succ]; exact h2
theorem findR_none {k : Int} : ∀ {qs : List RQ} {i : Nat}, findR qs k i = none → ∀ e ∈ qs, e.car ≠ k
 | [], i, _, e, he => by simp at he
 | x :: qs, i, h, e, he => by
  simp only [findR] at h
  split at h
  ·simp at h
  ·rename_i hk
   rcases List.mem_cons.1 he with rfl | he
   ·exact hk
   ·exact findR_none h e he
def outR : List RQ → Int → List Sp
 | [], _ => []
 | e :: r, k => if e.car = k then e.l else outR r k
theorem outR_find {qs : List RQ} {k : Int} (i : Nat) : outR qs k = match findR qs k i with | some (_, e) => e.l | none => [] := by
 induction qs generalizing i with
 | nil => rfl
 | cons x qs ih =>
  simp only [outR, findR]
  split
  ·rfl
  ·exact ih (i + 1)
structure RoI (m : Option Nat) (qs : List RQ) (c : Nat) (ob : List (Nat × Obj)) : Prop where
 kn : KN c ob
 cnt : cntOf ob = c
 le : c ≤ 900000
 ro : get ob 18 = some ⟨1, [[mapV m]]⟩
 z : ∃ z, MapAt m z (qs.map RQ.row) ob
 ck : ∀ k, m = some k → MK + DB ≤ k ∧ k < MK + DB + c
 q : ∀ e ∈ qs, get ob e.ky = some ⟨2, oR e.l⟩ ∧ DB ≤ e.ky ∧ e.ky < DB + c
 qy : (qs.map (·.ky)).Nodup
 qk : (qs.map (·.car)).Nodup
structure RtO (s : Sp) (ob : List (Nat × Obj)) : Prop where
 b : get ob 463005 = some ⟨2, [[i64 s.f, i64 s.t]]⟩
 k : ∀ os, 463005 ∈ os → keepF 463000 464000 os ob = ob
 n : ∀ k, k % KT / 1000 = 463 → nmOb k ob = true
 x : ∀ k, k % KT / 1000 = 463 → k ≠ 463005 → get ob k = none
theorem big463 {c k : Nat} (hc : c ≤ 900000) (h : k % KT / 1000 = 463) : ¬ Big c k ∧ k ≠ 3 ∧ k ≠ 18 ∧ k ≠ CK := by
 have hkt : KT = 18446744073709551616 := KT_eq
 refine ⟨fun hb => ?_, ?_, ?_, ?_⟩
 ·rcases KN.mod (c := c) (by omega) (.inr (.inr (.inr hb))) with e | e | e
  ·rw [e, hkt] at h; omega
  ·rw [e, hkt] at h; omega
  ·omega
 ·rintro rfl; rw [hkt] at h; omega
 ·rintro rfl; rw [hkt] at h; omega
 ·rintro rfl; rw [hkt, show CK = 900000000000000000 from rfl] at h; omega
theorem RtO.of {c : Nat} {s : Sp} {ob : List (Nat × Obj)} (h : KN c ob) (hc : c ≤ 900000) : RtO s ((463005, ⟨2, [[i64 s.f, i64 s.t]]⟩) :: ob) where
 b := rfl
 k := fun os ho => by
  simp only [keepF]
  rw [if_pos (.inr (.inr ho)), h.keep (by omega) (by omega) (by omega)]
 n := fun k hk => by
  have := h.nm (big463 hc hk).1
  simp only [nmOb, nmRows, nmRow, AV.names, AV.names1, this]; rfl
 x := fun k hk hne => by
  simp only [Go.Am.get]
  rw [if_neg (Ne.symm hne)]
  obtain ⟨h1, h2, h3, h4⟩ := big463 hc hk
  exact h.none h2 h3 h4 h1
end Go.Am
namespace Go.Am
theorem nmFr_ghoR (k : Nat) : ∀ gs : List (Nat × AV), nmFr k (gho gs) = nmFr k gs
 | [] => rfl
 | (i, v) :: r => by simp only [gho, nmFr, nmFr_ghoR k r]
def roA : AC := .seq (.reg r463_2) (.keepP [0, 1, 5, 15] 463000 464000 [463005, 1461501637330902918203684832716283019655933005993] (.cond (.t 15) (.keepP [0, 1, 5] 463000 464000 [463005, 1461501637330902918203684832716283019655933005993] (.renA 1461501637330902918203684832716283019655933005993 (.reg r463_3))) (.skip)))
def roB : AC := .draw r463_4q [] [(13, (some 33), .appM 463033 2 16 (.t 30) (.t 32), [1, 2, 3], [5, 6, 7, 8, 9, 10, 11, 12]), (14, (some 34), .callP 737 [(.t 33)], [1, 2, 3], [5, 6, 7, 8, 9, 10, 11, 12, 13])] r463_4
theorem roA_nil (Γ : Env) (M : Nat) (s : Sp) (car : Int) (c : Nat) (gs : List (Nat × AV)) (ob : List (Nat × Obj)) (hO : RtO s ob) (hF : GN gs) (hC : Cn c ob) (hh : get ob 18 = some ⟨1, [[.ot .nm]]⟩) :
  (exec Γ M roA ⟨(0, .loc 18 0 0) :: (1, i64 car) :: (5, .loc 463005 0 0) :: gs, ob⟩).map (fun p => (p.1, keep [0, 1, 5] p.2.fr ++ ghs p.2.fr, p.2.ob)) = some (.norm, (0, .loc 18 0 0) :: (1, i64 car) :: (5, .loc 463005 0 0) :: gs, (CK, ⟨c + 1, []⟩) :: (18, ⟨1, [[.mp (MK + DB + c)]]⟩) :: (MK + DB + c, ⟨0, []⟩) :: del (del ob 18) CK) := by
 have g := hF.g
 have e1 := hO.k
 have e2 := hO.b
 have nW := hO.n 1461501637330902918203684832716283019655933005993 (by rw [KT_eq])
 have xW := hO.x 1461501637330902918203684832716283019655933005993 (by rw [KT_eq]) (by omega)
 have dW := del_absent _ _ xW
 have fW := hF.nm (k := 1461501637330902918203684832716283019655933005993) (by decide)
 have eL : MK + DB + c = 1461501637330902918203684832717283019655932542976 + c := by rw [MK_eq]; unfold DB; omega
 have hm := hC.m c (Nat.le_refl _) (by have := hC.le; unfold DB; omega)
 have fm := hF.nm (k := MK + DB + c) (by unfold DB; omega)
 rw [eL] at hm fm ⊢
 obtain ⟨hm1, hm2⟩ := hm
 have hcn : cntX (get ob 900000000000000000) = c := by rw [← cntOf_eq]; exact hC.cnt
 have hcx : get (del ob 18) 900000000000000000 = get ob 900000000000000000 := by rw [get_del, if_neg (by omega)]
 have hck : nmOb 900000000000000000 ob = true := hC.nck
 have hcf : nmFr 900000000000000000 gs = true := hF.nm (by omega)
 have hle : c < 1000000000000000000 := by have := hC.le; omega
 have hmd := fun k => get_del_none k (get_del_none 18 hm1)
 have hmd1 := get_del_none 18 hm1
 have n1 : ∀ k j i, nmOb k ob = true → nmOb k (del (del ob i) j) = true := fun k j i h => nmOb_delO (nmOb_delO h)
 have n2 : ∀ k i, nmOb k ob = true → nmOb k (del ob i) = true := fun k i h => nmOb_delO h
 have eW := renOb_nm (a := 1461501637330902918203684832716283019655933005993) (b := 1461501637330902918203684832717283019655932542976 + c) (l := del (del ob 18) 900000000000000000) (n1 _ _ _ nW) (get_del_none _ (get_del_none _ xW))
 have eF := renFr_nm (a := 1461501637330902918203684832716283019655933005993) (b := 1461501637330902918203684832717283019655932542976 + c) fW
 have hdd : del (del ob 18) (1461501637330902918203684832717283019655932542976 + c) = del ob 18 := del_absent _ _ hmd1
 have hWL : ¬ (1461501637330902918203684832716283019655933005993 : Nat) = 1461501637330902918203684832717283019655932542976 + c := by omega
 have h18 : ¬ (18 : Nat) = 1461501637330902918203684832717283019655932542976 + c := by omega
 have b2 : ((18 : Nat) == 1461501637330902918203684832717283019655932542976 + c) = false := beq_false_of_ne (by omega)
 have b3 : ((1461501637330902918203684832716283019655933005993 : Nat) == 1461501637330902918203684832717283019655932542976 + c) = false := beq_false_of_ne hWL
 have b4 : ((463005 : Nat) == 1461501637330902918203684832717283019655932542976 + c) = false := beq_false_of_ne (by omega)
 have hmk : MK + DB = 1461501637330902918203684832717283019655932542976 := by rw [MK_eq]; unfold DB; omega
 simp -implicitDefEqProofs (disch := first | omega | (simp [g] <;> fail) | assumption) [roA, g, e1, e2, hh, nW, dW, fW, hcn, hcx, hck, hcf, hle, hmd, hmd1, n1, n2, hm1, hm2, fm, eW, eF, hdd, hWL, h18, b2, b3, b4, CK]
theorem roA_some (Γ : Env) (M : Nat) (s : Sp) (car : Int) (K : Nat) (o : Obj) (gs : List (Nat × AV)) (ob : List (Nat × Obj)) (hO : RtO s ob) (hg : Gh gs) (hh : get ob 18 = some ⟨1, [[.mp K]]⟩) (hK : get ob K = some o) :
  (exec Γ M roA ⟨(0, .loc 18 0 0) :: (1, i64 car) :: (5, .loc 463005 0 0) :: gs, ob⟩).map (fun p => (p.1, keep [0, 1, 5] p.2.fr ++ ghs p.2.fr, p.2.ob)) = some (.norm, (0, .loc 18 0 0) :: (1, i64 car) :: (5, .loc 463005 0 0) :: gs, ob) := by
 have e1 := hO.k
 simp -implicitDefEqProofs (disch := first | omega | (simp [hg] <;> fail) | assumption) [roA, hg, e1, hh, hK]
end Go.Am
namespace Go.Am
theorem roB_new (Γ : Env) (M : Nat) (s : Sp) (car : Int) (K c z : Nat) (qs : List RQ) (o : List Sp) (gs : List (Nat × AV)) (ob : List (Nat × Obj)) (hO : RtO s ob) (hF : GN gs) (hC : Cn c ob) (hc6 : c ≤ 900000) (hh : get ob 18 = some ⟨1, [[.mp K]]⟩) (hK1 : MK + DB ≤ K) (hm : get ob K = some ⟨z, qs.map RQ.row⟩) (hf : findR qs car 0 = none)
  (hMg : ∀ (k c : Nat) gs ob, Gh gs → get ob k = some ⟨2, oR [s]⟩ → k < CK → cntOf ob = c → c ≤ 1000000 → get ob (DB + c) = none → nmFr (DB + c) gs = true → nmOb (DB + c) ob = true → nmFr CK gs = true → nmOb CK ob = true →
   Γ.pt 737 ⟨(0, .sl k 1 0 1) :: gs, ob⟩ = some ([.sl (DB + c) o.length 0 o.length], (CK, ⟨c + 1, []⟩) :: (DB + c, ⟨2, oR o⟩) :: del (del ob k) CK)) :
  (exec Γ M roB ⟨(0, .loc 18 0 0) :: (1, i64 car) :: (5, .loc 463005 0 0) :: gs, ob⟩).map (fun p => (p.1, p.2.ob)) = some (.norm, (K, ⟨z + 1, qs.map RQ.row ++ [[.c (.int .i64 z), i64 car, .sl (DB + c) o.length 0 o.length]]⟩) :: (CK, ⟨c + 1, []⟩) :: (DB + c, ⟨2, oR o⟩) :: del (del ob CK) K) := by
 have g := hF.g
 have e1 := hO.k
 have e2 := hO.b
 have nW := hO.n 463033 (by rw [KT_eq])
 have xW := hO.x 463033 (by rw [KT_eq]) (by omega)
 have dW := del_absent _ _ xW
 have fW := hF.nm (k := 463033) (by decide)
 have mf := mfind_r car qs 0
 rw [hf] at mf
 simp only [Option.map_none] at mf
 have hmk : MK + DB = 1461501637330902918203684832717283019655932542976 := by rw [MK_eq]; unfold DB; omega
 have hdb : DB + c = 1000000000000000000 + c := by unfold DB; omega
 rw [hmk] at hK1
 have k1 : ¬ K = 463033 := by omega
 have k3 : ¬ K = 900000000000000000 := by omega
 have k4 : ¬ K = 1000000000000000000 + c := by omega
 have k5 : ¬ K = 18 := by omega
 have k6 : ¬ K = 463005 := by omega
 have k1' := Ne.symm k1
 have k3' := Ne.symm k3
 have k4' := Ne.symm k4
 obtain ⟨ha1, ha2⟩ := hC.a c (Nat.le_refl _) (by unfold DB; omega)
 have fa := hF.nm (k := DB + c) (by unfold DB; omega)
 rw [hdb] at ha1 ha2 fa
 have hcn : cntX (get ob 900000000000000000) = c := by rw [← cntOf_eq]; exact hC.cnt
 have hck : nmOb 900000000000000000 ob = true := hC.nck
 have hcf : nmFr 900000000000000000 gs = true := hF.nm (by omega)
 have hmu : ∀ (s : St) (v : AV), mupd K (false, [.int .i64]) (i64 car) v ⟨z, qs.map RQ.row⟩ s = some (s.obj K ⟨z + 1, qs.map RQ.row ++ [[.c (.int .i64 z), i64 car, v]]⟩) := fun s v => by simp only [mupd, mf]
 have n2 : ∀ k i, nmOb k ob = true → nmOb k (del ob i) = true := fun k i h => nmOb_delO h
 have b1 : (K == 463033) = false := beq_false_of_ne k1
 have b3 : (K == 900000000000000000) = false := beq_false_of_ne k3
 have b4 : (K == 1000000000000000000 + c) = false := beq_false_of_ne k4
 have b5 : ((463033 : Nat) == 1000000000000000000 + c) = false := beq_false_of_ne (by omega)
 have b6 : ((463005 : Nat) == 1000000000000000000 + c) = false := beq_false_of_ne (by omega)
 have b7 : ((18 : Nat) == 1000000000000000000 + c) = false := beq_false_of_ne (by omega)
 have h5 : ¬ (463033 : Nat) = 1000000000000000000 + c := by omega
 have hc1 : c ≤ 1000000 := by omega
 have h6 : ¬ 1000000000000000000 + c = 18 := by omega
 have h7 : ¬ 1000000000000000000 + c = 463005 := by omega
 have d18 : get (del ob 900000000000000000) 18 = some ⟨1, [[.mp K]]⟩ := by rw [get_del, if_neg (by omega)]; exact hh
 have d5 : get (del ob 900000000000000000) 463005 = some ⟨2, [[i64 s.f, i64 s.t]]⟩ := by rw [get_del, if_neg (by omega)]; exact e2
 have dK : get (del ob 900000000000000000) K = some ⟨z, qs.map RQ.row⟩ := by rw [get_del, if_neg k3]; exact hm
 have hnm5 : ∀ k, nmRows k [[i64 s.f, i64 s.t]] = true := fun k => rfl
 have eM := hMg 463033 c ((100033, .sl 463033 1 0 1) :: (100032, .c (.vs 2 [[.int .i64 s.f, .int .i64 s.t]])) :: (100031, .agg [.int .i64 s.f, .int .i64 s.t]) :: (100030, .nil 2) :: (100029, i64 car) :: (100028, .mp K) :: (100027, .loc 18 0 0) :: (100026, .loc 18 0 0) :: (100025, .loc 18 0 0) :: (100024, i64 car) :: (100023, .mp K) :: (100022, .loc 18 0 0) :: (100021, .loc 18 0 0) :: (100020, .loc 18 0 0) :: (100000, .loc 18 0 0) :: (100001, i64 car) :: (100005, .loc 463005 0 0) :: gho gs) ((463033, ⟨2, [[i64 s.f, i64 s.t]]⟩) :: ob)
  (by simp [g]) rfl (by unfold CK; omega) (by rw [cntOf_eq]; simp [Go.Am.get, hcn]) hc1 (by rw [hdb]; simp [Go.Am.get, h5, ha1]) (by rw [hdb]; simp [nmFr_ghoR, fa, b1, b3, b4, b5, b6, b7]) (by rw [hdb]; simp [nmOb, hnm5, ha2]) (by simp [nmFr_ghoR, CK, hcf, b3]) (by simp [CK, nmOb, hnm5, hck])
 simp only [hdb, CK] at eM
 clear hMg
 have hoR : List.map (toAV ∘ Sp.cells) o = oR o := rfl
 generalize hG : oR o = G at *
 generalize hL : o.length = L at *
 simp -implicitDefEqProofs (disch := first | omega | (simp [g] <;> fail) | assumption) [roB, g, e1, e2, hh, hm, nW, dW, fW, mf, k1, k3, k4, k5, k6, k1', k3', k4', ha1, ha2, fa, hcn, hck, hcf, n2, b1, b3, b4, b5, b6, b7, h5, h6, h7, d18, d5, dK, hc1, hmu, eM, CK, hdb, xW]
end Go.Am
namespace Go.Am
theorem roB_old (Γ : Env) (M : Nat) (s : Sp) (car : Int) (K c z : Nat) (qs : List RQ) (o : List Sp) (gs : List (Nat × AV)) (ob : List (Nat × Obj)) (hO : RtO s ob) (hF : GN gs) (hC : Cn c ob) (hc6 : c ≤ 900000) (hh : get ob 18 = some ⟨1, [[.mp K]]⟩) (hK1 : MK + DB ≤ K) (hm : get ob K = some ⟨z, qs.map RQ.row⟩) (i : Nat) (e : RQ) (hf : findR qs car 0 = some (i, e)) (hq : get ob e.ky = some ⟨2, oR e.l⟩) (hy1 : DB ≤ e.ky) (hy2 : e.ky < DB + c) (hl0 : e.l ≠ []) (hlen : e.l.length < 100000)
  (hMg : ∀ (k c : Nat) gs ob, Gh gs → get ob k = some ⟨2, oR (e.l ++ [s])⟩ → k < CK → cntOf ob = c → c ≤ 1000000 → get ob (DB + c) = none → nmFr (DB + c) gs = true → nmOb (DB + c) ob = true → nmFr CK gs = true → nmOb CK ob = true →
   Γ.pt 737 ⟨(0, .sl k (e.l.length + 1) 0 (e.l.length + 1)) :: gs, ob⟩ = some ([.sl (DB + c) o.length 0 o.length], (CK, ⟨c + 1, []⟩) :: (DB + c, ⟨2, oR o⟩) :: del (del ob k) CK)) :
  (exec Γ M roB ⟨(0, .loc 18 0 0) :: (1, i64 car) :: (5, .loc 463005 0 0) :: gs, ob⟩).map (fun p => (p.1, p.2.ob)) = some (.norm, (K, ⟨z, setRow (qs.map RQ.row) i [.c (.int .i64 e.b), i64 car, .sl (DB + c) o.length 0 o.length]⟩) :: (CK, ⟨c + 1, []⟩) :: (DB + c, ⟨2, oR o⟩) :: del (del (del ob e.ky) CK) K) := by
 have g := hF.g
 have e1 := hO.k
 have e2 := hO.b
 have nW := hO.n 463033 (by rw [KT_eq])
 have xW := hO.x 463033 (by rw [KT_eq]) (by omega)
 have dW := del_absent _ _ xW
 have fW := hF.nm (k := 463033) (by decide)
 have mf := mfind_r car qs 0
 rw [hf] at mf
 simp only [Option.map_some, RQ.val] at mf
 obtain ⟨_, hqi, hek⟩ := findR_spec hf
 rw [Nat.sub_zero] at hqi
 have hmk : MK + DB = 1461501637330902918203684832717283019655932542976 := by rw [MK_eq]; unfold DB; omega
 have hdb : DB + c = 1000000000000000000 + c := by unfold DB; omega
 rw [hmk] at hK1
 rw [hdb] at hy2
 have hst : stampAt (qs.map RQ.row) i = .c (.int .i64 e.b) := by
  unfold stampAt
  rw [List.getElem?_map, hqi]; rfl
 have hap : oR (e.l ++ [s]) = oR e.l ++ [[i64 s.f, i64 s.t]] := by unfold oR; rw [List.map_append]; rfl
 rw [hap] at hMg
 have hrl := oR_len e.l
 have hl1 : 0 < e.l.length := List.length_pos_iff.2 hl0
 have hnr : ∀ k, nmRows k (oR e.l) = true := fun k => nmRows_comp k Sp.cells e.l
 unfold DB at hy1
 obtain ⟨car', eb, y, l⟩ := e
 simp only at *
 clear hek hap
 have y1 : ¬ y = 463033 := by omega
 have y1' : ¬ 463033 = y := by omega
 have y2 : ¬ y = K := by omega
 have y2' : ¬ K = y := by omega
 have y3 : ¬ y = 900000000000000000 := by omega
 have y3' : ¬ 900000000000000000 = y := by omega
 have y4 : ¬ y = 1000000000000000000 + c := by omega
 have y5 : (y == 463033) = false := beq_false_of_ne y1
 have y6 : (y == 1000000000000000000 + c) = false := beq_false_of_ne y4
 have y7 : (y == 900000000000000000) = false := beq_false_of_ne y3
 have y8 : ¬ 18 = y := by omega
 have y9 : ¬ 463005 = y := by omega
 have k1 : ¬ K = 463033 := by omega
 have k3 : ¬ K = 900000000000000000 := by omega
 have k4 : ¬ K = 1000000000000000000 + c := by omega
 have k5 : ¬ K = 18 := by omega
 have k6 : ¬ K = 463005 := by omega
 have k1' := Ne.symm k1
 have k3' := Ne.symm k3
 have k4' := Ne.symm k4
 obtain ⟨ha1, ha2⟩ := hC.a c (Nat.le_refl _) (by unfold DB; omega)
 have fa := hF.nm (k := DB + c) (by unfold DB; omega)
 rw [hdb] at ha1 ha2 fa
 have hcn : cntX (get ob 900000000000000000) = c := by rw [← cntOf_eq]; exact hC.cnt
 have hck : nmOb 900000000000000000 ob = true := hC.nck
 have hcf : nmFr 900000000000000000 gs = true := hF.nm (by omega)
 have hmu : ∀ (s : St) (v : AV), mupd K (false, [.int .i64]) (i64 car) v ⟨z, qs.map RQ.row⟩ s = some (s.obj K ⟨z, setRow (qs.map RQ.row) i [.c (.int .i64 eb), i64 car, v]⟩) := fun s v => by simp only [mupd, mf, hst]
 have n2 : ∀ k i, nmOb k ob = true → nmOb k (del ob i) = true := fun k i h => nmOb_delO h
 have b1 : (K == 463033) = false := beq_false_of_ne k1
 have b3 : (K == 900000000000000000) = false := beq_false_of_ne k3
 have b4 : (K == 1000000000000000000 + c) = false := beq_false_of_ne k4
 have b5 : ((463033 : Nat) == 1000000000000000000 + c) = false := beq_false_of_ne (by omega)
 have b6 : ((463005 : Nat) == 1000000000000000000 + c) = false := beq_false_of_ne (by omega)
 have b7 : ((18 : Nat) == 1000000000000000000 + c) = false := beq_false_of_ne (by omega)
 have h5 : ¬ (463033 : Nat) = 1000000000000000000 + c := by omega
 have hc1 : c ≤ 1000000 := by omega
 have h6 : ¬ 1000000000000000000 + c = 18 := by omega
 have h7 : ¬ 1000000000000000000 + c = 463005 := by omega
 have u18 : get (del ob y) 18 = some ⟨1, [[.mp K]]⟩ := by rw [get_del, if_neg y8]; exact hh
 have u5 : get (del ob y) 463005 = some ⟨2, [[i64 s.f, i64 s.t]]⟩ := by rw [get_del, if_neg y9]; exact e2
 have uK : get (del ob y) K = some ⟨z, qs.map RQ.row⟩ := by rw [get_del, if_neg y2']; exact hm
 have d18 : get (del (del ob y) 900000000000000000) 18 = some ⟨1, [[.mp K]]⟩ := by rw [get_del, if_neg (by omega), get_del, if_neg y8]; exact hh
 have d5 : get (del (del ob y) 900000000000000000) 463005 = some ⟨2, [[i64 s.f, i64 s.t]]⟩ := by rw [get_del, if_neg (by omega), get_del, if_neg y9]; exact e2
 have dK : get (del (del ob y) 900000000000000000) K = some ⟨z, qs.map RQ.row⟩ := by rw [get_del, if_neg k3, get_del, if_neg y2']; exact hm
 have hnm5 : ∀ k, nmRows k (oR l ++ [[i64 s.f, i64 s.t]]) = true := fun k => by rw [nmRows_append, hnr]; rfl
 have eM := hMg 463033 c ((100033, .sl 463033 (l.length + 1) 0 (l.length + 1)) :: (100032, .c (.vs 2 [[.int .i64 s.f, .int .i64 s.t]])) :: (100031, .agg [.int .i64 s.f, .int .i64 s.t]) :: (100030, .sl y l.length 0 l.length) :: (100029, i64 car) :: (100028, .mp K) :: (100027, .loc 18 0 0) :: (100026, .loc 18 0 0) :: (100025, .loc 18 0 0) :: (100024, i64 car) :: (100023, .mp K) :: (100022, .loc 18 0 0) :: (100021, .loc 18 0 0) :: (100020, .loc 18 0 0) :: (100000, .loc 18 0 0) :: (100001, i64 car) :: (100005, .loc 463005 0 0) :: gho gs) ((463033, ⟨2, oR l ++ [[i64 s.f, i64 s.t]]⟩) :: del ob y)
  (by simp [g]) rfl (by unfold CK; omega) (by rw [cntOf_eq]; simp [Go.Am.get, get_del, y3', hcn]) hc1 (by rw [hdb]; simp [Go.Am.get, h5, get_del, ha1]) (by rw [hdb]; simp [nmFr_ghoR, fa, b1, b3, b4, b5, b6, b7, y6]) (by rw [hdb]; simp [nmOb, hnm5, n2, ha2]) (by simp [nmFr_ghoR, CK, hcf, b3, y7]) (by simp [CK, nmOb, hnm5, n2, hck])
 simp only [hdb, CK] at eM
 clear hMg
 have dy := get_del_none y xW
 have dW2 := del_absent _ _ dy
 have r0 : room (l.length + 1) 16 = true := by unfold room; simp; omega
 generalize hG : oR o = G at *
 generalize hL : o.length = L at *
 simp -implicitDefEqProofs (disch := first | omega | (simp [g] <;> fail) | assumption) [roB, g, e1, e2, hh, hm, nW, dW, fW, mf, k1, k3, k4, k5, k6, k1', k3', k4', ha1, ha2, fa, hcn, hck, hcf, n2, b1, b3, b4, b5, b6, b7, h5, h6, h7, u18, u5, uK, d18, d5, dK, hc1, hmu, eM, dy, dW2, r0, CK, hdb, xW, hq, hrl, hl1, hnr, hnm5, y1, y1', y2, y2', y3, y3', y4, y5, y6, y7, y8, y9]
end Go.Am
namespace Go.Am
def roT : AC := .keepP [0, 1, 5] 463000 464000 [463005, 1461501637330902918203684832716283019655933005993] (.seq roA (.keepP [0, 1, 5] 463000 464000 [463005, 1461501637330902918203684832716283019655933005993] roB))
theorem roT_run (Γ : Env) (M : Nat) (s : Sp) (car : Int) (gs : List (Nat × AV)) (ob ob2 ob3 : List (Nat × Obj)) (hO : RtO s ob) (hO2 : RtO s ob2)
  (hA : (exec Γ M roA ⟨(0, .loc 18 0 0) :: (1, i64 car) :: (5, .loc 463005 0 0) :: gs, ob⟩).map (fun p => (p.1, keep [0, 1, 5] p.2.fr ++ ghs p.2.fr, p.2.ob)) = some (.norm, (0, .loc 18 0 0) :: (1, i64 car) :: (5, .loc 463005 0 0) :: gs, ob2))
  (hB : (exec Γ M roB ⟨(0, .loc 18 0 0) :: (1, i64 car) :: (5, .loc 463005 0 0) :: gs, ob2⟩).map (fun p => (p.1, p.2.ob)) = some (.norm, ob3)) :
  ∃ s3 : St, s3.ob = ob3 ∧ ∀ fr, keep [0, 1, 5] fr ++ ghs fr = (0, .loc 18 0 0) :: (1, i64 car) :: (5, .loc 463005 0 0) :: gs → exec Γ M roT ⟨fr, ob⟩ = some (.norm, s3) := by
 simp only [Option.map_eq_some_iff, Prod.mk.injEq] at hA hB
 obtain ⟨⟨ax, s2⟩, a1, a2, a3, a4⟩ := hA
 obtain ⟨⟨bx, s3⟩, b1, b2, b3⟩ := hB
 simp only at a2 a3 a4 b2 b3
 subst a2 b2
 obtain ⟨fr2, ob2'⟩ := s2
 simp only at a3 a4
 subst a4
 refine ⟨s3, b3, fun fr hfr => ?_⟩
 unfold roT
 rw [exec_keepP, hfr, hO.k _ (by simp), exec_seq, a1, xSeq_norm, exec_keepP, a3, hO2.k _ (by simp), b1]
theorem out_walk (Γ : Env) (M : Nat) (s : Sp) (car : Int) (c : Nat) (gs : List (Nat × AV)) (ob ob3 : List (Nat × Obj)) (hF : GN gs) (hK : KN c ob) (hc : c ≤ 900000) (hlt : s.f < s.t)
  (hT : ∃ s3 : St, s3.ob = ob3 ∧ ∀ fr, keep [0, 1, 5] fr ++ ghs fr = (0, .loc 18 0 0) :: (1, i64 car) :: (5, .loc 463005 0 0) :: gs → exec Γ M roT ⟨fr, (463005, ⟨2, [[i64 s.f, i64 s.t]]⟩) :: ob⟩ = some (.norm, s3)) :
  runP Γ M rota_Rota_Out_f ⟨(0, .loc 18 0 0) :: (1, i64 car) :: (2, .agg s.cells) :: gs, ob⟩ = some ([], keepF 463000 464000 [1461501637330902918203684832716283019655933005993] ob3) := by
 obtain ⟨s3, e3, hT⟩ := hT
 have g := hF.g
 obtain ⟨h1, h2, h3, h4⟩ := big463 (k := 463005) hc (by rw [KT_eq])
 have x5 := hK.none h2 h3 h4 h1
 have n5 := hK.nm h1
 have d5 := del_absent _ _ x5
 have f5 := hF.nm (k := 463005) (by omega)
 have e1 := (RtO.of (s := s) hK hc).k
 have e2 : ∀ os, keepF 463000 464000 os ob = ob := fun os => hK.keep (by omega) (by omega) (by omega)
 have hge : ¬ s.t ≤ s.f := by omega
 have eT : roT = .keepP [0, 1, 5] 463000 464000 [463005, 1461501637330902918203684832716283019655933005993] (.seq (.seq (.reg r463_2) (.keepP [0, 1, 5, 15] 463000 464000 [463005, 1461501637330902918203684832716283019655933005993] (.cond (.t 15) (.keepP [0, 1, 5] 463000 464000 [463005, 1461501637330902918203684832716283019655933005993] (.renA 1461501637330902918203684832716283019655933005993 (.reg r463_3))) (.skip)))) (.keepP [0, 1, 5] 463000 464000 [463005, 1461501637330902918203684832716283019655933005993] (.draw r463_4q [] [(13, (some 33), .appM 463033 2 16 (.t 30) (.t 32), [1, 2, 3], [5, 6, 7, 8, 9, 10, 11, 12]), (14, (some 34), .callP 737 [(.t 33)], [1, 2, 3], [5, 6, 7, 8, 9, 10, 11, 12, 13])] r463_4))) := rfl
 unfold runP rota_Rota_Out_f rota_Rota_Out_c
 try simp only [Cx.sr, Cx.pP, Cx.pQ, Cx.p0, Cx.rg, Cx.cd, Nat.reduceMul, Nat.reduceAdd]
 rw [← eT]
 generalize roT = T at *
 clear eT
 simp only [Sp.cells]
 simp -implicitDefEqProofs (disch := first | omega | (simp [g] <;> fail) | assumption) [g, x5, n5, d5, f5, e1, e2, hge, hT, e3]
theorem out_none (Γ : Env) (M : Nat) (s : Sp) (car : Int) (c : Nat) (gs : List (Nat × AV)) (ob : List (Nat × Obj)) (hF : GN gs) (hK : KN c ob) (hc : c ≤ 900000) (hlt : ¬ s.f < s.t) :
  runP Γ M rota_Rota_Out_f ⟨(0, .loc 18 0 0) :: (1, i64 car) :: (2, .agg s.cells) :: gs, ob⟩ = some ([], ob) := by
 have g := hF.g
 obtain ⟨h1, h2, h3, h4⟩ := big463 (k := 463005) hc (by rw [KT_eq])
 have x5 := hK.none h2 h3 h4 h1
 have n5 := hK.nm h1
 have d5 := del_absent _ _ x5
 have f5 := hF.nm (k := 463005) (by omega)
 have e1 := (RtO.of (s := s) hK hc).k
 have e2 : ∀ os, keepF 463000 464000 os ob = ob := fun os => hK.keep (by omega) (by omega) (by omega)
 have hge : s.t ≤ s.f := by omega
 simp only [Sp.cells]
 simp -implicitDefEqProofs (disch := first | omega | (simp [g] <;> fail) | assumption) [g, x5, n5, d5, f5, e1, e2, hge]
end Go.Am
namespace Go.Am
structure KX (x c : Nat) (ob : List (Nat × Obj)) : Prop where
 k : ∀ p ∈ ob, p.1 = x ∨ p.1 = 3 ∨ p.1 = 18 ∨ p.1 = CK ∨ Big c p.1
 n : ∀ p ∈ ob, ∀ r ∈ p.2.rows, ∀ y ∈ r, ∀ k, AV.names k y = true → Big c k
theorem KX.of {x c : Nat} {o : Obj} {ob : List (Nat × Obj)} (h : KN c ob) (hn : ∀ r ∈ o.rows, ∀ y ∈ r, ∀ j, AV.names j y = true → Big c j) : KX x c ((x, o) :: ob) :=
 ⟨fun p hp => by
  rcases List.mem_cons.1 hp with rfl | hp
  ·exact .inl rfl
  ·exact .inr (h.k p hp), fun p hp => by
  rcases List.mem_cons.1 hp with rfl | hp
  ·exact hn
  ·exact h.n p hp⟩
theorem KX.le {x c c' : Nat} {ob : List (Nat × Obj)} (h : KX x c ob) (hc : c ≤ c') : KX x c' ob := ⟨fun p hp => (h.k p hp).imp id fun e => e.imp id fun e => e.imp id fun e => e.imp id fun e => e.le hc, fun p hp r hr y hy k hk => (h.n p hp r hr y hy k hk).le hc⟩
theorem KX.cons {x c k : Nat} {o : Obj} {ob : List (Nat × Obj)} (h : KX x c ob) (hk : k = x ∨ k = 3 ∨ k = 18 ∨ k = CK ∨ Big c k) (hn : ∀ r ∈ o.rows, ∀ y ∈ r, ∀ j, AV.names j y = true → Big c j) : KX x c ((k, o) :: ob) :=
 ⟨fun p hp => by
  rcases List.mem_cons.1 hp with rfl | hp
  ·exact hk
  ·exact h.k p hp, fun p hp => by
  rcases List.mem_cons.1 hp with rfl | hp
  ·exact hn
  ·exact h.n p hp⟩
theorem KX.del {x c : Nat} {ob : List (Nat × Obj)} (h : KX x c ob) (k : Nat) : KX x c (Am.del ob k) := ⟨fun p hp => h.k p (mem_delO hp), fun p hp => h.n p (mem_delO hp)⟩
theorem KX.fin {x c lo hi : Nat} {os : List Nat} {ob : List (Nat × Obj)} (h : KX x c ob) (hx1 : lo ≤ x) (hx2 : x < hi) (hh : hi ≤ 1000000) (hos : x ∉ os) : KN c (keepF lo hi os ob) := ⟨fun p hp => by
 rcases h.k p (mem_keepF hp) with e | e
 ·exfalso
  have := mem_keepC hp
  have hkt : KT = 18446744073709551616 := KT_eq
  rw [e, Nat.mod_eq_of_lt (by omega)] at this
  rcases this with h1 | h1 | h1
  ·omega
  ·omega
  ·exact hos h1
 ·exact e, fun p hp => h.n p (mem_keepF hp)⟩
theorem KX.keepG {c lo hi k : Nat} {os : List Nat} {ob : List (Nat × Obj)} (hc : c ≤ 1000000) (h1 : 1000 ≤ lo) (h2 : hi ≤ 1000000) (hk : k < 1000 ∨ k = CK ∨ Big c k) : get (keepF lo hi os ob) k = get ob k := by
 rw [get_keepK, if_pos]
 have hkt : KT = 18446744073709551616 := KT_eq
 rcases hk with h | h | h
 ·rw [Nat.mod_eq_of_lt (by omega)]; omega
 ·rcases KN.mod (c := c) (by omega) (.inr (.inr (.inl h))) with e | e | e
  ·rw [e, hkt]; omega
  ·rw [e, hkt]; omega
  ·omega
 ·rcases KN.mod (c := c) (by omega) (.inr (.inr (.inr h))) with e | e | e
  ·rw [e, hkt]; omega
  ·rw [e, hkt]; omega
  ·omega
def updR (qs : List RQ) (car : Int) (z ky : Nat) (o : List Sp) : List RQ := match findR qs car 0 with
 | none => qs ++ [⟨car, z, ky, o⟩]
 | some (i, e) => qs.set i ⟨car, e.b, ky, o⟩
theorem outR_append {qs : List RQ} {e : RQ} {x : Int} : outR (qs ++ [e]) x = match findR qs x 0 with | some (_, e) => e.l | none => if e.car = x then e.l else [] := by
 have key : ∀ (qs : List RQ) (i : Nat), outR (qs ++ [e]) x = match findR qs x i with | some (_, e) => e.l | none => if e.car = x then e.l else [] := by
  intro qs
  induction qs with
  | nil => intro i; simp [outR, findR]
  | cons y qs ih =>
   intro i
   simp only [List.cons_append, outR, findR]
   split
   ·rfl
   ·exact ih (i + 1)
 exact key qs 0
theorem outR_set {x : Int} : ∀ {qs : List RQ} {i : Nat} {e e' : RQ}, qs[i]? = some e → e'.car = e.car → (qs.map (·.car)).Nodup → outR (qs.set i e') x = if e.car = x then e'.l else outR qs x
 | [], i, e, e', h, _, _ => by simp at h
 | y :: qs, 0, e, e', h, hk, _ => by
  simp only [List.getElem?_cons_zero, Option.some.injEq] at h; subst h
  simp only [List.set_cons_zero, outR, hk]
  split <;> rfl
 | y :: qs, i + 1, e, e', h, hk, hn => by
  simp only [List.getElem?_cons_succ] at h
  simp only [List.map_cons, List.nodup_cons] at hn
  simp only [List.set_cons_succ, outR, outR_set h hk hn.2]
  by_cases hx : y.car = x
  ·rw [if_pos hx, if_pos hx]
   have : ¬ e.car = x := fun he => hn.1 (List.mem_map.2 ⟨e, List.mem_of_getElem? h, by rw [he, hx]⟩)
   rw [if_neg this]
  ·rw [if_neg hx, if_neg hx]
theorem outR_upd {qs : List RQ} {car : Int} {z ky : Nat} {o : List Sp} (hn : (qs.map (·.car)).Nodup) (x : Int) : outR (updR qs car z ky o) x = if x = car then o else outR qs x := by
 unfold updR
 cases hf : findR qs car 0 with
 | none =>
  simp only [outR_append]
  by_cases hx : x = car
  ·subst hx; rw [hf]; simp
  ·rw [if_neg hx, outR_find 0]
   cases findR qs x 0 with
   | none => simp [Ne.symm hx]
   | some p => rfl
 | some p =>
  obtain ⟨i, e⟩ := p
  obtain ⟨_, h2, h3⟩ := findR_spec hf
  rw [Nat.sub_zero] at h2
  simp only
  rw [outR_set h2 (by simp only; exact h3.symm) hn, h3]
  by_cases hx : x = car
  ·rw [if_pos hx, if_pos hx.symm]
  ·rw [if_neg hx, if_neg (Ne.symm hx)]
end Go.Am
namespace Go.Am
theorem mem_upd {qs : List RQ} {car : Int} {z ky : Nat} {o : List Sp} (hn : (qs.map (·.car)).Nodup) {e' : RQ} (h : e' ∈ updR qs car z ky o) : (e'.car = car ∧ e'.ky = ky ∧ e'.l = o) ∨ (e' ∈ qs ∧ e'.car ≠ car) := by
 unfold updR at h
 cases hf : findR qs car 0 with
 | none =>
  rw [hf] at h
  rcases List.mem_append.1 h with h | h
  ·exact .inr ⟨h, findR_none hf _ h⟩
  ·simp only [List.mem_singleton] at h; subst h; exact .inl ⟨rfl, rfl, rfl⟩
 | some p =>
  obtain ⟨i, e⟩ := p
  rw [hf] at h
  obtain ⟨_, h2, h3⟩ := findR_spec hf
  rw [Nat.sub_zero] at h2
  rcases mem_set h with rfl | ⟨j, hj, hjj⟩
  ·exact .inl ⟨rfl, rfl, rfl⟩
  ·refine .inr ⟨List.mem_of_getElem? hjj, fun hc => hj (nodup_idx (f := RQ.car) hn hjj h2 (by rw [hc, h3]))⟩
theorem rows_new {qs : List RQ} {car : Int} {z ky : Nat} {o : List Sp} (hf : findR qs car 0 = none) : qs.map RQ.row ++ [[.c (.int .i64 z), i64 car, .sl ky o.length 0 o.length]] = (updR qs car z ky o).map RQ.row := by
 unfold updR; rw [hf]; simp [RQ.row, RQ.val]
theorem rows_old {qs : List RQ} {car : Int} {z ky i : Nat} {e : RQ} {o : List Sp} (hf : findR qs car 0 = some (i, e)) : setRow (qs.map RQ.row) i [.c (.int .i64 e.b), i64 car, .sl ky o.length 0 o.length] = (updR qs car z ky o).map RQ.row := by
 obtain ⟨_, h2, h3⟩ := findR_spec hf
 rw [Nat.sub_zero] at h2
 rw [setRow_set (by rw [List.length_map]; exact (List.getElem?_eq_some_iff.1 h2).1)]
 unfold updR; rw [hf]; simp [RQ.row, RQ.val, List.map_set]
theorem set_roI {x lo hi c K z z' : Nat} {os : List Nat} {qs : List RQ} {car : Int} {o : List Sp} {obB : List (Nat × Obj)} (hX : KX x (c + 1) obB) (hx1 : lo ≤ x) (hx2 : x < hi) (hlo : 1000 ≤ lo) (hh : hi ≤ 1000000) (hos : x ∉ os) (hc : c + 1 ≤ 900000)
  (g18 : get obB 18 = some ⟨1, [[.mp K]]⟩) (gK : get obB K = some ⟨z', (updR qs car z (DB + c) o).map RQ.row⟩) (hK : MK + DB ≤ K ∧ K < MK + DB + c) (gN : get obB (DB + c) = some ⟨2, oR o⟩) (gC : get obB CK = some ⟨c + 1, []⟩)
  (gO : ∀ e ∈ qs, e.car ≠ car → get obB e.ky = some ⟨2, oR e.l⟩) (hq : ∀ e ∈ qs, DB ≤ e.ky ∧ e.ky < DB + c) (qy : (qs.map (·.ky)).Nodup) (qk : (qs.map (·.car)).Nodup) :
  RoI (some K) (updR qs car z (DB + c) o) (c + 1) (keepF lo hi os obB) := by
 have kg : ∀ k, (k < 1000 ∨ k = CK ∨ Big (c + 1) k) → get (keepF lo hi os obB) k = get obB k := fun k hk => KX.keepG (c := c + 1) (by omega) hlo hh hk
 have hdb : DB = 1000000000000000000 := rfl
 refine ⟨hX.fin hx1 hx2 hh hos, cntOf_get (by rw [kg _ (.inr (.inl rfl))]; exact gC), hc, by rw [kg _ (.inl (by omega))]; exact g18, ⟨z', by rw [MapAt, kg _ (.inr (.inr (by unfold Big; omega)))]; exact gK⟩, fun k hk => ?_, fun e he => ?_, ?_, ?_⟩
 ·simp only [Option.some.injEq] at hk; subst hk; omega
 ·rcases mem_upd qk he with ⟨h1, h2, h3⟩ | ⟨h1, h2⟩
  ·rw [h2, h3, kg _ (.inr (.inr (by unfold Big; omega)))]
   exact ⟨gN, by omega, by omega⟩
  ·have := hq e h1
   rw [kg _ (.inr (.inr (by unfold Big; omega)))]
   exact ⟨gO e h1 h2, by omega, by omega⟩
 ·unfold updR
  cases hf : findR qs car 0 with
  | none =>
   simp only [List.map_append, List.map_cons, List.map_nil]
   rw [List.nodup_append]
   refine ⟨qy, by simp, fun a ha b hb => ?_⟩
   obtain ⟨e, he, rfl⟩ := List.mem_map.1 ha
   simp only [List.mem_singleton] at hb
   have := hq e he; omega
  | some p =>
   obtain ⟨i, e⟩ := p
   simp only
   rw [List.map_set]
   refine nodup_set qy fun h => ?_
   obtain ⟨y, hy, hyy⟩ := List.mem_map.1 h
   have := hq y hy; simp only at hyy; omega
 ·unfold updR
  cases hf : findR qs car 0 with
  | none =>
   simp only [List.map_append, List.map_cons, List.map_nil]
   rw [List.nodup_append]
   refine ⟨qk, by simp, fun a ha b hb => ?_⟩
   obtain ⟨e, he, rfl⟩ := List.mem_map.1 ha
   simp only [List.mem_singleton] at hb
   subst hb
   exact findR_none hf e he
  | some p =>
   obtain ⟨i, e⟩ := p
   obtain ⟨_, h2, h3⟩ := findR_spec hf
   rw [Nat.sub_zero] at h2
   simp only
   rw [map_set_same (f := RQ.car) (b := ⟨car, e.b, DB + c, o⟩) h2 h3.symm]; exact qk
structure Gr (qs : List RQ) : Prop where
 ne : ∀ e ∈ qs, e.l ≠ []
 ro : ∀ e ∈ qs, SRight e.l
 ok : ∀ e ∈ qs, ∀ s ∈ e.l, s.Ok
theorem Gr.upd {qs : List RQ} {car : Int} {z ky : Nat} {o : List Sp} (h : Gr qs) (hn : (qs.map (·.car)).Nodup) (h1 : o ≠ []) (h2 : SRight o) (h3 : ∀ s ∈ o, s.Ok) : Gr (updR qs car z ky o) :=
 ⟨fun e he => by
  rcases mem_upd hn he with ⟨_, _, a⟩ | ⟨a, _⟩
  ·rw [a]; exact h1
  ·exact h.ne e a, fun e he => by
  rcases mem_upd hn he with ⟨_, _, a⟩ | ⟨a, _⟩
  ·rw [a]; exact h2
  ·exact h.ro e a, fun e he => by
  rcases mem_upd hn he with ⟨_, _, a⟩ | ⟨a, _⟩
  ·rw [a]; exact h3
  ·exact h.ok e a⟩
def OutC (g : St → Option (List AV × List (Nat × Obj))) : Prop := ∀ (m : Option Nat) (qs : List RQ) (c : Nat) (car : Int) (s : Sp) gs ob, GN gs → RoI m qs c ob → c + 2 ≤ 900000 → s.Ok → Gr qs → (∀ e ∈ qs, e.l.length < 900) →
 ∃ m' qs' c' ob', g ⟨(0, .loc 18 0 0) :: (1, i64 car) :: (2, .agg s.cells) :: gs, ob⟩ = some ([], ob') ∧ RoI m' qs' c' ob' ∧ c' ≤ c + 2 ∧ Gr qs' ∧ get ob' 3 = get ob 3 ∧ (∀ x, x ≠ car → outR qs' x = outR qs x) ∧ SRight (outR qs' car) ∧ ∀ n, HasS (outR qs' car) n ↔ HasS (outR qs car) n ∨ (s.f ≤ n ∧ n < s.t)
theorem outR_good {qs : List RQ} (h : Gr qs) (x : Int) : SRight (outR qs x) ∧ ∀ s ∈ outR qs x, s.Ok := by
 rw [outR_find 0]
 cases hf : findR qs x 0 with
 | none => exact ⟨.nil, by simp⟩
 | some p =>
  obtain ⟨i, e⟩ := p
  obtain ⟨_, h2, h3⟩ := findR_spec hf
  have := List.mem_of_getElem? h2
  exact ⟨h.ro e this, h.ok e this⟩
end Go.Am
namespace Go.Am
theorem KX.none {x c k : Nat} {ob : List (Nat × Obj)} (h : KX x c ob) (h0 : k ≠ x) (h1 : k ≠ 3) (h2 : k ≠ 18) (h3 : k ≠ CK) (h4 : ¬ Big c k) : get ob k = none := by
 cases hg : get ob k with
 | none => rfl
 | some o => rcases h.k _ (get_mem hg) with e | e | e | e | e <;> simp only at e <;> contradiction
theorem KX.nm {x c k : Nat} {ob : List (Nat × Obj)} (h : KX x c ob) (h4 : ¬ Big c k) : nmOb k ob = true := nmOb_iff.2 fun p hp => nmRows_iff.2 fun r hr y hy => by
 cases hn : AV.names k y with
 | false => rfl
 | true => exact absurd (h.n p hp r hr y hy k hn) h4
theorem KX.cn {x c : Nat} {ob : List (Nat × Obj)} (h : KX x c ob) (hx : x < 1000000) (hc : c ≤ 900000) (hcnt : cntOf ob = c) : Cn c ob := by
 have hdb : DB = 1000000000000000000 := rfl
 have hck : CK = 900000000000000000 := rfl
 have hmk : MK = 1461501637330902918203684832716283019655932542976 := MK_eq
 refine ⟨hcnt, by omega, fun n h1 h2 => ?_, fun n h1 h2 => ?_, h.nm (by unfold Big; omega)⟩
 ·have : ¬ Big c (DB + n) := by unfold Big; omega
  exact ⟨h.none (by omega) (by omega) (by omega) (by omega) this, h.nm this⟩
 ·have : ¬ Big c (MK + DB + n) := by unfold Big; omega
  exact ⟨h.none (by omega) (by omega) (by omega) (by omega) this, h.nm this⟩
theorem KX.rtO {c : Nat} {s : Sp} {ob : List (Nat × Obj)} (h : KX 463005 c ob) (hc : c ≤ 900000) (hg : get ob 463005 = some ⟨2, [[i64 s.f, i64 s.t]]⟩) : RtO s ob where
 b := hg
 k := fun os ho => keepK_id fun p hp => by
  have hkt : KT = 18446744073709551616 := KT_eq
  rcases h.k p hp with e | e
  ·exact .inr (.inr (by rw [e]; exact ho))
  ·rcases KN.mod (c := c) (by omega) e with e | e | e
   ·rw [e, hkt]; omega
   ·rw [e, hkt]; omega
   ·omega
 n := fun k hk => h.nm (big463 hc hk).1
 x := fun k hk hne => by
  obtain ⟨h1, h2, h3, h4⟩ := big463 hc hk
  exact h.none hne h2 h3 h4 h1
theorem row_names {c : Nat} {qs : List RQ} (hq : ∀ e ∈ qs, DB ≤ e.ky ∧ e.ky < DB + c) : ∀ r ∈ qs.map RQ.row, ∀ y ∈ r, ∀ j, AV.names j y = true → Big c j := by
 intro r hr y hy j hj
 obtain ⟨e, he, rfl⟩ := List.mem_map.1 hr
 simp only [RQ.row, RQ.val, List.mem_cons, List.mem_nil_iff, or_false] at hy
 rcases hy with rfl | rfl | rfl
 ·simp [AV.names, AV.names1] at hj
 ·simp [AV.names, AV.names1] at hj
 ·simp only [AV.names, AV.names1, beq_iff_eq] at hj
  subst hj
  exact .inl (hq e he)
theorem box_names (s : Sp) (c : Nat) : ∀ r ∈ [[i64 s.f, i64 s.t]], ∀ y ∈ r, ∀ j, AV.names j y = true → Big c j := by
 intro r hr y hy j hj
 simp only [List.mem_singleton] at hr; subst hr
 simp only [List.mem_cons, List.mem_nil_iff, or_false] at hy
 rcases hy with rfl | rfl <;> simp [AV.names, AV.names1] at hj
structure RA (s : Sp) (qs : List RQ) (c c1 K : Nat) (ob obA : List (Nat × Obj)) : Prop where
 x : KX 463005 c1 obA
 b : get obA 463005 = some ⟨2, [[i64 s.f, i64 s.t]]⟩
 cnt : cntOf obA = c1
 le : c ≤ c1 ∧ c1 ≤ c + 1
 ro : get obA 18 = some ⟨1, [[.mp K]]⟩
 k : ∃ z, get obA K = some ⟨z, qs.map RQ.row⟩
 kk : MK + DB ≤ K ∧ K < MK + DB + c1
 q : ∀ e ∈ qs, get obA e.ky = some ⟨2, oR e.l⟩
 t : get obA 3 = get ob 3
theorem roA_run (Γ : Env) (M : Nat) (s : Sp) (car : Int) (m : Option Nat) (qs : List RQ) (c : Nat) (gs : List (Nat × AV)) (ob : List (Nat × Obj)) (hF : GN gs) (hR : RoI m qs c ob) (hc : c + 2 ≤ 900000) :
  ∃ c1 K obA, RA s qs c c1 K ob obA ∧ (exec Γ M roA ⟨(0, .loc 18 0 0) :: (1, i64 car) :: (5, .loc 463005 0 0) :: gs, (463005, ⟨2, [[i64 s.f, i64 s.t]]⟩) :: ob⟩).map (fun p => (p.1, keep [0, 1, 5] p.2.fr ++ ghs p.2.fr, p.2.ob)) = some (.norm, (0, .loc 18 0 0) :: (1, i64 car) :: (5, .loc 463005 0 0) :: gs, obA) := by
 have hdb : DB = 1000000000000000000 := rfl
 have hck : CK = 900000000000000000 := rfl
 have hmk : MK = 1461501637330902918203684832716283019655932542976 := MK_eq
 have hX : KX 463005 c ((463005, ⟨2, [[i64 s.f, i64 s.t]]⟩) :: ob) := KX.of hR.kn (box_names s c)
 have hO := RtO.of (s := s) hR.kn (by omega)
 have hge : ∀ k, k ≠ 463005 → get ((463005, (⟨2, [[i64 s.f, i64 s.t]]⟩ : Obj)) :: ob) k = get ob k := fun k hk => by simp only [Go.Am.get]; rw [if_neg (Ne.symm hk)]
 have hcn : cntOf ((463005, (⟨2, [[i64 s.f, i64 s.t]]⟩ : Obj)) :: ob) = c := by
  have := hR.cnt
  unfold cntOf at this ⊢
  rw [hge _ (by omega)]; exact this
 obtain ⟨z, hz⟩ := hR.z
 cases m with
 | none =>
  have hq0 : qs = [] := by simpa [MapAt] using hz
  subst hq0
  have hh : get ((463005, (⟨2, [[i64 s.f, i64 s.t]]⟩ : Obj)) :: ob) 18 = some ⟨1, [[.ot .nm]]⟩ := by rw [hge _ (by omega)]; exact hR.ro
  refine ⟨c + 1, MK + DB + c, _, ⟨?_, ?_, ?_, by omega, ?_, ⟨0, ?_⟩, by omega, by simp, ?_⟩, roA_nil Γ M s car c gs _ hO hF (hX.cn (by omega) (by omega) hcn) hh⟩
  ·refine (((((hX.le (Nat.le_succ c)).del 18).del CK).cons (.inr (.inr (.inr (.inr (.inr (by omega)))))) (by simp)).cons (.inr (.inr (.inl rfl))) ?_).cons (.inr (.inr (.inr (.inl rfl)))) (by simp)
   intro r hr y hy j hj
   simp only [List.mem_singleton] at hr; subst hr
   simp only [List.mem_singleton] at hy; subst hy
   simp only [AV.names, AV.names1, beq_iff_eq] at hj
   subst hj
   exact .inr (by omega)
  ·simp only [Go.Am.get]
   rw [if_neg (by omega), if_neg (by omega), if_neg (by omega), get_del, if_neg (by omega), get_del, if_neg (by omega)]; rfl
  ·exact cntOf_get (by simp only [Go.Am.get]; rw [if_pos trivial])
  ·simp only [Go.Am.get]; rw [if_neg (by omega), if_pos trivial]
  ·simp only [Go.Am.get]; rw [if_neg (by omega), if_neg (by omega), if_pos trivial]; rfl
  ·simp only [Go.Am.get]
   rw [if_neg (by omega), if_neg (by omega), if_neg (by omega), get_del, if_neg (by omega), get_del, if_neg (by omega), hge _ (by omega)]
 | some K =>
  have hk := hR.ck K rfl
  have hzK : get ((463005, (⟨2, [[i64 s.f, i64 s.t]]⟩ : Obj)) :: ob) K = some ⟨z, qs.map RQ.row⟩ := by rw [hge _ (by omega)]; exact hz
  have hh : get ((463005, (⟨2, [[i64 s.f, i64 s.t]]⟩ : Obj)) :: ob) 18 = some ⟨1, [[.mp K]]⟩ := by rw [hge _ (by omega)]; exact hR.ro
  refine ⟨c, K, _, ⟨hX, rfl, hcn, by omega, hh, ⟨z, hzK⟩, hk, fun e he => ?_, hge _ (by omega)⟩, roA_some Γ M s car K _ gs _ hO hF.g hh hzK⟩
  obtain ⟨h1, h2, h3⟩ := hR.q e he
  rw [hge _ (by omega)]; exact h1
theorem rota_Rota_Out_run (Γ : Env) (M : Nat) (hMg : MergeO (Γ.pt 737)) : OutC (runP Γ M rota_Rota_Out_f) := by
 intro m qs c car s gs ob hF hR hc hs hG hlen
 have hdb : DB = 1000000000000000000 := rfl
 have hck : CK = 900000000000000000 := rfl
 have hmk : MK = 1461501637330902918203684832716283019655932542976 := MK_eq
 by_cases hlt : s.f < s.t
 ·obtain ⟨c1, K, obA, hA, eA⟩ := roA_run Γ M s car m qs c gs ob hF hR hc
  obtain ⟨⟨hl1, hl2⟩, ⟨z, hzK⟩, hkk⟩ : (c ≤ c1 ∧ c1 ≤ c + 1) ∧ (∃ z, get obA K = some ⟨z, qs.map RQ.row⟩) ∧ _ := ⟨hA.le, hA.k, hA.kk⟩
  have hOA := hA.x.rtO (by omega) hA.b
  have hCA := hA.x.cn (by omega) (by omega) hA.cnt
  have hO := RtO.of (s := s) hR.kn (by omega)
  obtain ⟨hg1, hg2⟩ := outR_good hG car
  have hlo : (outR qs car).length < 900 := by
   rw [outR_find 0]
   cases hf : findR qs car 0 with
   | none => simp
   | some p =>
    obtain ⟨i, e⟩ := p
    obtain ⟨_, h2, h3⟩ := findR_spec hf
    exact hlen e (List.mem_of_getElem? h2)
  obtain ⟨o, q1, q2, q3, q4, q5⟩ := hMg (outR qs car ++ [s]) (by simp; omega) (fun x hx => by
   rcases List.mem_append.1 hx with hx | hx
   ·exact hg2 x hx
   ·simp only [List.mem_singleton] at hx; subst hx; exact hs)
  have hone : o ≠ [] := by
   rintro rfl
   have := (q4 s.f).2 ⟨s, by simp, by omega, hlt⟩
   simp [hasS_nil] at this
  have hqr : ∀ e ∈ qs, DB ≤ e.ky ∧ e.ky < DB + c1 := fun e he => by have := hR.q e he; omega
  have hqu : ∀ e ∈ updR qs car z (DB + c1) o, DB ≤ e.ky ∧ e.ky < DB + (c1 + 1) := fun e he => by
   rcases mem_upd hR.qk he with ⟨_, a, _⟩ | ⟨a, _⟩
   ·omega
   ·have := hqr e a; omega
  obtain ⟨ob3, eB, hX3, g18, gK, gN, gC, gO, g3⟩ : ∃ ob3, (exec Γ M roB ⟨(0, .loc 18 0 0) :: (1, i64 car) :: (5, .loc 463005 0 0) :: gs, obA⟩).map (fun p => (p.1, p.2.ob)) = some (.norm, ob3) ∧ KX 463005 (c1 + 1) ob3 ∧ get ob3 18 = some ⟨1, [[.mp K]]⟩ ∧ (∃ z', get ob3 K = some ⟨z', (updR qs car z (DB + c1) o).map RQ.row⟩) ∧
    get ob3 (DB + c1) = some ⟨2, oR o⟩ ∧ get ob3 CK = some ⟨c1 + 1, []⟩ ∧ (∀ e ∈ qs, e.car ≠ car → get ob3 e.ky = some ⟨2, oR e.l⟩) ∧ get ob3 3 = get ob 3 := by
   cases hf : findR qs car 0 with
   | none =>
    have ho0 : outR qs car = [] := by rw [outR_find 0, hf]
    rw [ho0] at q5
    have := roB_new Γ M s car K c1 z qs o gs obA hOA hF hCA (by omega) hA.ro hkk.1 hzK hf (fun k c gs ob => q5 k c gs ob)
    rw [rows_new hf] at this
    refine ⟨_, this, ?_, ?_, ⟨z + 1, ?_⟩, ?_, ?_, fun e he hne => ?_, ?_⟩
    ·exact (((((hA.x.le (Nat.le_succ c1)).del CK).del K).cons (.inr (.inr (.inr (.inr (.inl (by omega)))))) (oR_names o _)).cons (.inr (.inr (.inr (.inl rfl)))) (by simp)).cons (.inr (.inr (.inr (.inr (.inr (by omega)))))) (row_names hqu)
    ·simp only [Go.Am.get]; rw [if_neg (by omega), if_neg (by omega), if_neg (by omega), get_del, if_neg (by omega), get_del, if_neg (by omega)]; exact hA.ro
    ·simp only [Go.Am.get]; rw [if_pos trivial]
    ·simp only [Go.Am.get]; rw [if_neg (by omega), if_neg (by omega), if_pos trivial]
    ·simp only [Go.Am.get]; rw [if_neg (by omega), if_pos trivial]
    ·have := hqr e he
     simp only [Go.Am.get]; rw [if_neg (by omega), if_neg (by omega), if_neg (by omega), get_del, if_neg (by omega), get_del, if_neg (by omega)]; exact hA.q e he
    ·simp only [Go.Am.get]; rw [if_neg (by omega), if_neg (by omega), if_neg (by omega), get_del, if_neg (by omega), get_del, if_neg (by omega)]; exact hA.t
   | some p =>
    obtain ⟨i, e⟩ := p
    obtain ⟨_, h2, h3⟩ := findR_spec hf
    rw [Nat.sub_zero] at h2
    have hem := List.mem_of_getElem? h2
    have ho0 : outR qs car = e.l := by rw [outR_find 0, hf]
    rw [ho0] at q5
    have hl : (e.l ++ [s]).length = e.l.length + 1 := by simp
    rw [hl] at q5
    have hky := hqr e hem
    have := roB_old Γ M s car K c1 z qs o gs obA hOA hF hCA (by omega) hA.ro hkk.1 hzK i e hf (hA.q e hem) hky.1 hky.2 (hG.ne e hem) (by have := hlen e hem; omega) (fun k c gs ob => q5 k c gs ob)
    rw [rows_old (z := z) hf] at this
    refine ⟨_, this, ?_, ?_, ⟨z, ?_⟩, ?_, ?_, fun e' he hne => ?_, ?_⟩
    ·exact ((((((hA.x.le (Nat.le_succ c1)).del e.ky).del CK).del K).cons (.inr (.inr (.inr (.inr (.inl (by omega)))))) (oR_names o _)).cons (.inr (.inr (.inr (.inl rfl)))) (by simp)).cons (.inr (.inr (.inr (.inr (.inr (by omega)))))) (row_names hqu)
    ·simp only [Go.Am.get]; rw [if_neg (by omega), if_neg (by omega), if_neg (by omega), get_del, if_neg (by omega), get_del, if_neg (by omega), get_del, if_neg (by omega)]; exact hA.ro
    ·simp only [Go.Am.get]; rw [if_pos trivial]
    ·simp only [Go.Am.get]; rw [if_neg (by omega), if_neg (by omega), if_pos trivial]
    ·simp only [Go.Am.get]; rw [if_neg (by omega), if_pos trivial]
    ·have h5 := hqr e' he
     have h6 : e'.ky ≠ e.ky := fun hh => by
      obtain ⟨j, hj⟩ := List.getElem?_of_mem he
      have := nodup_idx (f := RQ.ky) hR.qy hj h2 hh
      subst this
      rw [hj] at h2; simp only [Option.some.injEq] at h2; subst h2; exact hne h3
     simp only [Go.Am.get]; rw [if_neg (by omega), if_neg (by omega), if_neg (by omega), get_del, if_neg (by omega), get_del, if_neg (by omega), get_del, if_neg h6]; exact hA.q e' he
    ·simp only [Go.Am.get]; rw [if_neg (by omega), if_neg (by omega), if_neg (by omega), get_del, if_neg (by omega), get_del, if_neg (by omega), get_del, if_neg (by omega)]; exact hA.t
  obtain ⟨z', gK⟩ := gK
  have hfin := set_roI (x := 463005) (lo := 463000) (hi := 464000) (os := [1461501637330902918203684832716283019655933005993]) hX3 (by omega) (by omega) (by omega) (by omega) (by simp) (by omega) g18 gK hkk gN gC gO hqr hR.qy hR.qk
  have hou := fun x => outR_upd (z := z) (ky := DB + c1) (o := o) hR.qk (car := car) x
  refine ⟨_, _, _, _, out_walk Γ M s car c gs ob ob3 hF hR.kn (by omega) hlt (roT_run Γ M s car gs _ obA ob3 hO hOA eA eB), hfin, by omega, hG.upd hR.qk hone q1 q2, ?_, fun x hx => by rw [hou, if_neg hx], by rw [hou, if_pos rfl]; exact q1, fun n => ?_⟩
  ·rw [KX.keepG (c := c1 + 1) (by omega) (by omega) (by omega) (.inl (by omega))]; exact g3
  ·rw [hou, if_pos rfl, q4, hasS_app, hasS_cons, hasS_nil]
   simp
 ·refine ⟨m, qs, c, ob, out_none Γ M s car c gs ob hF hR.kn (by omega) hlt, hR, by omega, hG, rfl, fun _ _ => rfl, (outR_good hG car).1, fun n => ⟨.inl, fun h => h.elim id fun h => absurd h (by omega)⟩⟩
end Go.Am
