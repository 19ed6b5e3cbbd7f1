import Derived.Test.YtdnmppikakpdiaaCC
import Derived.Test.YtdnmppikakpdiaaCB
set_option maxHeartbeats 8000000
set_option maxRecDepth 20000
set_option linter.unusedVariables false
set_option linter.unusedSimpArgs false
set_option linter.unnecessarySimpa false
namespace Go.Am
theorem HallI.congr {hk : Nat} {wm cm : Option Nat} {qs : List HQ} {cs : List HC} {n : Int} {c : Nat} {ob ob' : List (Nat × Obj)} (h : HallI hk wm cm qs cs n c ob) (he : ∀ k, HOwn hk wm cm qs k → get ob' k = get ob k) : HallI hk wm cm qs cs n c ob' := by
 refine ⟨by rw [he hk (.inl rfl)]; exact h.hall, ?_, ?_, h.wk, h.ck, h.wc, fun e hm => ?_, h.qb, h.qy, h.qk, h.cb, h.cd, h.hb⟩
 ·obtain ⟨z, h1, h2⟩ := h.wz
  refine ⟨z, ?_, h2⟩
  cases hw : wm with
  | none => rw [hw] at h1; exact h1
  | some k => rw [hw] at h1; simp only [MapAt] at h1 ⊢; rw [he k (.inr (.inl hw))]; exact h1
 ·obtain ⟨z, h1, h2⟩ := h.cz
  refine ⟨z, ?_, h2⟩
  cases hw : cm with
  | none => rw [hw] at h1; exact h1
  | some k => rw [hw] at h1; simp only [MapAt] at h1 ⊢; rw [he k (.inr (.inr (.inl hw)))]; exact h1
 ·obtain ⟨h1, h2⟩ := h.q e hm
  exact ⟨by rw [he e.ky (.inr (.inr (.inr ⟨e, hm, rfl⟩)))]; exact h1, h2⟩
theorem HallI.own_big {hk : Nat} {wm cm : Option Nat} {qs : List HQ} {cs : List HC} {n : Int} {c : Nat} {ob : List (Nat × Obj)} (h : HallI hk wm cm qs cs n c ob) (hc : c ≤ 1000000000) {k : Nat} (hk' : HOwn hk wm cm qs k) : k = hk ∨ (CK < k % KT ∧ CK < k) := by
 have hdb : DB = 1000000000000000000 := rfl
 have hck : CK = 900000000000000000 := rfl
 have hm : ∀ k, MK + DB ≤ k → k < MK + DB + c → CK < k % KT ∧ CK < k := fun k h1 h2 => by
  obtain ⟨i, rfl⟩ : ∃ i, k = MK + DB + i := ⟨k - (MK + DB), by omega⟩
  rw [(modDB (n := i) (by omega)).2]; omega
 rcases hk' with h1 | h1 | h1 | ⟨e, he, rfl⟩
 ·exact .inl h1
 ·have := h.wk k h1; exact .inr (hm k this.1 this.2)
 ·have := h.ck k h1; exact .inr (hm k this.1 this.2)
 ·obtain ⟨_, h2, h3, _⟩ := h.q e he
  obtain ⟨i, hi⟩ : ∃ i, e.ky = DB + i := ⟨e.ky - DB, by omega⟩
  rw [hi, (modDB (n := i) (by omega)).1]
  exact .inr (by omega)
theorem new_big {c c' k : Nat} (h : New c c' k) (hc : c' ≤ 1000000000) : CK < k % KT ∧ CK < k := by
 have hdb : DB = 1000000000000000000 := rfl
 have hck : CK = 900000000000000000 := rfl
 rcases h with ⟨i, _, h2, rfl⟩ | ⟨i, _, h2, rfl⟩
 ·rw [(modDB (n := i) (by omega)).1]; omega
 ·rw [(modDB (n := i) (by omega)).2]; omega
def Fr2 (ob ob' : List (Nat × Obj)) : Prop := ∀ k, k % KT < 1000 → k ≠ 11 → k ≠ 13 → get ob' k = get ob k
theorem Fr2.refl (ob : List (Nat × Obj)) : Fr2 ob ob := fun _ _ _ _ => rfl
theorem Fr2.trans {a b c : List (Nat × Obj)} (h1 : Fr2 a b) (h2 : Fr2 b c) : Fr2 a c := fun k x y z => by rw [h2 k x y z, h1 k x y z]
theorem Stp.small {wm cm wm' cm' : Option Nat} {qs qs' : List HQ} {cs : List HC} {n : Int} {c c' : Nat} {ob ob' : List (Nat × Obj)} (h : Stp (HOwn 11 wm cm qs) (HOwn 11 wm' cm' qs') c c' ob ob') (hH : HallI 11 wm cm qs cs n c ob) (hc : c ≤ 1000000000) (hc' : c' ≤ 1000000000) : get ob' 13 = get ob 13 ∧ Fr2 ob ob' := by
 have hck : CK = 900000000000000000 := rfl
 have hkt : KT = 18446744073709551616 := KT_eq
 have key : ∀ k, k % KT < 1000 → k ≠ 11 → get ob' k = get ob k := fun k h1 h2 => by
  refine h.fr k (fun h3 => ?_) (fun h3 => ?_) ?_
  ·rcases hH.own_big hc h3 with h4 | h4
   ·exact h2 h4
   ·omega
  ·have := new_big h3 hc'; omega
  ·rintro rfl
   rw [hck, hkt] at h1; omega
 exact ⟨key 13 (by rw [hkt]; omega) (by omega), fun k h1 h2 _ => key k h1 h2⟩
def O2 (wm cm : Option Nat) (qs : List HQ) (k : Nat) : Prop := HOwn 11 wm cm qs k ∨ k = 13
structure QR (i : Nat) (x : XS) (wm cm : Option Nat) (qs : List HQ) (cs : List HC) (n : Int) (c : Nat) (ob : List (Nat × Obj)) : Prop where
 hall : HallI 11 wm cm qs cs n c ob
 cl : c ≤ 2 * i
 n0 : 0 ≤ n
 nl : n ≤ i
 m : MI x ob
 rl : Rl x qs cs n
 ll : x.l.length ≤ i
 lc : x.cs.length ≤ i
 fl : ∀ w ∈ x.l, SmW w
 ca : 0 ≤ x.came ∧ x.came ≤ i
theorem QR.congr {i : Nat} {x : XS} {wm cm : Option Nat} {qs : List HQ} {cs : List HC} {n : Int} {c : Nat} {ob ob' : List (Nat × Obj)} (h : QR i x wm cm qs cs n c ob) (he : ∀ k, O2 wm cm qs k → get ob' k = get ob k) : QR i x wm cm qs cs n c ob' := by
 obtain ⟨lv, cv, h1, h2, h3⟩ := h.m
 exact ⟨h.hall.congr fun k hk => he k (.inl hk), h.cl, h.n0, h.nl, ⟨lv, cv, by rw [he 13 (.inr rfl)]; exact h1, h2, h3⟩, h.rl, h.ll, h.lc, h.fl, h.ca⟩
theorem QR.push {i : Nat} {x : XS} {wm cm : Option Nat} {qs : List HQ} {cs : List HC} {n : Int} {c : Nat} {ob : List (Nat × Obj)} (h : QR i x wm cm qs cs n c ob) {k0 : Nat} {o : Obj} (hk : get ob k0 = none) : QR i x wm cm qs cs n c ((k0, o) :: ob) := by
 refine ⟨h.hall.push hk, h.cl, h.n0, h.nl, h.m.push ?_, h.rl, h.ll, h.lc, h.fl, h.ca⟩
 rintro rfl
 obtain ⟨lv, cv, h1, _⟩ := h.m
 rw [hk] at h1; simp at h1
theorem QR.toI {i : Nat} {x : XS} {wm cm : Option Nat} {qs : List HQ} {cs : List HC} {n : Int} {c : Nat} {ob : List (Nat × Obj)} (h : QR i x wm cm qs cs n c ob) (hC : Cn c ob) (hO : NoO FS ob) : QI i x wm cm qs cs n c ob := ⟨h.hall, hC, h.cl, h.n0, h.nl, h.m, hO, h.rl, h.ll, h.lc, h.fl⟩
theorem QR.mono {i j : Nat} {x : XS} {wm cm : Option Nat} {qs : List HQ} {cs : List HC} {n : Int} {c : Nat} {ob : List (Nat × Obj)} (h : QR i x wm cm qs cs n c ob) (hij : i ≤ j) : QR j x wm cm qs cs n c ob := ⟨h.hall, by have := h.cl; omega, h.n0, by have := h.nl; omega, h.m, h.rl, by have := h.ll; omega, by have := h.lc; omega, h.fl, h.ca.1, by have := h.ca.2; omega⟩
theorem Stp.two {wm cm wm' cm' : Option Nat} {qs qs' : List HQ} {c c' : Nat} {ob ob' : List (Nat × Obj)} (h : Stp (HOwn 11 wm cm qs) (HOwn 11 wm' cm' qs') c c' ob ob') : Stp (O2 wm cm qs) (O2 wm' cm' qs') c c' ob ob' :=
 ⟨fun k a b d => h.fr k (fun h => a (.inl h)) b d, fun k h1 => h1.elim (fun h1 => (h.own k h1).elim (fun h2 => .inl (.inl h2)) .inr) fun h1 => .inl (.inr h1), h.no, h.nm, h.cn⟩
theorem QR.setm {i : Nat} {x' : XS} {wm cm : Option Nat} {qs : List HQ} {cs : List HC} {n : Int} {c : Nat} {ob : List (Nat × Obj)} (hH : HallI 11 wm cm qs cs n c ob) (hc : c ≤ 2 * i) (hi : i ≤ 1000) (hn0 : 0 ≤ n) (hn : n ≤ i) {lv cv : AV} {o : Obj} (hm : get ob 13 = some o)
  (hlv : LV 4 (x'.l.map w4D) lv) (hcv : LV 3 (x'.cs.map k3D) cv) (hR : Rl x' qs cs n) (hll : x'.l.length ≤ i) (hlc : x'.cs.length ≤ i) (hfl : ∀ w ∈ x'.l, SmW w) (hca : 0 ≤ x'.came ∧ x'.came ≤ i) :
  QR i x' wm cm qs cs n c ((13, ⟨3, [[lv, cv, i64 x'.came]]⟩) :: del ob 13) ∧ Stp (O2 wm cm qs) (O2 wm cm qs) c c ob ((13, ⟨3, [[lv, cv, i64 x'.came]]⟩) :: del ob 13) := by
 have hck : CK = 900000000000000000 := rfl
 have hne : ∀ k, k ≠ 13 → get ((13, (⟨3, [[lv, cv, i64 x'.came]]⟩ : Obj)) :: del ob 13) k = get ob k := fun k hk => by
  simp only [Go.Am.get]; rw [if_neg (Ne.symm hk), get_del, if_neg hk]
 have nmv : ∀ {z : Nat} {rows : List (List D)} {v : AV}, LV z rows v → ∀ k, v.names k = false := fun h k => by
  rcases h with rfl | ⟨_, rfl⟩ <;> rfl
 refine ⟨⟨hH.congr fun k hk => hne k ?_, hc, hn0, hn, ⟨lv, cv, rfl, hlv, hcv⟩, hR, hll, hlc, hfl, hca⟩, stp_one hm (.inr rfl) (fun _ h => h) (fun k _ => by simp [nmv hlv k, nmv hcv k]) (by omega)⟩
 rcases hH.own_big (by omega) hk with h | h <;> omega
theorem O2.big {wm cm : Option Nat} {qs : List HQ} {cs : List HC} {n : Int} {c : Nat} {ob : List (Nat × Obj)} (h : HallI 11 wm cm qs cs n c ob) (hc : c ≤ 1000000000) {k : Nat} (hk : O2 wm cm qs k) : k = 11 ∨ k = 13 ∨ (CK < k % KT ∧ CK < k) := by
 rcases hk with h1 | h1
 ·exact (h.own_big hc h1).imp id .inr
 ·exact .inr (.inl h1)
theorem O2.notf {wm cm : Option Nat} {qs : List HQ} {cs : List HC} {n : Int} {c : Nat} {ob : List (Nat × Obj)} (h : HallI 11 wm cm qs cs n c ob) (hc : c ≤ 1000000000) {f : Nat} (hf : 0 < f) (hf2 : f < 1000000) {k : Nat} (hk : O2 wm cm qs k) : inR [f] k = false := by
 have hck : CK = 900000000000000000 := rfl
 have hkt : KT = 18446744073709551616 := KT_eq
 simp only [inR, List.contains_eq_mem, List.mem_singleton, decide_eq_false_iff_not]
 rcases O2.big h hc hk with h1 | h1 | h1
 ·subst h1; rw [hkt]; omega
 ·subst h1; rw [hkt]; omega
 ·omega
theorem Stp.fr2 {wm cm wm' cm' : Option Nat} {qs qs' : List HQ} {cs : List HC} {n : Int} {c c' : Nat} {ob ob' : List (Nat × Obj)} (h : Stp (O2 wm cm qs) (O2 wm' cm' qs') c c' ob ob') (hH : HallI 11 wm cm qs cs n c ob) (hc : c ≤ 1000000000) (hc' : c' ≤ 1000000000) : Fr2 ob ob' := by
 have hck : CK = 900000000000000000 := rfl
 have hkt : KT = 18446744073709551616 := KT_eq
 intro k h1 h2 h3
 refine h.fr k (fun h4 => ?_) (fun h4 => ?_) ?_
 ·rcases O2.big hH hc h4 with h5 | h5 | h5
  ·exact h2 h5
  ·exact h3 h5
  ·omega
 ·have := new_big h4 hc'; omega
 ·rintro rfl
  rw [hck, hkt] at h1; omega
def TakeMC (g : St → Option (List AV × List (Nat × Obj))) : Prop := ∀ (i : Nat) (x : XS) (wm cm : Option Nat) (qs : List HQ) (cs : List HC) (n : Int) (c : Nat) (k : K3) gs ob, i ≤ 100 → QR i x wm cm qs cs n c ob → Cn c ob → NoO [509, 521, 522, 524] ob → NoF [509, 521, 522, 524] gs →
 ∃ x' qs' ob', g ⟨(0, .loc 13 0 0) :: (1, .loc 11 0 0) :: (2, .agg (k3D k)) :: gs, ob⟩ = some ([bo true], ob') ∧ QR i x' wm cm qs' cs n c ob' ∧ Stp (O2 wm cm qs) (O2 wm cm qs') c c ob ob'
theorem law29_m_take_run (Γ : Env) (M : Nat) (hRow : RowF29C (Γ.pt 522)) (hTk : TakeC (Γ.pt 521)) : TakeMC (runP Γ M law29_m_take_f) := by
 intro i x wm cm qs cs n c k gs ob hi hQ hCn hO hF
 have hck : CK = 900000000000000000 := rfl
 have hkt : KT = 18446744073709551616 := KT_eq
 obtain ⟨lv, cv, hm, hlv, hcv⟩ := hQ.m
 have hll := hQ.ll
 have hcl := hQ.cl
 have x5 := hO.none (k := 509005) (by decide)
 have n5 := hO.nm (k := 509005) (by decide)
 have d5 := hO.del (k := 509005) (by decide)
 have f5 := hF.nm (k := 509005) (by decide)
 have f8 := hF.nm (k := 509008) (by decide)
 have k1 := hO.kf (f := 509) (by simp)
 have g := hF.1
 have nk : ∀ j, nmRows j [toAV (k3D k)] = true := fun j => by simp [k3D]
 have hO1 : NoO [521, 522, 524] ((509005, ⟨3, [toAV (k3D k)]⟩) :: ob) := noO_push (hO.mono (by simp)) (by decide) nk
 have hH1 := hQ.hall.push (o := ⟨3, [toAV (k3D k)]⟩) x5
 have hm1 : get ((509005, (⟨3, [toAV (k3D k)]⟩ : Obj)) :: ob) 13 = some ⟨3, [[lv, cv, i64 x.came]]⟩ := by simp only [Go.Am.get]; rw [if_neg (by omega)]; exact hm
 have hC1 := cn_push (k0 := 509005) (o := ⟨3, [toAV (k3D k)]⟩) hCn (by omega) nk
 obtain ⟨i1, i2⟩ := idxs_facts hQ.rl k
 obtain ⟨qs', ob2, e2, hH2, hw2, hS2⟩ := hTk 11 wm cm qs cs n c k ((100016, .agg (k3D k)) :: (100015, .loc 11 0 0) :: (100000, .loc 13 0 0) :: (100001, .loc 11 0 0) :: (100005, .loc 509005 0 0) :: (100007, .c (.vs 1 ((idxs x.l k 0).map iD))) :: gho gs) _ (hO1.mono (by simp)) (by
  have hF1 := (hF.mono (fs' := [521, 524]) (by simp)).gho
  simp only [noF_c]
  exact ⟨by omega, nmS_agg _ _, by omega, nmS_loc _ _ _ _ (by decide), by omega, nmS_loc _ _ _ _ (by decide), by omega, nmS_loc _ _ _ _ (by decide), by omega, nmS_loc _ _ _ _ (by decide), by omega, nmS_c _ _, hF1⟩) hH1 hC1
 have e1 := fun fr h => hRow 13 lv cv x.came x.l k fr _ (hO1.mono (fs' := [522]) (by simp)) h hm1 hlv (by omega)
 have hOb : ∀ j, HOwn 11 wm cm qs j → inR [509] j = false := fun j hj => by
  rcases hQ.hall.own_big (by omega) hj with h | h
  ·subst h; decide
  ·simp only [inR, List.contains_eq_mem, List.mem_singleton, decide_eq_false_iff_not]; omega
 obtain ⟨hS3, k3, hN3⟩ := hS2.drop (f := 509) (os := [509008, 509040, 509049, 509059]) (hO.mono (by simp)) (by omega) (by omega) nk hOb (by omega) (by simp) (by rw [hkt]; decide)
 have hH3 := hH2.keep (lo := 509000) (hi := 510000) (os := [509008, 509040, 509049, 509059]) (.inl (by rw [hkt]; omega)) (by omega) (by omega)
 have n8 : nmOb 509008 ob2 = true := hS2.nm 509008 (not_new _ _) (by simp only [nmOb, nk, hO.nm (k := 509008) (by decide), Bool.and_self])
 have x8 : get ob2 509008 = none := by
  rw [hS2.fr 509008 (fun h => by rcases hQ.hall.own_big (by omega) h with h | h <;> omega) (not_new _ _) (by omega)]
  simp only [Go.Am.get]; rw [if_neg (by omega)]; exact hO.none (by decide)
 have d8 := del_absent _ _ x8
 simp only [Nat.reduceMul, Nat.reduceAdd] at hS3 k3 hN3
 generalize hob3 : keepF 509000 510000 [509008, 509040, 509049, 509059] ob2 = ob3 at hS3 k3 hN3 hH3
 obtain ⟨s13, sfr⟩ := hS3.small hQ.hall (by omega) (by omega)
 have hO3 := hS3.no _ (by simp) hO
 rw [hm] at s13
 have hF1 := (hF.mono (fs' := [521, 524]) (by simp)).gho
 have hF2 := (hF.mono (fs' := [522]) (by simp)).gho
 have eT : takT = .seq (.seq (.reg r509_3) (.keepP [0, 7, 8, 9, 22] 509000 510000 [509008, 509040, 509049, 509059] (.cond (.t 22) (.keepP [8, 9] 509000 510000 [509008, 509040, 509049, 509059] (.seq (.reg r509_4) (.keepP [6] 509000 510000 [509040, 509049, 509059] (.ret)))) (.skip)))) (.keepP [0, 7, 8, 9] 509000 510000 [509008, 509040, 509049, 509059] (.seq (.draw r509_5q [(509010, 10, [.c (.int .i64 0), .c (.int .i64 0), .c (.int .i64 0), .c (.int .i64 0)])] [] r509_5) (.keepP [0, 7, 8, 9, 10] 509000 510000 [509008, 509010, 509040, 509049, 509059] (.seq (.draw r509_6q [] [(1, (some 40), .bso 509040 4 [.int .i64 0, .int .i64 0, .int .i64 0, .int .i64 0] 0 [], [0, 7, 41, 42, 43, 44, 45, 46, 47, 50, 51, 52, 53, 54, 55, 56, 57], []), (10, (some 49), .app 509049 4 32 (.t 40) (.t 48), [0, 7, 50, 51, 52, 53, 54, 55, 56, 57], [1, 2, 3, 4, 5, 6, 7, 8, 9]), (20, (some 59), .app 509059 4 32 (.t 49) (.t 58), [0], [1, 2, 3, 4, 5, 6, 7, 8, 9, 10, 11, 12, 13, 14, 15, 16, 17, 18, 19])] r509_6) (.keepP [8, 9, 10] 509000 510000 [509008, 509010, 509040, 509049, 509059] (.seq (.reg r509_7) (.keepP [6] 509000 510000 [509040, 509049, 509059] (.ret)))))))) := rfl
 have body : ∀ obF : List (Nat × Obj), keepF 509000 510000 [509040, 509049, 509059] obF = obF →
   (exec Γ M takT ⟨(0, .loc 13 0 0) :: (7, .c (.vs 1 ((idxs x.l k 0).map iD))) :: (8, .loc 509008 0 0) :: (9, bo (decide (wait qs k ≠ []))) :: gs, (509008, ⟨4, [w4R (hd0 (wait qs k))]⟩) :: ob3⟩).map (fun p => (p.1, get p.2.fr 6, p.2.ob)) = some (.ret, some (bo true), obF) →
   runP Γ M law29_m_take_f ⟨(0, .loc 13 0 0) :: (1, .loc 11 0 0) :: (2, .agg (k3D k)) :: gs, ob⟩ = some ([bo true], obF) := by
  intro obF hkF hT
  simp only [Option.map_eq_some_iff, Prod.mk.injEq] at hT
  obtain ⟨⟨ax, s3⟩, t1, t2, t3, t4⟩ := hT
  simp only at t2 t3 t4
  subst t2
  subst t4
  generalize (idxs x.l k 0).map iD = IR at *
  generalize hd0 (wait qs k) = w0 at *
  generalize decide (wait qs k ≠ []) = wn at *
  simp only [w4R, w4D, k3D, toAV, List.map_cons, List.map_nil] at e1 e2 t1 ⊢
  unfold runP law29_m_take_f law29_m_take_c
  try simp only [Cx.sr, Cx.pP, Cx.pQ, Cx.p0, Cx.rg, Cx.cd, Nat.reduceMul, Nat.reduceAdd]
  rw [← eT]
  generalize takT = T at *
  simp -implicitDefEqProofs (disch := first | omega | (simp [g] <;> fail) | (simp [noF_c, nmS_c, nmS_agg, nmS_loc, nmS_tup, nmS_vp, nmS_nil, nmS_ot, inR, hF1, hF2] <;> fail) | assumption) [g, n5, d5, f5, n8, d8, x8, f8, k1, x5, e1, e2, t1, t3, hkF, hob3]
 cases hw : wait qs k with
 | nil =>
  have hI0 : idxs x.l k 0 = [] := List.eq_nil_of_length_eq_zero (by rw [i1, hw]; rfl)
  have hkk := k3 [509040, 509049, 509059]
  have hb := body ob3 hkk (by rw [hI0, hw]; exact tak_nil Γ M gs ob3 g k3)
  refine ⟨x, qs', ob3, hb, ⟨hH3, hQ.cl, hQ.n0, hQ.nl, ⟨lv, cv, s13, hlv, hcv⟩, ⟨fun k' => ?_, hQ.rl.ids, hQ.rl.idl, hQ.rl.cl, hQ.rl.ns, hQ.rl.nl⟩, hQ.ll, hQ.lc, hQ.fl, hQ.ca⟩, hS3.two⟩
  rw [hw2]
  split
  ·rename_i h
   rw [h, hw, ← hQ.rl.wt, hw]; rfl
  ·exact hQ.rl.wt k'
 | cons w r =>
  obtain ⟨j, I', hI, hj⟩ := i2 w r hw
  obtain ⟨a, u, b, h1, h2, h3, h4, h5⟩ := idxs_cons hI
  have hja : j = a.length := by omega
  subst hja
  have hfw := hQ.rl.wt k
  rw [hw, h3] at hfw
  simp only [List.cons.injEq] at hfw
  obtain ⟨rfl, hr⟩ := hfw
  have hlv' : lv = .c (.vs 4 ((a ++ w :: b).map w4D)) := by
   rcases hlv with h | ⟨h, _⟩
   ·rw [← h1]; exact h
   ·rw [h] at hj; simp at hj
  rw [hlv'] at s13
  have htc := tak_cons Γ M cv x.came a b w I' gs ob3 (hO3.mono (by simp)) (hF.mono (by simp)) s13 (by rw [← h1]; omega)
  have hlab : (a ++ b).length ≤ x.l.length := by rw [h1]; simp only [List.length_append, List.length_cons]; omega
  have hsub : ∀ v ∈ a ++ b, v ∈ x.l := fun v hv => by
   rw [h1]
   rcases List.mem_append.1 hv with h | h
   ·exact List.mem_append_left _ h
   ·exact List.mem_append_right _ (List.mem_cons_of_mem _ h)
  have hids := hQ.rl.ids
  rw [h1] at hids
  have hfil : (a ++ w :: b).Sublist x.l := by rw [h1]; exact List.Sublist.refl _
  have hsubl : (a ++ b).Sublist (a ++ w :: b) := (List.Sublist.refl a).append (List.sublist_cons_self w b)
  obtain ⟨hq, hfr⟩ := QR.setm (i := i) (x' := ⟨a ++ b, x.cs, x.came⟩) hH3 hQ.cl (by omega) hQ.n0 hQ.nl s13 (lv := .c (.vs 4 ((a ++ b).map w4D))) (cv := cv) (.inl rfl) hcv ⟨fun k' => by
    rw [hw2]
    split
    ·rename_i hk
     rw [hk, hw, List.tail_cons, hr, List.filter_append, (List.filter_eq_nil_iff (l := a)).2 fun v hv => by simpa using h5 v hv, List.nil_append]
    ·rename_i hk
     rw [hQ.rl.wt k', h1, List.filter_append, List.filter_append, List.filter_cons, if_neg (by rw [h4]; simpa using Ne.symm hk)], hids.sublist hsubl, fun v hv => hQ.rl.idl v (hsub v hv), hQ.rl.cl, hQ.rl.ns, hQ.rl.nl⟩ (by show (a ++ b).length ≤ i; omega) hQ.lc (fun v hv => hQ.fl v (hsub v hv)) hQ.ca
  refine ⟨⟨a ++ b, x.cs, x.came⟩, qs', _, body _ ?_ (by rw [hw, hI]; exact htc), hq, hS3.two.trans hfr (Nat.le_refl _) (Nat.le_refl _)⟩
  have hN := hfr.no _ (by simp) hO3
  exact (hN.kf (f := 509) (by simp)) [509040, 509049, 509059]
end Go.Am
namespace Go.Am
theorem cf_cons {c i : Nat} {v : AV} {gs : List (Nat × AV)} (h : Cf c gs) (hv : ∀ k, CK ≤ k → v.names k = false) : Cf c ((i, v) :: gs) := by
 have hdb : DB = 1000000000000000000 := rfl
 have hck : CK = 900000000000000000 := rfl
 refine ⟨fun n a b => ?_, fun n a b => ?_, ?_⟩
 ·simp only [nmFr, hv _ (by omega : CK ≤ DB + n), h.a n a b, Bool.not_false, Bool.and_self]
 ·simp only [nmFr, hv _ (by omega : CK ≤ MK + DB + n), h.m n a b, Bool.not_false, Bool.and_self]
 ·simp only [nmFr, hv _ (Nat.le_refl _), h.nck, Bool.not_false, Bool.and_self]
theorem cf_loc {j a b : Nat} (h : j < CK) : ∀ k, CK ≤ k → (AV.loc j a b).names k = false := fun k hk => by
 simp only [names_loc]; exact beq_false_of_ne (by omega)
theorem cf_c {d : D} : ∀ k, CK ≤ k → (AV.c d).names k = false := fun k hk => by simp
theorem cf_agg {ds : List D} : ∀ k, CK ≤ k → (AV.agg ds).names k = false := fun k hk => by simp
theorem cf_tup : ∀ k, CK ≤ k → (AV.tup []).names k = false := fun k hk => by simp
theorem cf_gho {c : Nat} {gs : List (Nat × AV)} (h : Cf c gs) : Cf c (gho gs) := by
 have key : ∀ (k : Nat) (l : List (Nat × AV)), nmFr k l = true → nmFr k (gho l) = true := by
  intro k l
  induction l with
  | nil => intro _; rfl
  | cons p l ih =>
   obtain ⟨i, v⟩ := p
   intro h
   simp only [nmFr, Bool.and_eq_true] at h
   simp only [gho, nmFr, h.1, ih h.2, Bool.and_self]
 exact ⟨fun n a b => key _ _ (h.a n a b), fun n a b => key _ _ (h.m n a b), key _ _ h.nck⟩
abbrev finL : List Nat := [503034, 503039, 503048, 503067, 503074, 503082, 503115, 503120, 503123]
abbrev FSS : List Nat := [503, 508, 509, 510, 511, 521, 522, 524]
def BrC (Γ : Env) (M : Nat) (T : AC) (fr : List (Nat × AV)) (i : Nat) (x : XS) (wm cm : Option Nat) (qs : List HQ) (cs : List HC) (n : Int) (c : Nat) (k : K3) (ob : List (Nat × Obj)) : Prop :=
 ∃ x' wm' cm' qs' cs' n' c' ob', (exec Γ M T ⟨fr, (503007, ⟨3, [toAV (k3D k)]⟩) :: ob⟩).map (fun p => (p.1, get p.2.fr 6, p.2.ob)) = some (.ret, some (bo true), ob') ∧ QR (i + 1) x' wm' cm' qs' cs' n' c' ob' ∧ Stp (O2 wm cm qs) (O2 wm' cm' qs') c c' ob ob' ∧ NoO [503] ob' ∧ c ≤ c'
def brTake : AC := .seq (.reg r503_6) (.keepP [6] 503000 504000 [503034, 503039, 503048, 503067, 503074, 503082, 503115, 503120, 503123] (.ret))
theorem brTake_run (Γ : Env) (M : Nat) (hT : TakeMC (Γ.pt 509)) (i : Nat) (x : XS) (wm cm : Option Nat) (qs : List HQ) (cs : List HC) (n : Int) (c : Nat) (k : K3) (gs : List (Nat × AV)) (ob : List (Nat × Obj)) (hi : i ≤ 100) (hQ : QR i x wm cm qs cs n c ob) (hC : Cn c ob) (hO : NoO FSS ob) (hF : NoF FSS gs) :
  BrC Γ M brTake ((0, .loc 13 0 0) :: (1, .loc 11 0 0) :: (7, .loc 503007 0 0) :: gs) i x wm cm qs cs n c k ob := by
 have hck : CK = 900000000000000000 := rfl
 have hkt : KT = 18446744073709551616 := KT_eq
 have hcl := hQ.cl
 have x7 := hO.none (k := 503007) (by decide)
 have g := hF.1
 have nk : ∀ j, nmRows j [toAV (k3D k)] = true := fun j => by simp [k3D]
 have hO1 : NoO [509, 521, 522, 524] ((503007, ⟨3, [toAV (k3D k)]⟩) :: ob) := noO_push (hO.mono (by simp)) (by decide) nk
 have hC1 := cn_push (k0 := 503007) (o := ⟨3, [toAV (k3D k)]⟩) hC (by omega) nk
 obtain ⟨x', qs', ob2, e, hQ2, hS⟩ := hT i x wm cm qs cs n c k ((100026, .agg (k3D k)) :: (100025, .loc 11 0 0) :: (100024, .loc 13 0 0) :: (100000, .loc 13 0 0) :: (100001, .loc 11 0 0) :: (100007, .loc 503007 0 0) :: gho gs) _ hi (hQ.push x7) hC1 hO1 (by
  have hF1 := (hF.mono (fs' := [509, 521, 522, 524]) (by simp)).gho
  simp only [noF_c]
  exact ⟨by omega, nmS_agg _ _, by omega, nmS_loc _ _ _ _ (by decide), by omega, nmS_loc _ _ _ _ (by decide), by omega, nmS_loc _ _ _ _ (by decide), by omega, nmS_loc _ _ _ _ (by decide), by omega, nmS_loc _ _ _ _ (by decide), hF1⟩)
 obtain ⟨hS3, k3, hN3⟩ := hS.drop (f := 503) (os := finL) (hO.mono (by simp)) (by omega) (by omega) nk (fun j hj => O2.notf hQ.hall (by omega) (by omega) (by omega) hj) (by omega) (by simp) (by rw [hkt]; decide)
 simp only [Nat.reduceMul, Nat.reduceAdd] at hS3 k3 hN3
 have hck2 : ∀ j, O2 wm cm qs' j → get (keepF 503000 504000 finL ob2) j = get ob2 j := fun j hj => by
  rw [get_keepK, if_pos]
  rcases O2.big hQ2.hall (by omega) hj with h1 | h1 | h1
  ·subst h1; exact .inl (by rw [hkt]; omega)
  ·subst h1; exact .inl (by rw [hkt]; omega)
  ·exact .inr (.inl (by omega))
 refine ⟨x', wm, cm, qs', cs, n, c, keepF 503000 504000 finL ob2, ?_, (hQ2.congr hck2).mono (by omega), hS3, hN3, Nat.le_refl _⟩
 simp only [k3D, toAV, List.map_cons, List.map_nil] at e ⊢
 simp -implicitDefEqProofs (disch := first | omega | (simp [g] <;> fail) | assumption) [brTake, g, e]
end Go.Am
namespace Go.Am
def brSend : AC := .seq (.seq (.reg r503_9) (.keepP [0, 1, 7, 8, 32] 503000 504000 [503007, 503034, 503039, 503048, 503067, 503074, 503082, 503115, 503120, 503123] (.cond (.t 32) (.keepP [0, 1, 7, 8] 503000 504000 [503007, 503034, 503039, 503048, 503067, 503074, 503082, 503115, 503120, 503123] (.draw r503_10q [] [(1, (some 34), .bso 503034 3 [.int .i64 0, .int .i64 0, .int .i64 0] 0 [], [0, 7, 35, 36, 37, 40, 41, 42, 43, 44, 45, 46], []), (6, (some 39), .app 503039 3 24 (.t 34) (.t 38), [0, 7, 40, 41, 42, 43, 44, 45, 46], [1, 2, 3, 4, 5]), (15, (some 48), .app 503048 3 24 (.t 39) (.t 47), [0], [1, 2, 3, 4, 5, 6, 7, 8, 9, 10, 11, 12, 13, 14])] r503_10)) (.skip)))) (.keepP [1, 7, 8] 503000 504000 [503007, 503034, 503039, 503048, 503067, 503074, 503082, 503115, 503120, 503123] (.seq (.reg r503_11) (.keepP [6] 503000 504000 [503034, 503039, 503048, 503067, 503074, 503082, 503115, 503120, 503123] (.ret))))
theorem send_yes (Γ : Env) (M : Nat) (fx : Int) (k : K3) (gs : List (Nat × AV)) (ob ob2 : List (Nat × Obj)) (hO : NoO [503] ob) (hF : NoF [503] gs) (hfx : 0 ≤ fx)
  (e : Γ.pt 510 ⟨(0, .loc 11 0 0) :: (1, i64 k.1) :: (2, i64 k.2.1) :: (3, i64 k.2.2) :: (100057, i64 k.2.2) :: (100056, .loc 503007 0 2) :: (100055, i64 k.2.1) :: (100054, .loc 503007 0 1) :: (100053, i64 k.1) :: (100052, .loc 503007 0 0) :: (100051, .loc 11 0 0) :: (100001, .loc 11 0 0) :: (100007, .loc 503007 0 0) :: (100008, i64 fx) :: gho gs, (503007, ⟨3, [toAV (k3D k)]⟩) :: ob⟩ = some ([bo false], ob2)) :
  (exec Γ M brSend ⟨(0, .loc 13 0 0) :: (1, .loc 11 0 0) :: (7, .loc 503007 0 0) :: (8, i64 fx) :: gs, (503007, ⟨3, [toAV (k3D k)]⟩) :: ob⟩).map (fun p => (p.1, get p.2.fr 6, p.2.ob)) = some (.ret, some (bo true), keepF 503000 504000 finL ob2) := by
 have g := hF.1
 have k1 := hO.kf (f := 503) (by simp)
 have h0 : ¬ fx < 0 := by omega
 simp only [k3D, toAV, List.map_cons, List.map_nil] at e ⊢
 simp -implicitDefEqProofs (disch := first | omega | (simp [g] <;> fail) | assumption) [brSend, g, k1, e, h0]
theorem send_no (Γ : Env) (M : Nat) (fx : Int) (k : K3) (lv cv : AV) (came : Int) (C : List K3) (gs : List (Nat × AV)) (ob ob2 : List (Nat × Obj)) (hO : NoO [503] ob) (hF : NoF [503] gs) (hfx : fx < 0) (hm : get ob 13 = some ⟨3, [[lv, cv, i64 came]]⟩) (hcv : LV 3 (C.map k3D) cv) (hlv : ∀ k, lv.names k = false) (hl : C.length ≤ 1000)
  (e : Γ.pt 510 ⟨(0, .loc 11 0 0) :: (1, i64 k.1) :: (2, i64 k.2.1) :: (3, i64 k.2.2) :: (100057, i64 k.2.2) :: (100056, .loc 503007 0 2) :: (100055, i64 k.2.1) :: (100054, .loc 503007 0 1) :: (100053, i64 k.1) :: (100052, .loc 503007 0 0) :: (100051, .loc 11 0 0) :: (100001, .loc 11 0 0) :: (100007, .loc 503007 0 0) :: (100008, i64 fx) :: gho gs, (13, ⟨3, [[lv, .c (.vs 3 ((C ++ [k]).map k3D)), i64 came]]⟩) :: (503007, ⟨3, [toAV (k3D k)]⟩) :: del ob 13⟩ = some ([bo true], ob2)) :
  (exec Γ M brSend ⟨(0, .loc 13 0 0) :: (1, .loc 11 0 0) :: (7, .loc 503007 0 0) :: (8, i64 fx) :: gs, (503007, ⟨3, [toAV (k3D k)]⟩) :: ob⟩).map (fun p => (p.1, get p.2.fr 6, p.2.ob)) = some (.ret, some (bo true), keepF 503000 504000 finL ob2) := by
 have g := hF.1
 have n7 := hO.nm (k := 503007) (by decide)
 have d7 := hO.del (k := 503007) (by decide)
 have f7 := hF.nm (k := 503007) (by decide)
 have n4 := hO.nm (k := 503034) (by decide)
 have d4 := hO.del (k := 503034) (by decide)
 have f4 := hF.nm (k := 503034) (by decide)
 have x4 := hO.none (k := 503034) (by decide)
 have k1 := hO.kf (f := 503) (by simp)
 have k2 : Kf 503000 504000 (del ob 13) := kf_delO k1
 have l4 := lcFr_nm f4
 have p4 := lcOb_nm n4
 have y1 := fun k (A : List (List D)) => nmRows_av k A
 have y2 := fun k (A : List (List D)) => lcRows_nm _ _ (nmRows_av k A)
 obtain ⟨A, hA⟩ : ∃ A, C.map k3D = A := ⟨_, rfl⟩
 have hAl : A.length = C.length := by rw [← hA]; simp
 have hAB : (C ++ [k]).map k3D = A ++ [k3D k] := by rw [List.map_append, hA]; rfl
 rw [hAB] at e
 rw [hA] at hcv
 have hal : allRows (A.map toAV ++ [toAV (k3D k)]) = some (A ++ [k3D k]) := by
  have : A.map toAV ++ [toAV (k3D k)] = (A ++ [k3D k]).map toAV := by simp
  rw [this, allRows_toAV]
 have htA : List.take C.length A = A := List.take_of_length_le (by omega)
 have htAB : List.take (C.length + 1) (A ++ [k3D k]) = A ++ [k3D k] := List.take_of_length_le (by simp; omega)
 simp only [k3D, toAV, List.map_cons, List.map_nil] at e hal htAB ⊢
 generalize C.length = n at *
 rcases hcv with rfl | ⟨rfl, rfl⟩
 ·simp -implicitDefEqProofs (disch := first | omega | (simp [g] <;> fail) | assumption) [brSend, g, k1, k2, e, hfx, n7, d7, f7, n4, d4, f4, x4, l4, p4, y1, y2, hAl, hal, htA, htAB, hm, kill, hlv]
 ·simp only [List.length_nil] at hAl
  subst hAl
  simp only [List.nil_append] at e
  simp -implicitDefEqProofs (disch := first | omega | (simp [g] <;> fail) | assumption) [brSend, g, k1, k2, e, hfx, n7, d7, f7, n4, d4, f4, x4, l4, p4, y1, y2, hm, kill, hlv]
end Go.Am
namespace Go.Am
theorem LV.nms {z : Nat} {rows : List (List D)} {v : AV} (h : LV z rows v) (k : Nat) : v.names k = false := by
 rcases h with rfl | ⟨_, rfl⟩ <;> rfl
theorem stp_m {wm cm : Option Nat} {qs : List HQ} {cs : List HC} {n : Int} {c : Nat} {ob : List (Nat × Obj)} {lv cv lv' cv' : AV} {came came' : Int} {ob1 : List (Nat × Obj)} (hm : get ob1 13 = some ⟨3, [[lv, cv, i64 came]]⟩) (hH : HallI 11 wm cm qs cs n c ob1) (hc : c ≤ 1000000000) (h1 : ∀ k, lv'.names k = false) (h2 : ∀ k, cv'.names k = false) :
  Stp (O2 wm cm qs) (O2 wm cm qs) c c ob1 ((13, ⟨3, [[lv', cv', i64 came']]⟩) :: del ob1 13) ∧ HallI 11 wm cm qs cs n c ((13, ⟨3, [[lv', cv', i64 came']]⟩) :: del ob1 13) := by
 have hck : CK = 900000000000000000 := rfl
 refine ⟨stp_one hm (.inr rfl) (fun _ h => h) (fun k _ => by simp [h1 k, h2 k]) (by omega), hH.congr fun k hk => ?_⟩
 have : k ≠ 13 := by
  rintro rfl
  rcases hH.own_big hc hk with h | h <;> omega
 simp only [Go.Am.get]
 rw [if_neg (Ne.symm this), get_del, if_neg this]
theorem brSend_run (Γ : Env) (M : Nat) (hT : SendC (Γ.pt 510)) (i : Nat) (x : XS) (wm cm : Option Nat) (qs : List HQ) (cs : List HC) (n : Int) (c : Nat) (k : K3) (gs : List (Nat × AV)) (ob : List (Nat × Obj)) (hi : i ≤ 100) (hQ : QR i x wm cm qs cs n c ob) (hC : Cn c ob) (hO : NoO FSS ob) (hF : NoF FSS gs) (hCf : Cf c gs) :
  BrC Γ M brSend ((0, .loc 13 0 0) :: (1, .loc 11 0 0) :: (7, .loc 503007 0 0) :: (8, i64 (findX x.cs k.1 k.2.1 0)) :: gs) i x wm cm qs cs n c k ob := by
 have hck : CK = 900000000000000000 := rfl
 have hkt : KT = 18446744073709551616 := KT_eq
 have hcl := hQ.cl
 have hnl := hQ.nl
 have hlc := hQ.lc
 have hcam : 0 ≤ x.came ∧ x.came ≤ i + 1 := ⟨hQ.ca.1, by have := hQ.ca.2; omega⟩
 have hll := hQ.ll
 have x7 := hO.none (k := 503007) (by decide)
 have nk : ∀ j, nmRows j [toAV (k3D k)] = true := fun j => by simp [k3D]
 obtain ⟨c1, c2, c3⟩ := findX_facts hQ.rl.cl k.1 k.2.1
 generalize findX x.cs k.1 k.2.1 0 = fx at *
 have hO1 : NoO [510] ((503007, ⟨3, [toAV (k3D k)]⟩) :: ob) := noO_push (hO.mono (by simp)) (by decide) nk
 have hC1 := cn_push (k0 := 503007) (o := ⟨3, [toAV (k3D k)]⟩) hC (by omega) nk
 have hQ1 := hQ.push (o := ⟨3, [toAV (k3D k)]⟩) x7
 obtain ⟨lv, cv, hm, hlv, hcv⟩ := hQ1.m
 have hF1 := (hF.mono (fs' := [510]) (by simp)).gho
 have hFr : NoF [510] ((100057, i64 k.2.2) :: (100056, .loc 503007 0 2) :: (100055, i64 k.2.1) :: (100054, .loc 503007 0 1) :: (100053, i64 k.1) :: (100052, .loc 503007 0 0) :: (100051, .loc 11 0 0) :: (100001, .loc 11 0 0) :: (100007, .loc 503007 0 0) :: (100008, i64 fx) :: gho gs) := by
  simp only [noF_c]
  exact ⟨by omega, nmS_c _ _, by omega, nmS_loc _ _ _ _ (by decide), by omega, nmS_c _ _, by omega, nmS_loc _ _ _ _ (by decide), by omega, nmS_c _ _, by omega, nmS_loc _ _ _ _ (by decide), by omega, nmS_loc _ _ _ _ (by decide), by omega, nmS_loc _ _ _ _ (by decide), by omega, nmS_loc _ _ _ _ (by decide), by omega, nmS_c _ _, hF1⟩
 have hCfr : Cf c ((100057, i64 k.2.2) :: (100056, .loc 503007 0 2) :: (100055, i64 k.2.1) :: (100054, .loc 503007 0 1) :: (100053, i64 k.1) :: (100052, .loc 503007 0 0) :: (100051, .loc 11 0 0) :: (100001, .loc 11 0 0) :: (100007, .loc 503007 0 0) :: (100008, i64 fx) :: gho gs) := cf_cons (cf_cons (cf_cons (cf_cons (cf_cons (cf_cons (cf_cons (cf_cons (cf_cons (cf_cons (cf_gho hCf) cf_c) (cf_loc (by omega))) (cf_loc (by omega))) (cf_loc (by omega))) (cf_loc (by omega))) cf_c) (cf_loc (by omega))) cf_c) (cf_loc (by omega))) cf_c
 have fin : ∀ (x' : XS) (cm' : Option Nat) (cs' : List HC) (n' : Int) (c' : Nat) (obA ob2 : List (Nat × Obj)), Stp (O2 wm cm qs) (O2 wm cm qs) c c ((503007, ⟨3, [toAV (k3D k)]⟩) :: ob) obA → HallI 11 wm cm' qs cs' n' c' ob2 → Stp (HOwn 11 wm cm qs) (HOwn 11 wm cm' qs) c c' obA ob2 → c ≤ c' → c' ≤ c + 1 → HallI 11 wm cm qs cs n c obA → MI x' obA → 0 ≤ n' → n' ≤ i + 1 → Rl x' qs cs' n' → x'.l.length ≤ i + 1 → x'.cs.length ≤ i + 1 → (∀ w ∈ x'.l, SmW w) → (0 ≤ x'.came ∧ x'.came ≤ i + 1) →
   (exec Γ M brSend ⟨(0, .loc 13 0 0) :: (1, .loc 11 0 0) :: (7, .loc 503007 0 0) :: (8, i64 fx) :: gs, (503007, ⟨3, [toAV (k3D k)]⟩) :: ob⟩).map (fun p => (p.1, get p.2.fr 6, p.2.ob)) = some (.ret, some (bo true), keepF 503000 504000 finL ob2) →
   BrC Γ M brSend ((0, .loc 13 0 0) :: (1, .loc 11 0 0) :: (7, .loc 503007 0 0) :: (8, i64 fx) :: gs) i x wm cm qs cs n c k ob := by
  intro x' cm' cs' n' c' obA ob2 hSA hH2 hS2 l1 l2 hHA hMA hn0 hn hR hl1 hl2 hl3 hca he
  obtain ⟨hS3, k3, hN3⟩ := (hSA.trans hS2.two (Nat.le_refl _) l1).drop (f := 503) (os := finL) (hO.mono (by simp)) (by omega) (by omega) nk (fun j hj => O2.notf hQ.hall (by omega) (by omega) (by omega) hj) (by omega) (by simp) (by rw [hkt]; decide)
  simp only [Nat.reduceMul, Nat.reduceAdd] at hS3 k3 hN3
  obtain ⟨s13, _⟩ := hS2.small hHA (by omega) (by omega)
  refine ⟨x', wm, cm', qs, cs', n', c', _, he, ?_, hS3, hN3, l1⟩
  refine ⟨hH2.keep (.inl (by rw [hkt]; omega)) (by omega) (by omega), by omega, hn0, by omega, ?_, hR, hl1, hl2, hl3, hca⟩
  obtain ⟨lv', cv', m1, m2, m3⟩ := hMA
  exact ⟨lv', cv', by rw [get_keepK, if_pos (.inl (by rw [hkt]; omega)), s13]; exact m1, m2, m3⟩
 by_cases hfx : 0 ≤ fx
 ·have his : isC cs k.1 k.2.1 = true := by rw [c1]; simpa using hfx
  obtain ⟨cm', cs', n', c', ob2, e, hH2, l1, l2, hS2, hcond⟩ := hT 11 wm cm qs cs n c k.1 k.2.1 k.2.2 _ _ hO1 hFr hCfr hC1 (by omega) hQ.n0 (by omega) hQ1.hall
  rw [his] at e hcond
  simp only [if_true] at hcond
  obtain ⟨rfl, rfl⟩ := hcond
  exact fin x cm' cs' n' c' _ ob2 (.refl _ _ _) hH2 hS2 l1 l2 hQ1.hall hQ1.m hQ.n0 (by omega) hQ.rl (by omega) (by omega) hQ.fl hcam (send_yes Γ M fx k gs ob ob2 (hO.mono (by simp)) (hF.mono (by simp)) hfx e)
 ·have his : isC cs k.1 k.2.1 = false := by rw [c1]; simpa using hfx
  obtain ⟨hSA, hHA⟩ := stp_m (ob := ob) (lv' := lv) (cv' := .c (.vs 3 ((x.cs ++ [k]).map k3D))) (came' := x.came) hm hQ1.hall (by omega) hlv.nms (fun _ => rfl)
  have hdl : del ((503007, (⟨3, [toAV (k3D k)]⟩ : Obj)) :: ob) 13 = (503007, ⟨3, [toAV (k3D k)]⟩) :: del ob 13 := by simp [Am.del]
  rw [hdl] at hSA hHA
  have hm0 : get ob 13 = some ⟨3, [[lv, cv, i64 x.came]]⟩ := by
   simp only [Go.Am.get] at hm; rw [if_neg (by omega)] at hm; exact hm
  obtain ⟨cm', cs', n', c', ob2, e, hH2, l1, l2, hS2, hcond⟩ := hT 11 wm cm qs cs n c k.1 k.2.1 k.2.2 _ _ (hSA.no [510] (by simp) hO1) hFr hCfr (hSA.cn hC1) (by omega) hQ.n0 (by omega) hHA
  rw [his] at e hcond
  simp only [Bool.false_eq_true, if_false] at hcond
  obtain ⟨rfl, b, rfl⟩ := hcond
  refine fin ⟨x.l, x.cs ++ [k], x.came⟩ cm' _ _ c' _ ob2 hSA hH2 hS2 l1 l2 hHA ⟨lv, _, rfl, hlv, .inl rfl⟩ (by have := hQ.n0; omega) (by omega) ⟨hQ.rl.wt, hQ.rl.ids, hQ.rl.idl, ?_, ?_, ?_⟩ (by show x.l.length ≤ i + 1; omega) (by show (x.cs ++ [k]).length ≤ i + 1; rw [List.length_append, List.length_singleton]; omega) hQ.fl hcam (send_no Γ M fx k lv cv x.came x.cs gs ob ob2 (hO.mono (by simp)) (hF.mono (by simp)) (by omega) hm0 hcv hlv.nms (by omega) e)
  ·rw [List.map_append, hQ.rl.cl]; rfl
  ·rw [List.pairwise_append]
   refine ⟨hQ.rl.ns, by simp, fun a ha d hd => ?_⟩
   simp only [List.mem_singleton] at hd; subst hd
   have := hQ.rl.nl a ha
   show a.n < n + 1
   omega
  ·intro d hd
   rcases List.mem_append.1 hd with hd | hd
   ·have := hQ.rl.nl d hd; omega
   ·simp only [List.mem_singleton] at hd; subst hd; exact Int.le_refl _
end Go.Am
namespace Go.Am
def brClear : AC := .seq (.seq (.reg r503_13) (.keepP [0, 1, 7, 8, 65] 503000 504000 [503007, 503034, 503039, 503048, 503067, 503074, 503082, 503115, 503120, 503123] (.cond (.t 65) (.keepP [0, 1, 7, 8] 503000 504000 [503007, 503034, 503039, 503048, 503067, 503074, 503082, 503115, 503120, 503123] (.draw r503_14q [] [(1, (some 67), .bso 503067 3 [.int .i64 0, .int .i64 0, .int .i64 0] 0 [], [0, 8, 68, 69, 70, 71, 72, 75, 76, 77, 78, 79, 80], []), (8, (some 74), .app 503074 3 24 (.t 67) (.t 73), [0, 8, 75, 76, 77, 78, 79, 80], [1, 2, 3, 4, 5, 6, 7]), (16, (some 82), .app 503082 3 24 (.t 74) (.t 81), [0], [1, 2, 3, 4, 5, 6, 7, 8, 9, 10, 11, 12, 13, 14, 15])] r503_14)) (.skip)))) (.keepP [1, 7, 8] 503000 504000 [503007, 503034, 503039, 503048, 503067, 503074, 503082, 503115, 503120, 503123] (.seq (.reg r503_15) (.keepP [6] 503000 504000 [503034, 503039, 503048, 503067, 503074, 503082, 503115, 503120, 503123] (.ret))))
theorem clear_no (Γ : Env) (M : Nat) (fx : Int) (k : K3) (gs : List (Nat × AV)) (ob ob2 : List (Nat × Obj)) (hO : NoO [503] ob) (hF : NoF [503] gs) (hfx : ¬ 0 ≤ fx)
  (e : Γ.pt 511 ⟨(0, .loc 11 0 0) :: (1, i64 k.1) :: (2, i64 k.2.1) :: (100089, i64 k.2.1) :: (100088, .loc 503007 0 1) :: (100087, i64 k.1) :: (100086, .loc 503007 0 0) :: (100085, .loc 11 0 0) :: (100001, .loc 11 0 0) :: (100007, .loc 503007 0 0) :: (100008, i64 fx) :: gho gs, (503007, ⟨3, [toAV (k3D k)]⟩) :: ob⟩ = some ([bo false], ob2)) :
  (exec Γ M brClear ⟨(0, .loc 13 0 0) :: (1, .loc 11 0 0) :: (7, .loc 503007 0 0) :: (8, i64 fx) :: gs, (503007, ⟨3, [toAV (k3D k)]⟩) :: ob⟩).map (fun p => (p.1, get p.2.fr 6, p.2.ob)) = some (.ret, some (bo true), keepF 503000 504000 finL ob2) := by
 have g := hF.1
 have k1 := hO.kf (f := 503) (by simp)
 simp only [k3D, toAV, List.map_cons, List.map_nil] at e ⊢
 simp -implicitDefEqProofs (disch := first | omega | (simp [g] <;> fail) | assumption) [brClear, g, k1, e, hfx]
theorem clear_yes (Γ : Env) (M : Nat) (k : K3) (lv : AV) (came : Int) (a b : List K3) (u : K3) (gs : List (Nat × AV)) (ob ob2 : List (Nat × Obj)) (hO : NoO [503] ob) (hF : NoF [503] gs) (hm : get ob 13 = some ⟨3, [[lv, .c (.vs 3 ((a ++ u :: b).map k3D)), i64 came]]⟩) (hlv : ∀ k, lv.names k = false) (hl : (a ++ u :: b).length ≤ 1000)
  (e : Γ.pt 511 ⟨(0, .loc 11 0 0) :: (1, i64 k.1) :: (2, i64 k.2.1) :: (100089, i64 k.2.1) :: (100088, .loc 503007 0 1) :: (100087, i64 k.1) :: (100086, .loc 503007 0 0) :: (100085, .loc 11 0 0) :: (100001, .loc 11 0 0) :: (100007, .loc 503007 0 0) :: (100008, i64 (a.length : Nat)) :: gho gs, (13, ⟨3, [[lv, .c (.vs 3 ((a ++ b).map k3D)), i64 came]]⟩) :: (503007, ⟨3, [toAV (k3D k)]⟩) :: del ob 13⟩ = some ([bo true], ob2)) :
  (exec Γ M brClear ⟨(0, .loc 13 0 0) :: (1, .loc 11 0 0) :: (7, .loc 503007 0 0) :: (8, i64 (a.length : Nat)) :: gs, (503007, ⟨3, [toAV (k3D k)]⟩) :: ob⟩).map (fun p => (p.1, get p.2.fr 6, p.2.ob)) = some (.ret, some (bo true), keepF 503000 504000 finL ob2) := by
 have g := hF.1
 have n7 := hO.nm (k := 503007) (by decide)
 have d7 := hO.del (k := 503007) (by decide)
 have f7 := hF.nm (k := 503007) (by decide)
 have n4 := hO.nm (k := 503067) (by decide)
 have d4 := hO.del (k := 503067) (by decide)
 have f4 := hF.nm (k := 503067) (by decide)
 have x4 := hO.none (k := 503067) (by decide)
 have k1 := hO.kf (f := 503) (by simp)
 have k2 : Kf 503000 504000 (del ob 13) := kf_delO k1
 have l4 := lcFr_nm f4
 have p4 := lcOb_nm n4
 have y1 := fun k (A : List (List D)) => nmRows_av k A
 have y2 := fun k (A : List (List D)) => lcRows_nm _ _ (nmRows_av k A)
 obtain ⟨R, hR⟩ : ∃ R, (a ++ u :: b).map k3D = R := ⟨_, rfl⟩
 have r3 : R.take a.length = a.map k3D := by rw [← hR, ← List.map_take, List.take_left' rfl]
 have r4 : R.drop (a.length + 1) = b.map k3D := by
  rw [← hR, ← List.map_drop]
  congr 1
  rw [List.drop_append, List.drop_eq_nil_of_le (by omega), show a.length + 1 - a.length = 1 by omega]; rfl
 have r5 : R.length = a.length + 1 + b.length := by rw [← hR]; simp; omega
 have hll : a.length + 1 + b.length ≤ 1000 := by
  have : (a ++ u :: b).length = a.length + 1 + b.length := by simp; omega
  omega
 rw [hR] at hm
 obtain ⟨A, hA⟩ : ∃ A, a.map k3D = A := ⟨_, rfl⟩
 obtain ⟨B, hB⟩ : ∃ B, b.map k3D = B := ⟨_, rfl⟩
 have hAl : A.length = a.length := by rw [← hA]; simp
 have hBl : B.length = b.length := by rw [← hB]; simp
 have hAB : (a ++ b).map k3D = A ++ B := by rw [List.map_append, hA, hB]
 rw [hA] at r3
 rw [hB] at r4
 rw [hAB] at e
 simp only [k3D, toAV, List.map_cons, List.map_nil] at e ⊢
 generalize a.length = la at *
 generalize b.length = lb at *
 have hal : allRows (A.map toAV ++ B.map toAV) = some (A ++ B) := by rw [← List.map_append, allRows_toAV]
 have htAB : List.take (la + lb) (A ++ B) = A ++ B := List.take_of_length_le (by rw [List.length_append]; omega)
 have htB : List.take lb B = B := List.take_of_length_le (by omega)
 have htA : List.take la A = A := List.take_of_length_le (by omega)
 have hb1 : la ≤ la + 1 + lb := by omega
 have hb2 : la + 1 ≤ la + 1 + lb := by omega
 simp -implicitDefEqProofs (disch := first | omega | (simp [g] <;> fail) | assumption) [hb1, hb2, hal, htAB, kill, l4, p4, htB, htA, y1, y2, brClear, g, k1, k2, x4, n7, d7, f7, n4, d4, f4, hm, r3, r4, r5, hAl, hBl, e, hlv]
theorem brClear_run (Γ : Env) (M : Nat) (hT : ClearC (Γ.pt 511)) (i : Nat) (x : XS) (wm cm : Option Nat) (qs : List HQ) (cs : List HC) (n : Int) (c : Nat) (k : K3) (gs : List (Nat × AV)) (ob : List (Nat × Obj)) (hi : i ≤ 100) (hQ : QR i x wm cm qs cs n c ob) (hC : Cn c ob) (hO : NoO FSS ob) (hF : NoF FSS gs) :
  BrC Γ M brClear ((0, .loc 13 0 0) :: (1, .loc 11 0 0) :: (7, .loc 503007 0 0) :: (8, i64 (findX x.cs k.1 k.2.1 0)) :: gs) i x wm cm qs cs n c k ob := by
 have hck : CK = 900000000000000000 := rfl
 have hkt : KT = 18446744073709551616 := KT_eq
 have hcl := hQ.cl
 have hnl := hQ.nl
 have hlc := hQ.lc
 have hcam : 0 ≤ x.came ∧ x.came ≤ i + 1 := ⟨hQ.ca.1, by have := hQ.ca.2; omega⟩
 have hll := hQ.ll
 have x7 := hO.none (k := 503007) (by decide)
 have nk : ∀ j, nmRows j [toAV (k3D k)] = true := fun j => by simp [k3D]
 have hx := findX_map k.1 k.2.1 cs 0
 rw [hQ.rl.cl] at hx
 have hx : findX x.cs k.1 k.2.1 0 = match findC cs k.1 k.2.1 0 with | some (i, _) => (i : Int) | none => -1 := hx
 have hO1 : NoO [511] ((503007, ⟨3, [toAV (k3D k)]⟩) :: ob) := noO_push (hO.mono (by simp)) (by decide) nk
 have hC1 := cn_push (k0 := 503007) (o := ⟨3, [toAV (k3D k)]⟩) hC (by omega) nk
 have hQ1 := hQ.push (o := ⟨3, [toAV (k3D k)]⟩) x7
 obtain ⟨lv, cv, hm, hlv, hcv⟩ := hQ1.m
 have hF1 := (hF.mono (fs' := [511]) (by simp)).gho
 have hFr : ∀ fx, NoF [511] ((100089, i64 k.2.1) :: (100088, .loc 503007 0 1) :: (100087, i64 k.1) :: (100086, .loc 503007 0 0) :: (100085, .loc 11 0 0) :: (100001, .loc 11 0 0) :: (100007, .loc 503007 0 0) :: (100008, i64 fx) :: gho gs) := fun fx => by
  simp only [noF_c]
  exact ⟨by omega, nmS_c _ _, by omega, nmS_loc _ _ _ _ (by decide), by omega, nmS_c _ _, by omega, nmS_loc _ _ _ _ (by decide), by omega, nmS_loc _ _ _ _ (by decide), by omega, nmS_loc _ _ _ _ (by decide), by omega, nmS_loc _ _ _ _ (by decide), by omega, nmS_c _ _, hF1⟩
 have fin : ∀ (fx : Int) (x' : XS) (cs' : List HC) (obA ob2 : List (Nat × Obj)), Stp (O2 wm cm qs) (O2 wm cm qs) c c ((503007, ⟨3, [toAV (k3D k)]⟩) :: ob) obA → HallI 11 wm cm qs cs' n c ob2 → Stp (HOwn 11 wm cm qs) (HOwn 11 wm cm qs) c c obA ob2 → HallI 11 wm cm qs cs n c obA → MI x' obA → Rl x' qs cs' n → x'.l.length ≤ i + 1 → x'.cs.length ≤ i + 1 → (∀ w ∈ x'.l, SmW w) → (0 ≤ x'.came ∧ x'.came ≤ i + 1) →
   (exec Γ M brClear ⟨(0, .loc 13 0 0) :: (1, .loc 11 0 0) :: (7, .loc 503007 0 0) :: (8, i64 fx) :: gs, (503007, ⟨3, [toAV (k3D k)]⟩) :: ob⟩).map (fun p => (p.1, get p.2.fr 6, p.2.ob)) = some (.ret, some (bo true), keepF 503000 504000 finL ob2) →
   BrC Γ M brClear ((0, .loc 13 0 0) :: (1, .loc 11 0 0) :: (7, .loc 503007 0 0) :: (8, i64 fx) :: gs) i x wm cm qs cs n c k ob := by
  intro fx x' cs' obA ob2 hSA hH2 hS2 hHA hMA hR hl1 hl2 hl3 hca he
  obtain ⟨hS3, k3, hN3⟩ := (hSA.trans hS2.two (Nat.le_refl _) (Nat.le_refl _)).drop (f := 503) (os := finL) (hO.mono (by simp)) (by omega) (by omega) nk (fun j hj => O2.notf hQ.hall (by omega) (by omega) (by omega) hj) (by omega) (by simp) (by rw [hkt]; decide)
  simp only [Nat.reduceMul, Nat.reduceAdd] at hS3 k3 hN3
  obtain ⟨s13, _⟩ := hS2.small hHA (by omega) (by omega)
  refine ⟨x', wm, cm, qs, cs', n, c, _, he, ?_, hS3, hN3, Nat.le_refl _⟩
  refine ⟨hH2.keep (.inl (by rw [hkt]; omega)) (by omega) (by omega), by omega, hQ.n0, by omega, ?_, hR, hl1, hl2, hl3, hca⟩
  obtain ⟨lv', cv', m1, m2, m3⟩ := hMA
  exact ⟨lv', cv', by rw [get_keepK, if_pos (.inl (by rw [hkt]; omega)), s13]; exact m1, m2, m3⟩
 cases hf : findC cs k.1 k.2.1 0 with
 | none =>
  rw [hf] at hx
  simp only at hx
  have his : isC cs k.1 k.2.1 = false := by unfold isC; rw [hf]; rfl
  have hcl2 : clrC cs k.1 k.2.1 = cs := by unfold clrC; rw [hf]
  rw [hx]
  obtain ⟨ob2, e, hH2, hS2⟩ := hT 11 wm cm qs cs n c k.1 k.2.1 _ _ hO1 (hFr (-1)) hQ1.hall hC1
  rw [his] at e
  rw [hcl2] at hH2
  exact fin (-1) x cs _ ob2 (.refl _ _ _) hH2 hS2 hQ1.hall hQ1.m hQ.rl (by omega) (by omega) hQ.fl hcam (clear_no Γ M (-1) k gs ob ob2 (hO.mono (by simp)) (hF.mono (by simp)) (by omega) e)
 | some p =>
  obtain ⟨j, ec⟩ := p
  rw [hf] at hx
  simp only at hx
  have his : isC cs k.1 k.2.1 = true := by unfold isC; rw [hf]; rfl
  have hcl2 : clrC cs k.1 k.2.1 = cs.eraseIdx j := by unfold clrC; rw [hf]
  obtain ⟨_, hj, _⟩ := findC_spec hf
  rw [Nat.sub_zero] at hj
  have hjl := (List.getElem?_eq_some_iff.1 hj).1
  have hsp : x.cs = (cs.take j).map tri ++ tri ec :: (cs.drop (j + 1)).map tri := by
   rw [← hQ.rl.cl]
   have : cs = cs.take j ++ ec :: cs.drop (j + 1) := by
    conv => lhs; rw [← List.take_append_drop j cs]
    congr 1
    rw [List.drop_eq_getElem_cons hjl]
    congr 1
    rw [List.getElem?_eq_getElem hjl] at hj
    simpa using hj
   conv => lhs; rw [this]
   rw [List.map_append, List.map_cons]
  have her : (cs.eraseIdx j).map tri = (cs.take j).map tri ++ (cs.drop (j + 1)).map tri := by
   rw [List.eraseIdx_eq_take_drop_succ, List.map_append]
  have hal : ((cs.take j).map tri).length = j := by rw [List.length_map, List.length_take]; omega
  obtain ⟨a, ha⟩ : ∃ a, (cs.take j).map tri = a := ⟨_, rfl⟩
  obtain ⟨b, hb⟩ : ∃ b, (cs.drop (j + 1)).map tri = b := ⟨_, rfl⟩
  rw [ha, hb] at hsp her
  rw [ha] at hal
  have hcv' : cv = .c (.vs 3 ((a ++ tri ec :: b).map k3D)) := by
   rcases hcv with h | ⟨h, _⟩
   ·rw [h, hsp]
   ·rw [hsp] at h; simp at h
  rw [hcv'] at hm
  obtain ⟨hSA, hHA⟩ := stp_m (ob := ob) (lv' := lv) (cv' := .c (.vs 3 ((a ++ b).map k3D))) (came' := x.came) hm hQ1.hall (by omega) hlv.nms (fun _ => rfl)
  have hdl : del ((503007, (⟨3, [toAV (k3D k)]⟩ : Obj)) :: ob) 13 = (503007, ⟨3, [toAV (k3D k)]⟩) :: del ob 13 := by simp [Am.del]
  rw [hdl] at hSA hHA
  have hm0 : get ob 13 = some ⟨3, [[lv, .c (.vs 3 ((a ++ tri ec :: b).map k3D)), i64 x.came]]⟩ := by
   simp only [Go.Am.get] at hm; rw [if_neg (by omega)] at hm; exact hm
  rw [hx, ← hal]
  obtain ⟨ob2, e, hH2, hS2⟩ := hT 11 wm cm qs cs n c k.1 k.2.1 _ _ (hSA.no [511] (by simp) hO1) (hFr (a.length : Nat)) hHA (hSA.cn hC1)
  rw [his] at e
  rw [hcl2] at hH2
  have hlab : (a ++ b).length ≤ x.cs.length := by rw [hsp]; simp only [List.length_append, List.length_cons]; omega
  exact fin (a.length : Nat) ⟨x.l, a ++ b, x.came⟩ (cs.eraseIdx j) _ ob2 hSA hH2 hS2 hHA ⟨lv, _, rfl, hlv, .inl rfl⟩ ⟨hQ.rl.wt, hQ.rl.ids, hQ.rl.idl, her, hQ.rl.ns.sublist (List.eraseIdx_sublist _ _), fun d hd => hQ.rl.nl d (mem_erase hd)⟩ (by show x.l.length ≤ i + 1; omega) (by show (a ++ b).length ≤ i + 1; omega) hQ.fl hcam (clear_yes Γ M k lv x.came a b (tri ec) gs ob ob2 (hO.mono (by simp)) (hF.mono (by simp)) hm0 hlv.nms (by rw [← hsp]; omega) e)
end Go.Am
namespace Go.Am
def brCome : AC := .seq (.draw r503_16q [(503009, 9, [.c (.int .i64 0), .c (.int .i64 0), .c (.int .i64 0), .c (.int .i64 0)])] [] r503_16) (.keepP [0, 1, 7, 9] 503000 504000 [503007, 503009, 503034, 503039, 503048, 503067, 503074, 503082, 503115, 503120, 503123] (.seq (.reg r503_17) (.keepP [0, 1, 7, 9] 503000 504000 [503007, 503009, 503034, 503039, 503048, 503067, 503074, 503082, 503115, 503120, 503123] (.seq (.draw r503_18q [] [(1, (some 115), .bso 503115 4 [.int .i64 0, .int .i64 0, .int .i64 0, .int .i64 0] 0 [], [0, 9, 116, 117, 118, 121], []), (6, (some 120), .app 503120 4 32 (.t 115) (.t 119), [0, 9, 121], [1, 2, 3, 4, 5]), (9, (some 123), .app 503123 4 32 (.t 120) (.t 122), [0], [1, 2, 3, 4, 5, 6, 7, 8])] r503_18) (.keepP [1, 7, 9] 503000 504000 [503007, 503009, 503034, 503039, 503048, 503067, 503074, 503082, 503115, 503120, 503123] (.seq (.reg r503_19) (.keepP [7, 9] 503000 504000 [503007, 503009, 503034, 503039, 503048, 503067, 503074, 503082, 503115, 503120, 503123] (.seq (.draw r503_20q [] [] r503_20) (.keepP [6] 503000 504000 [503034, 503039, 503048, 503067, 503074, 503082, 503115, 503120, 503123] (.ret))))))))))
abbrev boxL : List Nat := [503007, 503009, 503034, 503039, 503048, 503067, 503074, 503082, 503115, 503120, 503123]
theorem keepF_keepF {lo hi : Nat} {os1 os2 : List Nat} (h : ∀ k ∈ os2, k ∈ os1) : ∀ ob : List (Nat × Obj), keepF lo hi os2 (keepF lo hi os1 ob) = keepF lo hi os2 ob
 | [] => rfl
 | (k, o) :: ob => by
  have ih := keepF_keepF h ob (lo := lo) (hi := hi)
  simp only [keepF]
  by_cases h1 : k % KT < lo ∨ hi ≤ k % KT ∨ k ∈ os1
  ·rw [if_pos h1]
   simp only [keepF]
   by_cases h2 : k % KT < lo ∨ hi ≤ k % KT ∨ k ∈ os2
   ·rw [if_pos h2, if_pos h2, ih]
   ·rw [if_neg h2, if_neg h2, ih]
  ·have h2 : ¬ (k % KT < lo ∨ hi ≤ k % KT ∨ k ∈ os2) := fun h2 => h1 (h2.imp id fun h3 => h3.imp id (h k))
   rw [if_neg h1, if_neg h2, ih]
def wO (came : Int) (o : Op29) : W4 := (came, o.w.2.1, o.w.2.2.1, (keyO o).2.2)
theorem come_walk (Γ : Env) (M : Nat) (hOf : OfWC (Γ 507)) (o : Op29) (lv cv : AV) (came : Int) (L : List W4) (gs : List (Nat × AV)) (ob ob2 : List (Nat × Obj)) (hO : NoO [503] ob) (hF : NoF [503] gs) (hm : get ob 13 = some ⟨3, [[lv, cv, i64 came]]⟩) (hlv : LV 4 (L.map w4D) lv) (hcvn : ∀ k, cv.names k = false) (hl : L.length ≤ 1000) (hc0 : 0 ≤ came) (hc1 : came ≤ 1000) (hw : SmW (wO came o))
  (e : Γ.pt 508 ⟨(0, .loc 11 0 0) :: (1, .agg (w4D (wO came o))) :: (100127, .agg (w4D (wO came o))) :: (100126, .loc 11 0 0) :: (100001, .loc 11 0 0) :: (100007, .loc 503007 0 0) :: (100009, .loc 503009 0 0) :: gho gs, (13, ⟨3, [[.c (.vs 4 ((L ++ [wO came o]).map w4D)), cv, i64 (came + 1)]]⟩) :: (503009, ⟨4, [w4R (wO came o)]⟩) :: (503007, ⟨3, [toAV (k3D (keyO o))]⟩) :: del ob 13⟩ = some ([], ob2))
  (h9 : get ob2 503009 = some ⟨4, [w4R (wO came o)]⟩) (h7 : get ob2 503007 = some ⟨3, [toAV (k3D (keyO o))]⟩) :
  (exec Γ M brCome ⟨(0, .loc 13 0 0) :: (1, .loc 11 0 0) :: (5, .loc 503005 0 0) :: (7, .loc 503007 0 0) :: gs, (503007, ⟨3, [toAV (k3D (keyO o))]⟩) :: (503005, ⟨6, [toAV (op29D o)]⟩) :: ob⟩).map (fun p => (p.1, get p.2.fr 6, p.2.ob)) = some (.ret, some (bo true), keepF 503000 504000 finL ob2) := by
 have g := hF.1
 have n5 := hO.nm (k := 503005) (by decide)
 have d5 := hO.del (k := 503005) (by decide)
 have n7 := hO.nm (k := 503007) (by decide)
 have d7 := hO.del (k := 503007) (by decide)
 have f7 := hF.nm (k := 503007) (by decide)
 have n9 := hO.nm (k := 503009) (by decide)
 have d9 := hO.del (k := 503009) (by decide)
 have f9 := hF.nm (k := 503009) (by decide)
 have x9 := hO.none (k := 503009) (by decide)
 have fb := nmFrB_nmH (d := 9) f9
 have n4 := hO.nm (k := 503115) (by decide)
 have d4 := hO.del (k := 503115) (by decide)
 have f4 := hF.nm (k := 503115) (by decide)
 have x4 := hO.none (k := 503115) (by decide)
 have k1 := hO.kf (f := 503) (by simp)
 have k2 : Kf 503000 504000 (del ob 13) := kf_delO k1
 have n4' : nmOb 503115 (del ob 13) = true := nmOb_delO n4
 have l4 := lcFr_nm f4
 have p4 := lcOb_nm n4
 have p4' := lcOb_nm n4'
 have x4' := get_del_none 13 x4
 have d4' := del_absent _ _ x4'
 have y1 := fun k (A : List (List D)) => nmRows_av k A
 have y2 := fun k (A : List (List D)) => lcRows_nm _ _ (nmRows_av k A)
 have hlvn := hlv.nms
 have e7 := hOf (wO came o) hw
 have hk : keyW (wO came o) = keyO o := rfl
 rw [hk] at e7
 have hkk := keepF_keepF (lo := 503000) (hi := 504000) (os1 := boxL) (os2 := finL) (by decide) ob2
 have q9 : get (keepF 503000 504000 boxL ob2) 503009 = some ⟨4, [w4R (wO came o)]⟩ := by rw [get_keepK, if_pos (.inr (.inr (by decide)))]; exact h9
 have q7 : get (keepF 503000 504000 boxL ob2) 503007 = some ⟨3, [toAV (k3D (keyO o))]⟩ := by rw [get_keepK, if_pos (.inr (.inr (by decide)))]; exact h7
 generalize hob3 : keepF 503000 504000 boxL ob2 = ob3 at *
 have hob3' : keepF 503000 504000 [503007, 503009, 503034, 503039, 503048, 503067, 503074, 503082, 503115, 503120, 503123] ob2 = ob3 := hob3
 have hkk' : keepF 503000 504000 [503034, 503039, 503048, 503067, 503074, 503082, 503115, 503120, 503123] ob3 = keepF 503000 504000 [503034, 503039, 503048, 503067, 503074, 503082, 503115, 503120, 503123] ob2 := hkk
 have hko : ∀ os, keepF 503000 504000 os ob3 = keepF 503000 504000 os ob3 := fun _ => rfl
 have hlc : ∀ k, cv.isLoc k = false := fun k => isLoc_names k cv (hcvn k)
 obtain ⟨A, hA⟩ : ∃ A, L.map w4D = A := ⟨_, rfl⟩
 have hAl : A.length = L.length := by rw [← hA]; simp
 have hAB : (L ++ [wO came o]).map w4D = A ++ [w4D (wO came o)] := by rw [List.map_append, hA]; rfl
 rw [hAB] at e
 rw [hA] at hlv
 have hal : allRows (A.map toAV ++ [toAV (w4D (wO came o))]) = some (A ++ [w4D (wO came o)]) := by
  have : A.map toAV ++ [toAV (w4D (wO came o))] = (A ++ [w4D (wO came o)]).map toAV := by simp
  rw [this, allRows_toAV]
 have htA : List.take L.length A = A := List.take_of_length_le (by omega)
 have htAB : List.take (L.length + 1) (A ++ [w4D (wO came o)]) = A ++ [w4D (wO came o)] := List.take_of_length_le (by simp; omega)
 obtain ⟨kd, ⟨oa, ob', oc, od⟩, fr⟩ := o
 simp only [wO, w4R, w4D, k3D, op29D, toAV, List.map_cons, List.map_nil] at e hal htAB q9 q7 e7 ⊢
 generalize L.length = n at *
 rcases hlv with rfl | ⟨rfl, rfl⟩
 ·simp -implicitDefEqProofs (disch := first | omega | (simp [g] <;> fail) | assumption) [brCome, g, k1, k2, e, e7, n5, d5, n7, d7, f7, n9, d9, f9, x9, fb, n4, d4, f4, x4, l4, p4, n4', p4', x4', d4', y1, y2, hAl, hal, htA, htAB, hm, kill, hcvn, hlc, hkk', hob3', q9, q7]
 ·simp only [List.length_nil] at hAl
  subst hAl
  simp only [List.nil_append] at e
  simp -implicitDefEqProofs (disch := first | omega | (simp [g] <;> fail) | assumption) [brCome, g, k1, k2, e, e7, n5, d5, n7, d7, f7, n9, d9, f9, x9, fb, n4, d4, f4, x4, l4, p4, n4', p4', x4', d4', y1, y2, hm, kill, hcvn, hlc, hkk', hob3', q9, q7]
end Go.Am
namespace Go.Am
theorem get_boxes {l ob : List (Nat × Obj)} {k : Nat} (h : ∀ p ∈ l, p.1 ≠ k) : get (l ++ ob) k = get ob k := by
 induction l with
 | nil => rfl
 | cons p l ih =>
  obtain ⟨j, o⟩ := p
  simp only [List.cons_append, Go.Am.get]
  rw [if_neg (h (j, o) (by simp)), ih fun q hq => h q (by simp [hq])]
theorem nmOb_app {l ob : List (Nat × Obj)} {k : Nat} (hn : ∀ p ∈ l, nmRows k p.2.rows = true) (h : nmOb k ob = true) : nmOb k (l ++ ob) = true := nmOb_iff.2 fun p hp => (List.mem_append.1 hp).elim (hn p) (nmOb_iff.1 h p)
theorem cn_app {c : Nat} : ∀ {l ob : List (Nat × Obj)}, Cn c ob → (∀ p ∈ l, p.1 < CK ∧ ∀ k, nmRows k p.2.rows = true) → Cn c (l ++ ob)
 | [], ob, h, _ => h
 | (j, o) :: l, ob, h, hl => cn_push (cn_app h fun p hp => hl p (by simp [hp])) (hl (j, o) (by simp)).1 (hl (j, o) (by simp)).2
theorem Stp.dropL {O O' : Nat → Prop} {c c' f : Nat} {l : List (Nat × Obj)} {os : List Nat} {ob ob2 : List (Nat × Obj)} (h : Stp O O' c c' (l ++ ob) ob2) (hO : NoO [f] ob) (hf : f < 1000000) (hk : ∀ p ∈ l, 1000 * f ≤ p.1 ∧ p.1 < 1000 * f + 1000) (hn : ∀ p ∈ l, ∀ k, nmRows k p.2.rows = true) (hO0 : ∀ k, O k → inR [f] k = false) (hc : c' ≤ 1000000000) (hos : ∀ p ∈ l, p.1 ∉ os) :
  Stp O O' c c' ob (keepF (1000 * f) (1000 * f + 1000) os ob2) ∧ Kf (1000 * f) (1000 * f + 1000) (keepF (1000 * f) (1000 * f + 1000) os ob2) ∧ NoO [f] (keepF (1000 * f) (1000 * f + 1000) os ob2) := by
 have hdb : DB = 1000000000000000000 := rfl
 have hck : CK = 900000000000000000 := rfl
 have hkt : KT = 18446744073709551616 := KT_eq
 have hin : ∀ k, inR [f] k = true ↔ 1000 * f ≤ k % KT ∧ k % KT < 1000 * f + 1000 := fun k => by
  simp only [inR, List.contains_eq_mem, List.mem_singleton, decide_eq_true_eq]; omega
 have hk0 : ∀ p ∈ l, p.1 % KT = p.1 := fun p hp => Nat.mod_eq_of_lt (by have := hk p hp; omega)
 have hnew : ∀ k, New c c' k → inR [f] k = false := fun k hk => by
  rcases hk with ⟨i, _, h2, rfl⟩ | ⟨i, _, h2, rfl⟩
  ·exact (inR_big (fs := [f]) (by simpa using hf) (n := i) (by omega)).1
  ·exact (inR_big (fs := [f]) (by simpa using hf) (n := i) (by omega)).2.1
 have hCK : inR [f] CK = false := (inR_big (fs := [f]) (by simpa using hf) (n := 0) (by omega)).2.2
 have hg : ∀ k, inR [f] k = true → (∀ p ∈ l, p.1 ≠ k) → get ob2 k = none := fun k hk hne => by
  rw [h.fr k (fun h => by rw [hO0 k h] at hk; simp at hk) (fun h => by rw [hnew k h] at hk; simp at hk) (by rintro rfl; rw [hCK] at hk; simp at hk)]
  rw [get_boxes hne, hO.none hk]
 have hnone : ∀ k, inR [f] k = true → get (keepF (1000 * f) (1000 * f + 1000) os ob2) k = none := fun k hk' => by
  rw [get_keepK]
  split
  ·by_cases he : ∃ p ∈ l, p.1 = k
   ·obtain ⟨p, hp, rfl⟩ := he
    rename_i hc
    exfalso
    have := hk0 p hp
    have := hk p hp
    rcases hc with h1 | h1 | h1
    ·omega
    ·omega
    ·exact hos p hp h1
   ·exact hg k hk' fun p hp h => he ⟨p, hp, h⟩
  ·rfl
 have memN : ∀ {l : List (Nat × Obj)} {p : Nat × Obj}, p ∈ l → get l p.1 ≠ none := by
  intro l
  induction l with
  | nil => intro p h; simp at h
  | cons q l ih =>
   intro p h
   simp only [Go.Am.get]
   split
   ·simp
   ·rcases List.mem_cons.1 h with rfl | h
    ·rename_i hne; exact absurd rfl hne
    ·exact ih h
 have hnm1 : ∀ k, ¬ New c c' k → nmOb k ob = true → nmOb k (keepF (1000 * f) (1000 * f + 1000) os ob2) = true := fun k hk h1 => nmOb_keep (h.nm k hk (nmOb_app (fun p hp => hn p hp k) h1))
 have hNf : NoO [f] (keepF (1000 * f) (1000 * f + 1000) os ob2) := fun p hp => by
  refine ⟨?_, fun r hr v hv k hk => ?_⟩
  ·cases hp1 : inR [f] p.1 with
   | false => rfl
   | true => exact absurd (hnone p.1 hp1) (memN hp)
  ·have h1 := hnm1 k (fun h => by rw [hnew k h] at hk; simp at hk) (hO.nm hk)
   exact nmRows_iff.1 (nmOb_iff.1 h1 p hp) r hr v hv
 refine ⟨⟨fun k a1 a2 a3 => ?_, h.own, fun fs hfs hno => ?_, hnm1, fun hcn => ?_⟩, hNf.kf (by simp), hNf⟩
 ·cases hk1 : inR [f] k with
  | true => rw [hnone k hk1, hO.none hk1]
  | false =>
   have hne : ∀ p ∈ l, p.1 ≠ k := by
    rintro p hp rfl
    have := (hin p.1).2 (by rw [hk0 p hp]; exact hk p hp)
    rw [hk1] at this; simp at this
   have hc : k % KT < 1000 * f ∨ 1000 * f + 1000 ≤ k % KT := by
    rcases Nat.lt_or_ge (k % KT) (1000 * f) with h1 | h1
    ·exact .inl h1
    ·refine .inr (Nat.not_lt.1 fun h2 => ?_)
     have := (hin k).2 ⟨h1, h2⟩
     rw [hk1] at this; simp at this
   rw [get_keepK, if_pos (hc.imp id .inl), h.fr k a1 a2 a3, get_boxes hne]
 ·
  have hfs' : NoO (fs.filter (· != f)) (l ++ ob) := fun p hp => by
   rcases List.mem_append.1 hp with hp | hp
   ·refine ⟨?_, fun r hr v hv j _ => nmRows_iff.1 (hn p hp j) r hr v hv⟩
    simp only [inR, List.contains_eq_mem, decide_eq_false_iff_not, List.mem_filter, not_and]
    intro _ hne
    have h3 := hk0 p hp
    have h4 := hk p hp
    have : p.1 % KT / 1000 = f := by omega
    exact absurd this (by simpa using hne)
   ·exact hno.mono (fun g hg => (List.mem_filter.1 hg).1) p hp
  have h2 := h.no _ (fun g hg => hfs g (List.mem_filter.1 hg).1) hfs'
  intro p hp
  obtain ⟨q1, q2⟩ := h2 p (mem_keepF hp)
  obtain ⟨q3, q4⟩ := hNf p hp
  have hsp : ∀ k, inR fs k = true → inR (fs.filter (· != f)) k = true ∨ inR [f] k = true := fun k hk => by
   simp only [inR, List.contains_eq_mem, decide_eq_true_eq, List.mem_filter, List.mem_singleton] at hk ⊢
   by_cases he : k % KT / 1000 = f
   ·exact .inr he
   ·exact .inl ⟨hk, by simpa using he⟩
  refine ⟨?_, fun r hr v hv k hk => (hsp k hk).elim (q2 r hr v hv k) (q4 r hr v hv k)⟩
  cases hp1 : inR fs p.1 with
  | false => rfl
  | true => rcases hsp _ hp1 with h | h <;> simp_all
 ·exact cn_keep (h.cn (cn_app hcn fun p hp => ⟨by have := hk p hp; omega, hn p hp⟩)) (by omega)
theorem brCome_run (Γ : Env) (M : Nat) (hOf : OfWC (Γ 507)) (hT : ComeC (Γ.pt 508)) (i : Nat) (x : XS) (wm cm : Option Nat) (qs : List HQ) (cs : List HC) (n : Int) (c : Nat) (o : Op29) (gs : List (Nat × AV)) (ob : List (Nat × Obj)) (hi : i ≤ 100) (hQ : QR i x wm cm qs cs n c ob) (hC : Cn c ob) (hO : NoO FSS ob) (hF : NoF FSS gs) (hCf : Cf c gs) (hw : SmW (wO x.came o)) :
  ∃ x' wm' cm' qs' cs' n' c' ob', (exec Γ M brCome ⟨(0, .loc 13 0 0) :: (1, .loc 11 0 0) :: (5, .loc 503005 0 0) :: (7, .loc 503007 0 0) :: gs, (503007, ⟨3, [toAV (k3D (keyO o))]⟩) :: (503005, ⟨6, [toAV (op29D o)]⟩) :: ob⟩).map (fun p => (p.1, get p.2.fr 6, p.2.ob)) = some (.ret, some (bo true), ob') ∧ QR (i + 1) x' wm' cm' qs' cs' n' c' ob' ∧ Stp (O2 wm cm qs) (O2 wm' cm' qs') c c' ob ob' ∧ NoO [503] ob' ∧ c ≤ c' := by
 have hck : CK = 900000000000000000 := rfl
 have hkt : KT = 18446744073709551616 := KT_eq
 have hcl := hQ.cl
 have hnl := hQ.nl
 have hlc := hQ.lc
 have hll := hQ.ll
 obtain ⟨ca0, ca1⟩ := hQ.ca
 generalize hwd : wO x.came o = w at *
 generalize hkd : keyO o = k at *
 have hkw : keyW w = k := by rw [← hwd, ← hkd]; rfl
 have hw1 : w.1 = x.came := by rw [← hwd]; rfl
 have x7 := hO.none (k := 503007) (by decide)
 have x9 := hO.none (k := 503009) (by decide)
 have nk : ∀ j, nmRows j [toAV (k3D k)] = true := fun j => by simp [k3D]
 have nw : ∀ j, nmRows j [w4R w] = true := fun j => by have := nmRows_w4 j [w]; simpa only [List.map_cons, List.map_nil] using this
 have x9' : get ((503007, (⟨3, [toAV (k3D k)]⟩ : Obj)) :: ob) 503009 = none := by simp only [Go.Am.get]; rw [if_neg (by omega)]; exact x9
 have hO1 : NoO [508] ((503009, ⟨4, [w4R w]⟩) :: (503007, ⟨3, [toAV (k3D k)]⟩) :: ob) := noO_push (noO_push (hO.mono (by simp)) (by decide) nk) (by decide) nw
 have hC1 := cn_push (k0 := 503009) (o := ⟨4, [w4R w]⟩) (cn_push (k0 := 503007) (o := ⟨3, [toAV (k3D k)]⟩) hC (by omega) nk) (by omega) nw
 have hQ1 := (hQ.push (o := ⟨3, [toAV (k3D k)]⟩) x7).push (o := ⟨4, [w4R w]⟩) x9'
 obtain ⟨lv, cv, hm, hlv, hcv⟩ := hQ1.m
 obtain ⟨hSA, hHA⟩ := stp_m (ob := ob) (lv' := .c (.vs 4 ((x.l ++ [w]).map w4D))) (cv' := cv) (came' := x.came + 1) hm hQ1.hall (by omega) (fun _ => rfl) hcv.nms
 have hdl : del ((503009, (⟨4, [w4R w]⟩ : Obj)) :: (503007, ⟨3, [toAV (k3D k)]⟩) :: ob) 13 = (503009, ⟨4, [w4R w]⟩) :: (503007, ⟨3, [toAV (k3D k)]⟩) :: del ob 13 := by simp [Am.del]
 rw [hdl] at hSA hHA
 have hm0 : get ob 13 = some ⟨3, [[lv, cv, i64 x.came]]⟩ := by
  simp only [Go.Am.get] at hm; rw [if_neg (by omega), if_neg (by omega)] at hm; exact hm
 have hF1 := (hF.mono (fs' := [508]) (by simp)).gho
 have hFr : NoF [508] ((100127, .agg (w4D w)) :: (100126, .loc 11 0 0) :: (100001, .loc 11 0 0) :: (100007, .loc 503007 0 0) :: (100009, .loc 503009 0 0) :: gho gs) := by
  simp only [noF_c]
  exact ⟨by omega, nmS_agg _ _, by omega, nmS_loc _ _ _ _ (by decide), by omega, nmS_loc _ _ _ _ (by decide), by omega, nmS_loc _ _ _ _ (by decide), by omega, nmS_loc _ _ _ _ (by decide), hF1⟩
 have hCfr : Cf c ((100127, .agg (w4D w)) :: (100126, .loc 11 0 0) :: (100001, .loc 11 0 0) :: (100007, .loc 503007 0 0) :: (100009, .loc 503009 0 0) :: gho gs) := cf_cons (cf_cons (cf_cons (cf_cons (cf_cons (cf_gho hCf) (cf_loc (by omega))) (cf_loc (by omega))) (cf_loc (by omega))) (cf_loc (by omega))) cf_agg
 obtain ⟨wm', qs', c', ob2, e, hR⟩ := hT w 11 wm cm qs cs n c _ _ hw (hSA.no [508] (by simp) hO1) hFr hCfr (hSA.cn hC1) (by omega) hHA (fun e he => by
  have h1 := wait_self hQ.hall.qk he
  rw [hQ.rl.wt] at h1
  have h2 := List.length_filter_le (fun w => decide (keyW w = e.k)) x.l
  rw [h1] at h2; omega)
 obtain ⟨l1, l2⟩ := hR.le
 have hS2 := hR.stp
 have hfrs : ∀ j, j < CK → j ≠ 11 → get ob2 j = get ((13, (⟨3, [[.c (.vs 4 ((x.l ++ [w]).map w4D)), cv, i64 (x.came + 1)]]⟩ : Obj)) :: (503009, ⟨4, [w4R w]⟩) :: (503007, ⟨3, [toAV (k3D k)]⟩) :: del ob 13) j := fun j hj hne => hS2.fr j (fun h => by
  rcases hHA.own_big (by omega) h with h | h <;> omega) (fun h => by have := new_big h (by omega : c' ≤ 1000000000); omega) (by omega)
 have h9 : get ob2 503009 = some ⟨4, [w4R w]⟩ := by rw [hfrs 503009 (by omega) (by omega)]; rfl
 have h7 : get ob2 503007 = some ⟨3, [toAV (k3D k)]⟩ := by rw [hfrs 503007 (by omega) (by omega)]; rfl
 have h13 : get ob2 13 = some ⟨3, [[.c (.vs 4 ((x.l ++ [w]).map w4D)), cv, i64 (x.came + 1)]]⟩ := by rw [hfrs 13 (by omega) (by omega)]; rfl
 have hwk := come_walk Γ M hOf o lv cv x.came x.l gs ob ob2 (hO.mono (by simp)) (hF.mono (by simp)) hm0 hlv hcv.nms (by omega) ca0 (by omega) (by rw [hwd]; exact hw) (by rw [hwd, hkd]; exact e) (by rw [hwd]; exact h9) (by rw [hkd]; exact h7)
 rw [hkd] at hwk
 obtain ⟨hS3, k3, hN3⟩ := Stp.dropL (l := [(503009, ⟨4, [w4R w]⟩), (503007, ⟨3, [toAV (k3D k)]⟩)]) (f := 503) (os := finL) (hSA.trans hS2.two (Nat.le_refl _) (by omega)) (hO.mono (by simp)) (by omega) (fun p hp => by
  simp only [List.mem_cons, List.not_mem_nil, or_false] at hp
  rcases hp with rfl | rfl <;> simp) (fun p hp j => by
  simp only [List.mem_cons, List.not_mem_nil, or_false] at hp
  rcases hp with rfl | rfl
  ·exact nw j
  ·exact nk j) (fun j hj => O2.notf hQ.hall (by omega) (by omega) (by omega) hj) (by omega) (fun p hp => by
  simp only [List.mem_cons, List.not_mem_nil, or_false] at hp
  rcases hp with rfl | rfl <;> simp)
 simp only [Nat.reduceMul, Nat.reduceAdd] at hS3 k3 hN3
 refine ⟨⟨x.l ++ [w], x.cs, x.came + 1⟩, wm', cm, qs', cs, n, c', _, hwk, ⟨hR.hall.keep (.inl (by rw [hkt]; omega)) (by omega) (by omega), by omega, hQ.n0, by omega, ⟨_, cv, ?_, .inl rfl, hcv⟩, ⟨fun k' => ?_, ?_, fun v hv => ?_, hQ.rl.cl, hQ.rl.ns, hQ.rl.nl⟩, ?_, by show x.cs.length ≤ i + 1; omega, fun v hv => ?_, ?_⟩, hS3, hN3, by omega⟩
 ·rw [get_keepK, if_pos (.inl (by rw [hkt]; omega))]; exact h13
 ·rw [hR.wt, List.filter_append, hQ.rl.wt k']
  by_cases h : keyW w = k'
  ·rw [if_pos h, List.filter_cons, if_pos (by simpa using h)]; rfl
  ·rw [if_neg h, List.filter_cons, if_neg (by simpa using h)]; simp
 ·rw [List.pairwise_append]
  refine ⟨hQ.rl.ids, by simp, fun a ha b hb => ?_⟩
  simp only [List.mem_singleton] at hb; subst hb
  have := hQ.rl.idl a ha
  omega
 ·show v.1 < x.came + 1
  rcases List.mem_append.1 hv with h | h
  ·have := hQ.rl.idl v h; omega
  ·simp only [List.mem_singleton] at h; subst h; omega
 ·show (x.l ++ [w]).length ≤ i + 1
  rw [List.length_append, List.length_singleton]; omega
 ·rcases List.mem_append.1 hv with h | h
  ·exact hQ.fl v h
  ·simp only [List.mem_singleton] at h; subst h; exact hw
 ·show 0 ≤ x.came + 1 ∧ x.came + 1 ≤ ((i + 1 : Nat) : Int)
  omega
end Go.Am
namespace Go.Am
structure SEnv (Γ : Env) : Prop where
 key : Key29C (Γ 504)
 find : Find29C (Γ.pt 512)
 tk : TakeMC (Γ.pt 509)
 sd : SendC (Γ.pt 510)
 cl : ClearC (Γ.pt 511)
 of : OfWC (Γ 507)
 cm : ComeC (Γ.pt 508)
def StepC (g : St → Option (List AV × List (Nat × Obj))) : Prop := ∀ (i : Nat) (x : XS) (wm cm : Option Nat) (qs : List HQ) (cs : List HC) (n : Int) (c : Nat) (o : Op29) gs ob, i ≤ 100 → QR i x wm cm qs cs n c ob → Cn c ob → NoO FSS ob → NoF FSS gs → Cf c gs → 0 ≤ o.kind → SmF o.w.2.1 → SmF o.w.2.2.1 →
 ∃ x' wm' cm' qs' cs' n' c' ob', g ⟨(0, .loc 13 0 0) :: (1, .loc 11 0 0) :: (2, .agg (op29D o)) :: gs, ob⟩ = some ([bo true], ob') ∧ QR (i + 1) x' wm' cm' qs' cs' n' c' ob' ∧ Stp (O2 wm cm qs) (O2 wm' cm' qs') c c' ob ob' ∧ c ≤ c'
theorem law29_m_step_run (Γ : Env) (M : Nat) (hT : SEnv Γ) : StepC (runP Γ M law29_m_step_f) := by
 intro i x wm cm qs cs n c o gs ob hi hQ hC hO hF hCf hk0 hw1 hw2
 have hlc := hQ.lc
 have x5 := hO.none (k := 503005) (by decide)
 have n5 := hO.nm (k := 503005) (by decide)
 have d5 := hO.del (k := 503005) (by decide)
 have f5 := hF.nm (k := 503005) (by decide)
 have x7 := hO.none (k := 503007) (by decide)
 have n7 := hO.nm (k := 503007) (by decide)
 have d7 := hO.del (k := 503007) (by decide)
 have f7 := hF.nm (k := 503007) (by decide)
 have k1 := hO.kf (f := 503) (by simp)
 have g := hF.1
 obtain ⟨lv, cv, hm, hlv, hcv⟩ := hQ.m
 have e1 := hT.key o
 obtain ⟨k, hk⟩ : ∃ k, keyO o = k := ⟨_, rfl⟩
 have hm2 : get ((503007, (⟨3, [toAV (k3D k)]⟩ : Obj)) :: (503005, ⟨6, [toAV (op29D o)]⟩) :: ob) 13 = some ⟨3, [[lv, cv, i64 x.came]]⟩ := by simp only [Go.Am.get]; rw [if_neg (by omega), if_neg (by omega)]; exact hm
 have e2 := fun fr (h : Gh fr) => hT.find 13 lv cv x.came x.cs k.1 k.2.1 fr _ h hm2 hcv (by omega)
 rw [hk] at e1
 have eT : brTake = .seq (.reg r503_6) (.keepP [6] 503000 504000 [503034, 503039, 503048, 503067, 503074, 503082, 503115, 503120, 503123] (.ret)) := rfl
 have eS : brSend = .seq (.seq (.reg r503_9) (.keepP [0, 1, 7, 8, 32] 503000 504000 [503007, 503034, 503039, 503048, 503067, 503074, 503082, 503115, 503120, 503123] (.cond (.t 32) (.keepP [0, 1, 7, 8] 503000 504000 [503007, 503034, 503039, 503048, 503067, 503074, 503082, 503115, 503120, 503123] (.draw r503_10q [] [(1, (some 34), .bso 503034 3 [.int .i64 0, .int .i64 0, .int .i64 0] 0 [], [0, 7, 35, 36, 37, 40, 41, 42, 43, 44, 45, 46], []), (6, (some 39), .app 503039 3 24 (.t 34) (.t 38), [0, 7, 40, 41, 42, 43, 44, 45, 46], [1, 2, 3, 4, 5]), (15, (some 48), .app 503048 3 24 (.t 39) (.t 47), [0], [1, 2, 3, 4, 5, 6, 7, 8, 9, 10, 11, 12, 13, 14])] r503_10)) (.skip)))) (.keepP [1, 7, 8] 503000 504000 [503007, 503034, 503039, 503048, 503067, 503074, 503082, 503115, 503120, 503123] (.seq (.reg r503_11) (.keepP [6] 503000 504000 [503034, 503039, 503048, 503067, 503074, 503082, 503115, 503120, 503123] (.ret)))) := rfl
 have eC : brClear = .seq (.seq (.reg r503_13) (.keepP [0, 1, 7, 8, 65] 503000 504000 [503007, 503034, 503039, 503048, 503067, 503074, 503082, 503115, 503120, 503123] (.cond (.t 65) (.keepP [0, 1, 7, 8] 503000 504000 [503007, 503034, 503039, 503048, 503067, 503074, 503082, 503115, 503120, 503123] (.draw r503_14q [] [(1, (some 67), .bso 503067 3 [.int .i64 0, .int .i64 0, .int .i64 0] 0 [], [0, 8, 68, 69, 70, 71, 72, 75, 76, 77, 78, 79, 80], []), (8, (some 74), .app 503074 3 24 (.t 67) (.t 73), [0, 8, 75, 76, 77, 78, 79, 80], [1, 2, 3, 4, 5, 6, 7]), (16, (some 82), .app 503082 3 24 (.t 74) (.t 81), [0], [1, 2, 3, 4, 5, 6, 7, 8, 9, 10, 11, 12, 13, 14, 15])] r503_14)) (.skip)))) (.keepP [1, 7, 8] 503000 504000 [503007, 503034, 503039, 503048, 503067, 503074, 503082, 503115, 503120, 503123] (.seq (.reg r503_15) (.keepP [6] 503000 504000 [503034, 503039, 503048, 503067, 503074, 503082, 503115, 503120, 503123] (.ret)))) := rfl
 have eM : brCome = .seq (.draw r503_16q [(503009, 9, [.c (.int .i64 0), .c (.int .i64 0), .c (.int .i64 0), .c (.int .i64 0)])] [] r503_16) (.keepP [0, 1, 7, 9] 503000 504000 [503007, 503009, 503034, 503039, 503048, 503067, 503074, 503082, 503115, 503120, 503123] (.seq (.reg r503_17) (.keepP [0, 1, 7, 9] 503000 504000 [503007, 503009, 503034, 503039, 503048, 503067, 503074, 503082, 503115, 503120, 503123] (.seq (.draw r503_18q [] [(1, (some 115), .bso 503115 4 [.int .i64 0, .int .i64 0, .int .i64 0, .int .i64 0] 0 [], [0, 9, 116, 117, 118, 121], []), (6, (some 120), .app 503120 4 32 (.t 115) (.t 119), [0, 9, 121], [1, 2, 3, 4, 5]), (9, (some 123), .app 503123 4 32 (.t 120) (.t 122), [0], [1, 2, 3, 4, 5, 6, 7, 8])] r503_18) (.keepP [1, 7, 9] 503000 504000 [503007, 503009, 503034, 503039, 503048, 503067, 503074, 503082, 503115, 503120, 503123] (.seq (.reg r503_19) (.keepP [7, 9] 503000 504000 [503007, 503009, 503034, 503039, 503048, 503067, 503074, 503082, 503115, 503120, 503123] (.seq (.draw r503_20q [] [] r503_20) (.keepP [6] 503000 504000 [503034, 503039, 503048, 503067, 503074, 503082, 503115, 503120, 503123] (.ret)))))))))) := rfl
 have bT := brTake_run Γ M hT.tk i x wm cm qs cs n c k gs ob hi hQ hC hO hF
 have bS := brSend_run Γ M hT.sd i x wm cm qs cs n c k gs ob hi hQ hC hO hF hCf
 have bC := brClear_run Γ M hT.cl i x wm cm qs cs n c k gs ob hi hQ hC hO hF
 have bM := brCome_run Γ M hT.of hT.cm i x wm cm qs cs n c o gs ob hi hQ hC hO hF hCf ⟨hw1, hw2⟩
 rw [hk] at bM
 unfold BrC at bT bS bC
 clear hT hQ hC hCf
 obtain ⟨kd, ⟨o1, o2, o3, o4⟩, ofr⟩ := o
 simp only at hk0
 have hcase : kd % 8 = 3 ∨ kd % 8 = 4 ∨ kd % 8 = 5 ∨ kd % 8 = 6 ∨ kd % 8 = 7 ∨ (¬ kd % 8 = 3 ∧ ¬ kd % 8 = 4 ∧ ¬ kd % 8 = 5 ∧ ¬ kd % 8 = 6 ∧ ¬ kd % 8 = 7) := by omega
 unfold runP law29_m_step_f law29_m_step_c
 try simp only [Cx.sr, Cx.pP, Cx.pQ, Cx.p0, Cx.rg, Cx.cd, Nat.reduceMul, Nat.reduceAdd]
 rw [← eT, ← eS, ← eC, ← eM]
 generalize brTake = T at *
 generalize brSend = S at *
 generalize brClear = C at *
 generalize brCome = W at *
 generalize findX x.cs k.1 k.2.1 0 = fx at *
 simp only [k3D, op29D, toAV, List.map_cons, List.map_nil] at e1 e2 bT bS bC bM ⊢
 rcases hcase with h | h | h | h | h | ⟨h3, h4, h5, h6, h7⟩
 ·obtain ⟨x', wm', cm', qs', cs', n', c', ob', he, q1, q2, q3, q4⟩ := bT
  simp only [Option.map_eq_some_iff, Prod.mk.injEq] at he
  obtain ⟨⟨ax, s3⟩, t1, t2, t3, t4⟩ := he
  simp only at t2 t3 t4
  subst t2; subst t4
  have kk := q3.kf (f := 503) (by simp)
  refine ⟨x', wm', cm', qs', cs', n', c', s3.ob, ?_, q1, q2, q4⟩
  simp -implicitDefEqProofs (disch := first | omega | (simp [g] <;> fail) | assumption) [g, n5, d5, f5, x5, n7, d7, f7, x7, k1, e1, e2, h, t1, t3, kk]
 ·obtain ⟨x', wm', cm', qs', cs', n', c', ob', he, q1, q2, q3, q4⟩ := bT
  simp only [Option.map_eq_some_iff, Prod.mk.injEq] at he
  obtain ⟨⟨ax, s3⟩, t1, t2, t3, t4⟩ := he
  simp only at t2 t3 t4
  subst t2; subst t4
  have kk := q3.kf (f := 503) (by simp)
  refine ⟨x', wm', cm', qs', cs', n', c', s3.ob, ?_, q1, q2, q4⟩
  simp -implicitDefEqProofs (disch := first | omega | (simp [g] <;> fail) | assumption) [g, n5, d5, f5, x5, n7, d7, f7, x7, k1, e1, e2, h, t1, t3, kk]
 ·obtain ⟨x', wm', cm', qs', cs', n', c', ob', he, q1, q2, q3, q4⟩ := bS
  simp only [Option.map_eq_some_iff, Prod.mk.injEq] at he
  obtain ⟨⟨ax, s3⟩, t1, t2, t3, t4⟩ := he
  simp only at t2 t3 t4
  subst t2; subst t4
  have kk := q3.kf (f := 503) (by simp)
  refine ⟨x', wm', cm', qs', cs', n', c', s3.ob, ?_, q1, q2, q4⟩
  simp -implicitDefEqProofs (disch := first | omega | (simp [g] <;> fail) | assumption) [g, n5, d5, f5, x5, n7, d7, f7, x7, k1, e1, e2, h, t1, t3, kk]
 ·obtain ⟨x', wm', cm', qs', cs', n', c', ob', he, q1, q2, q3, q4⟩ := bS
  simp only [Option.map_eq_some_iff, Prod.mk.injEq] at he
  obtain ⟨⟨ax, s3⟩, t1, t2, t3, t4⟩ := he
  simp only at t2 t3 t4
  subst t2; subst t4
  have kk := q3.kf (f := 503) (by simp)
  refine ⟨x', wm', cm', qs', cs', n', c', s3.ob, ?_, q1, q2, q4⟩
  simp -implicitDefEqProofs (disch := first | omega | (simp [g] <;> fail) | assumption) [g, n5, d5, f5, x5, n7, d7, f7, x7, k1, e1, e2, h, t1, t3, kk]
 ·obtain ⟨x', wm', cm', qs', cs', n', c', ob', he, q1, q2, q3, q4⟩ := bC
  simp only [Option.map_eq_some_iff, Prod.mk.injEq] at he
  obtain ⟨⟨ax, s3⟩, t1, t2, t3, t4⟩ := he
  simp only at t2 t3 t4
  subst t2; subst t4
  have kk := q3.kf (f := 503) (by simp)
  refine ⟨x', wm', cm', qs', cs', n', c', s3.ob, ?_, q1, q2, q4⟩
  simp -implicitDefEqProofs (disch := first | omega | (simp [g] <;> fail) | assumption) [g, n5, d5, f5, x5, n7, d7, f7, x7, k1, e1, e2, h, t1, t3, kk]
 ·obtain ⟨x', wm', cm', qs', cs', n', c', ob', he, q1, q2, q3, q4⟩ := bM
  simp only [Option.map_eq_some_iff, Prod.mk.injEq] at he
  obtain ⟨⟨ax, s3⟩, t1, t2, t3, t4⟩ := he
  simp only at t2 t3 t4
  subst t2; subst t4
  have kk := q3.kf (f := 503) (by simp)
  refine ⟨x', wm', cm', qs', cs', n', c', s3.ob, ?_, q1, q2, q4⟩
  simp -implicitDefEqProofs (disch := first | omega | (simp [g] <;> fail) | assumption) [g, n5, d5, f5, x5, n7, d7, f7, x7, k1, e1, e2, h3, h4, h5, h6, h7, t1, t3, kk]
end Go.Am
namespace Go.Am
def Hd (i : Nat) (ob : List (Nat × Obj)) : Prop := (∃ x wm cm qs cs n c, QR i x wm cm qs cs n c ob ∧ Cn c ob) ∧ NoO FS ob ∧ (∀ k, k % KT < 1000 → k ≠ 11 → k ≠ 13 → get ob k = none) ∧ keepF 0 1000 [11, 13] ob = ob ∧ nmOb 6 ob = true
theorem noO_keep {fs : List Nat} {lo hi : Nat} {os : List Nat} {ob : List (Nat × Obj)} (h : NoO fs ob) : NoO fs (keepF lo hi os ob) := fun p hp => h p (mem_keepF hp)
theorem hd_zero : Hd 0 [(13, ⟨3, [[.nil 4, .nil 3, i64 0]]⟩), (11, ⟨3, [[.ot .nm, .ot .nm, i64 0]]⟩)] := by
 have hdb : DB = 1000000000000000000 := rfl
 have hck : CK = 900000000000000000 := rfl
 have hkt : KT = 18446744073709551616 := KT_eq
 have hg : ∀ k, k ≠ 13 → k ≠ 11 → get [(13, (⟨3, [[.nil 4, .nil 3, i64 0]]⟩ : Obj)), (11, ⟨3, [[.ot .nm, .ot .nm, i64 0]]⟩)] k = none := fun k h1 h2 => by
  simp only [Go.Am.get]; rw [if_neg (Ne.symm h1), if_neg (Ne.symm h2)]
 have hn : ∀ k, nmOb k [(13, (⟨3, [[.nil 4, .nil 3, i64 0]]⟩ : Obj)), (11, ⟨3, [[.ot .nm, .ot .nm, i64 0]]⟩)] = true := fun k => rfl
 refine ⟨⟨⟨[], [], 0⟩, none, none, [], [], 0, 0, ⟨⟨rfl, ⟨0, rfl, by simp⟩, ⟨0, rfl, by simp⟩, by simp, by simp, by simp, by simp, by simp, by simp, by simp, by simp, by simp, by omega⟩, by omega, by omega, by omega, ⟨.nil 4, .nil 3, rfl, .inr ⟨rfl, rfl⟩, .inr ⟨rfl, rfl⟩⟩, ⟨fun _ => rfl, by simp, by simp, rfl, by simp, by simp⟩, by simp, by simp, by simp, by simp⟩, ⟨rfl, by omega, fun n _ h => ⟨hg _ (by omega) (by omega), hn _⟩, fun n _ h => ⟨hg _ (by omega) (by omega), hn _⟩, hn _⟩⟩, ?_, fun k h1 h2 h3 => hg k h3 h2, ?_, hn 6⟩
 ·refine noO_push (noO_push (noO_nil _) (by decide) (fun _ => rfl)) (by decide) (fun _ => rfl)
 ·simp [keepF]
def PlaysC (g : List AV → Option (List AV)) : Prop := ∀ ops : List Op29, g [.c (.vs 6 (ops.map op29D))] = some [bo true]
theorem smF_of {a : Int} (h0 : 0 ≤ a) (h1 : a ≤ 127) : SmF a := ⟨by omega, by omega⟩
theorem plays_round (Γ : Env) (M : Nat) (hS : StepC (Γ.pt 503)) (hTo : ToldC (Γ.pt 505)) (hK : Key29C (Γ 504)) (ops : List Op29) (q : Nat) (ob : List (Nat × Obj)) (hq : q < ops.length) (hq80 : q ≤ 80) (hH : Hd q ob) :
  (exec Γ M law29_QueuePlays_l1b ⟨[(0, .c (.vs 6 (ops.map op29D))), (3, .loc 11 0 0), (4, .loc 13 0 0), (5, i64 q)], ob⟩).map (fun p => (p.1, get p.2.fr 2)) = some (.ret, some (bo true)) ∨
  ∃ ob', (exec Γ M law29_QueuePlays_l1b ⟨[(0, .c (.vs 6 (ops.map op29D))), (3, .loc 11 0 0), (4, .loc 13 0 0), (5, i64 q)], ob⟩).map (fun p => (p.1, keep [0, 3, 4, 5] p.2.fr ++ ghs p.2.fr, p.2.ob)) = some (.norm, [(0, .c (.vs 6 (ops.map op29D))), (3, .loc 11 0 0), (4, .loc 13 0 0), (5, i64 (q + 1 : Nat))], ob') ∧ Hd (q + 1) ob' := by
 have hck : CK = 900000000000000000 := rfl
 have hkt : KT = 18446744073709551616 := KT_eq
 obtain ⟨⟨x, wm, cm, qs, cs, n, c, hQ, hC⟩, hO, hsm, hkp, n6⟩ := hH
 obtain ⟨o, ho⟩ : ∃ o, ops[q] = o := ⟨_, rfl⟩
 have hrow : (ops.map op29D)[q]? = some (op29D o) := by simp [hq, ho]
 have hrow2 : ∀ h, (ops.map op29D)[q]'h = op29D o := fun h => by rw [List.getElem?_eq_getElem h] at hrow; simpa using hrow
 have x6 : get ob 6 = none := hsm 6 (by rw [hkt]; omega) (by omega) (by omega)
 have d6 := del_absent _ _ x6
 have hlq : (ops.map op29D).length = ops.length := List.length_map _
 clear ho
 by_cases hbad : o.kind < 0 ∨ o.w.2.1 < 0 ∨ o.w.2.2.1 < 0 ∨ 127 < o.w.2.1 ∨ 127 < o.w.2.2.1
 ·left
  generalize ops.map op29D = OD at *
  obtain ⟨kd, ⟨o1, o2, o3, o4⟩, ofr⟩ := o
  simp only [op29D] at hrow hrow2
  simp only at hbad
  by_cases h1 : kd < 0
  ·simp -implicitDefEqProofs (disch := first | omega | (simp <;> fail) | assumption) [hq, hlq, hrow, hrow2, n6, d6, x6, hkp, h1]
  ·by_cases h2 : o3 < o2
   ·by_cases h3 : o3 < 0
    ·simp -implicitDefEqProofs (disch := first | omega | (simp <;> fail) | assumption) [hq, hlq, hrow, hrow2, n6, d6, x6, hkp, h1, h2, h3, minL, maxL]
    ·have h4 : 127 < o2 := by omega
     have h5 : ¬ o2 < o3 := by omega
     simp -implicitDefEqProofs (disch := first | omega | (simp <;> fail) | assumption) [hq, hlq, hrow, hrow2, n6, d6, x6, hkp, h1, h2, h3, h4, h5, minL, maxL]
   ·by_cases h3 : o2 < 0
    ·simp -implicitDefEqProofs (disch := first | omega | (simp <;> fail) | assumption) [hq, hlq, hrow, hrow2, n6, d6, x6, hkp, h1, h2, h3, minL, maxL]
    ·by_cases h5 : o2 < o3
     ·have h4 : 127 < o3 := by omega
      simp -implicitDefEqProofs (disch := first | omega | (simp <;> fail) | assumption) [hq, hlq, hrow, hrow2, n6, d6, x6, hkp, h1, h2, h3, h4, h5, minL, maxL]
     ·have h4 : 127 < o2 := by omega
      simp -implicitDefEqProofs (disch := first | omega | (simp <;> fail) | assumption) [hq, hlq, hrow, hrow2, n6, d6, x6, hkp, h1, h2, h3, h4, h5, minL, maxL]
 ·right
  have b0 : 0 ≤ o.kind := by omega
  have b1 : 0 ≤ o.w.2.1 := by omega
  have b2 : 0 ≤ o.w.2.2.1 := by omega
  have b3 : o.w.2.1 ≤ 127 := by omega
  have b4 : o.w.2.2.1 ≤ 127 := by omega
  have no : ∀ j, nmRows j [toAV (op29D o)] = true := fun j => by simp [op29D]
  have hQ1 := hQ.push (o := ⟨6, [toAV (op29D o)]⟩) x6
  have hC1 := cn_push (k0 := 6) (o := ⟨6, [toAV (op29D o)]⟩) hC (by omega) no
  have hO1 : NoO FS ((6, ⟨6, [toAV (op29D o)]⟩) :: ob) := noO_push hO (by decide) no
  have hn0 : ∀ fs, NoF fs [] := fun fs => ⟨rfl, fun p hp => by simp at hp⟩
  have hc0 : Cf c [] := ⟨fun _ _ _ => rfl, fun _ _ _ => rfl, rfl⟩
  obtain ⟨x', wm', cm', qs', cs', n', c', ob2, e, hQ2, hSt, l1⟩ := hS q x wm cm qs cs n c o ((100049, .agg (op29D o)) :: (100048, .loc 11 0 0) :: (100047, .loc 13 0 0) :: (100000, .c (.vs 6 (ops.map op29D))) :: (100003, .loc 11 0 0) :: (100004, .loc 13 0 0) :: (100005, i64 q) :: (100006, .loc 6 0 0) :: []) _ (by omega) hQ1 hC1 (hO1.mono (by simp)) (by
   simp only [noF_c]
   exact ⟨by omega, nmS_agg _ _, by omega, nmS_loc _ _ _ _ (by decide), by omega, nmS_loc _ _ _ _ (by decide), by omega, nmS_c _ _, by omega, nmS_loc _ _ _ _ (by decide), by omega, nmS_loc _ _ _ _ (by decide), by omega, nmS_c _ _, by omega, nmS_loc _ _ _ _ (by decide), hn0 _⟩)
   (cf_cons (cf_cons (cf_cons (cf_cons (cf_cons (cf_cons (cf_cons (cf_cons hc0 (cf_loc (by omega))) cf_c) (cf_loc (by omega))) (cf_loc (by omega))) cf_c) (cf_loc (by omega))) (cf_loc (by omega))) cf_agg) b0 (smF_of b1 b3) (smF_of b2 b4)
  have hcl := hQ2.cl
  have hO2 := hSt.no FS (by simp) hO1
  have hC2 := hSt.cn hC1
  have e2 := fun gs h => hTo (q + 1) x' wm' cm' qs' cs' n' c' (keyO o) gs ob2 (by omega) (hQ2.toI hC2 hO2) h
  have eK := hK o
  have hfr := hSt.fr2 hQ1.hall (by omega) (by omega)
  have g6 : get ob2 6 = some ⟨6, [toAV (op29D o)]⟩ := by rw [hfr 6 (by rw [hkt]; omega) (by omega) (by omega)]; rfl
  have hbig : ∀ j, O2 wm' cm' qs' j → get (keepF 0 1000 [11, 13] ob2) j = get ob2 j := fun j hj => by
   rw [get_keepK, if_pos]
   rcases O2.big hQ2.hall (by omega) hj with h1 | h1 | h1
   ·subst h1; exact .inr (.inr (by simp))
   ·subst h1; exact .inr (.inr (by simp))
   ·exact .inr (.inl (by omega))
  have hkk := keepF_keepF (lo := 0) (hi := 1000) (os1 := [11, 13]) (os2 := [11, 13]) (fun _ h => h) ob2
  refine ⟨keepF 0 1000 [11, 13] ob2, ?_, ⟨x', wm', cm', qs', cs', n', c', hQ2.congr hbig, cn_keep hC2 (by omega)⟩, noO_keep hO2, fun k h1 h2 h3 => ?_, hkk, nmOb_keep (hSt.nm 6 (fun h => by have := new_big h (by omega : c' ≤ 1000000000); omega) (by simp only [nmOb, no, n6, Bool.and_self]))⟩
  ·have k1 : keepF 0 1000 [6, 11, 13] ob = ob := by
    refine keepK_id fun p hp => ?_
    rw [← hkp] at hp
    exact (mem_keepC hp).imp id fun h => h.imp id fun h => List.mem_cons_of_mem _ h
   obtain ⟨kd, ⟨o1, o2, o3, o4⟩, ofr⟩ := o
   simp only at b0 b1 b2 b3 b4
   simp only [op29D, toAV, List.map_cons, List.map_nil] at hrow hrow2 e g6 eK
   generalize ops.map op29D = OD at *
   generalize hob3 : keepF 0 1000 [11, 13] ob2 = ob3 at *
   have c1 : ¬ kd < 0 := by omega
   have c2 : ¬ o2 < 0 := by omega
   have c3 : ¬ o3 < 0 := by omega
   have c4 : ¬ 127 < o2 := by omega
   have c5 : ¬ 127 < o3 := by omega
   by_cases h2 : o3 < o2
   ·have h5 : ¬ o2 < o3 := by omega
    simp -implicitDefEqProofs (disch := first | omega | (simp <;> fail) | (simp [noF_c, nmS_c, nmS_agg, nmS_loc, nmS_tup, nmS_vp, nmS_nil, nmS_ot, inR, hn0] <;> fail) | assumption) [hq, hlq, hrow, hrow2, n6, d6, x6, hkp, k1, c1, c2, c3, c4, c5, h2, h5, minL, maxL, e, e2, eK, g6, hob3, hkk]
   ·by_cases h5 : o2 < o3
    ·simp -implicitDefEqProofs (disch := first | omega | (simp <;> fail) | (simp [noF_c, nmS_c, nmS_agg, nmS_loc, nmS_tup, nmS_vp, nmS_nil, nmS_ot, inR, hn0] <;> fail) | assumption) [hq, hlq, hrow, hrow2, n6, d6, x6, hkp, k1, c1, c2, c3, c4, c5, h2, h5, minL, maxL, e, e2, eK, g6, hob3, hkk]
    ·simp -implicitDefEqProofs (disch := first | omega | (simp <;> fail) | (simp [noF_c, nmS_c, nmS_agg, nmS_loc, nmS_tup, nmS_vp, nmS_nil, nmS_ot, inR, hn0] <;> fail) | assumption) [hq, hlq, hrow, hrow2, n6, d6, x6, hkp, k1, c1, c2, c3, c4, c5, h2, h5, minL, maxL, e, e2, eK, g6, hob3, hkk]
  ·rw [get_keepK, if_neg]
   rintro (h | h | h)
   ·omega
   ·omega
   ·simp [h2, h3] at h
end Go.Am
namespace Go.Am
theorem law29_QueuePlays_run (Γ : Env) (M : Nat) (hM : 200 < M) (hS : StepC (Γ.pt 503)) (hTo : ToldC (Γ.pt 505)) (hK : Key29C (Γ 504)) (hal : Γ 502 [] = some [bo true]) : PlaysC (run Γ M law29_QueuePlays_f) := by
 intro ops
 have hlq : (ops.map op29D).length = ops.length := List.length_map _
 by_cases h80 : 80 < ops.length
 ·generalize ops.map op29D = OD at *
  simp -implicitDefEqProofs (disch := first | omega | (simp <;> fail) | assumption) [hlq, h80]
 ·obtain ⟨ax, s', hR, hin⟩ : ∃ ax s', ((ax = .ret ∧ get s'.fr 2 = some (bo true)) ∨ (ax = .ex 0 ∧ ∃ ob', s' = ⟨[], ob'⟩)) ∧ ∀ s, nrmP [0, 3, 4, 5] 0 1000 [11, 13] s = ⟨[(0, .c (.vs 6 (ops.map op29D))), (3, .loc 11 0 0), (4, .loc 13 0 0), (5, i64 (0 : Nat))], [(13, ⟨3, [[.nil 4, .nil 3, i64 0]]⟩), (11, ⟨3, [[.ot .nm, .ot .nm, i64 0]]⟩)]⟩ → lp (exec Γ M law29_QueuePlays_l1) M s = some (ax, s') := by
   refine lp_allP (fun q : Nat × List (Nat × Obj) => ⟨[(0, .c (.vs 6 (ops.map op29D))), (3, .loc 11 0 0), (4, .loc 13 0 0), (5, i64 q.1)], q.2⟩) (fun q => q.1 ≤ ops.length ∧ Hd q.1 q.2) (fun q => ops.length - q.1) _ (0, [(13, ⟨3, [[.nil 4, .nil 3, i64 0]]⟩), (11, ⟨3, [[.ot .nm, .ot .nm, i64 0]]⟩)]) M ⟨by simp, hd_zero⟩ (by simp only; omega) ?_
   rintro ⟨q, ob⟩ ⟨hq, hH⟩
   simp only at hq hH ⊢
   by_cases hlt : q < ops.length
   ·rcases plays_round Γ M hS hTo hK ops q ob hlt (by omega) hH with h | ⟨ob', h, hH'⟩
    ·cases hx : exec Γ M law29_QueuePlays_l1b ⟨[(0, .c (.vs 6 (ops.map op29D))), (3, .loc 11 0 0), (4, .loc 13 0 0), (5, i64 q)], ob⟩ with
     | none => rw [hx] at h; simp at h
     | some p =>
      obtain ⟨ax, s1⟩ := p
      rw [hx] at h
      simp only [Option.map_some, Option.some.injEq, Prod.mk.injEq] at h
      obtain ⟨rfl, h2⟩ := h
      exact .inl ⟨rfl, h2⟩
    ·cases hx : exec Γ M law29_QueuePlays_l1b ⟨[(0, .c (.vs 6 (ops.map op29D))), (3, .loc 11 0 0), (4, .loc 13 0 0), (5, i64 q)], ob⟩ with
     | none => rw [hx] at h; simp at h
     | some p =>
      obtain ⟨ax, s1⟩ := p
      rw [hx] at h
      simp only [Option.map_some, Option.some.injEq, Prod.mk.injEq] at h
      obtain ⟨rfl, h2, h3⟩ := h
      refine ⟨(q + 1, keepF 0 1000 [11, 13] ob'), ?_, ⟨by simp only; omega, ?_⟩, by simp only; omega⟩
      ·simp only [nrmP, h2, h3]
      ·simp only; rw [hH'.2.2.2.1]; exact hH'
   ·obtain rfl : q = ops.length := by omega
    have hkp := hH.2.2.2.1
    generalize ops.map op29D = OD at *
    simp -implicitDefEqProofs (disch := first | omega | (simp <;> fail) | assumption) [hlq, hkp]
  generalize ops.map op29D = OD at *
  rcases hR with ⟨rfl, h2⟩ | ⟨rfl, ob', rfl⟩
  ·simp -implicitDefEqProofs (disch := first | omega | (simp <;> fail) | assumption) [hlq, h80, hin, h2]
  ·simp -implicitDefEqProofs (disch := first | omega | (simp <;> fail) | assumption) [hlq, h80, hin, hal]
end Go.Am
namespace Go.Am
open Go.Proofs Go.Shelf Go.RowKit
abbrev rowT : Tab := [(522, law29_m_row_f, 2), (519, law29_dir_f, 2)]
def rowE : Env := env rowT [] noEnv 3000 3
theorem rowE_row : RowF29C (frzPt (rowE.pt 522)) := by
 refine row_frz ?_
 have h : Dir29C (env rowT [] noEnv 3000 2 519) := by
  have h : Dir29C (run (env rowT [] noEnv 3000 1) 3000 law29_dir_f) := law29_dir_run _ _
  unfold Dir29C at h ⊢; intros; rw [env_run rfl rfl]; apply h <;> assumption
 unfold rowE
 rw [show (env rowT [] noEnv 3000 3).pt 522 = runP (env rowT [] noEnv 3000 2) 3000 law29_m_row_f from funext fun s => env_runP (k := 2) rfl (by decide +kernel)]
 exact law29_m_row_run _ _ (by omega) h
def qX : Env := ⟨fun _ _ => none, fun f s => if f = 514 then frzPt waitPt s else if f = 516 then frzPt callsPt s else if f = 518 then landsPt s else if f = 522 then frzPt (rowE.pt 522) s else none, fun _ _ => none⟩
theorem qX_w : qX.pt 514 = frzPt waitPt := by funext s; simp [qX]
theorem qX_c : qX.pt 516 = frzPt callsPt := by funext s; simp [qX]
theorem qX_l : qX.pt 518 = landsPt := by funext s; simp [qX]
theorem qX_r : qX.pt 522 = frzPt (rowE.pt 522) := by funext s; simp [qX]
theorem qX_ok {nm : Nat → Option Nat} {T : Tab} (hmix : Try.prog.follows .mixedOrders = true) (h1 : nm 514 = some 47) (h2 : nm 516 = some 49) (h3 : nm 518 = some 50) (hR : chkTab Try.prog nm rowT = true) : XOk Try.prog nm T qX where
 fn := fun f g _ _ F w ds vs rs _ _ h => by simp [qX] at h
 pt := fun f g hg _ => by
  by_cases hf : f = 514
  ·subst hf
   rw [h1] at hg; simp only [Option.some.injEq] at hg; subst hg
   rw [qX_w]; exact wait_specP.frz
  by_cases hf2 : f = 516
  ·subst hf2
   rw [h2] at hg; simp only [Option.some.injEq] at hg; subst hg
   rw [qX_c]; exact calls_specP.frz
  by_cases hf3 : f = 518
  ·subst hf3
   rw [h3] at hg; simp only [Option.some.injEq] at hg; subst hg
   rw [qX_l]; exact lands_specP
  by_cases hf4 : f = 522
  ·subst hf4
   rw [qX_r]; exact ((env_ok hmix noEnv_ok hR rfl 3000 3).pt _ g hg).frz
  ·have : qX.pt f = fun _ => none := by funext s; simp [qX, hf, hf2, hf3, hf4]
   rw [this]; exact SpecP.none
 mono := fun f s rs ob R hR' h => by
  by_cases hf : f = 514
  ·subst hf
   rw [qX_w] at h ⊢
   exact frzPt_mono waitPt_mono s rs ob R hR' h
  by_cases hf2 : f = 516
  ·subst hf2
   rw [qX_c] at h ⊢
   exact frzPt_mono callsPt_mono s rs ob R hR' h
  by_cases hf3 : f = 518
  ·subst hf3
   rw [qX_l] at h ⊢
   exact landsPt_mono s rs ob R hR' h
  by_cases hf4 : f = 522
  ·subst hf4
   rw [qX_r] at h ⊢
   exact frzPt_mono (fun s rs ob R hR2 h => (env_ok hmix noEnv_ok hR rfl 3000 3).mono 522 s rs ob R hR2 h) s rs ob R hR' h
  ·simp [qX, hf, hf2, hf3, hf4] at h
theorem env_q {T : Tab} {I : List (Nat × Nat)} {M n f : Nat} (h : get T f = none) : (env T I qX M n).pt f = qX.pt f := by
 funext s
 cases n <;> simp [env, envPt, h]
end Go.Am
