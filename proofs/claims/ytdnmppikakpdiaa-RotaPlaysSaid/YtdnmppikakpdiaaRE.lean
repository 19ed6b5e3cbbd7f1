import Derived.Test.YtdnmppikakpdiaaRD
import Derived.Test.YtdnmppikakpdiaaRB
import Derived.Test.YtdnmppikakpdiaaRC
set_option maxHeartbeats 4000000
set_option maxRecDepth 10000
set_option linter.unusedVariables false
set_option linter.unusedSimpArgs false
set_option linter.unnecessarySimpa false
namespace Go.Am
def inD : AC := .draw r462_2q [] [] r462_2
def inT : AC := .seq (.seq (.reg r462_3) (.keepP [0, 1, 6, 23] 462000 463000 [] (.cond (.t 23) (.keepP [0, 1] 462000 463000 [] (.seq (.reg r462_4) (.keepP [] 462000 463000 [] (.ret)))) (.skip)))) (.keepP [0, 1, 6] 462000 463000 [] (.reg r462_5))
theorem inD_nil (Γ : Env) (M : Nat) (s : Sp) (car : Int) (m : Option Nat) (c z : Nat) (qs : List RQ) (o : List Sp) (gs : List (Nat × AV)) (ob : List (Nat × Obj)) (hF : GN gs) (hX : KX 462005 c ob) (hc6 : c ≤ 900000) (hcnt : cntOf ob = c) (hb : get ob 462005 = some ⟨2, [[i64 s.f, i64 s.t]]⟩) (hh : get ob 18 = some ⟨1, [[mapV m]]⟩) (hm : MapAt m z (qs.map RQ.row) ob) (hk : ∀ k, m = some k → MK + DB ≤ k) (hf : findR qs car 0 = none)
  (hS : ∀ (c : Nat) gs ob, Gh gs → cntOf ob = c → c ≤ 1000000 → get ob (DB + c) = none → nmFr (DB + c) gs = true → nmOb (DB + c) ob = true → nmFr CK gs = true → nmOb CK ob = true →
   Γ.pt 736 ⟨(0, .nil 2) :: (1, spL [s]) :: gs, ob⟩ = some ([.sl (DB + c) o.length 0 o.length], (CK, ⟨c + 1, []⟩) :: (DB + c, ⟨2, oR o⟩) :: del ob CK)) :
  (exec Γ M inD ⟨(0, .loc 18 0 0) :: (1, i64 car) :: (5, .loc 462005 0 0) :: gs, ob⟩).map (fun p => (p.1, keep [0, 1, 6] p.2.fr ++ ghs p.2.fr, p.2.ob)) = some (.norm, (0, .loc 18 0 0) :: (1, i64 car) :: (6, .sl (DB + c) o.length 0 o.length) :: gs, (CK, ⟨c + 1, []⟩) :: (DB + c, ⟨2, oR o⟩) :: del ob CK) := by
 have hCn := hX.cn (by omega) hc6 hcnt
 have g := hF.g
 have mf := mfind_r car qs 0
 rw [hf] at mf
 simp only [Option.map_none] at mf
 have hmk : MK + DB = 1461501637330902918203684832717283019655932542976 := by rw [MK_eq]; unfold DB; omega
 have hdb : DB + c = 1000000000000000000 + c := by unfold DB; omega
 obtain ⟨ha1, ha2⟩ := hCn.a c (Nat.le_refl _) (by unfold DB; omega)
 have fa := hF.nm (k := DB + c) (by unfold DB; omega)
 have hck : nmOb CK ob = true := hCn.nck
 have hcf : nmFr CK gs = true := hF.nm (by unfold CK; omega)
 have b6 : ((462005 : Nat) == DB + c) = false := beq_false_of_ne (by unfold DB; omega)
 have b7 : ((18 : Nat) == DB + c) = false := beq_false_of_ne (by unfold DB; omega)
 have hnm : ∀ j : Nat, (∀ k, m = some k → k ≠ j) → (mapV m).names j = false := fun j hj => names_mapV hj
 have nm1 : (mapV m).names (DB + c) = false := hnm _ fun k hk2 => by have := hk k hk2; unfold DB; omega
 have nm2 : (mapV m).names CK = false := hnm _ fun k hk2 => by have := hk k hk2; unfold CK; omega
 have nl : ∀ k r f j, AV.names j (.loc k r f) = (k == j) := fun _ _ _ _ => rfl
 have nc : ∀ d j, AV.names j (.c d) = false := fun _ _ => rfl
 have na : ∀ d j, AV.names j (.agg d) = false := fun _ _ => rfl
 have nn : ∀ d j, AV.names j (.nil d) = false := fun _ _ => rfl
 have b16 : ((462005 : Nat) == CK) = false := rfl
 have b17 : ((18 : Nat) == CK) = false := rfl
 have eS := hS c ((100019, spL [s]) :: (100018, .agg s.cells) :: (100017, .nil 2) :: (100016, i64 car) :: (100015, mapV m) :: (100014, .loc 18 0 0) :: (100013, .loc 18 0 0) :: (100012, .loc 18 0 0) :: (100000, .loc 18 0 0) :: (100001, i64 car) :: (100005, .loc 462005 0 0) :: gho gs) ob
  (by simp [g]) hcnt (by omega) ha1 (by simp only [nmFr, nmFr_ghoR, fa, nm1, nl, nc, na, nn, b6, b7]; rfl) ha2 (by simp only [nmFr, nmFr_ghoR, hcf, nm2, nl, nc, na, nn, b16, b17]; rfl) hck
 simp only [spL, Sp.cells, List.map_cons, List.map_nil] at eS
 clear hS hnm nm1 nm2
 generalize oR o = G at *
 generalize o.length = L at *
 generalize DB + c = D at *
 cases m with
 | none =>
  simp only [mapV] at hh eS
  simp -implicitDefEqProofs (disch := first | omega | (simp [g] <;> fail) | assumption) [inD, g, hh, hb, mf, eS]
 | some K =>
  simp only [mapV] at hh eS
  simp only [MapAt] at hm
  simp -implicitDefEqProofs (disch := first | omega | (simp [g] <;> fail) | assumption) [inD, g, hh, hb, hm, mf, eS]
theorem inD_old (Γ : Env) (M : Nat) (s : Sp) (car : Int) (K : Nat) (c z : Nat) (qs : List RQ) (o : List Sp) (gs : List (Nat × AV)) (ob : List (Nat × Obj)) (hF : GN gs) (hX : KX 462005 c ob) (hc6 : c ≤ 900000) (hcnt : cntOf ob = c) (hb : get ob 462005 = some ⟨2, [[i64 s.f, i64 s.t]]⟩) (hh : get ob 18 = some ⟨1, [[.mp K]]⟩) (hm : get ob K = some ⟨z, qs.map RQ.row⟩) (hk : MK + DB ≤ K) (i : Nat) (e : RQ) (hf : findR qs car 0 = some (i, e)) (hy1 : DB ≤ e.ky) (hy2 : e.ky < DB + c) (hq : get ob e.ky = some ⟨2, oR e.l⟩)
  (hS : ∀ (k c : Nat) gs ob, Gh gs → get ob k = some ⟨2, oR e.l⟩ → k < DB + c → k ≠ CK → cntOf ob = c → c ≤ 1000000 → get ob (DB + c) = none → nmFr (DB + c) gs = true → nmOb (DB + c) ob = true → nmFr CK gs = true → nmOb CK ob = true →
   Γ.pt 736 ⟨(0, .sl k e.l.length 0 e.l.length) :: (1, spL [s]) :: gs, ob⟩ = some ([.sl (DB + c) o.length 0 o.length], (CK, ⟨c + 1, []⟩) :: (DB + c, ⟨2, oR o⟩) :: del (del ob k) CK)) :
  (exec Γ M inD ⟨(0, .loc 18 0 0) :: (1, i64 car) :: (5, .loc 462005 0 0) :: gs, ob⟩).map (fun p => (p.1, keep [0, 1, 6] p.2.fr ++ ghs p.2.fr, p.2.ob)) = some (.norm, (0, .loc 18 0 0) :: (1, i64 car) :: (6, .sl (DB + c) o.length 0 o.length) :: gs, (CK, ⟨c + 1, []⟩) :: (DB + c, ⟨2, oR o⟩) :: del (del ob e.ky) CK) := by
 have hCn := hX.cn (by omega) hc6 hcnt
 have g := hF.g
 have mf := mfind_r car qs 0
 rw [hf] at mf
 simp only [Option.map_some, RQ.val] at mf
 have hmk : MK + DB = 1461501637330902918203684832717283019655932542976 := by rw [MK_eq]; unfold DB; omega
 obtain ⟨ha1, ha2⟩ := hCn.a c (Nat.le_refl _) (by unfold DB; omega)
 have fa := hF.nm (k := DB + c) (by unfold DB; omega)
 have hck : nmOb CK ob = true := hCn.nck
 have hcf : nmFr CK gs = true := hF.nm (by unfold CK; omega)
 have b6 : ((462005 : Nat) == DB + c) = false := beq_false_of_ne (by unfold DB; omega)
 have b7 : ((18 : Nat) == DB + c) = false := beq_false_of_ne (by unfold DB; omega)
 have b8 : (K == DB + c) = false := beq_false_of_ne (by unfold DB; omega)
 have b9 : (K == CK) = false := beq_false_of_ne (by unfold CK; omega)
 have b10 : (e.ky == DB + c) = false := beq_false_of_ne (by omega)
 have b11 : (e.ky == CK) = false := beq_false_of_ne (by unfold CK; unfold DB at hy1; omega)
 have eS := hS e.ky c ((100019, spL [s]) :: (100018, .agg s.cells) :: (100017, .sl e.ky e.l.length 0 e.l.length) :: (100016, i64 car) :: (100015, .mp K) :: (100014, .loc 18 0 0) :: (100013, .loc 18 0 0) :: (100012, .loc 18 0 0) :: (100000, .loc 18 0 0) :: (100001, i64 car) :: (100005, .loc 462005 0 0) :: gho gs) ob
  (by simp [g]) hq hy2 (by unfold CK; unfold DB at hy1; omega) hcnt (by omega) ha1 (by simp only [nmFr, nmFr_ghoR, fa, AV.names, AV.names1, b6, b7, b8, b10]; simp) ha2 (by simp only [nmFr, nmFr_ghoR, hcf, AV.names, AV.names1, b9, b11]; simp [CK]) hck
 simp only [spL, Sp.cells, List.map_cons, List.map_nil] at eS
 clear hS
 generalize oR o = G at *
 generalize o.length = L at *
 generalize DB + c = D at *
 simp -implicitDefEqProofs (disch := first | omega | (simp [g] <;> fail) | assumption) [inD, g, hh, hb, hm, mf, eS]
end Go.Am
namespace Go.Am
theorem inT_gone (Γ : Env) (M : Nat) (car : Int) (m : Option Nat) (c z D : Nat) (qs : List RQ) (gs : List (Nat × AV)) (ob : List (Nat × Obj)) (hF : GN gs) (hkp : ∀ os, keepF 462000 463000 os ob = ob) (hD : get ob D = some ⟨2, []⟩) (hh : get ob 18 = some ⟨1, [[mapV m]]⟩) (hm : MapAt m z (qs.map RQ.row) ob) (hf : findR qs car 0 = none) :
  (exec Γ M inT ⟨(0, .loc 18 0 0) :: (1, i64 car) :: (6, .sl D 0 0 0) :: gs, ob⟩).map (fun p => (p.1, p.2.ob)) = some (.ret, ob) := by
 have g := hF.g
 have mf := mfind_r car qs 0
 rw [hf] at mf
 simp only [Option.map_none] at mf
 cases m with
 | none =>
  simp only [mapV] at hh
  simp -implicitDefEqProofs (disch := first | omega | (simp [g] <;> fail) | assumption) [inT, g, hD, hh, mf, hkp]
 | some K =>
  simp only [mapV] at hh
  simp only [MapAt] at hm
  simp -implicitDefEqProofs (disch := first | omega | (simp [g] <;> fail) | assumption) [inT, g, hD, hh, hm, mf, hkp]
theorem inT_del (Γ : Env) (M : Nat) (car : Int) (K z D : Nat) (qs : List RQ) (gs : List (Nat × AV)) (ob : List (Nat × Obj)) (hF : GN gs) (hkp : ∀ os, keepF 462000 463000 os ob = ob) (hkd : ∀ os, keepF 462000 463000 os (del ob K) = del ob K) (hK : 463000 ≤ K % KT) (hD : get ob D = some ⟨2, []⟩) (hh : get ob 18 = some ⟨1, [[.mp K]]⟩) (hm : get ob K = some ⟨z, qs.map RQ.row⟩) (i : Nat) (e : RQ) (hf : findR qs car 0 = some (i, e)) :
  (exec Γ M inT ⟨(0, .loc 18 0 0) :: (1, i64 car) :: (6, .sl D 0 0 0) :: gs, ob⟩).map (fun p => (p.1, p.2.ob)) = some (.ret, (K, ⟨z, (qs.map RQ.row).eraseIdx i⟩) :: del ob K) := by
 have g := hF.g
 have mf := mfind_r car qs 0
 rw [hf] at mf
 simp only [Option.map_some, RQ.val] at mf
 have h2 : ¬ K % KT < 462000 := by omega
 have h3 : 463000 ≤ K % 18446744073709551616 := by rw [← KT_eq]; exact hK
 simp -implicitDefEqProofs (disch := first | omega | (simp [g] <;> fail) | assumption) [inT, g, hD, hh, hm, mf, hkp, hkd, hK, h2, h3]
theorem inT_set (Γ : Env) (M : Nat) (car : Int) (K z D L : Nat) (qs : List RQ) (gs : List (Nat × AV)) (ob : List (Nat × Obj)) (hF : GN gs) (hL : 0 < L) (hkp : ∀ os, keepF 462000 463000 os ob = ob) (hkd : ∀ os, keepF 462000 463000 os (del ob K) = del ob K) (hK : 463000 ≤ K % KT) (R : Rows) (hR : R.length = L) (hD : get ob D = some ⟨2, R⟩) (hh : get ob 18 = some ⟨1, [[.mp K]]⟩) (hm : get ob K = some ⟨z, qs.map RQ.row⟩) (i : Nat) (e : RQ) (hf : findR qs car 0 = some (i, e)) :
  (exec Γ M inT ⟨(0, .loc 18 0 0) :: (1, i64 car) :: (6, .sl D L 0 L) :: gs, ob⟩).map (fun p => (p.1, p.2.ob)) = some (.norm, (K, ⟨z, setRow (qs.map RQ.row) i [.c (.int .i64 e.b), i64 car, .sl D L 0 L]⟩) :: del ob K) := by
 have g := hF.g
 have mf := mfind_r car qs 0
 rw [hf] at mf
 simp only [Option.map_some, RQ.val] at mf
 obtain ⟨_, hqi, hek⟩ := findR_spec hf
 rw [Nat.sub_zero] at hqi
 have hst : stampAt (qs.map RQ.row) i = .c (.int .i64 e.b) := by
  unfold stampAt
  rw [List.getElem?_map, hqi]; rfl
 have hmu : ∀ (s : St) (v : AV), mupd K (false, [.int .i64]) (i64 car) v ⟨z, qs.map RQ.row⟩ s = some (s.obj K ⟨z, setRow (qs.map RQ.row) i [.c (.int .i64 e.b), i64 car, v]⟩) := fun s v => by simp only [mupd, mf, hst]
 have h2 : ¬ K % KT < 462000 := by omega
 have hL1 : ¬ L = 0 := by omega
 simp -implicitDefEqProofs (disch := first | omega | (simp [g] <;> fail) | assumption) [inT, g, hD, hR, hh, hm, hmu, hkp, hkd, hK, h2, hL1]
def inW : AC := .keepP [0, 1, 5] 462000 463000 [462005] (.seq inD (.keepP [0, 1, 6] 462000 463000 [] inT))
theorem inW_run (Γ : Env) (M : Nat) (car : Int) (D L : Nat) (ax : AX) (gs : List (Nat × AV)) (ob ob2 ob3 : List (Nat × Obj)) (hkp : keepF 462000 463000 [462005] ob = ob)
  (hA : (exec Γ M inD ⟨(0, .loc 18 0 0) :: (1, i64 car) :: (5, .loc 462005 0 0) :: gs, ob⟩).map (fun p => (p.1, keep [0, 1, 6] p.2.fr ++ ghs p.2.fr, p.2.ob)) = some (.norm, (0, .loc 18 0 0) :: (1, i64 car) :: (6, .sl D L 0 L) :: gs, ob2))
  (hB : (exec Γ M inT ⟨(0, .loc 18 0 0) :: (1, i64 car) :: (6, .sl D L 0 L) :: gs, keepF 462000 463000 [] ob2⟩).map (fun p => (p.1, p.2.ob)) = some (ax, ob3)) :
  ∃ s3 : St, s3.ob = ob3 ∧ ∀ fr, keep [0, 1, 5] fr ++ ghs fr = (0, .loc 18 0 0) :: (1, i64 car) :: (5, .loc 462005 0 0) :: gs → exec Γ M inW ⟨fr, ob⟩ = some (ax, s3) := by
 simp only [Option.map_eq_some_iff, Prod.mk.injEq] at hA hB
 obtain ⟨⟨bx, s2⟩, a1, a2, a3, a4⟩ := hA
 obtain ⟨⟨cx, s3⟩, b1, b2, b3⟩ := hB
 simp only at a2 a3 a4 b2 b3
 subst a2 b2
 obtain ⟨fr2, ob2'⟩ := s2
 simp only at a3 a4
 subst a4
 refine ⟨s3, b3, fun fr hfr => ?_⟩
 unfold inW
 rw [exec_keepP, hfr, hkp, exec_seq, a1, xSeq_norm, exec_keepP, a3, b1]
theorem big462 {c k : Nat} (hc : c ≤ 900000) (h : k % KT / 1000 = 462) : ¬ Big c k ∧ k ≠ 3 ∧ k ≠ 18 ∧ k ≠ CK := by
 have hkt : KT = 18446744073709551616 := KT_eq
 refine ⟨fun hb => ?_, ?_, ?_, ?_⟩
 ·rcases KN.mod (c := c) (by omega) (.inr (.inr (.inr hb))) with e | e | e
  ·rw [e, hkt] at h; omega
  ·rw [e, hkt] at h; omega
  ·omega
 ·rintro rfl; rw [hkt] at h; omega
 ·rintro rfl; rw [hkt] at h; omega
 ·rintro rfl; rw [hkt, show CK = 900000000000000000 from rfl] at h; omega
theorem in_walk (Γ : Env) (M : Nat) (s : Sp) (car : Int) (c : Nat) (ax : AX) (hax : ax = .norm ∨ ax = .ret) (gs : List (Nat × AV)) (ob ob3 : List (Nat × Obj)) (hF : GN gs) (hK : KN c ob) (hc : c ≤ 900000) (hlt : s.f < s.t)
  (hT : ∃ s3 : St, s3.ob = ob3 ∧ ∀ fr, keep [0, 1, 5] fr ++ ghs fr = (0, .loc 18 0 0) :: (1, i64 car) :: (5, .loc 462005 0 0) :: gs → exec Γ M inW ⟨fr, (462005, ⟨2, [[i64 s.f, i64 s.t]]⟩) :: ob⟩ = some (ax, s3)) :
  runP Γ M rota_Rota_In_f ⟨(0, .loc 18 0 0) :: (1, i64 car) :: (2, .agg s.cells) :: gs, ob⟩ = some ([], keepF 462000 463000 [] ob3) := by
 obtain ⟨s3, e3, hT⟩ := hT
 have g := hF.g
 obtain ⟨h1, h2, h3, h4⟩ := big462 (k := 462005) hc (by rw [KT_eq])
 have x5 := hK.none h2 h3 h4 h1
 have n5 := hK.nm h1
 have d5 := del_absent _ _ x5
 have f5 := hF.nm (k := 462005) (by omega)
 have e2 : ∀ os, keepF 462000 463000 os ob = ob := fun os => hK.keep (by omega) (by omega) (by omega)
 have hge : ¬ s.t ≤ s.f := by omega
 have eT : inW = .keepP [0, 1, 5] 462000 463000 [462005] (.seq (.draw r462_2q [] [] r462_2) (.keepP [0, 1, 6] 462000 463000 [] (.seq (.seq (.reg r462_3) (.keepP [0, 1, 6, 23] 462000 463000 [] (.cond (.t 23) (.keepP [0, 1] 462000 463000 [] (.seq (.reg r462_4) (.keepP [] 462000 463000 [] (.ret)))) (.skip)))) (.keepP [0, 1, 6] 462000 463000 [] (.reg r462_5))))) := rfl
 unfold runP rota_Rota_In_f rota_Rota_In_c
 try simp only [Cx.sr, Cx.pP, Cx.pQ, Cx.p0, Cx.rg, Cx.cd, Nat.reduceMul, Nat.reduceAdd]
 rw [← eT]
 generalize inW = T at *
 clear eT
 simp only [Sp.cells]
 rcases hax with rfl | rfl
 ·simp -implicitDefEqProofs (disch := first | omega | (simp [g] <;> fail) | assumption) [g, x5, n5, d5, f5, e2, hge, hT, e3]
 ·simp -implicitDefEqProofs (disch := first | omega | (simp [g] <;> fail) | assumption) [g, x5, n5, d5, f5, e2, hge, hT, e3]
theorem in_none (Γ : Env) (M : Nat) (s : Sp) (car : Int) (c : Nat) (gs : List (Nat × AV)) (ob : List (Nat × Obj)) (hF : GN gs) (hK : KN c ob) (hc : c ≤ 900000) (hlt : ¬ s.f < s.t) :
  runP Γ M rota_Rota_In_f ⟨(0, .loc 18 0 0) :: (1, i64 car) :: (2, .agg s.cells) :: gs, ob⟩ = some ([], ob) := by
 have g := hF.g
 obtain ⟨h1, h2, h3, h4⟩ := big462 (k := 462005) hc (by rw [KT_eq])
 have x5 := hK.none h2 h3 h4 h1
 have n5 := hK.nm h1
 have d5 := del_absent _ _ x5
 have f5 := hF.nm (k := 462005) (by omega)
 have e2 : ∀ os, keepF 462000 463000 os ob = ob := fun os => hK.keep (by omega) (by omega) (by omega)
 have hge : s.t ≤ s.f := by omega
 simp only [Sp.cells]
 simp -implicitDefEqProofs (disch := first | omega | (simp [g] <;> fail) | assumption) [g, x5, n5, d5, f5, e2, hge]
end Go.Am
namespace Go.Am
theorem map_erase {α β : Type} (f : α → β) : ∀ (l : List α) (i : Nat), (l.map f).eraseIdx i = (l.eraseIdx i).map f
 | [], i => by simp
 | a :: l, 0 => by simp
 | a :: l, i + 1 => by simp [map_erase f l i]
theorem outR_erase {x : Int} : ∀ {qs : List RQ} {i : Nat} {e : RQ}, qs[i]? = some e → (qs.map (·.car)).Nodup → outR (qs.eraseIdx i) x = if x = e.car then [] else outR qs x
 | [], i, e, h, _ => by simp at h
 | y :: qs, 0, e, h, hn => by
  simp only [List.getElem?_cons_zero, Option.some.injEq] at h; subst h
  simp only [List.map_cons, List.nodup_cons] at hn
  simp only [List.eraseIdx_zero, List.tail_cons, outR]
  by_cases hx : x = y.car
  ·rw [if_pos hx, outR_find 0]
   cases hf : findR qs x 0 with
   | none => rfl
   | some p =>
    obtain ⟨j, e⟩ := p
    obtain ⟨_, h2, h3⟩ := findR_spec hf
    exact absurd (List.mem_map.2 ⟨e, List.mem_of_getElem? h2, by rw [h3, hx]⟩) hn.1
  ·rw [if_neg hx, if_neg (Ne.symm hx)]
 | y :: qs, i + 1, e, h, hn => by
  simp only [List.getElem?_cons_succ] at h
  simp only [List.map_cons, List.nodup_cons] at hn
  simp only [List.eraseIdx_cons_succ, outR, outR_erase h hn.2]
  by_cases hx : y.car = x
  ·rw [if_pos hx, if_pos hx, if_neg]
   intro he
   exact hn.1 (List.mem_map.2 ⟨e, List.mem_of_getElem? h, by rw [hx, he]⟩)
  ·rw [if_neg hx, if_neg hx]
theorem sub_erase {α : Type} {l : List α} {i : Nat} {a : α} (h : a ∈ l.eraseIdx i) : a ∈ l := (List.eraseIdx_sublist l i).subset h
theorem nodup_erase {α β : Type} (f : α → β) {l : List α} (i : Nat) (h : (l.map f).Nodup) : ((l.eraseIdx i).map f).Nodup := by
 rw [← map_erase]; exact h.sublist (List.eraseIdx_sublist _ i)
theorem sright_empty {o : List Sp} (h : SRight o) (hn : ∀ n, ¬ HasS o n) : o = [] := by
 cases o with
 | nil => rfl
 | cons s l => exact absurd ⟨s, by simp, by omega, (h.head).1⟩ (hn s.f)
def InC (g : St → Option (List AV × List (Nat × Obj))) : Prop := ∀ (m : Option Nat) (qs : List RQ) (c : Nat) (car : Int) (s : Sp) gs ob, GN gs → RoI m qs c ob → c + 2 ≤ 900000 → s.Ok → Gr qs → (∀ e ∈ qs, e.l.length ≤ 100) →
 ∃ m' qs' c' ob', g ⟨(0, .loc 18 0 0) :: (1, i64 car) :: (2, .agg s.cells) :: gs, ob⟩ = some ([], ob') ∧ RoI m' qs' c' ob' ∧ c' ≤ c + 2 ∧ Gr qs' ∧ get ob' 3 = get ob 3 ∧ (∀ x, x ≠ car → outR qs' x = outR qs x) ∧ SRight (outR qs' car) ∧ ∀ n, HasS (outR qs' car) n ↔ HasS (outR qs car) n ∧ ¬ (s.f ≤ n ∧ n < s.t)
theorem KN.kx {x c : Nat} {ob : List (Nat × Obj)} (h : KN c ob) : KX x c ob := ⟨fun p hp => .inr (h.k p hp), h.n⟩
theorem rota_Rota_In_run (Γ : Env) (M : Nat) (hSb : SubO (Γ.pt 736)) : InC (runP Γ M rota_Rota_In_f) := by
 intro m qs c car s gs ob hF hR hc hs hG hlen
 have hdb : DB = 1000000000000000000 := rfl
 have hck : CK = 900000000000000000 := rfl
 have hmk : MK = 1461501637330902918203684832716283019655932542976 := MK_eq
 have hkt : KT = 18446744073709551616 := KT_eq
 by_cases hlt : s.f < s.t
 ·have hX : KX 462005 c ((462005, ⟨2, [[i64 s.f, i64 s.t]]⟩) :: ob) := KX.of hR.kn (box_names s c)
  have hge : ∀ k, k ≠ 462005 → get ((462005, (⟨2, [[i64 s.f, i64 s.t]]⟩ : Obj)) :: ob) k = get ob k := fun k hk => by simp only [Go.Am.get]; rw [if_neg (Ne.symm hk)]
  have hcn : cntOf ((462005, (⟨2, [[i64 s.f, i64 s.t]]⟩ : Obj)) :: ob) = c := by
   have := hR.cnt
   unfold cntOf at this ⊢
   rw [hge _ (by omega)]; exact this
  have hh : get ((462005, (⟨2, [[i64 s.f, i64 s.t]]⟩ : Obj)) :: ob) 18 = some ⟨1, [[mapV m]]⟩ := by rw [hge _ (by omega)]; exact hR.ro
  obtain ⟨z, hz⟩ := hR.z
  have hzX : MapAt m z (qs.map RQ.row) ((462005, (⟨2, [[i64 s.f, i64 s.t]]⟩ : Obj)) :: ob) := by
   cases m with
   | none => exact hz
   | some K =>
    have := hR.ck K rfl
    show get _ _ = _
    rw [hge _ (by omega)]; exact hz
  have hkpX : keepF 462000 463000 [462005] ((462005, (⟨2, [[i64 s.f, i64 s.t]]⟩ : Obj)) :: ob) = (462005, ⟨2, [[i64 s.f, i64 s.t]]⟩) :: ob := by
   simp only [keepF]
   rw [if_pos (.inr (.inr (by simp))), hR.kn.keep (by omega) (by omega) (by omega)]
  have hbX : get ((462005, (⟨2, [[i64 s.f, i64 s.t]]⟩ : Obj)) :: ob) 462005 = some ⟨2, [[i64 s.f, i64 s.t]]⟩ := rfl
  obtain ⟨ha1, ha2⟩ := outR_good hG car
  have hb1 : SRight [s] := ⟨by simpa using hlt, by simp⟩
  have hal : (outR qs car).length ≤ 100 := by
   rw [outR_find 0]
   cases hf : findR qs car 0 with
   | none => simp
   | some p =>
    obtain ⟨i, e⟩ := p
    obtain ⟨_, h2, h3⟩ := findR_spec hf
    exact hlen e (List.mem_of_getElem? h2)
  obtain ⟨o, q1, q2, q3, q4, q5⟩ := hSb (outR qs car) [s] hal (by simp) ha1 hb1 ha2 (by simpa using hs)
  have q3' : ∀ n, HasS o n ↔ HasS (outR qs car) n ∧ ¬ (s.f ≤ n ∧ n < s.t) := fun n => by rw [q3, hasS_cons, hasS_nil]; simp
  have kg : ∀ (L : List (Nat × Obj)) k, (k < 1000 ∨ k = CK ∨ Big (c + 1) k) → get (keepF 462000 463000 [] L) k = get L k := fun L k hk => KX.keepG (c := c + 1) (by omega) (by omega) (by omega) hk
  generalize hXe : (462005, (⟨2, [[i64 s.f, i64 s.t]]⟩ : Obj)) :: ob = X at *
  cases hf : findR qs car 0 with
  | none =>
   have ho0 : outR qs car = [] := by rw [outR_find 0, hf]
   have hoe : o = [] := sright_empty q1 fun n hn => by
    have := (q3 n).1 hn
    rw [ho0] at this; simp [hasS_nil] at this
   subst hoe
   have e1 := inD_nil Γ M s car m c z qs [] gs X hF hX (by omega) hcn hbX hh hzX (fun k hk => (hR.ck k hk).1) hf (q5 ho0)
   have hK2 : KX 462005 (c + 1) ((CK, (⟨c + 1, []⟩ : Obj)) :: (DB + c, ⟨2, oR []⟩) :: del X CK) := (((hX.le (Nat.le_succ c)).del CK).cons (.inr (.inr (.inr (.inr (.inl (by omega)))))) (oR_names _ _)).cons (.inr (.inr (.inr (.inl rfl)))) (by simp)
   have hN := hK2.fin (lo := 462000) (hi := 463000) (os := []) (by omega) (by omega) (by omega) (by simp)
   have g2 : ∀ k, k ≠ CK → k ≠ DB + c → k ≠ 462005 → (k < 1000 ∨ k = CK ∨ Big (c + 1) k) → get (keepF 462000 463000 [] ((CK, (⟨c + 1, []⟩ : Obj)) :: (DB + c, ⟨2, oR []⟩) :: del X CK)) k = get ob k := fun k h1 h2 h3 h4 => by
    rw [kg _ _ h4]; simp only [Go.Am.get]; rw [if_neg (Ne.symm h1), if_neg (Ne.symm h2), get_del, if_neg h1, hge _ h3]
   have hD : get (keepF 462000 463000 [] ((CK, (⟨c + 1, []⟩ : Obj)) :: (DB + c, ⟨2, oR []⟩) :: del X CK)) (DB + c) = some ⟨2, []⟩ := by
    rw [kg _ _ (.inr (.inr (by unfold Big; omega)))]; simp only [Go.Am.get]; rw [if_neg (by omega), if_pos trivial]; rfl
   have hcc : get (keepF 462000 463000 [] ((CK, (⟨c + 1, []⟩ : Obj)) :: (DB + c, ⟨2, oR []⟩) :: del X CK)) CK = some ⟨c + 1, []⟩ := by
    rw [kg _ _ (.inr (.inl rfl))]; simp only [Go.Am.get]; rw [if_pos trivial]
   generalize hOB : keepF 462000 463000 [] ((CK, (⟨c + 1, []⟩ : Obj)) :: (DB + c, ⟨2, oR []⟩) :: del X CK) = OB at *
   have h18 : get OB 18 = some ⟨1, [[mapV m]]⟩ := by rw [g2 _ (by omega) (by omega) (by omega) (.inl (by omega))]; exact hR.ro
   have hzO : MapAt m z (qs.map RQ.row) OB := by
    cases m with
    | none => exact hz
    | some K =>
     have := hR.ck K rfl
     show get _ _ = _
     rw [g2 _ (by omega) (by omega) (by omega) (.inr (.inr (by unfold Big; omega)))]; exact hz
   have e2 := inT_gone Γ M car m c z (DB + c) qs gs OB hF (fun os => hN.keep (by omega) (by omega) (by omega)) hD h18 hzO hf
   rw [← hOB] at e2
   have e3 := in_walk Γ M s car c .ret (.inr rfl) gs ob _ hF hR.kn (by omega) hlt (by rw [hXe]; exact inW_run Γ M car (DB + c) 0 .ret gs X _ _ hkpX e1 e2)
   rw [hOB, hN.keep (by omega) (by omega) (by omega)] at e3
   refine ⟨m, qs, c + 1, OB, e3, ⟨hN, cntOf_get hcc, by omega, h18, ⟨z, hzO⟩, fun k hk => by have := hR.ck k hk; omega, fun e he => ?_, hR.qy, hR.qk⟩, by omega, hG, ?_, fun _ _ => rfl, ha1, fun n => ?_⟩
   ·obtain ⟨h1, h2, h3⟩ := hR.q e he
    exact ⟨by rw [g2 _ (by omega) (by omega) (by omega) (.inr (.inr (by unfold Big; omega)))]; exact h1, h2, by omega⟩
   ·exact g2 _ (by omega) (by omega) (by omega) (.inl (by omega))
   ·rw [ho0]; simp [hasS_nil]
  | some p =>
   obtain ⟨i, e⟩ := p
   obtain ⟨_, h2, h3⟩ := findR_spec hf
   rw [Nat.sub_zero] at h2
   have hem := List.mem_of_getElem? h2
   have ho0 : outR qs car = e.l := by rw [outR_find 0, hf]
   obtain ⟨hy0, hy1, hy2⟩ := hR.q e hem
   obtain ⟨K, rfl⟩ : ∃ K, m = some K := by
    cases m with
    | none =>
     have : qs = [] := by simpa [MapAt] using hz
     rw [this] at hem; simp at hem
    | some K => exact ⟨K, rfl⟩
   have hKK := hR.ck K rfl
   have hhK : get X 18 = some ⟨1, [[.mp K]]⟩ := hh
   have hmX : get X K = some ⟨z, qs.map RQ.row⟩ := hzX
   rw [ho0] at q4
   have e1 := inD_old Γ M s car K c z qs o gs X hF hX (by omega) hcn hbX hhK hmX hKK.1 i e hf hy1 hy2 (by rw [hge _ (by omega)]; exact hy0) q4
   have hK2 : KX 462005 (c + 1) ((CK, (⟨c + 1, []⟩ : Obj)) :: (DB + c, ⟨2, oR o⟩) :: del (del X e.ky) CK) := ((((hX.le (Nat.le_succ c)).del e.ky).del CK).cons (.inr (.inr (.inr (.inr (.inl (by omega)))))) (oR_names _ _)).cons (.inr (.inr (.inr (.inl rfl)))) (by simp)
   have hN := hK2.fin (lo := 462000) (hi := 463000) (os := []) (by omega) (by omega) (by omega) (by simp)
   have g2 : ∀ k, k ≠ CK → k ≠ DB + c → k ≠ 462005 → k ≠ e.ky → (k < 1000 ∨ k = CK ∨ Big (c + 1) k) → get (keepF 462000 463000 [] ((CK, (⟨c + 1, []⟩ : Obj)) :: (DB + c, ⟨2, oR o⟩) :: del (del X e.ky) CK)) k = get ob k := fun k h1 h2 h3 h5 h4 => by
    rw [kg _ _ h4]; simp only [Go.Am.get]; rw [if_neg (Ne.symm h1), if_neg (Ne.symm h2), get_del, if_neg h1, get_del, if_neg h5, hge _ h3]
   have hD : get (keepF 462000 463000 [] ((CK, (⟨c + 1, []⟩ : Obj)) :: (DB + c, ⟨2, oR o⟩) :: del (del X e.ky) CK)) (DB + c) = some ⟨2, oR o⟩ := by
    rw [kg _ _ (.inr (.inr (by unfold Big; omega)))]; simp only [Go.Am.get]; rw [if_neg (by omega), if_pos trivial]
   have hcc : get (keepF 462000 463000 [] ((CK, (⟨c + 1, []⟩ : Obj)) :: (DB + c, ⟨2, oR o⟩) :: del (del X e.ky) CK)) CK = some ⟨c + 1, []⟩ := by
    rw [kg _ _ (.inr (.inl rfl))]; simp only [Go.Am.get]; rw [if_pos trivial]
   generalize hOB : keepF 462000 463000 [] ((CK, (⟨c + 1, []⟩ : Obj)) :: (DB + c, ⟨2, oR o⟩) :: del (del X e.ky) CK) = OB at *
   have h18 : get OB 18 = some ⟨1, [[.mp K]]⟩ := by rw [g2 _ (by omega) (by omega) (by omega) (by omega) (.inl (by omega))]; exact hR.ro
   have hzO : get OB K = some ⟨z, qs.map RQ.row⟩ := by rw [g2 _ (by omega) (by omega) (by omega) (by omega) (.inr (.inr (by unfold Big; omega)))]; exact hz
   have hkp : ∀ os, keepF 462000 463000 os OB = OB := fun os => hN.keep (by omega) (by omega) (by omega)
   have hkd : ∀ os, keepF 462000 463000 os (del OB K) = del OB K := fun os => (hN.del K).keep (by omega) (by omega) (by omega)
   have hKm : 463000 ≤ K % KT := by
    obtain ⟨j, rfl⟩ : ∃ j, K = MK + DB + j := ⟨K - (MK + DB), by omega⟩
    rw [(modDB (by omega)).2]; omega
   have hoth : ∀ e' ∈ qs, e'.car ≠ car → get OB e'.ky = some ⟨2, oR e'.l⟩ := fun e' he hne => by
    obtain ⟨a1, a2, a3⟩ := hR.q e' he
    have h6 : e'.ky ≠ e.ky := fun hh => by
     obtain ⟨j, hj⟩ := List.getElem?_of_mem he
     have := nodup_idx (f := RQ.ky) hR.qy hj h2 hh
     subst this
     rw [hj] at h2; simp only [Option.some.injEq] at h2; subst h2; exact hne h3
    rw [g2 _ (by omega) (by omega) (by omega) h6 (.inr (.inr (by unfold Big; omega)))]; exact a1
   have h33 : get OB 3 = get ob 3 := g2 _ (by omega) (by omega) (by omega) (by omega) (.inl (by omega))
   have gK : ∀ (R : Rows) k, k ≠ K → get ((K, (⟨z, R⟩ : Obj)) :: del OB K) k = get OB k := fun R k hk => by simp only [Go.Am.get]; rw [if_neg (Ne.symm hk), get_del, if_neg hk]
   have gKK : ∀ (R : Rows), get ((K, (⟨z, R⟩ : Obj)) :: del OB K) K = some ⟨z, R⟩ := fun R => by simp only [Go.Am.get]; rw [if_pos trivial]
   have hqr : ∀ e ∈ qs, DB ≤ e.ky ∧ e.ky < DB + c := fun e he => (hR.q e he).2
   by_cases ho : o = []
   ·subst ho
    have e2 := inT_del Γ M car K z (DB + c) qs gs OB hF hkp hkd hKm hD h18 hzO i e hf
    rw [map_erase] at e2
    rw [← hOB] at e2
    have e3 := in_walk Γ M s car c .ret (.inr rfl) gs ob _ hF hR.kn (by omega) hlt (by rw [hXe]; exact inW_run Γ M car (DB + c) 0 .ret gs X _ _ hkpX e1 e2)
    rw [hOB] at e3
    have hN2 : KN (c + 1) ((K, (⟨z, (qs.eraseIdx i).map RQ.row⟩ : Obj)) :: del OB K) := (hN.del K).cons (.inr (.inr (.inr (.inr (by omega))))) (row_names fun e he => by have := hqr e (sub_erase he); omega)
    rw [hN2.keep (by omega) (by omega) (by omega)] at e3
    have hou := fun x => outR_erase (x := x) h2 hR.qk
    have hne : ∀ e' ∈ qs.eraseIdx i, e'.car ≠ car := fun e' he' hcc => by
     have h7 := hou car
     rw [h3, if_pos rfl, outR_find 0] at h7
     cases hf2 : findR (qs.eraseIdx i) car 0 with
     | none => exact findR_none hf2 e' he' hcc
     | some p =>
      obtain ⟨j, e2⟩ := p
      rw [hf2] at h7
      obtain ⟨_, h8, h9⟩ := findR_spec hf2
      exact hG.ne e2 (sub_erase (List.mem_of_getElem? h8)) h7
    refine ⟨some K, qs.eraseIdx i, c + 1, _, e3, ⟨hN2, cntOf_get (by rw [gK _ _ (by omega)]; exact hcc), by omega, by rw [gK _ _ (by omega)]; exact h18, ⟨z, gKK _⟩, fun k hk => by simp only [Option.some.injEq] at hk; subst hk; omega, fun e' he' => ?_, nodup_erase _ i hR.qy, nodup_erase _ i hR.qk⟩, by omega, ⟨fun e' he' => hG.ne e' (sub_erase he'), fun e' he' => hG.ro e' (sub_erase he'), fun e' he' => hG.ok e' (sub_erase he')⟩, by rw [gK _ _ (by omega)]; exact h33, fun x hx => by rw [hou, h3, if_neg hx], by rw [hou, h3, if_pos rfl]; exact .nil, fun n => ?_⟩
    ·have h8 := hqr e' (sub_erase he')
     refine ⟨by rw [gK _ _ (by omega)]; exact hoth e' (sub_erase he') (hne e' he'), h8.1, by omega⟩
    ·rw [hou, h3, if_pos rfl, ← q3']
   ·have hL : 0 < o.length := List.length_pos_iff.2 ho
    have e2 := inT_set Γ M car K z (DB + c) o.length qs gs OB hF hL hkp hkd hKm (oR o) (oR_len o) hD h18 hzO i e hf
    rw [rows_old (z := z) hf] at e2
    rw [← hOB] at e2
    have e3 := in_walk Γ M s car c .norm (.inl rfl) gs ob _ hF hR.kn (by omega) hlt (by rw [hXe]; exact inW_run Γ M car (DB + c) o.length .norm gs X _ _ hkpX e1 e2)
    rw [hOB] at e3
    have hqu : ∀ e ∈ updR qs car z (DB + c) o, DB ≤ e.ky ∧ e.ky < DB + (c + 1) := fun e he => by
     rcases mem_upd hR.qk he with ⟨_, a, _⟩ | ⟨a, _⟩
     ·omega
     ·have := hqr e a; omega
    have hN2 : KN (c + 1) ((K, (⟨z, (updR qs car z (DB + c) o).map RQ.row⟩ : Obj)) :: del OB K) := (hN.del K).cons (.inr (.inr (.inr (.inr (by omega))))) (row_names hqu)
    have hfin := set_roI (x := 462005) (lo := 462000) (hi := 463000) (os := []) (hN2.kx) (by omega) (by omega) (by omega) (by omega) (by simp) (by omega) (by rw [gK _ _ (by omega)]; exact h18) (gKK _) hKK (by rw [gK _ _ (by omega)]; exact hD) (by rw [gK _ _ (by omega)]; exact hcc) (fun e' he hne => by have := hqr e' he; rw [gK _ _ (by omega)]; exact hoth e' he hne) hqr hR.qy hR.qk
    have hou := fun x => outR_upd (z := z) (ky := DB + c) (o := o) hR.qk (car := car) x
    refine ⟨_, _, _, _, e3, hfin, by omega, hG.upd hR.qk ho q1 q2, ?_, fun x hx => by rw [hou, if_neg hx], by rw [hou, if_pos rfl]; exact q1, fun n => by rw [hou, if_pos rfl]; exact q3' n⟩
    rw [kg _ _ (.inl (by omega)), gK _ _ (by omega)]; exact h33
 ·refine ⟨m, qs, c, ob, in_none Γ M s car c gs ob hF hR.kn (by omega) hlt, hR, by omega, hG, rfl, fun _ _ => rfl, (outR_good hG car).1, fun n => ⟨fun h => ⟨h, by omega⟩, fun h => h.1⟩⟩
end Go.Am
namespace Go.Am
theorem ro_cases {m : Option Nat} {qs : List RQ} {c : Nat} {ob : List (Nat × Obj)} (h : RoI m qs c ob) (car : Int) :
  (m = none ∧ outR qs car = [] ∧ get ob 18 = some ⟨1, [[.ot .nm]]⟩) ∨
  (∃ K z, m = some K ∧ outR qs car = [] ∧ get ob 18 = some ⟨1, [[.mp K]]⟩ ∧ get ob K = some ⟨z, qs.map RQ.row⟩ ∧ mfind kkR (i64 car) (qs.map RQ.row) 0 = some none) ∨
  (∃ K z i e, m = some K ∧ e ∈ qs ∧ outR qs car = e.l ∧ get ob 18 = some ⟨1, [[.mp K]]⟩ ∧ get ob K = some ⟨z, qs.map RQ.row⟩ ∧ mfind kkR (i64 car) (qs.map RQ.row) 0 = some (some (i, .sl e.ky e.l.length 0 e.l.length)) ∧ get ob e.ky = some ⟨2, oR e.l⟩ ∧ DB ≤ e.ky ∧ e.ky < DB + c) := by
 obtain ⟨z, hz⟩ := h.z
 have hr := h.ro
 have mf := mfind_r car qs 0
 cases m with
 | none =>
  have : qs = [] := by simpa [MapAt] using hz
  subst this
  exact .inl ⟨rfl, rfl, hr⟩
 | some K =>
  cases hf : findR qs car 0 with
  | none =>
   rw [hf] at mf
   exact .inr (.inl ⟨K, z, rfl, by rw [outR_find 0, hf], hr, hz, mf⟩)
  | some p =>
   obtain ⟨i, e⟩ := p
   obtain ⟨_, h2, h3⟩ := findR_spec hf
   rw [hf] at mf
   have hem := List.mem_of_getElem? h2
   exact .inr (.inr ⟨K, z, i, e, rfl, hem, by rw [outR_find 0, hf], hr, hz, mf, (h.q e hem).1, (h.q e hem).2.1, (h.q e hem).2.2⟩)
def ServesC (g : St → Option (List AV × List (Nat × Obj))) : Prop := ∀ (m : Option Nat) (qs : List RQ) (c : Nat) (car t : Int) gs ob, Gh gs → RoI m qs c ob → Gr qs → (∀ e ∈ qs, e.l.length ≤ 20000) →
 g ⟨(0, .loc 18 0 0) :: (1, i64 car) :: (2, i64 t) :: gs, ob⟩ = some ([bo (!decide (HasS (outR qs car) t))], ob)
theorem keep00 (ob : List (Nat × Obj)) : keepF 0 0 [] ob = ob := keepK_id fun p hp => .inr (.inl (Nat.zero_le _))
theorem rota_Rota_Serves_run (Γ : Env) (M : Nat) (hH : HasPC (Γ 267)) : ServesC (runP Γ M rota_Rota_Serves_f) := by
 intro m qs c car t gs ob g hR hG hlen
 have hg := outR_good hG car
 have k0 := keep00 ob
 rcases ro_cases hR car with ⟨rfl, h1, h2⟩ | ⟨K, z, rfl, h1, h2, h3, h4⟩ | ⟨K, z, i, e, rfl, h0, h1, h2, h3, h4, h5, h6, h7⟩
 ·have e1 := hH [] t (by simp) .nil
  rw [h1]
  simp only [spL, List.map_nil] at e1
  generalize decide (HasS [] t) = b at *
  simp -implicitDefEqProofs (disch := first | omega | (simp [g] <;> fail) | assumption) [g, h2, e1, k0]
 ·have e1 := hH [] t (by simp) .nil
  rw [h1]
  simp only [spL, List.map_nil] at e1
  generalize decide (HasS [] t) = b at *
  simp -implicitDefEqProofs (disch := first | omega | (simp [g] <;> fail) | assumption) [g, h2, h3, h4, e1, k0]
 ·have e1 := hH e.l t (hlen e h0) (hG.ro e h0)
  rw [h1]
  have hall := allRows_comp Sp.cells e.l
  have hrl := oR_len e.l
  have hF := List.take_of_length_le (i := e.l.length) (l := e.l.map Sp.cells) (by simp)
  rw [show List.map (toAV ∘ Sp.cells) e.l = oR e.l from rfl] at hall
  simp only [spL] at e1
  generalize decide (HasS e.l t) = b at *
  generalize oR e.l = G at *
  generalize e.l.map Sp.cells = K1 at *
  simp -implicitDefEqProofs (disch := first | omega | (simp [g] <;> fail) | assumption) [g, h2, h3, h4, h5, e1, hall, hrl, hF, k0]
def SpansC (g : St → Option (List AV × List (Nat × Obj))) : Prop := ∀ (m : Option Nat) (qs : List RQ) (c : Nat) (car : Int) gs ob, Gh gs → nmFr 464011 gs = true → RoI m qs c ob → (∀ e ∈ qs, e.l.length ≤ 20000) →
 g ⟨(0, .loc 18 0 0) :: (1, i64 car) :: gs, ob⟩ = some ([spL (outR qs car)], ob)
theorem rota_Rota_Spans_run (Γ : Env) (M : Nat) : SpansC (runP Γ M rota_Rota_Spans_f) := by
 intro m qs c car gs ob g n1 hR hlen
 have k0 : ∀ os, keepF 464000 465000 os ob = ob := fun os => hR.kn.keep (by have := hR.le; omega) (by omega) (by omega)
 have hb : ¬ Big c 464011 := by have := hR.le; unfold Big DB; rw [MK_eq]; omega
 have x1 := hR.kn.none (k := 464011) (by omega) (by omega) (by unfold CK; omega) hb
 have n2 := hR.kn.nm hb
 have d1 := del_absent _ _ x1
 rcases ro_cases hR car with ⟨rfl, h1, h2⟩ | ⟨K, z, rfl, h1, h2, h3, h4⟩ | ⟨K, z, i, e, rfl, h0, h1, h2, h3, h4, h5, h6, h7⟩
 ·rw [h1]
  simp -implicitDefEqProofs (disch := first | omega | (simp [g] <;> fail) | assumption) [g, h2, k0, x1, n1, n2, d1]
 ·rw [h1]
  have hK2 : ¬ K = 464011 := by have := hR.ck K rfl; unfold DB at this; omega
  have hK3 : (K == 464011) = false := beq_false_of_ne hK2
  simp -implicitDefEqProofs (disch := first | omega | (simp [g] <;> fail) | assumption) [g, h2, h3, h4, k0, x1, n1, n2, d1, hK2, hK3]
 ·rw [h1]
  have hall := allRows_comp Sp.cells e.l
  have hrl := oR_len e.l
  have hF := List.take_of_length_le (i := e.l.length) (l := e.l.map Sp.cells) (by simp)
  rw [show List.map (toAV ∘ Sp.cells) e.l = oR e.l from rfl] at hall
  have hl := hlen e h0
  have hy1 : ¬ e.ky = 464011 := by unfold DB at h6; omega
  have hy2 : (e.ky == 464011) = false := beq_false_of_ne hy1
  have hmm : List.map toAV (List.map Sp.cells e.l) = oR e.l := by rw [List.map_map]; rfl
  have hcl : (List.map Sp.cells e.l).length = e.l.length := List.length_map _
  have hK2 : ¬ K = 464011 := by have := hR.ck K rfl; unfold DB at this; omega
  have hK3 : (K == 464011) = false := beq_false_of_ne hK2
  simp only [spL]
  generalize oR e.l = G at *
  generalize e.l.map Sp.cells = K1 at *
  simp -implicitDefEqProofs (disch := first | omega | (simp [g] <;> fail) | assumption) [g, h2, h3, h4, h5, hall, hrl, hF, k0, x1, n1, n2, d1, hy1, hy2, hmm, hcl, hl, hK2, hK3]
end Go.Am
namespace Go.Am
def backS : List Sp → Int → Int
 | [], t => t
 | s :: l, t => if s.f ≤ t ∧ t < s.t then s.t else backS l t
theorem backS_at : ∀ {l : List Sp} {t : Int} {q : Nat} (hq : q < l.length), (∀ j (hj : j < q), ¬ (l[j].f ≤ t ∧ t < l[j].t)) → l[q].f ≤ t ∧ t < l[q].t → backS l t = l[q].t
 | s :: l, t, 0, hq, _, h => by simp only [backS]; exact if_pos h
 | s :: l, t, q + 1, hq, hn, h => by
  have h0 := hn 0 (by omega)
  simp only [backS]
  rw [if_neg (by simpa using h0)]
  exact backS_at (q := q) (by simpa using hq) (fun j hj => by simpa using hn (j + 1) (by omega)) (by simpa using h)
theorem backS_none : ∀ {l : List Sp} {t : Int}, (∀ j (hj : j < l.length), ¬ (l[j].f ≤ t ∧ t < l[j].t)) → backS l t = t
 | [], t, _ => rfl
 | s :: l, t, hn => by
  have h0 := hn 0 (by simp)
  simp only [backS]
  rw [if_neg (by simpa using h0)]
  exact backS_none fun j hj => hn (j + 1) (by simpa using hj)
def BackC (g : St → Option (List AV × List (Nat × Obj))) : Prop := ∀ (m : Option Nat) (qs : List RQ) (c : Nat) (car t : Int) gs ob, Gh gs → nmFr 467008 gs = true → RoI m qs c ob → (∀ e ∈ qs, e.l.length ≤ 1000) →
 g ⟨(0, .loc 18 0 0) :: (1, i64 car) :: (2, i64 t) :: gs, ob⟩ = some ([i64 (backS (outR qs car) t)], ob)
theorem back_loop (Γ : Env) (M : Nat) (hM : 1100 < M) (l : List Sp) (hl : l.length ≤ 1000) (t : Int) (v : AV) (gs : List (Nat × AV)) (ob : List (Nat × Obj)) (g : Gh gs) (n1 : nmFr 467008 gs = true) (k0 : ∀ os, keepF 467000 468000 os ob = ob) (x1 : get ob 467008 = none) (n2 : nmOb 467008 ob = true) (ky : Nat) (hy : ky ≠ 467008) (hv : (l = [] ∧ v = .nil 2) ∨ (v = .sl ky l.length 0 l.length ∧ get ob ky = some ⟨2, oR l⟩)) :
  ∃ ax s', ((ax = .ex 0 ∧ s' = ⟨(2, i64 t) :: gs, ob⟩ ∧ backS l t = t) ∨ (ax = .ret ∧ s' = ⟨(6, i64 (backS l t)) :: gs, ob⟩)) ∧ ∀ s0, nrmP [2, 14, 15, 16] 467000 468000 [] s0 = ⟨(2, i64 t) :: (14, v) :: (15, i64 l.length) :: (16, i64 (0 : Nat)) :: gs, ob⟩ → lp (exec Γ M rota_Rota_Back_l1) M s0 = some (ax, s') := by
 refine lp_allP (fun q : Nat => ⟨(2, i64 t) :: (14, v) :: (15, i64 l.length) :: (16, i64 q) :: gs, ob⟩) (fun q => q ≤ l.length ∧ ∀ j (hj : j < l.length), j < q → ¬ (l[j].f ≤ t ∧ t < l[j].t)) (fun q => l.length - q) _ 0 M ⟨by omega, fun j hj h => absurd h (by omega)⟩ (by omega) ?_
 rintro q ⟨hq, hn⟩
 have d1 := del_absent _ _ x1
 have hy2 : (ky == 467008) = false := beq_false_of_ne hy
 by_cases hlt : q < l.length
 ·rcases hv with ⟨rfl, _⟩ | ⟨rfl, hg⟩
  ·simp at hlt
  ·obtain ⟨s, hs⟩ : ∃ s, l[q]'hlt = s := ⟨_, rfl⟩
   have hrow : (oR l)[q]? = some [i64 s.f, i64 s.t] := by unfold oR; rw [List.getElem?_map, List.getElem?_eq_getElem hlt, hs]; rfl
   have hrow2 := (List.getElem?_eq_some_iff.1 hrow).2
   have hrl := oR_len l
   by_cases c1 : s.f ≤ t
   ·by_cases c2 : t < s.t
    ·have hb := backS_at (t := t) hlt (fun j hj => hn j (by omega) hj) (by rw [hs]; exact ⟨c1, c2⟩)
     rw [hs] at hb
     simp -implicitDefEqProofs (disch := first | omega | (simp [g] <;> fail) | assumption) [g, hlt, hg, hrl, hrow, hrow2, k0, x1, n1, n2, d1, hy, hy2, c1, c2, hb]
    ·have hnext : ∀ j (hj : j < l.length), j < q + 1 → ¬ (l[j].f ≤ t ∧ t < l[j].t) := fun j hj h => by
      rcases Nat.lt_or_ge j q with h2 | h2
      ·exact hn j hj h2
      ·obtain rfl : j = q := by omega
       rw [hs]; omega
     simp -implicitDefEqProofs (disch := first | omega | (simp [g] <;> fail) | assumption) [g, hlt, hg, hrl, hrow, hrow2, k0, x1, n1, n2, d1, hy, hy2, c1, c2]
     exact ⟨q + 1, by omega, ⟨by omega, fun j hj h1 h2 => by have := hnext j hj h1; omega⟩, by omega⟩
   ·have hnext : ∀ j (hj : j < l.length), j < q + 1 → ¬ (l[j].f ≤ t ∧ t < l[j].t) := fun j hj h => by
     rcases Nat.lt_or_ge j q with h2 | h2
     ·exact hn j hj h2
     ·obtain rfl : j = q := by omega
      rw [hs]; omega
    simp -implicitDefEqProofs (disch := first | omega | (simp [g] <;> fail) | assumption) [g, hlt, hg, hrl, hrow, hrow2, k0, x1, n1, n2, d1, hy, hy2, c1]
    exact ⟨q + 1, by omega, ⟨by omega, fun j hj h1 h2 => by have := hnext j hj h1; omega⟩, by omega⟩
 ·have hb := backS_none (l := l) (t := t) fun j hj => hn j hj (by omega)
  have hge : ¬ (q < l.length) := hlt
  simp -implicitDefEqProofs (disch := first | omega | (simp [g] <;> fail) | assumption) [g, hge, k0, hb]
theorem rota_Rota_Back_run (Γ : Env) (M : Nat) (hM : 1100 < M) : BackC (runP Γ M rota_Rota_Back_f) := by
 intro m qs c car t gs ob g n1 hR hlen
 have k0 : ∀ os, keepF 467000 468000 os ob = ob := fun os => hR.kn.keep (by have := hR.le; omega) (by omega) (by omega)
 have hb : ¬ Big c 467008 := by have := hR.le; unfold Big DB; rw [MK_eq]; omega
 have x1 := hR.kn.none (k := 467008) (by omega) (by omega) (by unfold CK; omega) hb
 have n2 := hR.kn.nm hb
 rcases ro_cases hR car with ⟨rfl, h1, h2⟩ | ⟨K, z, rfl, h1, h2, h3, h4⟩ | ⟨K, z, i, e, rfl, h0, h1, h2, h3, h4, h5, h6, h7⟩
 ·rw [h1]
  obtain ⟨ax, s', hR', hin⟩ := back_loop Γ M hM [] (by simp) t (.nil 2) gs ob g n1 k0 x1 n2 0 (by omega) (.inl ⟨rfl, rfl⟩)
  have hin2 : ∀ s0, nrmP [2, 14, 15, 16] 467000 468000 [] s0 = ⟨(2, i64 t) :: (14, .nil 2) :: (15, i64 0) :: (16, i64 0) :: gs, ob⟩ → lp (exec Γ M rota_Rota_Back_l1) M s0 = some (ax, s') := hin
  simp only [backS] at hR' ⊢
  rcases hR' with ⟨rfl, rfl, _⟩ | ⟨rfl, rfl⟩ <;> simp -implicitDefEqProofs (disch := first | omega | (simp [g, k0] <;> fail) | assumption) [g, h2, k0, hin2]
 ·rw [h1]
  obtain ⟨ax, s', hR', hin⟩ := back_loop Γ M hM [] (by simp) t (.nil 2) gs ob g n1 k0 x1 n2 0 (by omega) (.inl ⟨rfl, rfl⟩)
  have hin2 : ∀ s0, nrmP [2, 14, 15, 16] 467000 468000 [] s0 = ⟨(2, i64 t) :: (14, .nil 2) :: (15, i64 0) :: (16, i64 0) :: gs, ob⟩ → lp (exec Γ M rota_Rota_Back_l1) M s0 = some (ax, s') := hin
  simp only [backS] at hR' ⊢
  rcases hR' with ⟨rfl, rfl, _⟩ | ⟨rfl, rfl⟩ <;> simp -implicitDefEqProofs (disch := first | omega | (simp [g, k0] <;> fail) | assumption) [g, h2, h3, h4, k0, hin2]
 ·rw [h1]
  obtain ⟨ax, s', hR', hin⟩ := back_loop Γ M hM e.l (hlen e h0) t (.sl e.ky e.l.length 0 e.l.length) gs ob g n1 k0 x1 n2 e.ky (by unfold DB at h6; omega) (.inr ⟨rfl, h5⟩)
  have hrl := oR_len e.l
  have hin2 : ∀ s0, nrmP [2, 14, 15, 16] 467000 468000 [] s0 = ⟨(2, i64 t) :: (14, .sl e.ky e.l.length 0 e.l.length) :: (15, i64 e.l.length) :: (16, i64 0) :: gs, ob⟩ → lp (exec Γ M rota_Rota_Back_l1) M s0 = some (ax, s') := hin
  rcases hR' with ⟨rfl, rfl, hbt⟩ | ⟨rfl, rfl⟩
  ·rw [hbt]
   simp -implicitDefEqProofs (disch := first | omega | (simp [g, k0] <;> fail) | assumption) [g, h2, h3, h4, h5, hrl, k0, hin2]
  ·simp -implicitDefEqProofs (disch := first | omega | (simp [g, k0] <;> fail) | assumption) [g, h2, h3, h4, h5, hrl, k0, hin2]
end Go.Am
namespace Go.Am
def manyS (qs : List RQ) (t : Int) : Nat → Nat
 | 0 => 0
 | n + 1 => manyS qs t n + if decide (HasS (outR qs n) t) then 0 else 1
theorem manyS_le (qs : List RQ) (t : Int) : ∀ n, manyS qs t n ≤ n
 | 0 => Nat.le_refl _
 | n + 1 => by have := manyS_le qs t n; simp only [manyS]; split <;> omega
def ManyC (g : St → Option (List AV × List (Nat × Obj))) : Prop := ∀ (m : Option Nat) (qs : List RQ) (c : Nat) (cars t : Int) gs ob, Gh gs → RoI m qs c ob → Gr qs → (∀ e ∈ qs, e.l.length ≤ 20000) →
 g ⟨(0, .loc 18 0 0) :: (1, i64 cars) :: (2, i64 t) :: gs, ob⟩ = some ([i64 (manyS qs t (min cars 16).toNat)], ob)
theorem rota_Rota_Many_run (Γ : Env) (M : Nat) (hM : 100 < M) (hS : ServesC (Γ.pt 466)) : ManyC (runP Γ M rota_Rota_Many_f) := by
 intro m qs c cars t gs ob g hR hG hlen
 have k0 := keep00 ob
 have eS := fun (car : Int) gs g => hS m qs c car t gs ob g hR hG hlen
 obtain ⟨N, hN⟩ : ∃ N, (min cars 16).toNat = N := ⟨_, rfl⟩
 have hmm : (if 16 < cars then (16 : Int) else cars) = min cars 16 := by split <;> omega
 obtain ⟨mm, hm⟩ : ∃ mm, min cars 16 = mm := ⟨_, rfl⟩
 rw [hm] at hN hmm
 rw [hm]
 obtain ⟨ax, s', ⟨rfl, rfl⟩, hin⟩ : ∃ ax s', (ax = .ex 0 ∧ s' = ⟨(7, i64 (manyS qs t N)) :: gs, ob⟩) ∧ ∀ s0, nrmP [0, 2, 7, 10, 11] 0 0 [] s0 = ⟨(0, .loc 18 0 0) :: (2, i64 t) :: (7, i64 (0 : Nat)) :: (10, i64 mm) :: (11, i64 (0 : Nat)) :: gs, ob⟩ → lp (exec Γ M rota_Rota_Many_l1) M s0 = some (ax, s') := by
  refine lp_allP (fun q : Nat => ⟨(0, .loc 18 0 0) :: (2, i64 t) :: (7, i64 (manyS qs t q)) :: (10, i64 mm) :: (11, i64 q) :: gs, ob⟩) (fun q => q ≤ N) (fun q => N - q) _ 0 M (by omega) (by omega) ?_
  intro q hq
  have hle := manyS_le qs t q
  by_cases hlt : q < N
  ·have h1 : (q : Int) < mm := by omega
   cases hb : decide (HasS (outR qs q) t) with
   | true =>
    have hnx : manyS qs t (q + 1) = manyS qs t q := by simp [manyS, hb]
    have e1 := fun gs g => eS (q : Int) gs g
    rw [hb] at e1
    simp -implicitDefEqProofs (disch := first | omega | (simp [g] <;> fail) | assumption) [g, h1, k0, e1]
    exact ⟨q + 1, ⟨by rw [hnx], by omega⟩, by omega, by omega⟩
   | false =>
    have hnx : manyS qs t (q + 1) = manyS qs t q + 1 := by simp [manyS, hb]
    have e1 := fun gs g => eS (q : Int) gs g
    rw [hb] at e1
    simp -implicitDefEqProofs (disch := first | omega | (simp [g] <;> fail) | assumption) [g, h1, k0, e1]
    exact ⟨q + 1, ⟨by rw [hnx]; omega, by omega⟩, by omega, by omega⟩
  ·have h1 : ¬ (q : Int) < mm := by omega
   obtain rfl : q = N := by omega
   simp -implicitDefEqProofs (disch := first | omega | (simp [g] <;> fail) | assumption) [g, h1, k0]
 have hin2 : ∀ s0, nrmP [0, 2, 7, 10, 11] 0 0 [] s0 = ⟨(0, .loc 18 0 0) :: (2, i64 t) :: (7, i64 0) :: (10, i64 mm) :: (11, i64 0) :: gs, ob⟩ → lp (exec Γ M rota_Rota_Many_l1) M s0 = some (.ex 0, ⟨(7, i64 (manyS qs t N)) :: gs, ob⟩) := hin
 rw [hN]
 simp -implicitDefEqProofs (disch := first | omega | (simp [g, k0] <;> fail) | assumption) [g, k0, hmm, hin2]
end Go.Am
namespace Go.Am
def AndO (g : St → Option (List AV × List (Nat × Obj))) : Prop := ∀ a b : List Sp, a.length ≤ 1000 → b.length ≤ 1000 → SRight a → SRight b → (∀ s ∈ a, s.Ok) → (∀ s ∈ b, s.Ok) →
 (makeS a b 1).length ≤ a.length + b.length ∧ (∀ s ∈ makeS a b 1, s.Ok) ∧
 (∀ (k : Nat) gs ob, Gh gs → get ob k = some ⟨2, oR b⟩ → k ≠ 738005 → get ob 738005 = none → nmFr 738005 gs = true → nmOb 738005 ob = true → g ⟨(0, spL a) :: (1, .sl k b.length 0 b.length) :: gs, ob⟩ = some ([spL (makeS a b 1)], ob)) ∧
 (b = [] → ∀ gs ob, Gh gs → get ob 738005 = none → nmFr 738005 gs = true → nmOb 738005 ob = true → g ⟨(0, spL a) :: (1, .nil 2) :: gs, ob⟩ = some ([spL (makeS a b 1)], ob))
theorem flat_oR (l : List Sp) (K : List Nat) : ((oR l).all fun r => r.all fun x => AV.inn K x && AV.flatR x) = true := by
 simp only [List.all_eq_true]
 intro r hr x hx
 obtain ⟨s, hs, rfl⟩ := List.mem_map.1 hr
 simp only [Function.comp, toAV, Sp.cells, List.map_cons, List.map_nil, List.mem_cons, List.mem_nil_iff, or_false] at hx
 rcases hx with rfl | rfl <;> rfl
theorem and_frz {g : St → Option (List AV × List (Nat × Obj))} {s : St} {o : List Sp} (h : borPt 2 [738005] g s = some ([.sl 738005 o.length 0 o.length], (738005, ⟨2, oR o⟩) :: s.ob)) (hx : get s.ob 738005 = none) : frzPt (borPt 2 [738005] g) s = some ([spL o], s.ob) := by
 unfold frzPt
 rw [h]
 have hf := frz_oR (fr := []) (ob := (738005, ⟨2, oR o⟩) :: s.ob) (k := 738005) (l := o) rfl
 simp only [St.frzs, hf]
 show some ([spL o], del ((738005, (⟨2, oR o⟩ : Obj)) :: s.ob) 738005) = _
 simp only [del]
 rw [if_pos trivial, del_absent _ _ hx]
theorem and_own {g : St → Option (List AV × List (Nat × Obj))} (h : AndP_C g) : AndO (frzPt (borPt 2 [738005] g)) := by
 intro a b ha hb ra rb oa ob'
 obtain ⟨o, e, h1, h2, h3, h4⟩ := h a b ha hb ra rb oa ob'
 obtain ⟨m1, m2⟩ := makeS_spec a b 1
 have hq : makeS a b 1 = o := sright_uniq m1 h1 fun n => by rw [m2, kindP1, h4]
 rw [hq]
 have hfo := flat_oR o [738005]
 refine ⟨h3, h2, fun k gs ob hg hk hk2 n1 n2 n3 => ?_, fun hnil gs ob hg n1 n2 n3 => ?_⟩
 ·have g1 : get gs 2 = none := Gh.get hg (by omega)
  have hf := frz_oR (fr := (0, spL a) :: (1, .sl k b.length 0 b.length) :: gs) hk
  have b3 : (k == 738005) = false := beq_false_of_ne hk2
  refine and_frz (s := ⟨(0, spL a) :: (1, .sl k b.length 0 b.length) :: gs, ob⟩) ?_ n1
  refine borPt_eq (s := ⟨(0, spL a) :: (1, .sl k b.length 0 b.length) :: gs, ob⟩) (vs := [spL a, .sl k b.length 0 b.length]) (ds := [spL a, spL b]) (ks := [k]) (by decide) (by simp only [Go.Am.get]; rw [if_neg (by omega), if_neg (by omega)]; exact g1) rfl (by simp only [St.frzs, hf]; rfl) e (by simp only [List.filter, List.contains, List.elem, List.all, hfo]; simp [hfo]) rfl ?_
  simp only [List.all_cons, List.all_nil, n1, n3, nmFr, n2, AV.names, AV.names1, b3]; rfl
 ·subst hnil
  have g1 : get gs 2 = none := Gh.get hg (by omega)
  refine and_frz (s := ⟨(0, spL a) :: (1, .nil 2) :: gs, ob⟩) ?_ n1
  refine borPt_eq (s := ⟨(0, spL a) :: (1, .nil 2) :: gs, ob⟩) (vs := [spL a, .nil 2]) (ds := [spL a, spL []]) (ks := []) (by decide) (by simp only [Go.Am.get]; rw [if_neg (by omega), if_neg (by omega)]; exact g1) rfl rfl e (by simp only [List.filter, List.contains, List.elem, List.all, hfo]; simp [hfo]) rfl ?_
  simp only [List.all_cons, List.all_nil, n1, n3, nmFr, n2, AV.names, AV.names1]; rfl
def noneS (qs : List RQ) (of : Sp) : Nat → List Sp
 | 0 => makeS [of] [] 0
 | n + 1 => makeS (noneS qs of n) (outR qs n) 1
def NoneC (g : St → Option (List AV × List (Nat × Obj))) : Prop := ∀ (m : Option Nat) (qs : List RQ) (c : Nat) (cars : Int) (of : Sp) gs ob, Gh gs → nmFr 469005 gs = true → nmFr 738005 gs = true → of.Ok → RoI m qs c ob → Gr qs → (∀ e ∈ qs, e.l.length ≤ 50) →
 g ⟨(0, .loc 18 0 0) :: (1, i64 cars) :: (2, .agg of.cells) :: gs, ob⟩ = some ([spL (noneS qs of (min cars 16).toNat)], ob)
theorem rota_Rota_None_run (Γ : Env) (M : Nat) (hM : 100 < M) (hMg : MergeC (Γ 270)) (hA : AndO (Γ.pt 738)) : NoneC (runP Γ M rota_Rota_None_f) := by
 intro m qs c cars of gs ob g n1 n2 hof hR hG hlen
 have k0 : ∀ os, keepF 469000 470000 os ob = ob := fun os => hR.kn.keep (by have := hR.le; omega) (by omega) (by omega)
 have hb : ¬ Big c 469005 := by have := hR.le; unfold Big DB; rw [MK_eq]; omega
 have x1 := hR.kn.none (k := 469005) (by omega) (by omega) (by unfold CK; omega) hb
 have n3 := hR.kn.nm hb
 have d1 := del_absent _ _ x1
 have hb2 : ¬ Big c 738005 := by have := hR.le; unfold Big DB; rw [MK_eq]; omega
 have x2 := hR.kn.none (k := 738005) (by omega) (by omega) (by unfold CK; omega) hb2
 have n4 := hR.kn.nm hb2
 obtain ⟨N, hN⟩ : ∃ N, (min cars 16).toNat = N := ⟨_, rfl⟩
 have hN16 : N ≤ 16 := by omega
 have hmm : (if 16 < cars then (16 : Int) else cars) = min cars 16 := by split <;> omega
 obtain ⟨mm, hm⟩ : ∃ mm, min cars 16 = mm := ⟨_, rfl⟩
 rw [hm] at hN hmm
 rw [hm, hN]
 obtain ⟨o0, q0, q1, q2, q3, q4⟩ := hMg [of] (by simp) (by simpa using hof)
 have e0 : o0 = noneS qs of 0 := sright_uniq q1 (makeS_spec _ _ _).1 fun n => by rw [q4]; show _ ↔ HasS (makeS [of] [] 0) n; rw [(makeS_spec _ _ _).2, kindP0]
 subst e0
 have hout : ∀ x, (outR qs x).length ≤ 50 := fun x => by
  rw [outR_find 0]
  cases hf : findR qs x 0 with
  | none => simp
  | some p =>
   obtain ⟨i, e⟩ := p
   obtain ⟨_, h2, h3⟩ := findR_spec hf
   exact hlen e (List.mem_of_getElem? h2)
 have hro : ∀ n, SRight (noneS qs of n) := fun n => by cases n <;> exact (makeS_spec _ _ _).1
 have hrow : ∀ n, n ≤ 16 → (noneS qs of n).length ≤ 1 + 50 * n ∧ ∀ s ∈ noneS qs of n, s.Ok := by
  intro n
  induction n with
  | zero => intro _; exact ⟨by simpa using q3, q2⟩
  | succ n ih =>
   intro h
   obtain ⟨a1, a2⟩ := ih (by omega)
   obtain ⟨b1, b2, _, _⟩ := hA (noneS qs of n) (outR qs n) (by omega) (by have := hout n; omega) (hro n) (outR_good hG n).1 a2 (outR_good hG n).2
   exact ⟨by have := hout n; show (makeS _ _ 1).length ≤ _; omega, b2⟩
 obtain ⟨ax, s', ⟨rfl, rfl⟩, hin⟩ : ∃ ax s', (ax = .ex 0 ∧ s' = ⟨(7, spL (noneS qs of N)) :: gs, ob⟩) ∧ ∀ s0, nrmP [0, 7, 13, 14] 469000 470000 [] s0 = ⟨(0, .loc 18 0 0) :: (7, spL (noneS qs of 0)) :: (13, i64 mm) :: (14, i64 (0 : Nat)) :: gs, ob⟩ → lp (exec Γ M rota_Rota_None_l1) M s0 = some (ax, s') := by
  refine lp_allP (fun q : Nat => ⟨(0, .loc 18 0 0) :: (7, spL (noneS qs of q)) :: (13, i64 mm) :: (14, i64 q) :: gs, ob⟩) (fun q => q ≤ N) (fun q => N - q) _ 0 M (by omega) (by omega) ?_
  intro q hq
  by_cases hlt : q < N
  ·have h1 : (q : Int) < mm := by omega
   obtain ⟨a1, a2⟩ := hrow q (by omega)
   obtain ⟨b1, b2, b3, b4⟩ := hA (noneS qs of q) (outR qs q) (by omega) (by have := hout q; omega) (hro q) (outR_good hG q).1 a2 (outR_good hG q).2
   have hnx : makeS (noneS qs of q) (outR qs q) 1 = noneS qs of (q + 1) := rfl
   rw [hnx] at b3 b4
   simp only [spL] at b3 b4 ⊢
   rcases ro_cases hR q with ⟨rfl, c1, c2⟩ | ⟨K, z, rfl, c1, c2, c3, c4⟩ | ⟨K, z, i, e, rfl, c0, c1, c2, c3, c4, c5, c6, c7⟩
   ·have e1 := fun gs g f => b4 c1 gs ob g x2 f n4
    generalize (noneS qs of q).map Sp.cells = A at *
    simp -implicitDefEqProofs (disch := first | omega | (simp [g, nmFr_ghoR, n2] <;> fail) | assumption) [g, h1, k0, c2, e1]
    exact ⟨q + 1, ⟨rfl, by omega⟩, by omega, by omega⟩
   ·have e1 := fun gs g f => b4 c1 gs ob g x2 f n4
    have hK3 : (K == 738005) = false := beq_false_of_ne (by have := hR.ck K rfl; unfold DB at this; omega)
    generalize (noneS qs of q).map Sp.cells = A at *
    simp -implicitDefEqProofs (disch := first | omega | (simp [g, nmFr_ghoR, n2, hK3] <;> fail) | assumption) [g, h1, k0, c2, c3, c4, e1]
    exact ⟨q + 1, ⟨rfl, by omega⟩, by omega, by omega⟩
   ·rw [c1] at b3
    have hy : ¬ e.ky = 738005 := by unfold DB at c6; omega
    have hy2 : (e.ky == 738005) = false := beq_false_of_ne hy
    have e1 := fun gs g f => b3 e.ky gs ob g c5 hy x2 f n4
    have hK3 : (K == 738005) = false := beq_false_of_ne (by have := hR.ck K rfl; unfold DB at this; omega)
    generalize (noneS qs of q).map Sp.cells = A at *
    simp -implicitDefEqProofs (disch := first | omega | (simp [g, nmFr_ghoR, n2, hK3, hy2] <;> fail) | assumption) [g, h1, k0, c2, c3, c4, e1]
    exact ⟨q + 1, ⟨rfl, by omega⟩, by omega, by omega⟩
  ·have h1 : ¬ (q : Int) < mm := by omega
   obtain rfl : q = N := by omega
   simp -implicitDefEqProofs (disch := first | omega | (simp [g] <;> fail) | assumption) [g, h1, k0]
 have hin2 : ∀ s0, nrmP [0, 7, 13, 14] 469000 470000 [] s0 = ⟨(0, .loc 18 0 0) :: (7, spL (noneS qs of 0)) :: (13, i64 mm) :: (14, i64 0) :: gs, ob⟩ → lp (exec Γ M rota_Rota_None_l1) M s0 = some (.ex 0, ⟨(7, spL (noneS qs of N)) :: gs, ob⟩) := hin
 simp only [spL, List.map_cons, List.map_nil, Sp.cells] at q0 hin2 ⊢
 generalize (noneS qs of 0).map Sp.cells = A at *
 generalize (noneS qs of N).map Sp.cells = B at *
 simp -implicitDefEqProofs (disch := first | omega | (simp [g, k0] <;> fail) | assumption) [g, k0, hmm, hin2, x1, n1, n3, d1, q0]
end Go.Am
