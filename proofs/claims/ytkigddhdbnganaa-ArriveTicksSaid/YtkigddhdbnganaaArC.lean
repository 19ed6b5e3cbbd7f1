/- A generator is made. -/
import Derived.Test.YtkigddhdbnganaaArB
set_option linter.unusedVariables false
set_option linter.unusedSimpArgs false
set_option maxRecDepth 10000
set_option maxHeartbeats 4000000
namespace Go.Am
theorem get_keepM {lo hi k : Nat} {os : List Nat} (hk : k % KT < lo ∨ hi ≤ k % KT ∨ k ∈ os) : ∀ ob : List (Nat × Obj), get (keepF lo hi os ob) k = get ob k
  | [] => rfl
  | (j, o) :: ob => by
    simp only [keepF]
    split
    · simp only [Go.Am.get, get_keepM hk ob]
    · rename_i hj
      have : ¬ j = k := by rintro rfl; exact hj hk
      simp only [Go.Am.get, if_neg this, get_keepM hk ob]
theorem keepF_keepF {lo hi : Nat} {os : List Nat} (ob : List (Nat × Obj)) : keepF lo hi os (keepF lo hi os ob) = keepF lo hi os ob := keepF_id fun p hp => by
  induction ob with
  | nil => simp [keepF] at hp
  | cons q ob ih =>
    obtain ⟨k, o⟩ := q
    simp only [keepF] at hp
    split at hp
    · rename_i hk
      rcases List.mem_cons.1 hp with rfl | hp
      · exact hk
      · exact ih hp
    · exact ih hp
theorem sg_ok {g : Seg} (h : segErr g = 0) : SgOk g := by
  unfold segErr at h
  split at h
  · simp at h
  · rename_i hk
    split at h
    · rename_i hb
      simp only [inB, bnd, Bool.and_eq_true, decide_eq_true_eq] at hb
      simp at hb
      exact ⟨by omega, by omega, by omega, by omega, by omega, by omega⟩
    · simp at h
theorem chkSegs_ok : ∀ {l : List Seg}, chkSegs l = 0 → ∀ g ∈ l, SgOk g
  | [], _, g, hg => by simp at hg
  | a :: l, h, g, hg => by
    unfold chkSegs at h
    split at h
    · rename_i ha
      rcases List.mem_cons.1 hg with rfl | hg
      · exact sg_ok ha
      · exact chkSegs_ok h g hg
    · rename_i ha; exact absurd h ha
theorem sc_ok {s : Scn} (h : chkS s = 0) : ScOk s := by
  unfold chkS at h
  split at h
  · simp at h
  · rename_i hn
    split at h
    · simp at h
    · split at h
      · simp at h
      · rename_i hl
        split at h
        · simp at h
        rename_i hl8
        have hb : numOk s = true := by simpa using hn
        simp only [numOk, inB, bnd, Bool.and_eq_true, decide_eq_true_eq] at hb
        simp at hb
        have hall := chkSegs_ok h
        refine ⟨⟨by omega, hall⟩, by omega, by omega, by omega, by omega, by omega⟩
structure MkB (ob : List (Nat × Obj)) : Prop where
  k : ∀ p ∈ ob, p.1 < 1000
  n : ∀ k, 0 ≤ k → nmOb k ob = true
/-- A generator's state. -/
structure GI (s : Scn) (ws : List Nat) (t a p : Nat) (ob : List (Nat × Obj)) : Prop where
  key : ∀ q ∈ ob, q.1 < 1000 ∨ q.1 = 473022 ∨ q.1 = 473052 ∨ q.1 = 276003 ∨ q.1 = 471006 ∨ 1000000 ≤ q.1 % KT
  nm : ∀ k, 0 ≤ k → k % KT < 1000000 → nmOb k ob = true
  gen : get ob 473022 = some ⟨18, [genRow s ws a (.sl 1000475 s.segs.length 0 s.segs.length) t p]⟩
  src : get ob 1000475 = some ⟨2, srcR s.segs 0⟩
  gr : ∀ j g, s.segs[j]? = some g → GrAt (gk j) (mk j) (segK s g) ob
def MakeC (g : St → Option (List AV × List (Nat × Obj))) : Prop := ∀ (s : Scn) (ws : List Nat) gs ob, s.segs.length ≤ maxLen → MkG gs → MkB ob →
  (chkS s ≠ 0 → g ⟨(0, .agg s.cells) :: (1, .agg (strD ws 0)) :: gs, ob⟩ = some ([.ot .np, i64 (chkS s)], ob)) ∧
  (chkS s = 0 → ∃ ob', g ⟨(0, .agg s.cells) :: (1, .agg (strD ws 0)) :: gs, ob⟩ = some ([.loc 473022 0 0, i64 0], ob') ∧ GI s ws 0 0 0 ob' ∧ ∀ k, k < 1000 → get ob' k = get ob k)
theorem arrive_Make_run (Γ : Env) (M : Nat) (hM : 100 < M) (hC : ChkC (Γ 25)) (hT : TabC (Γ 476)) (hG : GridC (Γ.pt 282)) : MakeC (runP Γ M arrive_Make_f) := by
  intro s ws gs ob hmax hg hb
  have hKT := KT_eq
  have eC := hC s hmax
  have kf : Kf 473000 474000 ob := kf_iff.2 fun p hp => .inl (by rw [hKT]; have := hb.k p hp; omega)
  have n2 := hb.n 473002 (by omega)
  have n3 := hb.n 473003 (by omega)
  have n22 := hb.n 473022 (by omega)
  have d2 := del_kf (k := 473002) kf (by rw [hKT]; omega) (by rw [hKT]; omega)
  have d3 := del_kf (k := 473003) kf (by rw [hKT]; omega) (by rw [hKT]; omega)
  have d22 := del_kf (k := 473022) kf (by rw [hKT]; omega) (by rw [hKT]; omega)
  have g := hg.g
  have gn := hg.n
  constructor
  · intro h
    simp only [strD, Scn.cells] at eC ⊢
    generalize chkS s = e at *
    simp -implicitDefEqProofs (disch := first | omega | (simp [g, gn] <;> fail) | assumption) [g, gn, kf, n2, n3, d2, d3, eC, h]
  · intro h
    have hs := sc_ok h
    have hl8 := hs.segs.l8
    rw [h] at eC
    obtain ⟨ax, s', ⟨ob', rfl, rfl, hI⟩, hin⟩ : ∃ ax s', (∃ ob', ax = .ex 0 ∧ s' = ⟨[(7, .loc 473022 0 0)] ++ gs, keepF 473000 474000 [473022, 473052] ob'⟩ ∧ MkI s ws ob s.segs.length ob') ∧ ∀ s0, nrmP [2, 7, 24, 25, 26] 473000 474000 [473002, 473022, 473052] s0 = ⟨[(2, .loc 473002 0 0), (7, .loc 473022 0 0), (24, segV s.segs), (25, i64 s.segs.length), (26, i64 (0 : Nat))] ++ gs, (473022, ⟨18, [genRow s ws 0 (slA 0) 0 0]⟩) :: (473002, ⟨13, [scRow s]⟩) :: ob⟩ → lp (exec Γ M arrive_Make_l1) M s0 = some (ax, s') := by
      refine lp_allP (fun q : Nat × List (Nat × Obj) => ⟨[(2, .loc 473002 0 0), (7, .loc 473022 0 0), (24, segV s.segs), (25, i64 s.segs.length), (26, i64 q.1)] ++ gs, q.2⟩) (fun q => MkI s ws ob q.1 q.2) (fun q => s.segs.length - q.1) _ (0, (473022, ⟨18, [genRow s ws 0 (slA 0) 0 0]⟩) :: (473002, ⟨13, [scRow s]⟩) :: ob) M ?_ (by simp only; omega) ?_
      · refine ⟨by simp, fun p hp => ?_, fun k a1 a2 a3 => ?_, ?_, ?_, fun h => absurd h (by simp), fun j g hj => absurd hj (by simp), fun _ => ?_, ?_, ?_, fun k hk => ?_⟩
        · simp only [List.mem_cons] at hp
          rcases hp with rfl | rfl | hp
          · exact .inr (.inr (.inl rfl))
          · exact .inr (.inl rfl)
          · exact .inl (hb.k p hp)
        · have := hb.n k a1
          simp [nmOb, nmRows, nmRow, AV.names, AV.names1, slA, this]
        · simp [Go.Am.get]
        · simp [Go.Am.get]
        · have := hb.n 1000475 (by omega)
          simp [nmOb, nmRows, nmRow, AV.names, AV.names1, slA, this]
        · have := lcOb_nm (hb.n 1000475 (by omega))
          simp [lcOb, lcRows, lcRow, AV.isLoc, AV.isLoc1, slA, this]
        · have : get ob 900000000000000000 = none := get_key_none fun p hp => by have := hb.k p hp; omega
          simp [Go.Am.get, this]
        · simp only [Go.Am.get]; rw [if_neg (by omega), if_neg (by omega)]
      · rintro ⟨i, o⟩ hI
        simp only at hI ⊢
        have hle := hI.le
        by_cases hi : i < s.segs.length
        · have : ∃ s' ob', exec Γ M arrive_Make_l1b ⟨[(2, .loc 473002 0 0), (7, .loc 473022 0 0), (24, segV s.segs), (25, i64 s.segs.length), (26, i64 i)] ++ gs, o⟩ = some (.norm, s') ∧ nrmP [2, 7, 24, 25, 26] 473000 474000 [473002, 473022, 473052] s' = ⟨[(2, .loc 473002 0 0), (7, .loc 473022 0 0), (24, segV s.segs), (25, i64 s.segs.length), (26, i64 (i + 1 : Nat))] ++ gs, ob'⟩ ∧ MkI s ws ob (i + 1) ob' := by
            by_cases h0 : i = 0
            · exact make_step0 Γ M s ws ob gs hs hT hG hg i o hI hi h0
            · exact make_step Γ M s ws ob gs hs hT hG hg i o hI hi (by omega)
          obtain ⟨s', ob', e1, e2, e3⟩ := this
          rw [e1]
          exact ⟨(i + 1, ob'), e2, e3, by simp only; omega⟩
        · obtain rfl : i = s.segs.length := by omega
          have kid : keepF 473000 474000 [473002, 473022, 473052] o = o := keepF_id fun p hp => by
            rw [hKT]
            rcases hI.key p hp with h | h | h | h | h | h | ⟨j, hj, h | h⟩
            · exact .inl (by omega)
            · exact .inr (.inr (by rw [h]; simp))
            · exact .inr (.inr (by rw [h]; simp))
            · exact .inr (.inr (by rw [h]; simp))
            · exact .inr (.inl (by omega))
            · exact .inr (.inl (by omega))
            · exact .inr (.inl (by simp only [gk] at h; omega))
            · exact .inr (.inl (by simp only [mk] at h; omega))
          simp -implicitDefEqProofs (disch := first | omega | (simp [g, gn] <;> fail) | assumption) [g, gn, kid]
          exact ⟨o, rfl, hI⟩
    have hin2 := hin ⟨[(2, .loc 473002 0 0), (7, .loc 473022 0 0), (24, segV s.segs), (25, i64 s.segs.length), (26, i64 0)] ++ gs, (473022, ⟨18, [genRow s ws 0 (.nil 2) 0 0]⟩) :: (473002, ⟨13, [scRow s]⟩) :: ob⟩ (by
      simp -implicitDefEqProofs (disch := first | omega | (simp [g, gn] <;> fail) | assumption) [g, gn, kf, slA])
    have e0 : ((0 : Nat) : Int) = 0 := rfl
    simp only [List.cons_append, List.nil_append, genRow, e0] at hin2
    have kk := keepF_keepF (lo := 473000) (hi := 474000) (os := [473022, 473052]) ob'
    have hfin : GI s ws 0 0 0 (keepF 473000 474000 [473022, 473052] ob') ∧ ∀ k, k < 1000 → get (keepF 473000 474000 [473022, 473052] ob') k = get ob k := by
      refine ⟨⟨fun q hq => ?_, fun k h1 h2 => ?_, ?_, ?_, fun j g hj => ?_⟩, fun k hk => ?_⟩
      · rcases hI.key q (mem_keepF hq) with h | h | h | h | h | h | ⟨j, hj, h | h⟩
        · exact .inl h
        · exfalso
          have : ∀ {l : List (Nat × Obj)}, q ∈ keepF 473000 474000 [473022, 473052] l → q.1 % KT < 473000 ∨ 474000 ≤ q.1 % KT ∨ q.1 ∈ [473022, 473052] := by
            intro l
            induction l with
            | nil => intro h; simp [keepF] at h
            | cons r l ih =>
              obtain ⟨k, o⟩ := r
              intro h
              simp only [keepF] at h
              split at h
              · rename_i hk
                rcases List.mem_cons.1 h with rfl | h
                · exact hk
                · exact ih h
              · exact ih h
          have := this hq
          rw [h, hKT] at this
          simp at this
        · exact .inr (.inl h)
        · exact .inr (.inr (.inl h))
        · exact .inr (.inr (.inr (.inr (.inr (by rw [hKT]; omega)))))
        · exact .inr (.inr (.inr (.inr (.inr (by rw [hKT]; omega)))))
        · exact .inr (.inr (.inr (.inr (.inr (by rw [hKT]; simp only [gk] at h; omega)))))
        · exact .inr (.inr (.inr (.inr (.inr (by rw [hKT]; simp only [mk] at h; omega)))))
      · refine nmOb_keep (hI.nm k h1 ?_ fun j hj => ⟨?_, ?_⟩)
        · rintro rfl; rw [hKT] at h2; omega
        · rintro rfl; rw [hKT] at h2; simp only [gk] at h2; omega
        · rintro rfl; rw [hKT] at h2; simp only [mk] at h2; omega
      · have h1 := hs.one
        rw [get_keepM (.inr (.inr (by simp))), hI.gen, slA, if_neg (by omega)]
      · rw [get_keepM (.inr (.inl (by rw [hKT]; omega))), hI.src (by have := hs.one; omega), List.take_length]
      · have hjl : j < s.segs.length := by
          by_cases h : j < s.segs.length
          · exact h
          · rw [List.getElem?_eq_none (by omega)] at hj; simp at hj
        exact grAt_keep (hI.gr j g hjl hj) (by decide)
      · rw [get_keepM (.inl (by rw [hKT]; omega)), hI.ext k hk]
    obtain ⟨hf1, hf2⟩ := hfin
    generalize keepF 473000 474000 [473022, 473052] ob' = ob2 at *
    refine ⟨ob2, ?_, hf1, hf2⟩
    simp only [strD, Scn.cells] at eC ⊢
    simp -implicitDefEqProofs (disch := first | omega | (simp [g, gn] <;> fail) | assumption) [g, gn, kf, n2, n3, n22, d2, d3, d22, eC, hin2, kk]
end Go.Am
