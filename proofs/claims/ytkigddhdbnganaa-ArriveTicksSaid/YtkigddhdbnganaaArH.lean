/- All who come: the program's list. -/
import Derived.Test.YtkigddhdbnganaaArG
import Derived.Test.YtkigddhdbnganaaArF
set_option linter.unusedVariables false
set_option linter.unusedSimpArgs false
set_option maxRecDepth 10000
set_option maxHeartbeats 4000000
namespace Go.Am
structure LsI (s : Scn) (ws : List Nat) (k : Nat) (l : List P4) (a : Nat) (ob : List (Nat × Obj)) : Prop where
  gi : GI s ws k a l.length ob
  nine : get ob 9 = some ⟨4, l.map (toAV ∘ p4D)⟩
  three : get ob 3 = some ⟨2, [[wV ws, i64 0]]⟩
  five : get ob 5 = some ⟨2, [[.nil 1, i64 0]]⟩
  sm : ∀ j, j < 1000 → j ≠ 3 → j ≠ 5 → j ≠ 9 → get ob j = none
theorem mem_get {k : Nat} {o : Obj} : ∀ {l : List (Nat × Obj)}, (k, o) ∈ l → get l k ≠ none
  | (i, v) :: l, h => by
    simp only [Go.Am.get]
    split
    · simp
    · rename_i hi
      rcases List.mem_cons.1 h with h | h
      · simp only [Prod.mk.injEq] at h; exact absurd h.1.symm hi
      · exact mem_get h
theorem gi_big {s : Scn} {ws : List Nat} {t a p : Nat} {ob : List (Nat × Obj)} (hI : GI s ws t a p ob) {q : Nat × Obj} (hq : q ∈ ob) (h : ¬ q.1 < 1000) : 1000 ≤ q.1 % KT := by
  have hK := KT_eq
  rcases hI.key q hq with h | h | h | h | h | h
  · omega
  · rw [h, hK]; omega
  · rw [h, hK]; omega
  · rw [h, hK]; omega
  · rw [h, hK]; omega
  · omega
theorem ls_keep {s : Scn} {ws : List Nat} {k : Nat} {l : List P4} {a : Nat} {ob : List (Nat × Obj)} (hI : LsI s ws k l a ob) {os : List Nat} (h3 : 3 ∈ os) (h5 : 5 ∈ os) (h9 : 9 ∈ os) : keepF 0 1000 os ob = ob := keepF_id fun q hq => by
  by_cases h : q.1 < 1000
  · refine .inr (.inr ?_)
    by_cases e3 : q.1 = 3
    · rw [e3]; exact h3
    · by_cases e5 : q.1 = 5
      · rw [e5]; exact h5
      · by_cases e9 : q.1 = 9
        · rw [e9]; exact h9
        · exact absurd (hI.sm q.1 h e3 e5 e9) (mem_get (o := q.2) hq)
  · exact .inr (.inl (gi_big hI.gi hq h))
theorem gi_own {s : Scn} {ws : List Nat} {t a p j : Nat} {ob : List (Nat × Obj)} {o : Obj} (hI : GI s ws t a p ob) (hj : j < 1000) (hn : ∀ k, nmRows k o.rows = true) : GI s ws t a p ((j, o) :: del ob j) := by
  have hK := KT_eq
  have hg : ∀ k, ¬ k < 1000 → get ((j, o) :: del ob j) k = get ob k := fun k hk => by
    simp only [Go.Am.get]
    rw [if_neg (by omega), get_del, if_neg (by omega)]
  have hm : ∀ k, 1000000 ≤ k % KT → ¬ k < 1000 := fun k hk h => by have := Nat.mod_le k KT; omega
  refine ⟨fun q hq => ?_, fun k h1 h2 => ?_, ?_, ?_, fun i g hi => ?_⟩
  · rcases List.mem_cons.1 hq with rfl | hq
    · exact .inl hj
    · exact hI.key q (mem_delO hq)
  · simp only [nmOb, hn k, nmOb_delO (hI.nm k h1 h2), Bool.and_self]
  · rw [hg _ (by omega)]; exact hI.gen
  · rw [hg _ (by omega)]; exact hI.src
  · have h := hI.gr i g hi
    exact ⟨by rw [hg _ (hm _ h.hg)]; exact h.g, by rw [hg _ (hm _ h.hm)]; exact h.m, h.hg, h.hm⟩
theorem sm_keep {s : Scn} {ws : List Nat} {t a p : Nat} {ob : List (Nat × Obj)} (hI : GI s ws t a p ob) (hs : ∀ j, j < 1000 → j ≠ 3 → j ≠ 5 → j ≠ 9 → get ob j = none) {os : List Nat} (h3 : 3 ∈ os) (h5 : 5 ∈ os) (h9 : 9 ∈ os) : keepF 0 1000 os ob = ob := keepF_id fun q hq => by
  by_cases h : q.1 < 1000
  · refine .inr (.inr ?_)
    by_cases e3 : q.1 = 3
    · rw [e3]; exact h3
    · by_cases e5 : q.1 = 5
      · rw [e5]; exact h5
      · by_cases e9 : q.1 = 9
        · rw [e9]; exact h9
        · exact absurd (hs q.1 h e3 e5 e9) (mem_get (o := q.2) hq)
  · exact .inr (.inl (gi_big hI hq h))
theorem nxF_lit (n : Nat) : NxF [(100026, .loc 473022 0 0), (100003, .loc 3 0 0), (100005, .loc 5 0 0), (100007, .loc 473022 0 0), (100009, .sl 9 n 0 n)] := by
  refine ⟨rfl, fun k h1 h2 h3 => ?_⟩
  have e1 : ¬ 473022 = k := Ne.symm h3
  have e2 : ¬ 3 = k := by omega
  have e3 : ¬ 5 = k := by omega
  have e4 : ¬ 9 = k := by omega
  simp [nmFr, AV.names, AV.names1, e1, e2, e3, e4]
def LstC (g : List AV → Option (List AV)) : Prop := ∀ (s : Scn) (ws : List Nat), s.segs.length ≤ maxLen → (∀ w ∈ ws, w < 4294967296) → ws.length ≤ 10000 →
  (chkS s ≠ 0 → g [.agg s.cells, .agg (strD ws 0)] = some [pV [], .agg (strD ws 0), i64 (chkS s)]) ∧
  (chkS s = 0 → s.horizon ≤ 300 → g [.agg s.cells, .agg (strD ws 0)] = some (match runT s ws s.horizon.toNat with | some (l, a) => [pV l, .agg (strD ws a), i64 0] | none => [pV [], .agg (strD ws 0), i64 50]))
theorem arrive_List_loop (Γ : Env) (M : Nat) (hM : 1000 < M) (hOv : OverP (Γ.pt 472)) (hN : NxC (Γ.pt 471)) (s : Scn) (ws : List Nat) (hs : ScOk s) (hh : s.horizon ≤ 300) (hws : ∀ w ∈ ws, w < 4294967296) (hwl : ws.length ≤ 10000) (ob : List (Nat × Obj)) (hI : LsI s ws 0 [] 0 ob) :
    ∃ ax s', lp (exec Γ M arrive_List_l1) M ⟨[(9, .sl 9 0 0 0), (3, .loc 3 0 0), (5, .loc 5 0 0), (7, .loc 473022 0 0), (9, .nil 4)], ob⟩ = some (ax, s') ∧
      ((runT s ws s.horizon.toNat = none ∧ ax = .ret ∧ ∃ ob', s' = ⟨[(4, .nil 4), (5, .loc 5 0 0), (6, i64 50)], ob'⟩ ∧ get ob' 5 = some ⟨2, [[wV ws, i64 0]]⟩) ∨
       (∃ l a k ob', runT s ws s.horizon.toNat = some (l, a) ∧ ax = .ex 0 ∧ s' = ⟨[(5, .loc 5 0 0), (7, .loc 473022 0 0), (9, .sl 9 l.length 0 l.length)], keepF 0 1000 [5, 9, 36] ob'⟩ ∧ LsI s ws k l a ob')) := by
  have h1 := hs.h1
  obtain ⟨H, hH⟩ : ∃ H : Nat, s.horizon = H := ⟨s.horizon.toNat, by omega⟩
  have hHt : s.horizon.toNat = H := by omega
  rw [hHt]
  obtain ⟨ax, s', hR, hin⟩ : ∃ ax s', ((runT s ws H = none ∧ ax = .ret ∧ ∃ ob', s' = ⟨[(4, .nil 4), (5, .loc 5 0 0), (6, i64 50)], ob'⟩ ∧ get ob' 5 = some ⟨2, [[wV ws, i64 0]]⟩) ∨
       (∃ l a k ob', runT s ws H = some (l, a) ∧ ax = .ex 0 ∧ s' = ⟨[(5, .loc 5 0 0), (7, .loc 473022 0 0), (9, .sl 9 l.length 0 l.length)], keepF 0 1000 [5, 9, 36] ob'⟩ ∧ LsI s ws k l a ob')) ∧ ∀ s0, nrmP [3, 5, 7, 9] 0 1000 [3, 5, 9, 36] s0 = ⟨[(3, .loc 3 0 0), (5, .loc 5 0 0), (7, .loc 473022 0 0), (9, .sl 9 ([] : List P4).length 0 ([] : List P4).length)], ob⟩ → lp (exec Γ M arrive_List_l1) M s0 = some (ax, s') := by
    refine lp_allP (fun q : Nat × List P4 × Nat × List (Nat × Obj) => ⟨[(3, .loc 3 0 0), (5, .loc 5 0 0), (7, .loc 473022 0 0), (9, .sl 9 q.2.1.length 0 q.2.1.length)], q.2.2.2⟩) (fun q => q.1 ≤ H ∧ runT s ws q.1 = some (q.2.1, q.2.2.1) ∧ LsI s ws q.1 q.2.1 q.2.2.1 q.2.2.2) (fun q => H - q.1) _ (0, [], 0, ob) M ⟨by simp, rfl, hI⟩ (by simp only; omega) ?_
    rintro ⟨k, l, a, o⟩ ⟨hk, hr, hL⟩
    simp only at hk hr hL ⊢
    obtain ⟨hb1, hb2⟩ := runT_some hws hr
    have hgen := hL.gi.gen
    have e1 := fun gs g => hOv s ws a k l.length _ gs o hs g hgen
    have kid : ∀ os, 3 ∈ os → 5 ∈ os → 9 ∈ os → keepF 0 1000 os o = o := fun os => ls_keep hL
    by_cases hov : s.horizon ≤ k ∨ totT s.segs ≤ k
    · have hb : (decide (s.horizon ≤ (k : Int)) || decide (totT s.segs ≤ (k : Int))) = true := by
        rcases hov with h | h <;> simp [h]
      rw [hb] at e1
      simp -implicitDefEqProofs (disch := first | omega | (simp <;> fail) | assumption) [e1, kid]
      refine ⟨l, a, ?_, k, o, ⟨rfl, rfl⟩, hL⟩
      rcases hov with h | h
      · have : k = H := by omega
        rw [← this, hr]
      · rw [runT_tot hs h H hk, hr]
    · have hb : (decide (s.horizon ≤ (k : Int)) || decide (totT s.segs ≤ (k : Int))) = false := by
        have h1 : ¬ s.horizon ≤ (k : Int) := fun h => hov (.inl h)
        have h2 : ¬ totT s.segs ≤ (k : Int) := fun h => hov (.inr h)
        simp [h1, h2]
      rw [hb] at e1
      have hlt : (k : Int) < s.horizon := by omega
      have hlt2 : (k : Int) < totT s.segs := by omega
      have hgs := nxF_lit l.length
      cases hst : stepT s ws k a l.length with
      | none =>
        obtain ⟨o', e2, hx⟩ := hN.dry s ws k a l.length _ o hs hws (by omega) hb2 (by omega) (by omega) hgs hL.gi hlt hlt2 hst
        have hrn : runT s ws (k + 1) = none := by rw [runT_succ hr, hst]
        have hrH := runT_none hrn H (by omega)
        have t3 : get o' 3 = some ⟨2, [[wV ws, i64 0]]⟩ := by rw [hx 3 (by omega), hL.three]
        have t5 : get o' 5 = some ⟨2, [[.nil 1, i64 0]]⟩ := by rw [hx 5 (by omega), hL.five]
        have u3 : get (keepF 0 1000 [3, 5] (keepF 0 1000 [3, 5, 9, 36] (keepF 0 1000 [3, 5, 9, 36] o'))) 3 = some ⟨2, [[wV ws, i64 0]]⟩ := by
          rw [get_keepM (.inr (.inr (by simp))), get_keepM (.inr (.inr (by simp))), get_keepM (.inr (.inr (by simp))), t3]
        have u5 : get (keepF 0 1000 [3, 5] (keepF 0 1000 [3, 5, 9, 36] (keepF 0 1000 [3, 5, 9, 36] o'))) 5 = some ⟨2, [[.nil 1, i64 0]]⟩ := by
          rw [get_keepM (.inr (.inr (by simp))), get_keepM (.inr (.inr (by simp))), get_keepM (.inr (.inr (by simp))), t5]
        simp -implicitDefEqProofs (disch := first | omega | (simp <;> fail) | assumption) [e1, e2, kid, u3, u5, hrH]
      | some r =>
        obtain ⟨m, b⟩ := r
        obtain ⟨o', e2, hg2, hps, hx⟩ := hN.come s ws k a l.length _ o hs hws (by omega) hb2 (by omega) (by omega) hgs hL.gi hlt hlt2 m b hst
        have hrs : runT s ws (k + 1) = some (l ++ m, b) := by rw [runT_succ hr, hst]
        have hbm := stepT_some hws hb2 hst
        rw [← p4R_map] at hps
        have t3 : get o' 3 = some ⟨2, [[wV ws, i64 0]]⟩ := by rw [hx 3 (by omega), hL.three]
        have t5 : get o' 5 = some ⟨2, [[.nil 1, i64 0]]⟩ := by rw [hx 5 (by omega), hL.five]
        have t9 : get o' 9 = some ⟨4, l.map (toAV ∘ p4D)⟩ := by rw [hx 9 (by omega), hL.nine]
        have tsm : ∀ j, j < 1000 → j ≠ 3 → j ≠ 5 → j ≠ 9 → get o' j = none := fun j h1 h2 h3 h4 => by rw [hx j h1, hL.sm j h1 h2 h3 h4]
        have kid' : ∀ os, 3 ∈ os → 5 ∈ os → 9 ∈ os → keepF 0 1000 os o' = o' := fun os => sm_keep hg2 tsm
        have lc9 : lcOb 9 o' = true := lcOb_nm (hg2.nm 9 (by omega) (by decide))
        have y1 := fun k => nm_p4R k l
        have y2 := fun k => lc_p4R k l
        have hfin : LsI s ws (k + 1) (l ++ m) b ((9, ⟨4, l.map (toAV ∘ p4D) ++ m.map (toAV ∘ p4D)⟩) :: del o' 9) := by
          refine ⟨?_, ?_, ?_, ?_, fun j h1 h2 h3 h4 => ?_⟩
          · rw [List.length_append]
            refine gi_own hg2 (by omega) fun k => ?_
            rw [← List.map_append, p4R_map]; exact nm_p4R k _
          · simp only [Go.Am.get]; rw [if_pos trivial, List.map_append]
          · simp only [Go.Am.get]; rw [if_neg (by omega), get_del, if_neg (by omega), t3]
          · simp only [Go.Am.get]; rw [if_neg (by omega), get_del, if_neg (by omega), t5]
          · simp only [Go.Am.get]; rw [if_neg (by omega), get_del, if_neg (by omega), tsm j h1 h2 h3 h4]
        have kidf : ∀ os, 3 ∈ os → 5 ∈ os → 9 ∈ os → keepF 0 1000 os (del o' 9) = del o' 9 := fun os a1 a2 a3 => keepF_id fun q hq => by
          have hq := mem_delO hq
          by_cases h : q.1 < 1000
          · refine .inr (.inr ?_)
            by_cases e3 : q.1 = 3
            · rw [e3]; exact a1
            · by_cases e5 : q.1 = 5
              · rw [e5]; exact a2
              · by_cases e9 : q.1 = 9
                · rw [e9]; exact a3
                · exact absurd (tsm q.1 h e3 e5 e9) (mem_get (o := q.2) hq)
          · exact .inr (.inl (gi_big hg2 hq h))
        have hll : (l.map (toAV ∘ p4D)).length = l.length := List.length_map ..
        have hmm : (m.map (toAV ∘ p4D)).length = m.length := List.length_map ..
        have htk : List.take m.length (m.map (toAV ∘ p4D)) = m.map (toAV ∘ p4D) := List.take_of_length_le (by simp)
        simp -implicitDefEqProofs (disch := first | omega | (simp <;> fail) | assumption) [e1, e2, kid, kid', kidf, t9, hps, lc9, htk]
        exact ⟨k + 1, l ++ m, b, _, ⟨by simp, rfl⟩, ⟨by omega, hrs, hfin⟩, by omega⟩
  exact ⟨ax, s', hin _ (by simp [ls_keep hI]), hR⟩
theorem mkB_lit (s : Scn) (ws : List Nat) : MkB [(5, ⟨2, [[.nil 1, .c (.int .i64 0)]]⟩), (3, ⟨2, [[wV ws, i64 0]]⟩), (2, ⟨13, [scRow s]⟩)] := by
  refine ⟨fun p hp => ?_, fun k _ => ?_⟩
  · simp only [List.mem_cons, List.not_mem_nil, or_false] at hp
    rcases hp with rfl | rfl | rfl <;> simp
  · simp [nmOb, nmRows, nmRow, AV.names, AV.names1]
theorem mkG_lit (s : Scn) (ws : List Nat) : MkG [(100014, .agg (strD ws 0)), (100013, .agg s.cells), (100002, .loc 2 0 0), (100003, .loc 3 0 0), (100005, .loc 5 0 0)] := by
  refine ⟨rfl, fun k h1 => ?_⟩
  have e1 : ¬ 2 = k := by omega
  have e2 : ¬ 3 = k := by omega
  have e3 : ¬ 5 = k := by omega
  simp [nmFr, AV.names, AV.names1, e1, e2, e3]
theorem arrive_List_run (Γ : Env) (M : Nat) (hM : 1000 < M) (hMk : MakeC (Γ.pt 473)) (hOv : OverP (Γ.pt 472)) (hN : NxC (Γ.pt 471)) : LstC (run Γ M arrive_List_f) := by
  intro s ws hmax hws hwl
  have hmk := hMk s ws _ _ hmax (mkG_lit s ws) (mkB_lit s ws)
  have e0 : ((0 : Nat) : Int) = 0 := rfl
  constructor
  · intro h
    have e := hmk.1 h
    simp only [strD, Scn.cells, e0] at e ⊢
    generalize chkS s = z at *
    simp -implicitDefEqProofs (disch := first | omega | (simp <;> fail) | assumption) [e, h]
  · intro h hh
    have hs := sc_ok h
    obtain ⟨ob', e, hgi, hx⟩ := hmk.2 h
    have t3 : get ob' 3 = some ⟨2, [[wV ws, i64 0]]⟩ := by rw [hx 3 (by omega)]; rfl
    have t5 : get ob' 5 = some ⟨2, [[.nil 1, i64 0]]⟩ := by rw [hx 5 (by omega)]; rfl
    have hK := KT_eq
    have tsm : ∀ j, j < 1000 → j ≠ 2 → j ≠ 3 → j ≠ 5 → get ob' j = none := fun j h1 h2 h3 h5 => by
      rw [hx j h1]
      simp only [Go.Am.get]
      rw [if_neg (Ne.symm h5), if_neg (Ne.symm h3), if_neg (Ne.symm h2)]
    have hgk : ∀ {k a p : Nat} {o : List (Nat × Obj)} (os : List Nat), GI s ws k a p o → GI s ws k a p (keepF 0 1000 os o) := fun {k a p o} os hI => by
      have hg : ∀ k, 1000 ≤ k % KT → get (keepF 0 1000 os o) k = get o k := fun k hk => get_keepM (.inr (.inl hk)) o
      refine ⟨fun q hq => hI.key q (mem_keepF hq), fun k h1 h2 => nmOb_keep (hI.nm k h1 h2), ?_, ?_, fun j g hj => ?_⟩
      · rw [hg _ (by rw [hK]; omega)]; exact hI.gen
      · rw [hg _ (by rw [hK]; omega)]; exact hI.src
      · exact grAt_keep (hI.gr j g hj) (by omega)
    obtain ⟨ob1, hob1⟩ : ∃ ob1, keepF 0 1000 [3, 5] ob' = ob1 := ⟨_, rfl⟩
    have hgi1 : GI s ws 0 0 0 ob1 := by rw [← hob1]; exact hgk _ hgi
    have u3 : get ob1 3 = some ⟨2, [[wV ws, i64 0]]⟩ := by rw [← hob1, get_keepM (.inr (.inr (by simp))), t3]
    have u5 : get ob1 5 = some ⟨2, [[.nil 1, i64 0]]⟩ := by rw [← hob1, get_keepM (.inr (.inr (by simp))), t5]
    have usm : ∀ j, j < 1000 → j ≠ 3 → j ≠ 5 → get ob1 j = none := fun j h1 h3 h5 => by
      cases hg : get ob1 j with
      | none => rfl
      | some o =>
        exfalso
        rw [← hob1] at hg
        have hm := get_mem hg
        have hm2 : j % KT < 0 ∨ 1000 ≤ j % KT ∨ j ∈ [3, 5] := by
          have : ∀ {l : List (Nat × Obj)} {q : Nat × Obj}, q ∈ keepF 0 1000 [3, 5] l → q.1 % KT < 0 ∨ 1000 ≤ q.1 % KT ∨ q.1 ∈ [3, 5] := by
            intro l q
            induction l with
            | nil => intro h; simp [keepF] at h
            | cons r l ih =>
              obtain ⟨k, o⟩ := r
              intro h
              simp only [keepF] at h
              split at h
              · rename_i hk
                rcases List.mem_cons.1 h with rfl | h
                · exact hk
                · exact ih h
              · exact ih h
          exact this hm
        rw [Nat.mod_eq_of_lt (by rw [hK]; omega)] at hm2
        simp at hm2
        omega
    have k1 : ∀ os, 3 ∈ os → 5 ∈ os → keepF 0 1000 os ob1 = ob1 := fun os a3 a5 => keepF_id fun q hq => by
      by_cases h : q.1 < 1000
      · refine .inr (.inr ?_)
        by_cases e3 : q.1 = 3
        · rw [e3]; exact a3
        · by_cases e5 : q.1 = 5
          · rw [e5]; exact a5
          · exact absurd (usm q.1 h e3 e5) (mem_get (o := q.2) hq)
      · exact .inr (.inl (gi_big hgi1 hq h))
    have d9 : del ob1 9 = ob1 := del_absent _ _ (usm 9 (by omega) (by omega) (by omega))
    have n9 : nmOb 9 ob1 = true := hgi1.nm 9 (by omega) (by decide)
    have hL : LsI s ws 0 [] 0 ((9, ⟨4, []⟩) :: ob1) := by
      have := gi_own (j := 9) (o := ⟨4, []⟩) hgi1 (by omega) (fun k => rfl)
      rw [d9] at this
      refine ⟨this, rfl, ?_, ?_, fun j h1 h3 h5 h9 => ?_⟩
      · simp only [Go.Am.get]; rw [if_neg (by omega), u3]
      · simp only [Go.Am.get]; rw [if_neg (by omega), u5]
      · simp only [Go.Am.get]; rw [if_neg (Ne.symm h9), usm j h1 h3 h5]
    obtain ⟨ax, s', hlp, hR⟩ := arrive_List_loop Γ M hM hOv hN s ws hs hh hws hwl _ hL
    simp only [strD, Scn.cells, e0] at e ⊢
    rcases hR with ⟨hr, rfl, o', rfl, h5⟩ | ⟨l, a, k, o', hr, rfl, rfl, hL2⟩
    · rw [hr]
      simp -implicitDefEqProofs (disch := first | omega | (simp [n9] <;> fail) | assumption) [e, hob1, k1, d9, n9, hlp, h5]
    · rw [hr]
      have hgen := (hgk [5, 9, 36] hL2.gi).gen
      have v5 : get (keepF 0 1000 [5, 9, 36] o') 5 = some ⟨2, [[.nil 1, i64 0]]⟩ := by rw [get_keepM (.inr (.inr (by simp))), hL2.five]
      have v9 : get (keepF 0 1000 [5, 9, 36] o') 9 = some ⟨4, l.map (toAV ∘ p4D)⟩ := by rw [get_keepM (.inr (.inr (by simp))), hL2.nine]
      have kk := keepF_keepF (lo := 0) (hi := 1000) (os := [5, 9, 36]) o'
      have htc : List.take l.length (l.map p4D) = l.map p4D := List.take_of_length_le (by simp)
      have v9' : get (keepF 0 1000 [5, 9, 36] (del (keepF 0 1000 [5, 9, 36] o') 5)) 9 = some ⟨4, l.map (toAV ∘ p4D)⟩ := by
        rw [get_keepM (.inr (.inr (by simp))), get_del, if_neg (by omega), v9]
      generalize keepF 0 1000 [5, 9, 36] o' = ob2 at *
      simp -implicitDefEqProofs (disch := first | omega | (simp [n9] <;> fail) | assumption) [e, hob1, k1, d9, n9, hlp, hgen, v5, v9, v9', kk, htc]
end Go.Am
