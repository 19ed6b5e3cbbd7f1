/- Law 9: spans as a row that is right (Merge), rows that are right; SpanMerges. -/
import Derived.Test.YtiabedphaioidaaSpanX
import Derived.Test.YtiabedphaioidaaClo
import Derived.Test.YtiabedphaioidaaLayCl
set_option linter.unusedVariables false
set_option linter.unusedSimpArgs false
set_option maxRecDepth 10000
set_option maxHeartbeats 2000000
namespace Go.Am
open Go.Proofs Go.Shelf Go.Sort
def spI (s : Sp) : List Int := [s.f, s.t]
def toSp (z : List Int) : Sp := ⟨z.getD 0 0, z.getD 1 0⟩
theorem row_sp {z : List Int} (h : z.length = 2) : rowI z = toAV (toSp z).cells ∧ spI (toSp z) = z := by
  match z, h with
  | [a, b], _ => exact ⟨rfl, rfl⟩
/-- Spans, sorted by their begins. -/
def srtSp (l : List Sp) : List Sp := (resF (ltOf cfSp) (l.map spI)).map toSp
theorem srtSp_len2 (l : List Sp) : ∀ z ∈ resF (ltOf cfSp) (l.map spI), z.length = 2 := fun z hz => by
  have := (resF_perm swo_cfSp (l.map spI)).mem_iff.1 hz
  obtain ⟨s, _, rfl⟩ := List.mem_map.1 this
  rfl
theorem srtSp_rows (l : List Sp) : (resF (ltOf cfSp) (l.map spI)).map rowI = oR (srtSp l) := by
  unfold srtSp oR
  rw [List.map_map]
  exact List.map_congr_left fun z hz => (row_sp (srtSp_len2 l z hz)).1
theorem srtSp_perm (l : List Sp) : (srtSp l).Perm l := by
  have h := (resF_perm swo_cfSp (l.map spI)).map toSp
  rw [List.map_map] at h
  have e : l.map (toSp ∘ spI) = l := by
    conv => rhs; rw [← List.map_id l]
    exact List.map_congr_left fun s _ => rfl
  rw [e] at h
  exact h
theorem srtSp_sorted (l : List Sp) : (srtSp l).Pairwise fun a b => a.f ≤ b.f := by
  unfold srtSp
  rw [List.pairwise_map]
  refine (resF_sorted swo_cfSp (l.map spI)).imp fun {a b} h => ?_
  rw [lt_cfSp] at h
  simp only [decide_eq_false_iff_not] at h
  show a.getD 0 0 ≤ b.getD 0 0
  omega
theorem hasS_perm {a b : List Sp} (h : a.Perm b) (n : Int) : HasS a n ↔ HasS b n := by
  unfold HasS
  exact ⟨fun ⟨s, hs, k⟩ => ⟨s, h.mem_iff.1 hs, k⟩, fun ⟨s, hs, k⟩ => ⟨s, h.mem_iff.2 hs, k⟩⟩
structure MInv (m : List Sp) (k : Nat) (out : List Sp) : Prop where
  ro : SRight out
  ok : ∀ s ∈ out, s.Ok
  lo : ∀ x ∈ out, ∀ y ∈ m.drop k, x.f ≤ y.f
  has : ∀ n, HasS out n ↔ HasS (m.take k) n
  len : out.length ≤ k
theorem MInv.skip {m out : List Sp} {k : Nat} (h : MInv m k out) (hk : k < m.length) (hs : m[k].t ≤ m[k].f) : MInv m (k + 1) out where
  ro := h.ro
  ok := h.ok
  lo := fun x hx y hy => h.lo x hx y (by rw [List.drop_eq_getElem_cons hk]; exact List.mem_cons_of_mem _ hy)
  has := fun n => by
    rw [h.has, List.take_succ_eq_append_getElem hk, hasS_app, hasS_cons, hasS_nil, or_false]
    constructor
    · exact .inl
    · rintro (h1 | h1)
      · exact h1
      · omega
  len := by have := h.len; omega
theorem MInv.app {m out : List Sp} {k : Nat} (h : MInv m k out) (hk : k < m.length) (hsrt : m.Pairwise fun a b => a.f ≤ b.f) (ho : m[k].Ok) (hs : m[k].f < m[k].t) (hf : ∀ x ∈ out, x.t < m[k].f) : MInv m (k + 1) (out ++ [m[k]]) where
  ro := h.ro.snoc hs hf
  ok := fun s hm => by
    simp only [List.mem_append, List.mem_singleton] at hm
    rcases hm with hm | rfl
    · exact h.ok s hm
    · exact ho
  lo := fun x hx y hy => by
    simp only [List.mem_append, List.mem_singleton] at hx
    rcases hx with hx | rfl
    · exact h.lo x hx y (by rw [List.drop_eq_getElem_cons hk]; exact List.mem_cons_of_mem _ hy)
    · have := hsrt
      rw [← List.take_append_drop k m, List.drop_eq_getElem_cons hk] at this
      exact (List.pairwise_cons.1 (List.pairwise_append.1 this).2.1).1 y hy
  has := fun n => by
    rw [hasS_app, h.has, List.take_succ_eq_append_getElem hk, hasS_app]
  len := by have := h.len; simp; omega
theorem MInv.grow {m o : List Sp} {u : Sp} {k : Nat} (h : MInv m k (o ++ [u])) (hk : k < m.length) (ho : m[k].Ok) (hs : m[k].f ≤ u.t) (hs2 : m[k].f < m[k].t) : MInv m (k + 1) (o ++ [⟨u.f, max u.t m[k].t⟩]) where
  ro := by
    obtain ⟨h1, h2, h3⟩ := h.ro.of_app
    have := h2.some u (by simp)
    exact h1.snoc (by simp only; omega) fun x hx => h3 x hx u (by simp)
  ok := fun s hm => by
    simp only [List.mem_append, List.mem_singleton] at hm
    have hu := h.ok u (by simp)
    rcases hm with hm | rfl
    · exact h.ok s (by simp [hm])
    · refine ⟨hu.f, ?_⟩
      obtain ⟨_, h1, h2⟩ := hu
      obtain ⟨_, h3, h4⟩ := ho
      exact ⟨by simp only; omega, by simp only; omega⟩
  lo := fun x hx y hy => by
    have hy' : y ∈ m.drop k := by rw [List.drop_eq_getElem_cons hk]; exact List.mem_cons_of_mem _ hy
    simp only [List.mem_append, List.mem_singleton] at hx
    rcases hx with hx | rfl
    · exact h.lo x (by simp [hx]) y hy'
    · exact h.lo u (by simp) y hy'
  has := fun n => by
    have h1 := h.has n
    rw [List.take_succ_eq_append_getElem hk, hasS_app o, hasS_app (List.take k m), ← h1, hasS_app o, hasS_cons, hasS_nil, hasS_cons, hasS_nil, hasS_cons, hasS_nil]
    have hl := h.lo u (by simp) m[k] (by rw [List.drop_eq_getElem_cons hk]; exact List.mem_cons_self)
    simp only [or_false]
    constructor
    · rintro (h2 | ⟨h2, h3⟩)
      · exact .inl (.inl h2)
      · rcases Int.lt_or_le n u.t with h4 | h4
        · exact .inl (.inr ⟨h2, h4⟩)
        · exact .inr ⟨by omega, by omega⟩
    · rintro ((h2 | h2) | h2)
      · exact .inl h2
      · exact .inr ⟨h2.1, by omega⟩
      · exact .inr ⟨by omega, by omega⟩
  len := by have := h.len; simp at this ⊢; omega
def MergeC (g : List AV → Option (List AV)) : Prop := ∀ l : List Sp, l.length ≤ 1000 → (∀ s ∈ l, s.Ok) → ∃ o : List Sp, g [spL l] = some [spL o] ∧ SRight o ∧ (∀ s ∈ o, s.Ok) ∧ o.length ≤ l.length ∧ ∀ n, HasS o n ↔ HasS l n
/-- What the copy, and the sort, are. -/
structure MgX (Γ : Env) : Prop where
  clone : Γ.pt 368 = cloneDPt 368005 2
  sort : Γ.pt 299 = sortFPt 2 fv_span_Merge_1 cfSp
theorem rowsI_oR (l : List Sp) : rowsI 2 (oR l) = some (l.map spI) := rowsI_map 2 spI (fun _ => rfl) l
theorem span_Merge_run (Γ : Env) (M : Nat) (hM : 1100 < M) (hX : MgX Γ) : MergeC (run Γ M span_Merge_f) := by
  intro l hl hok
  obtain ⟨m, hm⟩ : ∃ m, srtSp l = m := ⟨_, rfl⟩
  have hperm : m.Perm l := hm ▸ srtSp_perm l
  have hsrt : m.Pairwise fun a b => a.f ≤ b.f := hm ▸ srtSp_sorted l
  have hml : m.length = l.length := hperm.length_eq
  have hmo : ∀ s ∈ m, s.Ok := fun s hs => hok s (hperm.mem_iff.1 hs)
  have hrm := oR_len m
  obtain ⟨ax, s', ⟨o, rfl, rfl, ho⟩, hin⟩ : ∃ ax s', (∃ o : List Sp, ax = .ex 0 ∧ s' = ⟨[(4, .sl 4 o.length 0 o.length)], [(4, ⟨2, oR o⟩), (368005, ⟨2, oR m⟩)]⟩ ∧ MInv m m.length o) ∧ ∀ t, nrmP [4, 12, 13, 14] 0 1000 [4, 55] t = ⟨[(4, .sl 4 ([] : List Sp).length 0 ([] : List Sp).length), (12, .sl 368005 m.length 0 m.length), (13, i64 m.length), (14, i64 (0 : Nat))], [(4, ⟨2, oR []⟩), (368005, ⟨2, oR m⟩)]⟩ → lp (exec Γ M span_Merge_l1) M t = some (ax, s') := by
    refine lp_allP (fun q : Nat × List Sp => ⟨[(4, .sl 4 q.2.length 0 q.2.length), (12, .sl 368005 m.length 0 m.length), (13, i64 m.length), (14, i64 q.1)], [(4, ⟨2, oR q.2⟩), (368005, ⟨2, oR m⟩)]⟩) (fun q => q.1 ≤ m.length ∧ MInv m q.1 q.2) (fun q => m.length - q.1) _ (0, []) M ⟨by simp, .nil, by simp, by simp, fun n => by simp [HasS], by simp⟩ (by dsimp only; omega) ?_
    rintro ⟨k, out⟩ ⟨hk, h⟩
    dsimp only at hk h ⊢
    have hrl := oR_len out
    have hlen := h.len
    have hlc : lcRows 4 (oR out) = true := lcRows_comp 4 Sp.cells out
    have hlm : lcRows 4 (oR m) = true := lcRows_comp 4 Sp.cells m
    have hnm : nmRows 6 (oR out) = true := nmRows_comp 6 Sp.cells out
    have hnm2 : nmRows 6 (oR m) = true := nmRows_comp 6 Sp.cells m
    by_cases hlt : k < m.length
    · obtain ⟨s, hs⟩ : ∃ t, m[k]'hlt = t := ⟨_, rfl⟩
      have hso := hmo s (hs ▸ List.getElem_mem hlt)
      have hrow : (oR m)[k]? = some [i64 s.f, i64 s.t] := by unfold oR; rw [List.getElem?_map, List.getElem?_eq_getElem hlt, hs]; rfl
      have hrow2 := (List.getElem?_eq_some_iff.1 hrow).2
      by_cases c1 : s.t ≤ s.f
      · have h1 := h.skip hlt (by rw [hs]; exact c1)
        simp -implicitDefEqProofs (disch := first | omega | (simp <;> fail) | assumption) [hlt, hrm, hrl, hrow, hrow2, hlc, hlm, hnm, hnm2, c1]
        exact ⟨k + 1, out, ⟨⟨rfl, by omega⟩, rfl⟩, ⟨by omega, h1⟩, by omega⟩
      · rcases List.eq_nil_or_concat out with rfl | ⟨o', u, rfl⟩
        · have h1 := h.app hlt hsrt (by rw [hs]; exact hso) (by rw [hs]; omega) (by simp)
          rw [hs] at h1
          have e0 : oR [] = [] := rfl
          simp -implicitDefEqProofs (disch := first | omega | (simp <;> fail) | assumption) [hlt, hrm, hrl, hrow, hrow2, hlc, hlm, hnm, hnm2, c1, e0]
          exact ⟨k + 1, [s], ⟨⟨rfl, by omega⟩, rfl⟩, ⟨by omega, h1⟩, by omega⟩
        · rw [List.concat_eq_append] at *
          have hol : (o' ++ [u]).length = o'.length + 1 := by simp
          have hget : (oR (o' ++ [u]))[o'.length]? = some [i64 u.f, i64 u.t] := by unfold oR; rw [List.getElem?_map, List.getElem?_append_right (by omega), Nat.sub_self]; rfl
          have hget2 := (List.getElem?_eq_some_iff.1 hget).2
          rw [hol] at hrl hlen ⊢
          by_cases c2 : s.f ≤ u.t
          · have h1 := h.grow hlt (by rw [hs]; exact hso) (by rw [hs]; exact c2) (by rw [hs]; omega)
            rw [hs] at h1
            have hset : (oR (o' ++ [u])).set o'.length [i64 u.f, i64 (max u.t s.t)] = oR (o' ++ [⟨u.f, max u.t s.t⟩]) := by
              unfold oR; rw [List.map_append, List.map_append, List.set_append_right _ _ (by simp)]; simp [toAV, Sp.cells]
            have e2 : (if u.t < s.t then s.t else u.t) = max u.t s.t := by split <;> omega
            simp -implicitDefEqProofs (disch := first | omega | (simp <;> fail) | assumption) [hlt, hrm, hrl, hrow, hrow2, hlc, hlm, hnm, hnm2, c1, c2, hget, hget2, e2]
            refine ⟨k + 1, _, ⟨⟨?_, by omega⟩, ?_⟩, ⟨by omega, h1⟩, by omega⟩
            · simp
            · rw [← hset, List.set_eq_take_append_cons_drop, if_pos (by omega)]
          · have hright := h.ro
            have h1 := h.app hlt hsrt (by rw [hs]; exact hso) (by rw [hs]; omega) (fun x hx => by
              rw [hs]
              simp only [List.mem_append, List.mem_singleton] at hx
              obtain ⟨_, h4, h5⟩ := hright.of_app
              rcases hx with hx | rfl
              · have := h5 x hx u (by simp)
                have := h4.some u (by simp); omega
              · omega)
            rw [hs] at h1
            have hap : oR (o' ++ [u]) ++ [[i64 s.f, i64 s.t]] = oR (o' ++ [u] ++ [s]) := by unfold oR; rw [List.map_append (l₁ := o' ++ [u])]; rfl
            simp -implicitDefEqProofs (disch := first | omega | (simp <;> fail) | assumption) [hlt, hrm, hrl, hrow, hrow2, hlc, hlm, hnm, hnm2, c1, c2, hget, hget2]
            refine ⟨k + 1, _, ⟨⟨?_, by omega⟩, hap⟩, ⟨by omega, h1⟩, by omega⟩
            simp
    · obtain rfl : k = m.length := by omega
      simp -implicitDefEqProofs (disch := first | omega | (simp <;> fail) | assumption) [hrl, hrm]
      exact ⟨out, ⟨rfl, rfl⟩, h⟩
  have hlp : ∀ t, nrmP [4, 12, 13, 14] 0 1000 [4, 55] t = ⟨[(4, .sl 4 0 0 0), (12, .sl 368005 m.length 0 m.length), (13, i64 m.length), (14, i64 0)], [(4, ⟨2, []⟩), (368005, ⟨2, oR m⟩)]⟩ → lp (exec Γ M span_Merge_l1) M t = some (.ex 0, ⟨[(4, .sl 4 o.length 0 o.length)], [(4, ⟨2, oR o⟩), (368005, ⟨2, oR m⟩)]⟩) := hin
  have hlen := ho.len
  refine ⟨o, ?_, ho.ro, ho.ok, by omega, fun n => by rw [ho.has, List.take_length]; exact hasS_perm hperm n⟩
  have hall := allRows_comp Sp.cells o
  have hrl := oR_len o
  have hF := List.take_of_length_le (i := o.length) (l := o.map Sp.cells) (by simp)
  rw [show List.map (toAV ∘ Sp.cells) o = oR o from rfl] at hall
  have hcl : ∀ gs, Gh gs → nmFr 368005 gs = true → Γ.pt 368 ⟨(0, spL l) :: gs, []⟩ = some ([.sl 368005 m.length 0 m.length], [(368005, ⟨2, oR l⟩)]) := by
    intro gs hg hn
    rw [hX.clone]
    have hfr : St.free ⟨(0, spL l) :: gs, []⟩ 368005 = true := by rw [free_eq]; simp [hn]
    have e1 : l.map (toAV ∘ Sp.cells) = oR l := rfl
    have g1 : get gs 1 = none := Gh.get hg (by omega)
    have h6 : l.length ≤ 1000000 := by omega
    simp [cloneDPt, g1, hfr, hml, e1, h6, hn]
  have hso : ∀ gs, Gh gs → Γ.pt 299 ⟨(0, .sl 368005 m.length 0 m.length) :: (1, .ot (.fn fv_span_Merge_1)) :: gs, [(368005, ⟨2, oR l⟩)]⟩ = some ([], [(368005, ⟨2, oR m⟩)]) := by
    intro gs hg
    rw [hX.sort]
    have hol := oR_len l
    have hsr := srtSp_rows l
    rw [hm] at hsr
    have g1 : get gs 2 = none := Gh.get hg (by omega)
    simp [sortFPt, g1, hol, hml, rowsI_oR, hsr]
    omega
  simp only [fv_span_Merge_1] at hso
  have hn4 : nmRows 4 (oR m) = true := nmRows_comp 4 Sp.cells m
  generalize hG : oR o = G at *
  generalize hK : o.map Sp.cells = K at *
  simp -implicitDefEqProofs (disch := first | omega | (simp <;> fail) | assumption) [hlp, hall, hrl, hF, hK, hcl, hso, hn4, hrm]
/-! ### Right rows -/
def okAt (l : List Sp) (i : Nat) : Bool := decide ((l.getD i ⟨0, 0⟩).f < (l.getD i ⟨0, 0⟩).t) && (decide (i = 0) || decide ((l.getD (i - 1) ⟨0, 0⟩).t < (l.getD i ⟨0, 0⟩).f))
def rB (l : List Sp) : Bool := (List.range l.length).all (okAt l)
theorem rB_right {l : List Sp} (h : SRight l) : rB l = true := by
  unfold rB
  rw [List.all_eq_true]
  intro i hi
  rw [List.mem_range] at hi
  have e : ∀ j (hj : j < l.length), l.getD j ⟨0, 0⟩ = l[j] := fun j hj => by rw [List.getD_eq_getElem?_getD, List.getElem?_eq_getElem hj]; rfl
  unfold okAt
  rw [e i hi]
  have := h.some l[i] (List.getElem_mem hi)
  rcases Nat.eq_zero_or_pos i with h0 | h0
  · simp [h0]; simpa [h0] using this
  · rw [e (i - 1) (by omega)]
    have := List.pairwise_iff_getElem.1 h.apart (i - 1) i (by omega) hi (by omega)
    simp [*]
def RightC (g : List AV → Option (List AV)) : Prop := ∀ l : List Sp, l.length ≤ 1000 → g [spL l] = some [bo (rB l)]
theorem rB_loop {l : List Sp} {k : Nat} (hk : k < l.length) (hall : ∀ j, j < k → okAt l j = true) : (okAt l k = false → rB l = false) ∧ (okAt l k = true → ∀ j, j < k + 1 → okAt l j = true) := by
  refine ⟨fun h => ?_, fun h j hj => ?_⟩
  · unfold rB
    rw [← Bool.not_eq_true, List.all_eq_true]
    intro h2
    have := h2 k (List.mem_range.2 hk)
    rw [h] at this; simp at this
  · rcases Nat.lt_or_ge j k with h1 | h1
    · exact hall j h1
    · obtain rfl : j = k := by omega
      exact h
theorem span_Right_run (Γ : Env) (M : Nat) (hM : 1100 < M) : RightC (run Γ M span_Right_f) := by
  intro l hl
  obtain ⟨ax, s', hR, hin⟩ : ∃ ax s', ((ax = .ex 0 ∧ s' = ⟨[], []⟩ ∧ rB l = true) ∨ (ax = .ret ∧ s' = ⟨[(2, bo false)], []⟩ ∧ rB l = false)) ∧ ∀ s0, nrm [0, 5, 6, 7] [] s0 = ⟨[(0, spL l), (5, spL l), (6, i64 l.length), (7, i64 (0 : Nat))], []⟩ → lp (exec Γ M span_Right_l1) M s0 = some (ax, s') := by
    refine lp_all (fun q : Nat => ⟨[(0, spL l), (5, spL l), (6, i64 l.length), (7, i64 q)], []⟩) (fun q => q ≤ l.length ∧ ∀ j, j < q → okAt l j = true) (fun q => l.length - q) _ 0 M (by simp) ⟨by omega, fun j hj => by omega⟩ (by omega) ?_
    rintro k ⟨hk, hall⟩
    by_cases hlt : k < l.length
    · obtain ⟨s, hs⟩ : ∃ t, l[k]'hlt = t := ⟨_, rfl⟩
      obtain ⟨h1, h2⟩ := rB_loop hlt hall
      have hgd : l.getD k ⟨0, 0⟩ = s := by rw [List.getD_eq_getElem?_getD, List.getElem?_eq_getElem hlt, hs]; rfl
      have hok : okAt l k = (decide (s.f < s.t) && (decide (k = 0) || decide ((l.getD (k - 1) ⟨0, 0⟩).t < s.f))) := by rw [okAt, hgd]
      by_cases c1 : s.t ≤ s.f
      · have h1 := h1 (by rw [hok, decide_eq_false (by omega)]; rfl)
        simp -implicitDefEqProofs (disch := first | omega | assumption) [hlt, hs, Sp.cells, c1, h1]
      · rcases Nat.eq_zero_or_pos k with rfl | hk0
        · have h2 := h2 (by rw [hok, decide_eq_true (by omega)]; rfl)
          simp -implicitDefEqProofs (disch := first | omega | assumption) [hlt, hs, Sp.cells, c1]
          exact ⟨1, by omega, ⟨by omega, h2⟩, by omega⟩
        · obtain ⟨u, hu⟩ : ∃ t, l[k - 1]'(by omega) = t := ⟨_, rfl⟩
          have hlt1 : k - 1 < l.length := by omega
          have hgu : l.getD (k - 1) ⟨0, 0⟩ = u := by rw [List.getD_eq_getElem?_getD, List.getElem?_eq_getElem hlt1, hu]; rfl
          rw [hgu] at hok
          have hkk : (k : Int) - 1 = ((k - 1 : Nat) : Int) := by omega
          have hk1 : ((k : Int) - 1).toNat = k - 1 := by omega
          have hk0' : ¬ k = 0 := by omega
          by_cases c2 : s.f ≤ u.t
          · have h1 := h1 (by rw [hok, decide_eq_false hk0', decide_eq_false (p := u.t < s.f) (by omega)]; simp)
            simp -implicitDefEqProofs (disch := first | omega | assumption) [hlt, hs, Sp.cells, c1, c2, h1, hk0, hk1, hlt1, hu]
          · have h2 := h2 (by rw [hok, decide_eq_true (p := s.f < s.t) (by omega), decide_eq_true (p := u.t < s.f) (by omega)]; simp)
            simp -implicitDefEqProofs (disch := first | omega | assumption) [hlt, hs, Sp.cells, c1, c2, hk0, hk1, hlt1, hu]
            exact ⟨k + 1, by omega, ⟨by omega, h2⟩, by omega⟩
    · obtain rfl : k = l.length := by omega
      have : rB l = true := by unfold rB; rw [List.all_eq_true]; exact fun i hi => hall i (List.mem_range.1 hi)
      simp -implicitDefEqProofs (disch := first | omega | assumption) [this]
  rcases hR with ⟨rfl, rfl, h⟩ | ⟨rfl, rfl, h⟩
  · simp -implicitDefEqProofs (disch := first | omega | (simp <;> fail) | assumption) [hin, h]
  · simp -implicitDefEqProofs (disch := first | omega | (simp <;> fail) | assumption) [hin, h]
theorem ref09_Right_run (Γ : Env) (M : Nat) (hM : 1100 < M) : RightC (run Γ M ref09_Right_f) := by
  intro l hl
  obtain ⟨ax, s', hR, hin⟩ : ∃ ax s', ((ax = .ex 0 ∧ s' = ⟨[], []⟩ ∧ rB l = true) ∨ (ax = .ret ∧ s' = ⟨[(2, bo false)], []⟩ ∧ rB l = false)) ∧ ∀ s0, nrm [0, 3] [] s0 = ⟨[(0, spL l), (3, i64 (0 : Nat))], []⟩ → lp (exec Γ M ref09_Right_l1) M s0 = some (ax, s') := by
    refine lp_all (fun q : Nat => ⟨[(0, spL l), (3, i64 q)], []⟩) (fun q => q ≤ l.length ∧ ∀ j, j < q → okAt l j = true) (fun q => l.length - q) _ 0 M (by simp) ⟨by omega, fun j hj => by omega⟩ (by omega) ?_
    rintro k ⟨hk, hall⟩
    by_cases hlt : k < l.length
    · obtain ⟨s, hs⟩ : ∃ t, l[k]'hlt = t := ⟨_, rfl⟩
      obtain ⟨h1, h2⟩ := rB_loop hlt hall
      have hgd : l.getD k ⟨0, 0⟩ = s := by rw [List.getD_eq_getElem?_getD, List.getElem?_eq_getElem hlt, hs]; rfl
      have hok : okAt l k = (decide (s.f < s.t) && (decide (k = 0) || decide ((l.getD (k - 1) ⟨0, 0⟩).t < s.f))) := by rw [okAt, hgd]
      by_cases c1 : s.t ≤ s.f
      · have h1 := h1 (by rw [hok, decide_eq_false (by omega)]; rfl)
        simp -implicitDefEqProofs (disch := first | omega | assumption) [hlt, hs, Sp.cells, c1, h1]
      · rcases Nat.eq_zero_or_pos k with rfl | hk0
        · have h2 := h2 (by rw [hok, decide_eq_true (by omega)]; rfl)
          simp -implicitDefEqProofs (disch := first | omega | assumption) [hlt, hs, Sp.cells, c1]
          exact ⟨1, by omega, ⟨by omega, h2⟩, by omega⟩
        · obtain ⟨u, hu⟩ : ∃ t, l[k - 1]'(by omega) = t := ⟨_, rfl⟩
          have hlt1 : k - 1 < l.length := by omega
          have hgu : l.getD (k - 1) ⟨0, 0⟩ = u := by rw [List.getD_eq_getElem?_getD, List.getElem?_eq_getElem hlt1, hu]; rfl
          rw [hgu] at hok
          have hkk : (k : Int) - 1 = ((k - 1 : Nat) : Int) := by omega
          have hk1 : ((k : Int) - 1).toNat = k - 1 := by omega
          have hk0' : ¬ k = 0 := by omega
          by_cases c2 : s.f ≤ u.t
          · have h1 := h1 (by rw [hok, decide_eq_false hk0', decide_eq_false (p := u.t < s.f) (by omega)]; simp)
            simp -implicitDefEqProofs (disch := first | omega | assumption) [hlt, hs, Sp.cells, c1, c2, h1, hk0, hk1, hlt1, hu]
          · have h2 := h2 (by rw [hok, decide_eq_true (p := s.f < s.t) (by omega), decide_eq_true (p := u.t < s.f) (by omega)]; simp)
            simp -implicitDefEqProofs (disch := first | omega | assumption) [hlt, hs, Sp.cells, c1, c2, hk0, hk1, hlt1, hu]
            exact ⟨k + 1, by omega, ⟨by omega, h2⟩, by omega⟩
    · obtain rfl : k = l.length := by omega
      have : rB l = true := by unfold rB; rw [List.all_eq_true]; exact fun i hi => hall i (List.mem_range.1 hi)
      simp -implicitDefEqProofs (disch := first | omega | assumption) [this]
  rcases hR with ⟨rfl, rfl, h⟩ | ⟨rfl, rfl, h⟩
  · simp -implicitDefEqProofs (disch := first | omega | (simp <;> fail) | assumption) [hin, h]
  · simp -implicitDefEqProofs (disch := first | omega | (simp <;> fail) | assumption) [hin, h]
theorem SpanMerges_run (Γ : Env) (M : Nat) (hG : MergeC (Γ 270)) (hE : EqSpC (Γ 264)) (hK : MakeC (Γ 263)) (r1 : RightC (Γ 265)) (r2 : RightC (Γ 266)) (hH : HasPC (Γ 267)) (h9 : HasC (Γ 268)) (ha : Γ 269 [] = some [bo true]) (l : List Sp) (hok : ∀ s ∈ l, s.Ok) (n : Int) : run Γ M law09_SpanMerges_f [spL l, i64 n] = some [bo true] := by
  by_cases c : 60 < l.length
  · have c' : 60 < (l.length : Int) := by omega
    simp -implicitDefEqProofs (disch := first | omega | assumption) [c, c']
  have c' : ¬ 60 < (l.length : Int) := by omega
  obtain ⟨o, e1, ro, oo, lo, so⟩ := hG l (by omega) hok
  have k := hK l [] 0 (by omega) (by simp)
  obtain ⟨rm, sm⟩ := makeS_spec l [] 0
  have q : makeS l [] 0 = o := sright_uniq rm ro fun n => by rw [sm, kindP0, so]
  rw [q] at k
  have k : Γ 263 [spL l, .c (.vs 2 []), i64 0] = some [spL o] := k
  have g1 := hE o (by omega)
  have g2 := r1 o (by omega)
  rw [rB_right ro] at g2
  have g3 := r1 l (by omega)
  have g4 := r2 l (by omega)
  have g5 := hH o n (by omega) ro
  have g6 := h9 l n (by omega)
  generalize rB l = B1 at *
  by_cases p : HasS l n
  · rw [decide_eq_true ((so n).2 p)] at g5
    rw [decide_eq_true p] at g6
    cases B1 <;> simp -implicitDefEqProofs (disch := first | omega | assumption) [c, c', e1, k, g1, g2, g3, g4, g5, g6, ha]
  · rw [decide_eq_false fun h => p ((so n).1 h)] at g5
    rw [decide_eq_false p] at g6
    cases B1 <;> simp -implicitDefEqProofs (disch := first | omega | assumption) [c, c', e1, k, g1, g2, g3, g4, g5, g6, ha]
/-- The sort of spans, and their copy, are from outside. -/
def mgEnv : Env := ⟨fun _ _ => none, fun f s => if f = 299 then sortFPt 2 fv_span_Merge_1 cfSp s else if f = 368 then cloneDPt 368005 2 s else none, fun _ _ => none⟩
theorem mgEnv_pt : mgEnv.pt 299 = sortFPt 2 fv_span_Merge_1 cfSp := by funext s; simp [mgEnv]
theorem mgEnv_pt2 : mgEnv.pt 368 = cloneDPt 368005 2 := by funext s; simp [mgEnv]
theorem clone_span : SpecP Try.prog 31 (cloneDPt 368005 2) :=
  clone_specP Try.cloneSpan Try.t26 (.agg #[.int .i64 0, .int .i64 0]) 2 16 (by kernel_rfl) (by kernel_rfl) (by kernel_rfl) (by kernel_rfl) (by kernel_rfl) (by omega) (by omega) Try.sizeOf26 368005 (by decide)
theorem mgEnv_ok {nm : Nat → Option Nat} {T : Tab} (h : nm 299 = some 32) (h2 : nm 368 = some 31) : XOk Try.prog nm T mgEnv where
  fn := fun f g _ _ F w ds vs rs _ _ h => by simp [mgEnv] at h
  pt := fun f g hg _ => by
    by_cases hf : f = 299
    · subst hf
      rw [h] at hg; simp only [Option.some.injEq] at hg; subst hg
      rw [mgEnv_pt]; exact sort_span
    · by_cases hf2 : f = 368
      · subst hf2
        rw [h2] at hg; simp only [Option.some.injEq] at hg; subst hg
        rw [mgEnv_pt2]; exact clone_span
      · have : mgEnv.pt f = fun _ => none := by funext s; simp [mgEnv, hf, hf2]
        rw [this]; exact SpecP.none
  mono := fun f s rs ob R hR h => by
    by_cases hf : f = 299
    · subst hf
      rw [mgEnv_pt] at h ⊢
      exact sortF_mono _ _ _ s rs ob R hR h
    · by_cases hf2 : f = 368
      · subst hf2
        rw [mgEnv_pt2] at h ⊢
        exact clone_mono _ _ s rs ob R hR h
      · simp [mgEnv, hf, hf2] at h
end Go.Am
