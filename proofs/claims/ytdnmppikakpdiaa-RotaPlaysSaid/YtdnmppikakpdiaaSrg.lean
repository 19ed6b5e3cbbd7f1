import Derived.Test.YtdnmppikakpdiaaAs
import Derived.Shelf.SlSortCmp.NoneTotal
set_option linter.unusedVariables false
set_option linter.unusedSimpArgs false
set_option linter.unnecessarySimpa false
set_option linter.unusedSectionVars false
namespace Go.Am
open Go.Proofs Go.Shelf Go.RowKit Go.Sort
section
variable {α : Type} [BEq α] [LawfulBEq α] [Inhabited α]
def insL (lt : α → α → Bool) (x : α) : List α → List α
  | [] => [x]
  | y :: l => if lt y x then y :: insL lt x l else x :: y :: l
def srtL (lt : α → α → Bool) : List α → List α
  | [] => []
  | x :: l => insL lt x (srtL lt l)
def noTies (lt : α → α → Bool) (l : List α) : Bool := l.all fun x => l.all fun y => lt x y || lt y x || x == y
def resF (lt : α → α → Bool) (l : List α) : List α := if noTies lt l then srtL lt l else (pdq lt l.toArray 0 l.length (Lib.bitLen l.length) true true).toList
theorem insL_perm (lt : α → α → Bool) (x : α) : ∀ l, (insL lt x l).Perm (x :: l)
  | [] => .refl _
  | y :: l => by
    unfold insL
    split
    · exact ((insL_perm lt x l).cons y).trans (.swap x y l)
    · exact .refl _
theorem srtL_perm (lt : α → α → Bool) : ∀ l, (srtL lt l).Perm l
  | [] => .refl _
  | x :: l => (insL_perm lt x _).trans ((srtL_perm lt l).cons x)
theorem swo_asym {lt : α → α → Bool} (h : SWO lt) {x y : α} (h1 : lt x y = true) : lt y x = false := by
  cases h2 : lt y x with
  | false => rfl
  | true => have := h.trans _ _ _ h1 h2; rw [h.irrefl] at this; exact absurd this (by simp)
theorem insL_sorted {lt : α → α → Bool} (h : SWO lt) (x : α) : ∀ {l : List α}, l.Pairwise (fun a b => lt b a = false) → (insL lt x l).Pairwise (fun a b => lt b a = false)
  | [], _ => by simp [insL]
  | y :: l, hl => by
    have h' := List.pairwise_cons.1 hl
    unfold insL
    split
    · rename_i hyx
      refine List.pairwise_cons.2 ⟨fun z hz => ?_, insL_sorted h x h'.2⟩
      have hz' := (insL_perm lt x l).mem_iff.1 hz
      simp only [List.mem_cons] at hz'
      rcases hz' with rfl | hz'
      · exact swo_asym h hyx
      · exact h'.1 z hz'
    · rename_i hyx
      refine List.pairwise_cons.2 ⟨fun z hz => ?_, hl⟩
      simp only [List.mem_cons] at hz
      rcases hz with rfl | hz
      · simpa using hyx
      · exact h.ntrans _ _ _ (h'.1 z hz) (by simpa using hyx)
theorem srtL_sorted {lt : α → α → Bool} (h : SWO lt) : ∀ l, (srtL lt l).Pairwise (fun a b => lt b a = false)
  | [] => .nil
  | x :: l => insL_sorted h x (srtL_sorted h l)
theorem sortedL_unique {lt : α → α → Bool} (h : SWO lt) : ∀ {a b : List α}, a.Pairwise (fun a b => lt b a = false) → b.Pairwise (fun a b => lt b a = false) → a.Perm b → (∀ x ∈ a, ∀ y ∈ a, lt x y = false → lt y x = false → x = y) → a = b
  | [], b, _, _, hp, _ => (List.nil_perm.1 hp).symm
  | x :: a, [], _, _, hp, _ => by have := hp.length_eq; simp at this
  | x :: a, y :: b, ha, hb, hp, ht => by
    have ha' := List.pairwise_cons.1 ha
    have hb' := List.pairwise_cons.1 hb
    have h1 : x ∈ y :: b := hp.mem_iff.1 (by simp)
    have h2 : y ∈ x :: a := hp.mem_iff.2 (by simp)
    have hxy : x = y := by
      have l1 : lt y x = false := by
        rcases List.mem_cons.1 h2 with e | e
        · rw [e]; exact h.irrefl _
        · exact ha'.1 y e
      have l2 : lt x y = false := by
        rcases List.mem_cons.1 h1 with e | e
        · rw [e]; exact h.irrefl _
        · exact hb'.1 x e
      exact ht x (by simp) y h2 l2 l1
    subst hxy
    rw [sortedL_unique h ha'.2 hb'.2 ((List.perm_cons x).1 hp) fun u hu v hv => ht u (by simp [hu]) v (by simp [hv])]
theorem pdqL_perm {lt : α → α → Bool} (h : SWO lt) (l : List α) : (pdq lt l.toArray 0 l.length (Lib.bitLen l.length) true true).toList.Perm l := by
  have := (pdq_sorts lt h l.toArray 0 l.length (Lib.bitLen l.length) true true (Nat.zero_le _) (by simp) (Or.inl rfl)).1
  obtain ⟨h1, _, h3⟩ := this
  simp only [List.size_toArray] at h1
  generalize pdq lt l.toArray 0 l.length (Lib.bitLen l.length) true true = d at h1 h3 ⊢
  have e1 : d.extract 0 l.length = d := by
    rw [← h1]; exact Array.extract_size
  have e2 : l.toArray.extract 0 l.length = l.toArray := by
    have : l.length = l.toArray.size := by simp
    rw [this]; exact Array.extract_size
  rw [e1, e2] at h3
  exact h3
theorem pdqL_sorted {lt : α → α → Bool} (h : SWO lt) (l : List α) : (pdq lt l.toArray 0 l.length (Lib.bitLen l.length) true true).toList.Pairwise (fun a b => lt b a = false) := by
  have h1 := (pdq_sorts lt h l.toArray 0 l.length (Lib.bitLen l.length) true true (Nat.zero_le _) (by simp) (Or.inl rfl))
  have hs : (pdq lt l.toArray 0 l.length (Lib.bitLen l.length) true true).size = l.length := by have := h1.1.1; simpa using this
  generalize pdq lt l.toArray 0 l.length (Lib.bitLen l.length) true true = d at h1 hs
  rw [List.pairwise_iff_getElem]
  intro i j hi hj hij
  have := h1.2 i j (Nat.zero_le _) hij (by simp at hj; omega)
  simp only [Array.length_toList] at hi hj
  rw [getElem!_pos d j hj, getElem!_pos d i hi] at this
  simpa using this
theorem resF_pdq {lt : α → α → Bool} (h : SWO lt) (l : List α) : resF lt l = (pdq lt l.toArray 0 l.length (Lib.bitLen l.length) true true).toList := by
  unfold resF
  split
  · rename_i hn
    refine sortedL_unique h (srtL_sorted h l) (pdqL_sorted h l) ((srtL_perm lt l).trans (pdqL_perm h l).symm) fun x hx y hy h1 h2 => ?_
    unfold noTies at hn
    have := List.all_eq_true.1 (List.all_eq_true.1 hn x ((srtL_perm lt l).mem_iff.1 hx)) y ((srtL_perm lt l).mem_iff.1 hy)
    simpa [h1, h2] using this
  · rfl
theorem resF_perm {lt : α → α → Bool} (h : SWO lt) (l : List α) : (resF lt l).Perm l := by rw [resF_pdq h]; exact pdqL_perm h l
theorem resF_sorted {lt : α → α → Bool} (h : SWO lt) (l : List α) : (resF lt l).Pairwise (fun a b => lt b a = false) := by rw [resF_pdq h]; exact pdqL_sorted h l
end
def encK (k : Nat) (x : List Int) : List Value := (List.range k).map fun i => .int .i64 (x.getD i 0)
def intsR : List AV → Option (List Int)
  | [] => some []
  | .c (.int .i64 z) :: r => (intsR r).map (z :: ·)
  | _ :: _ => none
def rowI (z : List Int) : List AV := z.map fun n => .c (.int .i64 n)
def rowsI (k : Nat) : Rows → Option (List (List Int))
  | [] => some []
  | r :: rs => match intsR r, rowsI k rs with
    | some z, some l => if z.length = k then some (z :: l) else none
    | _, _ => none
theorem intsR_row : ∀ z, intsR (rowI z) = some z
  | [] => rfl
  | n :: z => by
    have := intsR_row z
    simp only [rowI, List.map_cons, intsR] at this ⊢
    rw [this]; rfl
theorem intsR_some : ∀ {r : List AV} {z : List Int}, intsR r = some z → r = rowI z
  | [], z, h => by simp only [intsR, Option.some.injEq] at h; subst h; rfl
  | x :: r, z, h => by
    unfold intsR at h
    split at h
    · simp at *
    · rename_i n r' heq
      simp only [List.cons.injEq] at heq
      obtain ⟨rfl, rfl⟩ := heq
      cases hr : intsR r with
      | none => rw [hr] at h; simp at h
      | some l' =>
        rw [hr] at h
        simp only [Option.map_some, Option.some.injEq] at h
        subst h
        rw [intsR_some hr]; rfl
    · simp at h
theorem rowsI_map {β : Type} (k : Nat) (f : β → List Int) (hf : ∀ b, (f b).length = k) : ∀ l : List β, rowsI k (l.map fun b => rowI (f b)) = some (l.map f)
  | [] => rfl
  | b :: l => by
    simp only [List.map_cons, rowsI, intsR_row, rowsI_map k f hf l, hf, if_true]
theorem rowsI_some {k : Nat} : ∀ {r : Rows} {l : List (List Int)}, rowsI k r = some l → r = l.map rowI ∧ ∀ z ∈ l, z.length = k
  | [], l, h => by simp only [rowsI, Option.some.injEq] at h; subst h; simp
  | x :: r, l, h => by
    unfold rowsI at h
    split at h
    · rename_i z l' h1 h2
      split at h
      · rename_i hz
        simp only [Option.some.injEq] at h; subst h
        obtain ⟨e1, e2⟩ := rowsI_some h2
        rw [intsR_some h1, e1]
        exact ⟨rfl, fun y hy => by
          rcases List.mem_cons.1 hy with rfl | hy
          · exact hz
          · exact e2 y hy⟩
      · simp at h
    · simp at h
abbrev CfO := Nat → AV → List (Nat × Obj) → Option (List Int → List Int → Int)
def sortGPt (k : Nat) (cfo : CfO) (s : St) : Option (List AV × List (Nat × Obj)) :=
  match get s.fr 0, get s.fr 1, get s.fr 2 with
  | some (.sl key ver start len), some x, none => match get s.ob key with
    | some o => if o.sz = k ∧ o.rows.length = ver ∧ start = 0 ∧ len = ver ∧ ver < 4611686018427387904 then (match cfo key x s.ob, rowsI k o.rows with
        | some cf, some l => some ([], (key, ⟨k, (resF (ltOf cf) l).map rowI⟩) :: del s.ob key)
        | _, _ => none)
      else none
    | none => none
  | _, _, _ => none
def CmpOk (P : Program) (k : Nat) (cfo : CfO) : Prop := ∀ (B : Nat) (F : Facts) (ρ : Map) (ob : List (Nat × Obj)) (w : World) (key : Nat) (x : AV) (v : Value) (cf : List Int → List Int → Int) (o : Obj), cfo key x ob = some cf → Mem B F ρ ob w → AR F ρ ob x v → get ob key = some o →
  SWO (ltOf cf) ∧ ∃ (g' : Nat) (cb : Array Value), v = .func (.func g') #[] cb ∧ (∀ args w, (callFunc g' args).run P w = .ok (.enter g' args) w) ∧
    ∀ W : World, (∀ j, j < w.heap.size → (∀ p, ρ key = some p → j ≠ p.g) → W.heap[j]? = w.heap[j]?) → ∀ a b : List Int, Calls P g' (#[.agg (encK k a).toArray, .agg (encK k b).toArray] ++ cb) W fun e w' => e = .returned (.int .i64 (cf a b)) ∧ ∃ q os', w' = grow (W.drewN q) os'
theorem encK_get (k : Nat) (x : List Int) (j : Nat) (hj : j < k) : (encK k x)[j]! = .int .i64 (x.getD j 0) := by
  have : (encK k x)[j]? = some (.int .i64 (x.getD j 0)) := by simp [encK, hj]
  simp [List.getElem!_eq_getElem?_getD, this]
theorem sortG_specP {P : Program} {τ : Ren} (L : SlLaysF0.n6 P τ) (k : Nat) (hk : 0 < k) (aE : ∀ w, (isAgg (τ.t 24)).run P w = .ok true w) (zE : ∀ w, (Go.sizeOf (τ.t 24)).run P w = .ok k w)
    (cfo : CfO) (hcf : CmpOk P k cfo) : SpecP P (τ.f 6) (sortGPt k cfo) := by
  intro γ B F ρ fr ob w us rs ob' hn hal hm hf h
  unfold sortGPt at h
  split at h
  case h_2 => simp at h
  rename_i key ver start len xv h0 h1 h2
  split at h
  case h_2 => simp at h
  rename_i o ho
  simp only at h0 h1 h2 ho
  split at h
  case isFalse => simp at h
  rename_i hc
  obtain ⟨c1, c2, rfl, rfl, c5⟩ := hc
  split at h
  case h_2 => simp at h
  rename_i cf l hcfo hl
  simp only [Option.some.injEq, Prod.mk.injEq] at h
  obtain ⟨rfl, rfl⟩ := h
  obtain ⟨hrows, hlk⟩ := rowsI_some hl
  have hG : (0 : Nat) < GB := by decide
  have hG1 : (1 : Nat) < GB := by decide
  have hv := hf 0 _ h0
  have hv1 := hf 1 _ h1
  rw [if_pos hG] at hv
  rw [if_pos hG1] at hv1
  obtain ⟨hK, hv⟩ := hv
  obtain ⟨_, hv⟩ := hv o ho
  have hv := hv c2 (by omega)
  have hlen : l.length = len := by rw [← c2, hrows, List.length_map]
  obtain ⟨hO, g', cb, hv1, eg, hcmp⟩ := hcf B F ρ ob w key xv _ cf o hcfo hm hv1 ho
  have hu : ∃ u, us = [u, .func (.func g') #[] cb] ∧ us.getD 0 undef = u := by
    match us, hal, hv1 with
    | [], _, hv1 => simp [undef] at hv1
    | [u], _, hv1 => simp [undef] at hv1
    | [u, v], _, hv1 =>
      refine ⟨u, ?_, rfl⟩
      have : v = .func (.func g') #[] cb := hv1
      rw [this]
    | u :: v :: x :: r, hal, _ =>
      obtain ⟨v, hv⟩ := hal 2 (by simp)
      rw [h2] at hv; simp at hv
  obtain ⟨u, rfl, hu⟩ := hu
  rw [hu] at hv
  unfold SlR at hv
  have hperm := resF_perm hO l
  have hsl : (resF (ltOf cf) l).length = len := by rw [hperm.length_eq, hlen]
  cases hρ : ρ key with
  | none =>
    rw [hρ] at hv
    obtain ⟨hz, rfl⟩ := hv
    have hl0 : l = [] := List.eq_nil_of_length_eq_zero (by omega)
    subst hl0
    have hr0 : resF (ltOf cf) ([] : List (List Int)) = [] := List.eq_nil_of_length_eq_zero (by rw [hsl]; exact hz)
    rw [hr0]
    have hg : ∀ k' o', get ((key, (⟨k, ([] : List (List Int)).map rowI⟩ : Obj)) :: del ob key) k' = some o' → ∃ o, get ob k' = some o ∧ (k' < MK → o.rows.length = o'.rows.length) := fun k' o' h => by
      by_cases hk : key = k'
      · subst hk
        simp only [get, if_true, Option.some.injEq] at h; subst h
        exact ⟨o, ho, fun _ => by rw [hrows]⟩
      · simp only [get, if_neg hk] at h
        rw [get_del, if_neg (Ne.symm hk)] at h
        exact ⟨o', h, fun _ => rfl⟩
    have he : ∀ k', get ((key, (⟨k, ([] : List (List Int)).map rowI⟩ : Obj)) :: del ob key) k' = get ob k' := fun k' => by
      by_cases hk : key = k'
      · subst hk
        simp only [get, if_true, ho]
        cases o; simp only at c1 hrows; subst c1; subst hrows; rfl
      · simp only [get, if_neg hk]; rw [get_del, if_neg (Ne.symm hk)]
    refine (AnyF.slices_SortFunc_none L none 0 _ w).mono ?_
    rintro e w' ⟨rfl, rfl⟩
    refine ⟨[], rfl, F, ρ, hm.congr he, fun i v hi hv => ?_, .nil, .refl _ _ _⟩
    have := hf i v hv
    rw [if_neg (by omega)] at this
    exact this.same hg
  | some p =>
    rw [hρ] at hv
    obtain ⟨hcap, a, rfl, ha⟩ := hv
    have ha := ha (.inr rfl)
    subst ha
    obtain ⟨g1, g2, g3, g4, cur, et, hh, g5, g6⟩ := hm.cells hK ho hρ
    have hp1 : p.sz = k := by rw [g3, c1]
    have hblt : p.g < w.heap.size := by
      rcases Nat.lt_or_ge p.g w.heap.size with h | h
      · exact h
      · rw [Array.getElem?_eq_none h] at hh; simp at hh
    have hcur : ∀ (i j : Nat) (z : List Int), l[i]? = some z → j < k → cur[p.o + (i * k + j)]? = some (.int .i64 (z.getD j 0)) := by
      intro i j z hz hj
      have hzl : z.length = k := hlk z (List.mem_of_getElem? hz)
      have hx : (rowI z)[j]? = some (.c (.int .i64 (z.getD j 0))) := by
        rw [rowI, List.getElem?_map, List.getElem?_eq_getElem (by omega : j < z.length), List.getD_eq_getElem?_getD, List.getElem?_eq_getElem (by omega : j < z.length)]; rfl
      obtain ⟨_, u, hu, hr⟩ := g6 i (rowI z) j _ (by rw [hrows]; simp [hz]) hx
      rw [hp1, Nat.add_assoc] at hu
      rw [hu]
      cases hr; rfl
    have hget : ∀ (d : List (List Int)) (i : Nat) (hi : i < d.length), d.toArray[i]! = d[i] := fun d i hi => by
      rw [getElem!_pos d.toArray i (by simpa using hi)]; simp
    have hH : HoldsK (encK k) k w p.g (p.o + 0 * p.sz) l.toArray := by
      intro t ht
      simp only [size_flatK, List.size_toArray] at ht
      have hd : t / k < l.length := Nat.div_lt_of_lt_mul (by rwa [Nat.mul_comm] at ht)
      have hmo : t % k < k := Nat.mod_lt _ hk
      have hc := hcur (t / k) (t % k) l[t / k] (List.getElem?_eq_getElem hd) hmo
      rw [Nat.mul_comm (t / k) k, Nat.div_add_mod] at hc
      rw [get_flatK _ _ _ _ (by simpa using ht), hget l _ hd, encK_get k _ _ hmo]
      simp only [World.cell?, World.frozen?, hh, Nat.zero_mul, Nat.add_zero, Option.isSome_none, id]
      exact ⟨by simpa using hc, by simp⟩
    have hcl : CmpLays P g' cb (encK k) k cf p.g (p.o + 0 * p.sz) l.toArray.size w := fun m os dk _ x y => by
      refine hcmp _ (fun j hj hne => ?_) x y
      have hne := hne p hρ
      simp only [sortWorldK, putRowK, grow, putRow, mapBlock, Sort.ahead]
      rw [Array.getElem?_append_left (by simpa using hj), Array.getElem?_modify, if_neg (Ne.symm hne)]
    have hC := AnyQ.slices_SortFunc_eq L k aE zE (encK k) (fun x => by simp [encK]) (fun x v hv => by
      simp only [encK, List.mem_map] at hv
      obtain ⟨i, _, rfl⟩ := hv; rfl) cf hO g' cb p.g (p.o + 0 * p.sz) (p.cap - 0) l.toArray w eg hcl hH hblt (by simp; omega)
    simp only [List.size_toArray, hlen] at hC
    refine hC.mono ?_
    rintro e w' ⟨rfl, n, os, rfl⟩
    have hpd : pdq (ltOf cf) l.toArray 0 len (Lib.bitLen len) true true = (resF (ltOf cf) l).toArray := by
      rw [resF_pdq hO, hlen]
    rw [hpd]
    obtain ⟨R, hR⟩ : ∃ R, resF (ltOf cf) l = R := ⟨_, rfl⟩
    rw [hR] at hsl hperm ⊢
    have hRk : ∀ z ∈ R, z.length = k := fun z hz => hlk z (hperm.mem_iff.1 hz)
    have hw' : (sortWorldK (encK k) k w p.g (p.o + 0 * p.sz) n R.toArray os).heap[p.g]? = some (.cells (putCells id (p.o + 0 * p.sz) (flatK (encK k) k R.toArray) cur) et (0, 0)) := by
      simp only [sortWorldK, putRowK, grow, putRow, mapBlock, Sort.ahead]
      rw [Array.getElem?_append_left (by simpa using hblt), Array.getElem?_modify, if_pos rfl, hh]
      rfl
    have hoth : ∀ k', k' < w.heap.size → k' ≠ p.g → (sortWorldK (encK k) k w p.g (p.o + 0 * p.sz) n R.toArray os).heap[k']? = w.heap[k']? := by
      intro k' hk' hne
      simp only [sortWorldK, putRowK, grow, putRow, mapBlock, Sort.ahead]
      rw [Array.getElem?_append_left (by simpa using hk'), Array.getElem?_modify, if_neg (Ne.symm hne)]
    have hsz : w.heap.size ≤ (sortWorldK (encK k) k w p.g (p.o + 0 * p.sz) n R.toArray os).heap.size := by
      simp only [sortWorldK, putRowK, grow, putRow, mapBlock, Sort.ahead, Array.size_append, Array.size_modify]
      omega
    generalize hW : sortWorldK (encK k) k w p.g (p.o + 0 * p.sz) n R.toArray os = W at hw' hoth hsz
    have hkeep : ∀ {x : AV} {v : Value}, AR F ρ ob x v → AR F (updM ρ key (some p)) ((⟨fr, ob⟩ : St).obj key ⟨k, R.map rowI⟩).ob x v := by
      intro x v hx
      have he : updM ρ key (some p) = ρ := by
        funext k; unfold updM; split
        · rename_i hk; subst hk; exact hρ.symm
        · rfl
      rw [he]
      refine hx.same fun k' o' ho' => ?_
      by_cases hk : k' = key
      · subst hk
        rw [obj_same] at ho'; simp only [Option.some.injEq] at ho'; subst ho'
        exact ⟨o, ho, fun _ => by rw [List.length_map, hsl]; exact c2⟩
      · rw [obj_other hk] at ho'; exact ⟨o', ho', fun _ => rfl⟩
    have hty : KT ≤ key → et + 1 = key / KT := fun h => hm.typed hK ho hρ h _ _ _ hh
    have hMem := Mem.change (s := ⟨fr, ob⟩) (o' := ⟨k, R.map rowI⟩) (p' := p) (et := et) (w' := W) hK hty (hm.typed0 hK ho hρ) hm g1 (.inl ⟨o, p, ho, hρ, rfl⟩) hsz hoth hw'
      (by rw [← g5]; simp [putCells]) (by rw [List.length_map, hsl]; omega) hp1 (fun r hr => by
        simp only [List.mem_map] at hr
        obtain ⟨z, hz, rfl⟩ := hr; rw [hp1, rowI, List.length_map]; exact hRk z hz) (fun k o hk ho r hr x hx v hv => hkeep hv) (fun i r j x hi hj => by
        simp only [List.getElem?_map] at hi
        cases hz : R[i]? with
        | none => rw [hz] at hi; simp at hi
        | some z =>
          rw [hz] at hi
          simp only [Option.map_some, Option.some.injEq] at hi
          subst hi
          have hzl := hRk z (List.mem_of_getElem? hz)
          simp only [rowI, List.getElem?_map] at hj
          cases hzj : z[j]? with
          | none => rw [hzj] at hj; simp at hj
          | some m =>
            rw [hzj] at hj
            simp only [Option.map_some, Option.some.injEq] at hj
            subst hj
            have hi := (List.getElem?_eq_some_iff.1 hz).1
            have hjk : j < k := by rw [← hzl]; exact (List.getElem?_eq_some_iff.1 hzj).1
            refine ⟨rfl, .int .i64 m, ?_, DR.int _ _⟩
            rw [hp1]
            have hlt : i * k + j < R.length * k := by
              have := Nat.mul_le_mul_right k (show i + 1 ≤ R.length from hi)
              rw [Nat.add_mul, Nat.one_mul] at this; omega
            have hcz : p.o + i * k + j < cur.size := by
              rw [g5, hp1]
              have := Nat.mul_le_mul_right k (show R.length ≤ p.cap by omega)
              omega
            simp only [putCells, Array.getElem?_mapIdx, Nat.zero_mul, Nat.zero_add, size_flatK, List.size_toArray, Nat.zero_le, true_and, Nat.sub_zero]
            rw [Array.getElem?_eq_getElem hcz, Option.map_some, if_pos ⟨by omega, by omega⟩, show p.o + i * k + j - (p.o + 0) = i * k + j by omega]
            have e1 : (i * k + j) / k = i := by
              rw [Nat.mul_comm, Nat.mul_add_div hk, Nat.div_eq_of_lt hjk, Nat.add_zero]
            have e2 : (i * k + j) % k = j := by
              rw [Nat.mul_comm, Nat.mul_add_mod, Nat.mod_eq_of_lt hjk]
            rw [id, get_flatK _ _ _ _ (by simpa using hlt), e1, e2, hget R i hi, encK_get k _ _ hjk]
            have : R[i] = z := by simpa [List.getElem?_eq_getElem hi] using hz
            rw [this, List.getD_eq_getElem?_getD, hzj]; rfl)
    refine ⟨[], rfl, F, updM ρ key (some p), hMem, fun i v hi hv => ?_, .nil, .refl F, ?_, fun _ _ h => .inl h⟩
    · have := hf i v hv
      rw [if_neg (by omega)] at this
      exact hkeep this
    · have hb := hm.big
      exact ⟨by rw [← hW]; rfl, by rw [← hW]; rfl, by rw [← hW]; rfl, hsz, fun k hk => hoth k (by omega) (by omega)⟩
theorem sortG_mono (k : Nat) (cfo : CfO) (s : St) (rs : List AV) (ob : List (Nat × Obj)) (R : List Nat) (hR : ∀ r ∈ R, GB ≤ r) (h : sortGPt k cfo s = some (rs, ob)) : sortGPt k cfo ⟨dels R s.fr, s.ob⟩ = some (rs, ob) := by
  have hG : (2 : Nat) < GB := by decide
  have e0 : get (dels R s.fr) 0 = get s.fr 0 := by rw [get_dels, if_neg fun h => by have := hR _ h; omega]
  have e1 : get (dels R s.fr) 1 = get s.fr 1 := by rw [get_dels, if_neg fun h => by have := hR _ h; omega]
  have e2 : get (dels R s.fr) 2 = get s.fr 2 := by rw [get_dels, if_neg fun h => by have := hR _ h; omega]
  unfold sortGPt at h ⊢
  simp only [e0, e1, e2]
  exact h
end Go.Am
