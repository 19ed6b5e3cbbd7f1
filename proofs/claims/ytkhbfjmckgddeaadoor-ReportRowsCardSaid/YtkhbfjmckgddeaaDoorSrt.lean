/- Sorting numbers: a function from outside of the table. -/
import Derived.Test.YtkhbfjmckgddeaaDoorAs
import Derived.Shelf.Sort.Plain
import Derived.Shelf.Slices.In.SortNone
set_option linter.unusedVariables false
set_option linter.unusedSimpArgs false
namespace Go.Am
open Go.Proofs Go.Shelf Go.RowKit
/-! ### Sorted numbers -/
def insI (x : Int) : List Int → List Int
  | [] => [x]
  | y :: l => if x ≤ y then x :: y :: l else y :: insI x l
def srt : List Int → List Int
  | [] => []
  | x :: l => insI x (srt l)
theorem insI_perm (x : Int) : ∀ l, (insI x l).Perm (x :: l)
  | [] => .refl _
  | y :: l => by
    unfold insI
    split
    · exact .refl _
    · exact ((insI_perm x l).cons y).trans (.swap x y l)
theorem srt_perm : ∀ l, (srt l).Perm l
  | [] => .refl _
  | x :: l => (insI_perm x _).trans ((srt_perm l).cons x)
theorem insI_sorted (x : Int) : ∀ {l : List Int}, l.Pairwise (· ≤ ·) → (insI x l).Pairwise (· ≤ ·)
  | [], _ => by simp [insI]
  | y :: l, h => by
    have h' := List.pairwise_cons.1 h
    unfold insI
    split
    · refine List.pairwise_cons.2 ⟨fun z hz => ?_, h⟩
      simp only [List.mem_cons] at hz
      rcases hz with rfl | hz
      · assumption
      · have := h'.1 z hz; omega
    · refine List.pairwise_cons.2 ⟨fun z hz => ?_, insI_sorted x h'.2⟩
      have hz' := (insI_perm x l).mem_iff.1 hz
      simp only [List.mem_cons] at hz'
      rcases hz' with rfl | hz'
      · omega
      · exact h'.1 z hz'
theorem srt_sorted : ∀ l, (srt l).Pairwise (· ≤ ·)
  | [] => .nil
  | x :: l => insI_sorted x (srt_sorted l)
theorem sorted_unique : ∀ {a b : List Int}, a.Pairwise (· ≤ ·) → b.Pairwise (· ≤ ·) → a.Perm b → a = b
  | [], b, _, _, h => (List.nil_perm.1 h).symm
  | x :: a, [], _, _, h => by have := h.length_eq; simp at this
  | x :: a, y :: b, ha, hb, h => by
    have ha' := List.pairwise_cons.1 ha
    have hb' := List.pairwise_cons.1 hb
    have h1 : x ∈ y :: b := h.mem_iff.1 (by simp)
    have h2 : y ∈ x :: a := h.mem_iff.2 (by simp)
    have hxy : x = y := by
      simp only [List.mem_cons] at h1 h2
      rcases h1 with h1 | h1
      · exact h1
      · rcases h2 with h2 | h2
        · exact h2.symm
        · have := ha'.1 y h2
          have := hb'.1 x h1
          omega
    subst hxy
    rw [sorted_unique ha'.2 hb'.2 ((List.perm_cons x).1 h)]
theorem merge_srt (l : List Int) : (l.mergeSort fun x y => decide (x ≤ y)) = srt l := by
  refine sorted_unique ?_ (srt_sorted l) ((List.mergeSort_perm l _).trans (srt_perm l).symm)
  have := List.pairwise_mergeSort (le := fun x y : Int => decide (x ≤ y)) (fun a b c h1 h2 => by simp only [decide_eq_true_eq] at *; omega) (fun a b => by simp only [Bool.or_eq_true, decide_eq_true_eq]; omega) l
  exact this.imp fun h => by simpa using h
theorem srt_length (l : List Int) : (srt l).length = l.length := (srt_perm l).length_eq
/-! ### The function -/
def intRows (l : List Int) : Rows := l.map fun z => [.c (.int .i64 z)]
def intsOf : Rows → Option (List Int)
  | [] => some []
  | [.c (.int .i64 z)] :: r => (intsOf r).map (z :: ·)
  | _ :: _ => none
theorem intsOf_rows : ∀ l, intsOf (intRows l) = some l
  | [] => rfl
  | z :: l => by
    have := intsOf_rows l
    simp only [intRows, List.map_cons, intsOf] at this ⊢
    rw [this]; rfl
theorem intsOf_some : ∀ {r : Rows} {l : List Int}, intsOf r = some l → r = intRows l
  | [], l, h => by simp only [intsOf, Option.some.injEq] at h; subst h; rfl
  | x :: r, l, h => by
    unfold intsOf at h
    split at h
    · simp at *
    · rename_i z r' heq
      simp only [List.cons.injEq] at heq
      obtain ⟨rfl, rfl⟩ := heq
      cases hr : intsOf r with
      | none => rw [hr] at h; simp at h
      | some l' =>
        rw [hr] at h
        simp only [Option.map_some, Option.some.injEq] at h
        subst h
        rw [intsOf_some hr]; rfl
    · simp at h
def sortPt (s : St) : Option (List AV × List (Nat × Obj)) :=
  match get s.fr 0, get s.fr 1 with
  | some (.sl key ver start len), none => match get s.ob key with
    | some o => if o.sz = 1 ∧ o.rows.length = ver ∧ start = 0 ∧ len = ver ∧ ver < 4611686018427387904 then (match intsOf o.rows with
        | some l => some ([], (key, ⟨1, intRows (srt l)⟩) :: del s.ob key)
        | none => none)
      else none
    | none => none
  | _, _ => none
theorem intRows_length (l : List Int) : (intRows l).length = l.length := by simp [intRows]
theorem intRows_get {l : List Int} {i j : Nat} {r : List AV} {x : AV} (h : (intRows l)[i]? = some r) (hj : r[j]? = some x) : j = 0 ∧ ∃ z, l[i]? = some z ∧ x = .c (.int .i64 z) := by
  simp only [intRows, List.getElem?_map] at h
  cases hl : l[i]? with
  | none => rw [hl] at h; simp at h
  | some z =>
    rw [hl] at h
    simp only [Option.map_some, Option.some.injEq] at h
    subst h
    cases j with
    | zero => simp only [List.getElem?_cons_zero, Option.some.injEq] at hj; exact ⟨rfl, z, rfl, hj.symm⟩
    | succ j => simp at hj
theorem sort_specP {P : Program} {τ : Ren} (L : Lays.n189 P τ) : SpecP P (τ.f 189) sortPt := by
  intro γ B F ρ fr ob w us rs ob' hn hal hm hf h
  unfold sortPt at h
  split at h
  case h_2 => simp at h
  rename_i key ver start len h0 h1
  split at h
  case h_2 => simp at h
  rename_i o ho
  simp only at h0 h1 ho
  split at h
  case isFalse => simp at h
  rename_i hc
  obtain ⟨c1, c2, rfl, rfl, c5⟩ := hc
  split at h
  case h_2 => simp at h
  rename_i l hl
  simp only [Option.some.injEq, Prod.mk.injEq] at h
  obtain ⟨rfl, rfl⟩ := h
  have hrows := intsOf_some hl
  have hG : (0 : Nat) < GB := by decide
  have hv := hf 0 _ h0
  rw [if_pos hG] at hv
  obtain ⟨hK, hv⟩ := hv
  obtain ⟨_, hv⟩ := hv o ho
  have hv := hv c2 (by omega)
  have hlen : l.length = len := by rw [← c2, hrows, intRows_length]
  have hu : ∃ u, us = [u] ∧ us.getD 0 undef = u := by
    match us, hal, hv with
    | [], _, hv =>
      exfalso
      unfold SlR at hv
      split at hv
      · obtain ⟨_, hv⟩ := hv; simp [undef] at hv
      · obtain ⟨_, a, hv, _⟩ := hv; simp [undef] at hv
    | [u], _, _ => exact ⟨u, rfl, rfl⟩
    | u :: u2 :: r, hal, _ =>
      obtain ⟨v, hv⟩ := hal 1 (by simp)
      rw [h1] at hv; simp at hv
  obtain ⟨u, rfl, hu⟩ := hu
  rw [hu] at hv
  unfold SlR at hv
  cases hρ : ρ key with
  | none =>
    rw [hρ] at hv
    obtain ⟨hz, rfl⟩ := hv
    have hl0 : l = [] := List.eq_nil_of_length_eq_zero (by omega)
    subst hl0
    have hg : ∀ k o', get ((key, (⟨1, intRows (srt [])⟩ : Obj)) :: del ob key) k = some o' → ∃ o, get ob k = some o ∧ (k < MK → o.rows.length = o'.rows.length) := fun k o' h => by
      by_cases hk : key = k
      · subst hk
        simp only [get, if_true, Option.some.injEq] at h; subst h
        exact ⟨o, ho, fun _ => by rw [hrows]; rfl⟩
      · simp only [get, if_neg hk] at h
        rw [get_del, if_neg (Ne.symm hk)] at h
        exact ⟨o', h, fun _ => rfl⟩
    have he : ∀ k, get ((key, (⟨1, intRows (srt [])⟩ : Obj)) :: del ob key) k = get ob k := fun k => by
      by_cases hk : key = k
      · subst hk
        simp only [get, if_true, ho]
        cases o; simp only at c1 hrows; subst c1; subst hrows; rfl
      · simp only [get, if_neg hk]; rw [get_del, if_neg (Ne.symm hk)]
    refine (Any.slices_Sort_int_none L none 0 w).mono ?_
    rintro e w' ⟨rfl, rfl⟩
    refine ⟨[], rfl, F, ρ, hm.congr he, fun i v hi hv => ?_, .nil, .refl _ _ _⟩
    have := hf i v hv
    rw [if_neg (by omega)] at this
    exact this.same hg
  | some p =>
    rw [hρ] at hv
    obtain ⟨hcap, a, rfl, ha⟩ := hv
    have ha := ha (.inr rfl)
    subst ha
    obtain ⟨g1, g2, g3, g4, cur, et, hh, g5, g6⟩ := hm.cells hK ho hρ
    have hp1 : p.sz = 1 := by rw [g3, c1]
    have hblt : p.g < w.heap.size := by
      rcases Nat.lt_or_ge p.g w.heap.size with h | h
      · exact h
      · rw [Array.getElem?_eq_none h] at hh; simp at hh
    have hcur : ∀ (j : Nat) (z : Int), l[j]? = some z → cur[j]? = some (.int .i64 z) := by
      intro j z hz
      obtain ⟨_, u, hu, hr⟩ := g6 j [.c (.int .i64 z)] 0 (.c (.int .i64 z)) (by rw [hrows]; simp [intRows, hz]) (by simp)
      rw [hp1] at hu
      simp only [Nat.mul_one, Nat.add_zero] at hu
      rw [hu]
      cases hr; rfl
    have hH : Go.Sort.Holds (Value.int .i64) w p.g (0 * p.sz) l.toArray := by
      intro j hj
      simp only [List.size_toArray] at hj
      obtain ⟨z, hz⟩ : ∃ z, l[j]? = some z := ⟨l[j], List.getElem?_eq_getElem hj⟩
      have hzz : l.toArray[j]! = z := by
        have : l.toArray[j]? = some z := by simpa using hz
        simp [Array.getElem!_eq_getD, Array.getD_eq_getD_getElem?, this]
      simp only [World.cell?, World.frozen?, hh, Nat.zero_mul, Nat.zero_add, Option.isSome_none, hzz]
      exact ⟨by simpa using hcur j z hz, by simp⟩
    have hsl : (srt l).length = len := by rw [srt_length, hlen]
    have hC := Any.slices_Sort_int L p.g (0 * p.sz) (p.cap - 0) l w hH hblt (by omega)
    rw [hlen] at hC
    refine hC.mono ?_
    rintro e w' ⟨rfl, n, os, rfl⟩
    rw [merge_srt]
    have hw' : (Go.Sort.grow (Go.Sort.putRow (Value.int .i64) (Go.Sort.ahead w n) p.g (0 * p.sz) (srt l).toArray) os).heap[p.g]? = some (.cells (Go.Sort.putCells (Value.int .i64) (0 * p.sz) (srt l).toArray cur) et (0, 0)) := by
      simp only [Go.Sort.grow, Go.Sort.putRow, Go.Sort.mapBlock, Go.Sort.ahead]
      rw [Array.getElem?_append_left (by simpa using hblt), Array.getElem?_modify, if_pos rfl, hh]
      rfl
    have hoth : ∀ k, k < w.heap.size → k ≠ p.g → (Go.Sort.grow (Go.Sort.putRow (Value.int .i64) (Go.Sort.ahead w n) p.g (0 * p.sz) (srt l).toArray) os).heap[k]? = w.heap[k]? := by
      intro k hk hne
      simp only [Go.Sort.grow, Go.Sort.putRow, Go.Sort.mapBlock, Go.Sort.ahead]
      rw [Array.getElem?_append_left (by simpa using hk), Array.getElem?_modify, if_neg (Ne.symm hne)]
    have hsz : w.heap.size ≤ (Go.Sort.grow (Go.Sort.putRow (Value.int .i64) (Go.Sort.ahead w n) p.g (0 * p.sz) (srt l).toArray) os).heap.size := by
      simp only [Go.Sort.grow, Go.Sort.putRow, Go.Sort.mapBlock, Go.Sort.ahead, Array.size_append, Array.size_modify]
      omega
    generalize hW : Go.Sort.grow (Go.Sort.putRow (Value.int .i64) (Go.Sort.ahead w n) p.g (0 * p.sz) (srt l).toArray) os = W at hw' hoth hsz
    have hkeep : ∀ {x : AV} {v : Value}, AR F ρ ob x v → AR F (updM ρ key (some p)) ((⟨fr, ob⟩ : St).obj key ⟨1, intRows (srt l)⟩).ob x v := by
      intro x v hx
      have he : updM ρ key (some p) = ρ := by
        funext k; unfold updM; split
        · rename_i hk; subst hk; exact hρ.symm
        · rfl
      rw [he]
      refine hx.same fun k o' ho' => ?_
      by_cases hk : k = key
      · subst hk
        rw [obj_same] at ho'; simp only [Option.some.injEq] at ho'; subst ho'
        exact ⟨o, ho, fun _ => by rw [intRows_length, hsl]; exact c2⟩
      · rw [obj_other hk] at ho'; exact ⟨o', ho', fun _ => rfl⟩
    have hty : KT ≤ key → et + 1 = key / KT := fun h => hm.typed hK ho hρ h _ _ _ hh
    have hMem := Mem.change (s := ⟨fr, ob⟩) (o' := ⟨1, intRows (srt l)⟩) (p' := p) (et := et) (w' := W) hK hty hm g1 (.inl ⟨o, p, ho, hρ, rfl⟩) hsz hoth hw'
      (by rw [← g5]; simp [Go.Sort.putCells]) (by rw [intRows_length, hsl]; omega) hp1 (fun r hr => by
        simp only [intRows, List.mem_map] at hr
        obtain ⟨z, _, rfl⟩ := hr; rw [hp1]; rfl) (fun k o hk ho r hr x hx v hv => hkeep hv) (fun i r j x hi hj => by
        obtain ⟨rfl, z, hz, rfl⟩ := intRows_get hi hj
        refine ⟨rfl, .int .i64 z, ?_, DR.int _ _⟩
        have hi := (List.getElem?_eq_some_iff.1 hz).1
        rw [hp1]
        simp only [Nat.mul_one, Nat.add_zero, Go.Sort.putCells, Array.getElem?_mapIdx, Nat.zero_mul, Nat.zero_add, List.size_toArray, Nat.zero_le, true_and, Nat.sub_zero]
        have hic : i < cur.size := by rw [g5, hp1]; omega
        rw [Array.getElem?_eq_getElem hic, Option.map_some, if_pos hi]
        have : (srt l).toArray[i]? = some z := by simpa using hz
        simp [Array.getElem!_eq_getD, Array.getD_eq_getD_getElem?, this])
    refine ⟨[], rfl, F, updM ρ key (some p), hMem, fun i v hi hv => ?_, .nil, .refl F, ?_, fun _ _ h => .inl h⟩
    · have := hf i v hv
      rw [if_neg (by omega)] at this
      exact hkeep this
    · have hb := hm.big
      exact ⟨by rw [← hW]; rfl, by rw [← hW]; rfl, by rw [← hW]; rfl, hsz, fun k hk => hoth k (by omega) (by omega)⟩
theorem sort_mono (s : St) (rs : List AV) (ob : List (Nat × Obj)) (R : List Nat) (hR : ∀ r ∈ R, GB ≤ r) (h : sortPt s = some (rs, ob)) : sortPt ⟨dels R s.fr, s.ob⟩ = some (rs, ob) := by
  have hG : (1 : Nat) < GB := by decide
  have e0 : get (dels R s.fr) 0 = get s.fr 0 := by rw [get_dels, if_neg fun h => by have := hR _ h; omega]
  have e1 : get (dels R s.fr) 1 = get s.fr 1 := by rw [get_dels, if_neg fun h => by have := hR _ h; omega]
  unfold sortPt at h ⊢
  simp only [e0, e1]
  exact h
end Go.Am
