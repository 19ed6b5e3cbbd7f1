/- Law 70: rows by floors and directions, by the program: a map, a loop over it, a sort. -/
import Derived.Test.YtkhbfjmckgddeaaDoorBfS
import Derived.Test.YtkhbfjmckgddeaaDoorAwD
import Derived.Test.YtkhbfjmckgddeaaDoorData
set_option linter.unusedVariables false
set_option linter.unusedSimpArgs false
set_option maxRecDepth 10000
set_option maxHeartbeats 1000000
namespace Go.Am
open Go.Proofs Go.Shelf Go.RowKit Go.Sort
/-! ### Plain -/
/-- A row of the map: when it was first there; floor, direction; how many came, how many got in, how long these waited, together and at most. -/
structure BE where
  b : Int
  x : Int
  y : Int
  c : Int
  s : Int
  u : Int
  m : Int
def BE.cells (e : BE) : List D := [.int .i64 e.x, .int .i64 e.y, .int .i64 e.c, .int .i64 e.s, .int .i64 e.u, .int .i64 e.m]
def BE.row (e : BE) : List AV := [.c (.int .i64 e.b), .agg [.int .i64 e.x, .int .i64 e.y], .agg e.cells]
def BE.w (e : BE) : List Int := [e.x, e.y, e.c, e.s, e.u, e.m]
def BE.out (e : BE) : List AV := rowI e.w
def BE.born (e : BE) : List AV := [.c (.int .i64 e.b)]
def dirT (t : Trip) : Int := if t.frm < t.to then 1 else if t.to < t.frm then -1 else 0
/-- One more, of whom is told. -/
def BE.add (e : BE) (t : Trip) : BE := if 0 ≤ t.board then { e with c := e.c + 1, s := e.s + 1, u := e.u + (t.board - t.arrive), m := max e.m (t.board - t.arrive) } else { e with c := e.c + 1 }
def bidx (x y : Int) : List BE → Nat → Option (Nat × BE)
  | [], _ => none
  | e :: l, i => if x = e.x ∧ y = e.y then some (i, e) else bidx x y l (i + 1)
def addE (q : List BE × Nat) (t : Trip) : List BE × Nat :=
  match bidx t.frm (dirT t) q.1 0 with
  | some (i, e) => (q.1.take i ++ e.add t :: q.1.drop (i + 1), q.2)
  | none => (q.1 ++ [BE.add ⟨q.2, t.frm, dirT t, 0, 0, 0, 0⟩ t], q.2 + 1)
def entsB (l : List Trip) : List BE × Nat := l.foldl addE ([], 0)
theorem entsB_snoc (l : List Trip) (k : Nat) (h : k < l.length) : entsB (l.take (k + 1)) = addE (entsB (l.take k)) l[k] := by
  unfold entsB; rw [List.take_succ_eq_append_getElem h, List.foldl_append]; rfl
theorem bidx_lt {x y : Int} : ∀ {es : List BE} {k i : Nat} {e : BE}, bidx x y es k = some (i, e) → k ≤ i ∧ i < k + es.length ∧ es[i - k]? = some e ∧ e.x = x ∧ e.y = y
  | a :: l, k, i, e, h => by
    simp only [bidx] at h
    split at h
    · rename_i hh
      simp only [Option.some.injEq, Prod.mk.injEq] at h
      obtain ⟨rfl, rfl⟩ := h
      exact ⟨Nat.le_refl _, by simp, by simp, hh.1.symm, hh.2.symm⟩
    · obtain ⟨h1, h2, h3, h4⟩ := bidx_lt h
      refine ⟨by omega, by simp; omega, ?_, h4⟩
      rw [show i - k = (i - (k + 1)) + 1 by omega, List.getElem?_cons_succ]; exact h3
theorem mfind_bidx (x y : Int) : ∀ (es : List BE) (k : Nat), mfind (true, [.int .i64, .int .i64]) (.agg [.int .i64 x, .int .i64 y]) (es.map BE.row) k = some ((bidx x y es k).map fun p => (p.1, .agg p.2.cells))
  | [], k => rfl
  | e :: l, k => by
    have hm : mkeq (true, [.int .i64, .int .i64]) (.agg [.int .i64 x, .int .i64 y]) (.agg [.int .i64 e.x, .int .i64 e.y]) = some (decide (x = e.x ∧ y = e.y)) := by
      simp [mkeq, eqKs, eqK]
    rw [List.map_cons, BE.row, mfind, hm]
    by_cases h : x = e.x ∧ y = e.y
    · simp only [decide_eq_true h, bidx, if_pos h, Option.map_some]
    · simp only [decide_eq_false h, bidx, if_neg h]; exact mfind_bidx x y l (k + 1)
theorem stampAt_b {es : List BE} {i : Nat} {e : BE} (h : es[i]? = some e) : stampAt (es.map BE.row) i = .c (.int .i64 e.b) := by
  simp [stampAt, h, BE.row]
theorem nmRows_b (k : Nat) (l : List BE) : nmRows k (l.map BE.row) = true := by induction l <;> simp_all [BE.row]
theorem lcRows_b (k : Nat) (l : List BE) : lcRows k (l.map BE.row) = true := by induction l <;> simp_all [BE.row]
theorem nmRows_bo (k : Nat) (l : List BE) : nmRows k (l.map BE.out) = true := by induction l <;> simp_all [BE.out, rowI, BE.w]
theorem lcRows_bo (k : Nat) (l : List BE) : lcRows k (l.map BE.out) = true := by induction l <;> simp_all [BE.out, rowI, BE.w]
theorem nmRows_bb (k : Nat) (l : List BE) : nmRows k (l.map BE.born) = true := by induction l <;> simp_all [BE.born]
theorem lcRows_bb (k : Nat) (l : List BE) : lcRows k (l.map BE.born) = true := by induction l <;> simp_all [BE.born]
/-- Trips that may be told of: their floors, their ticks. -/
structure Tb (t : Trip) : Prop where
  frm : 0 ≤ t.frm ∧ t.frm ≤ 127
  to : 0 ≤ t.to ∧ t.to ≤ 127
  arr : -1 ≤ t.arrive ∧ t.arrive ≤ 1073741824
  brd : -1 ≤ t.board ∧ t.board ≤ 1073741824
  o : 0 ≤ t.board → t.arrive ≤ t.board
structure BE.In (e : BE) (n : Int) : Prop where
  c : 0 ≤ e.c ∧ e.c ≤ n
  s : 0 ≤ e.s ∧ e.s ≤ n
  u : 0 ≤ e.u ∧ e.u ≤ n * 1073741826
  m : 0 ≤ e.m ∧ e.m ≤ 1073741826
theorem BE.add_in {e : BE} {n : Int} (h : e.In n) {t : Trip} (ht : Tb t) : (e.add t).In (n + 1) := by
  obtain ⟨h1, h2, h3, h4⟩ := h
  obtain ⟨t1, t2, t3, t4, t5⟩ := ht
  unfold BE.add
  split
  · rename_i hb
    have := t5 hb
    refine ⟨by simp only; omega, by simp only; omega, by simp only; omega, by simp only; omega⟩
  · exact ⟨by simp only; omega, by simp only; omega, by simp only; omega, by simp only; omega⟩
theorem BE.In.mono {e : BE} {n m : Int} (h : e.In n) (hn : n ≤ m) : e.In m := by
  obtain ⟨h1, h2, h3, h4⟩ := h
  exact ⟨by omega, by omega, by omega, by omega⟩
theorem addE_in {q : List BE × Nat} {n : Int} (hn : 0 ≤ n) (h : ∀ e ∈ q.1, e.In n) {t : Trip} (ht : Tb t) : ∀ e ∈ (addE q t).1, e.In (n + 1) := by
  intro e he
  unfold addE at he
  split at he
  · rename_i i e0 hi
    obtain ⟨h1, h2, h3, -⟩ := bidx_lt hi
    simp only [List.mem_append, List.mem_cons] at he
    rcases he with he | rfl | he
    · exact (h e (List.mem_of_mem_take he)).mono (by omega)
    · exact BE.add_in (h e0 (List.mem_of_getElem? h3)) ht
    · exact (h e (List.mem_of_mem_drop he)).mono (by omega)
  · simp only [List.mem_append, List.mem_singleton] at he
    rcases he with he | rfl
    · exact (h e he).mono (by omega)
    · exact BE.add_in ⟨by simp only; omega, by simp only; omega, by simp only; omega, by simp⟩ ht
theorem entsB_in {l : List Trip} (h : ∀ t ∈ l, Tb t) : ∀ k : Nat, k ≤ l.length → ∀ e ∈ (entsB (l.take k)).1, e.In k
  | 0, _ => by simp [entsB]
  | k + 1, hk => by
    rw [entsB_snoc l k (by omega)]
    have := addE_in (q := entsB (l.take k)) (n := k) (by omega) (entsB_in h k (by omega)) (h _ (List.getElem_mem (by omega : k < l.length)))
    simpa using this
/-! ### The walk: the map -/
def PDirC (g : List AV → Option (List AV)) : Prop := ∀ a b : Int, 0 ≤ a → a ≤ 127 → 0 ≤ b → b ≤ 127 → g [i64 a, i64 b] = some [i64 (if a < b then 1 else if b < a then -1 else 0)]
theorem bt_get {l : List Trip} {k : Nat} (hlt : k < l.length) {t : Trip} (h : l[k]'hlt = t) : (l.map Trip.cells)[k]? = some t.cells := by
  rw [List.getElem?_map, List.getElem?_eq_getElem hlt, h]; rfl
abbrev vTb (l : List Trip) : AV := .c (.vs 7 (l.map Trip.cells))
theorem map_loop (Γ : Env) (N M : Nat) (hM : 1000 < M) (hD : PDirC (Γ 173)) (l : List Trip) (hn : l.length ≤ 100) (hl : ∀ t ∈ l, Tb t) (s0 : St)
    (hs : nrmP [3, 13, 14, 15] 0 1000 [1461501637330902918203684832716283019655932542988] s0 = ⟨[(3, .mp 1461501637330902918203684832716283019655932542988), (13, vTb l), (14, i64 l.length), (15, i64 (0 : Nat))], [(1461501637330902918203684832716283019655932542988, ⟨0, []⟩)]⟩) :
    lp (exec Γ N byfloor_All_l2) M s0 = some (.ex 0, ⟨[(3, .mp 1461501637330902918203684832716283019655932542988)], [(1461501637330902918203684832716283019655932542988, ⟨(entsB l).2, (entsB l).1.map BE.row⟩)]⟩) := by
  obtain ⟨ax, s', ⟨rfl, rfl⟩, hin⟩ : ∃ ax s', (ax = .ex 0 ∧ s' = ⟨[(3, .mp 1461501637330902918203684832716283019655932542988)], [(1461501637330902918203684832716283019655932542988, ⟨(entsB l).2, (entsB l).1.map BE.row⟩)]⟩) ∧ ∀ s0, nrmP [3, 13, 14, 15] 0 1000 [1461501637330902918203684832716283019655932542988] s0 = ⟨[(3, .mp 1461501637330902918203684832716283019655932542988), (13, vTb l), (14, i64 l.length), (15, i64 (0 : Nat))], [(1461501637330902918203684832716283019655932542988, ⟨(entsB (l.take 0)).2, (entsB (l.take 0)).1.map BE.row⟩)]⟩ → lp (exec Γ N byfloor_All_l2) M s0 = some (ax, s') := by
    refine lp_allP (fun q : Nat => ⟨[(3, .mp 1461501637330902918203684832716283019655932542988), (13, vTb l), (14, i64 l.length), (15, i64 q)], [(1461501637330902918203684832716283019655932542988, ⟨(entsB (l.take q)).2, (entsB (l.take q)).1.map BE.row⟩)]⟩) (fun q => q ≤ l.length) (fun q => l.length - q) _ 0 M (by simp) (by omega) ?_
    intro k hk
    by_cases hlt : k < l.length
    · obtain ⟨t, ht⟩ : ∃ w, l[k]'hlt = w := ⟨_, rfl⟩
      have hrow := bt_get hlt ht
      have htb := hl t (ht ▸ List.getElem_mem hlt)
      have hsn := entsB_snoc l k hlt
      rw [ht] at hsn
      have hin := entsB_in hl k (by omega)
      obtain ⟨t1, t2, t3, t4, t5⟩ := htb
      have e := hD t.frm t.to t1.1 t1.2 t2.1 t2.2
      rw [show (if t.frm < t.to then 1 else if t.to < t.frm then -1 else 0 : Int) = dirT t from rfl] at e
      obtain ⟨⟨es, z⟩, hq⟩ : ∃ q, entsB (l.take k) = q := ⟨_, rfl⟩
      rw [hq] at hsn hin
      simp only [hq]
      simp only at hin
      have mf := mfind_bidx t.frm (dirT t) es 0
      have a1 := nmRows_b
      have a2 := lcRows_b
      simp only [Trip.cells] at hrow
      unfold addE at hsn
      simp only at hsn
      generalize dirT t = dd at *
      cases hb : bidx t.frm dd es 0 with
      | none =>
        rw [hb] at mf hsn
        simp only [Option.map_none] at mf
        simp only at hsn
        have hgo : ∀ E : BE, E = BE.add ⟨z, t.frm, dd, 0, 0, 0, 0⟩ t → ∃ q' : Nat, ((k : Int) + 1 = q' ∧ z + 1 = (entsB (l.take q')).2 ∧ es.map BE.row ++ [E.row] = (entsB (l.take q')).1.map BE.row) ∧ q' ≤ l.length ∧ l.length - q' < l.length - k := by
          rintro E rfl
          exact ⟨k + 1, ⟨by omega, by rw [hsn], by rw [hsn]; simp⟩, by omega, by omega⟩
        by_cases hbd : 0 ≤ t.board
        · have hE := hgo ⟨z, t.frm, dd, 1, 1, t.board - t.arrive, if t.arrive < t.board then t.board - t.arrive else 0⟩ (by
            unfold BE.add; rw [if_pos hbd]; simp only [BE.mk.injEq]; refine ⟨trivial, trivial, trivial, by omega, by omega, by omega, ?_⟩; split <;> omega)
          simp -implicitDefEqProofs (disch := first | omega | (simp [a1, a2] <;> fail) | assumption) [hlt, hrow, e, mf, a1, a2, hbd, mupd]
          simpa [BE.row, BE.cells] using hE
        · have hE := hgo ⟨z, t.frm, dd, 1, 0, 0, 0⟩ (by unfold BE.add; rw [if_neg hbd]; rfl)
          simp -implicitDefEqProofs (disch := first | omega | (simp [a1, a2] <;> fail) | assumption) [hlt, hrow, e, mf, a1, a2, hbd, mupd]
          simpa [BE.row, BE.cells] using hE
      | some p =>
        obtain ⟨i, e0⟩ := p
        rw [hb] at mf hsn
        simp only [Option.map_some] at mf
        simp only at hsn
        obtain ⟨-, hi, hget, hx, hy⟩ := bidx_lt hb
        simp only [Nat.zero_add, Nat.sub_zero] at hi hget
        obtain ⟨i1, i2, i3, i4⟩ := hin e0 (List.mem_of_getElem? hget)
        have hst := stampAt_b hget
        have hgo : ∀ E : BE, E = e0.add t → ∃ q' : Nat, ((k : Int) + 1 = q' ∧ z = (entsB (l.take q')).2 ∧ (es.map BE.row).take i ++ E.row :: (es.map BE.row).drop (i + 1) = (entsB (l.take q')).1.map BE.row) ∧ q' ≤ l.length ∧ l.length - q' < l.length - k := by
          rintro E rfl
          exact ⟨k + 1, ⟨by omega, by rw [hsn], by rw [hsn]; simp⟩, by omega, by omega⟩
        by_cases hbd : 0 ≤ t.board
        · have hE := hgo ⟨e0.b, t.frm, dd, e0.c + 1, e0.s + 1, e0.u + (t.board - t.arrive), if e0.m < t.board - t.arrive then t.board - t.arrive else e0.m⟩ (by
            unfold BE.add; rw [if_pos hbd]; simp only [BE.mk.injEq]; refine ⟨trivial, hx.symm, hy.symm, trivial, trivial, trivial, ?_⟩; split <;> omega)
          simp -implicitDefEqProofs (disch := first | omega | (simp [a1, a2] <;> fail) | assumption) [-stampAt, hlt, hrow, e, mf, a1, a2, hbd, mupd, BE.cells, hst]
          simpa [BE.row, BE.cells] using hE
        · have hE := hgo ⟨e0.b, t.frm, dd, e0.c + 1, e0.s, e0.u, e0.m⟩ (by unfold BE.add; rw [if_neg hbd]; simp only [BE.mk.injEq]; exact ⟨trivial, hx.symm, hy.symm, trivial, trivial, trivial, trivial⟩)
          simp -implicitDefEqProofs (disch := first | omega | (simp [a1, a2] <;> fail) | assumption) [-stampAt, hlt, hrow, e, mf, a1, a2, hbd, mupd, BE.cells, hst]
          simpa [BE.row, BE.cells] using hE
    · obtain rfl : k = l.length := by omega
      rw [List.take_length]
      simp -implicitDefEqProofs (disch := first | omega | assumption)
  exact hin s0 (by rw [hs]; simp [entsB])
end Go.Am
