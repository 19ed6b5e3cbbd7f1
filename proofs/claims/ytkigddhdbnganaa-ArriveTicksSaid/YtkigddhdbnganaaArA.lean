/- Who comes, plain. -/
import Derived.Test.YtkigddhdbnganaaArZ
set_option linter.unusedVariables false
set_option linter.unusedSimpArgs false
set_option maxRecDepth 10000
set_option maxHeartbeats 1000000
namespace Go.Am
/-! ### A word means a pair -/
theorem sumCap_some : ∀ {l : List Int} {a : Int}, (∀ n ∈ l, 0 ≤ n) → a + l.sum ≤ 2147483648 → sumCap a l = some (a + l.sum)
  | [], a, _, _ => by simp [sumCap]
  | n :: l, a, hn, h => by
    have h0 : ∀ l : List Int, (∀ n ∈ l, 0 ≤ n) → 0 ≤ l.sum := by
      intro l
      induction l with
      | nil => simp
      | cons m l ih => intro hm; have := hm m (by simp); have := ih fun x hx => hm x (by simp [hx]); simp only [List.sum_cons]; omega
    have h1 := h0 l fun x hx => hn x (by simp [hx])
    simp only [List.sum_cons] at h ⊢
    rw [sumCap, if_neg (by omega), sumCap_some (fun x hx => hn x (by simp [hx])) (by omega)]
    simp only [Option.some.injEq]; omega
theorem findR_found : ∀ {l : List Int} {r : Int} {i : Nat}, (∀ n ∈ l, 0 ≤ n) → r < l.sum → 0 ≤ r → (findR r l i).2 = 0
  | [], r, i, _, h, h0 => by simp at h; omega
  | n :: l, r, i, hn, h, h0 => by
    simp only [findR]
    split
    · rfl
    · simp only [List.sum_cons] at h
      exact findR_found (fun x hx => hn x (by simp [hx])) (by omega) (by omega)
theorem pick_fine {L : List W3} (hL : ∀ m ∈ L, 0 ≤ m.2.2 ∧ m.2.2 ≤ 10) (hl : L.length ≤ 16384) (hpos : 0 < sumM L) {w : Int} (hw1 : 0 ≤ w) (hw2 : w ≤ 4294967295) : (pickF w (L.map (·.2.2))).2 = 0 := by
  have hn : ∀ n ∈ L.map (·.2.2), 0 ≤ n := fun n hn => by
    obtain ⟨m, hm, rfl⟩ := List.mem_map.1 hn
    exact (hL m hm).1
  have hb := sumM_bound fun m hm => ⟨(hL m hm).1, Int.le_trans (hL m hm).2 (by decide)⟩
  have hs : sumCap 0 (L.map (·.2.2)) = some (sumM L) := by
    have := sumCap_some (a := 0) hn (by unfold sumM at hb; omega)
    rw [this]; simp [sumM]
  have ht : totF (L.map (·.2.2)) = (sumM L, 0) := by
    unfold totF
    rw [if_neg (by
      simp only [List.any_eq_true, decide_eq_true_eq, not_exists, not_and]
      intro n hx; have := hn n hx; omega), hs]
    simp only
    rw [if_neg (by omega)]
  unfold pickF
  rw [ht, if_neg (by simp)]
  have h0 : 0 ≤ w * sumM L := Int.mul_nonneg hw1 (by omega)
  have h1 : w * sumM L ≤ 4294967295 * sumM L := Int.mul_le_mul_of_nonneg_right hw2 (by omega)
  have e : (L.map (·.2.2)).sum = sumM L := rfl
  refine findR_found hn ?_ ?_
  · rw [e]
    simp only
    generalize w * sumM L = p at *
    omega
  · simp only
    generalize w * sumM L = p at *
    omega
theorem sumM_mem {L : List W3} (hL : ∀ m ∈ L, 0 ≤ m.2.2 ∧ m.2.2 ≤ 10) {m : W3} (hm : m ∈ L) (hp : 0 < m.2.2) : 0 < sumM L := by
  induction L with
  | nil => simp at hm
  | cons a L ih =>
    have hb := sumM_bound fun x hx => ⟨(hL x (List.mem_cons_of_mem a hx)).1, Int.le_trans (hL x (List.mem_cons_of_mem a hx)).2 (by decide)⟩
    have ha := hL a (by simp)
    have e : sumM (a :: L) = a.2.2 + sumM L := rfl
    rw [e]
    rcases List.mem_cons.1 hm with rfl | hm
    · omega
    · have := ih (fun x hx => hL x (List.mem_cons_of_mem a hx)) hm
      omega
theorem allW_pos {t : Int} {f : Nat} (h1 : 1 ≤ t) (h4 : t ≤ 4) (hf : 2 ≤ f) : 0 < sumM (allW t f f) := by
  have hw : 0 < wD t 0 1 := by
    have ht : t = 1 ∨ t = 2 ∨ t = 3 ∨ t = 4 := by omega
    rcases ht with rfl | rfl | rfl | rfl <;> decide
  refine sumM_mem (m := (0, 1, wD t 0 1)) allW_vals ?_ hw
  refine List.mem_flatMap.2 ⟨0, List.mem_range.2 (by omega), List.mem_flatMap.2 ⟨1, List.mem_range.2 (by omega), ?_⟩⟩
  have : ¬ wD t 0 1 = 0 := by omega
  simp [cellW, this]
theorem ansP_in {w : Int} {L : List W3} (h : (pickF w (L.map (·.2.2))).2 = 0) : ∃ m ∈ L, ansP w L = ([.int .i64 m.1, .int .i64 m.2.1], 0) := by
  obtain ⟨k, hk, hlt⟩ := pickF_lt h
  rw [List.length_map] at hlt
  refine ⟨L[k], List.getElem_mem hlt, ?_⟩
  unfold ansP
  rw [if_neg (by simp [h]), hk, Int.toNat_natCast, List.getElem?_eq_getElem hlt]
def pairF (K : List W3) (w : Nat) : Int × Int := match (ansP w K).1 with
  | [.int _ x, .int _ y] => (x, y)
  | _ => (0, 0)
structure KOk (K : List W3) (f : Nat) : Prop where
  lex : Lex K
  len : K.length ≤ 20000
  vals : Int64s (K.map (·.2.2))
  ans : ∀ w : Nat, w < 4294967296 → ansP w K = ([.int .i64 (pairF K w).1, .int .i64 (pairF K w).2], 0)
  ne : ∀ w : Nat, w < 4294967296 → (pairF K w).1 ≠ (pairF K w).2 ∧ 0 ≤ (pairF K w).1 ∧ (pairF K w).1 < f ∧ 0 ≤ (pairF K w).2 ∧ (pairF K w).2 < f
  some : ∃ a l, K = a :: l
theorem allW_ok {t : Int} {f : Nat} (h1 : 1 ≤ t) (h4 : t ≤ 4) (hf : 2 ≤ f) (hf2 : f ≤ 128) : KOk (allW t f f) f := by
  have hll : (allW t f f).length ≤ 16384 := Nat.le_trans (allW_length t f f) (by have := Nat.mul_le_mul hf2 hf2; omega)
  have hpos := allW_pos h1 h4 hf
  have hin : ∀ w : Nat, w < 4294967296 → ∃ m ∈ allW t f f, ansP w (allW t f f) = ([.int .i64 m.1, .int .i64 m.2.1], 0) := fun w hw => ansP_in (pick_fine allW_vals hll hpos (by omega) (by omega))
  have hpr : ∀ (w : Nat) (m : W3), ansP w (allW t f f) = ([.int .i64 m.1, .int .i64 m.2.1], 0) → pairF (allW t f f) w = (m.1, m.2.1) := fun w m h => by simp only [pairF, h]
  refine ⟨lex_allW t f f, by omega, fun n hn => ?_, fun w hw => ?_, fun w hw => ?_, ?_⟩
  · obtain ⟨m, hm, rfl⟩ := List.mem_map.1 hn
    have := allW_vals m hm
    omega
  · obtain ⟨m, hm, ha⟩ := hin w hw
    rw [hpr w m ha, ha]
  · obtain ⟨m, hm, ha⟩ := hin w hw
    rw [hpr w m ha]
    obtain ⟨x, hx, y, hy, hxy, rfl, _⟩ := mem_allW hm
    simp only
    omega
  · cases hK : allW t f f with
    | nil => rw [hK] at hpos; simp [sumM] at hpos
    | cons a l => exact ⟨a, l, rfl⟩
/-! ### Who comes -/
abbrev P4 := Nat × Nat × Int × Int
def p4D (p : P4) : List D := [.int .i64 p.1, .int .i64 p.2.1, .int .i64 p.2.2.1, .int .i64 p.2.2.2]
abbrev p4R (p : P4) : List AV := [i64 p.1, i64 p.2.1, i64 p.2.2.1, i64 p.2.2.2]
theorem p4R_map (l : List P4) : l.map (toAV ∘ p4D) = l.map p4R := rfl
def psgF (K : List W3) (t : Nat) : List Nat → Nat → List P4
  | [], _ => []
  | w :: l, id => (id, t, pairF K w) :: psgF K t l (id + 1)
theorem psgF_length (K : List W3) (t : Nat) : ∀ (l : List Nat) (id : Nat), (psgF K t l id).length = l.length
  | [], _ => rfl
  | w :: l, id => by simp [psgF, psgF_length K t l]
theorem psgF_append (K : List W3) (t : Nat) : ∀ (l m : List Nat) (id : Nat), psgF K t (l ++ m) id = psgF K t l id ++ psgF K t m (id + l.length)
  | [], m, id => by simp [psgF]
  | w :: l, m, id => by simp only [List.cons_append, psgF, psgF_append K t l m (id + 1), List.length_cons]; rw [show id + 1 + l.length = id + (l.length + 1) by omega]
def segK (s : Scn) (g : Seg) : List W3 := allW g.kind s.floors.toNat s.floors.toNat
def stepT (s : Scn) (ws : List Nat) (t a p : Nat) : Option (List P4 × Nat) :=
  match atF s.segs t with
  | none => some ([], a)
  | some i =>
    if (s.segs.getD i zSeg).rate = 0 then some ([], a)
    else match ws[a]? with
      | none => none
      | some w => if ws.length < a + 1 + meansF (tbl (s.segs.getD i zSeg).rate.toNat) w then none
        else some (psgF (segK s (s.segs.getD i zSeg)) t ((ws.drop (a + 1)).take (meansF (tbl (s.segs.getD i zSeg).rate.toNat) w)) p, a + 1 + meansF (tbl (s.segs.getD i zSeg).rate.toNat) w)
def runT (s : Scn) (ws : List Nat) : Nat → Option (List P4 × Nat)
  | 0 => some ([], 0)
  | k + 1 => match runT s ws k with
    | none => none
    | some (l, a) => match stepT s ws k a l.length with
      | none => none
      | some (m, b) => some (l ++ m, b)
theorem runT_succ {s : Scn} {ws : List Nat} {k : Nat} {l : List P4} {a : Nat} (h : runT s ws k = some (l, a)) : runT s ws (k + 1) = match stepT s ws k a l.length with
    | none => none
    | some (m, b) => some (l ++ m, b) := by simp only [runT, h]
theorem runT_none {s : Scn} {ws : List Nat} {k : Nat} (h : runT s ws k = none) : ∀ j, k ≤ j → runT s ws j = none
  | 0, hj => by obtain rfl : k = 0 := by omega
                exact h
  | j + 1, hj => by
    by_cases hk : k = j + 1
    · subst hk; exact h
    · have := runT_none h j (by omega)
      simp only [runT, this]
/-- Of a scenario that may be. -/
structure ScOk (s : Scn) : Prop where
  segs : SegsOk s.segs
  one : 1 ≤ s.segs.length
  f2 : 2 ≤ s.floors
  f3 : s.floors ≤ 128
  h1 : 1 ≤ s.horizon
  h2 : s.horizon ≤ 1048576
theorem stepT_some {s : Scn} {ws : List Nat} {t a p : Nat} {m : List P4} {b : Nat} (hw : ∀ w ∈ ws, w < 4294967296) (ha : a ≤ ws.length) (h : stepT s ws t a p = some (m, b)) : m.length ≤ 64 ∧ b ≤ ws.length := by
  unfold stepT at h
  split at h
  · simp only [Option.some.injEq, Prod.mk.injEq] at h; obtain ⟨rfl, rfl⟩ := h; exact ⟨by simp, ha⟩
  · rename_i i hi
    split at h
    · simp only [Option.some.injEq, Prod.mk.injEq] at h; obtain ⟨rfl, rfl⟩ := h; exact ⟨by simp, ha⟩
    · split at h
      · simp at h
      · rename_i w hwa
        split at h
        · simp at h
        · simp only [Option.some.injEq, Prod.mk.injEq] at h
          obtain ⟨rfl, rfl⟩ := h
          have := means_64 (rate := (s.segs.getD i zSeg).rate.toNat) (hw w (List.mem_of_getElem? hwa))
          rw [psgF_length, List.length_take]
          omega
theorem runT_some {s : Scn} {ws : List Nat} (hw : ∀ w ∈ ws, w < 4294967296) : ∀ {k : Nat} {l : List P4} {a : Nat}, runT s ws k = some (l, a) → l.length ≤ 64 * k ∧ a ≤ ws.length
  | 0, l, a, h => by simp only [runT, Option.some.injEq, Prod.mk.injEq] at h; obtain ⟨rfl, rfl⟩ := h; simp
  | k + 1, l, a, h => by
    cases hr : runT s ws k with
    | none => simp [runT, hr] at h
    | some p =>
      obtain ⟨l', a'⟩ := p
      have h2 := runT_some hw hr
      rw [runT_succ hr] at h
      split at h
      · simp at h
      · rename_i m b hs
        simp only [Option.some.injEq, Prod.mk.injEq] at h
        obtain ⟨rfl, rfl⟩ := h
        have h3 := stepT_some hw h2.2 hs
        rw [List.length_append]; omega
/-- Behind the end of all traffic nobody comes. -/
theorem runT_tot {s : Scn} (hs : ScOk s) {ws : List Nat} {k : Nat} (hk : totT s.segs ≤ k) : ∀ j, k ≤ j → runT s ws j = runT s ws k
  | 0, hj => by obtain rfl : k = 0 := by omega
                rfl
  | j + 1, hj => by
    by_cases h : k = j + 1
    · rw [h]
    · have ih := runT_tot hs (ws := ws) hk j (by omega)
      have h0 : atF s.segs (j : Int) = none := (atF_none hs.segs.all (by omega)).2 (by omega)
      cases hr : runT s ws j with
      | none => rw [runT_none hr (j + 1) (by omega), ← ih, hr]
      | some p =>
        obtain ⟨l, a⟩ := p
        rw [runT_succ hr, ← ih, hr]
        simp [stepT, h0]
theorem stepT_at {s : Scn} {ws : List Nat} {t a p j : Nat} {g : Seg} (h : atF s.segs (t : Int) = some j) (hg : s.segs.getD j zSeg = g) : stepT s ws t a p = if g.rate = 0 then some ([], a) else match ws[a]? with
    | none => none
    | some w => if ws.length < a + 1 + meansF (tbl g.rate.toNat) w then none else some (psgF (segK s g) t ((ws.drop (a + 1)).take (meansF (tbl g.rate.toNat) w)) p, a + 1 + meansF (tbl g.rate.toNat) w) := by
  unfold stepT
  simp only [h, hg]
  try (cases ws[a]? <;> rfl)
end Go.Am
