/- Law 48: ways of cars, leg by leg and tick by tick. -/
import Derived.Test.YtmepibdbnbmapaaVet
set_option linter.unusedVariables false
set_option linter.unusedSimpArgs false
set_option maxRecDepth 10000
set_option maxHeartbeats 1000000
namespace Go.Am
/-- Where a car is behind a tick of a leg. -/
def Leg.at (g : Leg) (t : Int) : Int := g.pos + g.dir * (t - g.tick)
/-- Can a leg be, ahead of e, of a car that was there? -/
def legB (s : Scn) (g : Leg) (e before : Int) (door : Bool) : Bool :=
  if (g.dir < -1 ∨ 1 < g.dir) ∨ (g.dir ≠ 0 ∧ g.door = true ∧ 1 < e - g.tick) ∨ 1 < max (before - g.pos) (g.pos - before) then false
  else if min g.pos (g.pos + g.dir * (e - g.tick - 1)) < 0 ∨ (s.floors - 1) * s.gap < max g.pos (g.pos + g.dir * (e - g.tick - 1)) then false
  else if max (before - g.pos) (g.pos - before) = 1 ∧ (door = true ∨ g.door = true) then false
  else !g.door || decide (g.pos % s.gap = 0)
/-- Where a leg ends. -/
def endL (H : Int) : List Leg → Int
  | [] => H
  | g :: _ => g.tick
def wayGo (s : Scn) : Bool → Int → Bool → List Leg → Bool
  | _, _, _, [] => true
  | fst, before, door, g :: r =>
    if (fst = true ∧ g.tick ≠ 0) ∨ endL s.horizon r ≤ g.tick ∨ s.horizon < endL s.horizon r ∨ legB s g (endL s.horizon r) before door = false then false
    else wayGo s false (g.pos + g.dir * (endL s.horizon r - g.tick - 1)) g.door r
/-- Tick by tick. -/
def tickOk (s : Scn) (was x : Int × Bool) : Bool :=
  !((decide (x.1 - was.1 < -1) || decide (1 < x.1 - was.1)) || (decide (x.1 - was.1 ≠ 0) && (x.2 || was.2)) || decide (x.1 < 0) || decide ((s.floors - 1) * s.gap < x.1) || (x.2 && decide (x.1 % s.gap ≠ 0)))
def chain (s : Scn) : Int × Bool → List (Int × Bool) → Bool
  | _, [] => true
  | was, x :: r => tickOk s was x && chain s x r
theorem chain_app (s : Scn) : ∀ (a b : List (Int × Bool)) (was : Int × Bool), chain s was (a ++ b) = (chain s was a && chain s (a.getLastD was) b)
  | [], b, was => by simp [chain]
  | x :: a, b, was => by
    simp only [List.cons_append, chain, chain_app s a b x, List.getLastD_cons, Bool.and_assoc]
/-- The ticks of a leg. -/
def segX (p d : Int) (door : Bool) : Nat → List (Int × Bool)
  | 0 => []
  | n + 1 => (p, door) :: segX (p + d) d door n
theorem segX_last (door : Bool) (d : Int) : ∀ (n : Nat) (p : Int) (was : Int × Bool), (segX p d door (n + 1)).getLastD was = (p + d * n, door)
  | 0, p, was => by simp [segX]
  | n + 1, p, was => by
    have := segX_last door d n (p + d) (p, door)
    rw [segX, List.getLastD_cons, this]
    have e : p + d + d * (n : Int) = p + d * ((n + 1 : Nat) : Int) := by
      rw [Int.natCast_add, Int.mul_add]; simp; omega
    rw [e]
theorem segX_get (door : Bool) (d : Int) : ∀ (n : Nat) (p : Int) (j : Nat), j < n → (segX p d door n)[j]? = some (p + d * j, door)
  | 0, p, j, h => by omega
  | n + 1, p, 0, h => by simp [segX]
  | n + 1, p, j + 1, h => by
    rw [segX, List.getElem?_cons_succ, segX_get door d n (p + d) j (by omega)]
    have e : p + d + d * (j : Int) = p + d * ((j + 1 : Nat) : Int) := by
      rw [Int.natCast_add, Int.mul_add]; simp; omega
    rw [e]
theorem segX_len (door : Bool) (d : Int) : ∀ (n : Nat) (p : Int), (segX p d door n).length = n
  | 0, p => rfl
  | n + 1, p => by simp [segX, segX_len door d n]
/-- Within a leg, behind its first tick. -/
theorem chain_seg (s : Scn) (door : Bool) (d : Int) (hd : d = -1 ∨ d = 0 ∨ d = 1) : ∀ (n : Nat) (p : Int), (0 ≤ p ∧ p ≤ (s.floors - 1) * s.gap) → (door = true → p % s.gap = 0) →
    (chain s (p, door) (segX (p + d) d door n) = true ↔ ((d ≠ 0 ∧ door = true → n = 0) ∧ 0 ≤ p + d * n ∧ p + d * n ≤ (s.floors - 1) * s.gap))
  | 0, p, hp, hg => by simp [segX, chain]; omega
  | n + 1, p, hp, hg => by
    have e : p + d * ((n + 1 : Nat) : Int) = p + d + d * n := by rw [Int.natCast_add, Int.mul_add]; simp; omega
    simp only [segX, chain, Bool.and_eq_true]
    by_cases hr : 0 ≤ p + d ∧ p + d ≤ (s.floors - 1) * s.gap
    · by_cases hdd : d ≠ 0 ∧ door = true
      · have : tickOk s (p, door) (p + d, door) = false := by
          obtain ⟨h1, rfl⟩ := hdd
          have : p + d - p ≠ 0 := by omega
          simp [tickOk, this]
        rw [this]; simp [hdd]
      · have hg' : door = true → (p + d) % s.gap = 0 := fun h => by
          have : d = 0 := Decidable.not_not.1 fun h0 => hdd ⟨h0, h⟩
          rw [this, Int.add_zero]; exact hg h
        have ht : tickOk s (p, door) (p + d, door) = true := by
          have a1 : ¬ p + d - p < -1 := by omega
          have a2 : ¬ 1 < p + d - p := by omega
          have a3 : ¬ p + d < 0 := by omega
          have a4 : ¬ (s.floors - 1) * s.gap < p + d := by omega
          cases door with
          | false => simp [tickOk, a1, a2, a3, a4]
          | true =>
            have h0 : d = 0 := Decidable.not_not.1 fun h0 => hdd ⟨h0, rfl⟩
            have := hg' rfl
            subst h0
            simp at this a3 a4
            simp [tickOk, a3, a4, this]
        rw [ht, chain_seg s door d hd n (p + d) hr hg', e]
        simp only [true_and]
        constructor
        · rintro ⟨h1, h2⟩; exact ⟨fun h => (hdd h).elim, h2⟩
        · rintro ⟨h1, h2⟩; exact ⟨fun h => (hdd h).elim, h2⟩
    · have ht : tickOk s (p, door) (p + d, door) = false := by
        by_cases a3 : p + d < 0
        · simp [tickOk, a3]
        · have a4 : (s.floors - 1) * s.gap < p + d := by omega
          simp [tickOk, a4]
      rw [ht]
      simp only [Bool.false_eq_true, false_and, false_iff]
      rintro ⟨h1, h2, h3⟩
      rw [e] at h2 h3
      rcases hd with rfl | rfl | rfl <;> omega
/-- A leg is right just if its ticks are. -/
theorem leg_chain (s : Scn) (g : Leg) (e before : Int) (door : Bool) (hd : ¬ (g.dir < -1 ∨ 1 < g.dir)) (n : Nat) (hn : e - g.tick = n + 1) :
    legB s g e before door = chain s (before, door) (segX g.pos g.dir g.door (n + 1)) := by
  have hd3 : g.dir = -1 ∨ g.dir = 0 ∨ g.dir = 1 := by omega
  have e1 : g.pos + g.dir * (e - g.tick - 1) = g.pos + g.dir * n := by rw [hn]; congr 2; omega
  simp only [segX, chain]
  unfold legB
  rw [e1]
  generalize hT : (s.floors - 1) * s.gap = T
  by_cases ht : tickOk s (before, door) (g.pos, g.door) = true
  · rw [ht, Bool.true_and]
    simp only [tickOk, hT, Bool.not_eq_true', Bool.or_eq_false_iff, Bool.and_eq_false_imp, decide_eq_false_iff_not, decide_eq_true_eq] at ht
    obtain ⟨⟨⟨⟨⟨h1, h2⟩, h3⟩, h4⟩, h5⟩, h6⟩ := ht
    have hm : g.door = true → g.pos % s.gap = 0 := fun h => Decidable.not_not.1 (h6 h)
    have hc := chain_seg s g.door g.dir hd3 n g.pos (by rw [hT]; omega) hm
    rw [hT] at hc
    have b1 : ¬ 1 < max (before - g.pos) (g.pos - before) := by omega
    by_cases c1 : g.dir ≠ 0 ∧ g.door = true ∧ 1 < e - g.tick
    · rw [if_pos (.inr (.inl c1))]
      symm
      rw [← Bool.not_eq_true, hc]
      rintro ⟨q1, _⟩
      have := q1 ⟨c1.1, c1.2.1⟩
      omega
    rw [if_neg (by rintro (h | h | h) <;> contradiction)]
    by_cases c2 : min g.pos (g.pos + g.dir * n) < 0 ∨ T < max g.pos (g.pos + g.dir * n)
    · rw [if_pos c2]
      symm
      rw [← Bool.not_eq_true, hc]
      rintro ⟨_, q2, q3⟩
      omega
    rw [if_neg c2]
    have c3 : ¬ (max (before - g.pos) (g.pos - before) = 1 ∧ (door = true ∨ g.door = true)) := by
      rintro ⟨q1, q2⟩
      have := h3 (by omega)
      rcases q2 with h | h
      · rw [h] at this; simp at this
      · rw [h] at this; simp at this
    rw [if_neg c3]
    have hR : chain s (g.pos, g.door) (segX (g.pos + g.dir) g.dir g.door n) = true := hc.2 ⟨fun h => by
        have : ¬ 1 < e - g.tick := fun h' => c1 ⟨h.1, h.2, h'⟩
        omega, by omega, by omega⟩
    rw [hR]
    cases hdo : g.door with
    | false => rfl
    | true => simp [hm hdo]
  · simp only [Bool.not_eq_true] at ht
    rw [ht, Bool.false_and]
    split
    · rfl
    split
    · rfl
    split
    · rfl
    rename_i q1 q2 q3
    simp only [not_or] at q1 q2
    obtain ⟨_, _, q1⟩ := q1
    simp only [tickOk, hT, Bool.not_eq_false', Bool.or_eq_true, Bool.and_eq_true, decide_eq_true_eq] at ht
    rcases ht with ((((h | h) | ⟨h, h'⟩) | h) | h) | ⟨h, h'⟩
    · omega
    · omega
    · exfalso; refine q3 ⟨by omega, h'.symm⟩
    · omega
    · omega
    · simp [h, h']
/-- The ticks of all legs. -/
def expandL (H : Int) : List Leg → List (Int × Bool)
  | [] => []
  | g :: r => segX g.pos g.dir g.door (endL H r - g.tick).toNat ++ expandL H r
/-- What ways must look like. -/
def shapeGo (H : Int) : Bool → List Leg → Bool
  | _, [] => true
  | fst, g :: r => !((fst && decide (g.tick ≠ 0)) || decide (endL H r ≤ g.tick) || decide (H < endL H r) || decide (g.dir < -1) || decide (1 < g.dir)) && shapeGo H false r
theorem shapeGo_cons {H : Int} {fst : Bool} {g : Leg} {r : List Leg} : shapeGo H fst (g :: r) = true ↔ (fst = true → g.tick = 0) ∧ g.tick < endL H r ∧ endL H r ≤ H ∧ (-1 ≤ g.dir ∧ g.dir ≤ 1) ∧ shapeGo H false r = true := by
  rw [shapeGo]
  simp only [Bool.and_eq_true, Bool.not_eq_true', Bool.or_eq_false_iff, Bool.and_eq_false_imp, decide_eq_false_iff_not, Decidable.not_not]
  constructor
  · rintro ⟨⟨⟨⟨⟨h1, h2⟩, h3⟩, h4⟩, h5⟩, h6⟩
    exact ⟨h1, by omega, by omega, by omega, h6⟩
  · rintro ⟨h1, h2, h3, h4, h6⟩
    exact ⟨⟨⟨⟨⟨h1, by omega⟩, by omega⟩, by omega⟩, by omega⟩, h6⟩
theorem way_chain (s : Scn) : ∀ (l : List Leg) (fst : Bool) (before : Int) (door : Bool), wayGo s fst before door l = (shapeGo s.horizon fst l && chain s (before, door) (expandL s.horizon l)) ∨ (wayGo s fst before door l = false ∧ shapeGo s.horizon fst l = false)
  | [], fst, before, door => .inl (by simp [wayGo, shapeGo, chain, expandL])
  | g :: r, fst, before, door => by
    by_cases c : (fst = true ∧ g.tick ≠ 0) ∨ endL s.horizon r ≤ g.tick ∨ s.horizon < endL s.horizon r ∨ (g.dir < -1 ∨ 1 < g.dir)
    · right
      constructor
      · rw [wayGo, if_pos]
        rcases c with c | c | c | c
        · exact .inl c
        · exact .inr (.inl c)
        · exact .inr (.inr (.inl c))
        · refine .inr (.inr (.inr ?_))
          unfold legB; rw [if_pos (.inl c)]
      · simp only [shapeGo]
        rcases c with ⟨h1, h2⟩ | c | c | c | c
        · simp [h1, h2]
        · simp [c]
        · simp [c]
        · simp [c]
        · simp [c]
    · simp only [not_or] at c
      obtain ⟨c1, c2, c3, c4, c5⟩ := c
      have hsh : shapeGo s.horizon fst (g :: r) = shapeGo s.horizon false r := by
        rw [Bool.eq_iff_iff, shapeGo_cons]
        constructor
        · rintro ⟨_, _, _, _, h⟩; exact h
        · intro h; exact ⟨fun hf => Decidable.not_not.1 fun h0 => c1 ⟨hf, h0⟩, by omega, by omega, by omega, h⟩
      obtain ⟨n, hn⟩ : ∃ n : Nat, endL s.horizon r - g.tick = n + 1 := ⟨(endL s.horizon r - g.tick - 1).toNat, by omega⟩
      have hlc := leg_chain s g (endL s.horizon r) before door (by omega) n hn
      have hto : (endL s.horizon r - g.tick).toNat = n + 1 := by omega
      rw [hsh]
      simp only [expandL, hto]
      rw [chain_app, ← hlc, segX_last, wayGo]
      have he : g.pos + g.dir * (endL s.horizon r - g.tick - 1) = g.pos + g.dir * n := by rw [hn]; congr 2; omega
      cases hL : legB s g (endL s.horizon r) before door with
      | false => left; simp
      | true =>
        rw [if_neg (by simp only [not_or]; exact ⟨c1, c2, c3, by simp⟩), he]
        rcases way_chain s r false (g.pos + g.dir * n) g.door with h | ⟨h1, h2⟩
        · left; rw [h]; simp
        · right; exact ⟨h1, h2⟩
/-- The last leg that has begun. -/
def lastLe (t : Int) : Option Leg → List Leg → Option Leg
  | a, [] => a
  | a, g :: r => lastLe t (if g.tick ≤ t then some g else a) r
def tickV (l : List Leg) (t : Int) : Int × Bool := match lastLe t none l with
  | some g => (g.at t, g.door)
  | none => (0, false)
theorem lastLe_none (t : Int) : ∀ (l : List Leg) (a : Option Leg), (∀ g ∈ l, t < g.tick) → lastLe t a l = a
  | [], a, _ => rfl
  | g :: r, a, h => by
    have := h g (by simp)
    rw [lastLe, if_neg (by omega), lastLe_none t r a fun x hx => h x (by simp [hx])]
theorem lastLe_some (t : Int) : ∀ (l : List Leg) (a b : Option Leg), (∃ g ∈ l, g.tick ≤ t) → lastLe t a l = lastLe t b l
  | [], a, b, h => by simp at h
  | g :: r, a, b, h => by
    simp only [lastLe]
    by_cases hg : g.tick ≤ t
    · rw [if_pos hg, if_pos hg]
    · rw [if_neg hg, if_neg hg]
      obtain ⟨x, hx, hxt⟩ := h
      simp only [List.mem_cons] at hx
      rcases hx with rfl | hx
      · exact (hg hxt).elim
      · exact lastLe_some t r a b ⟨x, hx, hxt⟩
theorem lastLe_app (t : Int) : ∀ (a b : List Leg) (o : Option Leg), lastLe t o (a ++ b) = lastLe t (lastLe t o a) b
  | [], b, o => rfl
  | g :: a, b, o => by simp only [List.cons_append, lastLe, lastLe_app t a b]
theorem lastLe_snoc (t : Int) (a : List Leg) (g : Leg) (o : Option Leg) : lastLe t o (a ++ [g]) = if g.tick ≤ t then some g else lastLe t o a := by
  rw [lastLe_app]; rfl
theorem shape_ge {H : Int} : ∀ {r : List Leg} {fst : Bool} {g : Leg}, shapeGo H fst (g :: r) = true → ∀ x ∈ r, g.tick < x.tick
  | [], fst, g, _, x, hx => by simp at hx
  | g' :: r, fst, g, h, x, hx => by
    obtain ⟨_, h1, _, _, hs⟩ := shapeGo_cons.1 h
    have hlt : g.tick < g'.tick := h1
    simp only [List.mem_cons] at hx
    rcases hx with rfl | hx
    · exact hlt
    · have := shape_ge hs x hx
      omega
def allT (l : List Leg) (a : Int) (n : Nat) : List (Int × Bool) := (List.range n).map fun (j : Nat) => tickV l (a + j)
theorem allT_get (l : List Leg) (a : Int) (n j : Nat) : (allT l a n)[j]? = if j < n then some (tickV l (a + j)) else none := by
  unfold allT
  rw [List.getElem?_map]
  by_cases h : j < n
  · rw [List.getElem?_range h, if_pos h]; rfl
  · rw [List.getElem?_eq_none (by simpa using h), if_neg h]; rfl
theorem expand_all {H : Int} : ∀ {r : List Leg} {fst : Bool} {g : Leg}, shapeGo H fst (g :: r) = true → allT (g :: r) g.tick (H - g.tick).toNat = expandL H (g :: r)
  | [], fst, g, h => by
    simp only [expandL, endL, List.append_nil]
    apply List.ext_getElem?
    intro j
    rw [allT_get]
    split
    · rename_i hj
      rw [segX_get g.door g.dir _ _ _ hj]
      have : g.tick ≤ g.tick + (j : Int) := by omega
      simp only [tickV, lastLe, if_pos this, Leg.at]
      rw [show g.tick + (j : Int) - g.tick = j by omega]
    · rename_i hj
      symm; rw [List.getElem?_eq_none_iff, segX_len]; omega
  | g' :: r, fst, g, h => by
    have hge := shape_ge h
    obtain ⟨_, h1, h1', _, hs⟩ := shapeGo_cons.1 h
    have hlt : g.tick < g'.tick := h1
    have hH : g'.tick ≤ H := h1'
    have ih := expand_all hs
    have hge' := shape_ge hs
    rw [expandL, ← ih]
    simp only [endL]
    apply List.ext_getElem?
    intro j
    rw [allT_get]
    by_cases hj : j < (g'.tick - g.tick).toNat
    · rw [if_pos (by omega), List.getElem?_append_left (by rw [segX_len]; exact hj), segX_get g.door g.dir _ _ _ hj]
      have hn : lastLe (g.tick + (j : Int)) (some g) (g' :: r) = some g := lastLe_none _ _ _ fun x hx => by
        simp only [List.mem_cons] at hx
        rcases hx with rfl | hx
        · omega
        · have := hge' x hx; omega
      have : g.tick ≤ g.tick + (j : Int) := by omega
      simp only [tickV]
      rw [lastLe, if_pos this, hn]
      simp only [Leg.at]
      rw [show g.tick + (j : Int) - g.tick = j by omega]
    · rw [List.getElem?_append_right (by rw [segX_len]; omega), segX_len, allT_get]
      by_cases hj2 : j < (H - g.tick).toNat
      · rw [if_pos hj2, if_pos (by omega)]
        have e : g.tick + (j : Int) = g'.tick + ((j - (g'.tick - g.tick).toNat : Nat) : Int) := by omega
        have : g.tick ≤ g.tick + (j : Int) := by omega
        simp only [tickV]
        rw [lastLe, if_pos this, lastLe_some _ (g' :: r) (some g) none ⟨g', by simp, by omega⟩, e]
      · rw [if_neg hj2, if_neg (by omega)]
/-- A way, leg by leg. -/
def wayP (s : Scn) (home : Int) (l : List Leg) : Bool := wayGo s true (home * s.gap) false l && decide (l ≠ [])
/-- A way, tick by tick. -/
def wayR (s : Scn) (home : Int) (l : List Leg) : Bool := (shapeGo s.horizon true l && decide (l ≠ [])) && chain s (home * s.gap, false) (allT l 0 s.horizon.toNat)
theorem way_same (s : Scn) (home : Int) (l : List Leg) : wayP s home l = wayR s home l := by
  unfold wayP wayR
  rcases way_chain s l true (home * s.gap) false with h | ⟨h1, h2⟩
  · rw [h]
    cases hs : shapeGo s.horizon true l with
    | false => simp
    | true =>
      cases l with
      | nil => simp
      | cons g r =>
        have hg : g.tick = 0 := (shapeGo_cons.1 hs).1 rfl
        have := expand_all hs
        rw [hg, Int.sub_zero] at this
        rw [this]; simp
  · rw [h1, h2]; simp
end Go.Am
