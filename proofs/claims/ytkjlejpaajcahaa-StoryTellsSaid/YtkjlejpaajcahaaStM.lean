/- Law 66: when a door is other than closed, by legs and by ticks (no program in it). -/
import Derived.Test.YtkjlejpaajcahaaStL
set_option linter.unusedVariables false
set_option linter.unusedSimpArgs false
set_option maxRecDepth 10000
set_option maxHeartbeats 1000000
namespace Go.Am
structure LegI (g : Leg) : Prop where
  tick : -1073741824 ≤ g.tick ∧ g.tick ≤ 1073741824
  pos : -1073741824 ≤ g.pos ∧ g.pos ≤ 1073741824
  dir : -1 ≤ g.dir ∧ g.dir ≤ 1
def Rise : List Leg → Prop
  | [] => True
  | g :: r => (∀ x ∈ r, g.tick < x.tick) ∧ Rise r
structure WayI (l : List Leg) : Prop where
  few : l.length ≤ 40
  ok : ∀ g ∈ l, LegI g
  up : Rise l
def Leg.at (g : Leg) (t : Int) : Int := g.pos + g.dir * (t - g.tick)
/-- The last leg that has begun. -/
def lastLe (t : Int) : Option Leg → List Leg → Option Leg
  | a, [] => a
  | a, g :: r => lastLe t (if g.tick ≤ t then some g else a) r
def tickV (l : List Leg) (t : Int) : Int × Bool := match lastLe t none l with
  | some g => (g.at t, g.door)
  | none => (0, false)
theorem lastLe_none (t : Int) : ∀ (l : List Leg) (a : Option Leg), (∀ g ∈ l, t < g.tick) → lastLe t a l = a
  | [], a, _ => rfl
  | g :: r, a, h => by
    have := h g (by simp)
    rw [lastLe, if_neg (by omega), lastLe_none t r a fun x hx => h x (by simp [hx])]
theorem lastLe_some (t : Int) : ∀ (l : List Leg) (a b : Option Leg), (∃ g ∈ l, g.tick ≤ t) → lastLe t a l = lastLe t b l
  | [], a, b, h => by simp at h
  | g :: r, a, b, h => by
    simp only [lastLe]
    by_cases hg : g.tick ≤ t
    · rw [if_pos hg, if_pos hg]
    · rw [if_neg hg, if_neg hg]
      obtain ⟨x, hx, hxt⟩ := h
      simp only [List.mem_cons] at hx
      rcases hx with rfl | hx
      · exact (hg hxt).elim
      · exact lastLe_some t r a b ⟨x, hx, hxt⟩
theorem lastLe_app (t : Int) : ∀ (a b : List Leg) (o : Option Leg), lastLe t o (a ++ b) = lastLe t (lastLe t o a) b
  | [], b, o => rfl
  | g :: a, b, o => by simp only [List.cons_append, lastLe, lastLe_app t a b]
theorem lastLe_snoc (t : Int) (a : List Leg) (g : Leg) (o : Option Leg) : lastLe t o (a ++ [g]) = if g.tick ≤ t then some g else lastLe t o a := by
  rw [lastLe_app]; rfl

/-! ### Spans -/
abbrev Sp := Int × Int
def Sp.cells (s : Sp) : List D := [.int .i64 s.1, .int .i64 s.2]
def setLast (out : List Sp) (y : Int) : List Sp := match out.getLast? with
  | none => []
  | some s => out.dropLast ++ [(s.1, y)]
theorem setLast_snoc (o : List Sp) (x y z : Int) : setLast (o ++ [(x, y)]) z = o ++ [(x, z)] := by simp [setLast]
theorem setLast_len (o : List Sp) (z : Int) : (setLast o z).length = o.length := by
  rcases List.eq_nil_or_concat o with rfl | ⟨o, ⟨x, y⟩, rfl⟩
  · rfl
  · rw [List.concat_eq_append, setLast_snoc]; simp
def endT (H : Int) : List Leg → Int
  | [] => H
  | g :: _ => min H g.tick
def lastTo (out : List Sp) (t : Int) : Bool := match out.getLast? with
  | none => false
  | some s => decide (s.2 = t)
theorem lastTo_snoc (o : List Sp) (x y t : Int) : lastTo (o ++ [(x, y)]) t = decide (y = t) := by simp [lastTo]
/-- One leg more. -/
def legS (out : List Sp) (g : Leg) (e : Int) : List Sp := if g.door = false ∨ e ≤ g.tick then out else if lastTo out g.tick = true then setLast out e else out ++ [(g.tick, e)]
def trk (H : Int) : List Sp → List Leg → List Sp
  | out, [] => out
  | out, g :: r => trk H (legS out g (endT H r)) r
/-- One tick more. -/
def tickS (t : Int) (p : Bool) (out : List Sp) (b : Bool) : List Sp := if b = true then (if p = true then setLast out (t + 1) else out ++ [(t, t + 1)]) else out
def rfd : Int → Bool → List Sp → List Bool → List Sp
  | _, _, out, [] => out
  | t, p, out, b :: bs => rfd (t + 1) b (tickS t p out b) bs
/-- Ticks from one on. -/
def tB {α : Type} (f : Int → α) (a : Int) : Nat → List α
  | 0 => []
  | n + 1 => f a :: tB f (a + 1) n
theorem tB_len {α : Type} (f : Int → α) : ∀ (n : Nat) (a : Int), (tB f a n).length = n
  | 0, a => rfl
  | n + 1, a => by simp [tB, tB_len f n]
theorem tB_add {α : Type} (f : Int → α) : ∀ (m n : Nat) (a : Int), tB f a (m + n) = tB f a m ++ tB f (a + m) n
  | 0, n, a => by simp [tB]
  | m + 1, n, a => by
    rw [show m + 1 + n = (m + n) + 1 by omega, tB, tB, tB_add f m n (a + 1), show a + 1 + (m : Int) = a + ((m + 1 : Nat) : Int) by omega]; rfl
theorem tB_snoc {α : Type} (f : Int → α) (n : Nat) (a : Int) : tB f a (n + 1) = tB f a n ++ [f (a + n)] := by rw [tB_add]; rfl
theorem tB_congr {α : Type} (f g : Int → α) : ∀ (n : Nat) (a : Int), (∀ t, a ≤ t → t < a + n → f t = g t) → tB f a n = tB g a n
  | 0, a, h => rfl
  | n + 1, a, h => by
    rw [tB, tB, h a (by omega) (by omega), tB_congr f g n (a + 1) fun t h1 h2 => h t (by omega) (by omega)]
theorem tB_const {α : Type} (d : α) : ∀ (n : Nat) (a : Int), tB (fun _ => d) a n = List.replicate n d
  | 0, a => rfl
  | n + 1, a => by rw [tB, tB_const d n, List.replicate_succ]
theorem tB_map {α β : Type} (f : Int → α) (g : α → β) : ∀ (n : Nat) (a : Int), (tB f a n).map g = tB (fun t => g (f t)) a n
  | 0, a => rfl
  | n + 1, a => by simp [tB, tB_map f g n]
theorem tB_get {α : Type} (f : Int → α) : ∀ (n : Nat) (a : Int) (i : Nat), i < n → (tB f a n)[i]? = some (f (a + i))
  | 0, a, i, h => by omega
  | n + 1, a, 0, h => by simp [tB]
  | n + 1, a, i + 1, h => by
    rw [tB, List.getElem?_cons_succ, tB_get f n (a + 1) i (by omega)]
    congr 2; omega
theorem rfd_app : ∀ (a b : List Bool) (t : Int) (p : Bool) (out : List Sp), ∃ q, rfd t p out (a ++ b) = rfd (t + a.length) q (rfd t p out a) b
  | [], b, t, p, out => ⟨p, by simp [rfd]⟩
  | x :: a, b, t, p, out => by
    obtain ⟨q, h⟩ := rfd_app a b (t + 1) x (tickS t p out x)
    refine ⟨q, ?_⟩
    simp only [List.cons_append, rfd, List.length_cons, h]
    congr 1; omega
theorem rfd_open (bs : List Bool) : ∀ (m : Nat) (t : Int) (o : List Sp) (x y : Int), rfd t true (o ++ [(x, y)]) (List.replicate (m + 1) true ++ bs) = rfd (t + m + 1) true (o ++ [(x, t + m + 1)]) bs
  | 0, t, o, x, y => by simp [rfd, tickS, setLast_snoc]
  | m + 1, t, o, x, y => by
    rw [List.replicate_succ, List.cons_append, rfd, tickS, if_pos rfl, if_pos rfl, setLast_snoc, rfd_open bs m]
    congr 1
    · omega
    · congr 3; omega
theorem rfd_shut (bs : List Bool) : ∀ (m : Nat) (t : Int) (p : Bool) (out : List Sp), rfd t p out (List.replicate (m + 1) false ++ bs) = rfd (t + m + 1) false out bs
  | 0, t, p, out => by simp [rfd, tickS]
  | m + 1, t, p, out => by
    rw [List.replicate_succ, List.cons_append, rfd, tickS, if_neg (by simp), rfd_shut bs m]
    congr 1; omega
def bL (H : Int) : List Leg → List Bool
  | [] => []
  | g :: r => List.replicate (endT H r - g.tick).toNat g.door ++ bL H r
theorem late {H : Int} : ∀ (l : List Leg) (out : List Sp), (∀ g ∈ l, H ≤ g.tick) → bL H l = [] ∧ trk H out l = out
  | [], out, h => ⟨rfl, rfl⟩
  | g :: r, out, h => by
    have hg := h g (by simp)
    have he : endT H r ≤ g.tick := by
      cases r with
      | nil => simpa [endT] using hg
      | cons x r => simp only [endT]; omega
    obtain ⟨h1, h2⟩ := late r out fun x hx => h x (by simp [hx])
    refine ⟨?_, ?_⟩
    · rw [bL, h1, show (endT H r - g.tick).toNat = 0 by omega]; rfl
    · rw [trk, legS, if_pos (.inr he), h2]
/-- What is told so far, and whether the door was open last. -/
def Jn (p : Bool) (out : List Sp) (t : Int) : Prop := (p = true → ∃ o x, out = o ++ [(x, t)]) ∧ (p = false → ∀ o x y, out = o ++ [(x, y)] → y < t)
theorem rfd_trk {H : Int} : ∀ (l : List Leg) (p : Bool) (out : List Sp) (t : Int), Rise l → (∀ g ∈ l.head?, g.tick = t) → Jn p out t → rfd t p out (bL H l) = trk H out l
  | [], p, out, t, hr, ht, hj => rfl
  | g :: r, p, out, t, hr, ht, hj => by
    have ht : g.tick = t := ht g (by simp)
    subst ht
    by_cases hH : H ≤ g.tick
    · obtain ⟨h1, h2⟩ := late (H := H) (g :: r) out fun x hx => by
        rcases List.mem_cons.1 hx with rfl | hx
        · exact hH
        · have := hr.1 x hx; omega
      rw [h1, h2]; rfl
    have he : g.tick < endT H r := by
      cases r with
      | nil => simp only [endT]; omega
      | cons x r => have := hr.1 x (by simp); simp only [endT]; omega
    obtain ⟨m, hm⟩ : ∃ m : Nat, endT H r = g.tick + m + 1 := ⟨(endT H r - g.tick - 1).toNat, by omega⟩
    have hn : (endT H r - g.tick).toNat = m + 1 := by omega
    -- what follows
    have next : ∀ (q : Bool) (o2 : List Sp), Jn q o2 (endT H r) → rfd (g.tick + m + 1) q o2 (bL H r) = trk H o2 r := by
      intro q o2 hq
      by_cases hc : ∀ x ∈ r, H ≤ x.tick
      · obtain ⟨h1, h2⟩ := late (H := H) r o2 hc
        rw [h1, h2]; rfl
      · rw [← hm]
        refine rfd_trk r q o2 _ hr.2 (fun x hx => ?_) hq
        cases r with
        | nil => simp at hx
        | cons y r =>
          simp only [List.head?_cons, Option.mem_some_iff] at hx
          subst hx
          simp only [endT]
          have : y.tick < H := by
            apply Classical.byContradiction
            intro h
            apply hc
            intro z hz
            rcases List.mem_cons.1 hz with rfl | hz
            · omega
            · have := hr.2.1 z hz; omega
          omega
    rw [bL, hn, trk]
    cases hd : g.door with
    | false =>
      rw [rfd_shut, legS, if_pos (.inl hd)]
      refine next false out ⟨by simp, fun _ o x y ho => ?_⟩
      cases p with
      | true =>
        obtain ⟨o', x', h'⟩ := hj.1 rfl
        rw [h'] at ho
        have := List.append_inj_right' ho rfl
        simp only [List.cons.injEq, Prod.mk.injEq, and_true] at this
        omega
      | false => have := hj.2 rfl o x y ho; omega
    | true =>
      rw [legS, if_neg (by simp [hd]; omega)]
      cases p with
      | true =>
        obtain ⟨o, x, rfl⟩ := hj.1 rfl
        rw [rfd_open, lastTo_snoc, if_pos (by simp), setLast_snoc, ← hm]
        rw [hm]
        exact next true _ ⟨fun _ => ⟨o, x, by rw [hm]⟩, by simp⟩
      | false =>
        have hl : lastTo out g.tick = false := by
          rcases List.eq_nil_or_concat out with rfl | ⟨o, ⟨x, y⟩, rfl⟩
          · rfl
          · rw [List.concat_eq_append, lastTo_snoc]
            have := hj.2 rfl o x y (by simp)
            simp; omega
        rw [if_neg (by simp [hl]), List.replicate_succ, List.cons_append, rfd, tickS, if_pos rfl, if_neg (by simp)]
        cases m with
        | zero =>
          simp only [List.replicate_zero, List.nil_append]
          have := next true (out ++ [(g.tick, endT H r)]) ⟨fun _ => ⟨out, g.tick, rfl⟩, by simp⟩
          rw [← this, hm]; simp
        | succ m =>
          rw [rfd_open]
          have := next true (out ++ [(g.tick, endT H r)]) ⟨fun _ => ⟨out, g.tick, rfl⟩, by simp⟩
          rw [← this, hm]
          congr 1
          · omega
          · congr 3; omega
/-- The ticks of a way are its legs' ticks. -/
theorem all_bL {H : Int} : ∀ (r : List Leg) (g : Leg), Rise (g :: r) → tB (fun t => (tickV (g :: r) t).2) g.tick (H - g.tick).toNat = bL H (g :: r)
  | [], g, hr => by
    rw [bL, bL, List.append_nil, endT, ← tB_const]
    apply tB_congr
    intro t h1 h2
    simp [tickV, lastLe, h1]
  | x :: r', g, hr => by
    have hx := hr.1 x (by simp)
    have far : ∀ t, x.tick ≤ t → (tickV (g :: x :: r') t).2 = (tickV (x :: r') t).2 := by
      intro t ht
      unfold tickV
      rw [lastLe, lastLe_some t (x :: r') _ none ⟨x, by simp, ht⟩]
    have near : ∀ t, g.tick ≤ t → t < x.tick → (tickV (g :: x :: r') t).2 = g.door := by
      intro t h1 h2
      unfold tickV
      rw [lastLe, if_pos h1, lastLe_none]
      intro y hy
      rcases List.mem_cons.1 hy with rfl | hy
      · exact h2
      · have := hr.2.1 y hy; omega
    by_cases c : H ≤ x.tick
    · obtain ⟨h1, -⟩ := late (H := H) (x :: r') [] fun y hy => by
        rcases List.mem_cons.1 hy with rfl | hy
        · exact c
        · have := hr.2.1 y hy; omega
      rw [bL, h1, List.append_nil, endT, show min H x.tick = H by omega, ← tB_const]
      apply tB_congr
      intro t p1 p2
      exact near t p1 (by omega)
    · rw [bL, ← all_bL r' x hr.2, endT, show min H x.tick = x.tick by omega, show (H - g.tick).toNat = (x.tick - g.tick).toNat + (H - x.tick).toNat by omega, tB_add]
      congr 1
      · rw [← tB_const]
        apply tB_congr
        intro t p1 p2
        exact near t p1 (by omega)
      · rw [show g.tick + ((x.tick - g.tick).toNat : Int) = x.tick by omega]
        apply tB_congr
        intro t p1 p2
        exact far t p1
/-- Both ways to tell it. -/
theorem doors_same (H : Int) (g : Leg) (r : List Leg) (hr : Rise (g :: r)) : rfd g.tick false [] ((tB (tickV (g :: r)) g.tick (H - g.tick).toNat).map (·.2)) = trk H [] (g :: r) := by
  rw [tB_map, all_bL r g hr]
  refine rfd_trk (g :: r) false [] g.tick hr (by simp) ⟨by simp, fun _ o x y h => by simp at h⟩
theorem legS_len (out : List Sp) (g : Leg) (e : Int) : (legS out g e).length ≤ out.length + 1 := by
  unfold legS; split
  · omega
  · split
    · rw [setLast_len]; omega
    · simp
theorem trk_len (H : Int) : ∀ (l : List Leg) (out : List Sp), (trk H out l).length ≤ out.length + l.length
  | [], out => by simp [trk]
  | g :: r, out => by
    have h1 := trk_len H r (legS out g (endT H r))
    have h2 := legS_len out g (endT H r)
    simp only [trk, List.length_cons]; omega
end Go.Am
