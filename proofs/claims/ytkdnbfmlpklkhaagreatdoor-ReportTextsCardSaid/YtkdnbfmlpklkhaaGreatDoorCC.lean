import Derived.Test.YtkdnbfmlpklkhaaGreatDoorK
import Derived.Test.YtkdnbfmlpklkhaaGreatDoorCA
import Derived.Test.YtkdnbfmlpklkhaaGreatDoorCB
set_option maxHeartbeats 8000000
set_option maxRecDepth 20000
set_option linter.unusedVariables false
set_option linter.unusedSimpArgs false
namespace Go.Am
structure LegI (g : Leg) : Prop where
 tick : -1073741824 ≤ g.tick ∧ g.tick ≤ 1073741824
 pos : -1073741824 ≤ g.pos ∧ g.pos ≤ 1073741824
 dir : -1 ≤ g.dir ∧ g.dir ≤ 1
def Rise : List Leg → Prop
 | [] => True
 | g :: r => (∀ x ∈ r, g.tick < x.tick) ∧ Rise r
structure WayI (l : List Leg) : Prop where
 few : l.length ≤ 40
 ok : ∀ g ∈ l, LegI g
 up : Rise l
def Leg.at (g : Leg) (t : Int) : Int := g.pos + g.dir * (t - g.tick)
def lastLe (t : Int) : Option Leg → List Leg → Option Leg
 | a, [] => a
 | a, g :: r => lastLe t (if g.tick ≤ t then some g else a) r
def tickV (l : List Leg) (t : Int) : Int × Bool := match lastLe t none l with
 | some g => (g.at t, g.door)
 | none => (0, false)
theorem lastLe_none (t : Int) : ∀ (l : List Leg) (a : Option Leg), (∀ g ∈ l, t < g.tick) → lastLe t a l = a
 | [], a, _ => rfl
 | g :: r, a, h => by
  have := h g (by simp)
  rw [lastLe, if_neg (by omega), lastLe_none t r a fun x hx => h x (by simp [hx])]
theorem lastLe_some (t : Int) : ∀ (l : List Leg) (a b : Option Leg), (∃ g ∈ l, g.tick ≤ t) → lastLe t a l = lastLe t b l
 | [], a, b, h => by simp at h
 | g :: r, a, b, h => by
  simp only [lastLe]
  by_cases hg : g.tick ≤ t
  ·rw [if_pos hg, if_pos hg]
  ·rw [if_neg hg, if_neg hg]
   obtain ⟨x, hx, hxt⟩ := h
   simp only [List.mem_cons] at hx
   rcases hx with rfl | hx
   ·exact (hg hxt).elim
   ·exact lastLe_some t r a b ⟨x, hx, hxt⟩
theorem lastLe_app (t : Int) : ∀ (a b : List Leg) (o : Option Leg), lastLe t o (a ++ b) = lastLe t (lastLe t o a) b
 | [], b, o => rfl
 | g :: a, b, o => by simp only [List.cons_append, lastLe, lastLe_app t a b]
theorem lastLe_snoc (t : Int) (a : List Leg) (g : Leg) (o : Option Leg) : lastLe t o (a ++ [g]) = if g.tick ≤ t then some g else lastLe t o a := by
 rw [lastLe_app]; rfl
abbrev Sp := Int × Int
def Sp.cells (s : Sp) : List D := [.int .i64 s.1, .int .i64 s.2]
def setLast (out : List Sp) (y : Int) : List Sp := match out.getLast? with
 | none => []
 | some s => out.dropLast ++ [(s.1, y)]
theorem setLast_snoc (o : List Sp) (x y z : Int) : setLast (o ++ [(x, y)]) z = o ++ [(x, z)] := by simp [setLast]
theorem setLast_len (o : List Sp) (z : Int) : (setLast o z).length = o.length := by
 rcases List.eq_nil_or_concat o with rfl | ⟨o, ⟨x, y⟩, rfl⟩
 ·rfl
 ·rw [List.concat_eq_append, setLast_snoc]; simp
def endT (H : Int) : List Leg → Int
 | [] => H
 | g :: _ => min H g.tick
def lastTo (out : List Sp) (t : Int) : Bool := match out.getLast? with
 | none => false
 | some s => decide (s.2 = t)
theorem lastTo_snoc (o : List Sp) (x y t : Int) : lastTo (o ++ [(x, y)]) t = decide (y = t) := by simp [lastTo]
def legS (out : List Sp) (g : Leg) (e : Int) : List Sp := if g.door = false ∨ e ≤ g.tick then out else if lastTo out g.tick = true then setLast out e else out ++ [(g.tick, e)]
def trk (H : Int) : List Sp → List Leg → List Sp
 | out, [] => out
 | out, g :: r => trk H (legS out g (endT H r)) r
def tickS (t : Int) (p : Bool) (out : List Sp) (b : Bool) : List Sp := if b = true then (if p = true then setLast out (t + 1) else out ++ [(t, t + 1)]) else out
def rfd : Int → Bool → List Sp → List Bool → List Sp
 | _, _, out, [] => out
 | t, p, out, b :: bs => rfd (t + 1) b (tickS t p out b) bs
def tB {α : Type} (f : Int → α) (a : Int) : Nat → List α
 | 0 => []
 | n + 1 => f a :: tB f (a + 1) n
theorem tB_len {α : Type} (f : Int → α) : ∀ (n : Nat) (a : Int), (tB f a n).length = n
 | 0, a => rfl
 | n + 1, a => by simp [tB, tB_len f n]
theorem tB_add {α : Type} (f : Int → α) : ∀ (m n : Nat) (a : Int), tB f a (m + n) = tB f a m ++ tB f (a + m) n
 | 0, n, a => by simp [tB]
 | m + 1, n, a => by
  rw [show m + 1 + n = (m + n) + 1 by omega, tB, tB, tB_add f m n (a + 1), show a + 1 + (m : Int) = a + ((m + 1 : Nat) : Int) by omega]; rfl
theorem tB_snoc {α : Type} (f : Int → α) (n : Nat) (a : Int) : tB f a (n + 1) = tB f a n ++ [f (a + n)] := by rw [tB_add]; rfl
theorem tB_congr {α : Type} (f g : Int → α) : ∀ (n : Nat) (a : Int), (∀ t, a ≤ t → t < a + n → f t = g t) → tB f a n = tB g a n
 | 0, a, h => rfl
 | n + 1, a, h => by
  rw [tB, tB, h a (by omega) (by omega), tB_congr f g n (a + 1) fun t h1 h2 => h t (by omega) (by omega)]
theorem tB_const {α : Type} (d : α) : ∀ (n : Nat) (a : Int), tB (fun _ => d) a n = List.replicate n d
 | 0, a => rfl
 | n + 1, a => by rw [tB, tB_const d n, List.replicate_succ]
theorem tB_map {α β : Type} (f : Int → α) (g : α → β) : ∀ (n : Nat) (a : Int), (tB f a n).map g = tB (fun t => g (f t)) a n
 | 0, a => rfl
 | n + 1, a => by simp [tB, tB_map f g n]
theorem tB_get {α : Type} (f : Int → α) : ∀ (n : Nat) (a : Int) (i : Nat), i < n → (tB f a n)[i]? = some (f (a + i))
 | 0, a, i, h => by omega
 | n + 1, a, 0, h => by simp [tB]
 | n + 1, a, i + 1, h => by
  rw [tB, List.getElem?_cons_succ, tB_get f n (a + 1) i (by omega)]
  congr 2; omega
theorem rfd_app : ∀ (a b : List Bool) (t : Int) (p : Bool) (out : List Sp), ∃ q, rfd t p out (a ++ b) = rfd (t + a.length) q (rfd t p out a) b
 | [], b, t, p, out => ⟨p, by simp [rfd]⟩
 | x :: a, b, t, p, out => by
  obtain ⟨q, h⟩ := rfd_app a b (t + 1) x (tickS t p out x)
  refine ⟨q, ?_⟩
  simp only [List.cons_append, rfd, List.length_cons, h]
  congr 1; omega
theorem rfd_open (bs : List Bool) : ∀ (m : Nat) (t : Int) (o : List Sp) (x y : Int), rfd t true (o ++ [(x, y)]) (List.replicate (m + 1) true ++ bs) = rfd (t + m + 1) true (o ++ [(x, t + m + 1)]) bs
 | 0, t, o, x, y => by simp [rfd, tickS, setLast_snoc]
 | m + 1, t, o, x, y => by
  rw [List.replicate_succ, List.cons_append, rfd, tickS, if_pos rfl, if_pos rfl, setLast_snoc, rfd_open bs m]
  congr 1
  ·omega
  ·congr 3; omega
theorem rfd_shut (bs : List Bool) : ∀ (m : Nat) (t : Int) (p : Bool) (out : List Sp), rfd t p out (List.replicate (m + 1) false ++ bs) = rfd (t + m + 1) false out bs
 | 0, t, p, out => by simp [rfd, tickS]
 | m + 1, t, p, out => by
  rw [List.replicate_succ, List.cons_append, rfd, tickS, if_neg (by simp), rfd_shut bs m]
  congr 1; omega
def bL (H : Int) : List Leg → List Bool
 | [] => []
 | g :: r => List.replicate (endT H r - g.tick).toNat g.door ++ bL H r
theorem late {H : Int} : ∀ (l : List Leg) (out : List Sp), (∀ g ∈ l, H ≤ g.tick) → bL H l = [] ∧ trk H out l = out
 | [], out, h => ⟨rfl, rfl⟩
 | g :: r, out, h => by
  have hg := h g (by simp)
  have he : endT H r ≤ g.tick := by
   cases r with
   | nil => simpa [endT] using hg
   | cons x r => simp only [endT]; omega
  obtain ⟨h1, h2⟩ := late r out fun x hx => h x (by simp [hx])
  refine ⟨?_, ?_⟩
  ·rw [bL, h1, show (endT H r - g.tick).toNat = 0 by omega]; rfl
  ·rw [trk, legS, if_pos (.inr he), h2]
def Jn (p : Bool) (out : List Sp) (t : Int) : Prop := (p = true → ∃ o x, out = o ++ [(x, t)]) ∧ (p = false → ∀ o x y, out = o ++ [(x, y)] → y < t)
theorem rfd_trk {H : Int} : ∀ (l : List Leg) (p : Bool) (out : List Sp) (t : Int), Rise l → (∀ g ∈ l.head?, g.tick = t) → Jn p out t → rfd t p out (bL H l) = trk H out l
 | [], p, out, t, hr, ht, hj => rfl
 | g :: r, p, out, t, hr, ht, hj => by
  have ht : g.tick = t := ht g (by simp)
  subst ht
  by_cases hH : H ≤ g.tick
  ·obtain ⟨h1, h2⟩ := late (H := H) (g :: r) out fun x hx => by
    rcases List.mem_cons.1 hx with rfl | hx
    ·exact hH
    ·have := hr.1 x hx; omega
   rw [h1, h2]; rfl
  have he : g.tick < endT H r := by
   cases r with
   | nil => simp only [endT]; omega
   | cons x r => have := hr.1 x (by simp); simp only [endT]; omega
  obtain ⟨m, hm⟩ : ∃ m : Nat, endT H r = g.tick + m + 1 := ⟨(endT H r - g.tick - 1).toNat, by omega⟩
  have hn : (endT H r - g.tick).toNat = m + 1 := by omega
  have next : ∀ (q : Bool) (o2 : List Sp), Jn q o2 (endT H r) → rfd (g.tick + m + 1) q o2 (bL H r) = trk H o2 r := by
   intro q o2 hq
   by_cases hc : ∀ x ∈ r, H ≤ x.tick
   ·obtain ⟨h1, h2⟩ := late (H := H) r o2 hc
    rw [h1, h2]; rfl
   ·rw [← hm]
    refine rfd_trk r q o2 _ hr.2 (fun x hx => ?_) hq
    cases r with
    | nil => simp at hx
    | cons y r =>
     simp only [List.head?_cons, Option.mem_some_iff] at hx
     subst hx
     simp only [endT]
     have : y.tick < H := by
      apply Classical.byContradiction
      intro h
      apply hc
      intro z hz
      rcases List.mem_cons.1 hz with rfl | hz
      ·omega
      ·have := hr.2.1 z hz; omega
     omega
  rw [bL, hn, trk]
  cases hd : g.door with
  | false =>
   rw [rfd_shut, legS, if_pos (.inl hd)]
   refine next false out ⟨by simp, fun _ o x y ho => ?_⟩
   cases p with
   | true =>
    obtain ⟨o', x', h'⟩ := hj.1 rfl
    rw [h'] at ho
    have := List.append_inj_right' ho rfl
    simp only [List.cons.injEq, Prod.mk.injEq, and_true] at this
    omega
   | false => have := hj.2 rfl o x y ho; omega
  | true =>
   rw [legS, if_neg (by simp [hd]; omega)]
   cases p with
   | true =>
    obtain ⟨o, x, rfl⟩ := hj.1 rfl
    rw [rfd_open, lastTo_snoc, if_pos (by simp), setLast_snoc, ← hm]
    rw [hm]
    exact next true _ ⟨fun _ => ⟨o, x, by rw [hm]⟩, by simp⟩
   | false =>
    have hl : lastTo out g.tick = false := by
     rcases List.eq_nil_or_concat out with rfl | ⟨o, ⟨x, y⟩, rfl⟩
     ·rfl
     ·rw [List.concat_eq_append, lastTo_snoc]
      have := hj.2 rfl o x y (by simp)
      simp; omega
    rw [if_neg (by simp [hl]), List.replicate_succ, List.cons_append, rfd, tickS, if_pos rfl, if_neg (by simp)]
    cases m with
    | zero =>
     simp only [List.replicate_zero, List.nil_append]
     have := next true (out ++ [(g.tick, endT H r)]) ⟨fun _ => ⟨out, g.tick, rfl⟩, by simp⟩
     rw [← this, hm]; simp
    | succ m =>
     rw [rfd_open]
     have := next true (out ++ [(g.tick, endT H r)]) ⟨fun _ => ⟨out, g.tick, rfl⟩, by simp⟩
     rw [← this, hm]
     congr 1
     ·omega
     ·congr 3; omega
theorem all_bL {H : Int} : ∀ (r : List Leg) (g : Leg), Rise (g :: r) → tB (fun t => (tickV (g :: r) t).2) g.tick (H - g.tick).toNat = bL H (g :: r)
 | [], g, hr => by
  rw [bL, bL, List.append_nil, endT, ← tB_const]
  apply tB_congr
  intro t h1 h2
  simp [tickV, lastLe, h1]
 | x :: r', g, hr => by
  have hx := hr.1 x (by simp)
  have far : ∀ t, x.tick ≤ t → (tickV (g :: x :: r') t).2 = (tickV (x :: r') t).2 := by
   intro t ht
   unfold tickV
   rw [lastLe, lastLe_some t (x :: r') _ none ⟨x, by simp, ht⟩]
  have near : ∀ t, g.tick ≤ t → t < x.tick → (tickV (g :: x :: r') t).2 = g.door := by
   intro t h1 h2
   unfold tickV
   rw [lastLe, if_pos h1, lastLe_none]
   intro y hy
   rcases List.mem_cons.1 hy with rfl | hy
   ·exact h2
   ·have := hr.2.1 y hy; omega
  by_cases c : H ≤ x.tick
  ·obtain ⟨h1, -⟩ := late (H := H) (x :: r') [] fun y hy => by
    rcases List.mem_cons.1 hy with rfl | hy
    ·exact c
    ·have := hr.2.1 y hy; omega
   rw [bL, h1, List.append_nil, endT, show min H x.tick = H by omega, ← tB_const]
   apply tB_congr
   intro t p1 p2
   exact near t p1 (by omega)
  ·rw [bL, ← all_bL r' x hr.2, endT, show min H x.tick = x.tick by omega, show (H - g.tick).toNat = (x.tick - g.tick).toNat + (H - x.tick).toNat by omega, tB_add]
   congr 1
   ·rw [← tB_const]
    apply tB_congr
    intro t p1 p2
    exact near t p1 (by omega)
   ·rw [show g.tick + ((x.tick - g.tick).toNat : Int) = x.tick by omega]
    apply tB_congr
    intro t p1 p2
    exact far t p1
theorem doors_same (H : Int) (g : Leg) (r : List Leg) (hr : Rise (g :: r)) : rfd g.tick false [] ((tB (tickV (g :: r)) g.tick (H - g.tick).toNat).map (·.2)) = trk H [] (g :: r) := by
 rw [tB_map, all_bL r g hr]
 refine rfd_trk (g :: r) false [] g.tick hr (by simp) ⟨by simp, fun _ o x y h => by simp at h⟩
theorem legS_len (out : List Sp) (g : Leg) (e : Int) : (legS out g e).length ≤ out.length + 1 := by
 unfold legS; split
 ·omega
 ·split
  ·rw [setLast_len]; omega
  ·simp
theorem trk_len (H : Int) : ∀ (l : List Leg) (out : List Sp), (trk H out l).length ≤ out.length + l.length
 | [], out => by simp [trk]
 | g :: r, out => by
  have h1 := trk_len H r (legS out g (endT H r))
  have h2 := legS_len out g (endT H r)
  simp only [trk, List.length_cons]; omega
end Go.Am
namespace Go.Am
abbrev vL (l : List Leg) : AV := .c (.vs 4 (l.map Leg.cells))
abbrev vS (l : List Sp) : AV := .c (.vs 2 (l.map Sp.cells))
def spR (l : List Sp) : Rows := l.map fun s => [i64 s.1, i64 s.2]
theorem spR_len (l : List Sp) : (spR l).length = l.length := by simp [spR]
theorem nmSp (k : Nat) (l : List Sp) : nmRows k (spR l) = true := by unfold spR; induction l <;> simp_all
theorem lcSp (k : Nat) (l : List Sp) : lcRows k (spR l) = true := by unfold spR; induction l <;> simp_all
theorem spR_snoc (l : List Sp) (a b : Int) : spR l ++ [[AV.c (.int .i64 a), AV.c (.int .i64 b)]] = spR (l ++ [(a, b)]) := by unfold spR; rw [List.map_append]; rfl
theorem toS (m : List Sp) : List.map (toAV ∘ Sp.cells) m = spR m := by unfold spR; congr 1
theorem allS (l : List Sp) : allRows (spR l) = some (l.map Sp.cells) := by rw [← toS, allRows_comp]
theorem spR_last (l : List Sp) (a b : Int) : ∀ h, (spR (l ++ [(a, b)]))[l.length]'h = [i64 a, i64 b] := by intro h; simp [spR]
theorem spR_set (l : List Sp) (a b c : Int) : List.take l.length (spR (l ++ [(a, b)])) ++ [AV.c (.int .i64 a), AV.c (.int .i64 c)] :: List.drop (l.length + 1) (spR (l ++ [(a, b)])) = spR (l ++ [(a, c)]) := by
 unfold spR; simp [List.take_append, List.drop_append]
def DrsC (g : List AV → Option (List AV)) : Prop := ∀ (l : List Leg) (H : Int), WayI l → (-1 ≤ H ∧ H ≤ 1073741824) → g [vL l, i64 H] = some [vS (trk H [] l)]
theorem track_Doors_run (Γ : Env) (M : Nat) (hM : 100 < M) : DrsC (run Γ M track_Doors_f) := by
 intro l H hw hH
 have hfew := hw.few
 obtain ⟨R, hR⟩ : ∃ R, trk H [] l = R := ⟨_, rfl⟩
 rw [hR]
 obtain ⟨ax, s', ⟨rfl, rfl⟩, hin⟩ : ∃ ax s', (ax = .ex 0 ∧ s' = ⟨[(5, .sl 5 R.length 0 R.length)], [(5, ⟨2, spR R⟩)]⟩) ∧ ∀ s0, nrm [0, 1, 5, 10, 11] [5, 76] s0 = ⟨[(0, vL l), (1, i64 H), (5, .sl 5 0 0 0), (10, i64 l.length), (11, i64 (0 : Nat))], [(5, ⟨2, spR []⟩)]⟩ → lp (exec Γ M track_Doors_l1) M s0 = some (ax, s') := by
  refine lp_all (fun q : List Sp × Nat => ⟨[(0, vL l), (1, i64 H), (5, .sl 5 q.1.length 0 q.1.length), (10, i64 l.length), (11, i64 q.2)], [(5, ⟨2, spR q.1⟩)]⟩) (fun q => q.2 ≤ l.length ∧ q.1.length ≤ q.2 ∧ trk H q.1 (l.drop q.2) = R) (fun q => l.length - q.2) _ ([], 0) M (by simp) ⟨by simp, by simp, by simpa using hR⟩ (by dsimp only; omega) ?_
  rintro ⟨out, k⟩ ⟨h1, h2, h3⟩
  dsimp only at h1 h2 h3 ⊢
  by_cases hlt : k < l.length
  ·obtain ⟨g, hg⟩ : ∃ g, l[k]'hlt = g := ⟨_, rfl⟩
   have hgm : g ∈ l := by rw [← hg]; exact List.getElem_mem hlt
   have b1 := (hw.ok g hgm).tick
   have hrow : (l.map Leg.cells)[k]? = some g.cells := by simp [hlt, hg]
   rw [List.drop_eq_getElem_cons hlt, hg, trk] at h3
   have hlo := legS_len out g (endT H (l.drop (k + 1)))
   obtain ⟨m, hm⟩ : ∃ m, out.length = m := ⟨_, rfl⟩
   by_cases c1 : k + 1 < l.length
   ·obtain ⟨x, hx⟩ : ∃ g, l[k + 1]'c1 = g := ⟨_, rfl⟩
    have hxm : x ∈ l := by rw [← hx]; exact List.getElem_mem c1
    have b2 := (hw.ok x hxm).tick
    have hrow1 : (l.map Leg.cells)[k + 1]? = some x.cells := by simp [c1, hx]
    have he : endT H (l.drop (k + 1)) = min H x.tick := by rw [List.drop_eq_getElem_cons c1, hx]; rfl
    have c1' : (k : Int) + 1 < l.length := by omega
    obtain ⟨e, he2⟩ : ∃ e, endT H (l.drop (k + 1)) = e := ⟨_, rfl⟩
    rw [he2] at h3 hlo he
    have b3 : -1073741825 ≤ e ∧ e ≤ 1073741824 := by omega
    have hmin : (if x.tick < H then x.tick else H) = e := by rw [he]; split <;> omega
    by_cases c2 : g.door = false
    ·have hs : legS out g e = out := by unfold legS; rw [if_pos (.inl c2)]
     rw [hs] at h3
     simp -implicitDefEqProofs (disch := first | omega | (simp <;> fail) | assumption) [hlt, hrow, Leg.cells, c2, hrow1, c1', hmin]
     exact ⟨out, k + 1, ⟨⟨rfl, by omega⟩, rfl⟩, ⟨by omega, by omega, h3⟩, by omega⟩
    have c2' : g.door = true := by simpa using c2
    by_cases c3 : e ≤ g.tick
    ·have hs : legS out g e = out := by unfold legS; rw [if_pos (.inr c3)]
     rw [hs] at h3
     simp -implicitDefEqProofs (disch := first | omega | (simp <;> fail) | assumption) [hlt, hrow, Leg.cells, c2', c3, hrow1, c1', hmin]
     exact ⟨out, k + 1, ⟨⟨rfl, by omega⟩, rfl⟩, ⟨by omega, by omega, h3⟩, by omega⟩
    rcases List.eq_nil_or_concat out with rfl | ⟨o, ⟨x0, y0⟩, rfl⟩
    ·have hs : legS [] g e = [(g.tick, e)] := by unfold legS; rw [if_neg (by simp [c2']; omega), if_neg (by simp [lastTo])]; rfl
     rw [hs] at h3
     simp -implicitDefEqProofs (disch := first | omega | (simp <;> fail) | assumption) [hlt, hrow, Leg.cells, c2', c3, spR, hrow1, c1', hmin]
     exact ⟨[(g.tick, e)], k + 1, ⟨⟨by simp, by omega⟩, by simp⟩, ⟨by omega, by simp, h3⟩, by omega⟩
    ·rw [List.concat_eq_append] at *
     have hl : o.length + 1 ≤ k := by simpa using h2
     have u1 : ((o.length : Int) + 1 - 1) = o.length := by omega
     have u2 : (0 : Int) < (o.length : Int) + 1 := by omega
     have u3 := spR_last o x0 y0
     have u4 := fun c => spR_set o x0 y0 c
     have u5 := spR_len (o ++ [(x0, y0)])
     have u6 := fun z => nmSp z (o ++ [(x0, y0)])
     have u7 := fun z => lcSp z (o ++ [(x0, y0)])
     have u8 := fun a b => spR_snoc (o ++ [(x0, y0)]) a b
     have u9 : (o ++ [(x0, y0)]).length = o.length + 1 := by simp
     rw [u9] at u5
     have u10 : ((o.length + 1 : Nat) : Int) = (o.length : Int) + 1 := by omega
     by_cases c4 : y0 = g.tick
     ·have hs : legS (o ++ [(x0, y0)]) g e = o ++ [(x0, e)] := by unfold legS; rw [if_neg (by simp [c2']; omega), lastTo_snoc, if_pos (by simp [c4]), setLast_snoc]
      rw [hs] at h3
      subst c4
      generalize spR (o ++ [(x0, g.tick)]) = G at *
      simp -implicitDefEqProofs (disch := first | omega | (simp <;> fail) | assumption) [hlt, hrow, Leg.cells, c2', c3, u1, u2, u3, u4, u5, u6, u7, u9, hrow1, c1', hmin]
      exact ⟨o ++ [(x0, e)], k + 1, ⟨⟨by simp, by omega⟩, rfl⟩, ⟨by omega, by simp; omega, h3⟩, by omega⟩
     ·have hs : legS (o ++ [(x0, y0)]) g e = o ++ [(x0, y0)] ++ [(g.tick, e)] := by unfold legS; rw [if_neg (by simp [c2']; omega), lastTo_snoc, if_neg (by simp [c4])]
      rw [hs] at h3
      generalize spR (o ++ [(x0, y0)]) = G at *
      simp -implicitDefEqProofs (disch := first | omega | (simp <;> fail) | assumption) [-List.append_assoc, hlt, hrow, Leg.cells, c2', c3, c4, u1, u2, u3, u4, u5, u6, u7, u8, u9, hrow1, c1', hmin]
      exact ⟨o ++ [(x0, y0)] ++ [(g.tick, e)], k + 1, ⟨⟨by simp, by omega⟩, rfl⟩, ⟨by omega, by simp; omega, h3⟩, by omega⟩
   ·have he : endT H (l.drop (k + 1)) = H := by rw [List.drop_eq_nil_of_le (by omega)]; rfl
    have c1' : ¬ (k : Int) + 1 < l.length := by omega
    obtain ⟨e, he2⟩ : ∃ e, endT H (l.drop (k + 1)) = e := ⟨_, rfl⟩
    rw [he2] at h3 hlo he
    have b3 : -1073741825 ≤ e ∧ e ≤ 1073741824 := by omega
    subst he
    by_cases c2 : g.door = false
    ·have hs : legS out g e = out := by unfold legS; rw [if_pos (.inl c2)]
     rw [hs] at h3
     simp -implicitDefEqProofs (disch := first | omega | (simp <;> fail) | assumption) [hlt, hrow, Leg.cells, c2, c1']
     exact ⟨out, k + 1, ⟨⟨rfl, by omega⟩, rfl⟩, ⟨by omega, by omega, h3⟩, by omega⟩
    have c2' : g.door = true := by simpa using c2
    by_cases c3 : e ≤ g.tick
    ·have hs : legS out g e = out := by unfold legS; rw [if_pos (.inr c3)]
     rw [hs] at h3
     simp -implicitDefEqProofs (disch := first | omega | (simp <;> fail) | assumption) [hlt, hrow, Leg.cells, c2', c3, c1']
     exact ⟨out, k + 1, ⟨⟨rfl, by omega⟩, rfl⟩, ⟨by omega, by omega, h3⟩, by omega⟩
    rcases List.eq_nil_or_concat out with rfl | ⟨o, ⟨x0, y0⟩, rfl⟩
    ·have hs : legS [] g e = [(g.tick, e)] := by unfold legS; rw [if_neg (by simp [c2']; omega), if_neg (by simp [lastTo])]; rfl
     rw [hs] at h3
     simp -implicitDefEqProofs (disch := first | omega | (simp <;> fail) | assumption) [hlt, hrow, Leg.cells, c2', c3, spR, c1']
     exact ⟨[(g.tick, e)], k + 1, ⟨⟨by simp, by omega⟩, by simp⟩, ⟨by omega, by simp, h3⟩, by omega⟩
    ·rw [List.concat_eq_append] at *
     have hl : o.length + 1 ≤ k := by simpa using h2
     have u1 : ((o.length : Int) + 1 - 1) = o.length := by omega
     have u2 : (0 : Int) < (o.length : Int) + 1 := by omega
     have u3 := spR_last o x0 y0
     have u4 := fun c => spR_set o x0 y0 c
     have u5 := spR_len (o ++ [(x0, y0)])
     have u6 := fun z => nmSp z (o ++ [(x0, y0)])
     have u7 := fun z => lcSp z (o ++ [(x0, y0)])
     have u8 := fun a b => spR_snoc (o ++ [(x0, y0)]) a b
     have u9 : (o ++ [(x0, y0)]).length = o.length + 1 := by simp
     rw [u9] at u5
     have u10 : ((o.length + 1 : Nat) : Int) = (o.length : Int) + 1 := by omega
     by_cases c4 : y0 = g.tick
     ·have hs : legS (o ++ [(x0, y0)]) g e = o ++ [(x0, e)] := by unfold legS; rw [if_neg (by simp [c2']; omega), lastTo_snoc, if_pos (by simp [c4]), setLast_snoc]
      rw [hs] at h3
      subst c4
      generalize spR (o ++ [(x0, g.tick)]) = G at *
      simp -implicitDefEqProofs (disch := first | omega | (simp <;> fail) | assumption) [hlt, hrow, Leg.cells, c2', c3, u1, u2, u3, u4, u5, u6, u7, u9, c1']
      exact ⟨o ++ [(x0, e)], k + 1, ⟨⟨by simp, by omega⟩, rfl⟩, ⟨by omega, by simp; omega, h3⟩, by omega⟩
     ·have hs : legS (o ++ [(x0, y0)]) g e = o ++ [(x0, y0)] ++ [(g.tick, e)] := by unfold legS; rw [if_neg (by simp [c2']; omega), lastTo_snoc, if_neg (by simp [c4])]
      rw [hs] at h3
      generalize spR (o ++ [(x0, y0)]) = G at *
      simp -implicitDefEqProofs (disch := first | omega | (simp <;> fail) | assumption) [-List.append_assoc, hlt, hrow, Leg.cells, c2', c3, c4, u1, u2, u3, u4, u5, u6, u7, u8, u9, c1']
      exact ⟨o ++ [(x0, y0)] ++ [(g.tick, e)], k + 1, ⟨⟨by simp, by omega⟩, rfl⟩, ⟨by omega, by simp; omega, h3⟩, by omega⟩
  ·obtain rfl : k = l.length := by omega
   rw [List.drop_length] at h3
   simp only [trk] at h3
   subst h3
   simp -implicitDefEqProofs (disch := first | omega | (simp <;> fail) | assumption)
 have hin2 := hin ⟨[(0, vL l), (1, i64 H), (5, .sl 5 0 0 0), (10, i64 l.length), (11, i64 0)], [(5, ⟨2, []⟩)]⟩ (by simp [spR])
 simp -implicitDefEqProofs (disch := first | omega | (simp <;> fail) | assumption) [hin2, allS, spR_len]
 exact List.take_of_length_le (by simp)
end Go.Am
namespace Go.Am
theorem at_bound {l : List Leg} {t : Int} (hw : WayI l) (ht : -1073741824 ≤ t ∧ t ≤ 1073741824) {g : Leg} (hg : g ∈ l) : -10737418240 ≤ g.dir * (t - g.tick) ∧ g.dir * (t - g.tick) ≤ 10737418240 := by
 have h := hw.ok g hg
 have h1 := h.tick
 have h3 := h.dir
 have : g.dir = -1 ∨ g.dir = 0 ∨ g.dir = 1 := by omega
 rcases this with h | h | h <;> rw [h] <;> omega
def optV (t : Int) (o : Option Leg) : Int × Bool := match o with
 | some g => (g.at t, g.door)
 | none => (0, false)
theorem tickV_opt (l : List Leg) (t : Int) : tickV l t = optV t (lastLe t none l) := rfl
def tkD (x : Int × Bool) : List D := [.int .i64 x.1, .bool x.2]
def At25C (g : List AV → Option (List AV)) : Prop := ∀ (l : List Leg) (t : Int), WayI l → (-1073741824 ≤ t ∧ t ≤ 1073741824) → g [vL l, i64 t] = some [.agg (tkD (tickV l t)), bo (lastLe t none l).isSome]
theorem ref25_At_run (Γ : Env) (M : Nat) (hM : 100 < M) : At25C (run Γ M ref25_At_f) := by
 intro l t hw ht
 have hfew := hw.few
 obtain ⟨ax, s', ⟨rfl, rfl⟩, hin⟩ : ∃ ax s', (ax = .ex 0 ∧ s' = ⟨[(4, .loc 4 0 0), (6, .loc 6 0 0), (7, bo (lastLe t none l).isSome)], [(4, ⟨2, [[i64 0, bo false]]⟩), (6, ⟨2, [[i64 (tickV l t).1, bo (tickV l t).2]]⟩)]⟩) ∧ ∀ s0, nrm [0, 1, 4, 6, 7, 8] [4, 6] s0 = ⟨[(0, vL l), (1, i64 t), (4, .loc 4 0 0), (6, .loc 6 0 0), (7, bo false), (8, i64 (0 : Nat))], [(4, ⟨2, [[i64 0, bo false]]⟩), (6, ⟨2, [[i64 0, bo false]]⟩)]⟩ → lp (exec Γ M ref25_At_l1) M s0 = some (ax, s') := by
  refine lp_all (fun q : Nat × Int × Bool × Bool => ⟨[(0, vL l), (1, i64 t), (4, .loc 4 0 0), (6, .loc 6 0 0), (7, bo q.2.2.2), (8, i64 q.1)], [(4, ⟨2, [[i64 0, bo false]]⟩), (6, ⟨2, [[i64 q.2.1, bo q.2.2.1]]⟩)]⟩) (fun q => q.1 ≤ l.length ∧ (q.2.1, q.2.2.1) = optV t (lastLe t none (l.take q.1)) ∧ q.2.2.2 = (lastLe t none (l.take q.1)).isSome) (fun q => l.length - q.1) _ (0, 0, false, false) M (by simp) ⟨by simp, by simp [lastLe, optV], by simp [lastLe]⟩ (by dsimp only; omega) ?_
  rintro ⟨k, p, d, is⟩ ⟨h1, h2, h3⟩
  dsimp only at h1 h2 h3 ⊢
  by_cases hlt : k < l.length
  ·obtain ⟨g, hg⟩ : ∃ g, l[k]'hlt = g := ⟨_, rfl⟩
   have hgm : g ∈ l := by rw [← hg]; exact List.getElem_mem hlt
   have hb := at_bound hw ht hgm
   have b1 := (hw.ok g hgm).tick
   have b2 := (hw.ok g hgm).pos
   have hs : lastLe t none (l.take (k + 1)) = if g.tick ≤ t then some g else lastLe t none (l.take k) := by
    rw [List.take_succ_eq_append_getElem hlt, lastLe_snoc, hg]
   by_cases c : g.tick ≤ t
   ·rw [if_pos c] at hs
    simp -implicitDefEqProofs (disch := first | omega | assumption) [-Bool.exists_bool, hlt, hg, c]
    exact ⟨k + 1, _, _, _, ⟨⟨rfl, by omega⟩, rfl, rfl⟩, ⟨by omega, by rw [hs]; rfl, by rw [hs]; rfl⟩, by omega⟩
   ·rw [if_neg c] at hs
    simp -implicitDefEqProofs (disch := first | omega | assumption) [-Bool.exists_bool, hlt, hg, c]
    exact ⟨k + 1, p, d, is, ⟨⟨rfl, by omega⟩, rfl, rfl⟩, ⟨by omega, by rw [hs]; exact h2, by rw [hs]; exact h3⟩, by omega⟩
  ·obtain rfl : k = l.length := by omega
   rw [List.take_length] at h2 h3
   rw [tickV_opt, ← h2, ← h3]
   simp -implicitDefEqProofs (disch := first | omega | assumption)
 simp -implicitDefEqProofs (disch := first | omega | (simp <;> fail) | assumption) [hin, tkD]
def All25C (g : List AV → Option (List AV)) : Prop := ∀ (l : List Leg) (H a : Int) (h0 : 0 < l.length), WayI l → (l[0]'h0).tick = a → (-1 ≤ H ∧ H ≤ 1073741824) → H - a ≤ 300 → g [vL l, i64 H] = some [.c (.vs 2 ((tB (tickV l) a (H - a).toNat).map tkD))]
theorem ref25_All_run (Γ : Env) (M : Nat) (hM : 400 < M) (h113 : At25C (Γ 113)) : All25C (run Γ M ref25_All_f) := by
 intro l H a h0 hw ha hH hHa
 have hfew := hw.few
 obtain ⟨n, hn⟩ : ∃ n, (H - a).toNat = n := ⟨_, rfl⟩
 rw [hn]
 have hz : ¬ l.length = 0 := by omega
 obtain ⟨g, hg⟩ : ∃ g, l[0]'h0 = g := ⟨_, rfl⟩
 rw [hg] at ha
 have b0 := (hw.ok g (by rw [← hg]; exact List.getElem_mem h0)).tick
 rw [ha] at b0
 have hrow0 : (l.map Leg.cells)[0]? = some g.cells := by simp [h0, hg]
 obtain ⟨ax, s', ⟨rfl, rfl⟩, hin⟩ : ∃ ax s', (ax = .ex 0 ∧ s' = ⟨[(5, .sl 5 n 0 n)], [(5, ⟨2, (tB (tickV l) a n).map (toAV ∘ tkD)⟩)]⟩) ∧ ∀ s0, nrm [0, 1, 5, 6] [5, 30] s0 = ⟨[(0, vL l), (1, i64 H), (5, .sl 5 0 0 0), (6, i64 (a + (0 : Nat)))], [(5, ⟨2, (tB (tickV l) a 0).map (toAV ∘ tkD)⟩)]⟩ → lp (exec Γ M ref25_All_l1) M s0 = some (ax, s') := by
  refine lp_all (fun q : Nat => ⟨[(0, vL l), (1, i64 H), (5, .sl 5 q 0 q), (6, i64 (a + q))], [(5, ⟨2, (tB (tickV l) a q).map (toAV ∘ tkD)⟩)]⟩) (fun q => q ≤ n) (fun q => n - q) _ 0 M (by simp) (by omega) (by omega) ?_
  intro k hk
  have hrl : ((tB (tickV l) a k).map (toAV ∘ tkD)).length = k := by rw [List.length_map, tB_len]
  have hrc := lcRows_comp 5 tkD (tB (tickV l) a k)
  have hrn := nmRows_comp 7 tkD (tB (tickV l) a k)
  by_cases hlt : k < n
  ·have c1 : a + (k : Int) < H := by omega
   have e := h113 l (a + k) hw (by omega)
   have hs : (tB (tickV l) a (k + 1)).map (toAV ∘ tkD) = (tB (tickV l) a k).map (toAV ∘ tkD) ++ [toAV (tkD (tickV l (a + k)))] := by rw [tB_snoc]; simp
   generalize (tB (tickV l) a k).map (toAV ∘ tkD) = G at *
   generalize tickV l (a + k) = x at *
   generalize (lastLe (a + k) none l).isSome = is at *
   simp only [tkD] at e hs
   simp -implicitDefEqProofs (disch := first | omega | assumption) [c1, e, hrl, hrc, hrn, hs, toAV]
   exact ⟨k + 1, ⟨⟨rfl, by omega⟩, by rw [hs]; rfl⟩, by omega, by omega⟩
  ·obtain rfl : k = n := by omega
   have c1 : ¬ a + (k : Int) < H := by omega
   simp -implicitDefEqProofs (disch := first | omega | assumption) [c1]
 have hin := hin ⟨[(0, vL l), (1, i64 H), (5, .sl 5 0 0 0), (6, i64 a)], [(5, ⟨2, []⟩)]⟩ (by simp [tB])
 have haR := allRows_comp tkD (tB (tickV l) a n)
 have hrl : ((tB (tickV l) a n).map (toAV ∘ tkD)).length = n := by rw [List.length_map, tB_len]
 have hF2 : ((tB (tickV l) a n).map tkD).take n = (tB (tickV l) a n).map tkD := by
  rw [List.take_of_length_le]; rw [List.length_map, tB_len]; omega
 generalize hG : (tB (tickV l) a n).map (toAV ∘ tkD) = G at *
 generalize (tB (tickV l) a n).map tkD = K at *
 simp -implicitDefEqProofs (disch := first | omega | (simp <;> fail) | assumption) [hin, hz, hrow0, Leg.cells, ha, haR, hF2, hrl, hg]
def All25N (g : List AV → Option (List AV)) : Prop := ∀ H : Int, g [vL [], i64 H] = some [.c (.vs 2 [])]
theorem ref25_All_nil (Γ : Env) (M : Nat) : All25N (run Γ M ref25_All_f) := by
 intro H
 simp -implicitDefEqProofs (disch := first | omega | (simp <;> fail) | assumption)
def Drs25C (g : List AV → Option (List AV)) : Prop := ∀ (l : List Leg) (H : Int), WayI l → (-1 ≤ H ∧ H ≤ 1073741824) → (∀ x ∈ l.head?, H - x.tick ≤ 300) → g [vL l, i64 H] = some [vS (trk H [] l)]
theorem rfd_len : ∀ (bs : List Bool) (t : Int) (p : Bool) (out : List Sp), (rfd t p out bs).length ≤ out.length + bs.length
 | [], t, p, out => by simp [rfd]
 | b :: bs, t, p, out => by
  have h1 := rfd_len bs (t + 1) b (tickS t p out b)
  have h2 : (tickS t p out b).length ≤ out.length + 1 := by
   unfold tickS; split
   ·split
    ·rw [setLast_len]; omega
    ·simp
   ·omega
  simp only [rfd, List.length_cons]; omega
theorem ref25_Doors_run (Γ : Env) (M : Nat) (hM : 400 < M) (hA : All25C (Γ 128)) (hN : All25N (Γ 128)) : Drs25C (run Γ M ref25_Doors_f) := by
 intro l H hw hH hh
 cases l with
 | nil =>
  have e : Γ 128 [.c (.vs 4 []), i64 H] = some [.c (.vs 2 [])] := hN H
  obtain ⟨M, rfl⟩ : ∃ k, M = k + 1 := ⟨M - 1, by omega⟩
  simp -implicitDefEqProofs (disch := first | omega | (simp <;> fail) | assumption) [e, lp_succ, ref25_Doors_l1_x, trk]
 | cons g0 r0 =>
 obtain ⟨l, hl⟩ : ∃ l, g0 :: r0 = l := ⟨_, rfl⟩
 have h0 : 0 < l.length := by rw [← hl]; simp
 have hg0 : l[0]'h0 = g0 := by subst hl; rfl
 have hrow0 : (l.map Leg.cells)[0]? = some g0.cells := by rw [← hl]; rfl
 have b0 := (hw.ok g0 (by simp)).tick
 obtain ⟨a, ha⟩ : ∃ a, g0.tick = a := ⟨_, rfl⟩
 have hHa := hh g0 (by simp)
 have hsame := doors_same H g0 r0 hw.up
 rw [hl] at hw hsame ⊢
 rw [ha] at b0 hHa hsame
 have eA := hA l H a h0 hw (by rw [hg0, ha]) hH hHa
 obtain ⟨n, hn⟩ : ∃ n, (H - a).toNat = n := ⟨_, rfl⟩
 rw [hn] at eA hsame
 have hnl := tB_len (tickV l) n a
 generalize tB (tickV l) a n = all at *
 have hnn : n ≤ 300 := by omega
 obtain ⟨R, hR⟩ : ∃ R, trk H [] l = R := ⟨_, rfl⟩
 rw [hR] at hsame ⊢
 have hnl2 : (all.map tkD).length = n := by rw [List.length_map, hnl]
 obtain ⟨ax, s', ⟨rfl, rfl⟩, hin⟩ : ∃ ax s', (ax = .ex 0 ∧ s' = ⟨[(6, .sl 6 R.length 0 R.length)], [(6, ⟨2, spR R⟩)]⟩) ∧ ∀ s0, nrm [0, 5, 6, 7] [6, 54] s0 = ⟨[(0, vL l), (5, .c (.vs 2 (all.map tkD))), (6, .sl 6 0 0 0), (7, i64 (0 : Nat))], [(6, ⟨2, spR []⟩)]⟩ → lp (exec Γ M ref25_Doors_l1) M s0 = some (ax, s') := by
  refine lp_all (fun q : List Sp × Nat × Bool => ⟨[(0, vL l), (5, .c (.vs 2 (all.map tkD))), (6, .sl 6 q.1.length 0 q.1.length), (7, i64 q.2.1)], [(6, ⟨2, spR q.1⟩)]⟩) (fun q => q.2.1 ≤ n ∧ q.1.length ≤ q.2.1 ∧ rfd (a + q.2.1) q.2.2 q.1 ((all.map (·.2)).drop q.2.1) = R ∧ (q.2.2 = true → q.1 ≠ []) ∧ (q.2.1 = 0 ∧ q.2.2 = false ∨ ∃ h : q.2.1 - 1 < all.length, 0 < q.2.1 ∧ (all[q.2.1 - 1]'h).2 = q.2.2)) (fun q => n - q.2.1) _ ([], 0, false) M (by simp) ⟨by simp, by simp, by simpa using hsame, by simp, .inl ⟨rfl, rfl⟩⟩ (by dsimp only; omega) ?_
  rintro ⟨out, k, p⟩ ⟨h1, h2, h3, h4, h5⟩
  dsimp only at h1 h2 h3 h4 h5 ⊢
  by_cases hlt : k < n
  ·have hka : k < all.length := by omega
   obtain ⟨⟨pos, b⟩, hx⟩ : ∃ x, all[k]'hka = x := ⟨_, rfl⟩
   have hrow : (all.map tkD)[k]? = some [.int .i64 pos, .bool b] := by simp [hka, hx, tkD]
   have hdr : (all.map (·.2)).drop k = b :: (all.map (·.2)).drop (k + 1) := by
    rw [List.drop_eq_getElem_cons (by simpa using hka)]; simp [hx]
   rw [hdr, rfd] at h3
   have t0 : a + (k : Int) + 1 = a + ((k + 1 : Nat) : Int) := by omega
   have h5' : k + 1 = 0 ∧ b = false ∨ 0 < k + 1 ∧ ∃ h : k + 1 - 1 < n, (all[k + 1 - 1]'(by omega)).2 = b := .inr ⟨by omega, by omega, by simp [hx]⟩
   cases b with
   | false =>
    simp only [tickS, Bool.false_eq_true, if_false] at h3
    simp -implicitDefEqProofs (disch := first | omega | (simp <;> fail) | assumption) [-Bool.exists_bool, hlt, hnl2, hnl, hrow, hx, tkD]
    exact ⟨out, k + 1, ⟨⟨rfl, by omega⟩, rfl⟩, ⟨by omega, by omega, false, by rw [← t0]; exact h3, by simp, h5'⟩, by omega⟩
   | true =>
    cases p with
    | false =>
     simp only [tickS, if_true, Bool.false_eq_true, if_false] at h3
     have u6 := fun z => nmSp z out
     have u7 := fun z => lcSp z out
     have u8 := fun a b => spR_snoc out a b
     have u5 := spR_len out
     rcases h5 with ⟨rfl, -⟩ | ⟨hk1, hk2, hk3⟩
     ·generalize spR out = G at *
      simp -implicitDefEqProofs (disch := first | omega | (simp <;> fail) | assumption) [-Bool.exists_bool, -List.append_assoc, hlt, hnl2, hnl, hrow, hx, tkD, hrow0, hg0, Leg.cells, ha, u5, u6, u7, u8]
      exact ⟨out ++ [(a, a + 1)], 1, ⟨⟨by simp, by simp⟩, rfl⟩, ⟨by omega, by simp at h2 ⊢; omega, true, by simpa using h3, by simp, by simpa using h5'⟩, by omega⟩
     ·generalize spR out = G at *
      have t1 : (k : Int) - 1 < n := by omega
      have t2 : ((k : Int) - 1).toNat = k - 1 := by omega
      have t3 : (0 : Int) ≤ (k : Int) - 1 := by omega
      simp -implicitDefEqProofs (disch := first | omega | (simp <;> fail) | assumption) [-Bool.exists_bool, -List.append_assoc, hlt, hnl2, hnl, hrow, hx, tkD, hrow0, hg0, Leg.cells, ha, u5, u6, u7, u8, hk1, hk2, hk3, t1, t2, t3]
      exact ⟨out ++ [(a + k, a + k + 1)], k + 1, ⟨⟨by simp, by omega⟩, rfl⟩, ⟨by omega, by simp; omega, true, by rw [← t0]; exact h3, by simp, h5'⟩, by omega⟩
    | true =>
     rcases h5 with ⟨-, h6⟩ | ⟨hk1, hk2, hk3⟩
     ·simp at h6
     rcases List.eq_nil_or_concat out with rfl | ⟨o, ⟨x0, y0⟩, rfl⟩
     ·exact absurd rfl (h4 rfl)
     rw [List.concat_eq_append] at *
     simp only [tickS, if_true, setLast_snoc] at h3
     have hl : o.length + 1 ≤ k := by simpa using h2
     have u1 : ((o.length : Int) + 1 - 1) = o.length := by omega
     have u3 := spR_last o x0 y0
     have u4 := fun c => spR_set o x0 y0 c
     have u5 := spR_len (o ++ [(x0, y0)])
     have u6 := fun z => nmSp z (o ++ [(x0, y0)])
     have u7 := fun z => lcSp z (o ++ [(x0, y0)])
     have u9 : (o ++ [(x0, y0)]).length = o.length + 1 := by simp
     rw [u9] at u5
     generalize spR (o ++ [(x0, y0)]) = G at *
     have t1 : (k : Int) - 1 < n := by omega
     have t2 : ((k : Int) - 1).toNat = k - 1 := by omega
     have t3 : (0 : Int) ≤ (k : Int) - 1 := by omega
     simp -implicitDefEqProofs (disch := first | omega | (simp <;> fail) | assumption) [-Bool.exists_bool, -List.append_assoc, hlt, hnl2, hnl, hrow, hx, tkD, hrow0, hg0, Leg.cells, ha, u1, u3, u4, u5, u6, u7, u9, hk1, hk2, hk3, t1, t2, t3]
     exact ⟨o ++ [(x0, a + k + 1)], k + 1, ⟨⟨by simp, by omega⟩, rfl⟩, ⟨by omega, by simp; omega, true, by rw [← t0]; exact h3, by simp, h5'⟩, by omega⟩
  ·obtain rfl : k = n := by omega
   have hz : (all.map (·.2)).drop k = [] := List.drop_eq_nil_of_le (by simp; omega)
   rw [hz] at h3
   simp only [rfd] at h3
   subst h3
   simp -implicitDefEqProofs (disch := first | omega | (simp <;> fail) | assumption) [-Bool.exists_bool, hnl2, hnl]
 have hin2 := hin ⟨[(0, vL l), (5, .c (.vs 2 (all.map tkD))), (6, .sl 6 0 0 0), (7, i64 0)], [(6, ⟨2, []⟩)]⟩ (by simp [spR])
 simp -implicitDefEqProofs (disch := first | omega | (simp <;> fail) | assumption) [hin2, eA, allS, spR_len]
 exact List.take_of_length_le (by simp)
end Go.Am
namespace Go.Am
theorem rise_adj : ∀ {l : List Leg}, (∀ (j : Nat) (h : j + 1 < l.length), (l[j]'(by omega)).tick < (l[j + 1]'h).tick) → Rise l
 | [], h => trivial
 | [g], h => ⟨by simp, trivial⟩
 | g :: x :: r, h => by
  have ih : Rise (x :: r) := rise_adj fun j hj => by
   have := h (j + 1) (by simp at hj ⊢; omega)
   simpa using this
  have h0 : g.tick < x.tick := h 0 (by simp)
  refine ⟨fun y hy => ?_, ih⟩
  rcases List.mem_cons.1 hy with rfl | hy
  ·exact h0
  ·have := ih.1 y hy; omega
structure WayG (l : List Leg) : Prop where
 few : l.length ≤ 60
 ok : ∀ g ∈ l, LegI g
 up : Rise l
def Great25 (g : List AV → Option (List AV)) : Prop := ∀ l : List Leg, ∃ b, g [vL l] = some [bo b] ∧ (b = false → WayG l)
theorem law25_Great_run (Γ : Env) (M : Nat) (hM : 1000 < M) : Great25 (run Γ M law25_Great_f) := by
 intro l
 by_cases c : 60 < l.length
 ·have c' : 60 < (l.length : Int) := by omega
  exact ⟨true, by simp -implicitDefEqProofs (disch := first | omega | (simp <;> fail) | assumption) [c, c'], by simp⟩
 have c' : ¬ 60 < (l.length : Int) := by omega
 obtain ⟨ax, s', hR, hin⟩ : ∃ ax s', ((ax = .ex 0 ∧ s' = ⟨[], []⟩ ∧ (∀ (j : Nat) (h : j < l.length), LegI (l[j]'h)) ∧ ∀ (j : Nat) (h : j + 1 < l.length), (l[j]'(by omega)).tick < (l[j + 1]'h).tick) ∨ (ax = .ret ∧ s' = ⟨[(2, bo true)], []⟩)) ∧ ∀ s0, nrm [0, 3] [] s0 = ⟨[(0, vL l), (3, i64 (0 : Nat))], []⟩ → lp (exec Γ M law25_Great_l1) M s0 = some (ax, s') := by
  refine lp_all (fun q : Nat => ⟨[(0, vL l), (3, i64 q)], []⟩) (fun q => q ≤ l.length ∧ (∀ (j : Nat) (h : j < l.length), j < q → LegI (l[j]'h)) ∧ ∀ (j : Nat) (h : j + 1 < l.length), j + 1 < q → (l[j]'(by omega)).tick < (l[j + 1]'h).tick) (fun q => l.length - q) _ 0 M (by simp) ⟨by simp, fun j h x => absurd x (by omega), fun j h x => absurd x (by omega)⟩ (by omega) ?_
  rintro k ⟨hk, hq1, hq2⟩
  by_cases hlt : k < l.length
  ·obtain ⟨g, ht⟩ : ∃ w, l[k]'hlt = w := ⟨_, rfl⟩
   have hrow : (l.map Leg.cells)[k]? = some g.cells := by simp [hlt, ht]
   by_cases k0 : k = 0
   ·subst k0
    have fin : LegI g → ∃ q' : Nat, (1 : Int) = (q' : Int) ∧ (q' ≤ l.length ∧ (∀ (j : Nat) (h : j < l.length), j < q' → LegI (l[j]'h)) ∧ ∀ (j : Nat) (h : j + 1 < l.length), j + 1 < q' → (l[j]'(by omega)).tick < (l[j + 1]'h).tick) ∧ l.length - q' < l.length := by
     intro hg
     refine ⟨1, by simp, ⟨by omega, fun j h x => ?_, fun j h x => by omega⟩, by omega⟩
     obtain rfl : j = 0 := by omega
     rw [ht]; exact hg
    by_cases d0 : g.dir < -1
    ·simp -implicitDefEqProofs (disch := first | omega | (simp <;> fail) | assumption) [hlt, ht, hrow, Leg.cells, d0]
    by_cases d1 : 1 < g.dir
    ·simp -implicitDefEqProofs (disch := first | omega | (simp <;> fail) | assumption) [hlt, ht, hrow, Leg.cells, d0, d1]
    by_cases d2 : g.pos < -1073741824
    ·simp -implicitDefEqProofs (disch := first | omega | (simp <;> fail) | assumption) [hlt, ht, hrow, Leg.cells, d0, d1, d2]
    by_cases d3 : 1073741824 < g.pos
    ·simp -implicitDefEqProofs (disch := first | omega | (simp <;> fail) | assumption) [hlt, ht, hrow, Leg.cells, d0, d1, d2, d3]
    by_cases d4 : g.tick < -1073741824
    ·simp -implicitDefEqProofs (disch := first | omega | (simp <;> fail) | assumption) [hlt, ht, hrow, Leg.cells, d0, d1, d2, d3, d4]
    by_cases d5 : 1073741824 < g.tick
    ·simp -implicitDefEqProofs (disch := first | omega | (simp <;> fail) | assumption) [hlt, ht, hrow, Leg.cells, d0, d1, d2, d3, d4, d5]
    simp -implicitDefEqProofs (disch := first | omega | (simp <;> fail) | assumption) [hlt, ht, hrow, Leg.cells, d0, d1, d2, d3, d4, d5]
    exact fin ⟨⟨by omega, by omega⟩, ⟨by omega, by omega⟩, ⟨by omega, by omega⟩⟩
   ·obtain ⟨p, hp⟩ : ∃ w, l[k - 1]'(by omega) = w := ⟨_, rfl⟩
    have hrow1 : (l.map Leg.cells)[k - 1]? = some p.cells := by
     have : k - 1 < l.length := by omega
     simp [this, hp]
    have i1 : (k : Int) - 1 < l.length := by omega
    have i2 : ((k : Int) - 1).toNat = k - 1 := by omega
    have i3 : (0 : Int) ≤ (k : Int) - 1 := by omega
    have i4 : 0 < k := by omega
    have fin : LegI g → p.tick < g.tick → ∃ q' : Nat, ((k : Int) + 1 = (q' : Int)) ∧ (q' ≤ l.length ∧ (∀ (j : Nat) (h : j < l.length), j < q' → LegI (l[j]'h)) ∧ ∀ (j : Nat) (h : j + 1 < l.length), j + 1 < q' → (l[j]'(by omega)).tick < (l[j + 1]'h).tick) ∧ l.length - q' < l.length - k := by
     intro hg hpg
     refine ⟨k + 1, by simp, ⟨by omega, fun j h x => ?_, fun j h x => ?_⟩, by omega⟩
     ·rcases Nat.lt_or_ge j k with y | y
      ·exact hq1 j h y
      ·obtain rfl : j = k := by omega
       rw [ht]; exact hg
     ·rcases Nat.lt_or_ge (j + 1) k with y | y
      ·exact hq2 j h y
      ·have hj : j = k - 1 := by omega
       subst hj
       have e : k - 1 + 1 = k := by omega
       simp only [e]
       rw [hp, ht]; exact hpg
    by_cases d0 : g.dir < -1
    ·simp -implicitDefEqProofs (disch := first | omega | (simp <;> fail) | assumption) [hlt, ht, hrow, Leg.cells, hrow1, i1, i2, i3, i4, hp, d0]
    by_cases d1 : 1 < g.dir
    ·simp -implicitDefEqProofs (disch := first | omega | (simp <;> fail) | assumption) [hlt, ht, hrow, Leg.cells, hrow1, i1, i2, i3, i4, hp, d0, d1]
    by_cases d2 : g.pos < -1073741824
    ·simp -implicitDefEqProofs (disch := first | omega | (simp <;> fail) | assumption) [hlt, ht, hrow, Leg.cells, hrow1, i1, i2, i3, i4, hp, d0, d1, d2]
    by_cases d3 : 1073741824 < g.pos
    ·simp -implicitDefEqProofs (disch := first | omega | (simp <;> fail) | assumption) [hlt, ht, hrow, Leg.cells, hrow1, i1, i2, i3, i4, hp, d0, d1, d2, d3]
    by_cases d4 : g.tick < -1073741824
    ·simp -implicitDefEqProofs (disch := first | omega | (simp <;> fail) | assumption) [hlt, ht, hrow, Leg.cells, hrow1, i1, i2, i3, i4, hp, d0, d1, d2, d3, d4]
    by_cases d5 : 1073741824 < g.tick
    ·simp -implicitDefEqProofs (disch := first | omega | (simp <;> fail) | assumption) [hlt, ht, hrow, Leg.cells, hrow1, i1, i2, i3, i4, hp, d0, d1, d2, d3, d4, d5]
    by_cases d6 : g.tick ≤ p.tick
    ·simp -implicitDefEqProofs (disch := first | omega | (simp <;> fail) | assumption) [hlt, ht, hrow, Leg.cells, hrow1, i1, i2, i3, i4, hp, d0, d1, d2, d3, d4, d5, d6]
    ·simp -implicitDefEqProofs (disch := first | omega | (simp <;> fail) | assumption) [hlt, ht, hrow, Leg.cells, hrow1, i1, i2, i3, i4, hp, d0, d1, d2, d3, d4, d5, d6]
     exact fin ⟨⟨by omega, by omega⟩, ⟨by omega, by omega⟩, ⟨by omega, by omega⟩⟩ (by omega)
  ·obtain rfl : k = l.length := by omega
   simp -implicitDefEqProofs (disch := first | omega | (simp <;> fail) | assumption) []
   exact ⟨fun j h => hq1 j h h, fun j h => hq2 j h h⟩
 rcases hR with ⟨rfl, rfl, h1, h2⟩ | ⟨rfl, rfl⟩
 ·refine ⟨false, by simp -implicitDefEqProofs (disch := first | omega | (simp <;> fail) | assumption) [c, c', hin], fun _ => ⟨by omega, fun g hg => ?_, rise_adj h2⟩⟩
  obtain ⟨j, hj, rfl⟩ := List.mem_iff_getElem.1 hg
  exact h1 j hj
 ·exact ⟨true, by simp -implicitDefEqProofs (disch := first | omega | (simp <;> fail) | assumption) [c, c', hin], by simp⟩
abbrev dL (l : List Leg) : D := .vs 4 (l.map Leg.cells)
abbrev logD (ts : List Trip) (ls : List (List Leg)) (u : Int) : List D := [.vs 7 (ts.map Trip.cells), .vs 1 (ls.map fun l => [dL l]), .int .i64 u]
abbrev vLs (ls : List (List Leg)) : AV := .c (.vs 1 (ls.map fun l => [dL l]))
structure LsOk (H : Int) (ls : List (List Leg)) : Prop where
 few : ls.length ≤ 10
 hor : -1 ≤ H ∧ H ≤ 1073741824
 ok : ∀ l ∈ ls, WayI l
 near : ∀ l ∈ ls, ∀ x ∈ l.head?, H - x.tick ≤ 300
def Great35 (g : List AV → Option (List AV)) : Prop := ∀ (ls : List (List Leg)) (H : Int), ∃ b, g [vLs ls, i64 H] = some [bo b] ∧ (b = false → LsOk H ls)
theorem law35_Great_run (Γ : Env) (M : Nat) (hM : 1000 < M) (hG : Great25 (Γ 292)) : Great35 (run Γ M law35_Great_f) := by
 intro ls H
 by_cases c1 : 10 < ls.length
 ·have c1' : 10 < (ls.length : Int) := by omega
  exact ⟨true, by simp -implicitDefEqProofs (disch := first | omega | (simp <;> fail) | assumption) [c1, c1'], by simp⟩
 have c1' : ¬ 10 < (ls.length : Int) := by omega
 by_cases c2 : H < -1
 ·exact ⟨true, by simp -implicitDefEqProofs (disch := first | omega | (simp <;> fail) | assumption) [c1, c1', c2], by simp⟩
 by_cases c3 : 1073741824 < H
 ·exact ⟨true, by simp -implicitDefEqProofs (disch := first | omega | (simp <;> fail) | assumption) [c1, c1', c2, c3], by simp⟩
 obtain ⟨ax, s', hR, hin⟩ : ∃ ax s', ((ax = .ex 0 ∧ s' = ⟨[], []⟩ ∧ ∀ l ∈ ls, WayI l ∧ ∀ x ∈ l.head?, H - x.tick ≤ 300) ∨ (ax = .ret ∧ s' = ⟨[(4, bo true)], []⟩)) ∧ ∀ s0, nrm [0, 1, 5] [] s0 = ⟨[(0, vLs ls), (1, i64 H), (5, i64 (0 : Nat))], []⟩ → lp (exec Γ M law35_Great_l1) M s0 = some (ax, s') := by
  refine lp_all (fun q : Nat => ⟨[(0, vLs ls), (1, i64 H), (5, i64 q)], []⟩) (fun q => q ≤ ls.length ∧ ∀ l ∈ ls.take q, WayI l ∧ ∀ x ∈ l.head?, H - x.tick ≤ 300) (fun q => ls.length - q) _ 0 M (by simp) ⟨by simp, by simp⟩ (by omega) ?_
  rintro k ⟨hk, hq⟩
  by_cases hlt : k < ls.length
  ·obtain ⟨l, ht⟩ : ∃ w, ls[k]'hlt = w := ⟨_, rfl⟩
   have hrow : (ls.map fun l => [dL l])[k]? = some [dL l] := by simp [hlt, ht]
   obtain ⟨b, e, hb⟩ := hG l
   have hnext : (WayI l ∧ ∀ x ∈ l.head?, H - x.tick ≤ 300) → ∀ y ∈ ls.take (k + 1), WayI y ∧ ∀ x ∈ y.head?, H - x.tick ≤ 300 := by
    intro h y hy
    rw [List.take_succ_eq_append_getElem hlt, ht, List.mem_append] at hy
    rcases hy with hy | hy
    ·exact hq y hy
    ·rw [List.mem_singleton] at hy; exact hy ▸ h
   by_cases d1 : 40 < l.length
   ·have d1' : 40 < (l.length : Int) := by omega
    simp -implicitDefEqProofs (disch := first | omega | (simp <;> fail) | assumption) [hlt, ht, hrow, d1, d1']
   have d1' : ¬ 40 < (l.length : Int) := by omega
   cases b with
   | true => simp -implicitDefEqProofs (disch := first | omega | (simp <;> fail) | assumption) [hlt, ht, hrow, d1, d1', e]
   | false =>
    have hw := hb rfl
    have hwi : WayI l := ⟨by omega, hw.ok, hw.up⟩
    cases l with
    | nil =>
     have hn := hnext ⟨hwi, by simp⟩
     simp -implicitDefEqProofs (disch := first | omega | (simp <;> fail) | assumption) [hlt, ht, hrow, e]
     exact ⟨k + 1, by omega, ⟨by omega, hn⟩, by omega⟩
    | cons g r =>
     have hgt := (hw.ok g (by simp)).tick
     have d2' : (0 : Int) < (r.length : Int) + 1 := by omega
     have d3' : ¬ 40 < (r.length : Int) + 1 := by simp at d1'; omega
     have d4' : ¬ 40 < r.length + 1 := by simpa using d1
     by_cases d2 : 300 < H - g.tick
     ·simp -implicitDefEqProofs (disch := first | omega | (simp <;> fail) | assumption) [hlt, ht, hrow, e, d2', d3', d4', Leg.cells, d2]
     ·have hn := hnext ⟨hwi, by simp; omega⟩
      simp -implicitDefEqProofs (disch := first | omega | (simp <;> fail) | assumption) [hlt, ht, hrow, e, d2', d3', d4', Leg.cells, d2]
      exact ⟨k + 1, by omega, ⟨by omega, hn⟩, by omega⟩
  ·obtain rfl : k = ls.length := by omega
   rw [List.take_length] at hq
   simp -implicitDefEqProofs (disch := first | omega | (simp <;> fail) | assumption) []
   exact hq
 rcases hR with ⟨rfl, rfl, h1⟩ | ⟨rfl, rfl⟩
 ·exact ⟨false, by simp -implicitDefEqProofs (disch := first | omega | (simp <;> fail) | assumption) [c1, c1', c2, c3, hin], fun _ => ⟨by omega, by omega, fun l hl => (h1 l hl).1, fun l hl => (h1 l hl).2⟩⟩
 ·exact ⟨true, by simp -implicitDefEqProofs (disch := first | omega | (simp <;> fail) | assumption) [c1, c1', c2, c3, hin], by simp⟩
end Go.Am
namespace Go.Am
def abdE (H : Int) (t : Trip) : Int := if 0 ≤ t.alight ∧ t.alight < H then t.alight else H
def abd1 (H : Int) (t : Trip) : Int := if 0 ≤ t.board ∧ t.board < H ∧ t.board < abdE H t then abdE H t - t.board else 0
def abdL (H : Int) (l : List Trip) : Int := (l.map (abd1 H)).sum
theorem abd1_in {H : Int} (h0 : 1 ≤ H) (h : H ≤ 300) (t : Trip) : 0 ≤ abd1 H t ∧ abd1 H t ≤ 300 := by
 unfold abd1 abdE; split <;> split at * <;> omega
theorem abdL_in {H : Int} (h0 : 1 ≤ H) (h : H ≤ 300) : ∀ l : List Trip, 0 ≤ abdL H l ∧ abdL H l ≤ 300 * l.length
 | [] => by simp [abdL]
 | t :: r => by
  have h1 := abd1_in h0 h t
  have h2 := abdL_in h0 h r
  unfold abdL at h2 ⊢
  rw [List.map_cons, List.sum_cons, List.length_cons]
  omega
theorem abdL_snoc (H : Int) (l : List Trip) (k : Nat) (h : k < l.length) : abdL H (l.take (k + 1)) = abdL H (l.take k) + abd1 H l[k] := by
 unfold abdL
 rw [List.take_succ_eq_append_getElem h, List.map_append, List.sum_append]; simp
def AbdC (g : List AV → Option (List AV)) : Prop := ∀ (l : List Trip) (H : Int), Gd l → 1 ≤ H → H ≤ 300 → g [vT l, i64 H] = some [i64 (abdL H l)]
theorem ref24_Aboard_run (Γ : Env) (M : Nat) (hM : 1000 < M) : AbdC (run Γ M ref24_Aboard_f) := by
 intro l H hl h0 h3
 have hn := hl.n
 obtain ⟨ax, s', ⟨rfl, rfl⟩, hin⟩ : ∃ ax s', (ax = .ex 0 ∧ s' = ⟨[(5, i64 (abdL H l))], []⟩) ∧ ∀ s0, nrm [0, 1, 5, 6] [] s0 = ⟨[(0, vT l), (1, i64 H), (5, i64 (abdL H (l.take 0))), (6, i64 (0 : Nat))], []⟩ → lp (exec Γ M ref24_Aboard_l1) M s0 = some (ax, s') := by
  refine lp_all (fun q : Nat => ⟨[(0, vT l), (1, i64 H), (5, i64 (abdL H (l.take q))), (6, i64 q)], []⟩) (fun q => q ≤ l.length) (fun q => l.length - q) _ 0 M (by simp) (by simp) (by omega) ?_
  intro k hk
  by_cases hlt : k < l.length
  ·obtain ⟨t, ht⟩ : ∃ w, l[k]'hlt = w := ⟨_, rfl⟩
   have hm := hl.all t (by rw [← ht]; exact List.getElem_mem hlt)
   have b1 := hm.brd
   have b2 := hm.alt
   have hrow := trip_get hlt ht
   have hs := abdL_snoc H l k hlt
   have hin := abdL_in h0 h3 (l.take k)
   rw [List.length_take] at hin
   rw [ht] at hs
   simp only [Trip.cells] at hrow
   generalize abdL H (l.take k) = c at *
   by_cases d : 0 ≤ t.alight ∧ t.alight < H
   ·obtain ⟨d1, d2⟩ := d
    by_cases e : 0 ≤ t.board ∧ t.board < H ∧ t.board < t.alight
    ·obtain ⟨e1, e2, e3⟩ := e
     have hv : abd1 H t = t.alight - t.board := by unfold abd1; rw [(show abdE H t = t.alight from if_pos ⟨d1, d2⟩)]; split <;> omega
     rw [hv] at hs
     simp -implicitDefEqProofs (disch := first | omega | assumption) [hlt, ht, hrow, d1, d2, e1, e2, e3]
     exact ⟨k + 1, by omega, by omega, by omega⟩
    ·have hv : abd1 H t = 0 := by unfold abd1; rw [(show abdE H t = t.alight from if_pos ⟨d1, d2⟩)]; split <;> omega
     rw [hv] at hs
     by_cases e1 : 0 ≤ t.board
     ·by_cases e2 : t.board < H
      ·have e3 : ¬ t.board < t.alight := fun h => e ⟨e1, e2, h⟩
       simp -implicitDefEqProofs (disch := first | omega | assumption) [hlt, ht, hrow, d1, d2, e1, e2, e3]
       exact ⟨k + 1, by omega, by omega, by omega⟩
      ·simp -implicitDefEqProofs (disch := first | omega | assumption) [hlt, ht, hrow, d1, d2, e1, e2]
       exact ⟨k + 1, by omega, by omega, by omega⟩
     ·simp -implicitDefEqProofs (disch := first | omega | assumption) [hlt, ht, hrow, d1, d2, e1]
      exact ⟨k + 1, by omega, by omega, by omega⟩
   ·by_cases e : 0 ≤ t.board ∧ t.board < H
    ·obtain ⟨e1, e2⟩ := e
     have hv : abd1 H t = H - t.board := by unfold abd1; rw [show abdE H t = H from if_neg d]; split <;> omega
     rw [hv] at hs
     by_cases d1 : 0 ≤ t.alight
     ·have d2 : ¬ t.alight < H := fun h => d ⟨d1, h⟩
      simp -implicitDefEqProofs (disch := first | omega | assumption) [hlt, ht, hrow, d1, d2, e1, e2]
      exact ⟨k + 1, by omega, by omega, by omega⟩
     ·simp -implicitDefEqProofs (disch := first | omega | assumption) [hlt, ht, hrow, d1, e1, e2]
      exact ⟨k + 1, by omega, by omega, by omega⟩
    ·have hv : abd1 H t = 0 := by unfold abd1; split <;> omega
     rw [hv] at hs
     by_cases e1 : 0 ≤ t.board
     ·have e2 : ¬ t.board < H := fun h => e ⟨e1, h⟩
      by_cases d1 : 0 ≤ t.alight
      ·have d2 : ¬ t.alight < H := fun h => d ⟨d1, h⟩
       simp -implicitDefEqProofs (disch := first | omega | assumption) [hlt, ht, hrow, d1, d2, e1, e2]
       exact ⟨k + 1, by omega, by omega, by omega⟩
      ·simp -implicitDefEqProofs (disch := first | omega | assumption) [hlt, ht, hrow, d1, e1, e2]
       exact ⟨k + 1, by omega, by omega, by omega⟩
     ·by_cases d1 : 0 ≤ t.alight
      ·have d2 : ¬ t.alight < H := fun h => d ⟨d1, h⟩
       simp -implicitDefEqProofs (disch := first | omega | assumption) [hlt, ht, hrow, d1, d2, e1]
       exact ⟨k + 1, by omega, by omega, by omega⟩
      ·simp -implicitDefEqProofs (disch := first | omega | assumption) [hlt, ht, hrow, d1, e1]
       exact ⟨k + 1, by omega, by omega, by omega⟩
  ·obtain rfl : k = l.length := by omega
   rw [List.take_length]
   simp -implicitDefEqProofs (disch := first | omega | assumption)
 have hlp : lp (exec Γ M ref24_Aboard_l1) M ⟨[(0, vT l), (1, i64 H), (5, i64 0), (6, i64 0)], []⟩ = some (.ex 0, ⟨[(5, i64 (abdL H l))], []⟩) := hin _ (by simp [abdL])
 simp -implicitDefEqProofs (disch := first | omega | assumption) [hlp]
theorem trip_Aboard_run (Γ : Env) (M : Nat) (hM : 1000 < M) : AbdC (run Γ M trip_Aboard_f) := by
 intro l H hl h0 h3
 have hn := hl.n
 obtain ⟨ax, s', ⟨rfl, rfl⟩, hin⟩ : ∃ ax s', (ax = .ex 0 ∧ s' = ⟨[(5, i64 (abdL H l))], []⟩) ∧ ∀ s0, nrm [1, 5, 9, 10, 11] [] s0 = ⟨[(1, i64 H), (5, i64 (abdL H (l.take 0))), (9, vT l), (10, i64 l.length), (11, i64 (0 : Nat))], []⟩ → lp (exec Γ M trip_Aboard_l1) M s0 = some (ax, s') := by
  refine lp_all (fun q : Nat => ⟨[(1, i64 H), (5, i64 (abdL H (l.take q))), (9, vT l), (10, i64 l.length), (11, i64 q)], []⟩) (fun q => q ≤ l.length) (fun q => l.length - q) _ 0 M (by simp) (by simp) (by omega) ?_
  intro k hk
  by_cases hlt : k < l.length
  ·obtain ⟨t, ht⟩ : ∃ w, l[k]'hlt = w := ⟨_, rfl⟩
   have hm := hl.all t (by rw [← ht]; exact List.getElem_mem hlt)
   have b1 := hm.brd
   have b2 := hm.alt
   have hrow := trip_get hlt ht
   have hs := abdL_snoc H l k hlt
   have hin := abdL_in h0 h3 (l.take k)
   rw [List.length_take] at hin
   rw [ht] at hs
   simp only [Trip.cells] at hrow
   generalize abdL H (l.take k) = c at *
   by_cases e1 : t.board < 0
   ·have hv : abd1 H t = 0 := by unfold abd1; split <;> omega
    rw [hv] at hs
    simp -implicitDefEqProofs (disch := first | omega | assumption) [hlt, ht, hrow, e1]
    exact ⟨k + 1, by omega, by omega, by omega⟩
   by_cases e2 : H ≤ t.board
   ·have hv : abd1 H t = 0 := by unfold abd1; split <;> omega
    rw [hv] at hs
    simp -implicitDefEqProofs (disch := first | omega | assumption) [hlt, ht, hrow, e1, e2]
    exact ⟨k + 1, by omega, by omega, by omega⟩
   by_cases d1 : 0 ≤ t.alight
   ·by_cases d2 : t.alight < H
    ·by_cases e3 : t.alight - t.board < 0
     ·have hv : abd1 H t = 0 := by unfold abd1; rw [(show abdE H t = t.alight from if_pos ⟨d1, d2⟩)]; split <;> omega
      rw [hv] at hs
      simp -implicitDefEqProofs (disch := first | omega | assumption) [hlt, ht, hrow, d1, d2, e1, e2, e3]
      exact ⟨k + 1, by omega, by omega, by omega⟩
     ·have hv : abd1 H t = t.alight - t.board := by unfold abd1; rw [(show abdE H t = t.alight from if_pos ⟨d1, d2⟩)]; split <;> omega
      rw [hv] at hs
      simp -implicitDefEqProofs (disch := first | omega | assumption) [hlt, ht, hrow, d1, d2, e1, e2, e3]
      exact ⟨k + 1, by omega, by omega, by omega⟩
    ·have hv : abd1 H t = H - t.board := by unfold abd1; rw [show abdE H t = H from if_neg fun h => d2 h.2]; split <;> omega
     rw [hv] at hs
     have e3 : ¬ H - t.board < 0 := by omega
     simp -implicitDefEqProofs (disch := first | omega | assumption) [hlt, ht, hrow, d1, d2, e1, e2, e3]
     exact ⟨k + 1, by omega, by omega, by omega⟩
   ·have hv : abd1 H t = H - t.board := by unfold abd1; rw [show abdE H t = H from if_neg fun h => d1 h.1]; split <;> omega
    rw [hv] at hs
    have e3 : ¬ H - t.board < 0 := by omega
    simp -implicitDefEqProofs (disch := first | omega | assumption) [hlt, ht, hrow, d1, e1, e2, e3]
    exact ⟨k + 1, by omega, by omega, by omega⟩
  ·obtain rfl : k = l.length := by omega
   rw [List.take_length]
   simp -implicitDefEqProofs (disch := first | omega | assumption)
 have hlp : lp (exec Γ M trip_Aboard_l1) M ⟨[(1, i64 H), (5, i64 0), (9, vT l), (10, i64 l.length), (11, i64 0)], []⟩ = some (.ex 0, ⟨[(5, i64 (abdL H l))], []⟩) := hin _ (by simp [abdL])
 simp -implicitDefEqProofs (disch := first | omega | assumption) [hlp]
end Go.Am
namespace Go.Am
def posL (H : Int) : List Leg → List Int
 | [] => []
 | g :: r => tB (fun t => g.at t) g.tick (endT H r - g.tick).toNat ++ posL H r
def stpA (o : Option Int) (x : Int) : Int := match o with
 | some p => ((x - p).natAbs : Int)
 | none => 0
def absd : Option Int → List Int → Int
 | _, [] => 0
 | o, x :: r => stpA o x + absd (some x) r
def farL (H : Int) : Option Int → List Leg → Int
 | _, [] => 0
 | o, g :: r => if endT H r ≤ g.tick then 0 else stpA o g.pos + (((endT H r - g.tick - 1) * g.dir).natAbs : Int) + farL H (some (g.pos + (endT H r - g.tick - 1) * g.dir)) r
theorem endT_le (H : Int) : ∀ r : List Leg, endT H r ≤ H
 | [] => by simp [endT]
 | x :: r => by simp only [endT]; omega
theorem posL_late {H : Int} : ∀ l : List Leg, (∀ g ∈ l, H ≤ g.tick) → posL H l = []
 | [], _ => rfl
 | g :: r, h => by
  have h1 := h g (by simp)
  have h2 := endT_le H r
  rw [posL, posL_late r fun x hx => h x (by simp [hx]), show (endT H r - g.tick).toNat = 0 by omega]; rfl
theorem all_posL {H : Int} : ∀ (r : List Leg) (g : Leg), Rise (g :: r) → tB (fun t => (tickV (g :: r) t).1) g.tick (H - g.tick).toNat = posL H (g :: r)
 | [], g, hr => by
  rw [posL, posL, List.append_nil, endT]
  apply tB_congr
  intro t h1 h2
  simp [tickV, lastLe, h1]
 | x :: r', g, hr => by
  have hx := hr.1 x (by simp)
  have far : ∀ t, x.tick ≤ t → (tickV (g :: x :: r') t).1 = (tickV (x :: r') t).1 := by
   intro t ht
   unfold tickV
   rw [lastLe, lastLe_some t (x :: r') _ none ⟨x, by simp, ht⟩]
  have near : ∀ t, g.tick ≤ t → t < x.tick → (tickV (g :: x :: r') t).1 = g.at t := by
   intro t h1 h2
   unfold tickV
   rw [lastLe, if_pos h1, lastLe_none]
   intro y hy
   rcases List.mem_cons.1 hy with rfl | hy
   ·exact h2
   ·have := hr.2.1 y hy; omega
  by_cases c : H ≤ x.tick
  ·have h1 := posL_late (H := H) (x :: r') fun y hy => by
    rcases List.mem_cons.1 hy with rfl | hy
    ·exact c
    ·have := hr.2.1 y hy; omega
   rw [posL, h1, List.append_nil, endT, show min H x.tick = H by omega]
   apply tB_congr
   intro t p1 p2
   exact near t p1 (by omega)
  ·rw [posL, ← all_posL r' x hr.2, endT, show min H x.tick = x.tick by omega, show (H - g.tick).toNat = (x.tick - g.tick).toNat + (H - x.tick).toNat by omega, tB_add]
   congr 1
   ·apply tB_congr
    intro t p1 p2
    exact near t p1 (by omega)
   ·rw [show g.tick + ((x.tick - g.tick).toNat : Int) = x.tick by omega]
    apply tB_congr
    intro t p1 p2
    exact far t p1
theorem at_step (g : Leg) (t : Int) : g.at t - g.at (t - 1) = g.dir := by
 unfold Leg.at
 have : g.dir * (t - 1 - g.tick) = g.dir * (t - g.tick) - g.dir := by rw [show t - 1 - g.tick = (t - g.tick) - 1 by omega, Int.mul_sub, Int.mul_one]
 omega
theorem absd_line (g : Leg) : ∀ (n : Nat) (t : Int) (rest : List Int), absd (some (g.at (t - 1))) (tB (fun t => g.at t) t n ++ rest) = n * (g.dir.natAbs : Int) + absd (some (g.at (t + n - 1))) rest
 | 0, t, rest => by simp [tB]
 | n + 1, t, rest => by
  have h := absd_line g n (t + 1) rest
  rw [tB, List.cons_append, absd, stpA, at_step]
  rw [show t + 1 - 1 = t by omega] at h
  rw [h, show t + 1 + (n : Int) - 1 = t + ((n + 1 : Nat) : Int) - 1 by omega, show ((n + 1 : Nat) : Int) * (g.dir.natAbs : Int) = n * (g.dir.natAbs : Int) + g.dir.natAbs by rw [Int.natCast_add, Int.add_mul]; simp]
  omega
theorem at_tick (g : Leg) : g.at g.tick = g.pos := by simp [Leg.at]
theorem far_same {H : Int} : ∀ (l : List Leg), Rise l → ∀ o, absd o (posL H l) = farL H o l
 | [], _, o => rfl
 | g :: r, hr, o => by
  rw [posL, farL]
  by_cases c : endT H r ≤ g.tick
  ·rw [if_pos c, show (endT H r - g.tick).toNat = 0 by omega, tB, List.nil_append, posL_late]
   ·rfl
   ·intro x hx
    have h1 := hr.1 x hx
    cases r with
    | nil => simp at hx
    | cons y r =>
     have h2 := hr.1 y (by simp)
     simp only [endT] at c
     omega
  ·rw [if_neg c]
   obtain ⟨n, hn⟩ : ∃ n : Nat, (endT H r - g.tick).toNat = n + 1 := ⟨(endT H r - g.tick).toNat - 1, by omega⟩
   have hl := absd_line g n (g.tick + 1) (posL H r)
   rw [show g.tick + 1 - 1 = g.tick by omega, at_tick] at hl
   rw [hn, tB, List.cons_append, absd, at_tick, hl, far_same r hr.2]
   have hm : endT H r - g.tick - 1 = n := by omega
   have hp : g.at (g.tick + 1 + n - 1) = g.pos + (n : Int) * g.dir := by
    unfold Leg.at
    rw [show g.tick + 1 + (n : Int) - 1 - g.tick = n by omega, Int.mul_comm]
   rw [hm, hp, Int.natAbs_mul, Int.natAbs_natCast, Int.natCast_mul]
   omega
end Go.Am
namespace Go.Am
structure LgOk (H : Int) (l : List Leg) : Prop where
 way : WayI l
 h0 : 1 ≤ H
 h1 : H ≤ 300
 near : ∀ x ∈ l.head?, H - x.tick ≤ 300
def FarC (g : List AV → Option (List AV)) : Prop := ∀ (l : List Leg) (H : Int), LgOk H l → g [vL l, i64 H] = some [i64 (farL H none l)]
theorem absd_snoc : ∀ (l : List Int) (o : Option Int) (x y : Int), absd o (l ++ [x, y]) = absd o (l ++ [x]) + ((y - x).natAbs : Int)
 | [], o, x, y => by simp [absd, stpA]
 | z :: l, o, x, y => by
  simp only [List.cons_append, absd, absd_snoc l (some z) x y]; omega
theorem tickV_in {l : List Leg} (hw : WayI l) {t : Int} (ht : -1073741824 ≤ t ∧ t ≤ 1073741824) : -20000000000 ≤ (tickV l t).1 ∧ (tickV l t).1 ≤ 20000000000 := by
 unfold tickV
 have hmem : ∀ (l : List Leg) (o : Option Leg) (g : Leg), lastLe t o l = some g → g ∈ l ∨ o = some g := by
  intro l
  induction l with
  | nil => intro o g h; exact .inr h
  | cons x r ih =>
   intro o g h
   rw [lastLe] at h
   rcases ih _ _ h with h | h
   ·exact .inl (by simp [h])
   ·split at h
    ·simp only [Option.some.injEq] at h; subst h; exact .inl (by simp)
    ·exact .inr h
 cases h : lastLe t none l with
 | none => simp
 | some g =>
  simp only
  rcases hmem l none g h with hg | hg
  ·have b := at_bound hw ht hg
   have b2 := (hw.ok g hg).pos
   unfold Leg.at; omega
  ·simp at hg
theorem ref25_Far_run (Γ : Env) (M : Nat) (hM : 1000 < M) (hA : All25C (Γ 128)) (hN : All25N (Γ 128)) : FarC (run Γ M ref25_Far_f) := by
 intro l H hl
 have h0 := hl.h0
 have h1 := hl.h1
 cases l with
 | nil =>
  have e := hN H
  have hlp : lp (exec Γ M ref25_Far_l1) M ⟨[(5, .c (.vs 2 [])), (6, i64 0), (7, i64 1)], []⟩ = some (.ex 0, ⟨[(6, i64 0)], []⟩) := by
   obtain ⟨m, rfl⟩ : ∃ m, M = m + 1 := ⟨M - 1, by omega⟩
   simp -implicitDefEqProofs (disch := omega) [lp_succ (exec Γ (m + 1) ref25_Far_l1), ref25_Far_l1_x]
  obtain ⟨l0, hl0⟩ : ∃ l0 : List Leg, l0 = [] := ⟨_, rfl⟩
  have e2 : Γ 128 [vL l0, i64 H] = some [.c (.vs 2 [])] := by rw [hl0]; exact e
  show run Γ M ref25_Far_f [vL [], i64 H] = some [i64 0]
  rw [← hl0]
  simp -implicitDefEqProofs (disch := omega) [e2, hlp]
 | cons g r =>
  have hw := hl.way
  have hn := hl.near g (by simp)
  have e := hA (g :: r) H g.tick (by simp) hw rfl (by omega) hn
  have b0 := (hw.ok g (by simp)).tick
  obtain ⟨n, hnn⟩ : ∃ n, (H - g.tick).toNat = n := ⟨_, rfl⟩
  have hpl := all_posL (H := H) r g hw.up
  rw [hnn] at e hpl
  have hn300 : n ≤ 300 := by omega
  have hF : farL H none (g :: r) = absd none (tB (fun t => (tickV (g :: r) t).1) g.tick n) := by rw [hpl, far_same _ hw.up]
  have hpi : ∀ i, i < n → -20000000000 ≤ (tickV (g :: r) (g.tick + i)).1 ∧ (tickV (g :: r) (g.tick + i)).1 ≤ 20000000000 := fun i hi => tickV_in hw (by omega)
  have hget : ∀ i, i < n → ((tB (tickV (g :: r)) g.tick n).map tkD)[i]? = some (tkD (tickV (g :: r) (g.tick + i))) := fun i hi => by
   rw [List.getElem?_map, tB_get _ n g.tick i hi]; rfl
  have hlen : ((tB (tickV (g :: r)) g.tick n).map tkD).length = n := by rw [List.length_map, tB_len]
  have hstep : ∀ k : Nat, absd none (tB (fun t => (tickV (g :: r) t).1) g.tick (k + 2)) = absd none (tB (fun t => (tickV (g :: r) t).1) g.tick (k + 1)) + (((tickV (g :: r) (g.tick + ((k + 1 : Nat) : Int))).1 - (tickV (g :: r) (g.tick + (k : Int))).1).natAbs : Int) := fun k => by
   rw [tB_snoc _ (k + 1), tB_snoc _ k, List.append_assoc, List.singleton_append, absd_snoc]
  have hbnd : ∀ k : Nat, k < n → 0 ≤ absd none (tB (fun t => (tickV (g :: r) t).1) g.tick (k + 1)) ∧ absd none (tB (fun t => (tickV (g :: r) t).1) g.tick (k + 1)) ≤ 40000000000 * (k : Int) := by
   intro k
   induction k with
   | zero => intro _; simp [tB, absd, stpA]
   | succ k ih =>
    intro hk
    have := ih (by omega)
    have a1 := hpi (k + 1) hk
    have a2 := hpi k (by omega)
    rw [hstep k]
    omega
  rw [hF]
  obtain ⟨rows, hrows⟩ : ∃ rows, (tB (tickV (g :: r)) g.tick n).map tkD = rows := ⟨_, rfl⟩
  rw [hrows] at e hget hlen
  obtain ⟨T, hT⟩ : ∃ T : Nat → Int × Bool, ∀ i : Nat, tickV (g :: r) (g.tick + (i : Int)) = T i := ⟨_, fun _ => rfl⟩
  obtain ⟨A, hAA⟩ : ∃ A : Nat → Int, ∀ k : Nat, absd none (tB (fun t => (tickV (g :: r) t).1) g.tick k) = A k := ⟨_, fun _ => rfl⟩
  simp only [hT, hAA] at hpi hget hstep hbnd ⊢
  have hA0 : A 0 = 0 := by rw [← hAA]; rfl
  have hA1 : A 1 = 0 := by rw [← hAA]; simp [tB, absd, stpA]
  clear hF hpl
  obtain ⟨ax, s', ⟨rfl, rfl⟩, hin⟩ : ∃ ax s', (ax = .ex 0 ∧ s' = ⟨[(6, i64 (A n))], []⟩) ∧ ∀ s0, nrm [5, 6, 7] [] s0 = ⟨[(5, .c (.vs 2 rows)), (6, i64 (A (0 + 1))), (7, i64 ((0 + 1 : Nat) : Int))], []⟩ → lp (exec Γ M ref25_Far_l1) M s0 = some (ax, s') := by
   refine lp_all (fun q : Nat => ⟨[(5, .c (.vs 2 rows)), (6, i64 (A (q + 1))), (7, i64 ((q + 1 : Nat) : Int))], []⟩) (fun q => q + 1 ≤ n ∨ q = 0) (fun q => n - q) _ 0 M (by simp) (by simp) (by omega) ?_
   intro k hk
   by_cases hlt : k + 1 < n
   ·have g1 := hget (k + 1) hlt
    have g2 := hget k (by omega)
    have b1 := hpi (k + 1) hlt
    have b2 := hpi k (by omega)
    have hs : A (k + 1 + 1) = A (k + 1) + (((T (k + 1)).1 - (T k).1).natAbs : Int) := hstep k
    have hb := hbnd k (by omega)
    have hb2 := hbnd (k + 1) hlt
    have hc : (k : Int) + 1 < rows.length := by omega
    obtain ⟨x, hx⟩ : ∃ x, T (k + 1) = x := ⟨_, rfl⟩
    obtain ⟨y, hy⟩ : ∃ y, T k = y := ⟨_, rfl⟩
    rw [hx] at g1 b1 hs
    rw [hy] at g2 b2 hs
    obtain ⟨x1, x2⟩ := x
    obtain ⟨y1, y2⟩ := y
    simp only [tkD] at g1 g2 b1 b2 hs
    have g1' : ∀ h, rows[k + 1]'h = [.int .i64 x1, .bool x2] := fun h => by rw [List.getElem?_eq_getElem h] at g1; exact Option.some.inj g1
    have g2' : ∀ h, rows[k]'h = [.int .i64 y1, .bool y2] := fun h => by rw [List.getElem?_eq_getElem h] at g2; exact Option.some.inj g2
    by_cases d : x1 - y1 < 0
    ·have hd : ((x1 - y1).natAbs : Int) = -(x1 - y1) := by omega
     rw [hd] at hs
     simp -implicitDefEqProofs (disch := first | omega | assumption) [hlen, hc, hlt, g1', g2', d]
     exact ⟨k + 1, by omega, by omega, by omega⟩
    ·have hd : ((x1 - y1).natAbs : Int) = x1 - y1 := by omega
     rw [hd] at hs
     simp -implicitDefEqProofs (disch := first | omega | assumption) [hlen, hc, hlt, g1', g2', d]
     exact ⟨k + 1, by omega, by omega, by omega⟩
   ·have hAk : A (k + 1) = A n := by
     rcases hk with hk | rfl
     ·rw [show n = k + 1 by omega]
     ·rcases Nat.eq_zero_or_pos n with rfl | hp
      ·rw [hA1, hA0]
      ·rw [show n = 0 + 1 by omega]
    have hc : ¬ (k : Int) + 1 < rows.length := by omega
    simp -implicitDefEqProofs (disch := first | omega | assumption) [hlen, hc, hlt, hAk]
  have hlp : lp (exec Γ M ref25_Far_l1) M ⟨[(5, .c (.vs 2 rows)), (6, i64 0), (7, i64 1)], []⟩ = some (.ex 0, ⟨[(6, i64 (A n))], []⟩) := hin _ (by simp [hA1])
  clear hN hA hl hw hn hget hbnd hpi hin hnn
  obtain ⟨l0, hl0⟩ : ∃ l0, g :: r = l0 := ⟨_, rfl⟩
  rw [hl0] at e ⊢
  simp -implicitDefEqProofs (disch := first | omega | assumption) [e, hlp]
end Go.Am
namespace Go.Am
theorem far_in (H : Int) : ∀ (l : List Leg) (o : Option Int), 0 ≤ farL H o l
 | [], o => by simp [farL]
 | g :: r, o => by
  rw [farL]
  split
  ·simp
  ·have := far_in H r (some (g.pos + (endT H r - g.tick - 1) * g.dir))
   unfold stpA; split <;> omega
theorem mx_abs (d : Int) : (if d < -d then -d else d) = (d.natAbs : Int) := by split <;> omega
theorem mx_abs2 (a p : Int) : (if a - p < p - a then p - a else a - p) = ((a - p).natAbs : Int) := by split <;> omega
theorem track_Far_run (Γ : Env) (M : Nat) (hM : 1000 < M) : FarC (run Γ M track_Far_f) := by
 intro l H hl
 have h0 := hl.h0
 have h1 := hl.h1
 have hw := hl.way
 have hfew := hw.few
 obtain ⟨R, hR⟩ : ∃ R, farL H none l = R := ⟨_, rfl⟩
 rw [hR]
 obtain ⟨ax, s', ⟨rfl, rfl⟩, hin⟩ : ∃ ax s', (ax = .ex 0 ∧ s' = ⟨[(5, i64 R)], []⟩) ∧ ∀ s0, nrm [0, 1, 5, 6, 7, 12, 13] [] s0 = ⟨[(0, vL l), (1, i64 H), (5, i64 0), (6, i64 0), (7, bo false), (12, i64 l.length), (13, i64 (0 : Nat))], []⟩ → lp (exec Γ M track_Far_l1) M s0 = some (ax, s') := by
  refine lp_all (fun q : Int × Option Int × Nat => ⟨[(0, vL l), (1, i64 H), (5, i64 q.1), (6, i64 (q.2.1.getD 0)), (7, bo q.2.1.isSome), (12, i64 l.length), (13, i64 q.2.2)], []⟩) (fun q => q.2.2 ≤ l.length ∧ (0 ≤ q.1 ∧ q.1 ≤ q.2.2 * 30000000000) ∧ (∀ p, q.2.1 = some p → -6000000000 ≤ p ∧ p ≤ 6000000000) ∧ q.1 + farL H q.2.1 (l.drop q.2.2) = R) (fun q => l.length - q.2.2) _ (0, none, 0) M (by simp) ⟨by simp, by simp, by simp, by simpa using hR⟩ (by dsimp only; omega) ?_
  rintro ⟨n, o, k⟩ ⟨i1, i2, i3, i4⟩
  dsimp only at i1 i2 i3 i4 ⊢
  by_cases hlt : k < l.length
  ·obtain ⟨g, hg⟩ : ∃ g, l[k]'hlt = g := ⟨_, rfl⟩
   have hgm : g ∈ l := by rw [← hg]; exact List.getElem_mem hlt
   have b1 := (hw.ok g hgm).tick
   have b2 := (hw.ok g hgm).pos
   have b3 := (hw.ok g hgm).dir
   have hrow : (l.map Leg.cells)[k]? = some g.cells := by simp [hlt, hg]
   rw [List.drop_eq_getElem_cons hlt, hg, farL] at i4
   obtain ⟨e, he⟩ : ∃ e, endT H (l.drop (k + 1)) = e := ⟨_, rfl⟩
   rw [he] at i4
   obtain ⟨dd, hD⟩ : ∃ dd, (e - g.tick - 1) * g.dir = dd := ⟨_, rfl⟩
   rw [hD] at i4
   have hE : (∃ c1 : k + 1 < l.length, e = min H (l[k + 1]'c1).tick) ∨ (¬ k + 1 < l.length ∧ e = H) := by
    by_cases c1 : k + 1 < l.length
    ·refine .inl ⟨c1, ?_⟩
     rw [← he, List.drop_eq_getElem_cons c1]; rfl
    ·refine .inr ⟨c1, ?_⟩
     rw [← he, List.drop_eq_nil_of_le (by omega)]; rfl
   have b4 : -1073741824 ≤ e ∧ e ≤ 300 := by
    rcases hE with ⟨c1, hE⟩ | ⟨_, hE⟩
    ·have := (hw.ok _ (List.getElem_mem c1)).tick; omega
    ·omega
   have b5 : g.tick < e → -2147483648 ≤ dd ∧ dd ≤ 2147483648 ∧ (dd < -dd ∨ ¬ dd < -dd) := fun h => by
    have : g.dir = -1 ∨ g.dir = 0 ∨ g.dir = 1 := by omega
    rcases this with h | h | h <;> rw [h] at hD <;> omega
   have hfr := far_in H (l.drop (k + 1)) (some (g.pos + dd))
   simp only [Leg.cells] at hrow
   by_cases c2 : e ≤ g.tick
   ·rw [if_pos c2] at i4
    obtain rfl : n = R := by omega
    rcases hE with ⟨c1, hE⟩ | ⟨c1, hE⟩
    ·obtain ⟨x, hx⟩ : ∃ g, l[k + 1]'c1 = g := ⟨_, rfl⟩
     have hxm : x ∈ l := by rw [← hx]; exact List.getElem_mem c1
     have b6 := (hw.ok x hxm).tick
     rw [hx] at hE
     have hrow1 : (l.map Leg.cells)[k + 1]? = some x.cells := by simp [c1, hx]
     simp only [Leg.cells] at hrow1
     have c1' : (k : Int) + 1 < l.length := by omega
     have hmin : (if x.tick < H then x.tick else H) = e := by rw [hE]; split <;> omega
     simp -implicitDefEqProofs (disch := first | omega | (simp <;> fail) | assumption) [hlt, hg, hx, hrow, hrow1, c1', hmin, c2]
    ·have c1' : ¬ (k : Int) + 1 < l.length := by omega
     subst hE
     simp -implicitDefEqProofs (disch := first | omega | (simp <;> fail) | assumption) [hlt, hg, hrow, c1', c2]
   ·rw [if_neg c2] at i4
    obtain ⟨b7, b8, b9⟩ := b5 (by omega)
    have hmx : (if dd < -dd then -dd else dd) = (dd.natAbs : Int) := mx_abs dd
    have b10 : (dd.natAbs : Int) ≤ 2147483648 := by omega
    obtain ⟨d2, hD2⟩ : ∃ d2, (dd.natAbs : Int) = d2 := ⟨_, rfl⟩
    rw [hD2] at i4 hmx b10
    have b11 : 0 ≤ d2 := by omega
    have ke : ((e - g.tick) - 1) * g.dir = dd := hD
    rcases hE with ⟨c1, hE⟩ | ⟨c1, hE⟩
    ·obtain ⟨x, hx⟩ : ∃ g, l[k + 1]'c1 = g := ⟨_, rfl⟩
     have hxm : x ∈ l := by rw [← hx]; exact List.getElem_mem c1
     have b6 := (hw.ok x hxm).tick
     rw [hx] at hE
     have hrow1 : (l.map Leg.cells)[k + 1]? = some x.cells := by simp [c1, hx]
     simp only [Leg.cells] at hrow1
     have c1' : (k : Int) + 1 < l.length := by omega
     have hmin : (if x.tick < H then x.tick else H) = e := by rw [hE]; split <;> omega
     cases o with
     | none =>
      simp only [stpA] at i4
      simp -implicitDefEqProofs (disch := first | omega | (simp <;> fail) | assumption) [hlt, hg, hx, hrow, hrow1, c1', hmin, c2, hmx, hD]
      exact ⟨n + d2, some (g.pos + dd), k + 1, ⟨by omega, rfl, rfl, by omega⟩, ⟨by omega, by omega, fun p hp => by simp at hp; omega, by omega⟩, by omega⟩
     | some p =>
      have b12 := i3 p rfl
      simp only [stpA] at i4
      have hm2 : (if g.pos - p < p - g.pos then p - g.pos else g.pos - p) = ((g.pos - p).natAbs : Int) := mx_abs2 g.pos p
      have b13 : ((g.pos - p).natAbs : Int) ≤ 8000000000 := by omega
      obtain ⟨d3, hD3⟩ : ∃ d3, ((g.pos - p).natAbs : Int) = d3 := ⟨_, rfl⟩
      rw [hD3] at i4 hm2 b13
      have b14 : 0 ≤ d3 := by omega
      simp -implicitDefEqProofs (disch := first | omega | (simp <;> fail) | assumption) [hlt, hg, hx, hrow, hrow1, c1', hmin, c2, hmx, hD, hm2]
      exact ⟨n + d3 + d2, some (g.pos + dd), k + 1, ⟨by omega, rfl, rfl, by omega⟩, ⟨by omega, by omega, fun p hp => by simp at hp; omega, by omega⟩, by omega⟩
    ·have c1' : ¬ (k : Int) + 1 < l.length := by omega
     subst hE
     cases o with
     | none =>
      simp only [stpA] at i4
      simp -implicitDefEqProofs (disch := first | omega | (simp <;> fail) | assumption) [hlt, hg, hrow, c1', c2, hmx, hD]
      exact ⟨n + d2, some (g.pos + dd), k + 1, ⟨by omega, rfl, rfl, by omega⟩, ⟨by omega, by omega, fun p hp => by simp at hp; omega, by omega⟩, by omega⟩
     | some p =>
      have b12 := i3 p rfl
      simp only [stpA] at i4
      have hm2 : (if g.pos - p < p - g.pos then p - g.pos else g.pos - p) = ((g.pos - p).natAbs : Int) := mx_abs2 g.pos p
      have b13 : ((g.pos - p).natAbs : Int) ≤ 8000000000 := by omega
      obtain ⟨d3, hD3⟩ : ∃ d3, ((g.pos - p).natAbs : Int) = d3 := ⟨_, rfl⟩
      rw [hD3] at i4 hm2 b13
      have b14 : 0 ≤ d3 := by omega
      simp -implicitDefEqProofs (disch := first | omega | (simp <;> fail) | assumption) [hlt, hg, hrow, c1', c2, hmx, hD, hm2]
      exact ⟨n + d3 + d2, some (g.pos + dd), k + 1, ⟨by omega, rfl, rfl, by omega⟩, ⟨by omega, by omega, fun p hp => by simp at hp; omega, by omega⟩, by omega⟩
  ·obtain rfl : k = l.length := by omega
   rw [List.drop_length, farL] at i4
   obtain rfl : n = R := by omega
   simp -implicitDefEqProofs (disch := first | omega | assumption)
 have hlp : lp (exec Γ M track_Far_l1) M ⟨[(0, vL l), (1, i64 H), (5, i64 0), (6, i64 0), (7, bo false), (12, i64 l.length), (13, i64 0)], []⟩ = some (.ex 0, ⟨[(5, i64 R)], []⟩) := hin _ (by simp)
 simp -implicitDefEqProofs (disch := first | omega | assumption) [hlp]
end Go.Am
namespace Go.Am
theorem rise_lt : ∀ {l : List Leg}, Rise l → ∀ (i j : Nat) (hi : i < l.length) (hj : j < l.length), i < j → (l[i]'hi).tick < (l[j]'hj).tick
 | [], _, i, j, hi, _, _ => by simp at hi
 | g :: r, h, 0, j + 1, hi, hj, _ => by
  simp only [List.getElem_cons_zero, List.getElem_cons_succ]
  exact h.1 _ (List.getElem_mem _)
 | g :: r, h, i + 1, j + 1, hi, hj, hij => by
  simp only [List.getElem_cons_succ]
  exact rise_lt h.2 i j _ _ (by omega)
def Cut (t : Int) (l : List Leg) (c : Nat) : Prop := c ≤ l.length ∧ (∀ (i : Nat) (hi : i < l.length), i < c → (l[i]'hi).tick ≤ t) ∧ ∀ (i : Nat) (hi : i < l.length), c ≤ i → t < (l[i]'hi).tick
theorem cut_last {t : Int} {l : List Leg} {c : Nat} (h : Cut t l c) : lastLe t none l = if c = 0 then none else l[c - 1]? := by
 obtain ⟨h1, h2, h3⟩ := h
 have hl : l = l.take c ++ l.drop c := (List.take_append_drop c l).symm
 have hd : ∀ x ∈ l.drop c, t < x.tick := fun x hx => by
  obtain ⟨i, hi, rfl⟩ := List.getElem_of_mem hx
  rw [List.getElem_drop]
  exact h3 _ _ (by omega)
 rw [show lastLe t none l = lastLe t none (l.take c ++ l.drop c) by rw [← hl], lastLe_app, lastLe_none _ _ _ hd]
 cases c with
 | zero => simp [lastLe]
 | succ c =>
  have hc : c < l.length := by omega
  rw [List.take_succ_eq_append_getElem hc, lastLe_snoc, if_pos (h2 c hc (by omega))]
  simp [hc]
def FindC (g : List AV → Option (List AV)) : Prop := ∀ (l : List Leg) (t : Int), WayI l → ∃ c, Cut t l c ∧ g [.c (.vs 4 (l.map Leg.cells)), i64 t] = some [i64 ((c : Int) - 1)]
theorem track_find_run (Γ : Env) (M : Nat) (hM : 100 < M) : FindC (run Γ M track_find_f) := by
 intro l t hw
 have hfew := hw.few
 obtain ⟨ax, s', ⟨c, rfl, rfl, hc⟩, hin⟩ : ∃ ax s', (∃ c : Nat, ax = .ex 0 ∧ s' = ⟨[(5, i64 c)], []⟩ ∧ Cut t l c) ∧ ∀ s0, nrm [0, 1, 5, 6] [] s0 = ⟨[(0, .c (.vs 4 (l.map Leg.cells))), (1, i64 t), (5, i64 (0 : Nat)), (6, i64 l.length)], []⟩ → lp (exec Γ M track_find_l1) M s0 = some (ax, s') := by
  refine lp_all (fun q : Nat × Nat => ⟨[(0, .c (.vs 4 (l.map Leg.cells))), (1, i64 t), (5, i64 q.1), (6, i64 q.2)], []⟩) (fun q => q.1 ≤ q.2 ∧ q.2 ≤ l.length ∧ (∀ (i : Nat) (hi : i < l.length), i < q.1 → (l[i]'hi).tick ≤ t) ∧ ∀ (i : Nat) (hi : i < l.length), q.2 ≤ i → t < (l[i]'hi).tick) (fun q => q.2 - q.1) _ (0, l.length) M (by simp) ⟨by simp, by simp, fun i hi h => by simp at h, fun i hi h => by simp at h; omega⟩ (by dsimp only; omega) ?_
  rintro ⟨lo, hi⟩ ⟨h1, h2, h3, h4⟩
  dsimp only at h1 h2 h3 h4 ⊢
  by_cases hlt : lo < hi
  ·obtain ⟨mid, hmid⟩ : ∃ m, (lo + hi) / 2 = m := ⟨_, rfl⟩
   have hml : mid < l.length := by omega
   obtain ⟨g, hg⟩ : ∃ g, l[mid]'hml = g := ⟨_, rfl⟩
   have hshr : ((lo : Int) + (hi : Int)).fdiv (2 ^ min 1 IntKind.u64.bits) = (mid : Int) := by
    rw [show (2 : Int) ^ min 1 IntKind.u64.bits = 2 by decide, Int.fdiv_eq_ediv_of_nonneg _ (by omega)]; omega
   by_cases c : g.tick ≤ t
   ·simp -implicitDefEqProofs (disch := first | omega | assumption) [hlt, hshr, hg, c]
    refine ⟨mid + 1, hi, by omega, ⟨by omega, h2, fun i hil hi2 => ?_, h4⟩, by omega⟩
    rcases Nat.lt_or_ge i mid with q | q
    ·have := rise_lt hw.up i mid hil hml q
     rw [hg] at this; omega
    ·obtain rfl : i = mid := by omega
     rw [hg]; exact c
   ·simp -implicitDefEqProofs (disch := first | omega | assumption) [hlt, hshr, hg, c]
    refine ⟨lo, mid, by omega, ⟨by omega, by omega, h3, fun i hil hi2 => ?_⟩, by omega⟩
    rcases Nat.lt_or_ge mid i with q | q
    ·have := rise_lt hw.up mid i hml hil q
     rw [hg] at this; omega
    ·obtain rfl : i = mid := by omega
     rw [hg]; omega
  ·obtain rfl : lo = hi := by omega
   simp -implicitDefEqProofs (disch := first | omega | assumption)
   exact ⟨lo, rfl, h2, h3, h4⟩
 refine ⟨c, hc, ?_⟩
 have hc1 := hc.1
 simp -implicitDefEqProofs (disch := first | omega | (simp <;> fail) | assumption) [hin]
def TkC (g : List AV → Option (List AV)) : Prop := ∀ (l : List Leg) (t : Int), WayI l → (-1073741824 ≤ t ∧ t ≤ 1073741824) → g [.c (.vs 4 (l.map Leg.cells)), i64 t] = some [i64 (tickV l t).1, bo (tickV l t).2, bo (lastLe t none l).isSome]
theorem track_At_run (Γ : Env) (M : Nat) (h167 : FindC (Γ 167)) : TkC (run Γ M track_At_f) := by
 intro l t hw ht
 obtain ⟨c, hc, e⟩ := h167 l t hw
 have hl := cut_last hc
 have hfew := hw.few
 have hcl := hc.1
 unfold tickV
 rw [hl]
 by_cases h0 : c = 0
 ·subst h0
  simp -implicitDefEqProofs (disch := first | omega | assumption) [e]
 ·obtain ⟨d, rfl⟩ : ∃ d, c = d + 1 := ⟨c - 1, by omega⟩
  have hd : d < l.length := by omega
  obtain ⟨g, hg⟩ : ∃ g, l[d]'hd = g := ⟨_, rfl⟩
  have hgm : g ∈ l := by rw [← hg]; exact List.getElem_mem hd
  have hb := at_bound hw ht hgm
  have h1 := (hw.ok g hgm).tick
  have h2 := (hw.ok g hgm).pos
  have e2 : ((d + 1 : Nat) : Int) - 1 = d := by omega
  rw [e2] at e
  have hgd : l[d]? = some g := by rw [List.getElem?_eq_getElem hd, hg]
  simp -implicitDefEqProofs (disch := first | omega | assumption) [e, hg, hgd, Leg.at]
structure SpI (H : Int) (s : Sp) : Prop where
 lo : -1073741824 ≤ s.1
 le : s.1 < s.2
 hi : s.2 ≤ H
theorem legS_in {H : Int} {out : List Sp} {g : Leg} {e : Int} (ho : ∀ s ∈ out, SpI H s) (hg : LegI g) (he : e ≤ H) : ∀ s ∈ legS out g e, SpI H s := by
 unfold legS
 split
 ·exact ho
 ·rename_i hc
  simp only [not_or, Int.not_le] at hc
  split
  ·rename_i hl
   rcases List.eq_nil_or_concat out with rfl | ⟨o, ⟨x, y⟩, rfl⟩
   ·simp [lastTo] at hl
   ·rw [List.concat_eq_append] at hl ho ⊢
    rw [lastTo_snoc, decide_eq_true_eq] at hl
    rw [setLast_snoc]
    intro s hs
    rcases List.mem_append.1 hs with hs | hs
    ·exact ho s (by simp [hs])
    ·simp only [List.mem_singleton] at hs; subst hs
     have := ho (x, y) (by simp)
     have h1 := this.lo
     have h2 := this.le
     simp only at h1 h2
     exact ⟨h1, by simp only; omega, he⟩
  ·intro s hs
   rcases List.mem_append.1 hs with hs | hs
   ·exact ho s hs
   ·simp only [List.mem_singleton] at hs; subst hs
    exact ⟨hg.tick.1, hc.2, he⟩
theorem trk_in {H : Int} : ∀ (l : List Leg) (out : List Sp), (∀ g ∈ l, LegI g) → (∀ s ∈ out, SpI H s) → ∀ s ∈ trk H out l, SpI H s
 | [], out, _, ho => ho
 | g :: r, out, hl, ho => by
  rw [trk]
  exact trk_in r _ (fun x hx => hl x (by simp [hx])) (legS_in ho (hl g (by simp)) (endT_le H r))
theorem trk_leg {H : Int} : ∀ (l : List Leg) (out : List Sp) (s : Sp), s ∈ trk H out l → (∃ g ∈ l, g.tick = s.1) ∨ ∃ s' ∈ out, s'.1 = s.1
 | [], out, s, h => .inr ⟨s, h, rfl⟩
 | g :: r, out, s, h => by
  rw [trk] at h
  rcases trk_leg r _ s h with ⟨x, hx, he⟩ | ⟨s', hs', he⟩
  ·exact .inl ⟨x, by simp [hx], he⟩
  ·unfold legS at hs'
   split at hs'
   ·exact .inr ⟨s', hs', he⟩
   ·split at hs'
    ·rcases List.eq_nil_or_concat out with rfl | ⟨o, ⟨x, y⟩, rfl⟩
     ·simp [setLast] at hs'
     ·rw [List.concat_eq_append] at hs' ⊢
      rw [setLast_snoc] at hs'
      rcases List.mem_append.1 hs' with hs' | hs'
      ·exact .inr ⟨s', by simp [hs'], he⟩
      ·simp only [List.mem_singleton] at hs'; subst hs'
       exact .inr ⟨(x, y), by simp, he⟩
    ·rcases List.mem_append.1 hs' with hs' | hs'
     ·exact .inr ⟨s', hs', he⟩
     ·simp only [List.mem_singleton] at hs'; subst hs'
      exact .inl ⟨g, by simp, he⟩
theorem lastLe_is (t : Int) : ∀ (l : List Leg) (o : Option Leg), (o.isSome = true ∨ ∃ g ∈ l, g.tick ≤ t) → (lastLe t o l).isSome = true
 | [], o, h => by rcases h with h | ⟨g, hg, _⟩; exact h; simp at hg
 | g :: r, o, h => by
  rw [lastLe]
  by_cases c : g.tick ≤ t
  ·rw [if_pos c]; exact lastLe_is t r _ (.inl rfl)
  ·rw [if_neg c]
   rcases h with h | ⟨x, hx, hxt⟩
   ·exact lastLe_is t r _ (.inl h)
   ·rcases List.mem_cons.1 hx with rfl | hx
    ·exact absurd hxt c
    ·exact lastLe_is t r _ (.inr ⟨x, hx, hxt⟩)
theorem trk_is {H : Int} {l : List Leg} {s : Sp} (h : s ∈ trk H [] l) : (lastLe s.1 none l).isSome = true := by
 rcases trk_leg l [] s h with ⟨g, hg, he⟩ | ⟨s', hs', _⟩
 ·exact lastLe_is _ l none (.inr ⟨g, hg, by omega⟩)
 ·simp at hs'
def busyL (l : List Sp) : Int := (l.map fun s => s.2 - s.1).sum
theorem busy_in {H : Int} (hH : H ≤ 300) : ∀ l : List Sp, (∀ s ∈ l, SpI H s) → 0 ≤ busyL l ∧ busyL l ≤ 1073742124 * l.length
 | [], _ => by simp [busyL]
 | s :: r, h => by
  have h1 := h s (by simp)
  have h2 := busy_in hH r fun x hx => h x (by simp [hx])
  have a := h1.lo
  have b := h1.le
  have c := h1.hi
  unfold busyL at h2 ⊢
  rw [List.map_cons, List.sum_cons, List.length_cons]
  omega
theorem busy_snoc (l : List Sp) (k : Nat) (h : k < l.length) : busyL (l.take (k + 1)) = busyL (l.take k) + (l[k].2 - l[k].1) := by
 unfold busyL
 rw [List.take_succ_eq_append_getElem h, List.map_append, List.sum_append]; simp
theorem far_hi {H : Int} (h0 : 1 ≤ H) (h1 : H ≤ 300) : ∀ (l : List Leg) (o : Option Int), (∀ g ∈ l, LegI g) → (∀ p, o = some p → -6000000000 ≤ p ∧ p ≤ 6000000000) → farL H o l ≤ l.length * 30000000000
 | [], o, _, _ => by simp [farL]
 | g :: r, o, hl, ho => by
  rw [farL]
  have b := hl g (by simp)
  have b1 := b.tick
  have b2 := b.pos
  have b3 := b.dir
  have hE := endT_le H r
  split
  ·rw [List.length_cons]; omega
  ·rename_i hc
   obtain ⟨dd, hD⟩ : ∃ dd, (endT H r - g.tick - 1) * g.dir = dd := ⟨_, rfl⟩
   rw [hD]
   have b5 : -2147483648 ≤ dd ∧ dd ≤ 2147483648 := by
    have : g.dir = -1 ∨ g.dir = 0 ∨ g.dir = 1 := by omega
    rcases this with h | h | h <;> rw [h] at hD <;> omega
   have ih := far_hi h0 h1 r (some (g.pos + dd)) (fun x hx => hl x (by simp [hx])) (fun p hp => by simp at hp; omega)
   have hs : stpA o g.pos ≤ 8000000000 := by
    unfold stpA
    cases o with
    | none => simp
    | some p => have := ho p rfl; simp only; omega
   rw [List.length_cons]
   omega
end Go.Am
namespace Go.Am
structure LgsOk (H : Int) (ls : List (List Leg)) : Prop where
 few : ls.length ≤ 10
 h0 : 1 ≤ H
 h1 : H ≤ 300
 ok : ∀ l ∈ ls, WayI l
 near : ∀ l ∈ ls, ∀ x ∈ l.head?, H - x.tick ≤ 300
theorem LgsOk.one {H : Int} {ls : List (List Leg)} (h : LgsOk H ls) {l : List Leg} (hl : l ∈ ls) : LgOk H l := ⟨h.ok l hl, h.h0, h.h1, h.near l hl⟩
def farsL (H : Int) (ls : List (List Leg)) : Int := (ls.map (farL H none)).sum
def busysL (H : Int) (ls : List (List Leg)) : Int := (ls.map fun l => busyL (trk H [] l)).sum
theorem LgOk.far {H : Int} {l : List Leg} (h : LgOk H l) : 0 ≤ farL H none l ∧ farL H none l ≤ 1200000000000 := by
 have h1 := far_in H l none
 have h2 := far_hi h.h0 h.h1 l none h.way.ok (by simp)
 have := h.way.few
 omega
theorem LgOk.spans {H : Int} {l : List Leg} (h : LgOk H l) : (trk H [] l).length ≤ 40 ∧ ∀ s ∈ trk H [] l, SpI H s := by
 have h1 := trk_len H l []
 have h2 := h.way.few
 exact ⟨by simp at h1; omega, trk_in l [] h.way.ok (by simp)⟩
theorem LgOk.busy {H : Int} {l : List Leg} (h : LgOk H l) : 0 ≤ busyL (trk H [] l) ∧ busyL (trk H [] l) ≤ 1200000000000 := by
 obtain ⟨h1, h2⟩ := h.spans
 have := busy_in h.h1 _ h2
 omega
theorem sum_in (f : List Leg → Int) : ∀ ls : List (List Leg), (∀ l ∈ ls, 0 ≤ f l ∧ f l ≤ 1200000000000) → 0 ≤ (ls.map f).sum ∧ (ls.map f).sum ≤ 1200000000000 * ls.length
 | [], _ => by simp
 | l :: r, h => by
  have h1 := h l (by simp)
  have h2 := sum_in f r fun x hx => h x (by simp [hx])
  rw [List.map_cons, List.sum_cons, List.length_cons]
  omega
theorem sum_snoc (f : List Leg → Int) (ls : List (List Leg)) (k : Nat) (h : k < ls.length) : ((ls.take (k + 1)).map f).sum = ((ls.take k).map f).sum + f ls[k] := by
 rw [List.take_succ_eq_append_getElem h, List.map_append, List.sum_append]; simp
theorem sum_take_in (f : List Leg → Int) (ls : List (List Leg)) (k : Nat) (hf : ls.length ≤ 10) (h : ∀ l ∈ ls, 0 ≤ f l ∧ f l ≤ 1200000000000) : 0 ≤ ((ls.take k).map f).sum ∧ ((ls.take k).map f).sum ≤ 12000000000000 := by
 have h1 := sum_in f (ls.take k) fun l hl => h l (List.mem_of_mem_take hl)
 rw [List.length_take] at h1
 omega
def FarsC (g : List AV → Option (List AV)) : Prop := ∀ (ls : List (List Leg)) (H : Int), LgsOk H ls → g [vLs ls, i64 H] = some [i64 (farsL H ls)]
def BusysC (g : List AV → Option (List AV)) : Prop := ∀ (ls : List (List Leg)) (H : Int), LgsOk H ls → g [vLs ls, i64 H] = some [i64 (busysL H ls)]
theorem figure_Far_run (Γ : Env) (M : Nat) (hM : 1000 < M) (hF : FarC (Γ 735)) : FarsC (run Γ M figure_Far_f) := by
 intro ls H h
 have hfew := h.few
 have h0 := h.h0
 have h1 := h.h1
 obtain ⟨f, hf⟩ : ∃ f : List Leg → Int, farL H none = f := ⟨_, rfl⟩
 have hfi : ∀ l ∈ ls, 0 ≤ f l ∧ f l ≤ 1200000000000 := fun l hl => by rw [← hf]; exact (h.one hl).far
 have hR : farsL H ls = (ls.map f).sum := by rw [farsL, hf]
 rw [hR]
 obtain ⟨ax, s', ⟨rfl, rfl⟩, hin⟩ : ∃ ax s', (ax = .ex 0 ∧ s' = ⟨[(5, i64 (ls.map f).sum)], []⟩) ∧ ∀ s0, nrm [1, 5, 8, 9, 10] [] s0 = ⟨[(1, i64 H), (5, i64 ((ls.take 0).map f).sum), (8, vLs ls), (9, i64 ls.length), (10, i64 (0 : Nat))], []⟩ → lp (exec Γ M figure_Far_l1) M s0 = some (ax, s') := by
  refine lp_all (fun q : Nat => ⟨[(1, i64 H), (5, i64 ((ls.take q).map f).sum), (8, vLs ls), (9, i64 ls.length), (10, i64 q)], []⟩) (fun q => q ≤ ls.length) (fun q => ls.length - q) _ 0 M (by simp) (by simp) (by omega) ?_
  intro k hk
  by_cases hlt : k < ls.length
  ·obtain ⟨l, hl⟩ : ∃ w, ls[k]'hlt = w := ⟨_, rfl⟩
   have hlm : l ∈ ls := by rw [← hl]; exact List.getElem_mem hlt
   have hrow : (ls.map fun l => [dL l])[k]? = some [dL l] := by simp [hlt, hl]
   have e := hF l H (h.one hlm)
   rw [hf] at e
   have hb := hfi l hlm
   have hs := sum_snoc f ls k hlt
   have hb2 := sum_take_in f ls k hfew hfi
   rw [hl] at hs
   generalize ((ls.take k).map f).sum = c at *
   obtain ⟨z, hz⟩ : ∃ z, f l = z := ⟨_, rfl⟩
   rw [hz] at e hb hs
   simp -implicitDefEqProofs (disch := first | omega | assumption) [hlt, hl, hrow, e]
   exact ⟨k + 1, ⟨by rw [← List.map_take, hs], by omega⟩, by omega, by omega⟩
  ·obtain rfl : k = ls.length := by omega
   rw [List.take_length]
   simp -implicitDefEqProofs (disch := first | omega | assumption)
 have hlp : lp (exec Γ M figure_Far_l1) M ⟨[(1, i64 H), (5, i64 0), (8, vLs ls), (9, i64 ls.length), (10, i64 0)], []⟩ = some (.ex 0, ⟨[(5, i64 (ls.map f).sum)], []⟩) := hin _ (by simp)
 simp -implicitDefEqProofs (disch := first | omega | assumption) [hlp]
theorem busy_inner (Γ : Env) (M : Nat) (hM : 1000 < M) {H : Int} (h1 : H ≤ 300) (ls : List (List Leg)) (L K : Int) (n : Int) (hn : 0 ≤ n ∧ n ≤ 12000000000000) (R : List Sp) (hR : R.length ≤ 40) (hS : ∀ s ∈ R, SpI H s) :
  lp (exec Γ M figure_Busy_l1) M ⟨[(1, i64 H), (5, i64 n), (10, vLs ls), (11, i64 L), (12, i64 K), (18, vS R), (19, i64 R.length), (20, i64 0)], []⟩ = some (.ex 2, ⟨[(1, i64 H), (5, i64 (n + busyL R)), (10, vLs ls), (11, i64 L), (12, i64 K)], []⟩) := by
 obtain ⟨ax, s', ⟨rfl, rfl⟩, hin⟩ : ∃ ax s', (ax = .ex 2 ∧ s' = ⟨[(1, i64 H), (5, i64 (n + busyL R)), (10, vLs ls), (11, i64 L), (12, i64 K)], []⟩) ∧ ∀ s0, nrm [1, 5, 10, 11, 12, 18, 19, 20] [] s0 = ⟨[(1, i64 H), (5, i64 (n + busyL (R.take 0))), (10, vLs ls), (11, i64 L), (12, i64 K), (18, vS R), (19, i64 R.length), (20, i64 (0 : Nat))], []⟩ → lp (exec Γ M figure_Busy_l1) M s0 = some (ax, s') := by
  refine lp_all (fun q : Nat => ⟨[(1, i64 H), (5, i64 (n + busyL (R.take q))), (10, vLs ls), (11, i64 L), (12, i64 K), (18, vS R), (19, i64 R.length), (20, i64 q)], []⟩) (fun q => q ≤ R.length) (fun q => R.length - q) _ 0 M (by simp) (by simp) (by omega) ?_
  intro k hk
  by_cases hlt : k < R.length
  ·obtain ⟨s, hs⟩ : ∃ w, R[k]'hlt = w := ⟨_, rfl⟩
   have hsm : s ∈ R := by rw [← hs]; exact List.getElem_mem hlt
   have b := hS s hsm
   have b1 := b.lo
   have b2 := b.le
   have b3 := b.hi
   have hrow : (R.map Sp.cells)[k]? = some s.cells := by simp [hlt, hs]
   simp only [Sp.cells] at hrow
   have hsn := busy_snoc R k hlt
   have hbi := busy_in h1 (R.take k) fun x hx => hS x (List.mem_of_mem_take hx)
   rw [List.length_take] at hbi
   rw [hs] at hsn
   generalize busyL (R.take k) = c at *
   simp -implicitDefEqProofs (disch := first | omega | assumption) [hlt, hs, hrow, Sp.cells]
   exact ⟨k + 1, ⟨by omega, by omega⟩, by omega, by omega⟩
  ·obtain rfl : k = R.length := by omega
   rw [List.take_length]
   simp -implicitDefEqProofs (disch := first | omega | assumption)
 exact hin _ (by simp [busyL])
theorem figure_Busy_run (Γ : Env) (M : Nat) (hM : 1000 < M) (hD : DrsC (Γ 294)) : BusysC (run Γ M figure_Busy_f) := by
 intro ls H h
 have hfew := h.few
 have h0 := h.h0
 have h1 := h.h1
 obtain ⟨f, hf⟩ : ∃ f : List Leg → Int, (fun l => busyL (trk H [] l)) = f := ⟨_, rfl⟩
 have hfl : ∀ l, busyL (trk H [] l) = f l := fun l => by rw [← hf]
 have hfi : ∀ l ∈ ls, 0 ≤ f l ∧ f l ≤ 1200000000000 := fun l hl => by rw [← hfl]; exact (h.one hl).busy
 have hR : busysL H ls = (ls.map f).sum := by rw [busysL, hf]
 rw [hR]
 obtain ⟨ax, s', ⟨rfl, rfl⟩, hin⟩ : ∃ ax s', (ax = .ex 0 ∧ s' = ⟨[(5, i64 (ls.map f).sum)], []⟩) ∧ ∀ s0, nrm [1, 5, 10, 11, 12] [] s0 = ⟨[(1, i64 H), (5, i64 ((ls.take 0).map f).sum), (10, vLs ls), (11, i64 ls.length), (12, i64 (0 : Nat))], []⟩ → lp (exec Γ M figure_Busy_l2) M s0 = some (ax, s') := by
  refine lp_all (fun q : Nat => ⟨[(1, i64 H), (5, i64 ((ls.take q).map f).sum), (10, vLs ls), (11, i64 ls.length), (12, i64 q)], []⟩) (fun q => q ≤ ls.length) (fun q => ls.length - q) _ 0 M (by simp) (by simp) (by omega) ?_
  intro k hk
  by_cases hlt : k < ls.length
  ·obtain ⟨l, hl⟩ : ∃ w, ls[k]'hlt = w := ⟨_, rfl⟩
   have hlm : l ∈ ls := by rw [← hl]; exact List.getElem_mem hlt
   have hrow : (ls.map fun l => [dL l])[k]? = some [dL l] := by simp [hlt, hl]
   have e := hD l H (h.ok l hlm) (by omega)
   obtain ⟨hRl, hRs⟩ := (h.one hlm).spans
   have hb := hfi l hlm
   have hs := sum_snoc f ls k hlt
   have hb2 := sum_take_in f ls k hfew hfi
   rw [hl] at hs
   generalize ((ls.take k).map f).sum = c at *
   have hin := busy_inner Γ M hM h1 ls ls.length k c hb2 (trk H [] l) hRl hRs
   rw [hfl] at hin
   generalize trk H [] l = R at *
   obtain ⟨z, hz⟩ : ∃ z, f l = z := ⟨_, rfl⟩
   rw [hz] at hb hs hin
   simp -implicitDefEqProofs (disch := first | omega | assumption) [hlt, hl, hrow, e, hin]
   exact ⟨k + 1, ⟨by rw [← List.map_take, hs], by omega⟩, by omega, by omega⟩
  ·obtain rfl : k = ls.length := by omega
   rw [List.take_length]
   simp -implicitDefEqProofs (disch := first | omega | assumption)
 have hlp : lp (exec Γ M figure_Busy_l2) M ⟨[(1, i64 H), (5, i64 0), (10, vLs ls), (11, i64 ls.length), (12, i64 0)], []⟩ = some (.ex 0, ⟨[(5, i64 (ls.map f).sum)], []⟩) := hin _ (by simp)
 simp -implicitDefEqProofs (disch := first | omega | assumption) [hlp]
end Go.Am
namespace Go.Am
def lowS (l : List Leg) (s : Sp) : Bool := decide ((tickV l s.1).1 = 0)
def opnL (l : List Leg) (R : List Sp) : List Int := (R.filter (lowS l)).map (·.1)
def opensL (H : Int) (ls : List (List Leg)) : List (List Int) := ls.map fun l => opnL l (trk H [] l)
theorem opnL_snoc (l : List Leg) (R : List Sp) (k : Nat) (h : k < R.length) : opnL l (R.take (k + 1)) = opnL l (R.take k) ++ if lowS l R[k] then [R[k].1] else [] := by
 unfold opnL
 rw [List.take_succ_eq_append_getElem h, List.filter_append, List.map_append]
 congr 1
 cases hb : lowS l R[k] <;> simp [hb]
theorem opnL_len (l : List Leg) (R : List Sp) : (opnL l R).length ≤ R.length := by
 unfold opnL; rw [List.length_map]; exact List.length_filter_le _ _
theorem opnL_mem {l : List Leg} {R : List Sp} {t : Int} (h : t ∈ opnL l R) : ∃ s ∈ R, s.1 = t := by
 unfold opnL at h
 obtain ⟨s, hs, rfl⟩ := List.mem_map.1 h
 exact ⟨s, (List.mem_filter.1 hs).1, rfl⟩
def inR1 (l : List Int) : Rows := l.map (toAV ∘ intD)
theorem inR1_snoc (l : List Int) (x : Int) : inR1 l ++ [[i64 x]] = inR1 (l ++ [x]) := by unfold inR1; rw [List.map_append]; rfl
theorem inR1_len (l : List Int) : (inR1 l).length = l.length := by simp [inR1]
theorem inR1_nm (k : Nat) (l : List Int) : nmRows k (inR1 l) = true := by unfold inR1; exact nmRows_comp k intD l
theorem inR1_lc (k : Nat) (l : List Int) : lcRows k (inR1 l) = true := by unfold inR1; exact lcRows_comp k intD l
theorem inR1_all (l : List Int) : allRows (inR1 l) = some (l.map intD) := by unfold inR1; rw [allRows_comp]
def opD (x : List Int) : List D := [.vs 1 (x.map intD)]
def opR (F : List (List Int)) : Rows := F.map (toAV ∘ opD)
theorem opR_snoc (F : List (List Int)) (x : List Int) : opR F ++ [[.c (.vs 1 (x.map intD))]] = opR (F ++ [x]) := by unfold opR; rw [List.map_append]; rfl
theorem opR_len (l : List (List Int)) : (opR l).length = l.length := by simp [opR]
theorem opR_nm (k : Nat) (l : List (List Int)) : nmRows k (opR l) = true := by unfold opR; exact nmRows_comp k opD l
theorem opR_lc (k : Nat) (l : List (List Int)) : lcRows k (opR l) = true := by unfold opR; exact lcRows_comp k opD l
theorem opR_all (l : List (List Int)) : allRows (opR l) = some (l.map opD) := by unfold opR; rw [allRows_comp]
abbrev vOps (F : List (List Int)) : AV := .c (.vs 1 (F.map opD))
theorem opn_inner (Γ : Env) (M : Nat) (hM : 1000 < M) {H : Int} (hH : 1 ≤ H ∧ H ≤ 300) (hA : TkC (Γ 150)) (ls : List (List Leg)) (l : List Leg) (hw : WayI l) (k : Nat) (F : List (List Int)) (hF : F.length = k) (hk : k ≤ 10) (R : List Sp) (hR : R.length ≤ 40) (hS : ∀ s ∈ R, SpI H s ∧ (lastLe s.1 none l).isSome = true) :
  lp (exec Γ M figure_Openings_l1) M ⟨[(1, i64 0), (2, i64 H), (7, .sl 7 k 0 k), (9, vL l), (10, .sl 10 0 0 0), (16, vLs ls), (17, i64 ls.length), (18, i64 k), (24, vS R), (25, i64 R.length), (26, i64 0)], [(7, ⟨1, opR F⟩), (10, ⟨1, []⟩)]⟩ =
   some (.ex 2, ⟨[(1, i64 0), (2, i64 H), (7, .sl 7 k 0 k), (10, .sl 10 (opnL l R).length 0 (opnL l R).length), (16, vLs ls), (17, i64 ls.length), (18, i64 k)], [(7, ⟨1, opR F⟩), (10, ⟨1, inR1 (opnL l R)⟩)]⟩) := by
 have hRR := opR_len F
 have n7 := fun k => opR_nm k F
 have l7 := fun k => opR_lc k F
 rw [hF] at hRR
 generalize opR F = RR at *
 obtain ⟨ax, s', ⟨rfl, rfl⟩, hin⟩ : ∃ ax s', (ax = .ex 2 ∧ s' = ⟨[(1, i64 0), (2, i64 H), (7, .sl 7 k 0 k), (10, .sl 10 (opnL l R).length 0 (opnL l R).length), (16, vLs ls), (17, i64 ls.length), (18, i64 k)], [(7, ⟨1, RR⟩), (10, ⟨1, inR1 (opnL l R)⟩)]⟩) ∧ ∀ s0, nrm [1, 2, 7, 9, 10, 16, 17, 18, 24, 25, 26] [7, 10, 48, 53] s0 = ⟨[(1, i64 0), (2, i64 H), (7, .sl 7 k 0 k), (9, vL l), (10, .sl 10 (opnL l (R.take 0)).length 0 (opnL l (R.take 0)).length), (16, vLs ls), (17, i64 ls.length), (18, i64 k), (24, vS R), (25, i64 R.length), (26, i64 (0 : Nat))], [(7, ⟨1, RR⟩), (10, ⟨1, inR1 (opnL l (R.take 0))⟩)]⟩ → lp (exec Γ M figure_Openings_l1) M s0 = some (ax, s') := by
  refine lp_all (fun q : Nat => ⟨[(1, i64 0), (2, i64 H), (7, .sl 7 k 0 k), (9, vL l), (10, .sl 10 (opnL l (R.take q)).length 0 (opnL l (R.take q)).length), (16, vLs ls), (17, i64 ls.length), (18, i64 k), (24, vS R), (25, i64 R.length), (26, i64 q)], [(7, ⟨1, RR⟩), (10, ⟨1, inR1 (opnL l (R.take q))⟩)]⟩) (fun q => q ≤ R.length) (fun q => R.length - q) _ 0 M (by simp) (by simp) (by omega) ?_
  intro j hj
  by_cases hlt : j < R.length
  ·obtain ⟨s, hs⟩ : ∃ w, R[j]'hlt = w := ⟨_, rfl⟩
   have hsm : s ∈ R := by rw [← hs]; exact List.getElem_mem hlt
   obtain ⟨b, his⟩ := hS s hsm
   have b1 := b.lo
   have b2 := b.le
   have b3 := b.hi
   have hrow : (R.map Sp.cells)[j]? = some s.cells := by simp [hlt, hs]
   simp only [Sp.cells] at hrow
   have e := hA l s.1 hw (by omega)
   rw [his] at e
   have hsn := opnL_snoc l R j hlt
   have hle := opnL_len l (R.take j)
   rw [List.length_take] at hle
   rw [hs] at hsn
   obtain ⟨p, d⟩ : Int × Bool := tickV l s.1
   obtain ⟨x, hx⟩ : ∃ x, tickV l s.1 = x := ⟨_, rfl⟩
   have hlow : lowS l s = decide (x.1 = 0) := by unfold lowS; rw [hx]
   rw [hx] at e
   rw [hlow] at hsn
   have hfin : ∀ c : List Int, opnL l (R.take (j + 1)) = c → c.length = (opnL l (R.take (j + 1))).length := fun c h => by rw [h]
   generalize opnL l (R.take j) = c at *
   have hcl := inR1_len c
   have n10 := fun m => inR1_nm m c
   have l10 := fun m => inR1_lc m c
   by_cases hz : x.1 = 0
   ·rw [show decide (x.1 = 0) = true by simpa using hz, if_pos rfl] at hsn
    have hsR := inR1_snoc c s.1
    rw [← hsn] at hsR
    have hlen2 : (opnL l (R.take (j + 1))).length = c.length + 1 := by rw [hsn]; simp
    generalize inR1 c = C at *
    rw [hz] at e
    simp -implicitDefEqProofs (disch := first | omega | (simp [n7, l7, n10, l10] <;> fail) | assumption) [hlt, hs, hrow, Sp.cells, e, hcl, hsR, n7, l7, n10, l10]
    exact ⟨j + 1, ⟨⟨by omega, by omega⟩, rfl⟩, by omega, by omega⟩
   ·rw [show decide (x.1 = 0) = false by simpa using hz, if_neg (by simp), List.append_nil] at hsn
    rw [← hsn] at n10 l10
    rw [← hsn]
    simp -implicitDefEqProofs (disch := first | omega | (simp [n7, l7, n10, l10] <;> fail) | assumption) [hlt, hs, hrow, Sp.cells, e, hz, n7, l7, n10, l10]
    exact ⟨j + 1, ⟨⟨by omega, by omega⟩, rfl⟩, by omega, by omega⟩
  ·obtain rfl : j = R.length := by omega
   rw [List.take_length]
   generalize opnL l R = c at *
   generalize inR1 c = C at *
   simp -implicitDefEqProofs (disch := first | omega | assumption)
 exact hin _ (by simp [opnL, inR1])
def OpnC (g : List AV → Option (List AV)) : Prop := ∀ (ls : List (List Leg)) (H : Int), LgsOk H ls → g [vLs ls, i64 0, i64 H] = some [vOps (opensL H ls)]
theorem figure_Openings_run (Γ : Env) (M : Nat) (hM : 1000 < M) (hD : DrsC (Γ 294)) (hA : TkC (Γ 150)) : OpnC (run Γ M figure_Openings_f) := by
 intro ls H h
 have hfew := h.few
 have h0 := h.h0
 have h1 := h.h1
 obtain ⟨F, hF⟩ : ∃ F : Nat → List (List Int), ∀ k, opensL H (ls.take k) = F k := ⟨_, fun _ => rfl⟩
 have hF0 : F 0 = [] := by rw [← hF]; rfl
 have hFn : opensL H ls = F ls.length := by rw [← hF, List.take_length]
 have hFl : ∀ k, k ≤ ls.length → (F k).length = k := fun k hk => by rw [← hF]; simp [opensL]; omega
 have hFs : ∀ k (hlt : k < ls.length), F (k + 1) = F k ++ [opnL ls[k] (trk H [] ls[k])] := fun k hlt => by
  rw [← hF, ← hF]; unfold opensL; rw [List.take_succ_eq_append_getElem hlt, List.map_append]; rfl
 rw [hFn]
 obtain ⟨ax, s', ⟨rfl, rfl⟩, hin⟩ : ∃ ax s', (ax = .ex 0 ∧ s' = ⟨[(7, .sl 7 ls.length 0 ls.length)], [(7, ⟨1, opR (F ls.length)⟩)]⟩) ∧ ∀ s0, nrm [1, 2, 7, 16, 17, 18] [7, 53] s0 = ⟨[(1, i64 0), (2, i64 H), (7, .sl 7 0 0 0), (16, vLs ls), (17, i64 ls.length), (18, i64 (0 : Nat))], [(7, ⟨1, opR (F 0)⟩)]⟩ → lp (exec Γ M figure_Openings_l2) M s0 = some (ax, s') := by
  refine lp_all (fun q : Nat => ⟨[(1, i64 0), (2, i64 H), (7, .sl 7 q 0 q), (16, vLs ls), (17, i64 ls.length), (18, i64 q)], [(7, ⟨1, opR (F q)⟩)]⟩) (fun q => q ≤ ls.length) (fun q => ls.length - q) _ 0 M (by simp) (by simp) (by omega) ?_
  intro k hk
  by_cases hlt : k < ls.length
  ·obtain ⟨l, hl⟩ : ∃ w, ls[k]'hlt = w := ⟨_, rfl⟩
   have hlm : l ∈ ls := by rw [← hl]; exact List.getElem_mem hlt
   have hrow : (ls.map fun l => [dL l])[k]? = some [dL l] := by simp [hlt, hl]
   have e := hD l H (h.ok l hlm) (by omega)
   obtain ⟨hRl, hRs⟩ := (h.one hlm).spans
   have hi := opn_inner Γ M hM ⟨h0, h1⟩ hA ls l (h.ok l hlm) k (F k) (hFl k hk) (by omega) (trk H [] l) hRl fun s hs => ⟨hRs s hs, trk_is hs⟩
   have hs := hFs k hlt
   rw [hl] at hs
   have hol := opnL_len l (trk H [] l)
   have hR2 := opR_snoc (F k) (opnL l (trk H [] l))
   rw [← hs] at hR2
   generalize trk H [] l = R at *
   generalize opnL l R = c at *
   have ha := inR1_all c
   have ht2 : List.take c.length (c.map intD) = c.map intD := List.take_of_length_le (by simp)
   have hcl := inR1_len c
   have n10 := fun m => inR1_nm m c
   have l10 := fun m => inR1_lc m c
   have hRR := opR_len (F k)
   rw [hFl k hk] at hRR
   have n7 := fun m => opR_nm m (F k)
   have l7 := fun m => opR_lc m (F k)
   generalize opR (F k) = RR at *
   generalize inR1 c = C at *
   simp -implicitDefEqProofs (disch := first | omega | (simp [n7, l7, n10, l10] <;> fail) | assumption) [hlt, hl, hrow, e, hi, n7, l7, n10, l10, ha, hcl, hRR, ht2]
   exact ⟨k + 1, ⟨⟨rfl, by omega⟩, hR2⟩, by omega, by omega⟩
  ·obtain rfl : k = ls.length := by omega
   generalize opR (F ls.length) = RR at *
   simp -implicitDefEqProofs (disch := first | omega | assumption)
 have ha := opR_all (F ls.length)
 have hRR := opR_len (F ls.length)
 rw [hFl _ (Nat.le_refl _)] at hRR
 have hlp : lp (exec Γ M figure_Openings_l2) M ⟨[(1, i64 0), (2, i64 H), (7, .sl 7 0 0 0), (16, vLs ls), (17, i64 ls.length), (18, i64 0)], [(7, ⟨1, []⟩)]⟩ = some (.ex 0, ⟨[(7, .sl 7 ls.length 0 ls.length)], [(7, ⟨1, opR (F ls.length)⟩)]⟩) := hin _ (by simp [hF0, opR])
 generalize opR (F ls.length) = RR at *
 have ht : List.take ls.length (List.map opD (F ls.length)) = List.map opD (F ls.length) := List.take_of_length_le (by rw [List.length_map, hFl _ (Nat.le_refl _)]; omega)
 simp -implicitDefEqProofs (disch := first | omega | assumption) [hlp, ha, hRR, ht]
end Go.Am
namespace Go.Am
abbrev IvQ := Int × Int × Int
def ivS (q : IvQ) (t : Int) : IvQ := (if q.2.2 = 0 ∨ t < q.1 then t else q.1, if q.2.2 = 0 ∨ q.2.1 < t then t else q.2.1, q.2.2 + 1)
def ivF (q : IvQ) (l : List Int) : IvQ := l.foldl ivS q
structure IvI (m : Nat) (q : IvQ) : Prop where
 n0 : 0 ≤ q.2.2
 n1 : q.2.2 ≤ m
 f0 : -1073741824 ≤ q.1 ∧ q.1 ≤ 300
 l0 : -1073741824 ≤ q.2.1 ∧ q.2.1 ≤ 300
 fl : q.1 ≤ q.2.1
def TkI (t : Int) : Prop := -1073741824 ≤ t ∧ t ≤ 300
theorem IvI.step {m : Nat} {q : IvQ} (h : IvI m q) {t : Int} (ht : TkI t) : IvI (m + 1) (ivS q t) := by
 have a := h.n0
 have b := h.n1
 have c := h.f0
 have d := h.l0
 have e := h.fl
 have f1 := ht.1
 have f2 := ht.2
 refine ⟨?_, ?_, ?_, ?_, ?_⟩ <;> simp only [ivS] <;> (try split) <;> (try split) <;> omega
theorem IvI.all : ∀ (l : List Int) {m : Nat} {q : IvQ}, IvI m q → (∀ t ∈ l, TkI t) → IvI (m + l.length) (ivF q l)
 | [], m, q, h, _ => h
 | t :: l, m, q, h, hl => by
  have := IvI.all l (h.step (hl t (by simp))) fun x hx => hl x (by simp [hx])
  rw [List.length_cons, show m + (l.length + 1) = m + 1 + l.length by omega]
  exact this
theorem ivF_snoc (q : IvQ) (l : List Int) (k : Nat) (h : k < l.length) : ivF q (l.take (k + 1)) = ivS (ivF q (l.take k)) l[k] := by
 unfold ivF; rw [List.take_succ_eq_append_getElem h, List.foldl_append]; rfl
theorem ivF_app (q : IvQ) (a b : List Int) : ivF q (a ++ b) = ivF (ivF q a) b := by unfold ivF; rw [List.foldl_append]
theorem opn_tk {l : List Leg} {R : List Sp} {H : Int} (hH : H ≤ 300) (hS : ∀ s ∈ R, SpI H s) : ∀ t ∈ opnL l R, TkI t := fun t ht => by
 obtain ⟨s, hs, rfl⟩ := opnL_mem ht
 have h := hS s hs
 have a := h.lo
 have b := h.le
 have c := h.hi
 exact ⟨a, by omega⟩
theorem iv_inner (Γ : Env) (M : Nat) (hM : 1000 < M) (F : List (List Int)) (K : Nat) (c : List Int) (hc : ∀ t ∈ c, TkI t) (hcl : c.length ≤ 40) (q : IvQ) {m : Nat} (hm : m ≤ 400) (hq : IvI m q) :
  lp (exec Γ M figure_Interval_l1) M ⟨[(4, .loc 4 0 0), (6, i64 q.1), (7, i64 q.2.1), (8, i64 q.2.2), (17, vOps F), (18, i64 F.length), (19, i64 K), (23, vI c), (24, i64 c.length), (25, i64 0)], [(4, ⟨3, [[i64 0, i64 0, i64 0]]⟩)]⟩ =
   some (.ex 2, ⟨[(4, .loc 4 0 0), (6, i64 (ivF q c).1), (7, i64 (ivF q c).2.1), (8, i64 (ivF q c).2.2), (17, vOps F), (18, i64 F.length), (19, i64 K)], [(4, ⟨3, [[i64 0, i64 0, i64 0]]⟩)]⟩) := by
 obtain ⟨ax, s', ⟨rfl, rfl⟩, hin⟩ : ∃ ax s', (ax = .ex 2 ∧ s' = ⟨[(4, .loc 4 0 0), (6, i64 (ivF q c).1), (7, i64 (ivF q c).2.1), (8, i64 (ivF q c).2.2), (17, vOps F), (18, i64 F.length), (19, i64 K)], [(4, ⟨3, [[i64 0, i64 0, i64 0]]⟩)]⟩) ∧ ∀ s0, nrm [4, 6, 7, 8, 17, 18, 19, 23, 24, 25] [4] s0 = ⟨[(4, .loc 4 0 0), (6, i64 (ivF q (c.take 0)).1), (7, i64 (ivF q (c.take 0)).2.1), (8, i64 (ivF q (c.take 0)).2.2), (17, vOps F), (18, i64 F.length), (19, i64 K), (23, vI c), (24, i64 c.length), (25, i64 (0 : Nat))], [(4, ⟨3, [[i64 0, i64 0, i64 0]]⟩)]⟩ → lp (exec Γ M figure_Interval_l1) M s0 = some (ax, s') := by
  refine lp_all (fun j : Nat => ⟨[(4, .loc 4 0 0), (6, i64 (ivF q (c.take j)).1), (7, i64 (ivF q (c.take j)).2.1), (8, i64 (ivF q (c.take j)).2.2), (17, vOps F), (18, i64 F.length), (19, i64 K), (23, vI c), (24, i64 c.length), (25, i64 j)], [(4, ⟨3, [[i64 0, i64 0, i64 0]]⟩)]⟩) (fun j => j ≤ c.length) (fun j => c.length - j) _ 0 M (by simp) (by simp) (by omega) ?_
  intro j hj
  by_cases hlt : j < c.length
  ·obtain ⟨t, ht⟩ : ∃ w, c[j]'hlt = w := ⟨_, rfl⟩
   have htk := hc t (by rw [← ht]; exact List.getElem_mem hlt)
   have t1 := htk.1
   have t2 := htk.2
   have hrow : (c.map intD)[j]? = some (intD t) := by simp [hlt, ht]
   simp only [intD] at hrow
   have hsn := ivF_snoc q c j hlt
   have hI := IvI.all (c.take j) hq fun x hx => hc x (List.mem_of_mem_take hx)
   rw [List.length_take] at hI
   rw [ht] at hsn
   have hfin : ∀ x : IvQ, x = ivF q (c.take (j + 1)) → x.1 = (ivF q (c.take (j + 1))).1 ∧ x.2.1 = (ivF q (c.take (j + 1))).2.1 ∧ x.2.2 = (ivF q (c.take (j + 1))).2.2 := fun x h => by rw [h]; exact ⟨rfl, rfl, rfl⟩
   generalize ivF q (c.take j) = p at *
   obtain ⟨f, l, n⟩ := p
   have a := hI.n0
   have b := hI.n1
   have d := hI.f0
   have e := hI.l0
   simp only [ivS] at a b d e hsn
   obtain ⟨q1, q2, q3⟩ := hfin _ hsn.symm
   simp only at q1 q2 q3
   by_cases h0 : n = 0
   ·subst h0
    simp only [true_or, if_true] at q1 q2
    simp -implicitDefEqProofs (disch := first | omega | assumption) [hlt, ht, hrow, intD]
    exact ⟨j + 1, ⟨q1, q2, q3, by omega⟩, by omega, by omega⟩
   ·simp only [h0, false_or] at q1 q2
    by_cases h1 : t < f
    ·rw [if_pos h1] at q1
     by_cases h2 : l < t
     ·rw [if_pos h2] at q2
      simp -implicitDefEqProofs (disch := first | omega | assumption) [hlt, ht, hrow, intD, h0, h1, h2]
      exact ⟨j + 1, ⟨q1, q2, q3, by omega⟩, by omega, by omega⟩
     ·rw [if_neg h2] at q2
      simp -implicitDefEqProofs (disch := first | omega | assumption) [hlt, ht, hrow, intD, h0, h1, h2]
      exact ⟨j + 1, ⟨q1, q2, q3, by omega⟩, by omega, by omega⟩
    ·rw [if_neg h1] at q1
     by_cases h2 : l < t
     ·rw [if_pos h2] at q2
      simp -implicitDefEqProofs (disch := first | omega | assumption) [hlt, ht, hrow, intD, h0, h1, h2]
      exact ⟨j + 1, ⟨q1, q2, q3, by omega⟩, by omega, by omega⟩
     ·rw [if_neg h2] at q2
      simp -implicitDefEqProofs (disch := first | omega | assumption) [hlt, ht, hrow, intD, h0, h1, h2]
      exact ⟨j + 1, ⟨q1, q2, q3, by omega⟩, by omega, by omega⟩
  ·obtain rfl : j = c.length := by omega
   rw [List.take_length]
   simp -implicitDefEqProofs (disch := first | omega | assumption)
 exact hin _ (by simp [ivF])
end Go.Am
namespace Go.Am
def ivL (H : Int) (ls : List (List Leg)) : IvQ := ivF (0, 0, 0) (opensL H ls).flatten
theorem IvI.zero : IvI 0 (0, 0, 0) := ⟨by simp, by simp, by simp, by simp, by simp⟩
theorem opens_take (H : Int) (ls : List (List Leg)) (k : Nat) (h : k < ls.length) : opensL H (ls.take (k + 1)) = opensL H (ls.take k) ++ [opnL ls[k] (trk H [] ls[k])] := by
 unfold opensL; rw [List.take_succ_eq_append_getElem h, List.map_append]; rfl
theorem iv_take (H : Int) (ls : List (List Leg)) (k : Nat) (h : k < ls.length) : ivL H (ls.take (k + 1)) = ivF (ivL H (ls.take k)) (opnL ls[k] (trk H [] ls[k])) := by
 unfold ivL
 rw [opens_take H ls k h, List.flatten_append, ivF_app]; simp
theorem LgsOk.take {H : Int} {ls : List (List Leg)} (h : LgsOk H ls) (k : Nat) : LgsOk H (ls.take k) :=
 ⟨by rw [List.length_take]; have := h.few; omega, h.h0, h.h1, fun l hl => h.ok l (List.mem_of_mem_take hl), fun l hl => h.near l (List.mem_of_mem_take hl)⟩
theorem iv_ok {H : Int} {ls : List (List Leg)} (h : LgsOk H ls) : ∀ k, k ≤ ls.length → IvI (40 * k) (ivL H (ls.take k)) := by
 intro k
 induction k with
 | zero => intro _; rw [List.take_zero]; exact IvI.zero
 | succ k ih =>
  intro hk
  have hlt : k < ls.length := by omega
  obtain ⟨hRl, hRs⟩ := (h.one (List.getElem_mem hlt)).spans
  have hl := opnL_len ls[k] (trk H [] ls[k])
  rw [iv_take H ls k hlt]
  have := IvI.all (opnL ls[k] (trk H [] ls[k])) (ih (by omega)) (opn_tk h.h1 hRs)
  exact ⟨this.n0, by have := this.n1; omega, this.f0, this.l0, this.fl⟩
def IntvC (g : List AV → Option (List AV)) : Prop := ∀ (ls : List (List Leg)) (H : Int), LgsOk H ls → ∀ f l n, ivL H ls = (f, l, n) →
 g [vLs ls, i64 H] = some (if n < 2 then [.agg (fracD 0 0 0), bo false] else [.agg (fracD ((l - f) / (n - 1)) ((l - f) % (n - 1)) (n - 1)), bo true])
theorem figure_Interval_run (Γ : Env) (M : Nat) (hM : 1000 < M) (hO : OpnC (Γ 733)) (hF : FracOfC (Γ 387)) : IntvC (run Γ M figure_Interval_f) := by
 intro ls H h f l n hiv
 have hfew := h.few
 have h0 := h.h0
 have h1 := h.h1
 have eO := hO ls H h
 have hFl : (opensL H ls).length = ls.length := by simp [opensL]
 obtain ⟨I, hI⟩ : ∃ I : Nat → IvQ, ∀ k, ivL H (ls.take k) = I k := ⟨_, fun _ => rfl⟩
 have hI0 : I 0 = (0, 0, 0) := by rw [← hI]; rfl
 have hIn : I ls.length = (f, l, n) := by rw [← hI, List.take_length, hiv]
 have hok : ∀ k, k ≤ ls.length → IvI (40 * k) (I k) := fun k hk => by rw [← hI]; exact iv_ok h k hk
 have hs : ∀ k (hlt : k < ls.length), I (k + 1) = ivF (I k) (opnL ls[k] (trk H [] ls[k])) := fun k hlt => by rw [← hI, ← hI, iv_take H ls k hlt]
 have hget : ∀ k (hlt : k < ls.length), ((opensL H ls).map opD)[k]? = some (opD (opnL ls[k] (trk H [] ls[k]))) := fun k hlt => by simp [opensL, hlt]
 have hnn := hok ls.length (Nat.le_refl _)
 rw [hIn] at hnn
 have a1 := hnn.n0
 have a2 := hnn.n1
 have a3 := hnn.f0
 have a4 := hnn.l0
 have a5 := hnn.fl
 simp only at a1 a2 a3 a4 a5
 generalize opensL H ls = F at *
 obtain ⟨ax, s', ⟨rfl, rfl⟩, hin⟩ : ∃ ax s', (ax = .ex 0 ∧ s' = ⟨[(4, .loc 4 0 0), (6, i64 f), (7, i64 l), (8, i64 n)], [(4, ⟨3, [[i64 0, i64 0, i64 0]]⟩)]⟩) ∧ ∀ s0, nrm [4, 6, 7, 8, 17, 18, 19] [4] s0 = ⟨[(4, .loc 4 0 0), (6, i64 (I 0).1), (7, i64 (I 0).2.1), (8, i64 (I 0).2.2), (17, vOps F), (18, i64 F.length), (19, i64 (0 : Nat))], [(4, ⟨3, [[i64 0, i64 0, i64 0]]⟩)]⟩ → lp (exec Γ M figure_Interval_l2) M s0 = some (ax, s') := by
  refine lp_all (fun k : Nat => ⟨[(4, .loc 4 0 0), (6, i64 (I k).1), (7, i64 (I k).2.1), (8, i64 (I k).2.2), (17, vOps F), (18, i64 F.length), (19, i64 k)], [(4, ⟨3, [[i64 0, i64 0, i64 0]]⟩)]⟩) (fun k => k ≤ ls.length) (fun k => ls.length - k) _ 0 M (by simp) (by simp) (by omega) ?_
  intro k hk
  by_cases hlt : k < ls.length
  ·have hlm := List.getElem_mem hlt
   obtain ⟨hRl, hRs⟩ := (h.one hlm).spans
   have hcl := opnL_len ls[k] (trk H [] ls[k])
   have htk := opn_tk (l := ls[k]) h.h1 hRs
   have hrow := hget k hlt
   have hsk := hs k hlt
   have hi := iv_inner Γ M hM F k (opnL ls[k] (trk H [] ls[k])) htk (by omega) (I k) (m := 40 * k) (by omega) (hok k hk)
   rw [← hsk] at hi
   have hltF : k < F.length := by omega
   have hrow' : ∀ h', (F.map opD)[k]'h' = opD (opnL ls[k] (trk H [] ls[k])) := fun h' => by rw [List.getElem?_eq_getElem h'] at hrow; exact Option.some.inj hrow
   have hlen3 : (opnL ls[k] (trk H [] ls[k])).length ≤ 40 := by omega
   generalize opnL ls[k] (trk H [] ls[k]) = c at *
   simp only [opD] at hrow hrow'
   have hD : ∀ h', opD (F[k]'h') = [.vs 1 (c.map intD)] := fun h' => by have := hrow' (by simpa using h'); rwa [List.getElem_map] at this
   simp -implicitDefEqProofs (disch := first | omega | assumption) [hltF, hD, hi, hlt]
   exact ⟨k + 1, ⟨rfl, rfl, rfl, by omega⟩, by omega, by omega⟩
  ·obtain rfl : k = ls.length := by omega
   have hltF : ¬ ls.length < F.length := by omega
   rw [hIn]
   simp -implicitDefEqProofs (disch := first | omega | assumption) [hltF]
 have hlp : lp (exec Γ M figure_Interval_l2) M ⟨[(4, .loc 4 0 0), (6, i64 0), (7, i64 0), (8, i64 0), (17, vOps F), (18, i64 F.length), (19, i64 0)], [(4, ⟨3, [[i64 0, i64 0, i64 0]]⟩)]⟩ = some (.ex 0, ⟨[(4, .loc 4 0 0), (6, i64 f), (7, i64 l), (8, i64 n)], [(4, ⟨3, [[i64 0, i64 0, i64 0]]⟩)]⟩) := hin _ (by rw [hI0]; simp)
 by_cases c : n < 2
 ·simp -implicitDefEqProofs (disch := first | omega | assumption) [eO, hlp, c, fracD]
 ·have e := hF (l - f) (n - 1) (by omega) (by omega) (by omega) (by omega)
  rw [if_neg (by omega)] at e
  simp only [fracD] at e
  simp -implicitDefEqProofs (disch := first | omega | assumption) [eO, hlp, c, fracD, e]
end Go.Am
namespace Go.Am
def ratT (n b : Int) : List UInt8 := if b < 1 then nA else fixT (100 * (n / b) + 100 * (n % b) / b)
def RRatC (g : List AV → Option (List AV)) : Prop := ∀ n b : Int, 0 ≤ n → n ≤ 2000000000 → -1 ≤ b → b ≤ 2000000000 → g [i64 n, i64 b] = some [st (ratT n b)]
theorem ref42_ratio_run (Γ : Env) (M : Nat) (hH : HundC (Γ 373)) (hF : FixC (Γ 372)) : RRatC (run Γ M ref42_ratio_f) := by
 intro n b h1 h2 h3 h4
 unfold ratT
 by_cases c : b < 1
 ·rw [if_pos c]
  simp -implicitDefEqProofs (disch := omega) [c, nA]
 ·rw [if_neg c]
  obtain ⟨⟨p1, p2⟩, p3, p4⟩ := div_in (l := n) (c := b) h1 (by omega)
  have e := hH (n / b) (n % b) b p1 (by omega) p3 p4 (by omega)
  obtain ⟨q1, q2⟩ := hund_in p3 p4
  have e2 := hF (100 * (n / b) + 100 * (n % b) / b) (by omega) (by omega)
  have hb : ¬ b = 0 := by omega
  simp only [fracD] at e
  generalize fixT (100 * (n / b) + 100 * (n % b) / b) = T at *
  generalize 100 * (n / b) + 100 * (n % b) / b = V at *
  simp -implicitDefEqProofs (disch := omega) [c, e, e2, hb]
def RatC (g : List AV → Option (List AV)) : Prop := (∀ n b : Int, 0 ≤ n → n ≤ 2000000000 → 1 ≤ b → b ≤ 2000000000 → g [.agg (fracD (n / b) (n % b) b), bo true] = some [st (ratT n b)]) ∧ g [.agg (fracD 0 0 0), bo false] = some [st nA]
theorem report_ratio_run (Γ : Env) (M : Nat) (hH : HundC (Γ 386)) (hF : FixC (Γ 385)) : RatC (run Γ M report_ratio_f) := by
 refine ⟨fun n b h1 h2 h3 h4 => ?_, ?_⟩
 ·unfold ratT
  rw [if_neg (by omega)]
  obtain ⟨⟨p1, p2⟩, p3, p4⟩ := div_in (l := n) (c := b) h1 (by omega)
  have e := hH (n / b) (n % b) b p1 (by omega) p3 p4 (by omega)
  obtain ⟨q1, q2⟩ := hund_in p3 p4
  have e2 := hF (100 * (n / b) + 100 * (n % b) / b) (by omega) (by omega)
  simp only [fracD] at e
  generalize fixT (100 * (n / b) + 100 * (n % b) / b) = T at *
  generalize 100 * (n / b) + 100 * (n % b) / b = V at *
  generalize n / b = w at *
  generalize n % b = r at *
  simp -implicitDefEqProofs (disch := omega) [e, e2, fracD]
 ·simp -implicitDefEqProofs (disch := omega) [fracD, nA]
def LoadC (g : List AV → Option (List AV)) : Prop := ∀ (l : List Trip) (c H : Int), Gd l → 1 ≤ c → c ≤ 100 → 1 ≤ H → H ≤ 300 → g [vT l, i64 c, i64 H] = some [.agg (fracD (abdL H l / (c * H)) (abdL H l % (c * H)) (c * H)), bo true]
theorem mul_in {c H : Int} (h1 : 1 ≤ c) (h2 : c ≤ 100) (h3 : 1 ≤ H) (h4 : H ≤ 300) : 1 ≤ c * H ∧ c * H ≤ 30000 := by
 have a : 1 * 1 ≤ c * H := Int.mul_le_mul h1 h3 (by omega) (by omega)
 have b : c * H ≤ 100 * 300 := Int.mul_le_mul h2 h4 (by omega) (by omega)
 omega
theorem figure_Load_run (Γ : Env) (M : Nat) (hA : AbdC (Γ 734)) (hF : FracOfC (Γ 387)) : LoadC (run Γ M figure_Load_f) := by
 intro l c H hl c1 c2 h1 h2
 have e := hA l H hl h1 h2
 have hm := mul_in c1 c2 h1 h2
 have hb := abdL_in h1 h2 l
 have hn := hl.n
 have e2 := hF (abdL H l) (c * H) (by omega) (by omega) (by omega) (by omega)
 rw [if_neg (by omega)] at e2
 simp only [fracD] at e2
 have c1' : ¬ c < 1 := by omega
 have h1' : ¬ H < 1 := by omega
 generalize abdL H l = A at *
 obtain ⟨m, hcm⟩ : ∃ m, c * H = m := ⟨_, rfl⟩
 rw [hcm] at e2 hm ⊢
 simp -implicitDefEqProofs (disch := first | omega | assumption) [e, e2, c1', h1', fracD, hcm]
def HandC (g : List AV → Option (List AV)) : Prop := ∀ (l : List Trip) (H : Int), Gd l → 1 ≤ H → H ≤ 300 → g [vT l, i64 H] = some [i64 ((cntP 2 l : Int) * 300 / H)]
theorem figure_Handling_run (Γ : Env) (M : Nat) (hC : CountsC (Γ 403)) : HandC (run Γ M figure_Handling_f) := by
 intro l H hl h1 h2
 have e := hC l hl.n
 have hn := hl.n
 have hc := cntP_le 2 l
 have h1' : ¬ H < 1 := by omega
 have hz : ¬ H = 0 := by omega
 have hd := div_in (l := (cntP 2 l : Int) * 300) (c := H) (by omega) (by omega)
 generalize cntP 2 l = a at *
 simp -implicitDefEqProofs (disch := first | omega | assumption) [e, h1', hz]
theorem riv_inner (Γ : Env) (M : Nat) (hM : 1000 < M) {H : Int} (hH : 1 ≤ H ∧ H ≤ 300) (hA : At25C (Γ 113)) (ls : List (List Leg)) (k : Nat) (hk : k < ls.length) (hfew : ls.length ≤ 10) (l : List Leg) (hl : ls[k] = l) (hw : WayI l) (R : List Sp) (hR : R.length ≤ 40) (hS : ∀ s ∈ R, SpI H s) (q : IvQ) {m : Nat} (hm : m ≤ 400) (hq : IvI m q) :
  lp (exec Γ M ref42_interval_l1) M ⟨[(0, vLs ls), (1, i64 H), (5, i64 q.2.2), (6, i64 q.1), (7, i64 q.2.1), (8, i64 k), (9, vS R), (10, i64 0)], []⟩ =
   some (.ex 2, ⟨[(0, vLs ls), (1, i64 H), (5, i64 (ivF q (opnL l R)).2.2), (6, i64 (ivF q (opnL l R)).1), (7, i64 (ivF q (opnL l R)).2.1), (8, i64 k)], []⟩) := by
 obtain ⟨ax, s', ⟨rfl, rfl⟩, hin⟩ : ∃ ax s', (ax = .ex 2 ∧ s' = ⟨[(0, vLs ls), (1, i64 H), (5, i64 (ivF q (opnL l R)).2.2), (6, i64 (ivF q (opnL l R)).1), (7, i64 (ivF q (opnL l R)).2.1), (8, i64 k)], []⟩) ∧ ∀ s0, nrm [0, 1, 5, 6, 7, 8, 9, 10] [] s0 = ⟨[(0, vLs ls), (1, i64 H), (5, i64 (ivF q (opnL l (R.take 0))).2.2), (6, i64 (ivF q (opnL l (R.take 0))).1), (7, i64 (ivF q (opnL l (R.take 0))).2.1), (8, i64 k), (9, vS R), (10, i64 (0 : Nat))], []⟩ → lp (exec Γ M ref42_interval_l1) M s0 = some (ax, s') := by
  refine lp_all (fun j : Nat => ⟨[(0, vLs ls), (1, i64 H), (5, i64 (ivF q (opnL l (R.take j))).2.2), (6, i64 (ivF q (opnL l (R.take j))).1), (7, i64 (ivF q (opnL l (R.take j))).2.1), (8, i64 k), (9, vS R), (10, i64 j)], []⟩) (fun j => j ≤ R.length) (fun j => R.length - j) _ 0 M (by simp) (by simp) (by omega) ?_
  intro j hj
  by_cases hlt : j < R.length
  ·obtain ⟨s, hs⟩ : ∃ w, R[j]'hlt = w := ⟨_, rfl⟩
   have hsm : s ∈ R := by rw [← hs]; exact List.getElem_mem hlt
   have b := hS s hsm
   have b1 := b.lo
   have b2 := b.le
   have b3 := b.hi
   have hrow : (R.map Sp.cells)[j]? = some s.cells := by simp [hlt, hs]
   have hrow0 : (ls.map fun l => [dL l])[k]? = some [dL l] := by simp [hk, hl]
   simp only [Sp.cells] at hrow
   have e := hA l s.1 hw (by omega)
   have hsn := opnL_snoc l R j hlt
   have htk := opn_tk (l := l) (R := R.take j) hH.2 fun x hx => hS x (List.mem_of_mem_take hx)
   have hle := opnL_len l (R.take j)
   rw [List.length_take] at hle
   have hI := IvI.all _ hq htk
   rw [hs] at hsn
   obtain ⟨x, hx⟩ : ∃ x, tickV l s.1 = x := ⟨_, rfl⟩
   have hlow : lowS l s = decide (x.1 = 0) := by unfold lowS; rw [hx]
   rw [hx] at e
   rw [hlow] at hsn
   simp only [tkD] at e
   have hkk : (k : Int) < ls.length := by omega
   have hfin : ∀ p : IvQ, p = ivF q (opnL l (R.take (j + 1))) → p.2.2 = (ivF q (opnL l (R.take (j + 1)))).2.2 ∧ p.1 = (ivF q (opnL l (R.take (j + 1)))).1 ∧ p.2.1 = (ivF q (opnL l (R.take (j + 1)))).2.1 := fun p h => by rw [h]; exact ⟨rfl, rfl, rfl⟩
   by_cases hz : x.1 = 0
   ·rw [show decide (x.1 = 0) = true by simpa using hz, if_pos rfl] at hsn
    have hst : ivF q (opnL l (R.take (j + 1))) = ivS (ivF q (opnL l (R.take j))) s.1 := by rw [hsn, ivF_app]; rfl
    generalize ivF q (opnL l (R.take j)) = p at *
    obtain ⟨f, la, n⟩ := p
    have a := hI.n0
    have b := hI.n1
    have d := hI.f0
    have e0 := hI.l0
    simp only [ivS] at a b d e0 hst
    obtain ⟨q3, q1, q2⟩ := hfin _ hst.symm
    simp only at q1 q2 q3
    rw [hz] at e
    by_cases h0 : n = 0
    ·subst h0
     simp only [true_or, if_true] at q1 q2
     simp -implicitDefEqProofs (disch := first | omega | assumption) [hlt, hs, hrow, hrow0, hk, hl, hkk, Sp.cells, e]
     exact ⟨j + 1, ⟨q3, q1, q2, by omega⟩, by omega, by omega⟩
    ·simp only [h0, false_or] at q1 q2
     by_cases h1 : s.1 < f
     ·rw [if_pos h1] at q1
      by_cases h2 : la < s.1
      ·rw [if_pos h2] at q2
       simp -implicitDefEqProofs (disch := first | omega | assumption) [hlt, hs, hrow, hrow0, hk, hl, hkk, Sp.cells, e, h0, h1, h2]
       exact ⟨j + 1, ⟨q3, q1, q2, by omega⟩, by omega, by omega⟩
      ·rw [if_neg h2] at q2
       simp -implicitDefEqProofs (disch := first | omega | assumption) [hlt, hs, hrow, hrow0, hk, hl, hkk, Sp.cells, e, h0, h1, h2]
       exact ⟨j + 1, ⟨q3, q1, q2, by omega⟩, by omega, by omega⟩
     ·rw [if_neg h1] at q1
      by_cases h2 : la < s.1
      ·rw [if_pos h2] at q2
       simp -implicitDefEqProofs (disch := first | omega | assumption) [hlt, hs, hrow, hrow0, hk, hl, hkk, Sp.cells, e, h0, h1, h2]
       exact ⟨j + 1, ⟨q3, q1, q2, by omega⟩, by omega, by omega⟩
      ·rw [if_neg h2] at q2
       simp -implicitDefEqProofs (disch := first | omega | assumption) [hlt, hs, hrow, hrow0, hk, hl, hkk, Sp.cells, e, h0, h1, h2]
       exact ⟨j + 1, ⟨q3, q1, q2, by omega⟩, by omega, by omega⟩
   ·rw [show decide (x.1 = 0) = false by simpa using hz, if_neg (by simp), List.append_nil] at hsn
    rw [← hsn] at hI ⊢
    have a := hI.n0
    have b := hI.n1
    obtain ⟨p, hp⟩ : ∃ p, ivF q (opnL l (R.take (j + 1))) = p := ⟨_, rfl⟩
    rw [hp] at a b ⊢
    simp -implicitDefEqProofs (disch := first | omega | assumption) [hlt, hs, hrow, hrow0, hk, hl, hkk, Sp.cells, e, hz]
    exact ⟨j + 1, by rw [hp]; exact ⟨rfl, rfl, rfl, by omega⟩, by omega, by omega⟩
  ·obtain rfl : j = R.length := by omega
   rw [List.take_length]
   simp -implicitDefEqProofs (disch := first | omega | assumption)
 exact hin _ (by simp [opnL, ivF])
end Go.Am
namespace Go.Am
def ivT (q : IvQ) : List UInt8 := ratT (q.2.1 - q.1) (q.2.2 - 1)
def RIntC (g : List AV → Option (List AV)) : Prop := ∀ (ls : List (List Leg)) (H : Int), LgsOk H ls → g [vLs ls, i64 H] = some [st (ivT (ivL H ls))]
theorem ref42_interval_run (Γ : Env) (M : Nat) (hM : 1000 < M) (hD : Drs25C (Γ 296)) (hA : At25C (Γ 113)) (hR : RRatC (Γ 729)) : RIntC (run Γ M ref42_interval_f) := by
 intro ls H h
 have hfew := h.few
 have h0 := h.h0
 have h1 := h.h1
 obtain ⟨I, hI⟩ : ∃ I : Nat → IvQ, ∀ k, ivL H (ls.take k) = I k := ⟨_, fun _ => rfl⟩
 have hI0 : I 0 = (0, 0, 0) := by rw [← hI]; rfl
 obtain ⟨q, hq⟩ : ∃ q, ivL H ls = q := ⟨_, rfl⟩
 have hIn : I ls.length = q := by rw [← hI, List.take_length, hq]
 have hok : ∀ k, k ≤ ls.length → IvI (40 * k) (I k) := fun k hk => by rw [← hI]; exact iv_ok h k hk
 have hs : ∀ k (hlt : k < ls.length), I (k + 1) = ivF (I k) (opnL ls[k] (trk H [] ls[k])) := fun k hlt => by rw [← hI, ← hI, iv_take H ls k hlt]
 have hnn := hok ls.length (Nat.le_refl _)
 rw [hIn] at hnn
 have a1 := hnn.n0
 have a2 := hnn.n1
 have a3 := hnn.f0
 have a4 := hnn.l0
 have a5 := hnn.fl
 rw [hq]
 obtain ⟨ax, s', ⟨rfl, rfl⟩, hin⟩ : ∃ ax s', (ax = .ex 0 ∧ s' = ⟨[(5, i64 q.2.2), (6, i64 q.1), (7, i64 q.2.1)], []⟩) ∧ ∀ s0, nrm [0, 1, 5, 6, 7, 8] [] s0 = ⟨[(0, vLs ls), (1, i64 H), (5, i64 (I 0).2.2), (6, i64 (I 0).1), (7, i64 (I 0).2.1), (8, i64 (0 : Nat))], []⟩ → lp (exec Γ M ref42_interval_l2) M s0 = some (ax, s') := by
  refine lp_all (fun k : Nat => ⟨[(0, vLs ls), (1, i64 H), (5, i64 (I k).2.2), (6, i64 (I k).1), (7, i64 (I k).2.1), (8, i64 k)], []⟩) (fun k => k ≤ ls.length) (fun k => ls.length - k) _ 0 M (by simp) (by simp) (by omega) ?_
  intro k hk
  by_cases hlt : k < ls.length
  ·obtain ⟨l, hl⟩ : ∃ w, ls[k]'hlt = w := ⟨_, rfl⟩
   have hlm : l ∈ ls := by rw [← hl]; exact List.getElem_mem hlt
   obtain ⟨hRl, hRs⟩ := (h.one hlm).spans
   have hrow : (ls.map fun l => [dL l])[k]? = some [dL l] := by simp [hlt, hl]
   have e := hD l H (h.ok l hlm) (by omega) (h.near l hlm)
   have hsk := hs k hlt
   have hi := riv_inner Γ M hM ⟨h0, h1⟩ hA ls k hlt hfew l hl (h.ok l hlm) (trk H [] l) hRl hRs (I k) (m := 40 * k) (by omega) (hok k hk)
   rw [hl] at hsk
   rw [← hsk] at hi
   generalize trk H [] l = R at *
   have hkk : (k : Int) < ls.length := by omega
   simp -implicitDefEqProofs (disch := first | omega | assumption) [hlt, hkk, hl, hrow, e, hi]
   exact ⟨k + 1, ⟨rfl, rfl, rfl, by omega⟩, by omega, by omega⟩
  ·obtain rfl : k = ls.length := by omega
   rw [hIn]
   simp -implicitDefEqProofs (disch := first | omega | assumption)
 have hlp : lp (exec Γ M ref42_interval_l2) M ⟨[(0, vLs ls), (1, i64 H), (5, i64 0), (6, i64 0), (7, i64 0), (8, i64 0)], []⟩ = some (.ex 0, ⟨[(5, i64 q.2.2), (6, i64 q.1), (7, i64 q.2.1)], []⟩) := hin _ (by rw [hI0]; simp)
 have e := hR (q.2.1 - q.1) (q.2.2 - 1) (by omega) (by omega) (by omega) (by omega)
 unfold ivT
 generalize ratT (q.2.1 - q.1) (q.2.2 - 1) = T at *
 simp -implicitDefEqProofs (disch := first | omega | assumption) [hlp, e]
end Go.Am
namespace Go.Am
structure SOk (s : Scn) : Prop where
 c0 : 1 ≤ s.cars
 c1 : s.cars ≤ 16
 h0 : 1 ≤ s.horizon
 h1 : s.horizon ≤ 300
 bw : Bw s.bins s.width
abbrev wPas : List UInt8 := [112, 97, 115, 115, 101, 110, 103, 101, 114, 115]
abbrev wDel : List UInt8 := [100, 101, 108, 105, 118, 101, 114, 101, 100]
abbrev wRid : List UInt8 := [114, 105, 100, 105, 110, 103]
abbrev wWai : List UInt8 := [119, 97, 105, 116, 105, 110, 103]
abbrev wHan : List UInt8 := [104, 97, 110, 100, 108, 105, 110, 103]
abbrev wInt : List UInt8 := [105, 110, 116, 101, 114, 118, 97, 108]
abbrev wLoa : List UInt8 := [108, 111, 97, 100]
abbrev wTra : List UInt8 := [116, 114, 97, 118, 101, 108]
abbrev wDoo : List UInt8 := [100, 111, 111, 114, 115]
abbrev wWor : List UInt8 := [119, 111, 114, 100, 115]
def cntT (s : Scn) (ts : List Trip) (ls : List (List Leg)) (u : Int) : List TRow :=
 [[wPas, txt ts.length], [wDel, txt (cntP 2 ts)], [wRid, txt (cntP 1 ts)], [wWai, txt (cntP 0 ts)], [wHan, txt ((cntP 2 ts : Int) * 300 / s.horizon)], [wInt, ivT (ivL s.horizon ls)],
  [wLoa, ratT (abdL s.horizon ts) (s.cars * s.horizon)], [wTra, txt (farsL s.horizon ls)], [wDoo, txt (busysL s.horizon ls)], [wWor, txt u]]
def CntC (g : List AV → Option (List AV)) : Prop := ∀ (s : Scn) (ts : List Trip) (ls : List (List Leg)) (u : Int), SOk s → Gd ts → LgsOk s.horizon ls → InI64 u → g [.agg s.cells, .agg (logD ts ls u)] = some [vRs (cntT s ts ls u)]
theorem fars_in {H : Int} {ls : List (List Leg)} (h : LgsOk H ls) : 0 ≤ farsL H ls ∧ farsL H ls ≤ 12000000000000 := by
 have := sum_in (farL H none) ls fun l hl => (h.one hl).far
 have hf := h.few
 unfold farsL; omega
theorem busys_in {H : Int} {ls : List (List Leg)} (h : LgsOk H ls) : 0 ≤ busysL H ls ∧ busysL H ls ≤ 12000000000000 := by
 have := sum_in (fun l => busyL (trk H [] l)) ls fun l hl => (h.one hl).busy
 have hf := h.few
 unfold busysL; omega
theorem hand_in {n : Nat} {H : Int} (hn : n ≤ 100) (h0 : 1 ≤ H) : 0 ≤ (n : Int) * 300 / H ∧ (n : Int) * 300 / H ≤ 30000 := by
 have := (div_in (l := (n : Int) * 300) (c := H) (by omega) (by omega)).1
 omega
theorem iv_is {Γ : Env} (hI : IntvC (Γ 728)) (hR : RatC (Γ 724)) {ls : List (List Leg)} {H : Int} (h : LgsOk H ls) :
  ∃ a b c is, Γ 728 [vLs ls, i64 H] = some [.agg [.int .i64 a, .int .i64 b, .int .i64 c], bo is] ∧ Γ 724 [.agg [.int .i64 a, .int .i64 b, .int .i64 c], bo is] = some [st (ivT (ivL H ls))] := by
 obtain ⟨q, hq⟩ : ∃ q, ivL H ls = q := ⟨_, rfl⟩
 obtain ⟨f, l, n⟩ := q
 have e := hI ls H h f l n hq
 have hok := iv_ok h ls.length (Nat.le_refl _)
 rw [List.take_length, hq] at hok
 have a1 := hok.n1
 have a2 := hok.f0
 have a3 := hok.l0
 have a4 := hok.fl
 have hf := h.few
 simp only at a1 a2 a3 a4
 rw [hq]
 by_cases c : n < 2
 ·rw [if_pos c] at e
  refine ⟨0, 0, 0, false, e, ?_⟩
  have := hR.2
  unfold ivT ratT
  rw [if_pos (by simp only; omega)]
  exact this
 ·rw [if_neg c] at e
  exact ⟨_, _, _, true, e, hR.1 (l - f) (n - 1) (by omega) (by omega) (by omega) (by omega)⟩
theorem load_is {Γ : Env} (hL : LoadC (Γ 727)) (hR : RatC (Γ 724)) {s : Scn} (hs : SOk s) {ts : List Trip} (h : Gd ts) :
  ∃ a b c is, Γ 727 [vT ts, i64 s.cars, i64 s.horizon] = some [.agg [.int .i64 a, .int .i64 b, .int .i64 c], bo is] ∧ Γ 724 [.agg [.int .i64 a, .int .i64 b, .int .i64 c], bo is] = some [st (ratT (abdL s.horizon ts) (s.cars * s.horizon))] := by
 have c0 := hs.c0
 have c1 := hs.c1
 have e := hL ts s.cars s.horizon h hs.c0 (by omega) hs.h0 hs.h1
 have hm := mul_in hs.c0 (by omega) hs.h0 hs.h1
 have hb := abdL_in hs.h0 hs.h1 ts
 have hn := h.n
 exact ⟨_, _, _, true, e, hR.1 _ _ (by omega) (by omega) (by omega) (by omega)⟩
theorem report_counts_run (Γ : Env) (M : Nat) (hM : 1000 < M) (hC : CountsC (Γ 403)) (hI : IntvC (Γ 728)) (hL : LoadC (Γ 727)) (hR : RatC (Γ 724)) (hH : HandC (Γ 723)) (hF : FarsC (Γ 725)) (hB : BusysC (Γ 726)) (hOf : Of (Γ 50)) : CntC (run Γ M report_counts_f) := by
 intro s ts ls u hs ht hl hu
 have hn := ht.n
 have k0 := cntP_le 0 ts
 have k1 := cntP_le 1 ts
 have k2 := cntP_le 2 ts
 have e1 := hC ts hn
 obtain ⟨a, b, c, is, e2, e2'⟩ := iv_is hI hR hl
 obtain ⟨a', b', c', is', e3, e3'⟩ := load_is hL hR hs ht
 have e4 := hH ts s.horizon ht hs.h0 hs.h1
 have e5 := hF ls s.horizon hl
 have e6 := hB ls s.horizon hl
 have hfi := fars_in hl
 have hbi := busys_in hl
 have hhi := hand_in (n := cntP 2 ts) (H := s.horizon) (by omega) hs.h0
 have o1 := hOf ts.length ⟨by omega, by omega⟩
 have o2 := hOf (cntP 2 ts) ⟨by omega, by omega⟩
 have o3 := hOf (cntP 1 ts) ⟨by omega, by omega⟩
 have o4 := hOf (cntP 0 ts) ⟨by omega, by omega⟩
 have o5 := hOf ((cntP 2 ts : Int) * 300 / s.horizon) ⟨by omega, by omega⟩
 have o6 := hOf (farsL s.horizon ls) ⟨by omega, by omega⟩
 have o7 := hOf (busysL s.horizon ls) ⟨by omega, by omega⟩
 have o8 := hOf u hu
 unfold cntT
 generalize txt ts.length = T1 at *
 generalize txt (cntP 2 ts) = T2 at *
 generalize txt (cntP 1 ts) = T3 at *
 generalize txt (cntP 0 ts) = T4 at *
 generalize txt ((cntP 2 ts : Int) * 300 / s.horizon) = T5 at *
 generalize (cntP 2 ts : Int) * 300 / s.horizon = Z5 at *
 generalize txt (farsL s.horizon ls) = T6 at *
 generalize farsL s.horizon ls = Z6 at *
 generalize txt (busysL s.horizon ls) = T7 at *
 generalize busysL s.horizon ls = Z7 at *
 generalize txt u = T8 at *
 generalize ivT (ivL s.horizon ls) = T9 at *
 generalize ratT (abdL s.horizon ts) (s.cars * s.horizon) = T10 at *
 generalize cntP 2 ts = n2 at *
 generalize cntP 1 ts = n1 at *
 generalize cntP 0 ts = n0 at *
 simp -implicitDefEqProofs (disch := first | omega | assumption) [e1, e2, e2', e3, e3', e4, e5, e6, o1, o2, o3, o4, o5, o6, o7, o8, rowQ, txQ]
end Go.Am
namespace Go.Am
theorem rbusy_inner (Γ : Env) (M : Nat) (hM : 1000 < M) {H : Int} (h1 : H ≤ 300) (S L : List AV) (far : Int) (k : Nat) (n : Int) (hn : 0 ≤ n ∧ n ≤ 12000000000000) (R : List Sp) (hR : R.length ≤ 40) (hS : ∀ s ∈ R, SpI H s) :
  lp (exec Γ M ref42_counts_l2) M ⟨[(2, .loc 2 0 0), (3, .loc 3 0 0), (5, i64 far), (6, i64 n), (7, i64 k), (8, vS R), (9, i64 0)], [(2, ⟨13, [S]⟩), (3, ⟨3, [L]⟩)]⟩ = some (.ex 2, ⟨[(2, .loc 2 0 0), (3, .loc 3 0 0), (5, i64 far), (6, i64 (n + busyL R)), (7, i64 k)], [(2, ⟨13, [S]⟩), (3, ⟨3, [L]⟩)]⟩) := by
 obtain ⟨ax, s', ⟨rfl, rfl⟩, hin⟩ : ∃ ax s', (ax = .ex 2 ∧ s' = ⟨[(2, .loc 2 0 0), (3, .loc 3 0 0), (5, i64 far), (6, i64 (n + busyL R)), (7, i64 k)], [(2, ⟨13, [S]⟩), (3, ⟨3, [L]⟩)]⟩) ∧ ∀ s0, nrm [2, 3, 5, 6, 7, 8, 9] [2, 3] s0 = ⟨[(2, .loc 2 0 0), (3, .loc 3 0 0), (5, i64 far), (6, i64 (n + busyL (R.take 0))), (7, i64 k), (8, vS R), (9, i64 (0 : Nat))], [(2, ⟨13, [S]⟩), (3, ⟨3, [L]⟩)]⟩ → lp (exec Γ M ref42_counts_l2) M s0 = some (ax, s') := by
  refine lp_all (fun q : Nat => ⟨[(2, .loc 2 0 0), (3, .loc 3 0 0), (5, i64 far), (6, i64 (n + busyL (R.take q))), (7, i64 k), (8, vS R), (9, i64 q)], [(2, ⟨13, [S]⟩), (3, ⟨3, [L]⟩)]⟩) (fun q => q ≤ R.length) (fun q => R.length - q) _ 0 M (by simp) (by simp) (by omega) ?_
  intro j hk
  by_cases hlt : j < R.length
  ·obtain ⟨s, hs⟩ : ∃ w, R[j]'hlt = w := ⟨_, rfl⟩
   have hsm : s ∈ R := by rw [← hs]; exact List.getElem_mem hlt
   have b := hS s hsm
   have b1 := b.lo
   have b2 := b.le
   have b3 := b.hi
   have hrow : (R.map Sp.cells)[j]? = some s.cells := by simp [hlt, hs]
   simp only [Sp.cells] at hrow
   have hsn := busy_snoc R j hlt
   have hbi := busy_in h1 (R.take j) fun x hx => hS x (List.mem_of_mem_take hx)
   rw [List.length_take] at hbi
   rw [hs] at hsn
   generalize busyL (R.take j) = c at *
   simp -implicitDefEqProofs (disch := first | omega | assumption) [hlt, hs, hrow, Sp.cells]
   exact ⟨j + 1, ⟨by omega, by omega⟩, by omega, by omega⟩
  ·obtain rfl : j = R.length := by omega
   rw [List.take_length]
   simp -implicitDefEqProofs (disch := first | omega | assumption)
 exact hin _ (by simp [busyL])
theorem rcounts_outer (Γ : Env) (M : Nat) (hM : 1000 < M) (hF : FarC (Γ 732)) (hD : Drs25C (Γ 296)) (s : Scn) (ts : List Trip) (ls : List (List Leg)) (u : Int) (h : LgsOk s.horizon ls) :
  lp (exec Γ M ref42_counts_l3) M ⟨[(2, .loc 2 0 0), (3, .loc 3 0 0), (5, i64 0), (6, i64 0), (7, i64 0)], [(2, ⟨13, [s.cells.map AV.c]⟩), (3, ⟨3, [(logD ts ls u).map AV.c]⟩)]⟩ = some (.ex 0, ⟨[(2, .loc 2 0 0), (3, .loc 3 0 0), (5, i64 (farsL s.horizon ls)), (6, i64 (busysL s.horizon ls))], [(2, ⟨13, [s.cells.map AV.c]⟩), (3, ⟨3, [(logD ts ls u).map AV.c]⟩)]⟩) := by
 have hfew := h.few
 have h0 := h.h0
 have h1 := h.h1
 obtain ⟨f, hf⟩ : ∃ f : List Leg → Int, farL s.horizon none = f := ⟨_, rfl⟩
 have hfi : ∀ l ∈ ls, 0 ≤ f l ∧ f l ≤ 1200000000000 := fun l hl => by rw [← hf]; exact (h.one hl).far
 obtain ⟨g, hg⟩ : ∃ g : List Leg → Int, (fun l => busyL (trk s.horizon [] l)) = g := ⟨_, rfl⟩
 have hgl : ∀ l, busyL (trk s.horizon [] l) = g l := fun l => by rw [← hg]
 have hgi : ∀ l ∈ ls, 0 ≤ g l ∧ g l ≤ 1200000000000 := fun l hl => by rw [← hgl]; exact (h.one hl).busy
 rw [show farsL s.horizon ls = (ls.map f).sum by rw [farsL, hf], show busysL s.horizon ls = (ls.map g).sum by rw [busysL, hg]]
 obtain ⟨ax, s', ⟨rfl, rfl⟩, hin⟩ : ∃ ax s', (ax = .ex 0 ∧ s' = ⟨[(2, .loc 2 0 0), (3, .loc 3 0 0), (5, i64 (ls.map f).sum), (6, i64 (ls.map g).sum)], [(2, ⟨13, [s.cells.map AV.c]⟩), (3, ⟨3, [(logD ts ls u).map AV.c]⟩)]⟩) ∧ ∀ s0, nrm [2, 3, 5, 6, 7] [2, 3] s0 = ⟨[(2, .loc 2 0 0), (3, .loc 3 0 0), (5, i64 ((ls.take 0).map f).sum), (6, i64 ((ls.take 0).map g).sum), (7, i64 (0 : Nat))], [(2, ⟨13, [s.cells.map AV.c]⟩), (3, ⟨3, [(logD ts ls u).map AV.c]⟩)]⟩ → lp (exec Γ M ref42_counts_l3) M s0 = some (ax, s') := by
  refine lp_all (fun q : Nat => ⟨[(2, .loc 2 0 0), (3, .loc 3 0 0), (5, i64 ((ls.take q).map f).sum), (6, i64 ((ls.take q).map g).sum), (7, i64 q)], [(2, ⟨13, [s.cells.map AV.c]⟩), (3, ⟨3, [(logD ts ls u).map AV.c]⟩)]⟩) (fun q => q ≤ ls.length) (fun q => ls.length - q) _ 0 M (by simp) (by simp) (by omega) ?_
  intro k hk
  by_cases hlt : k < ls.length
  ·obtain ⟨l, hl⟩ : ∃ w, ls[k]'hlt = w := ⟨_, rfl⟩
   have hlm : l ∈ ls := by rw [← hl]; exact List.getElem_mem hlt
   have hrow : (ls.map fun l => [dL l])[k]? = some [dL l] := by simp [hlt, hl]
   have e := hF l s.horizon (h.one hlm)
   have e2 := hD l s.horizon (h.ok l hlm) (by omega) (h.near l hlm)
   rw [hf] at e
   obtain ⟨hRl, hRs⟩ := (h.one hlm).spans
   have hb := hfi l hlm
   have hc := hgi l hlm
   have hs := sum_snoc f ls k hlt
   have hs2 := sum_snoc g ls k hlt
   have hb2 := sum_take_in f ls k hfew hfi
   have hc2 := sum_take_in g ls k hfew hgi
   rw [hl] at hs hs2
   generalize ((ls.take k).map f).sum = c at *
   generalize ((ls.take k).map g).sum = d at *
   obtain ⟨z, hz⟩ : ∃ z, f l = z := ⟨_, rfl⟩
   rw [hz] at e hb hs
   have hin := rbusy_inner Γ M hM h1 (s.cells.map AV.c) ((logD ts ls u).map AV.c) (c + z) k d hc2 (trk s.horizon [] l) hRl hRs
   rw [hgl] at hin
   generalize trk s.horizon [] l = R at *
   obtain ⟨y, hy⟩ : ∃ y, g l = y := ⟨_, rfl⟩
   rw [hy] at hc hs2 hin
   simp only [Scn.cells, List.map_cons, List.map_nil] at hin
   have hkk : (k : Int) < ls.length := by omega
   simp -implicitDefEqProofs (disch := first | omega | assumption) [hlt, hkk, hl, hrow, e, e2, hin]
   exact ⟨k + 1, ⟨by rw [← List.map_take, hs], by rw [← List.map_take, hs2], by omega⟩, by omega, by omega⟩
  ·obtain rfl : k = ls.length := by omega
   rw [List.take_length]
   simp -implicitDefEqProofs (disch := first | omega | assumption)
 exact hin _ (by simp)
end Go.Am
namespace Go.Am
theorem ref42_counts_run (Γ : Env) (M : Nat) (hM : 1000 < M) (hF : FarC (Γ 732)) (hD : Drs25C (Γ 296)) (hC : ManyC24 (Γ 402)) (hI : RIntC (Γ 731)) (hA : AbdC (Γ 730)) (hR : RRatC (Γ 729)) (hOf : Of (Γ 6)) : CntC (run Γ M ref42_counts_f) := by
 intro s ts ls u hs ht hl hu
 have hn := ht.n
 have k0 := cntP_le 0 ts
 have k1 := cntP_le 1 ts
 have k2 := cntP_le 2 ts
 have f0 := hC ts 0 hn
 have f1 := hC ts 1 hn
 have f2 := hC ts 2 hn
 have e1 := rcounts_outer Γ M hM hF hD s ts ls u hl
 have e2 := hI ls s.horizon hl
 have e3 := hA ts s.horizon ht hs.h0 hs.h1
 have c0 := hs.c0
 have c1 := hs.c1
 have h0 := hs.h0
 have h1 := hs.h1
 have hm := mul_in hs.c0 (by omega) hs.h0 hs.h1
 have hb := abdL_in hs.h0 hs.h1 ts
 have e4 := hR (abdL s.horizon ts) (s.cars * s.horizon) (by omega) (by omega) (by omega) (by omega)
 have hfi := fars_in hl
 have hbi := busys_in hl
 have hhi := hand_in (n := cntP 2 ts) (H := s.horizon) (by omega) hs.h0
 have o0 := hOf 0 ⟨by omega, by omega⟩
 have o1 := hOf ts.length ⟨by omega, by omega⟩
 have o2 := hOf (cntP 2 ts) ⟨by omega, by omega⟩
 have o3 := hOf (cntP 1 ts) ⟨by omega, by omega⟩
 have o4 := hOf (cntP 0 ts) ⟨by omega, by omega⟩
 have o5 := hOf ((cntP 2 ts : Int) * 300 / s.horizon) ⟨by omega, by omega⟩
 have o6 := hOf (farsL s.horizon ls) ⟨by omega, by omega⟩
 have o7 := hOf (busysL s.horizon ls) ⟨by omega, by omega⟩
 have o8 := hOf u hu
 have hz : ¬ s.horizon = 0 := by omega
 unfold cntT
 generalize txt ts.length = T1 at *
 generalize txt (cntP 2 ts) = T2 at *
 generalize txt (cntP 1 ts) = T3 at *
 generalize txt (cntP 0 ts) = T4 at *
 generalize txt ((cntP 2 ts : Int) * 300 / s.horizon) = T5 at *
 generalize txt (farsL s.horizon ls) = T6 at *
 generalize farsL s.horizon ls = Z6 at *
 generalize txt (busysL s.horizon ls) = T7 at *
 generalize busysL s.horizon ls = Z7 at *
 generalize txt u = T8 at *
 generalize txt 0 = T0 at *
 generalize ivT (ivL s.horizon ls) = T9 at *
 generalize ratT (abdL s.horizon ts) (s.cars * s.horizon) = T10 at *
 generalize abdL s.horizon ts = AB at *
 generalize cntP 2 ts = n2 at *
 generalize cntP 1 ts = n1 at *
 generalize cntP 0 ts = n0 at *
 obtain ⟨m, hcm⟩ : ∃ m, s.cars * s.horizon = m := ⟨_, rfl⟩
 rw [hcm] at e4 hm
 obtain ⟨N, rfl⟩ : ∃ N, M = N + 20 := ⟨M - 20, by omega⟩
 simp only [Scn.cells, List.map_cons, List.map_nil] at e1
 simp -implicitDefEqProofs (maxSteps := 10000000) (disch := first | omega | assumption) [e1, e2, e3, e4, f0, f1, f2, o0, o1, o2, o3, o4, o5, o6, o7, o8, hz, hcm, lp_succ (exec Γ (N + 20) ref42_counts_l1), ref42_counts_l1_x, rowQ, txQ]
end Go.Am
namespace Go.Am
open Go.Proofs Go.Shelf Go.RowKit
theorem jnExtra : Builder.Extra Tryz.prog Tryz.lays156_ren where
 sizeBuilder := by kernel_rfl
 liesBuilder := by kernel_rfl
 t5 := Tryz.underlying5
 a5 := Tryz.isAgg5
 z5 := Tryz.sizeOf5
 v5 := Tryz.zeroValue5
 infoByte := by kernel_rfl
 cellsByte := by kernel_rfl
 sizeByte := by kernel_rfl
 neB5 := by decide
def joinS : List AV → Option (List AV)
 | [.c (.vs 1 [[.str a], [.str b], [.str c], [.str d]]), .c (.str s)] => if (a ++ (s ++ (b ++ (s ++ (c ++ (s ++ d)))))).length ≤ 140737488355328 then some [.c (.str (a ++ (s ++ (b ++ (s ++ (c ++ (s ++ d)))))))] else none
 | _ => none
theorem join_spec : Spec Tryz.prog 14 joinS := by
 intro F w ds vs rs hok hall h
 unfold joinS at h
 split at h
 case h_2 => simp at h
 rename_i a b c d s
 split at h
 case isFalse => simp at h
 rename_i hs
 simp only [Option.some.injEq] at h
 subst h
 cases hall with
 | cons h1 h2 =>
 cases h2 with
 | cons h2 h3 =>
 cases h3
 cases h2
 cases h1 with
 | vs _ _ a0 cap ad u hcap ha hsz hf hd =>
 have ha := ha (by simp)
 subst ha
 have hj : Lib.join [a, b, c, d] s = a ++ (s ++ (b ++ (s ++ (c ++ (s ++ d))))) := by simp [Lib.join, List.intercalate]
 have hu : ∀ (j : Nat) (x : List UInt8), [a, b, c, d][j]? = some x → w.cell? (ad.add j) = some (.string ⟨x.toArray⟩) := by
  intro j x hx
  have hr : [[D.str a], [D.str b], [D.str c], [D.str d]][j]? = some [D.str x] := by
   match j, hx with
   | 0, hx => simp at hx; simp [hx]
   | 1, hx => simp at hx; simp [hx]
   | 2, hx => simp at hx; simp [hx]
   | 3, hx => simp at hx; simp [hx]
   | j + 4, hx => simp at hx
  have f1 := hok.at_ _ _ (hf j _ 0 _ hr rfl)
  have d1 := hd j _ 0 _ hr rfl
  rw [Nat.mul_one, Nat.add_zero] at f1
  rw [f1]
  generalize u j 0 = v at d1
  cases d1; rfl
 have h0 := hu 0 a rfl
 have hsp : ad.spot = none := by
  have e : ad.add 0 = ad := by unfold Addr.add; rw [if_pos rfl]
  rw [e] at h0
  unfold World.cell? at h0
  split at h0
  ·split at h0
   ·simp at h0
   ·rename_i hn; simpa using hn
  ·simp at h0
 have hadd : ∀ j, ad.add j = ⟨ad.block, ad.off + j, none⟩ := fun j => by
  unfold Addr.add
  by_cases hj : j = 0
  ·subst hj; rw [if_pos rfl]; cases ad; simp only at hsp; subst hsp; rfl
  ·rw [if_neg hj]
 have hlt := cell?_lt h0
 have had : ad = ⟨ad.block, ad.off, none⟩ := by cases ad; simp only at hsp; subst hsp; rfl
 have hb : (ad.add 0).block = ad.block := by unfold Addr.add; rw [if_pos rfl]
 rw [hb] at hlt
 have hc := Any.strings_Join (P := Tryz.prog) (ρ := Tryz.lays156_ren) Tryz.lays156 jnExtra ad.block ad.off cap [⟨a.toArray⟩, ⟨b.toArray⟩, ⟨c.toArray⟩, ⟨d.toArray⟩] ⟨s.toArray⟩ w
  (fun j x hx => by
   rw [← hadd]
   match j, hx with
   | 0, hx => simp at hx; rw [← hx]; exact hu 0 a rfl
   | 1, hx => simp at hx; rw [← hx]; exact hu 1 b rfl
   | 2, hx => simp at hx; rw [← hx]; exact hu 2 c rfl
   | 3, hx => simp at hx; rw [← hx]; exact hu 3 d rfl
   | j + 4, hx => simp at hx)
  hlt (by simp) hcap (by simpa [hj] using hs)
 rw [← had] at hc
 refine hc.mono ?_
 rintro e w' ⟨rfl, hb⟩
 refine ⟨_, rfl, F, hok.below hb, Facts.le.refl F, hb, fun a v hv => .inl hv, ?_⟩
 simpa [RetR, RR, hj] using DR.str (F := F) (a ++ (s ++ (b ++ (s ++ (c ++ (s ++ d))))))
def JoinC (g : List AV → Option (List AV)) : Prop := ∀ a b c d : List UInt8, a.length ≤ 1000000000 → b.length ≤ 1000000000 → c.length ≤ 1000000000 → d.length ≤ 1000000000 → g [.c (.vs 1 [[.str a], [.str b], [.str c], [.str d]]), st [10]] = some [st (a ++ (10 :: (b ++ (10 :: (c ++ (10 :: d))))))]
theorem joinS_C : JoinC joinS := fun a b c d h1 h2 h3 h4 => by
 simp only [joinS]
 rw [if_pos (by simp; omega)]
 simp
def rtX : Env := ⟨fun f ds => if f = 438 then repS ds else if f = 720 then joinS ds else none, fun f s => if f = 290 then sortPt s else none, fun _ _ => none⟩
theorem rtX_fn : rtX 438 = repS := by funext s; simp [rtX]
theorem rtX_jn : rtX 720 = joinS := by funext s; simp [rtX]
theorem rtX_pt : rtX.pt 290 = sortPt := by funext s; simp [rtX]
theorem rtX_ok {P : Go.Program} {nm : Nat → Option Nat} {T : Tab} {τ : Go.Shelf.Ren} {g g2 : Nat} (L : Go.Proofs.Lays.n189 P τ) (h : nm 290 = some (τ.f 189)) (hr : nm 438 = some g) (hS : Spec P g repS) (hj : nm 720 = some g2) (hJ : Spec P g2 joinS) : XOk P nm T rtX where
 fn := fun f k hg _ => by
  by_cases hf : f = 438
  ·subst hf
   rw [hr] at hg; simp only [Option.some.injEq] at hg; subst hg
   rw [rtX_fn]; exact hS
  ·by_cases hf2 : f = 720
   ·subst hf2
    rw [hj] at hg; simp only [Option.some.injEq] at hg; subst hg
    rw [rtX_jn]; exact hJ
   ·intro F w ds vs rs _ _ h
    simp [rtX, hf, hf2] at h
 pt := fun f g hg _ => by
  by_cases hf : f = 290
  ·subst hf
   rw [h] at hg
   simp only [Option.some.injEq] at hg
   subst hg
   rw [rtX_pt]; exact sort_specP L
  ·have : rtX.pt f = fun _ => none := by funext s; simp [rtX, hf]
   rw [this]; exact SpecP.none
 mono := fun f s rs ob R hR h => by
  by_cases hf : f = 290
  ·subst hf
   rw [rtX_pt] at h ⊢
   exact sort_mono s rs ob R hR h
  ·simp [rtX, hf] at h
theorem env_rtp {T : Tab} {V : List (Nat × Nat)} {M n : Nat} (h : get T 438 = none) : RepC (env T V rtX M n 438) := by
 have : env T V rtX M n 438 = repS := by
  rw [← rtX_fn]
  funext s
  cases n <;> simp [env, envFn, h]
 rw [this]; exact repS_C
theorem env_rtj {T : Tab} {V : List (Nat × Nat)} {M n : Nat} (h : get T 720 = none) : JoinC (env T V rtX M n 720) := by
 have : env T V rtX M n 720 = joinS := by
  rw [← rtX_jn]
  funext s
  cases n <;> simp [env, envFn, h]
 rw [this]; exact joinS_C
theorem env_rts {T : Tab} {V : List (Nat × Nat)} {M n : Nat} (h : get T 290 = none) : (env T V rtX M n).pt 290 = sortPt := by
 rw [← rtX_pt]
 funext s
 cases n <;> simp [env, envPt, h]
end Go.Am
namespace Go.Am
theorem txtL2 (n : Int) : (txt n).length ≤ 21 := Sh.txt_len n
theorem txtL3 {n : Nat} (h : n ≤ 100) : (txt n).length ≤ 3 := by
 unfold txt
 rw [if_neg (by omega)]
 exact dig_len_le (n := (n : Int)) (k := 3) (by omega) (by omega) (by omega) (by omega) (by omega)
theorem ratT_len (n b : Int) : (ratT n b).length ≤ 40 := by
 unfold ratT
 split
 ·simp [nA]
 ·unfold fixT dig2
  generalize 100 * (n / b) + 100 * (n % b) / b = V
  have := dig_len (V / 100)
  simp; omega
theorem small_cnt (s : Scn) (ts : List Trip) (ls : List (List Leg)) (u : Int) : Small (cntT s ts ls u) := by
 refine ⟨by simp [cntT], fun r hr => ?_⟩
 have key : ∀ a b : List UInt8, a.length ≤ 60 → b.length ≤ 60 → SmallR [a, b] := fun a b h1 h2 => ⟨by simp, fun w hw => by
  simp only [List.mem_cons, List.not_mem_nil, or_false] at hw
  rcases hw with rfl | rfl <;> assumption⟩
 simp only [cntT, List.mem_cons, List.not_mem_nil, or_false] at hr
 rcases hr with rfl | rfl | rfl | rfl | rfl | rfl | rfl | rfl | rfl | rfl
 all_goals first
  | exact key _ _ (by simp) (Nat.le_trans (txtL2 _) (by omega))
  | exact key _ _ (by simp) (Nat.le_trans (ratT_len _ _) (by omega))
def headSt : TRow := [[116, 105, 99, 107, 115], [109, 101, 97, 110], [112, 53, 48], [112, 57, 48], [112, 57, 53], [112, 49, 48, 48]]
abbrev wTrn : List UInt8 := [116, 114, 97, 110, 115, 105, 116]
theorem fracT_len {w r : Int} {b : Nat} (hw : 0 ≤ w) (hr : 0 ≤ r) (hb : b ≤ 100) : (fracT 43 w r b).length ≤ 60 := by
 have h1 := txtL hw
 have h2 := txtL hr
 have h3 := txtL3 hb
 unfold fracT
 split
 ·omega
 ·simp; omega
theorem small_stats {name : List UInt8} (hn : name.length ≤ 20) {l : List Int} (h : Wg l) : SmallR (statsT name l) := by
 have hA := h.sumA
 have hl := h.n
 unfold statsT
 split
 ·refine ⟨by simp, fun w hw => ?_⟩
  simp only [List.mem_cons, List.not_mem_nil, or_false] at hw
  rcases hw with rfl | rfl | rfl | rfl | rfl | rfl <;> first | omega | simp [nA]
 ·rename_i hne
  have hpos : 0 < l.length := List.length_pos_iff.2 hne
  refine ⟨by simp [pcts], fun w hw => ?_⟩
  simp only [List.mem_cons, List.mem_map] at hw
  rcases hw with rfl | rfl | ⟨p, _, rfl⟩
  ·omega
  ·exact fracT_len (Int.ediv_nonneg hA.1 (by omega)) (Int.emod_nonneg _ (by omega)) hl
  ·exact Nat.le_trans (txtL2 _) (by omega)
abbrev wWai0 : List UInt8 := [119, 97, 105, 116]
def stT (ts : List Trip) : List TRow := [headSt, statsT wWai0 (wt true ts), statsT wTrn (wt false ts)]
theorem small_st {ts : List Trip} (h1 : Wg (wt true ts)) (h2 : Wg (wt false ts)) : Small (stT ts) := by
 refine ⟨by simp [stT], fun r hr => ?_⟩
 simp only [stT, List.mem_cons, List.not_mem_nil, or_false] at hr
 rcases hr with rfl | rfl | rfl
 ·refine ⟨by simp [headSt], fun w hw => ?_⟩
  simp only [headSt, List.mem_cons, List.not_mem_nil, or_false] at hw
  rcases hw with rfl | rfl | rfl | rfl | rfl | rfl <;> simp
 ·exact small_stats (by simp) h1
 ·exact small_stats (by simp) h2
theorem small_tab {b w : Int} (h : Bw b w) (l m : List Int) : Small (tabRb b w l m b.toNat) := by
 have hb := h.b
 refine ⟨by rw [tabRb_len]; omega, fun r hr => ?_⟩
 simp only [tabRb, List.mem_cons, List.mem_map, List.mem_range] at hr
 rcases hr with rfl | ⟨i, hi, rfl⟩
 ·refine ⟨by simp [headRb], fun w hw => ?_⟩
  simp only [headRb, List.mem_cons, List.not_mem_nil, or_false] at hw
  rcases hw with rfl | rfl | rfl <;> simp
 ·obtain ⟨_, _, e3⟩ := edgeT_word (i := i) h (by omega)
  refine ⟨by simp [rowRb], fun w hw => ?_⟩
  simp only [rowRb, List.mem_cons, List.not_mem_nil, or_false] at hw
  rcases hw with rfl | rfl | rfl
  ·omega
  ·exact Nat.le_trans (txtL2 _) (by omega)
  ·exact Nat.le_trans (txtL2 _) (by omega)
theorem text_in {rs : List TRow} (h : Small rs) : (linesG (wid rs) rs).length ≤ 400000 := by
 have h1 := linesG_len (wid rs) (wid_in h) rs h.rows
 have h2 := h.few
 omega
theorem txtS_in (s : Scn) (hn : s.segs.length ≤ 30) : (Sh.txtS s).length ≤ 20000 := by
 have h1 := Sh.headT_len s
 have h2 := Sh.segsT_len s.segs
 have h3 := Sh.shL_len [Sh.wDispatcher, Sh.disW s.disp] [] (by simp) (fun w hw => by
  simp only [List.mem_cons, List.not_mem_nil, or_false] at hw
  rcases hw with rfl | rfl
  ·simp
  ·exact Sh.disW_len s.disp) (by simp)
 have h4 := Sh.shL_len [Sh.wHorizon] [s.horizon] (by simp) (fun w hw => by simp at hw; subst hw; simp) (by simp)
 have h5 := Sh.shL_len [Sh.wBins] [s.bins, s.width] (by simp) (fun w hw => by simp at hw; subst hw; simp) (by simp)
 unfold Sh.txtS
 simp only [List.length_append]
 omega
structure PrOk (ts : List Trip) : Prop where
 ok : ∀ t ∈ ts, 0 ≤ t.alight → t.board ≤ t.alight ∧ t.arrive ≤ t.board ∧ 0 ≤ t.arrive
theorem wt_ok {ts : List Trip} (h : Gd ts) (hp : PrOk ts) (w : Bool) : (wt w ts).length ≤ 100 ∧ ∀ x ∈ wt w ts, 0 ≤ x ∧ x ≤ 1073741824 := by
 refine ⟨Nat.le_trans (wt_len w ts) h.n, fun x hx => ?_⟩
 unfold wt at hx
 obtain ⟨t, ht, rfl⟩ := List.mem_map.1 hx
 have hd : dn t = true := (List.mem_filter.1 ht).2
 simp only [dn, decide_eq_true_eq] at hd
 have hm := doneL_mem ht
 obtain ⟨a, b, c⟩ := hp.ok t hm hd
 have i1 := (h.all t hm).brd
 have i2 := (h.all t hm).alt
 unfold wv
 split <;> omega
theorem wt_wg {ts : List Trip} (h : Gd ts) (hp : PrOk ts) (w : Bool) : Wg (wt w ts) := ⟨(wt_ok h hp w).1, fun x hx => by have := (wt_ok h hp w).2 x hx; omega⟩
theorem wt_ns {ts : List Trip} (h : Gd ts) (hp : PrOk ts) (w : Bool) : Ns (wt w ts) := ⟨(wt_ok h hp w).1, (wt_ok h hp w).2⟩
abbrev tC (s : Scn) (ts : List Trip) (ls : List (List Leg)) (u : Int) : List UInt8 := linesG (wid (cntT s ts ls u)) (cntT s ts ls u)
abbrev tS (ts : List Trip) : List UInt8 := linesG (wid (stT ts)) (stT ts)
def tabL (s : Scn) (ts : List Trip) : List TRow := tabRb s.bins s.width (wt true ts) (wt false ts) s.bins.toNat
abbrev tB3 (s : Scn) (ts : List Trip) : List UInt8 := linesG (wid (tabL s ts)) (tabL s ts)
def repT (s : Scn) (ts : List Trip) (ls : List (List Leg)) (u : Int) : List UInt8 := Sh.txtS s ++ (10 :: (tC s ts ls u ++ (10 :: (tS ts ++ (10 :: tB3 s ts)))))
structure RpI (s : Scn) (ts : List Trip) (ls : List (List Leg)) (u : Int) : Prop where
 so : SOk s
 tg : Gd ts
 pr : PrOk ts
 lg : LgsOk s.horizon ls
 ui : InI64 u
def RTxtC (g : List AV → Option (List AV)) : Prop :=
 (∀ (s : Scn) (ts : List Trip) (ls : List (List Leg)) (u : Int), s.Ok → s.segs.length ≤ 30 → chkS s ≠ 0 → g [.agg s.cells, .agg (logD ts ls u)] = some [st [], i64 (chkS s)]) ∧
 (∀ (s : Scn) (ts : List Trip) (ls : List (List Leg)) (u : Int), s.Ok → s.segs.length ≤ 30 → chkS s = 0 → RpI s ts ls u → g [.agg s.cells, .agg (logD ts ls u)] = some [st (repT s ts ls u), i64 0])
theorem report_Text_run (Γ : Env) (M : Nat) (hT : Sh.TextC (Γ 48)) (hW : WaitsT (Γ 405)) (hX : WaitsF (Γ 406)) (hS : StatsC (Γ 429)) (hC : CntC (Γ 721)) (hB : BinsC (Γ 431)) (hL : TextC16 (Γ 183)) (hJ : JoinC (Γ 720)) : RTxtC (run Γ M report_Text_f) := by
 refine ⟨fun s ts ls u hs hn hc => ?_, fun s ts ls u hs hn hc h => ?_⟩
 ·have e := hT s hs hn
  rw [if_neg hc] at e
  generalize chkS s = c at *
  simp only [Scn.cells] at e
  simp -implicitDefEqProofs (disch := first | omega | assumption) [e, hc]
 ·have e := hT s hs hn
  rw [if_pos hc] at e
  have g1 := wt_wg h.tg h.pr true
  have g2 := wt_wg h.tg h.pr false
  have e1 := hW ts h.tg
  have e2 := hX ts h.tg
  have e3 := hS wWai0 _ g1
  have e4 := hS wTrn _ g2
  have e5 := hC s ts ls u h.so h.tg h.lg h.ui
  have e6 : Γ 431 [i64 s.bins, i64 s.width, vI (wt true ts), vI (wt false ts)] = some [vRs (tabL s ts)] := hB s.bins s.width _ _ h.so.bw (wt_ns h.tg h.pr true) (wt_ns h.tg h.pr false)
  have m1 := small_cnt s ts ls u
  have m2 := small_st g1 g2
  have m3 : Small (tabL s ts) := small_tab h.so.bw _ _
  have e7 := hL _ m1
  have e8 : Γ 183 [.c (.vs 1 [[.vs 1 [[.str [116, 105, 99, 107, 115]], [.str [109, 101, 97, 110]], [.str [112, 53, 48]], [.str [112, 57, 48]], [.str [112, 57, 53]], [.str [112, 49, 48, 48]]]], [.vs 1 ((statsT wWai0 (wt true ts)).map txQ)], [.vs 1 ((statsT wTrn (wt false ts)).map txQ)]])] = some [st (tS ts)] := hL _ m2
  have e9 := hL _ m3
  have l0 := txtS_in s hn
  have l1 := text_in m1
  have l2 := text_in m2
  have l3 := text_in m3
  have e10 := hJ (Sh.txtS s) (tC s ts ls u) (tS ts) (tB3 s ts) (by omega) (by simp only [tC]; omega) (by simp only [tS]; omega) (by simp only [tB3]; omega)
  simp only [Scn.cells] at e e5
  unfold repT
  generalize Sh.txtS s = A0 at *
  obtain ⟨A1, hA1⟩ : ∃ A1, tC s ts ls u = A1 := ⟨_, rfl⟩
  obtain ⟨A2, hA2⟩ : ∃ A2, tS ts = A2 := ⟨_, rfl⟩
  obtain ⟨A3, hA3⟩ : ∃ A3, tB3 s ts = A3 := ⟨_, rfl⟩
  have e7 : Γ 183 [vRs (cntT s ts ls u)] = some [st A1] := by rw [← hA1]; exact e7
  have e9 : Γ 183 [vRs (tabL s ts)] = some [st A3] := by rw [← hA3]; exact e9
  rw [hA2] at e8
  rw [hA1, hA2, hA3] at e10 ⊢
  clear hA1 hA2 hA3 m1 m2 m3 l0 l1 l2 l3
  generalize wt true ts = w1 at *
  generalize wt false ts = w2 at *
  generalize statsT wWai0 w1 = s1 at *
  generalize statsT wTrn w2 = s2 at *
  generalize tabL s ts = TB at *
  generalize cntT s ts ls u = TC at *
  simp -implicitDefEqProofs (disch := first | omega | assumption) [e, e1, e2, e3, e4, e5, e6, e7, e8, e9, e10]
end Go.Am
namespace Go.Am
theorem ref42_Text_run (Γ : Env) (M : Nat) (hT : Sh.TextC (Γ 47)) (hW : RWaitsC (Γ 401)) (hS : StatsC (Γ 430)) (hC : CntC (Γ 722)) (hB : BinsC (Γ 428)) (hL : TextC16 (Γ 184)) : RTxtC (run Γ M ref42_Text_f) := by
 refine ⟨fun s ts ls u hs hn hc => ?_, fun s ts ls u hs hn hc h => ?_⟩
 ·have e := hT s hs hn
  rw [if_neg hc] at e
  generalize chkS s = c at *
  simp only [Scn.cells] at e
  simp -implicitDefEqProofs (disch := first | omega | assumption) [e, hc]
 ·have hmax : (100000000 : Nat) ≤ maxStr := by decide
  have e := hT s hs hn
  rw [if_pos hc] at e
  have g1 := wt_wg h.tg h.pr true
  have g2 := wt_wg h.tg h.pr false
  have e1 := hW ts true h.tg
  have e2 := hW ts false h.tg
  have e3 := hS wWai0 _ g1
  have e4 := hS wTrn _ g2
  have e5 := hC s ts ls u h.so h.tg h.lg h.ui
  have e6 : Γ 428 [i64 s.bins, i64 s.width, vI (wt true ts), vI (wt false ts)] = some [vRs (tabL s ts)] := hB s.bins s.width _ _ h.so.bw (wt_ns h.tg h.pr true) (wt_ns h.tg h.pr false)
  have m1 := small_cnt s ts ls u
  have m2 := small_st g1 g2
  have m3 : Small (tabL s ts) := small_tab h.so.bw _ _
  have e7 := hL _ m1
  have e8 : Γ 184 [.c (.vs 1 [[.vs 1 [[.str [116, 105, 99, 107, 115]], [.str [109, 101, 97, 110]], [.str [112, 53, 48]], [.str [112, 57, 48]], [.str [112, 57, 53]], [.str [112, 49, 48, 48]]]], [.vs 1 ((statsT wWai0 (wt true ts)).map txQ)], [.vs 1 ((statsT wTrn (wt false ts)).map txQ)]])] = some [st (tS ts)] := hL _ m2
  have e9 := hL _ m3
  have l0 := txtS_in s hn
  have l1 := text_in m1
  have l2 := text_in m2
  have l3 := text_in m3
  simp only [Scn.cells] at e e5
  unfold repT
  generalize Sh.txtS s = A0 at *
  obtain ⟨A1, hA1⟩ : ∃ A1, tC s ts ls u = A1 := ⟨_, rfl⟩
  obtain ⟨A2, hA2⟩ : ∃ A2, tS ts = A2 := ⟨_, rfl⟩
  obtain ⟨A3, hA3⟩ : ∃ A3, tB3 s ts = A3 := ⟨_, rfl⟩
  have e7 : Γ 184 [vRs (cntT s ts ls u)] = some [st A1] := by rw [← hA1]; exact e7
  have e9 : Γ 184 [vRs (tabL s ts)] = some [st A3] := by rw [← hA3]; exact e9
  have l1 : A1.length ≤ 400000 := by rw [← hA1]; exact l1
  have l2 : A2.length ≤ 400000 := by rw [← hA2]; exact l2
  have l3 : A3.length ≤ 400000 := by rw [← hA3]; exact l3
  rw [hA2] at e8
  rw [hA1, hA2, hA3]
  clear hA1 hA2 hA3 m1 m2 m3
  generalize wt true ts = w1 at *
  generalize wt false ts = w2 at *
  generalize statsT wWai0 w1 = s1 at *
  generalize statsT wTrn w2 = s2 at *
  generalize tabL s ts = TB at *
  generalize cntT s ts ls u = TC at *
  simp -implicitDefEqProofs (disch := first | omega | (simp; omega) | assumption) [e, e1, e2, e3, e4, e5, e6, e7, e8, e9]
def ProperC (g : List AV → Option (List AV)) : Prop := ∀ (s : Scn) (ts : List Trip) (ls : List (List Leg)) (u : Int), ∃ b, g [.agg s.cells, .agg (logD ts ls u)] = some [bo b] ∧ (b = true → Gd ts ∧ PrOk ts ∧ LsOk s.horizon ls)
theorem law42_proper_run (Γ : Env) (M : Nat) (hM : 1000 < M) (h24 : Great24 (Γ 60)) (h35 : Great35 (Γ 256)) : ProperC (run Γ M law42_proper_f) := by
 intro s ts ls u
 obtain ⟨b1, e1, h1⟩ := h24 ts
 cases b1 with
 | true =>
  exact ⟨false, by simp -implicitDefEqProofs (disch := omega) [e1], by simp⟩
 | false =>
  have hg := h1 rfl
  obtain ⟨b2, e2, h2⟩ := h35 ls s.horizon
  cases b2 with
  | true =>
   exact ⟨false, by simp -implicitDefEqProofs (disch := omega) [e1, e2], by simp⟩
  | false =>
   have hl := h2 rfl
   have hn := hg.n
   obtain ⟨ax, s', hR, hin⟩ : ∃ ax s', ((ax = .ex 0 ∧ s' = ⟨[], []⟩ ∧ PrOk ts) ∨ (ax = .ret ∧ s' = ⟨[(4, bo false)], []⟩)) ∧ ∀ s0, nrm [3, 5] [3] s0 = ⟨[(3, .loc 3 0 0), (5, i64 (0 : Nat))], [(3, ⟨3, [(logD ts ls u).map AV.c]⟩)]⟩ → lp (exec Γ M law42_proper_l1) M s0 = some (ax, s') := by
    refine lp_all (fun q : Nat => ⟨[(3, .loc 3 0 0), (5, i64 q)], [(3, ⟨3, [(logD ts ls u).map AV.c]⟩)]⟩) (fun q => q ≤ ts.length ∧ ∀ t ∈ ts.take q, 0 ≤ t.alight → t.board ≤ t.alight ∧ t.arrive ≤ t.board ∧ 0 ≤ t.arrive) (fun q => ts.length - q) _ 0 M (by simp) ⟨by simp, by simp⟩ (by omega) ?_
    rintro k ⟨hk, hq⟩
    by_cases hlt : k < ts.length
    ·obtain ⟨t, ht⟩ : ∃ w, ts[k]'hlt = w := ⟨_, rfl⟩
     have hrow := trip_get hlt ht
     simp only [Trip.cells] at hrow
     have hkk : (k : Int) < ts.length := by omega
     have hnext : (0 ≤ t.alight → t.board ≤ t.alight ∧ t.arrive ≤ t.board ∧ 0 ≤ t.arrive) → ∀ x ∈ ts.take (k + 1), 0 ≤ x.alight → x.board ≤ x.alight ∧ x.arrive ≤ x.board ∧ 0 ≤ x.arrive := fun h x hx => by
      rw [List.take_succ_eq_append_getElem hlt, ht] at hx
      rcases List.mem_append.1 hx with hx | hx
      ·exact hq x hx
      ·simp only [List.mem_singleton] at hx; subst hx; exact h
     by_cases c0 : 0 ≤ t.alight
     ·by_cases c1 : t.alight < t.board
      ·simp -implicitDefEqProofs (disch := first | omega | assumption) [hlt, hkk, ht, hrow, c0, c1]
      ·by_cases c2 : t.board < t.arrive
       ·simp -implicitDefEqProofs (disch := first | omega | assumption) [hlt, hkk, ht, hrow, c0, c1, c2]
       ·by_cases c3 : t.arrive < 0
        ·simp -implicitDefEqProofs (disch := first | omega | assumption) [hlt, hkk, ht, hrow, c0, c1, c2, c3]
        ·have hnx := hnext fun _ => ⟨by omega, by omega, by omega⟩
         simp -implicitDefEqProofs (disch := first | omega | assumption) [hlt, hkk, ht, hrow, c0, c1, c2, c3]
         exact ⟨k + 1, by omega, ⟨by omega, hnx⟩, by omega⟩
     ·have hnx := hnext fun h => absurd h c0
      simp -implicitDefEqProofs (disch := first | omega | assumption) [hlt, hkk, ht, hrow, c0]
      exact ⟨k + 1, by omega, ⟨by omega, hnx⟩, by omega⟩
    ·obtain rfl : k = ts.length := by omega
     rw [List.take_length] at hq
     simp -implicitDefEqProofs (disch := first | omega | assumption)
     exact ⟨hq⟩
   have hlp : lp (exec Γ M law42_proper_l1) M ⟨[(3, .loc 3 0 0), (5, i64 0)], [(3, ⟨3, [[.c (.vs 7 (ts.map Trip.cells)), .c (.vs 1 (ls.map fun l => [dL l])), i64 u]]⟩)]⟩ = some (ax, s') := hin _ (by simp)
   rcases hR with ⟨rfl, rfl, hp⟩ | ⟨rfl, rfl⟩
   ·exact ⟨true, by simp -implicitDefEqProofs (disch := omega) [e1, e2, hlp], fun _ => ⟨hg, hp, hl⟩⟩
   ·exact ⟨false, by simp -implicitDefEqProofs (disch := omega) [e1, e2, hlp], by simp⟩
theorem sok_of {s : Scn} (h : chkS s = 0) (hh : s.horizon ≤ 300) : SOk s := by
 unfold chkS at h
 split at h
 ·omega
 ·rename_i hn
  have hn : numOk s = true := by simpa using hn
  simp [numOk, inB, bnd] at hn
  exact ⟨by omega, by omega, by omega, hh, ⟨by omega, by omega⟩⟩
theorem ReportTexts_run {Γ : Env} {M : Nat} (ha : Γ 426 [] = some [bo true]) (hC : ChkC (Γ 26)) (hP : ProperC (Γ 718)) (hT : RTxtC (Γ 717)) (hR : RTxtC (Γ 716)) (s : Scn) (ts : List Trip) (ls : List (List Leg)) (u : Int) (hs : s.Ok) (hu : InI64 u) :
  run Γ M law42_ReportTexts_f [.agg s.cells, .agg (logD ts ls u)] = some [bo true] := by
 have hml := hs.nsegs
 by_cases c0 : 30 < s.segs.length
 ·have c0' : 30 < (s.segs.length : Int) := by omega
  simp -implicitDefEqProofs (disch := first | omega | assumption) [c0']
 have e := hC s hml
 have hn : s.segs.length ≤ 30 := by omega
 have c0' : ¬ 30 < (s.segs.length : Int) := by omega
 by_cases c1 : chkS s = 0
 ·rw [c1] at e
  obtain ⟨b, e2, hb⟩ := hP s ts ls u
  simp only [Scn.cells] at e e2
  by_cases c2 : 300 < s.horizon
  ·simp -implicitDefEqProofs (disch := first | omega | assumption) [c0', e, c2]
  ·cases b with
   | false => simp -implicitDefEqProofs (disch := first | omega | assumption) [c0', e, c2, e2]
   | true =>
    obtain ⟨h1, h2, h3⟩ := hb rfl
    have hso := sok_of c1 (by omega)
    have hI : RpI s ts ls u := ⟨hso, h1, h2, ⟨h3.few, hso.h0, hso.h1, h3.ok, h3.near⟩, hu⟩
    have e3 := hT.2 s ts ls u hs hn c1 hI
    have e4 := hR.2 s ts ls u hs hn c1 hI
    simp only [Scn.cells] at e3 e4
    generalize repT s ts ls u = R at *
    simp -implicitDefEqProofs (disch := first | omega | assumption) [c0', e, c2, e2, e3, e4, ha]
 ·have e3 : Γ 717 [.agg s.cells, .agg [.vs 7 [], .vs 1 [], .int .i64 0]] = some [st [], i64 (chkS s)] := hT.1 s [] [] 0 hs hn c1
  generalize chkS s = c at *
  simp only [Scn.cells] at e e3
  simp -implicitDefEqProofs (disch := first | omega | assumption) [c0', e, c1, e3, ha]
end Go.Am
