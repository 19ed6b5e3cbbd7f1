import Derived.Test.YtdnmppikakpdiaaRE
import Derived.Test.YtdnmppikakpdiaaUt
set_option maxHeartbeats 8000000
set_option maxRecDepth 20000
set_option linter.unusedVariables false
set_option linter.unusedSimpArgs false
set_option linter.unnecessarySimpa false
namespace Go.Am
structure OpR where
 inn : Bool
 car : Int
 s : Sp
def opRD (o : OpR) : List D := [.bool o.inn, .int .i64 o.car, .int .i64 o.s.f, .int .i64 o.s.t]
def rowT (l : List Sp) (o : OpR) (car : Int) : List Sp := if o.car = car then (if o.inn then makeS l [o.s] 2 else makeS (l ++ [o.s]) [] 0) else l
def rowS (ops : List OpR) (car : Int) : List Sp := ops.foldl (fun l o => rowT l o car) []
theorem rowS_nil (car : Int) : rowS [] car = [] := rfl
theorem rowS_snoc (ops : List OpR) (o : OpR) (car : Int) : rowS (ops ++ [o]) car = rowT (rowS ops car) o car := by simp [rowS]
theorem rowS_take {ops : List OpR} {q : Nat} (h : q < ops.length) (car : Int) : rowS (ops.take (q + 1)) car = rowT (rowS (ops.take q) car) ops[q] car := by
 rw [List.take_succ_eq_append_getElem h, rowS_snoc]
theorem nodup_len : ∀ {l m : List Int}, l.Nodup → (∀ x ∈ l, x ∈ m) → l.length ≤ m.length
 | [], m, _, _ => by simp
 | x :: l, m, hn, hs => by
  have hx := hs x (by simp)
  obtain ⟨h1, h2⟩ := List.nodup_cons.1 hn
  have := nodup_len (l := l) (m := m.erase x) h2 fun y hy => by
   have hne : y ≠ x := fun h => h1 (h ▸ hy)
   exact (List.mem_erase_of_ne hne).2 (hs y (by simp [hy]))
  rw [List.length_erase_of_mem hx] at this
  have : 0 < m.length := List.length_pos_of_mem hx
  simp only [List.length_cons]; omega
theorem sright_starts {l : List Sp} (h : SRight l) : (l.map (·.f)).Nodup := by
 rw [List.Nodup, List.pairwise_map]
 refine (List.pairwise_iff_forall_sublist.2 fun {a b} hs => ?_)
 have h1 := List.pairwise_iff_forall_sublist.1 h.apart hs
 have h2 := h.some a (hs.subset (by simp))
 omega
theorem not_before : ∀ {l : List Sp}, SRight l → ∀ s ∈ l, ¬ HasS l (s.f - 1)
 | [], _, s, hs => by simp at hs
 | u :: l, h, s, hs => by
  obtain ⟨h1, h2⟩ := h.head
  rintro ⟨x, hx, h3, h4⟩
  rcases List.mem_cons.1 hs with rfl | hs2
  ·rcases List.mem_cons.1 hx with rfl | hx
   ·omega
   ·have := h2 x hx; omega
  ·rcases List.mem_cons.1 hx with rfl | hx
   ·have := h2 s hs2; omega
   ·exact not_before h.tail s hs2 ⟨x, hx, h3, h4⟩
def endsR (ops : List OpR) : List Int := ops.flatMap fun o => [o.s.f, o.s.t]
theorem endsR_len (ops : List OpR) : (endsR ops).length = 2 * ops.length := by
 induction ops with
 | nil => rfl
 | cons o ops ih => simp only [endsR, List.flatMap_cons, List.length_append] at ih ⊢; rw [ih]; simp; omega
theorem rowT_ok {l : List Sp} {o : OpR} {car : Int} {E : List Int} (h : SRight l) (hE : ∀ s ∈ l, s.f ∈ E) (h1 : o.s.f ∈ E) (h2 : o.s.t ∈ E) : SRight (rowT l o car) ∧ ∀ s ∈ rowT l o car, s.f ∈ E := by
 unfold rowT
 by_cases hc : o.car = car
 ·rw [if_pos hc]
  cases hi : o.inn with
  | true =>
   simp only [if_true]
   obtain ⟨m1, m2⟩ := makeS_spec l [o.s] 2
   refine ⟨m1, fun s hs => ?_⟩
   have hb := not_before m1 s hs
   have ha : HasS (makeS l [o.s] 2) s.f := ⟨s, hs, by omega, m1.some s hs⟩
   rw [m2, kindP2] at ha hb
   obtain ⟨⟨x, hx, h3, h4⟩, h5⟩ := ha
   by_cases hl : HasS l (s.f - 1)
   ·have h6 : HasS [o.s] (s.f - 1) := Classical.byContradiction fun h => hb ⟨hl, h⟩
    obtain ⟨y, hy, h7, h8⟩ := h6
    simp only [List.mem_singleton] at hy; subst hy
    have : s.f = o.s.t := by
     have h9 : ¬ (o.s.f ≤ s.f ∧ s.f < o.s.t) := fun h => h5 ⟨o.s, by simp, h.1, h.2⟩
     omega
    rw [this]; exact h2
   ·have : s.f = x.f := by
     have h9 : ¬ (x.f ≤ s.f - 1 ∧ s.f - 1 < x.t) := fun h => hl ⟨x, hx, h.1, h.2⟩
     omega
    rw [this]; exact hE x hx
  | false =>
   simp only [Bool.false_eq_true, if_false]
   obtain ⟨m1, m2⟩ := makeS_spec (l ++ [o.s]) [] 0
   refine ⟨m1, fun s hs => ?_⟩
   have hb := not_before m1 s hs
   have ha : HasS (makeS (l ++ [o.s]) [] 0) s.f := ⟨s, hs, by omega, m1.some s hs⟩
   rw [m2, kindP0] at ha hb
   obtain ⟨x, hx, h3, h4⟩ := ha
   have : s.f = x.f := by
    have h9 : ¬ (x.f ≤ s.f - 1 ∧ s.f - 1 < x.t) := fun h => hb ⟨x, hx, h.1, h.2⟩
    omega
   rw [this]
   rcases List.mem_append.1 hx with hx | hx
   ·exact hE x hx
   ·simp only [List.mem_singleton] at hx; subst hx; exact h1
 ·rw [if_neg hc]; exact ⟨h, hE⟩
theorem rowS_ok : ∀ (ops : List OpR) (car : Int), SRight (rowS ops car) ∧ ∀ s ∈ rowS ops car, s.f ∈ endsR ops := by
 intro ops car
 have key : ∀ (r : List OpR) (l : List Sp) (E : List Int), SRight l → (∀ s ∈ l, s.f ∈ E) → (∀ o ∈ r, o.s.f ∈ E ∧ o.s.t ∈ E) → SRight (r.foldl (fun l o => rowT l o car) l) ∧ ∀ s ∈ r.foldl (fun l o => rowT l o car) l, s.f ∈ E := by
  intro r
  induction r with
  | nil => intro l E h1 h2 _; exact ⟨h1, h2⟩
  | cons o r ih =>
   intro l E h1 h2 h3
   obtain ⟨a, b⟩ := h3 o (by simp)
   obtain ⟨c, d⟩ := rowT_ok (car := car) h1 h2 a b
   exact ih _ E c d fun o' ho' => h3 o' (by simp [ho'])
 exact key ops [] (endsR ops) .nil (by simp) fun o ho => ⟨List.mem_flatMap.2 ⟨o, ho, by simp⟩, List.mem_flatMap.2 ⟨o, ho, by simp⟩⟩
theorem rowS_len (ops : List OpR) (car : Int) : (rowS ops car).length ≤ 2 * ops.length := by
 obtain ⟨h1, h2⟩ := rowS_ok ops car
 have := nodup_len (sright_starts h1) (m := endsR ops) fun x hx => by
  obtain ⟨s, hs, rfl⟩ := List.mem_map.1 hx
  exact h2 s hs
 rw [endsR_len, List.length_map] at this; exact this
def RowC (g : List AV → Option (List AV)) : Prop := ∀ (ops : List OpR) (car : Int), ops.length ≤ 20 → g [.c (.vs 4 (ops.map opRD)), i64 car] = some [spL (rowS ops car)]
theorem law68_row_run (Γ : Env) (M : Nat) (hM : 100 < M) (hK : MakeC (Γ 263)) : RowC (run Γ M law68_row_f) := by
 intro ops car hlen
 have hlq : (ops.map opRD).length = ops.length := List.length_map _
 obtain ⟨ax, s', ⟨v, rfl, rfl, hv⟩, hin⟩ : ∃ ax s', (∃ v, ax = .ex 0 ∧ s' = ⟨[(5, v)], []⟩ ∧ ((v = .nil 2 ∧ rowS ops car = []) ∨ v = spL (rowS ops car))) ∧ ∀ s0, nrm [0, 1, 5, 6] [] s0 = ⟨[(0, .c (.vs 4 (ops.map opRD))), (1, i64 car), (5, .nil 2), (6, i64 (0 : Nat))], []⟩ → lp (exec Γ M law68_row_l1) M s0 = some (ax, s') := by
  refine lp_all (fun q : Nat × AV => ⟨[(0, .c (.vs 4 (ops.map opRD))), (1, i64 car), (5, q.2), (6, i64 q.1)], []⟩) (fun q => q.1 ≤ ops.length ∧ ((q.2 = .nil 2 ∧ rowS (ops.take q.1) car = []) ∨ q.2 = spL (rowS (ops.take q.1) car))) (fun q => ops.length - q.1) _ (0, .nil 2) M (by simp) ⟨by omega, .inl ⟨rfl, rfl⟩⟩ (by simp only; omega) ?_
  rintro ⟨q, v⟩ ⟨hq, hv⟩
  dsimp only at hq hv ⊢
  have hl := rowS_len (ops.take q) car
  rw [List.length_take] at hl
  by_cases hlt : q < ops.length
  ·have hst := rowS_take hlt car
   obtain ⟨o, ho⟩ : ∃ o, ops[q] = o := ⟨_, rfl⟩
   rw [ho] at hst
   have hrow : (ops.map opRD)[q]? = some (opRD o) := by simp [hlt, ho]
   have hrow2 : ∀ h, (ops.map opRD)[q]'h = opRD o := fun h => by rw [List.getElem?_eq_getElem h] at hrow; simpa using hrow
   generalize rowS (ops.take q) car = L at *
   generalize hL' : rowS (ops.take (q + 1)) car = L' at *
   generalize hOD : ops.map opRD = OD at *
   obtain ⟨inn, oc, ⟨f, t⟩⟩ := o
   simp only [opRD] at hrow hrow2
   unfold rowT at hst
   simp only at hst
   by_cases hc : oc = car
   ·rw [if_pos hc] at hst
    cases inn with
    | true =>
     simp only [if_true] at hst
     have e1 := hK L [⟨f, t⟩] 2 (by omega) (by simp)
     rw [← hst] at e1
     simp only [spL, List.map_cons, List.map_nil, Sp.cells] at e1 hv
     rcases hv with ⟨rfl, rfl⟩ | rfl
     ·simp only [List.map_nil] at e1
      simp -implicitDefEqProofs (disch := first | omega | (simp <;> fail) | assumption) [hlt, hlq, hrow, hrow2, hc, e1]
      exact ⟨q + 1, _, ⟨rfl, by omega⟩, ⟨by omega, .inr (by rw [hL'])⟩, by omega⟩
     ·generalize L.map Sp.cells = A at *
      simp -implicitDefEqProofs (disch := first | omega | (simp <;> fail) | assumption) [hlt, hlq, hrow, hrow2, hc, e1]
      exact ⟨q + 1, _, ⟨rfl, by omega⟩, ⟨by omega, .inr (by rw [hL'])⟩, by omega⟩
    | false =>
     simp only [Bool.false_eq_true, if_false] at hst
     have e1 := hK (L ++ [⟨f, t⟩]) [] 0 (by simp; omega) (by simp)
     rw [← hst] at e1
     simp only [spL, List.map_append, List.map_cons, List.map_nil, Sp.cells] at e1 hv
     rcases hv with ⟨rfl, rfl⟩ | rfl
     ·simp only [List.map_nil, List.nil_append] at e1
      simp -implicitDefEqProofs (disch := first | omega | (simp <;> fail) | assumption) [hlt, hlq, hrow, hrow2, hc, e1]
      exact ⟨q + 1, _, ⟨rfl, by omega⟩, ⟨by omega, .inr (by rw [hL'])⟩, by omega⟩
     ·have hcl : (L.map Sp.cells).length = L.length := List.length_map _
      have hall := allRows_comp Sp.cells L
      have hoR : (L.map Sp.cells).map toAV = oR L := by rw [List.map_map]; rfl
      have hrl := oR_len L
      have hlc : lcRows 35 (oR L) = true := lcRows_comp 35 Sp.cells L
      rw [show List.map (toAV ∘ Sp.cells) L = oR L from rfl] at hall
      have hap : allRows (oR L ++ [[i64 f, i64 t]]) = some (L.map Sp.cells ++ [[.int .i64 f, .int .i64 t]]) := by
       have := allRows_comp Sp.cells (L ++ [⟨f, t⟩])
       simpa [oR, toAV, Sp.cells] using this
      have htk : List.take (L.length + 1) (L.map Sp.cells ++ [[.int .i64 f, .int .i64 t]]) = L.map Sp.cells ++ [[.int .i64 f, .int .i64 t]] := List.take_of_length_le (by simp)
      generalize L.map Sp.cells = A at *
      generalize oR L = G at *
      simp -implicitDefEqProofs (disch := first | omega | (simp <;> fail) | assumption) [hlt, hlq, hrow, hrow2, hc, e1, hcl, hall, hoR, hrl, hap, htk, hlc]
      exact ⟨q + 1, _, ⟨rfl, by omega⟩, ⟨by omega, .inr (by rw [hL'])⟩, by omega⟩
   ·rw [if_neg hc] at hst
    subst hst
    simp -implicitDefEqProofs (disch := first | omega | (simp <;> fail) | assumption) [hlt, hlq, hrow, hrow2, hc]
    exact ⟨q + 1, _, ⟨rfl, by omega⟩, ⟨by omega, by rw [hL']; exact hv⟩, by omega⟩
  ·obtain rfl : q = ops.length := by omega
   rw [List.take_length] at hv
   simp -implicitDefEqProofs (disch := first | omega | (simp <;> fail) | assumption) [hlq]
   exact hv
 have hin2 : ∀ s0, nrm [0, 1, 5, 6] [] s0 = ⟨[(0, .c (.vs 4 (ops.map opRD))), (1, i64 car), (5, .nil 2), (6, i64 0)], []⟩ → lp (exec Γ M law68_row_l1) M s0 = some (.ex 0, ⟨[(5, v)], []⟩) := hin
 generalize ops.map opRD = OD at *
 rcases hv with ⟨rfl, hv⟩ | rfl
 ·rw [hv]
  simp -implicitDefEqProofs (disch := first | omega | (simp <;> fail) | assumption) [hin2]
 ·simp -implicitDefEqProofs (disch := first | omega | (simp <;> fail) | assumption) [hin2]
end Go.Am
namespace Go.Am
theorem gn_nil : GN [] := ⟨rfl, by simp⟩
theorem gn_cons {i : Nat} {v : AV} {gs : List (Nat × AV)} (h : GN gs) (hi : GB ≤ i) (hv : ∀ k, AV.names k v = true → k < 1000) : GN ((i, v) :: gs) :=
 ⟨by have := h.g; unfold Gh at this ⊢; simp only [ghs]; rw [if_pos hi, this], fun p hp => by
  rcases List.mem_cons.1 hp with rfl | hp
  ·exact hv
  ·exact h.n p hp⟩
theorem nk_c (d : D) : ∀ k, AV.names k (.c d) = true → k < 1000 := fun k h => by simp [AV.names, AV.names1] at h
theorem nk_agg (d : List D) : ∀ k, AV.names k (.agg d) = true → k < 1000 := fun k h => by simp [AV.names, AV.names1] at h
theorem nk_vp (d : List D) (o : Nat) : ∀ k, AV.names k (.vp d o) = true → k < 1000 := fun k h => by simp [AV.names, AV.names1] at h
theorem nk_loc (j r f : Nat) (hj : j < 1000) : ∀ k, AV.names k (.loc j r f) = true → k < 1000 := fun k h => by simp only [AV.names, AV.names1, beq_iff_eq] at h; omega
structure AtR where
 car : Int
 cars : Int
 tick : Int
 of : Sp
def atD (a : AtR) : List D := [.int .i64 a.car, .int .i64 a.cars, .int .i64 a.tick, .int .i64 a.of.f, .int .i64 a.of.t]
def atO (a : AtR) : Obj := ⟨5, [[i64 a.car, i64 a.cars, i64 a.tick, i64 a.of.f, i64 a.of.t]]⟩
def Hd8 (ops : List OpR) (a : AtR) (i : Nat) (ob : List (Nat × Obj)) : Prop := ∃ m qs c, RoI m qs c ob ∧ Gr qs ∧ c ≤ 2 * i ∧ get ob 3 = some (atO a) ∧ ∀ x, outR qs x = rowS (ops.take i) x
theorem hd8_len {ops : List OpR} {i : Nat} {qs : List RQ} (hq : (qs.map (·.car)).Nodup) (h : ∀ x, outR qs x = rowS (ops.take i) x) (hi : i ≤ 20) : ∀ e ∈ qs, e.l.length ≤ 40 := by
 intro e he
 obtain ⟨j, hj⟩ := List.getElem?_of_mem he
 have h1 : outR qs e.car = e.l := by
  rw [outR_find 0]
  cases hf : findR qs e.car 0 with
  | none => exact absurd rfl (findR_none hf e he)
  | some p =>
   obtain ⟨k, e2⟩ := p
   obtain ⟨_, h2, h3⟩ := findR_spec hf
   rw [Nat.sub_zero] at h2
   have := nodup_idx (f := RQ.car) hq h2 hj h3
   subst this
   rw [hj] at h2; simp only [Option.some.injEq] at h2; subst h2; rfl
 have h2 := rowS_len (ops.take i) e.car
 rw [← h, h1, List.length_take] at h2
 omega
theorem hd8_zero (ops : List OpR) (a : AtR) : Hd8 ops a 0 [(18, ⟨1, [[.ot .nm]]⟩), (3, atO a)] := by
 refine ⟨none, [], 0, ⟨⟨?_, ?_⟩, rfl, by omega, rfl, ⟨0, rfl⟩, by simp, by simp, by simp, by simp⟩, ⟨by simp, by simp, by simp⟩, by omega, rfl, fun x => by simp [outR, rowS]⟩
 ·intro p hp
  simp only [List.mem_cons, List.mem_nil_iff, or_false] at hp
  rcases hp with rfl | rfl
  ·exact .inr (.inl rfl)
  ·exact .inl rfl
 ·intro p hp r hr x hx k hk
  simp only [List.mem_cons, List.mem_nil_iff, or_false] at hp
  rcases hp with rfl | rfl
  ·simp only [List.mem_singleton] at hr; subst hr
   simp only [List.mem_singleton] at hx; subst hx
   simp [AV.names, AV.names1] at hk
  ·simp only [atO, List.mem_singleton] at hr; subst hr
   simp only [List.mem_cons, List.mem_nil_iff, or_false] at hx
   rcases hx with rfl | rfl | rfl | rfl | rfl <;> simp [AV.names, AV.names1] at hk
theorem rowT_same {L L' : List Sp} {o : OpR} {car : Int} (h : SRight L') (hn : ∀ n, HasS L' n ↔ HasS (rowT L o car) n) (hr : SRight (rowT L o car)) : L' = rowT L o car := sright_uniq h hr hn
theorem play_round (Γ : Env) (M : Nat) (hI : InC (Γ.pt 462)) (hOu : OutC (Γ.pt 463)) (hSp : SpansC (Γ.pt 464)) (hRw : RowC (Γ 465)) (hE : EqSpC (Γ 264)) (ops : List OpR) (a : AtR) (hok : ∀ o ∈ ops, o.s.Ok) (hlen : ops.length ≤ 20) (q : Nat) (hq : q < ops.length) (ob : List (Nat × Obj)) (hH : Hd8 ops a q ob) :
  ∃ ob', (exec Γ M law68_RotaPlays_l3b ⟨[(0, .c (.vs 4 (ops.map opRD))), (3, .loc 3 0 0), (5, .loc 18 0 0), (6, i64 q)], ob⟩).map (fun p => (p.1, keep [0, 3, 5, 6] p.2.fr ++ ghs p.2.fr, p.2.ob)) = some (.norm, [(0, .c (.vs 4 (ops.map opRD))), (3, .loc 3 0 0), (5, .loc 18 0 0), (6, i64 (q + 1 : Nat))], ob') ∧ Hd8 ops a (q + 1) ob' := by
 obtain ⟨m, qs, c, hR, hG, hc, h3, hro⟩ := hH
 have hlq : (ops.map opRD).length = ops.length := List.length_map _
 have hst := rowS_take hq
 obtain ⟨o, ho⟩ : ∃ o, ops[q] = o := ⟨_, rfl⟩
 have hoo := hok o (ho ▸ List.getElem_mem hq)
 rw [ho] at hst
 have hrow : (ops.map opRD)[q]? = some (opRD o) := by simp [hq, ho]
 have hrow2 : ∀ h, (ops.map opRD)[q]'h = opRD o := fun h => by rw [List.getElem?_eq_getElem h] at hrow; simpa using hrow
 have hl40 := hd8_len hR.qk hro (by omega)
 have kp : ∀ ob c, KN c ob → c ≤ 1000 → keepF 0 1000 [3, 18] ob = ob := fun ob c h hc => h.keep0 (by omega) (by simp) (by simp)
 have k1 := kp ob c hR.kn (by omega)
 have hrw := hRw (ops.take (q + 1)) o.car (by rw [List.length_take]; omega)
 rw [List.map_take] at hrw
 have hq1 : q + 1 ≤ (ops.map opRD).length := by rw [hlq]; omega
 have hq2 : q + 1 ≤ ops.length := by omega
 cases hin : o.inn with
 | true =>
  obtain ⟨m', qs', c', ob', e1, hR', hc', hG', g3, hoth, hs1, hs2⟩ := hI m qs c o.car o.s ((100040, .agg o.s.cells) :: (100039, .vp [.bool true, .int .i64 o.car, .int .i64 o.s.f, .int .i64 o.s.t] 2) :: (100038, .vp [.bool true, .int .i64 o.car, .int .i64 o.s.f, .int .i64 o.s.t] 0) :: (100037, i64 q) :: (100036, .c (.vs 4 (ops.map opRD))) :: (100035, i64 o.car) :: (100034, .vp [.bool true, .int .i64 o.car, .int .i64 o.s.f, .int .i64 o.s.t] 1) :: (100033, .vp [.bool true, .int .i64 o.car, .int .i64 o.s.f, .int .i64 o.s.t] 0) :: (100032, i64 q) :: (100031, .c (.vs 4 (ops.map opRD))) :: (100030, .loc 18 0 0) :: (100000, .c (.vs 4 (ops.map opRD))) :: (100003, .loc 3 0 0) :: (100005, .loc 18 0 0) :: (100006, i64 q) :: []) ob (gn_cons (gn_cons (gn_cons (gn_cons (gn_cons (gn_cons (gn_cons (gn_cons (gn_cons (gn_cons (gn_cons (gn_cons (gn_cons (gn_cons (gn_cons gn_nil (by decide) (nk_c _)) (by decide) (nk_loc _ _ _ (by omega))) (by decide) (nk_loc _ _ _ (by omega))) (by decide) (nk_c _)) (by decide) (nk_loc _ _ _ (by omega))) (by decide) (nk_c _)) (by decide) (nk_c _)) (by decide) (nk_vp _ _)) (by decide) (nk_vp _ _)) (by decide) (nk_c _)) (by decide) (nk_c _)) (by decide) (nk_c _)) (by decide) (nk_vp _ _)) (by decide) (nk_vp _ _)) (by decide) (nk_agg _)) hR (by omega) hoo hG (fun e he => by have := hl40 e he; omega)
  have hnew : outR qs' o.car = rowS (ops.take (q + 1)) o.car := by
   rw [hst]
   refine sright_uniq hs1 ?_ fun n => ?_
   ·rw [← hst]; exact (rowS_ok _ _).1
   ·rw [hs2, hro]
    unfold rowT
    rw [if_pos rfl, hin]
    rw [if_pos rfl, (makeS_spec _ _ _).2, kindP2, hasS_cons, hasS_nil]; simp
  have hall : ∀ x, outR qs' x = rowS (ops.take (q + 1)) x := fun x => by
   by_cases hx : x = o.car
   ·rw [hx]; exact hnew
   ·rw [hoth x hx, hro, hst]
    unfold rowT
    rw [if_neg (Ne.symm hx)]
  have hl2 := hd8_len hR'.qk hall (by omega)
  have k2 := kp ob' c' hR'.kn (by omega)
  have eSp := fun gs g n => hSp m' qs' c' o.car gs ob' g n hR' (fun e he => by have := hl2 e he; omega)
  rw [hnew] at eSp
  have eE := hE (rowS (ops.take (q + 1)) o.car) (by have := rowS_len (ops.take (q + 1)) o.car; rw [List.length_take] at this; omega)
  refine ⟨ob', ?_, m', qs', c', hR', hG', by omega, by rw [g3]; exact h3, hall⟩
  clear hall hnew hoth hs2 hs1 hl2 hst hl40 hSp hE hI hOu hRw kp hR hG hR' hG' hro
  generalize rowS (ops.take (q + 1)) o.car = L at *
  generalize ops.map opRD = OD at *
  obtain ⟨inn, oc, ⟨f, t⟩⟩ := o
  simp only [opRD] at hrow hrow2 hin
  subst hin
  simp only [Sp.cells, spL] at e1 eSp eE hrw
  simp -implicitDefEqProofs (disch := first | omega | (simp <;> fail) | assumption) [hq, hlq, hq1, hq2, hrow, hrow2, k1, k2, e1, eSp, hrw, eE]
 | false =>
  obtain ⟨m', qs', c', ob', e1, hR', hc', hG', g3, hoth, hs1, hs2⟩ := hOu m qs c o.car o.s ((100052, .agg o.s.cells) :: (100051, .vp [.bool false, .int .i64 o.car, .int .i64 o.s.f, .int .i64 o.s.t] 2) :: (100050, .vp [.bool false, .int .i64 o.car, .int .i64 o.s.f, .int .i64 o.s.t] 0) :: (100049, i64 q) :: (100048, .c (.vs 4 (ops.map opRD))) :: (100047, i64 o.car) :: (100046, .vp [.bool false, .int .i64 o.car, .int .i64 o.s.f, .int .i64 o.s.t] 1) :: (100045, .vp [.bool false, .int .i64 o.car, .int .i64 o.s.f, .int .i64 o.s.t] 0) :: (100044, i64 q) :: (100043, .c (.vs 4 (ops.map opRD))) :: (100042, .loc 18 0 0) :: (100000, .c (.vs 4 (ops.map opRD))) :: (100003, .loc 3 0 0) :: (100005, .loc 18 0 0) :: (100006, i64 q) :: []) ob (gn_cons (gn_cons (gn_cons (gn_cons (gn_cons (gn_cons (gn_cons (gn_cons (gn_cons (gn_cons (gn_cons (gn_cons (gn_cons (gn_cons (gn_cons gn_nil (by decide) (nk_c _)) (by decide) (nk_loc _ _ _ (by omega))) (by decide) (nk_loc _ _ _ (by omega))) (by decide) (nk_c _)) (by decide) (nk_loc _ _ _ (by omega))) (by decide) (nk_c _)) (by decide) (nk_c _)) (by decide) (nk_vp _ _)) (by decide) (nk_vp _ _)) (by decide) (nk_c _)) (by decide) (nk_c _)) (by decide) (nk_c _)) (by decide) (nk_vp _ _)) (by decide) (nk_vp _ _)) (by decide) (nk_agg _)) hR (by omega) hoo hG (fun e he => by have := hl40 e he; omega)
  have hnew : outR qs' o.car = rowS (ops.take (q + 1)) o.car := by
   rw [hst]
   refine sright_uniq hs1 ?_ fun n => ?_
   ·rw [← hst]; exact (rowS_ok _ _).1
   ·rw [hs2, hro]
    unfold rowT
    rw [if_pos rfl, hin]
    rw [if_neg (by simp), (makeS_spec _ _ _).2, kindP0, hasS_app, hasS_cons, hasS_nil]; simp
  have hall : ∀ x, outR qs' x = rowS (ops.take (q + 1)) x := fun x => by
   by_cases hx : x = o.car
   ·rw [hx]; exact hnew
   ·rw [hoth x hx, hro, hst]
    unfold rowT
    rw [if_neg (Ne.symm hx)]
  have hl2 := hd8_len hR'.qk hall (by omega)
  have k2 := kp ob' c' hR'.kn (by omega)
  have eSp := fun gs g n => hSp m' qs' c' o.car gs ob' g n hR' (fun e he => by have := hl2 e he; omega)
  rw [hnew] at eSp
  have eE := hE (rowS (ops.take (q + 1)) o.car) (by have := rowS_len (ops.take (q + 1)) o.car; rw [List.length_take] at this; omega)
  refine ⟨ob', ?_, m', qs', c', hR', hG', by omega, by rw [g3]; exact h3, hall⟩
  clear hall hnew hoth hs2 hs1 hl2 hst hl40 hSp hE hI hOu hRw kp hR hG hR' hG' hro
  generalize rowS (ops.take (q + 1)) o.car = L at *
  generalize ops.map opRD = OD at *
  obtain ⟨inn, oc, ⟨f, t⟩⟩ := o
  simp only [opRD] at hrow hrow2 hin
  subst hin
  simp only [Sp.cells, spL] at e1 eSp eE hrw
  simp -implicitDefEqProofs (disch := first | omega | (simp <;> fail) | assumption) [hq, hlq, hq1, hq2, hrow, hrow2, k1, k2, e1, eSp, hrw, eE]
end Go.Am
namespace Go.Am
def backQ (l : List Sp) (t : Int) : Nat → Int
 | 0 => t
 | q + 1 => match l[q]? with
  | some s => if s.f ≤ t ∧ t < s.t then s.t else backQ l t q
  | none => backQ l t q
theorem backQ_eq {l : List Sp} (h : SRight l) (t : Int) : backQ l t l.length = backS l t := by
 have key : ∀ q, q ≤ l.length → ((∀ j (hj : j < l.length), j < q → ¬ (l[j].f ≤ t ∧ t < l[j].t)) ∧ backQ l t q = t) ∨ (∃ j, ∃ hj : j < l.length, j < q ∧ (l[j].f ≤ t ∧ t < l[j].t) ∧ backQ l t q = l[j].t) := by
  intro q
  induction q with
  | zero => intro _; exact .inl ⟨fun j hj h => absurd h (by omega), rfl⟩
  | succ q ih =>
   intro hq
   have hg : l[q]? = some l[q] := List.getElem?_eq_getElem (by omega)
   by_cases hc : l[q].f ≤ t ∧ t < l[q].t
   ·exact .inr ⟨q, by omega, by omega, hc, by simp only [backQ, hg]; rw [if_pos hc]⟩
   ·rcases ih (by omega) with ⟨h1, h2⟩ | ⟨j, hj, h1, h2, h3⟩
    ·refine .inl ⟨fun j hj hjq => ?_, by simp only [backQ, hg]; rw [if_neg hc]; exact h2⟩
     rcases Nat.lt_or_ge j q with h4 | h4
     ·exact h1 j hj h4
     ·obtain rfl : j = q := by omega
      exact hc
    ·exact .inr ⟨j, hj, by omega, h2, by simp only [backQ, hg]; rw [if_neg hc]; exact h3⟩
 rcases key l.length (Nat.le_refl _) with ⟨h1, h2⟩ | ⟨j, hj, _, h2, h3⟩
 ·rw [h2]; exact (backS_none fun j hj => h1 j hj hj).symm
 ·rw [h3]
  refine (backS_at hj (fun i hi hc => ?_) h2).symm
  have := List.pairwise_iff_getElem.1 h.apart i j (by omega) hj hi
  omega
theorem back2_loop (Γ : Env) (M : Nat) (hM : 200 < M) (L : List Sp) (hl : L.length ≤ 100) (OD : List (List D)) (a : AtR) (ob : List (Nat × Obj)) (k0 : keepF 0 1000 [3, 18] ob = ob) (h3 : get ob 3 = some (atO a)) :
  ∃ ax s', (ax = .ex 2 ∧ s' = ⟨[(0, .c (.vs 4 OD)), (3, .loc 3 0 0), (5, .loc 18 0 0), (7, spL L), (8, i64 (backQ L a.tick L.length))], ob⟩) ∧ ∀ s0, nrmP [0, 3, 5, 7, 8, 9] 0 1000 [3, 18] s0 = ⟨[(0, .c (.vs 4 OD)), (3, .loc 3 0 0), (5, .loc 18 0 0), (7, spL L), (8, i64 a.tick), (9, i64 (0 : Nat))], ob⟩ → lp (exec Γ M law68_RotaPlays_l2) M s0 = some (ax, s') := by
 refine lp_allP (fun q : Nat => ⟨[(0, .c (.vs 4 OD)), (3, .loc 3 0 0), (5, .loc 18 0 0), (7, spL L), (8, i64 (backQ L a.tick q)), (9, i64 q)], ob⟩) (fun q => q ≤ L.length) (fun q => L.length - q) _ 0 M (by omega) (by omega) ?_
 intro q hq
 have hcl : (L.map Sp.cells).length = L.length := List.length_map _
 obtain ⟨car, cars, tick, ⟨f, t⟩⟩ := a
 simp only [atO] at h3 ⊢
 by_cases hlt : q < L.length
 ·obtain ⟨s, hs⟩ : ∃ s, L[q]'hlt = s := ⟨_, rfl⟩
  have hg : L[q]? = some s := by rw [List.getElem?_eq_getElem hlt, hs]
  have hrow : (L.map Sp.cells)[q]? = some [.int .i64 s.f, .int .i64 s.t] := by rw [List.getElem?_map, hg]; rfl
  have hrow2 := (List.getElem?_eq_some_iff.1 hrow).2
  have hbq : backQ L tick (q + 1) = if s.f ≤ tick ∧ tick < s.t then s.t else backQ L tick q := by simp only [backQ, hg]
  generalize hB' : backQ L tick (q + 1) = B' at *
  generalize backQ L tick q = B at *
  simp only [spL]
  by_cases c1 : s.f ≤ tick
  ·by_cases c2 : tick < s.t
   ·rw [if_pos ⟨c1, c2⟩] at hbq
    subst hbq
    simp -implicitDefEqProofs (disch := first | omega | (simp <;> fail) | assumption) [hlt, hcl, hrow, hrow2, h3, k0, c1, c2]
    exact ⟨q + 1, ⟨by rw [hB'], by omega⟩, by omega, by omega⟩
   ·rw [if_neg (fun h => c2 h.2)] at hbq
    subst hbq
    simp -implicitDefEqProofs (disch := first | omega | (simp <;> fail) | assumption) [hlt, hcl, hrow, hrow2, h3, k0, c1, c2]
    exact ⟨q + 1, ⟨by rw [hB'], by omega⟩, by omega, by omega⟩
  ·rw [if_neg (fun h => c1 h.1)] at hbq
   subst hbq
   simp -implicitDefEqProofs (disch := first | omega | (simp <;> fail) | assumption) [hlt, hcl, hrow, hrow2, h3, k0, c1]
   exact ⟨q + 1, ⟨by rw [hB'], by omega⟩, by omega, by omega⟩
 ·obtain rfl : q = L.length := by omega
  generalize backQ L tick L.length = B at *
  simp only [spL]
  simp -implicitDefEqProofs (disch := first | omega | (simp <;> fail) | assumption) [hcl, k0]
theorem manyR_eq {qs : List RQ} {ops : List OpR} (h : ∀ x, outR qs x = rowS ops x) (t : Int) (q : Nat) : manyS qs t (q + 1) = if HasS (rowS ops q) t then manyS qs t q else manyS qs t q + 1 := by
 simp only [manyS, h]
 by_cases hc : HasS (rowS ops q) t
 ·simp [hc]
 ·simp [hc]
theorem noneR_eq {qs : List RQ} {ops : List OpR} (h : ∀ x, outR qs x = rowS ops x) (of : Sp) (q : Nat) : noneS qs of (q + 1) = makeS (noneS qs of q) (rowS ops q) 1 := by simp only [noneS, h]
theorem none_loop (Γ : Env) (M : Nat) (hM : 200 < M) (hK : MakeC (Γ 263)) (hH9 : HasC (Γ 268)) (hRw : RowC (Γ 465)) (L : List Sp) (B : Int) (ops : List OpR) (hlen : ops.length ≤ 20) (a : AtR) (qs : List RQ) (hro : ∀ x, outR qs x = rowS ops x) (hnl : ∀ q, q ≤ 16 → (noneS qs a.of q).length ≤ 1000) (ob : List (Nat × Obj)) (k0 : keepF 0 1000 [3, 18] ob = ob) (h3 : get ob 3 = some (atO a)) :
  ∃ ax s', (ax = .ex 4 ∧ s' = ⟨[(3, .loc 3 0 0), (5, .loc 18 0 0), (7, spL L), (8, i64 B), (10, i64 (manyS qs a.tick (min a.cars 16).toNat)), (11, spL (noneS qs a.of (min a.cars 16).toNat))], ob⟩) ∧
   ∀ s0, nrmP [0, 3, 5, 7, 8, 10, 11, 12] 0 1000 [3, 18] s0 = ⟨[(0, .c (.vs 4 (ops.map opRD))), (3, .loc 3 0 0), (5, .loc 18 0 0), (7, spL L), (8, i64 B), (10, i64 (0 : Nat)), (11, spL (noneS qs a.of 0)), (12, i64 (0 : Nat))], ob⟩ → lp (exec Γ M law68_RotaPlays_l1) M s0 = some (ax, s') := by
 obtain ⟨N, hN⟩ : ∃ N, (min a.cars 16).toNat = N := ⟨_, rfl⟩
 rw [hN]
 refine lp_allP (fun q : Nat => ⟨[(0, .c (.vs 4 (ops.map opRD))), (3, .loc 3 0 0), (5, .loc 18 0 0), (7, spL L), (8, i64 B), (10, i64 (manyS qs a.tick q)), (11, spL (noneS qs a.of q)), (12, i64 q)], ob⟩) (fun q => q ≤ N) (fun q => N - q) _ 0 M (by omega) (by omega) ?_
 intro q hq
 have e1 := hRw ops q hlen
 have hl1 := rowS_len ops q
 have e2 := hH9 (rowS ops q) a.tick (by omega)
 have e3 := hK (noneS qs a.of q) (rowS ops q) 1 (hnl q (by omega)) (by omega)
 have m1 := manyR_eq hro a.tick q
 have hle := manyS_le qs a.tick q
 rw [← noneR_eq hro] at e3
 by_cases hlt : q < N
 ·have c1 : (q : Int) < a.cars := by omega
  have c2 : q < 16 := by omega
  have c3 : (q : Int) < 16 := by omega
  generalize hm' : manyS qs a.tick (q + 1) = m' at *
  generalize manyS qs a.tick q = mq at *
  generalize hn' : noneS qs a.of (q + 1) = n' at *
  generalize noneS qs a.of q = nq at *
  generalize rowS ops q = R at *
  generalize ops.map opRD = OD at *
  obtain ⟨car, cars, tick, ⟨f, t⟩⟩ := a
  simp only [atO, spL] at h3 e1 e2 e3 c1 ⊢
  generalize R.map Sp.cells = R1 at *
  generalize nq.map Sp.cells = N1 at *
  by_cases hc : HasS R tick
  ·rw [if_pos hc] at m1
   rw [decide_eq_true hc] at e2
   subst m1
   simp -implicitDefEqProofs (disch := first | omega | (simp <;> fail) | assumption) [h3, k0, c1, c2, c3, e1, e2, e3]
   exact ⟨q + 1, ⟨by rw [hm'], by rw [hn'], by omega⟩, by omega, by omega⟩
  ·rw [if_neg hc] at m1
   rw [decide_eq_false hc] at e2
   subst m1
   simp -implicitDefEqProofs (disch := first | omega | (simp <;> fail) | assumption) [h3, k0, c1, c2, c3, e1, e2, e3]
   exact ⟨q + 1, ⟨by rw [hm']; simp, by rw [hn'], by omega⟩, by omega, by omega⟩
 ·obtain rfl : q = N := by omega
  generalize manyS qs a.tick q = mq at *
  generalize noneS qs a.of q = nq at *
  generalize ops.map opRD = OD at *
  obtain ⟨car, cars, tick, ⟨f, t⟩⟩ := a
  simp only [atO, spL] at h3 hN ⊢
  by_cases c1 : (q : Int) < cars
  ·have c2 : ¬ q < 16 := by omega
   have c3 : ¬ (q : Int) < 16 := by omega
   simp -implicitDefEqProofs (disch := first | omega | (simp <;> fail) | assumption) [h3, k0, c1, c2, c3]
  ·simp -implicitDefEqProofs (disch := first | omega | (simp <;> fail) | assumption) [h3, k0, c1]
end Go.Am
namespace Go.Am
theorem and_len (a b : List Sp) : (makeS a b 1).length ≤ a.length + b.length := by
 obtain ⟨m1, m2⟩ := makeS_spec a b 1
 have := nodup_len (sright_starts m1) (m := a.map (·.f) ++ b.map (·.f)) fun x hx => by
  obtain ⟨s, hs, rfl⟩ := List.mem_map.1 hx
  have hb := not_before m1 s hs
  have ha : HasS (makeS a b 1) s.f := ⟨s, hs, by omega, m1.some s hs⟩
  rw [m2, kindP1] at ha hb
  obtain ⟨⟨x, hx, h3, h4⟩, ⟨y, hy, h5, h6⟩⟩ := ha
  by_cases hl : HasS a (s.f - 1)
  ·have : s.f = y.f := by
    have h9 : ¬ (y.f ≤ s.f - 1 ∧ s.f - 1 < y.t) := fun h => hb ⟨hl, y, hy, h.1, h.2⟩
    omega
   rw [this]; exact List.mem_append_right _ (List.mem_map.2 ⟨y, hy, rfl⟩)
  ·have : s.f = x.f := by
    have h9 : ¬ (x.f ≤ s.f - 1 ∧ s.f - 1 < x.t) := fun h => hl ⟨x, hx, h.1, h.2⟩
    omega
   rw [this]; exact List.mem_append_left _ (List.mem_map.2 ⟨x, hx, rfl⟩)
 simpa using this
theorem one_len (s : Sp) : (makeS [s] [] 0).length ≤ 1 := by
 obtain ⟨m1, m2⟩ := makeS_spec [s] [] 0
 have := nodup_len (sright_starts m1) (m := [s.f]) fun x hx => by
  obtain ⟨u, hu, rfl⟩ := List.mem_map.1 hx
  have hb := not_before m1 u hu
  have ha : HasS (makeS [s] [] 0) u.f := ⟨u, hu, by omega, m1.some u hu⟩
  rw [m2, kindP0] at ha hb
  obtain ⟨x, hx, h3, h4⟩ := ha
  have : u.f = x.f := by
   have h9 : ¬ (x.f ≤ u.f - 1 ∧ u.f - 1 < x.t) := fun h => hb ⟨x, hx, h.1, h.2⟩
   omega
  simp only [List.mem_singleton] at hx ⊢
  subst hx; exact this
 simpa using this
theorem noneS_len {qs : List RQ} (of : Sp) (h : ∀ x, (outR qs x).length ≤ 40) : ∀ n, (noneS qs of n).length ≤ 1 + 40 * n
 | 0 => one_len of
 | n + 1 => by
  have h1 := noneS_len of h n
  have h2 := and_len (noneS qs of n) (outR qs n)
  have h3 := h n
  show (makeS _ _ 1).length ≤ _
  omega
structure REnv (Γ : Env) : Prop where
 inn : InC (Γ.pt 462)
 out : OutC (Γ.pt 463)
 spans : SpansC (Γ.pt 464)
 row : RowC (Γ 465)
 serves : ServesC (Γ.pt 466)
 back : BackC (Γ.pt 467)
 many : ManyC (Γ.pt 468)
 none : NoneC (Γ.pt 469)
 mak : MakeC (Γ 263)
 eq : EqSpC (Γ 264)
 has : HasC (Γ 268)
 alive : Γ 470 [] = some [bo true]
def RotaC (g : List AV → Option (List AV)) : Prop := ∀ (ops : List OpR) (a : AtR), (∀ o ∈ ops, o.s.Ok) → a.of.Ok → g [.c (.vs 4 (ops.map opRD)), .agg (atD a)] = some [bo true]
theorem law68_RotaPlays_run (Γ : Env) (M : Nat) (hM : 200 < M) (hT : REnv Γ) : RotaC (run Γ M law68_RotaPlays_f) := by
 intro ops a hok hof
 have hlq : (ops.map opRD).length = ops.length := List.length_map _
 by_cases h20 : 20 < ops.length
 ·generalize ops.map opRD = OD at *
  obtain ⟨car, cars, tick, ⟨f, t⟩⟩ := a
  simp only [atD]
  simp -implicitDefEqProofs (disch := first | omega | (simp <;> fail) | assumption) [hlq, h20]
 ·obtain ⟨ax, s', ⟨ob, rfl, rfl, hH⟩, hin⟩ : ∃ ax s', (∃ ob, ax = .ex 0 ∧ s' = ⟨[(0, .c (.vs 4 (ops.map opRD))), (3, .loc 3 0 0), (5, .loc 18 0 0)], ob⟩ ∧ Hd8 ops a ops.length ob) ∧ ∀ s0, nrmP [0, 3, 5, 6] 0 1000 [3, 18] s0 = ⟨[(0, .c (.vs 4 (ops.map opRD))), (3, .loc 3 0 0), (5, .loc 18 0 0), (6, i64 (0 : Nat))], [(18, ⟨1, [[.ot .nm]]⟩), (3, atO a)]⟩ → lp (exec Γ M law68_RotaPlays_l3) M s0 = some (ax, s') := by
   refine lp_allP (fun q : Nat × List (Nat × Obj) => ⟨[(0, .c (.vs 4 (ops.map opRD))), (3, .loc 3 0 0), (5, .loc 18 0 0), (6, i64 q.1)], q.2⟩) (fun q => q.1 ≤ ops.length ∧ Hd8 ops a q.1 q.2) (fun q => ops.length - q.1) _ (0, [(18, ⟨1, [[.ot .nm]]⟩), (3, atO a)]) M ⟨by simp, hd8_zero ops a⟩ (by simp only; omega) ?_
   rintro ⟨q, ob⟩ ⟨hq, hH⟩
   simp only at hq hH ⊢
   by_cases hlt : q < ops.length
   ·obtain ⟨ob', h, hH'⟩ := play_round Γ M hT.inn hT.out hT.spans hT.row hT.eq ops a hok (by omega) q hlt ob hH
    cases hx : exec Γ M law68_RotaPlays_l3b ⟨[(0, .c (.vs 4 (ops.map opRD))), (3, .loc 3 0 0), (5, .loc 18 0 0), (6, i64 q)], ob⟩ with
    | none => rw [hx] at h; simp at h
    | some p =>
     obtain ⟨ax, s1⟩ := p
     rw [hx] at h
     simp only [Option.map_some, Option.some.injEq, Prod.mk.injEq] at h
     obtain ⟨rfl, h2, h3⟩ := h
     obtain ⟨m, qs, c, hR, hG, hc, _⟩ := id hH'
     refine ⟨(q + 1, ob'), ?_, ⟨by simp only; omega, hH'⟩, by simp only; omega⟩
     simp only [nrmP, h2, h3]
     rw [hR.kn.keep0 (by omega) (by simp) (by simp)]
   ·obtain rfl : q = ops.length := by omega
    obtain ⟨m, qs, c, hR, hG, hc, _⟩ := id hH
    have k1 := hR.kn.keep0 (os := [3, 18]) (by omega) (by simp) (by simp)
    generalize ops.map opRD = OD at *
    simp -implicitDefEqProofs (disch := first | omega | (simp <;> fail) | assumption) [hlq, k1]
    exact hH
  obtain ⟨m, qs, c, hR, hG, hc, h3, hro⟩ := hH
  rw [List.take_length] at hro
  have k1 := hR.kn.keep0 (os := [3, 18]) (by omega) (by simp) (by simp)
  have hl40 := hd8_len (ops := ops) (i := ops.length) hR.qk (fun x => by rw [List.take_length]; exact hro x) (by omega)
  have hout : ∀ x, (outR qs x).length ≤ 40 := fun x => by
   rw [outR_find 0]
   cases hf : findR qs x 0 with
   | none => simp
   | some p =>
    obtain ⟨i, e⟩ := p
    obtain ⟨_, h2, h3⟩ := findR_spec hf
    exact hl40 e (List.mem_of_getElem? h2)
  have hnl := noneS_len (qs := qs) a.of hout
  have eR := hT.row ops a.car (by omega)
  have hLl := rowS_len ops a.car
  have hLr := (rowS_ok ops a.car).1
  have eH := hT.has (rowS ops a.car) a.tick (by omega)
  have eS := fun gs g => hT.serves m qs c a.car a.tick gs ob g hR hG (fun e he => by have := hl40 e he; omega)
  have eB := fun gs g n => hT.back m qs c a.car a.tick gs ob g n hR (fun e he => by have := hl40 e he; omega)
  have eM := fun gs g => hT.many m qs c a.cars a.tick gs ob g hR hG (fun e he => by have := hl40 e he; omega)
  have eN := fun gs g n1 n2 => hT.none m qs c a.cars a.of gs ob g n1 n2 hof hR hG (fun e he => by have := hl40 e he; omega)
  have eK : Γ 263 [spL [a.of], spL [], i64 0] = some [spL (noneS qs a.of 0)] := hT.mak [a.of] [] 0 (by simp) (by simp)
  rw [hro] at eS eB
  obtain ⟨bx, s2, ⟨rfl, rfl⟩, hin2⟩ := back2_loop Γ M hM (rowS ops a.car) (by omega) (ops.map opRD) a ob k1 h3
  obtain ⟨cx, s3, ⟨rfl, rfl⟩, hin3⟩ := none_loop Γ M hM hT.mak hT.has hT.row (rowS ops a.car) (backQ (rowS ops a.car) a.tick (rowS ops a.car).length) ops (by omega) a qs hro (fun q hq => by have := hnl q; omega) ob k1 h3
  rw [backQ_eq hLr] at hin2 hin3
  have eE := hT.eq (noneS qs a.of (min a.cars 16).toNat) (by have := hnl (min a.cars 16).toNat; omega)
  have hal := hT.alive
  have hin' : ∀ s0, nrmP [0, 3, 5, 6] 0 1000 [3, 18] s0 = ⟨[(0, .c (.vs 4 (ops.map opRD))), (3, .loc 3 0 0), (5, .loc 18 0 0), (6, i64 0)], [(18, ⟨1, [[.ot .nm]]⟩), (3, atO a)]⟩ → lp (exec Γ M law68_RotaPlays_l3) M s0 = some (.ex 0, ⟨[(0, .c (.vs 4 (ops.map opRD))), (3, .loc 3 0 0), (5, .loc 18 0 0)], ob⟩) := hin
  have hin2' : ∀ s0, nrmP [0, 3, 5, 7, 8, 9] 0 1000 [3, 18] s0 = ⟨[(0, .c (.vs 4 (ops.map opRD))), (3, .loc 3 0 0), (5, .loc 18 0 0), (7, spL (rowS ops a.car)), (8, i64 a.tick), (9, i64 0)], ob⟩ → lp (exec Γ M law68_RotaPlays_l2) M s0 = some (.ex 2, ⟨[(0, .c (.vs 4 (ops.map opRD))), (3, .loc 3 0 0), (5, .loc 18 0 0), (7, spL (rowS ops a.car)), (8, i64 (backS (rowS ops a.car) a.tick))], ob⟩) := hin2
  have hin3' : ∀ s0, nrmP [0, 3, 5, 7, 8, 10, 11, 12] 0 1000 [3, 18] s0 = ⟨[(0, .c (.vs 4 (ops.map opRD))), (3, .loc 3 0 0), (5, .loc 18 0 0), (7, spL (rowS ops a.car)), (8, i64 (backS (rowS ops a.car) a.tick)), (10, i64 0), (11, spL (noneS qs a.of 0)), (12, i64 0)], ob⟩ → lp (exec Γ M law68_RotaPlays_l1) M s0 = some (.ex 4, ⟨[(3, .loc 3 0 0), (5, .loc 18 0 0), (7, spL (rowS ops a.car)), (8, i64 (backS (rowS ops a.car) a.tick)), (10, i64 (manyS qs a.tick (min a.cars 16).toNat)), (11, spL (noneS qs a.of (min a.cars 16).toNat))], ob⟩) := hin3
  clear hin hin2 hin3 hnl hout hl40 hro hG hR hT hLl hLr hok hof
  generalize noneS qs a.of 0 = N0 at *
  generalize noneS qs a.of (min a.cars 16).toNat = N1 at *
  generalize manyS qs a.tick (min a.cars 16).toNat = mn at *
  generalize backS (rowS ops a.car) a.tick = B at *
  generalize decide (HasS (rowS ops a.car) a.tick) = b at *
  generalize rowS ops a.car = L at *
  generalize ops.map opRD = OD at *
  obtain ⟨car, cars, tick, ⟨f, t⟩⟩ := a
  simp only [atD, atO, spL, List.map_nil, List.map_cons, Sp.cells] at *
  generalize N0.map Sp.cells = A0 at *
  generalize N1.map Sp.cells = A1 at *
  generalize L.map Sp.cells = A2 at *
  have h20' : ¬ 20 < ops.length := h20
  simp -implicitDefEqProofs (disch := first | omega | (simp [k1] <;> fail) | assumption) [hlq, h20', k1, h3, hin', hin2', hin3', eR, eH, eS, eB, eM, eN, eK, eE, hal]
end Go.Am
namespace Go.Am
open Go.Proofs Go.Shelf Go.RowKit
abbrev roSm : Tab := [(736, span_Sub_P_f, 2), (737, span_Merge_P_f, 1), (738, span_And_P_f, 2)]
def roE : Env := env roSm [] mgEnv 30000 1
theorem roE_mg : MgX (env roSm [] mgEnv 30000 0) := by
 constructor
 ·funext s; simp [env, envPt, get, mgEnv]
 ·funext s; simp [env, envPt, get, mgEnv]
theorem roE_sub : SubP_C (roE.pt 736) := by
 unfold roE
 rw [show (env roSm [] mgEnv 30000 1).pt 736 = runP (env roSm [] mgEnv 30000 0) 30000 span_Sub_P_f from funext fun s => env_runP (k := 2) rfl (by decide +kernel)]
 exact span_Sub_P_run _ _ (by omega)
theorem roE_merge : MergeP_C (roE.pt 737) := by
 unfold roE
 rw [show (env roSm [] mgEnv 30000 1).pt 737 = runP (env roSm [] mgEnv 30000 0) 30000 span_Merge_P_f from funext fun s => env_runP (k := 1) rfl (by decide +kernel)]
 exact span_Merge_P_run _ _ (by omega) roE_mg
theorem roE_and : AndP_C (roE.pt 738) := by
 unfold roE
 rw [show (env roSm [] mgEnv 30000 1).pt 738 = runP (env roSm [] mgEnv 30000 0) 30000 span_And_P_f from funext fun s => env_runP (k := 2) rfl (by decide +kernel)]
 exact span_And_P_run _ _ (by omega)
def roX : Env := ⟨fun _ _ => none, fun f s => if f = 299 then sortGPt 2 cfoSp s else if f = 368 then cloneDPt 368005 2 s else if f = 736 then ownC 2 736005 (roE.pt 736) s else if f = 737 then ownC 1 737004 (roE.pt 737) s else if f = 738 then frzPt (borPt 2 [738005] (roE.pt 738)) s else none, fun _ _ => none⟩
theorem roX_s : roX.pt 299 = sortGPt 2 cfoSp := by funext s; simp [roX]
theorem roX_c : roX.pt 368 = cloneDPt 368005 2 := by funext s; simp [roX]
theorem roX_6 : roX.pt 736 = ownC 2 736005 (roE.pt 736) := by funext s; simp [roX]
theorem roX_7 : roX.pt 737 = ownC 1 737004 (roE.pt 737) := by funext s; simp [roX]
theorem roX_8 : roX.pt 738 = frzPt (borPt 2 [738005] (roE.pt 738)) := by funext s; simp [roX]
theorem roX_ok {nm : Nat → Option Nat} {T : Tab} (hmix : Try.prog.follows .mixedOrders = true) (h1 : nm 299 = some 59) (h2 : nm 368 = some 58) (hR : chkTab Try.prog nm roSm = true) : XOk Try.prog nm T roX := by
 have hE := env_ok hmix (mgEnv_ok (T := roSm) h1 h2) hR (I := []) rfl 30000 1
 refine ⟨fun f g _ _ F w ds vs rs _ _ h => by simp [roX] at h, fun f g hg _ => ?_, fun f s rs ob R hR' h => ?_⟩
 ·by_cases hf : f = 299
  ·subst hf
   rw [h1] at hg; simp only [Option.some.injEq] at hg; subst hg
   rw [roX_s]; exact sort_span
  by_cases hf2 : f = 368
  ·subst hf2
   rw [h2] at hg; simp only [Option.some.injEq] at hg; subst hg
   rw [roX_c]; exact clone_span
  by_cases hf3 : f = 736
  ·subst hf3; rw [roX_6]; exact (hE.pt _ g hg).ownC
  by_cases hf4 : f = 737
  ·subst hf4; rw [roX_7]; exact (hE.pt _ g hg).ownC
  by_cases hf5 : f = 738
  ·subst hf5; rw [roX_8]; exact ((hE.pt _ g hg).bor).frz
  ·have : roX.pt f = fun _ => none := by funext s; simp [roX, hf, hf2, hf3, hf4, hf5]
   rw [this]; exact SpecP.none
 ·by_cases hf : f = 299
  ·subst hf
   rw [roX_s] at h ⊢
   exact sortG_mono _ _ s rs ob R hR' h
  by_cases hf2 : f = 368
  ·subst hf2
   rw [roX_c] at h ⊢
   exact clone_mono _ _ s rs ob R hR' h
  by_cases hf3 : f = 736
  ·subst hf3
   rw [roX_6] at h ⊢
   exact ownC_mono s rs ob R hR' h
  by_cases hf4 : f = 737
  ·subst hf4
   rw [roX_7] at h ⊢
   exact ownC_mono s rs ob R hR' h
  by_cases hf5 : f = 738
  ·subst hf5
   rw [roX_8] at h ⊢
   exact frzPt_mono (fun s rs ob R hR h => borPt_mono s rs ob R hR h) s rs ob R hR' h
  ·simp [roX, hf, hf2, hf3, hf4, hf5] at h
theorem env_ro {T : Tab} {I : List (Nat × Nat)} {M n f : Nat} (h : get T f = none) : (env T I roX M n).pt f = roX.pt f := by
 funext s
 cases n <;> simp [env, envPt, h]
theorem roMgX {T : Tab} {I : List (Nat × Nat)} {M n : Nat} (h1 : get T 368 = none) (h2 : get T 299 = none) : MgX (env T I roX M n) := ⟨by rw [env_ro h1, roX_c], by rw [env_ro h2, roX_s]⟩
theorem sub_ro {T : Tab} {I : List (Nat × Nat)} {M n : Nat} (h : get T 736 = none) : SubO ((env T I roX M n).pt 736) := by rw [env_ro h, roX_6]; exact sub_own roE_sub
theorem merge_ro {T : Tab} {I : List (Nat × Nat)} {M n : Nat} (h : get T 737 = none) : MergeO ((env T I roX M n).pt 737) := by rw [env_ro h, roX_7]; exact merge_own roE_merge
theorem and_ro {T : Tab} {I : List (Nat × Nat)} {M n : Nat} (h : get T 738 = none) : AndO ((env T I roX M n).pt 738) := by rw [env_ro h, roX_8]; exact and_own roE_and
abbrev ctOpR : List CT := [.bool, ctI, ctI, ctI]
theorem opr_row (r : List D) (h : All2 WT ctOpR r) : ∃ o : OpR, r = opRD o ∧ o.s.Ok := by
 simp only [ctOpR, all2_cons, all2_nil, wt_i64, wt_bool] at h
 obtain ⟨_, _, rfl, ⟨a, rfl⟩, _, _, rfl, ⟨b, rfl, hb⟩, _, _, rfl, ⟨c, rfl, hc⟩, _, _, rfl, ⟨d, rfl, hd⟩, rfl⟩ := h
 exact ⟨⟨a, b, ⟨c, d⟩⟩, rfl, ⟨hc, hd⟩⟩
theorem wt_oprs {d : D} (h : WT (.sl ctOpR) d) : ∃ l : List OpR, d = .vs 4 (l.map opRD) ∧ ∀ o ∈ l, o.s.Ok := by
 rw [wt_sl] at h
 obtain ⟨rows, rfl, hl, h⟩ := h
 obtain ⟨ts, rfl, hts⟩ := rows_map opr_row rows h
 exact ⟨ts, rfl, hts⟩
theorem wt_at {ds : List D} (h : All2 WT [ctI, ctI, ctI, ctI, ctI] ds) : ∃ a : AtR, ds = atD a ∧ a.of.Ok := by
 simp only [all2_cons, all2_nil, wt_i64] at h
 obtain ⟨_, _, rfl, ⟨a, rfl, ha⟩, _, _, rfl, ⟨b, rfl, hb⟩, _, _, rfl, ⟨c, rfl, hc⟩, _, _, rfl, ⟨d, rfl, hd⟩, _, _, rfl, ⟨e, rfl, he⟩, rfl⟩ := h
 exact ⟨⟨a, b, c, ⟨d, e⟩⟩, rfl, ⟨hd, he⟩⟩
end Go.Am
