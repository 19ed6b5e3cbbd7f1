/- Law 26: what a line's calls answer. -/
import Derived.Test.YtnjjnokckgjecaaParH
import Derived.Test.YtnjjnokckgjecaaPrsMay
set_option linter.unusedVariables false
set_option linter.unusedSimpArgs false
set_option maxRecDepth 10000
set_option maxHeartbeats 4000000
namespace Go.Am
def NamesPT (g : St → Option (List AV × List (Nat × Obj))) : Prop := ∀ gs ob w, Gh gs → g ⟨(0, st w) :: gs, ob⟩ = some ([if namesW w = [] then .nil 1 else .c (.vs 1 ((namesW w).map strQ))], ob)
theorem parse_Names_P_run (Γ : Env) (M : Nat) : NamesPT (runP Γ M parse_Names_P_f) := by
  intro gs ob w hg
  by_cases h1 : w = pBuilding
  · subst h1; simp [namesW, strQ, hg]
  by_cases h2 : w = pCars
  · subst h2; simp [namesW, strQ, hg]
  by_cases h3 : w = pDoors
  · subst h3; simp [namesW, strQ, hg]
  by_cases h4 : w = pTraffic
  · subst h4; simp [namesW, strQ, hg]
  by_cases h5 : w = pHorizon
  · subst h5; simp [namesW, strQ, hg]
  by_cases h6 : w = pBins
  · subst h6; simp [namesW, strQ, hg]
  simp [namesW, strQ, hg, h1, h2, h3, h4, h5, h6]
/-- fail, in front of what is boxed. -/
theorem fail_rule {Γ : Env} (hfail : FailT (Γ.pt 169)) {l : List Tk} {k : Nat} {s : Scn} {e0 l0 c0 : Int} {T M : Obj} {G : Option Obj} {base ob : List (Nat × Obj)} (h : RB (rdS l k s e0 l0 c0) T M G base ob) (key : Nat) (hk : key ≠ 34 ∧ key ≠ 169005 ∧ (key < 169000 ∨ 170000 ≤ key) ∧ key < 18446744073709551616) (t u : Tk) :
    ∀ gs' e, Gh gs' → nmFr 169005 gs' = true → Γ.pt 169 ⟨(0, .loc 34 0 0) :: (1, i64 e) :: (2, .agg t.cells) :: gs', (key, ⟨5, [toAV u.cells]⟩) :: ob⟩ = some ([bo false], (34, rdS l k s e t.l t.c) :: (key, ⟨5, [toAV u.cells]⟩) :: del ob 34) := fun gs' e h1 h2 => by
  obtain ⟨k1, k2, k3, k4⟩ := hk
  have kf169 : Kf 169000 170000 ob := h.kf 169 (by omega)
  have hk5 : Nk 169005 gs' ob := h.nk (by simp [MK32]) h2
  have n5 := hk5.2.1
  have d5 := hk5.2.2
  have g34 := h.g34
  have hm : key % 18446744073709551616 < 169000 ∨ 170000 ≤ key % 18446744073709551616 := by rw [Nat.mod_eq_of_lt k4]; exact k3
  have := hfail gs' ((key, ⟨5, [toAV u.cells]⟩) :: ob) _ _ _ (scOf s) e0 l0 c0 e t h1 (by simpa [k1] using g34) ⟨h2, by simp [n5], by simp [d5, k2]⟩ ((kf_cons hm).2 kf169)
  rw [this]; simp [k1]
theorem word_kind {t : Tk} {head : List UInt8} (hk : t.kd = 1 ∨ t.kd = 2 ∨ t.kd = 3) : partE (if head = pDispatcher then [100] else [116]) t = kindErr head t ∧ (kindErr head t = 0 → partN (if head = pDispatcher then [100] else [116]) t = kindN head t) := by
  by_cases hh : head = pDispatcher
  · rcases hk with h | h | h <;> simp [hh, partE, partN, isWord, wordN, kindErr, kindN, wordErr, h]
  · rcases hk with h | h | h <;> simp [hh, partE, partN, isWord, wordN, kindErr, kindN, wordErr, h]
/-- kind -/
theorem kind_rule {Γ : Env} (hkind : KindT (Γ.pt 172)) {l : List Tk} {last : Tk} {k : Nat} {s : Scn} {e0 l0 c0 : Int} {M : Obj} {G : Option Obj} {base ob : List (Nat × Obj)} (h : RB (rdS l k s e0 l0 c0) ⟨5, rowsL l last⟩ M G base ob) (hl : l.length < 100000) (hk : k < l.length) (head : List UInt8) :
    ∀ gs', Gh gs' → nmFr 170002 gs' = true → nmFr 170003 gs' = true → nmFr 169005 gs' = true → nmFr 176002 gs' = true → nmFr 176004 gs' = true → nmFr 172006 gs' = true →
      Γ.pt 172 ⟨(0, .loc 34 0 0) :: (1, st head) :: gs', ob⟩ = some ([i64 (if kindErr head l[k] = 0 then kindN head l[k] else 0), bo (decide (kindErr head l[k] = 0))], (34, if kindErr head l[k] = 0 then rdS l (k + 1) s e0 l0 c0 else rdS l (k + 1) s (kindErr head l[k]) l[k].l l[k].c) :: del ob 34) := fun gs' h1 h2 h3 h4 h5 h6 h7 => by
  have := hkind gs' ob (l.length + 1) k (l.length + 1 - k) (scOf s) e0 l0 c0 l[k] (rowsL l last) head h1 h.g34 h.gT (by simp) (by omega) (by omega) (by omega) (rowsL_get hk)
    (h.nk (by simp [MK32]) h2) (h.nk (by simp [MK32]) h3) (h.nk (by simp [MK32]) h4) (h.nk (by simp [MK32]) h5) (h.nk (by simp [MK32]) h6) (h.nk (by simp [MK32]) h7) (h.kf 170 (by omega)) (h.kf 169 (by omega)) (h.kf 176 (by omega)) (h.kf 172 (by omega))
  rw [this, show l.length + 1 - k - 1 = l.length + 1 - (k + 1) by omega]
  split <;> rfl
/-- next -/
theorem next_rule {Γ : Env} (hnext : NextT (Γ.pt 170)) {l : List Tk} {last : Tk} {k : Nat} {s : Scn} {e0 l0 c0 : Int} {M : Obj} {G : Option Obj} {base ob : List (Nat × Obj)} (h : RB (rdS l k s e0 l0 c0) ⟨5, rowsL l last⟩ M G base ob) (hl : l.length < 100000) (hk : k < l.length) :
    ∀ gs', Gh gs' → nmFr 170002 gs' = true → nmFr 170003 gs' = true → Γ.pt 170 ⟨(0, .loc 34 0 0) :: gs', ob⟩ = some ([.agg l[k].cells], (34, rdS l (k + 1) s e0 l0 c0) :: del ob 34) := fun gs' h1 h2 h3 => by
  have := hnext gs' ob (l.length + 1) k (l.length + 1 - k) (rdT (scOf s) e0 l0 c0) l[k] (rowsL l last) h1 h.g34 h.gT (by simp) (by omega) (by omega) (by omega) (rowsL_get hk)
    (h.nk (by simp [MK32]) h2) (h.nk (by simp [MK32]) h3) (h.kf 170 (by omega))
  rw [this, if_pos (by omega), show l.length + 1 - k - 1 = l.length + 1 - (k + 1) by omega]
theorem kf_of {lo hi : Nat} : ∀ {ob : List (Nat × Obj)}, (∀ p ∈ ob, p.1 % 18446744073709551616 < lo ∨ hi ≤ p.1 % 18446744073709551616) → Kf lo hi ob
  | [], _ => kf_nil _ _
  | (k, o) :: r, h => by
    rw [kf_cons (h (k, o) (by simp))]
    exact kf_of fun p hp => h p (by simp [hp])
theorem Rd.kf171 {R : Obj} {ob : List (Nat × Obj)} (h : Rd R ob) : Kf 171000 172000 (Am.del ob 171006) := kf_of fun p hp => by
  obtain ⟨h1, h2⟩ := mem_del hp
  have hk := (h p h1).1
  simp only [List.mem_cons, List.not_mem_nil, or_false] at hk
  rcases hk with hk | hk | hk | hk | hk | hk | hk | hk | hk
  all_goals first | exact (h2 hk).elim | (rw [hk]; omega)
theorem nsR_free (j : Nat) (l : List Int) : nmRows j (nsR l) = true ∧ lcRows j (nsR l) = true := ⟨nmRows_nsR j l, lcRows_nsR j l⟩
theorem RB.drop {R T M : Obj} {G : Option Obj} {base ob : List (Nat × Obj)} (h : RB R T M G base ob) : RB R T M G base (Am.del ob 171006) where
  rd := h.rd.del
  g34 := by simp [get_del, h.g34]
  gT := by simp [get_del, h.gT]
  gM := by simp [MK32, get_del]; exact h.gM
  gG := by simp [get_del, h.gG]
  oth := fun j hj => by
    have hne : ¬ j = 171006 := by intro h; subst h; simp at hj
    simp [get_del, hne, h.oth j hj]
/-- numbers -/
theorem nums_rule {Γ : Env} (hnums : NumsT (Γ.pt 171)) {l : List Tk} {last : Tk} {k : Nat} {s : Scn} {e0 l0 c0 : Int} {M : Obj} {G : Option Obj} {base ob : List (Nat × Obj)} (h : RB (rdS l k s e0 l0 c0) ⟨5, rowsL l last⟩ M G base ob) (hl : l.length < 100000) (hk : k < l.length) (hE : EndL (l.drop k)) (head : List UInt8) :
    (∃ ns k' ob', numsA [] (namesW head) (l.drop k) = .ok ns (l.drop k') ∧ k' < l.length ∧ RB (rdS l k' s e0 l0 c0) ⟨5, rowsL l last⟩ M G base ob' ∧ get ob' 171006 = some ⟨1, nsR ns⟩ ∧
      ∀ gs', Gh gs' → nmFr 170002 gs' = true → nmFr 170003 gs' = true → nmFr 169005 gs' = true → nmFr 177006 gs' = true → nmFr 171006 gs' = true → lcFr 171006 gs' = true →
        Γ.pt 171 ⟨(0, .loc 34 0 0) :: (1, st head) :: gs', ob⟩ = some ([.sl 171006 ns.length 0 ns.length, bo true], ob')) ∨
    (∃ e x r k' ob', numsA [] (namesW head) (l.drop k) = .bad e x r ∧ RB (rdS l k' s e x.l x.c) ⟨5, rowsL l last⟩ M G base ob' ∧
      ∀ gs', Gh gs' → nmFr 170002 gs' = true → nmFr 170003 gs' = true → nmFr 169005 gs' = true → nmFr 177006 gs' = true → nmFr 171006 gs' = true → lcFr 171006 gs' = true →
        Γ.pt 171 ⟨(0, .loc 34 0 0) :: (1, st head) :: gs', ob⟩ = some ([.nil 1, bo false], ob')) := by
  have hd := h.drop
  have hc : ∀ gs', Gh gs' → nmFr 170002 gs' = true → nmFr 170003 gs' = true → nmFr 169005 gs' = true → nmFr 177006 gs' = true → nmFr 171006 gs' = true → lcFr 171006 gs' = true →
      numsRes l (scOf s) e0 l0 c0 (del ob 171006) (Γ.pt 171 ⟨(0, .loc 34 0 0) :: (1, st head) :: gs', ob⟩) (numsA [] (namesW head) (l.drop k)) := fun gs' h1 h2 h3 h4 h5 h6 h7 =>
    hnums gs' ob (del ob 171006) l k (scOf s) e0 l0 c0 head last h1 h.g34 h.gT hl hk hE rfl (keepF_nums h.rd) h.rd.kf171
      ⟨hd.nk (by simp [MK32]) h2, hd.nk (by simp [MK32]) h3, hd.nk (by simp [MK32]) h4, hd.nk (by simp [MK32]) h5, hd.kf 170 (by omega), hd.kf 169 (by omega), hd.kf 177 (by omega)⟩ h6 h7
      (hd.rd.nm (rdr_nm _ _ _ _ _ _ _ (by decide) (by decide) (by decide))) (hd.rd.lc (rdr_lc _ _ _ _ _ _ _ _))
  have huniq : ∀ {k' : Nat} {r : List Tk}, l.drop k' = r → k' ≤ l.length → k' = l.length - r.length := fun h1 h2 => by
    have := congrArg List.length h1; rw [List.length_drop] at this; omega
  cases hA : numsA [] (namesW head) (l.drop k) with
  | ok ns r =>
    rw [hA] at hc
    obtain ⟨k', hk1, hk2, _⟩ := hc [] gh_nil rfl rfl rfl rfl rfl rfl
    refine .inl ⟨ns, k', (171006, ⟨1, nsR ns⟩) :: numsX (del ob 171006) (rdS l k' s e0 l0 c0) ns, by rw [hk1], hk2, ?_, by simp [Am.get], ?_⟩
    · cases ns with
      | nil =>
        have hkk : k' = k := by
          rcases numsA_spec (fun _ => True) (namesW head) [] (l.drop k) hE (by simp) with ⟨e, y, r2, q1, _⟩ | ⟨ns2, r2, q1, q2, _, q3, _⟩
          · rw [hA] at q1; simp at q1
          · rw [hA] at q1; simp only [List.nil_append, PO.ok.injEq] at q1
            obtain ⟨rfl, rfl⟩ := q1
            simp only [List.length_nil] at q2
            rw [← q2, ← hk1] at q3
            simp only [List.length_drop] at q3
            omega
        subst hkk
        exact h.nums (nsR_free · _)
      | cons n ns =>
        have := (hd.put (R' := rdS l k' s e0 l0 c0)).nums (o := ⟨1, nsR (n :: ns)⟩) (nsR_free · _)
        rw [show del ((34, rdS l k' s e0 l0 c0) :: del (del ob 171006) 34) 171006 = (34, rdS l k' s e0 l0 c0) :: del (del ob 171006) 34 by
          simp only [del, if_neg (show ¬ (34 = 171006) by decide)]; rw [del_comm, del_del]] at this
        exact this
    · intro gs' h1 h2 h3 h4 h5 h6 h7
      obtain ⟨k2, q1, q2, q3⟩ := hc gs' h1 h2 h3 h4 h5 h6 h7
      obtain rfl : k2 = k' := by rw [huniq q1 (by omega), huniq hk1 (by omega)]
      exact q3
  | bad e x r =>
    rw [hA] at hc
    obtain ⟨k', hk1, hk2, _⟩ := hc [] gh_nil rfl rfl rfl rfl rfl rfl
    refine .inr ⟨e, x, r, k', (34, rdS l k' s e x.l x.c) :: del (del ob 171006) 34, rfl, hd.put, ?_⟩
    intro gs' h1 h2 h3 h4 h5 h6 h7
    obtain ⟨k2, q1, q2, q3⟩ := hc gs' h1 h2 h3 h4 h5 h6 h7
    obtain rfl : k2 = k' := by rw [huniq q1 q2, huniq hk1 hk2]
    exact q3
/-- set -/
theorem putC_names {s : Scn} {w : List UInt8} {ns : List Int} (hw : w ≠ pTraffic) (hd : w ≠ pDispatcher) : scOf (putC s w ns) = putS (scOf s) w 0 ns := by
  match ns with
  | [] => simp [putC, putS, hd]
  | [a] => simp only [putC, putS, hd, if_false]; split <;> rfl
  | [a, b] => simp only [putC, putS]; (repeat' split) <;> rfl
  | [a, b, c] => simp only [putC, putS, hw, if_false]
  | [a, b, c, d] => simp only [putC, putS]; split <;> rfl
  | _ :: _ :: _ :: _ :: _ :: _ => simp only [putC, putS]
theorem putC_segsame {s : Scn} {w : List UInt8} {ns : List Int} (hw : w ≠ pTraffic) : (putC s w ns).segs = s.segs := by
  match ns with
  | [] => rfl
  | [a] => simp only [putC]; (repeat' split) <;> rfl
  | [a, b] => simp only [putC]; (repeat' split) <;> rfl
  | [a, b, c] => simp only [putC, hw, if_false]
  | [a, b, c, d] => simp only [putC]; split <;> rfl
  | _ :: _ :: _ :: _ :: _ :: _ => rfl
def fullN (head : List UInt8) (kind : Int) (ns : List Int) : List Int := if head = pTraffic ∨ head = pDispatcher then kind :: ns else ns
theorem set_rule {Γ : Env} (hset : SetT (Γ.pt 168)) (hsetT : SetTrT (Γ.pt 168)) {l : List Tk} {last : Tk} {k : Nat} {s : Scn} {e0 l0 c0 : Int} {M : Obj} {base ob : List (Nat × Obj)} (h : RB (rdS l k s e0 l0 c0) ⟨5, rowsL l last⟩ M (segG s) base ob) {head : List UInt8} {ns : List Int} {kind : Int}
    (hh : shapeW head ≠ []) (hn : ns.length = (namesW head).length) (h0 : head ≠ pTraffic → head ≠ pDispatcher → kind = 0) (hN : get ob 171006 = some ⟨1, nsR ns⟩) (h8 : head = pTraffic → s.segs.length ≠ 8) (h8' : s.segs.length ≤ 8) :
    ∃ ob', RB (rdS l k (putC s head (fullN head kind ns)) e0 l0 c0) ⟨5, rowsL l last⟩ M (segG (putC s head (fullN head kind ns))) base ob' ∧
      ∀ gs', Gh gs' → nmFr 1000242 gs' = true → lcFr 1000242 gs' = true → Γ.pt 168 ⟨(0, .loc 34 0 0) :: (1, st head) :: (2, i64 kind) :: (3, .sl 171006 ns.length 0 ns.length) :: gs', ob⟩ = some ([], ob') := by
  by_cases ht : head = pTraffic
  · subst ht
    obtain ⟨a, b, rfl⟩ : ∃ a b, ns = [a, b] := by
      match ns, hn with
      | [a, b], _ => exact ⟨a, b, rfl⟩
    have hf : fullN pTraffic kind [a, b] = [kind, a, b] := by simp [fullN]
    have hp : putC s pTraffic [kind, a, b] = { s with segs := s.segs ++ [⟨kind, a, b⟩] } := by simp [putC]
    rw [hf, hp]
    have hs8 := h8 rfl
    have hsg : segT (s.segs ++ [⟨kind, a, b⟩]) = segT s.segs ++ [(kind, a, b)] := by simp [segT]
    have hso : segG { s with segs := s.segs ++ [⟨kind, a, b⟩] } = some ⟨3, sgsR (segT s.segs ++ [(kind, a, b)])⟩ := by simp [segG, segT]
    have e : del (del ob 34) 1000242 = del (del ob 1000242) 34 := del_comm _ _ _
    refine ⟨(34, rdS l k { s with segs := s.segs ++ [⟨kind, a, b⟩] } e0 l0 c0) :: (1000242, ⟨3, sgsR (segT s.segs ++ [(kind, a, b)])⟩) :: del (del ob 34) 1000242, ?_, ?_⟩
    · have h1 := (h.segs (o := ⟨3, sgsR (segT s.segs ++ [(kind, a, b)])⟩) (sgsR_free · _)).put (R' := rdS l k { s with segs := s.segs ++ [⟨kind, a, b⟩] } e0 l0 c0)
      rw [hso, e]
      simpa only [del, if_neg (show ¬ (1000242 = 34) by decide)] using h1
    · intro gs' g1 g2 g3
      have := hsetT gs' ob (l.length + 1) k (l.length + 1 - k) (scOf s) (segT s.segs) e0 l0 c0 kind a b g1 h.g34 rfl (by simp [segT]; omega)
        (fun hne => by rw [h.gG]; simp only [segG]; rw [if_neg (fun hz => hne (by simp [segT, hz]))]) hN g2 g3 (fun hz => h.rd.nm (by simp [scOf, hz, sgV])) (h.rd.lc (rdr_lc _ _ _ _ _ _ _ _))
      have e2 : ([a, b] : List Int).length = 2 := rfl
      rw [e2, this]
      simp only [rdS, scOf, hsg]
  · by_cases hd : head = pDispatcher
    · subst hd
      obtain rfl : ns = [] := List.eq_nil_of_length_eq_zero (by rw [hn]; rfl)
      have hf : fullN pDispatcher kind [] = [kind] := by simp [fullN]
      have hp : putC s pDispatcher [kind] = { s with disp := kind } := by simp [putC]
      rw [hf, hp]
      refine ⟨(34, rdS l k { s with disp := kind } e0 l0 c0) :: del ob 34, h.put, ?_⟩
      intro gs' g1 g2 g3
      have := hset gs' ob (l.length + 1) k (l.length + 1 - k) (scOf s) e0 l0 c0 pDispatcher kind [] g1 h.g34 hN (.inl ⟨rfl, rfl⟩)
      rw [this]
      simp [scOf, putS]
    · obtain rfl := h0 ht hd
      have hf : fullN head 0 ns = ns := by simp [fullN, ht, hd]
      rw [hf]
      have hg : segG (putC s head ns) = segG s := by simp only [segG, putC_segsame ht]
      rw [hg]
      refine ⟨(34, rdS l k (putC s head ns) e0 l0 c0) :: del ob 34, h.put, ?_⟩
      intro gs' g1 g2 g3
      have hw := shapeW_mem hh
      simp only [linesW, List.mem_cons, List.not_mem_nil, or_false] at hw
      have hc : (head = pDispatcher ∧ ns.length = 0 ∨ head = pHorizon ∧ ns.length = 1 ∨ (head = pBuilding ∨ head = pCars ∨ head = pBins) ∧ ns.length = 2 ∨ head = pDoors ∧ ns.length = 4) := by
        rcases hw with rfl | rfl | rfl | rfl | rfl | rfl | rfl
        · exact .inr (.inr (.inl ⟨.inl rfl, hn⟩))
        · exact .inr (.inr (.inl ⟨.inr (.inl rfl), hn⟩))
        · exact .inr (.inr (.inr ⟨rfl, hn⟩))
        · exact (ht rfl).elim
        · exact (hd rfl).elim
        · exact .inr (.inl ⟨rfl, hn⟩)
        · exact .inr (.inr (.inl ⟨.inr (.inr rfl), hn⟩))
      have := hset gs' ob (l.length + 1) k (l.length + 1 - k) (scOf s) e0 l0 c0 head 0 ns g1 h.g34 hN hc
      rw [this, rdS, putC_names ht hd]
end Go.Am
