/- Loops over maps: whatever the order in which the entries come. -/
import Derived.Test.YtdnmppikakpdiaaAs
import Derived.Laws.IdiomRangeMap
set_option linter.unusedVariables false
set_option linter.unusedSimpArgs false
namespace Go.Am
open Go.RowKit
section
variable {P : Program} {B : Nat} {F : Facts} {ρ : Map} {s : St} {a : Go.Act} {w : World} {o : Oper}
/-- 'next' at an iterator, wherever it lies: over, or some entry that has not come. -/
theorem next_at (w : World) (ty : TypeId) (r bm since c0 : Nat) (seen : Array Nat) (es : Array MapEntry) (clock : Nat) (hi : w.heap[r]? = some (.mapIter (some bm) since seen c0)) (hb : w.heap[bm]? = some (.map es clock)) (hold : ∀ x ∈ es.toList, x.born < since) (hsc : since ≤ c0) :
    ((leftOf es seen).size = 0 ∧ (Instr.next (.pointer (some ⟨r, 0, none⟩)) false ty).run P w = .ok (.tuple #[.bool false]) w) ∨
    ∃ e ∈ (leftOf es seen).toList, ∃ w1 : World, (w1 = w ∨ w1 = w.drew) ∧ (Instr.next (.pointer (some ⟨r, 0, none⟩)) false ty).run P w = .ok (.tuple #[.bool true, e.key, e.val]) (setB w1 r (.mapIter (some bm) since (seen.push e.born) clock)) := by
  simp only [Instr.next, getObj, Sem.run_bind, Sem.run, hi, hb, Result.andThen, next_test_false seen es since c0 hold hsc, Bool.false_eq_true, if_false]
  unfold leftOf
  have hmem : ∀ x ∈ (Array.filter (fun e => !seen.contains e.born) es).toList, x.born < since := fun x hx => hold x (by simp at hx ⊢; exact hx.1)
  generalize Array.filter (fun e => !seen.contains e.born) es = L at hmem ⊢
  have e1 : L.filter (fun x => decide (x.born < since)) = L := Array.filter_eq_self.2 (fun x hx => by simpa using hmem x (by simpa using hx))
  have e2 : L.filter (fun x => decide (x.born ≥ since)) = #[] := by
    rw [Array.filter_eq_empty_iff]
    intro x hx
    have := hmem x (by simpa using hx)
    simp
    omega
  simp only [e1, e2, Array.append_empty]
  by_cases h0 : L.size = 0
  · left
    have : L = #[] := Array.eq_empty_of_size_eq_zero h0
    subst this
    refine ⟨rfl, ?_⟩
    simp [choose, Sem.run, Question.forced]
  · right
    have hne : L.isEmpty = false := by simp [Array.isEmpty, h0]
    simp only [hne, Bool.false_eq_true, if_false, Array.empty_append, Array.size_map]
    have hch : ∃ (j : Nat) (w1 : World), j < L.size ∧ (w1 = w ∨ w1 = w.drew) ∧ (choose (Question.mapNext L.size)).run P w = .ok j w1 := by
      by_cases hf : L.size ≤ 1
      · exact ⟨0, w, by omega, .inl rfl, by simp [choose, Sem.run, Question.forced, hf]⟩
      · exact ⟨_, w.drew, Nat.mod_lt _ (by omega), .inr rfl, by
          simp only [choose, Sem.run, Question.forced, decide_eq_true_eq, hf, if_false, Question.cut]
          rfl⟩
    obtain ⟨j, w1, hj, hal, hrun⟩ := hch
    have hi1 : w1.heap[r]? = some (.mapIter (some bm) since seen c0) := by
      rcases hal with rfl | rfl
      · exact hi
      · exact hi
    refine ⟨L[j], by simp, w1, hal, ?_⟩
    have hset : (setObj r (.mapIter (some bm) since (seen.push L[j].born) clock)).run P w1 = .ok () (setB w1 r (.mapIter (some bm) since (seen.push L[j].born) clock)) := by
      simp [setObj, Sem.run, hi1, setB]
    simp only [hrun, Array.getElem?_map, Array.getElem?_eq_getElem hj, Option.map_some, Sem.run_bind, hset, Result.andThen]
    rfl
/-! ### The code -/
inductive AW where
  | ac (c : AC)
  | nxt (it d : Nat) (rest : AI)
  | seq (a b : AW)
  | cond (c : Opd) (a b : AW)
  | block (id : Nat) (a : AW)
  | loop (a : AW)
  | keepP (ks : List Nat) (lo hi : Nat) (os : List Nat) (a : AW)
  | own (d key : Nat) (a : AW)
/-- Has an entry come? -/
def came (seen : Rows) (b : Int) : Bool := seen.any fun x => match x with
  | [.c (.int .i64 c)] => decide (c = b)
  | _ => false
theorem came_map : ∀ (l : List Nat) (b : Nat), came (l.map fun c : Nat => [AV.c (.int .i64 c)]) (b : Int) = l.contains b
  | [], b => rfl
  | c :: l, b => by
    have ih := came_map l b
    unfold came at ih ⊢
    rw [List.map_cons, List.any_cons, ih, List.contains_cons]
    congr 1
    by_cases h : c = b
    · simp [h]
    · have h1 : ¬ (c : Int) = b := by omega
      have h2 : ¬ b = c := by omega
      simp [h1, h2]
def nextP (s : St) (it : Nat) (K : St → AV → Prop) : Prop :=
  match get s.fr it with
  | some (.itr key) => match get s.ob key with
    | some o => (o.rows = [[.ot .nm]] ∧ K s (.tup [.c (.bool false)])) ∨
        ∃ (mk : Nat) (seen : Rows) (om : Obj), o.rows = [.mp mk, .c (.int .i64 o.sz)] :: seen ∧ get s.ob mk = some om ∧ om.sz = o.sz ∧
          ((∀ b k v, [.c (.int .i64 b), k, v] ∈ om.rows → came seen b = true) → K s (.tup [.c (.bool false)])) ∧
          ∀ b k v, [.c (.int .i64 b), k, v] ∈ om.rows → came seen b = false → k.isD = true ∧ v.isD = true ∧ K (s.obj key ⟨o.sz, o.rows ++ [[.c (.int .i64 b)]]⟩) (.tup [.c (.bool true), k, v])
    | none => False
  | _ => False
def lpW (f : St → (AX → St → Prop) → Prop) : Nat → St → (AX → St → Prop) → Prop
  | 0, _, _ => False
  | n + 1, s, K => f s fun ax s' => match ax with
    | .norm => lpW f n s' K
    | ax => K ax s'
def execW (Γ : Env) (N : Nat) : AW → St → (AX → St → Prop) → Prop
  | .ac c, s, K => ∃ ax s', exec Γ N c s = some (ax, s') ∧ K ax s'
  | .nxt it d rest, s, K => nextP s it fun s1 v => ∃ s2, ev Γ rest (s1.put (some d) v) = some s2 ∧ K .norm s2
  | .seq a b, s, K => execW Γ N a s fun ax s' => match ax with
    | .norm => execW Γ N b s' K
    | ax => K ax s'
  | .cond c a b, s, K => match s.opd c with
    | some (.c (.bool t)) => if t then execW Γ N a s K else execW Γ N b s K
    | _ => False
  | .block id a, s, K => execW Γ N a s fun ax s' => match ax with
    | .ex i => if i = id then K .norm s' else K (.ex i) s'
    | ax => K ax s'
  | .loop a, s, K => lpW (execW Γ N a) N s K
  | .keepP ks lo hi os a, s, K => execW Γ N a ⟨keep ks s.fr ++ ghs s.fr, keepF lo hi os s.ob⟩ K
  | .own d key a, s, K => match get s.fr d with
    | some (.nil sz) => s.free key = true ∧ execW Γ N a ((s.obj key ⟨sz, []⟩).put (some d) (.sl key 0 0 0)) K
    | _ => False
def chkNxt (o : Oper) (it d : Nat) : Bool := match o.op with
  | .next (.tmp n) false => n == it && o.dst == some d && o.guard.isNone && opsLt o && noSelect o
  | _ => false
def chkAW (P : Program) (nm : Nat → Option Nat) (N : Nat) : AW → Code → Bool
  | .ac c, x => chkAC P nm N c x
  | .nxt it d rest, .region _ ops false => (match ops.toList with
    | o :: l => chkNxt o it d && dstOk N [] (some d) && (match chkAI P nm N ops rest none [] [] l with | some [] => true | _ => false)
    | [] => false)
  | .seq a b, .seq x y => chkAW P nm N a x && chkAW P nm N b y
  | .cond c a b, .cond c' x y => chkO c' c && oLt c' && chkAW P nm N a x && chkAW P nm N b y
  | .block id a, .block id' x => id == id' && chkAW P nm N a x
  | .loop a, .loop x => chkAW P nm N a x
  | .keepP _ _ _ _ a, x => chkAW P nm N a x
  | .own _ key a, x => decide (key < MK) && chkAW P nm N a x
  | _, _ => false
theorem execW_mono {Γ : Env} {N : Nat} (c : AW) : ∀ {s : St} {K K' : AX → St → Prop}, (∀ ax s', K ax s' → K' ax s') → execW Γ N c s K → execW Γ N c s K' := by
  induction c with
  | ac c => rintro s K K' hk ⟨ax, s', h1, h2⟩; exact ⟨ax, s', h1, hk _ _ h2⟩
  | nxt it d rest =>
    intro s K K' hk h
    have hk1 : ∀ (s1 : St) (v : AV), (∃ s2, ev Γ rest (s1.put (some d) v) = some s2 ∧ K .norm s2) → ∃ s2, ev Γ rest (s1.put (some d) v) = some s2 ∧ K' .norm s2 := fun s1 v ⟨s2, h1, h2⟩ => ⟨s2, h1, hk _ _ h2⟩
    simp only [execW, nextP] at h ⊢
    split at h
    · split at h
      · rcases h with ⟨h1, h2⟩ | ⟨mk, seen, om, h1, h2, h3, h4, h5⟩
        · exact .inl ⟨h1, hk1 _ _ h2⟩
        · exact .inr ⟨mk, seen, om, h1, h2, h3, fun h => hk1 _ _ (h4 h), fun b k v hm hc => by
            obtain ⟨g1, g2, g3⟩ := h5 b k v hm hc
            exact ⟨g1, g2, hk1 _ _ g3⟩⟩
      · exact h.elim
    · exact h.elim
  | seq c1 c2 ih1 ih2 =>
    intro s K K' hk h
    simp only [execW] at h ⊢
    refine ih1 (fun ax s' h => ?_) h
    cases ax
    · exact ih2 hk h
    · exact hk _ _ h
    · exact hk _ _ h
  | cond c c1 c2 ih1 ih2 =>
    intro s K K' hk h
    simp only [execW] at h ⊢
    split at h
    · rename_i t ht
      cases t
      · exact ih2 hk (by simpa using h)
      · exact ih1 hk (by simpa using h)
    · exact h.elim
  | block id c ih =>
    intro s K K' hk h
    simp only [execW] at h ⊢
    refine ih (fun ax s' h => ?_) h
    cases ax with
    | norm => exact hk _ _ h
    | ret => exact hk _ _ h
    | ex i =>
      simp only at h ⊢
      split
      · rename_i hi; rw [if_pos hi] at h; exact hk _ _ h
      · rename_i hi; rw [if_neg hi] at h; exact hk _ _ h
  | loop c ih =>
    intro s K K' hk h
    simp only [execW] at h ⊢
    have : ∀ n s, lpW (execW Γ N c) n s K → lpW (execW Γ N c) n s K' := by
      intro n
      induction n with
      | zero => intro s h; exact h.elim
      | succ n ihn =>
        intro s h
        simp only [lpW] at h ⊢
        refine ih (fun ax s' h => ?_) h
        cases ax
        · exact ihn _ h
        · exact hk _ _ h
        · exact hk _ _ h
    exact this N s h
  | keepP ks lo hi os c ih => intro s K K' hk h; exact ih hk h
  | own d key c ih =>
    intro s K K' hk h
    simp only [execW] at h ⊢
    split at h
    · exact ⟨h.1, ih hk h.2⟩
    · exact h.elim
/-- Rounds of a loop over a map. -/
theorem lpW_rule {f : St → (AX → St → Prop) → Prop} {I : Nat → St → Prop} {K : AX → St → Prop} (hf : ∀ s (K K' : AX → St → Prop), (∀ ax s', K ax s' → K' ax s') → f s K → f s K')
    (step : ∀ n s, I n s → f s fun ax s' => match ax with | .norm => ∃ m, m < n ∧ I m s' | ax => K ax s') : ∀ (n M : Nat) (s : St), I n s → n < M → lpW f M s K
  | n, 0, s, h, hn => by omega
  | n, M + 1, s, h, hn => by
    simp only [lpW]
    refine hf s _ _ (fun ax s' h => ?_) (step n s h)
    cases ax with
    | norm =>
      obtain ⟨m, h1, h2⟩ := h
      exact lpW_rule hf step m M s' h2 (by omega)
    | ex i => exact h
    | ret => exact h
/-! ### It is what the model does -/
theorem does_next {it d : Nat} {K : St → AV → Prop} (hm : Mem B F ρ s.ob w) (hf : Fr F ρ s.ob s.fr a) (hc : chkNxt o it d = true) (h : nextP s it K) :
    Does P o a w fun u w' => ∃ s1 v, s1.fr = s.fr ∧ K s1 v ∧ Post B F w s.fr a s1.ob v u w' := by
  unfold chkNxt at hc
  split at hc
  case h_2 => simp at hc
  rename_i n hop
  simp only [Bool.and_eq_true, beq_iff_eq] at hc
  obtain ⟨⟨⟨⟨rfl, hd⟩, hg⟩, _⟩, _⟩ := hc
  unfold nextP at h
  split at h
  case h_2 => exact h.elim
  rename_i key hit
  split at h
  case h_2 => exact h.elim
  rename_i ob hob
  have hr := hf n _ hit
  obtain ⟨p, hρ, hxv⟩ := hr.2 ob hob
  have h2K : 2 * MK ≤ key := hr.1
  obtain ⟨y, hy, hI⟩ := (hm.own key ob p hob hρ).2.2.2 h2K
  have hev : a.eval (.tmp n) = .pointer (some ⟨p.g, 0, none⟩) := hxv
  have hsame : ∀ {v : AV} {u : Value}, AR F ρ s.ob v u → ∀ w', w'.heap = w.heap → w'.os = w.os → w'.tape = w.tape → w'.output = w.output → Post B F w s.fr a s.ob v u w' := by
    intro v u hv w' e1 e2 e3 e4
    have hb : Below B w w' := ⟨e2, e3, e4, by rw [e1]; exact Nat.le_refl _, fun k _ => by rw [e1]⟩
    have hb2 : Below w.heap.size w w' := ⟨e2, e3, e4, by rw [e1]; exact Nat.le_refl _, fun k _ => by rw [e1]⟩
    exact ⟨F, ρ, hm.below hb2, hf, hv, .refl F, hb, fun _ _ h => .inl h⟩
  rcases hI with ⟨h0, rfl⟩ | ⟨mk', since', seen', g, h3, h4, rfl⟩
  · rcases h with ⟨_, hK⟩ | ⟨mk, seen, om, h1, _⟩
    · refine does_value (w' := w) (u := .tuple #[.bool false]) ?_ ⟨s, _, rfl, hK, hsame (v := .tup [.c (.bool false)]) ⟨[.bool false], rfl, .cons (DR.bool false) .nil⟩ w rfl rfl rfl rfl⟩
      simp [execOp, hop, hev, Instr.next, getObj, Sem.run, hy]
    · rw [h0] at h1; simp at h1
  · rcases h with ⟨h0, _⟩ | ⟨mk, seen, om, h1, h2, h5, h6, h7⟩
    · rw [h3] at h0; simp at h0
    · rw [h3] at h1
      simp only [List.cons.injEq, AV.mp.injEq, AV.c.injEq, D.int.injEq, and_true, true_and] at h1
      obtain ⟨⟨rfl, hsi⟩, hseen⟩ := h1
      have hsi : since' = ob.sz := by omega
      subst hsi
      obtain ⟨pm, hρm, hgm⟩ := h4.2.2 om h2
      simp only [Value.map.injEq, Option.some.injEq] at hgm; subst hgm
      obtain ⟨_, hM⟩ := hm.map h4.1 h4.2.1 h2 hρm
      obtain ⟨es, hb, hlen, hnd, hlt, hrows⟩ := hM.list
      subst hseen
      rcases next_at (P := P) w o.type p.g pm.g ob.sz ob.sz seen'.toArray es om.sz hy hb (by rw [← h5]; exact hlt) (Nat.le_refl _) with ⟨hl0, hrun⟩ | ⟨e, he, w1, hw1, hrun⟩
      · have hK := h6 fun b k v hmem => by
          obtain ⟨i, hi⟩ := List.getElem?_of_mem hmem
          obtain ⟨e, k', v', g1, g2, _, _⟩ := hrows i _ hi
          simp only [List.cons.injEq, AV.c.injEq, D.int.injEq, true_and] at g2
          rw [g2.1, came_map]
          cases hcon : seen'.contains e.born with
          | true => rfl
          | false =>
            have : e ∈ leftOf es seen'.toArray := by
              unfold leftOf
              rw [Array.mem_filter]
              exact ⟨Array.mem_toList_iff.1 (List.mem_of_getElem? g1), by simpa using hcon⟩
            have h8 := Array.size_pos_of_mem this
            omega
        refine does_value (w' := w) (u := .tuple #[.bool false]) ?_ ⟨s, _, rfl, hK, hsame (v := .tup [.c (.bool false)]) ⟨[.bool false], rfl, .cons (DR.bool false) .nil⟩ w rfl rfl rfl rfl⟩
        simp only [execOp, hop, hev, Sem.run_bind, hrun, Result.andThen_ok, Sem.run_pure]
      · have he2 : e ∈ es ∧ seen'.contains e.born = false := by
          unfold leftOf at he
          have := Array.mem_filter.1 (Array.mem_toList_iff.1 he)
          exact ⟨this.1, by simpa using this.2⟩
        obtain ⟨i, hi⟩ := List.getElem?_of_mem (Array.mem_toList_iff.2 he2.1)
        have hil : i < om.rows.length := by rw [← hlen]; exact (List.getElem?_eq_some_iff.1 hi).1
        obtain ⟨e', k, v, g1, g2, g3, g4⟩ := hrows i _ (List.getElem?_eq_getElem hil)
        rw [hi] at g1; simp only [Option.some.injEq] at g1; subst g1
        obtain ⟨k1, v1, hK⟩ := h7 e.born k v (by rw [← g2]; exact List.getElem_mem hil) (by rw [came_map]; exact he2.2)
        have hw1h : w1.heap = w.heap := by rcases hw1 with rfl | rfl <;> rfl
        have hb1 : Below w.heap.size w w1 := by rcases hw1 with rfl | rfl <;> exact ⟨rfl, rfl, rfl, Nat.le_refl _, fun _ _ => rfl⟩
        have hm1 : Mem B F ρ s.ob w1 := hm.below hb1
        have hval : AR F ρ s.ob (.tup [.c (.bool true), k, v]) (.tuple #[.bool true, e.key, e.val]) := ⟨[.bool true, e.key, e.val], rfl, .cons (DR.bool true) (.cons (g3.to1 k1) (.cons (g4.to1 v1) .nil))⟩
        have hpost := map_post (o1 := ⟨ob.sz, ob.rows ++ [[.c (.int .i64 e.born)]]⟩) (x := .mapIter (some pm.g) ob.sz (seen'.toArray.push e.born) om.sz) hm1 hf (by unfold MK at h2K ⊢; omega) hob hρ (y := .mapIter (some pm.g) ob.sz seen'.toArray ob.sz) (by rw [hw1h]; exact hy)
          (fun F' ρ' ob' hT => ⟨fun h => by unfold MK at *; omega, fun h h' => by omega, fun _ => ⟨_, rfl, .inr ⟨mk', ob.sz, seen' ++ [e.born], pm.g, by rw [h3]; simp, hT _ _ h4, by rw [h5]; simp⟩⟩⟩) hval
        refine does_value (w' := setB w1 p.g (.mapIter (some pm.g) ob.sz (seen'.toArray.push e.born) om.sz)) (u := .tuple #[.bool true, e.key, e.val]) ?_ ⟨s.obj key ⟨ob.sz, ob.rows ++ [[.c (.int .i64 e.born)]]⟩, _, rfl, hK, ?_⟩
        · simp only [execOp, hop, hev, Sem.run_bind, hrun, Result.andThen_ok, Sem.run_pure]
        · obtain ⟨F', ρ', q1, q2, q3, q4⟩ := hpost
          exact ⟨F', ρ', q1, q2, q3, Ext.trans ⟨.refl F, hb1.mono hm.big, fun _ _ h => .inl h⟩ q4⟩
theorem loopW_sound {γ : Array Value} {c : Code} {f : St → (AX → St → Prop) → Prop} {F0 : Facts} {w0 : World} {N : Nat}
    (body : ∀ (s : St) (K : AX → St → Prop) (a : Go.Act) (w : World) (Q : Exit → Go.Act → World → Prop), f s K → Rel γ B F0 w0 N s a w → (∀ ax s' a' w', K ax s' → Rel γ B F0 w0 N s' a' w' → Q (exitOf ax) a' w') → c.wp P Q a w) :
    ∀ (n : Nat) (s : St) (K : AX → St → Prop) (a : Go.Act) (w : World) (Q : Exit → Go.Act → World → Prop), lpW f n s K → Rel γ B F0 w0 N s a w → (∀ ax s' a' w', K ax s' → Rel γ B F0 w0 N s' a' w' → Q (exitOf ax) a' w') → (Code.loop c).wp P Q a w := by
  intro n s K a w Q h hr hQ b k cs
  have key : ∀ n s a w, lpW f n s K → Rel γ B F0 w0 N s a w → ∃ e a' w', Q e a' w' ∧ Arrives P (lone (b.at a (.code c :: .inLoop c :: k)) cs w) b k cs e a' w' := by
    intro n
    induction n with
    | zero => intro s a w h; exact h.elim
    | succ n ih =>
      intro s a w h hr
      simp only [lpW] at h
      obtain ⟨e, a1, w1, hq, harr⟩ := body s _ a w (fun e a' w' => (∃ s1, e = .normal ∧ lpW f n s1 K ∧ Rel γ B F0 w0 N s1 a' w') ∨ ∃ ax s1, ax ≠ .norm ∧ e = exitOf ax ∧ K ax s1 ∧ Rel γ B F0 w0 N s1 a' w') h hr (fun ax s' a' w' hk hr' => by
        cases ax with
        | norm => exact .inl ⟨s', rfl, hk, hr'⟩
        | ex i => exact .inr ⟨.ex i, s', by simp, rfl, hk, hr'⟩
        | ret => exact .inr ⟨.ret, s', by simp, rfl, hk, hr'⟩) b (.inLoop c :: k) cs
      rcases hq with ⟨s1, rfl, h1, hr1⟩ | ⟨ax, s1, hne, rfl, h1, hr1⟩
      · obtain ⟨e2, a2, w2, hq2, harr2⟩ := ih s1 a1 w1 h1 hr1
        exact ⟨e2, a2, w2, hq2, .of_steps (Steps.trans harr (.one step_inLoop)) harr2⟩
      · have hq := hQ ax s1 a1 w1 h1 hr1
        cases ax with
        | norm => exact (hne rfl).elim
        | ex id => exact ⟨_, a1, w1, hq, .pass (x := .inLoop c) rfl (fun _ _ => .inl (by simp [exitOf])) harr⟩
        | ret => exact ⟨_, a1, w1, hq, .pass (x := .inLoop c) rfl (fun _ _ => .inl (by simp [exitOf])) harr⟩
  obtain ⟨e, a', w', hq, harr⟩ := key n s a w h hr
  exact ⟨e, a', w', hq, .of_steps (.one step_loop) harr⟩
theorem chkAW_nxt {nm : Nat → Option Nat} {N it d : Nat} {rest : AI} {x : Code} (h : chkAW P nm N (.nxt it d rest) x = true) :
    ∃ id ops, x = .region id ops false ∧ (match ops.toList with
    | o :: l => chkNxt o it d && dstOk N [] (some d) && (match chkAI P nm N ops rest none [] [] l with | some [] => true | _ => false)
    | [] => false) = true := by
  cases x <;> try (simp [chkAW] at h; done)
  rename_i id ops dw
  cases dw
  · exact ⟨id, ops, rfl, by simpa only [chkAW] using h⟩
  · simp [chkAW] at h
theorem execW_sound {nm : Nat → Option Nat} {Γ : Env} {γ : Array Value} {F0 : Facts} {w0 : World} {N M : Nat} (hΓ : EnvOk P nm Γ) (hmix : P.follows .mixedOrders = true) (c : AW) :
    ∀ (x : Code) (s : St) (K : AX → St → Prop) (a : Go.Act) (w : World) (Q : Exit → Go.Act → World → Prop), chkAW P nm N c x = true → execW Γ M c s K → Rel γ B F0 w0 N s a w → (∀ ax s' a' w', K ax s' → Rel γ B F0 w0 N s' a' w' → Q (exitOf ax) a' w') → x.wp P Q a w := by
  induction c with
  | ac c =>
    intro x s K a w Q hc h hr hQ
    obtain ⟨ax, s', h1, h2⟩ := h
    exact exec_sound hΓ hmix c x s s' ax a w Q (by simpa only [chkAW] using hc) h1 hr fun a' w' hr' => hQ ax s' a' w' h2 hr'
  | nxt it d rest =>
    intro x s K a w Q hc h hr hQ
    obtain ⟨id, ops, rfl, hc2⟩ := chkAW_nxt hc
    refine wp_region_list ?_
    split at hc2
    case h_2 => simp at hc2
    rename_i o l hol
    simp only [Bool.and_eq_true] at hc2
    obtain ⟨⟨hn, hd⟩, hrest⟩ := hc2
    rw [hol]
    have hr0 := hr
    obtain ⟨hG, F, ρ, hm, hf, he, hN, hdf⟩ := hr0
    have hn0 := hn
    unfold chkNxt at hn0
    split at hn0
    case h_2 => simp at hn0
    rename_i nn hop
    simp only [Bool.and_eq_true, beq_iff_eq, Option.isNone_iff_eq_none] at hn0
    obtain ⟨⟨⟨⟨_, hdst⟩, hg⟩, ho1⟩, ho2⟩ := hn0
    have hw := wanted_of (ops := ops) (g := none) (o := o) (s := s) (by unfold guardOk; rw [hg]) trivial hf
    simp only [wpList, hw, if_true]
    left
    have hdN : ∀ i, o.dst = some i → i < N := fun i hi => by rw [hdst] at hi; simp only [Option.some.injEq] at hi; subst hi; simp [dstOk] at hd; exact hd
    have hdoes := does_next (P := P) (K := fun s1 v => ∃ s2, ev Γ rest (s1.put (some d) v) = some s2 ∧ K .norm s2) hm ((FrG.pad (γ := γ) (by omega)).1 hf) hn h
    refine does_pad (by omega) ho1 ho2 (fun i hi => by rw [hN]; exact hdN i hi) hdoes _ _ ?_
    rintro u w' ⟨s1, v, hfr, ⟨s2, hev, hk⟩, hp⟩
    have hr1 := Rel.put1 hG hfr he hN hdf hdN hp
    rw [hdst] at hr1 ⊢
    split at hrest
    · rename_i hchk
      exact ev_sound hΓ rest hchk hev hr1 trivial (by simp) fun a' w' hr' _ => by simp only [wpList]; exact hQ .norm s2 a' w' hk hr'
    · simp at hrest
  | seq c1 c2 ih1 ih2 =>
    intro x s K a w Q hc h hr hQ
    cases x <;> simp only [chkAW, Bool.false_eq_true] at hc
    rename_i x y
    simp only [Bool.and_eq_true] at hc
    simp only [execW] at h
    refine wp_seq ?_
    refine ih1 x s _ a w _ hc.1 h hr fun ax s1 a1 w1 hk hr1 => ?_
    cases ax with
    | norm => exact ih2 y s1 K a1 w1 Q hc.2 hk hr1 hQ
    | ex id => exact hQ (.ex id) s1 a1 w1 hk hr1
    | ret => exact hQ .ret s1 a1 w1 hk hr1
  | cond c c1 c2 ih1 ih2 =>
    intro x s K a w Q hc h hr hQ
    cases x <;> simp only [chkAW, Bool.false_eq_true] at hc
    rename_i c' x y
    simp only [Bool.and_eq_true] at hc
    simp only [execW] at h
    split at h
    · rename_i t ht
      have hr0 := hr
      obtain ⟨hG, F, ρ, hm, hf, he, hN, hdf⟩ := hr
      have hb := DR.bool_ (opd_sound ((FrG.pad (γ := γ) (by omega)).1 hf) hc.1.1.1 ht)
      rw [eval_oLt (by omega) hc.1.1.2] at hb
      refine wp_cond hb ?_
      cases t
      · exact ih2 y s K a w Q hc.2 (by simpa using h) hr0 hQ
      · exact ih1 x s K a w Q hc.1.2 (by simpa using h) hr0 hQ
    · exact h.elim
  | block id c ih =>
    intro x s K a w Q hc h hr hQ
    cases x <;> simp only [chkAW, Bool.false_eq_true] at hc
    rename_i id' x
    simp only [Bool.and_eq_true, beq_iff_eq] at hc
    obtain ⟨rfl, hc⟩ := hc
    simp only [execW] at h
    refine wp_block ?_
    refine ih x s _ a w _ hc h hr fun ax s1 a1 w1 hk hr1 => ?_
    cases ax with
    | norm => exact hQ .norm s1 a1 w1 hk hr1
    | ret => exact hQ .ret s1 a1 w1 hk hr1
    | ex i =>
      simp only at hk
      by_cases hi : i = id
      · rw [if_pos hi] at hk
        simp only [exitOf, Exit.inBlock, hi, if_true]; exact hQ .norm s1 a1 w1 hk hr1
      · rw [if_neg hi] at hk
        simp only [exitOf, Exit.inBlock, hi, if_false]; exact hQ (.ex i) s1 a1 w1 hk hr1
  | loop c ih =>
    intro x s K a w Q hc h hr hQ
    cases x <;> simp only [chkAW, Bool.false_eq_true] at hc
    rename_i x
    simp only [execW] at h
    exact loopW_sound (fun s K a w Q h hr hQ => ih x s K a w Q hc h hr hQ) M s K a w Q h hr hQ
  | keepP ks lo hi os c ih =>
    intro x s K a w Q hc h hr hQ
    have hc : chkAW P nm N c x = true := by cases x <;> simpa only [chkAW] using hc
    exact ih x _ K a w Q hc h (hr.keepP ks lo hi os) hQ
  | own d key c ih =>
    intro x s K a w Q hc h hr hQ
    have hc : key < MK ∧ chkAW P nm N c x = true := by cases x <;> simpa only [chkAW, Bool.and_eq_true, decide_eq_true_eq] using hc
    simp only [execW] at h
    split at h
    · rename_i sz hd
      exact ih x _ K a w Q hc.2 h.2 (hr.own hc.1 hd h.1) hQ
    · exact h.elim
structure AFnW where
  body : AW
  results : List Rs
  fin : Nat × Nat × List Nat
def chkFnW (P : Program) (nm : Nat → Option Nat) (f : FuncId) (F : AFnW) : Bool :=
  match P.funcs[f]? with
  | some fn => (match fn.body with | some c => chkAW P nm fn.ntmps F.body c | none => false) && chkRs P fn.results.toList F.results && decide (fn.ntmps ≤ GB)
  | none => false
/-- What such a function ends with. -/
def EndW (F : AFnW) (fr : List (Nat × AV)) (rs : List AV) (ob' : List (Nat × Obj)) (ax : AX) (s' : St) : Prop :=
  (ax = .norm ∨ ax = .ret) ∧ s'.slots F.results = some rs ∧ keepF F.fin.1 F.fin.2.1 F.fin.2.2 s'.ob = ob' ∧ ∀ i, GB ≤ i → get s'.fr i = get fr i
theorem runW_sound {nm : Nat → Option Nat} {Γ : Env} {f : FuncId} {fn : AFnW} {M : Nat} (hΓ : EnvOk P nm Γ) (hmix : P.follows .mixedOrders = true) (hc : chkFnW P nm f fn = true) (S : St → Option (List AV × List (Nat × Obj)))
    (hS : ∀ fr ob rs ob', S ⟨fr, ob⟩ = some (rs, ob') → execW Γ M fn.body ⟨fr, ob⟩ (EndW fn fr rs ob')) : SpecP P f S := by
  intro γ B F ρ fr ob w us rs ob' hlen hal hm hf h
  unfold chkFnW at hc
  split at hc
  case h_2 => simp at hc
  rename_i fn' hfn
  simp only [Bool.and_eq_true, decide_eq_true_eq] at hc
  obtain ⟨⟨hbody, hres⟩, hG⟩ := hc
  split at hbody
  case h_2 => simp at hbody
  rename_i c hcode
  have hul := hlen fn' hfn
  have hrel : Rel γ B F w fn'.ntmps ⟨fr, ob⟩ (startA fn' us) w := by
    refine ⟨hG, F, ρ, hm, ?_, .refl _ _ _, by unfold startA; simp; omega, rfl⟩
    intro i v hi
    have := hf i v hi
    unfold valG
    by_cases hiG : i < GB
    · rw [if_pos hiG] at this ⊢
      have e : (startA fn' us).tmps.getD i undef = us.getD i undef := by
        cases hu : us[i]? with
        | some u => rw [startA_getD hu, List.getD_eq_getElem?_getD, hu]; rfl
        | none =>
          rw [List.getD_eq_getElem?_getD, hu]
          have hge : us.length ≤ i := by simpa using hu
          unfold startA
          simp only [Array.getD_eq_getD_getElem?]
          rw [Array.getElem?_append_right (by simpa using hge)]
          simp only [Array.getElem?_replicate]
          split <;> rfl
      rw [e]; exact this
    · rw [if_neg hiG] at this ⊢; exact this
  refine calls_of_wp hfn hcode ?_
  refine execW_sound hΓ hmix fn.body c ⟨fr, ob⟩ _ _ w _ hbody (hS fr ob rs ob' h) hrel ?_
  rintro ax s' a' w' ⟨hax, hsl, rfl, hgh⟩ hr
  obtain ⟨_, F2, ρ2, hm2, hf2, he2, hN2, hdf2⟩ := hr
  obtain ⟨us2, hus, har⟩ := slots_run (fn := fn') hm2 hf2 hres hsl
  have hmap : (fn'.results.mapM fun | .tmp n => pure (a'.tmps.getD n undef) | .cell n ty => do loadVar ty (← asAddr (a'.tmps.getD n undef)) : Sem (Array Value)).run P w' = .ok us2.toArray w' := by
    rw [Array.mapM_eq_mapM_toList, Sem.run_map]
    exact congrArg (fun r => Result.andThen r fun (a : List Value) w' => Result.ok a.toArray w') hus
  have h2 : (results fn' a'.tmps).run P w' = ((fn'.results.mapM fun | .tmp n => pure (a'.tmps.getD n undef) | .cell n ty => do loadVar ty (← asAddr (a'.tmps.getD n undef)) : Sem (Array Value)).run P w').andThen
      fun vs w => .ok (if h : vs.size = 1 then vs[0] else .tuple vs) w := by
    unfold results; rw [Sem.run_bind]; rfl
  have hsub := get_keepF fn.fin.1 fn.fin.2.1 fn.fin.2.2 s'.ob
  have fin : bodyPost P fn' (fun e w' => ∃ qs, e = .returned (tupV qs) ∧ ∃ F' ρ', Mem B F' ρ' (keepF fn.fin.1 fn.fin.2.1 fn.fin.2.2 s'.ob) w' ∧ (∀ i v, GB ≤ i → get fr i = some v → AR F' ρ' (keepF fn.fin.1 fn.fin.2.1 fn.fin.2.2 s'.ob) v (γ.getD (i - GB) undef)) ∧ All2 (AR F' ρ' (keepF fn.fin.1 fn.fin.2.1 fn.fin.2.2 s'.ob)) rs qs ∧ Ext B F F' w w') .ret a' w' := by
    refine ⟨hdf2, tupV us2, ?_, us2, rfl, F2, ρ2, hm2.sub hsub, fun i v hi hv => ?_, har.imp fun _ _ h => h.sub hsub, he2⟩
    · rw [h2, hmap]; rfl
    have := hf2 i v (by rw [hgh i hi]; exact hv)
    rw [valG, if_neg (by omega)] at this
    exact this.sub hsub
  rcases hax with rfl | rfl
  · simpa [exitOf, bodyPost] using fin
  · simpa [exitOf] using fin
end
/-! ### What simp opens -/
def acK (K : AX → St → Prop) : Option (AX × St) → Prop
  | some (ax, s) => K ax s
  | none => False
theorem acK_some (K : AX → St → Prop) (ax : AX) (s : St) : acK K (some (ax, s)) = K ax s := rfl
theorem execW_ac (Γ : Env) (N : Nat) (c : AC) (s : St) (K : AX → St → Prop) : execW Γ N (.ac c) s K = acK K (exec Γ N c s) := by
  simp only [execW, eq_iff_iff]
  constructor
  · rintro ⟨ax, s', h1, h2⟩; rw [h1]; exact h2
  · intro h
    cases he : exec Γ N c s with
    | none => rw [he] at h; exact h.elim
    | some p => obtain ⟨ax, s'⟩ := p; rw [he] at h; exact ⟨ax, s', rfl, h⟩
def seqK (Γ : Env) (N : Nat) (b : AW) (K : AX → St → Prop) : AX → St → Prop
  | .norm, s => execW Γ N b s K
  | ax, s => K ax s
theorem seqK_norm (Γ : Env) (N : Nat) (b : AW) (K : AX → St → Prop) (s : St) : seqK Γ N b K .norm s = execW Γ N b s K := rfl
theorem seqK_ex (Γ : Env) (N : Nat) (b : AW) (K : AX → St → Prop) (i : Nat) (s : St) : seqK Γ N b K (.ex i) s = K (.ex i) s := rfl
theorem seqK_ret (Γ : Env) (N : Nat) (b : AW) (K : AX → St → Prop) (s : St) : seqK Γ N b K .ret s = K .ret s := rfl
theorem execW_seq (Γ : Env) (N : Nat) (a b : AW) (s : St) (K : AX → St → Prop) : execW Γ N (.seq a b) s K = execW Γ N a s (seqK Γ N b K) := by
  simp only [execW]
  congr 1
  funext ax s'
  cases ax <;> rfl
def blkK (id : Nat) (K : AX → St → Prop) : AX → St → Prop
  | .ex i, s => if i = id then K .norm s else K (.ex i) s
  | ax, s => K ax s
theorem blkK_norm (id : Nat) (K : AX → St → Prop) (s : St) : blkK id K .norm s = K .norm s := rfl
theorem blkK_ret (id : Nat) (K : AX → St → Prop) (s : St) : blkK id K .ret s = K .ret s := rfl
theorem blkK_ex (id i : Nat) (K : AX → St → Prop) (s : St) : blkK id K (.ex i) s = if i = id then K .norm s else K (.ex i) s := rfl
theorem execW_block (Γ : Env) (N : Nat) (id : Nat) (a : AW) (s : St) (K : AX → St → Prop) : execW Γ N (.block id a) s K = execW Γ N a s (blkK id K) := by
  simp only [execW]
  congr 1
  funext ax s'
  cases ax <;> rfl
theorem execW_keepP (Γ : Env) (N : Nat) (ks : List Nat) (lo hi : Nat) (os : List Nat) (a : AW) (s : St) (K : AX → St → Prop) : execW Γ N (.keepP ks lo hi os a) s K = execW Γ N a (nrmP ks lo hi os s) K := by simp only [execW, nrmP]
theorem execW_own (Γ : Env) (N : Nat) (d key : Nat) (a : AW) (s : St) (K : AX → St → Prop) {sz : Nat} (hd : get s.fr d = some (.nil sz)) (hf : s.free key = true) : execW Γ N (.own d key a) s K = execW Γ N a ((s.obj key ⟨sz, []⟩).put (some d) (.sl key 0 0 0)) K := by
  simp only [execW, hd, hf, true_and]
theorem execW_loop (Γ : Env) (N : Nat) (a : AW) (s : St) (K : AX → St → Prop) : execW Γ N (.loop a) s K = lpW (execW Γ N a) N s K := by simp only [execW]
theorem execW_cond (Γ : Env) (N : Nat) (c : Opd) (a b : AW) (s : St) (K : AX → St → Prop) {t : Bool} (h : s.opd c = some (.c (.bool t))) : execW Γ N (.cond c a b) s K = if t then execW Γ N a s K else execW Γ N b s K := by simp only [execW, h]
end Go.Am
