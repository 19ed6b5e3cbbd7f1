/- Code, functions. -/
import Derived.Test.YtfompdbhmbdmeaaAj
set_option linter.unusedVariables false
namespace Go.Am
open Go.RowKit

def chkAC (P : Program) (nm : Nat → Option Nat) (N : Nat) : AC → Code → Bool
  | .skip, .skip => true
  | .reg o, .region _ ops false => (match chkAI P nm N ops o none [] [] ops.toList with | some [] => true | _ => false)
  | .draw q es fs t, .region _ ops true => chkDraw P nm N q es fs t ops
  | .seq a b, .seq x y => chkAC P nm N a x && chkAC P nm N b y
  | .cond c a b, .cond c' x y => chkO c' c && chkAC P nm N a x && chkAC P nm N b y
  | .block id a, .block id' x => id == id' && chkAC P nm N a x
  | .loop a, .loop x => chkAC P nm N a x
  | .exit id, .exit id' => id == id'
  | .ret, .ret => true
  | .keep _ _ a, x => chkAC P nm N a x
  | .own _ _ a, x => chkAC P nm N a x
  | .after _ _ a, x => chkAC P nm N a x
  | .any, _ => true
  | _, _ => false
theorem chkAC_reg {P : Program} {nm : Nat → Option Nat} {N : Nat} {o : AI} {x : Code} (h : chkAC P nm N (.reg o) x = true) :
    ∃ id ops, x = .region id ops false ∧ (match chkAI P nm N ops o none [] [] ops.toList with | some [] => true | _ => false) = true := by
  cases x <;> try (simp [chkAC] at h; done)
  rename_i id ops dw
  cases dw
  · exact ⟨id, ops, rfl, by simpa only [chkAC] using h⟩
  · simp [chkAC] at h
theorem chkAC_draw {P : Program} {nm : Nat → Option Nat} {N : Nat} {q : List DIt} {es : List (Nat × Nat × List AV)} {fs : List Eff} {t : AI} {x : Code} (h : chkAC P nm N (.draw q es fs t) x = true) : ∃ id ops, x = .region id ops true ∧ chkDraw P nm N q es fs t ops = true := by
  cases x <;> try (simp [chkAC] at h; done)
  rename_i id ops dw
  cases dw
  · simp [chkAC] at h
  · exact ⟨id, ops, rfl, by simpa only [chkAC] using h⟩
def exitOf : AX → Exit
  | .norm => .normal
  | .ex id => .exit id
  | .ret => .ret

section
variable {P : Program} {B : Nat} {F F' : Facts} {ρ ρ' : Map} {s : St} {a : Go.Act} {w w' : World} {o : Oper} {ob ob' : List (Nat × Obj)}
theorem Mem.sub (hm : Mem B F ρ ob w) (hs : ∀ k o, get ob' k = some o → get ob k = some o) : Mem B F ρ ob' w where
  facts := hm.facts
  big := hm.big
  bare := fun k o h => hm.bare k o (hs k o h)
  own := fun k o p h1 h2 => by
    obtain ⟨g1, g2, g3, g4, cs, et, hh, g5, g6⟩ := hm.own k o p (hs k o h1) h2
    refine ⟨g1, g2, g3, g4, cs, et, hh, g5, fun i r j x hi hj => ?_⟩
    obtain ⟨h3, u, h4, h5⟩ := g6 i r j x hi hj
    exact ⟨h3, u, h4, h5.sub hs⟩
  apart := fun k o p h1 h2 => hm.apart k o p (hs k o h1) h2
  inj := fun k o p k' o' p' h1 h2 h3 h4 => hm.inj k o p k' o' p' (hs k o h1) h2 (hs k' o' h3) h4
theorem Rel.keep {F0 : Facts} {w0 : World} {N : Nat} (ks os : List Nat) (h : Rel B F0 w0 N s a w) : Rel B F0 w0 N ⟨Am.keep ks s.fr, Am.keep os s.ob⟩ a w := by
  obtain ⟨F, ρ, hm, hf, r⟩ := h
  exact ⟨F, ρ, hm.sub (get_keep s.ob os), (fun i v hi => hf i v (get_keep s.fr ks i v hi) |>.sub (get_keep s.ob os)), r⟩
theorem Rel.own {F0 : Facts} {w0 : World} {N d key sz : Nat} (h : Rel B F0 w0 N s a w) (hd : get s.fr d = some (.nil sz)) (hfree : s.free key = true) : Rel B F0 w0 N ((s.obj key ⟨sz, []⟩).put (some d) (.sl key 0 0 0)) a w := by
  obtain ⟨F, ρ, hm, hf, he, hN, hdf⟩ := h
  refine ⟨F, updM ρ key none, hm.newBare hfree, fun i v hi => ?_, he, hN, hdf⟩
  simp only [St.put, get_cons] at hi
  by_cases hdi : d = i
  · subst hdi
    simp only [if_true, Option.some.injEq] at hi; subst hi
    obtain ⟨b, hb⟩ := hf d _ hd
    intro o ho
    have : get (s.obj key ⟨sz, []⟩).ob key = some o := ho
    rw [obj_same] at this; simp only [Option.some.injEq] at this; subst this
    exact ⟨by simp, fun _ _ => by unfold SlR; rw [updM_same]; exact ⟨rfl, b, hb⟩⟩
  · rw [if_neg hdi] at hi
    exact (free_ar (F := F) (ρ := ρ) (a := a) hfree).2 hf i v hi

theorem loop_sound {c : Code} {f : St → Option (AX × St)} {F0 : Facts} {w0 : World} {N : Nat} {Q : Exit → Go.Act → World → Prop}
    (body : ∀ (s s' : St) (ax : AX) (a : Go.Act) (w : World) (Q : Exit → Go.Act → World → Prop), f s = some (ax, s') → Rel B F0 w0 N s a w → (∀ a' w', Rel B F0 w0 N s' a' w' → Q (exitOf ax) a' w') → c.wp P Q a w) :
    ∀ (n : Nat) (s s' : St) (ax : AX) (a : Go.Act) (w : World), lp f n s = some (ax, s') → Rel B F0 w0 N s a w → (∀ a' w', Rel B F0 w0 N s' a' w' → Q (exitOf ax) a' w') → (Code.loop c).wp P Q a w := by
  intro n s s' ax a w h hr hQ b k cs
  have hax : ∀ n s, lp f n s = some (ax, s') → ax ≠ .norm := by
    intro n
    induction n with
    | zero => intro s h; simp [lp] at h
    | succ n ih =>
      intro s h
      simp only [lp] at h
      split at h
      · exact ih _ h
      · rename_i hne
        rintro rfl
        exact hne _ h
  have key : ∀ n s a w, lp f n s = some (ax, s') → Rel B F0 w0 N s a w → ∃ e a' w', Q e a' w' ∧ Arrives P (lone (b.at a (.code c :: .inLoop c :: k)) cs w) b k cs e a' w' := by
    intro n
    induction n with
    | zero => intro s a w h; simp [lp] at h
    | succ n ih =>
      intro s a w h hr
      simp only [lp] at h
      split at h
      · rename_i s1 h1
        obtain ⟨e, a1, w1, hq, harr⟩ := body s s1 .norm a w (Exit.then (fun a' w' => Rel B F0 w0 N s1 a' w') fun _ _ _ => False) h1 hr (fun a' w' hr' => hr') b (.inLoop c :: k) cs
        cases e with
        | normal =>
          obtain ⟨e2, a2, w2, hq2, harr2⟩ := ih s1 a1 w1 h hq
          exact ⟨e2, a2, w2, hq2, .of_steps (Steps.trans harr (.one step_inLoop)) harr2⟩
        | exit id => exact hq.elim
        | goto l => exact hq.elim
        | ret => exact hq.elim
        | panic ch => exact hq.elim
        | outgrown => exact hq.elim
      · rename_i hne
        have hnn : ax ≠ .norm := by rintro rfl; exact hne _ h
        obtain ⟨e, a1, w1, hq, harr⟩ := body s s' ax a w (fun e a' w' => e = exitOf ax ∧ Q e a' w') h hr (fun a' w' hr' => ⟨rfl, hQ a' w' hr'⟩) b (.inLoop c :: k) cs
        obtain ⟨rfl, hq⟩ := hq
        cases ax with
        | norm => exact (hnn rfl).elim
        | ex id => exact ⟨_, a1, w1, hq, .pass (x := .inLoop c) rfl (fun _ _ => .inl (by simp [exitOf])) harr⟩
        | ret => exact ⟨_, a1, w1, hq, .pass (x := .inLoop c) rfl (fun _ _ => .inl (by simp [exitOf])) harr⟩
  obtain ⟨e, a', w', hq, harr⟩ := key n s a w h hr
  exact ⟨e, a', w', hq, .of_steps (.one step_loop) harr⟩

theorem exec_sound {nm : Nat → Option Nat} {Γ : Env} {F0 : Facts} {w0 : World} {N M : Nat} (hΓ : ∀ f g, nm f = some g → Spec P g (Γ f)) (hmix : P.follows .mixedOrders = true) (c : AC) :
    ∀ (x : Code) (s s' : St) (ax : AX) (a : Go.Act) (w : World) (Q : Exit → Go.Act → World → Prop), chkAC P nm N c x = true → exec Γ M c s = some (ax, s') → Rel B F0 w0 N s a w → (∀ a' w', Rel B F0 w0 N s' a' w' → Q (exitOf ax) a' w') → x.wp P Q a w := by
  induction c with
  | skip =>
    intro x s s' ax a w Q hc h hr hQ
    cases x <;> simp only [chkAC, Bool.false_eq_true] at hc
    simp only [exec, Option.some.injEq, Prod.mk.injEq] at h
    obtain ⟨rfl, rfl⟩ := h
    exact wp_skip (hQ a w hr)
  | reg o =>
    intro x s s' ax a w Q hc h hr hQ
    obtain ⟨id, ops, rfl, hc2⟩ := chkAC_reg hc
    split at hc2
    · rename_i hchk
      simp only [exec, Option.map_eq_some_iff, Prod.mk.injEq] at h
      obtain ⟨s1, h1, rfl, rfl⟩ := h
      exact wp_region_list (ev_sound hΓ o hchk h1 hr trivial (by simp) fun a' w' hr' _ => by simp only [wpList]; exact hQ a' w' hr')
    · simp at hc2
  | draw q es fs t =>
    intro x s s' ax a w Q hc h hr hQ
    obtain ⟨id, ops, rfl, hc2⟩ := chkAC_draw hc
    simp only [exec] at h
    split at h
    case h_2 => simp at h
    rename_i s0 h0
    split at h
    case h_2 => simp at h
    rename_i s1 h1
    split at h
    case isFalse => simp at h
    rename_i hok
    split at h
    case h_2 => simp at h
    rename_i s3 h3
    simp only [Option.map_eq_some_iff, Prod.mk.injEq] at h
    obtain ⟨s2, h2, rfl, rfl⟩ := h
    exact draw_sound hΓ hmix hc2 h0 h1 hok h3 h2 hr hQ
  | after ks os c ih =>
    intro x s s' ax a w Q hc h hr hQ
    have hc : chkAC P nm N c x = true := by cases x <;> simpa only [chkAC] using hc
    simp only [exec] at h
    split at h
    · rename_i s1 h1
      simp only [Option.some.injEq, Prod.mk.injEq] at h
      obtain ⟨rfl, rfl⟩ := h
      exact ih x s s1 .norm a w Q hc h1 hr fun a1 w1 hr1 => hQ a1 w1 (hr1.keep ks os)
    · exact ih x s s' ax a w Q hc h hr hQ
  | any =>
    intro x s s' ax a w Q hc h hr hQ
    simp [exec] at h
  | seq c1 c2 ih1 ih2 =>
    intro x s s' ax a w Q hc h hr hQ
    cases x <;> simp only [chkAC, Bool.false_eq_true] at hc
    rename_i x y
    simp only [Bool.and_eq_true] at hc
    simp only [exec] at h
    refine wp_seq ?_
    split at h
    · rename_i s1 h1
      exact ih1 x s s1 .norm a w _ hc.1 h1 hr fun a1 w1 hr1 => ih2 y s1 s' ax a1 w1 Q hc.2 h hr1 hQ
    · rename_i hne
      refine ih1 x s s' ax a w _ hc.1 h hr fun a1 w1 hr1 => ?_
      cases ax with
      | norm => exact (hne _ h).elim
      | ex id => exact hQ a1 w1 hr1
      | ret => exact hQ a1 w1 hr1
  | cond c c1 c2 ih1 ih2 =>
    intro x s s' ax a w Q hc h hr hQ
    cases x <;> simp only [chkAC, Bool.false_eq_true] at hc
    rename_i c' x y
    simp only [Bool.and_eq_true] at hc
    simp only [exec] at h
    split at h
    · rename_i t ht
      have hr0 := hr
      obtain ⟨F, ρ, hm, hf, he, hN, hdf⟩ := hr
      have hb := DR.bool_ (opd_sound hf hc.1.1 ht)
      refine wp_cond hb ?_
      cases t
      · exact ih2 y s s' ax a w Q hc.2 (by simpa using h) hr0 hQ
      · exact ih1 x s s' ax a w Q hc.1.2 (by simpa using h) hr0 hQ
    · simp at h
  | block id c ih =>
    intro x s s' ax a w Q hc h hr hQ
    cases x <;> simp only [chkAC, Bool.false_eq_true] at hc
    rename_i id' x
    simp only [Bool.and_eq_true, beq_iff_eq] at hc
    obtain ⟨rfl, hc⟩ := hc
    simp only [exec] at h
    refine wp_block ?_
    split at h
    · rename_i i s1 h1
      split at h
      · rename_i hi; subst hi
        simp only [Option.some.injEq, Prod.mk.injEq] at h
        obtain ⟨rfl, rfl⟩ := h
        exact ih x s s1 (.ex i) a w _ hc h1 hr fun a1 w1 hr1 => by simp only [exitOf, Exit.inBlock, if_true]; exact hQ a1 w1 hr1
      · rename_i hi
        simp only [Option.some.injEq, Prod.mk.injEq] at h
        obtain ⟨rfl, rfl⟩ := h
        exact ih x s s1 (.ex i) a w _ hc h1 hr fun a1 w1 hr1 => by simp only [exitOf, Exit.inBlock, hi, if_false]; exact hQ a1 w1 hr1
    · rename_i hne
      refine ih x s s' ax a w _ hc h hr fun a1 w1 hr1 => ?_
      cases ax with
      | norm => exact hQ a1 w1 hr1
      | ex i => exact (hne _ _ h).elim
      | ret => exact hQ a1 w1 hr1
  | loop c ih =>
    intro x s s' ax a w Q hc h hr hQ
    cases x <;> simp only [chkAC, Bool.false_eq_true] at hc
    rename_i x
    simp only [exec] at h
    exact loop_sound (fun s s' ax a w Q h hr hQ => ih x s s' ax a w Q hc h hr hQ) M s s' ax a w h hr hQ
  | exit id =>
    intro x s s' ax a w Q hc h hr hQ
    cases x <;> simp only [chkAC, Bool.false_eq_true] at hc
    rename_i id'
    simp only [beq_iff_eq] at hc; subst hc
    simp only [exec, Option.some.injEq, Prod.mk.injEq] at h
    obtain ⟨rfl, rfl⟩ := h
    exact wp_exit (hQ a w hr)
  | ret =>
    intro x s s' ax a w Q hc h hr hQ
    cases x <;> simp only [chkAC, Bool.false_eq_true] at hc
    simp only [exec, Option.some.injEq, Prod.mk.injEq] at h
    obtain ⟨rfl, rfl⟩ := h
    exact wp_ret (hQ a w hr)
  | keep ks os c ih =>
    intro x s s' ax a w Q hc h hr hQ
    have hc : chkAC P nm N c x = true := by cases x <;> simpa only [chkAC] using hc
    simp only [exec] at h
    exact ih x _ s' ax a w Q hc h (hr.keep ks os) hQ
  | own d key c ih =>
    intro x s s' ax a w Q hc h hr hQ
    have hc : chkAC P nm N c x = true := by cases x <;> simpa only [chkAC] using hc
    simp only [exec] at h
    split at h
    · rename_i sz hd
      split at h
      · rename_i hfree
        exact ih x _ s' ax a w Q hc h (hr.own hd hfree) hQ
      · simp at h
    · simp at h

/-! ### A function -/
def chkRs (P : Program) : List ResultVar → List Rs → Bool
  | [], [] => true
  | .tmp t :: xs, .t n :: ys => t == n && chkRs P xs ys
  | .cell t ty :: xs, .m n sz ag :: ys => t == n && sized P ty sz && agOk P ty ag && (ag || sz == 1) && chkRs P xs ys
  | _, _ => false
def chkFn (P : Program) (nm : Nat → Option Nat) (f : FuncId) (F : AFn) (n : Nat) : Bool :=
  match P.funcs[f]? with
  | some fn => (match fn.body with | some c => chkAC P nm fn.ntmps F.body c | none => false) && chkRs P fn.results.toList F.results && decide (n ≤ fn.ntmps)
  | none => false
theorem get_args : ∀ (vs : List AV) (k i : Nat) (v : AV), get (args k vs) i = some v → k ≤ i ∧ vs[i - k]? = some v
  | [], k, i, v, h => by simp [args, get] at h
  | x :: vs, k, i, v, h => by
    simp only [args, get] at h
    split at h
    · rename_i hk; subst hk; simp at h; subst h; simp
    · rename_i hk
      obtain ⟨h1, h2⟩ := get_args vs (k + 1) i v h
      refine ⟨by omega, ?_⟩
      rw [show i - k = (i - (k + 1)) + 1 by omega]
      simpa using h2
/-- The address in a slot, loaded. -/
theorem load_run {x v : AV} {sz : Nat} {ag : Bool} {ty : TypeId} {u : Value} (hm : Mem B F ρ s.ob w) (hr : AR F ρ s.ob x u) (hsz : sized P ty sz = true) (hag : agOk P ty ag = true) (h11 : ag = false → sz = 1) (h : s.load x sz ag = some v) :
    ∃ y, (do loadVar ty (← asAddr u)).run P w = .ok y w ∧ AR F ρ s.ob v y := by
  -- through the operation
  let o : Oper := { dst := some 0, op := .load ty (.tmp 0), type := 0, pos := "", after := #[], guard := none }
  let a : Go.Act := { tmps := #[u], defers := [] }
  have hf : Fr F ρ s.ob [(0, x)] a := by
    intro i y hi
    simp only [get] at hi
    split at hi
    · rename_i h0; subst h0; simp only [Option.some.injEq] at hi; subst hi; exact hr
    · simp at hi
  have hd := does_ld (P := P) (s := ⟨[(0, x)], s.ob⟩) (o := o) (a := a) (sz := sz) (ag := ag) (x := .t 0) (p := x) (v := v) hm hf (by simp [chkLd, o, chkO, hsz, hag]; cases ag <;> simp_all) (by simp [St.opd, get])
    (by simpa [St.load] using h)
  have := hd (fun a' w' => w' = w ∧ ∃ y, a' = a.put (some 0) y ∧ AR F ρ s.ob v y) (fun _ _ _ => False) (fun y w' hy => ⟨hy.1, y, rfl, hy.2⟩)
  unfold Oper.wp at this
  have hex : (execOp a.eval o).run P w = ((do loadVar ty (← Instr.sureAddr u)).run P w).andThen fun y w' => .ok (.value y) w' := by
    simp [execOp, o, a, Instr.loadAt, Go.Act.eval]
    generalize (Instr.sureAddr u).run P w = r
    cases r <;> rfl
  rw [hex] at this
  have hsure : ∃ ad, u = .pointer (some ad) := by
    unfold St.load at h
    split at h
    · obtain ⟨ad, _, rfl, _⟩ := hr; exact ⟨_, rfl⟩
    · split at h
      · simp at h
      · rename_i ob hob
        obtain ⟨p, _, rfl⟩ := hr ob hob
        exact ⟨_, rfl⟩
    · simp at h
  obtain ⟨ad, rfl⟩ := hsure
  have e1 : (do loadVar ty (← Instr.sureAddr (.pointer (some ad)))).run P w = (loadVar ty ad).run P w := by simp [sureAddr_ok]
  have e2 : (do loadVar ty (← asAddr (.pointer (some ad)))).run P w = (loadVar ty ad).run P w := by simp [asAddr]
  rw [e1] at this
  rw [e2]
  cases hl : (loadVar ty ad).run P w with
  | ok y w' =>
    rw [hl] at this
    simp only [Result.andThen_ok, Oper.upon] at this
    obtain ⟨rfl, y', hy', har⟩ := this
    refine ⟨y, rfl, ?_⟩
    have : y = y' := by
      have h0 := congrArg (fun (b : Go.Act) => b.tmps.getD 0 undef) hy'
      simpa [o, Go.Act.put, a] using h0
    rw [this]; exact har
  | halt x w' =>
    rw [hl] at this
    simp only [Result.andThen_halt] at this
    cases x <;> simp only [Oper.upon] at this <;> exact this.elim

theorem slots_run {fn : Func} (hm : Mem B F ρ s.ob w) {t : Go.Act} (hf : Fr F ρ s.ob s.fr t) : ∀ {xs : List ResultVar} {ys : List Rs} {rs : List AV}, chkRs P xs ys = true → s.slots ys = some rs →
    ∃ us : List Value, (xs.mapM fun | .tmp n => pure (t.tmps.getD n undef) | .cell n ty => do loadVar ty (← asAddr (t.tmps.getD n undef)) : Sem (List Value)).run P w = .ok us w ∧ All2 (AR F ρ s.ob) rs us
  | [], [], rs, _, h => by simp only [St.slots, Option.some.injEq] at h; subst h; exact ⟨[], by simp, .nil⟩
  | .tmp n :: xs, .t m :: ys, rs, hc, h => by
    simp only [chkRs, Bool.and_eq_true, beq_iff_eq] at hc
    obtain ⟨rfl, hc⟩ := hc
    simp only [St.slots] at h
    split at h
    · rename_i v vs h1 h2
      simp only [Option.some.injEq] at h; subst h
      obtain ⟨us, hus, hall⟩ := slots_run (fn := fn) hm hf hc h2
      exact ⟨_ :: us, by simp only [List.mapM_cons, Sem.run_bind, Sem.run_pure, Result.andThen_ok, hus], .cons (hf n v h1) hall⟩
    · simp at h
  | .cell n ty :: xs, .m m sz ag :: ys, rs, hc, h => by
    simp only [chkRs, Bool.and_eq_true, beq_iff_eq, Bool.or_eq_true] at hc
    obtain ⟨⟨⟨⟨rfl, hsz⟩, hag⟩, h11⟩, hc⟩ := hc
    simp only [St.slots] at h
    split at h
    · rename_i x hx
      split at h
      · rename_i v vs h1 h2
        simp only [Option.some.injEq] at h; subst h
        obtain ⟨us, hus, hall⟩ := slots_run (fn := fn) hm hf hc h2
        obtain ⟨y, hy, har⟩ := load_run (P := P) hm (hf n x hx) hsz hag (fun h0 => by simpa [h0] using h11) h1
        refine ⟨y :: us, ?_, .cons har hall⟩
        simp only [List.mapM_cons, Sem.run_bind] at hy ⊢
        rw [hy]
        simp only [Result.andThen_ok, hus, Sem.run_pure]
      · simp at h
    · simp at h
  | [], _ :: _, _, hc, _ => by simp [chkRs] at hc
  | .tmp _ :: _, [], _, hc, _ => by simp [chkRs] at hc
  | .cell _ _ :: _, [], _, hc, _ => by simp [chkRs] at hc
  | .tmp _ :: _, .m .. :: _, _, hc, _ => by simp [chkRs] at hc
  | .cell _ _ :: _, .t _ :: _, _, hc, _ => by simp [chkRs] at hc
theorem run_sound {nm : Nat → Option Nat} {Γ : Env} {f : FuncId} {fn : AFn} {n M : Nat} (hΓ : ∀ f g, nm f = some g → Spec P g (Γ f)) (hmix : P.follows .mixedOrders = true)
    (hc : chkFn P nm f fn n = true) : Spec P f fun ds => if ds.length = n then run Γ M fn ds else none := by
  intro F0 w0 ds vs rs hok hall h
  simp only at h
  split at h
  case isFalse => simp at h
  rename_i hlen
  unfold chkFn at hc
  split at hc
  case h_2 => simp at hc
  rename_i fn' hfn
  simp only [Bool.and_eq_true, decide_eq_true_eq] at hc
  obtain ⟨⟨hbody, hres⟩, hn⟩ := hc
  split at hbody
  case h_2 => simp at hbody
  rename_i c hcode
  have hvl : vs.length = n := by rw [← hall.length, hlen]
  refine calls_of_wp hfn hcode ?_
  -- the state at the start
  have hrel : Rel w0.heap.size F0 w0 fn'.ntmps ⟨args 0 ds, []⟩ { tmps := vs.toArray ++ Array.replicate (fn'.ntmps - vs.toArray.size) undef, defers := [] } w0 := by
    refine ⟨F0, fun _ => none, ⟨hok, Nat.le_refl _, ?_, ?_, ?_, ?_⟩, ?_, .refl _ _ _, ?_, rfl⟩
    · intro k o h; simp [get] at h
    · intro k o p h; simp [get] at h
    · intro k o p h; simp [get] at h
    · intro k o p k' o' p' h; simp [get] at h
    · intro i v hi
      obtain ⟨_, hv⟩ := get_args ds 0 i v hi
      obtain ⟨u, hu, hr⟩ := hall.get? i v (by simpa using hv)
      have hil := (List.getElem?_eq_some_iff.1 hu).1
      have : (vs.toArray ++ Array.replicate (fn'.ntmps - vs.toArray.size) undef).getD i undef = u := by
        rw [Array.getD_eq_getD_getElem?, Array.getElem?_append_left (by simpa using hil)]
        simp [hu]
      simp only [this]
      exact AR.of_RR hr
    · simp; omega
  unfold run at h
  have fin : ∀ s', ((match s'.slots fn.results with | some rs => (s'.frzs rs).map (·.1) | none => none) = some rs) → ∀ a' w', Rel w0.heap.size F0 w0 fn'.ntmps s' a' w' → bodyPost P fn' (fun e w' => ∃ u, e = .returned u ∧ ∃ F' : Facts, F'.ok w' ∧ F0.le F' ∧ Below w0.heap.size w0 w' ∧ (∀ a v, F' a v → F0 a v ∨ w0.heap.size ≤ a.block) ∧ RetR F' rs u) .ret a' w' := by
    intro s' hs a' w' hr
    obtain ⟨F, ρ, hm, hf, he, hN, hdf⟩ := hr
    split at hs
    · rename_i qs hqs
      simp only [Option.map_eq_some_iff] at hs
      obtain ⟨⟨rs', ks⟩, hfrz, rfl⟩ := hs
      obtain ⟨us, hus, har⟩ := slots_run (fn := fn') hm hf hres hqs
      have hrr := frzs_sound hm hfrz har
      have hmap : (fn'.results.mapM fun | .tmp n => pure (a'.tmps.getD n undef) | .cell n ty => do loadVar ty (← asAddr (a'.tmps.getD n undef)) : Sem (Array Value)).run P w' = .ok us.toArray w' := by
        rw [Array.mapM_eq_mapM_toList, Sem.run_map, hus]; rfl
      refine ⟨hdf, if h : us.toArray.size = 1 then us.toArray[0] else .tuple us.toArray, ?_, _, rfl, FrzF F ρ s'.ob ks w', FrzF.ok hm.facts, he.le.trans FrzF.le, he.below, fun ad v hv => ?_, ?_⟩
      · have h2 : (results fn' a'.tmps).run P w' = ((fn'.results.mapM fun | .tmp n => pure (a'.tmps.getD n undef) | .cell n ty => do loadVar ty (← asAddr (a'.tmps.getD n undef)) : Sem (Array Value)).run P w').andThen
            fun vs w => .ok (if h : vs.size = 1 then vs[0] else .tuple vs) w := by
          unfold results; rw [Sem.run_bind]; rfl
        rw [h2, hmap]; rfl
      · rcases FrzF.new hm hv with h1 | h1
        · exact he.new ad v h1
        · exact .inr h1
      · clear hmap hus har
        match rs', us, hrr with
        | [], [], _ => exact ⟨[], by simp, .nil⟩
        | [r], [u], .cons h1 .nil => simpa [RetR] using h1
        | r1 :: r2 :: rs, u1 :: u2 :: us, h => exact ⟨u1 :: u2 :: us, by simp, h⟩
    · simp at hs
  split at h
  · rename_i s' hex
    exact exec_sound hΓ hmix fn.body c _ s' .norm _ w0 _ hbody hex hrel fun a' w' hr => by simpa [exitOf, bodyPost] using fin s' h a' w' hr
  · rename_i s' hex
    exact exec_sound hΓ hmix fn.body c _ s' .ret _ w0 _ hbody hex hrel fun a' w' hr => by simpa [exitOf] using fin s' h a' w' hr
  · simp at h
end
end Go.Am
