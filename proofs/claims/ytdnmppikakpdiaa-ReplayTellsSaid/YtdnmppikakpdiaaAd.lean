/- Operations that change memory. -/
import Derived.Test.YtdnmppikakpdiaaAc
import Derived.Deep.AppendSrc
set_option linter.unusedVariables false
set_option linter.unusedSimpArgs false
namespace Go.Am
open Go.RowKit
section
variable {P : Program} {B : Nat} {F F' : Facts} {ρ ρ' : Map} {s : St} {a : Go.Act} {w w' : World} {o : Oper} {ob ob' : List (Nat × Obj)}

theorem cell?_lt {w : World} {a : Addr} {u : Value} (h : w.cell? a = some u) : a.block < w.heap.size := by
  unfold World.cell? at h
  split at h
  · rename_i hh; exact (Array.getElem?_eq_some_iff.1 hh).1
  · simp at h
theorem Facts.ok.below (h : F.ok w) (hb : Below w.heap.size w w') : F.ok w' := ⟨fun a u hu => by
  rw [hb.cell (cell?_lt (h a u hu))]; exact h a u hu, h.glob⟩
theorem Mem.lt (hm : Mem B F ρ ob w) {key : Nat} {o : Obj} {p : Place} (h1 : get ob key = some o) (h2 : ρ key = some p) : p.g < w.heap.size := by
  obtain ⟨x, hh⟩ := (hm.own key o p h1 h2).2.some
  exact (Array.getElem?_eq_some_iff.1 hh).1
theorem Mem.below (hm : Mem B F ρ ob w) (hb : Below w.heap.size w w') : Mem B F ρ ob w' where
  facts := hm.facts.below hb
  big := Nat.le_trans hm.big hb.size
  bare := hm.bare
  own := fun key o p h1 h2 => by
    rw [hb.block _ (hm.lt h1 h2)]; exact hm.own key o p h1 h2
  apart := hm.apart
  inj := hm.inj

/-- What is left of the objects. -/
theorem AR1.sub {x : AV} {v : Value} (hs : ∀ k o, get ob' k = some o → get ob k = some o) (h : AR1 F ρ ob x v) : AR1 F ρ ob' x v := by
  cases x <;> simp only [AR1] at h ⊢
  · exact h
  · exact h
  · exact h
  · exact ⟨h.1, fun o ho => h.2 o (hs _ _ ho)⟩
  · exact ⟨h.1, fun o ho => h.2 o (hs _ _ ho)⟩
  · exact h
  · exact h
  · exact ⟨h.1, h.2.1, fun o ho => h.2.2 o (hs _ _ ho)⟩
  · exact ⟨h.1, fun o ho => h.2 o (hs _ _ ho)⟩
theorem AR.sub {x : AV} {v : Value} (hs : ∀ k o, get ob' k = some o → get ob k = some o) (h : AR F ρ ob x v) : AR F ρ ob' x v :=
  h.lift _ x.all1_true fun _ _ _ h => h.sub hs
theorem Fr.sub {fr : List (Nat × AV)} (hs : ∀ k o, get ob' k = some o → get ob k = some o) (h : Fr F ρ ob fr a) : Fr F ρ ob' fr a := fun i v hi => (h i v hi).sub hs
theorem Fr.mono {fr : List (Nat × AV)} (hF : F.le F') (h : Fr F ρ ob fr a) : Fr F' ρ ob fr a := fun i v hi => (h i v hi).mono hF
/-- Another object at a key that nobody names. -/
theorem AR1.upd {x : AV} {v : Value} {key : Nat} (hn : x.names1 key = false) (hρ : ∀ k, k ≠ key → ρ' k = ρ k) (ho : ∀ k, k ≠ key → get ob' k = get ob k) (h : AR1 F ρ ob x v) : AR1 F ρ' ob' x v := by
  cases x <;> simp only [AR1] at h ⊢
  · exact h
  · exact h
  · exact h
  · rename_i k ver start len
    have hk : k ≠ key := by simpa [AV.names1] using hn
    refine ⟨h.1, fun o hob => ?_⟩
    rw [ho k hk] at hob
    refine ⟨(h.2 o hob).1, fun h1 h2 => ?_⟩
    have := (h.2 o hob).2 h1 h2
    unfold SlR at this ⊢
    rw [hρ k hk]; exact this
  · rename_i k row off
    have hk : k ≠ key := by simpa [AV.names1] using hn
    refine ⟨h.1, fun o hob => ?_⟩
    rw [ho k hk] at hob
    obtain ⟨p, hp, hv⟩ := h.2 o hob
    exact ⟨p, by rw [hρ k hk]; exact hp, hv⟩
  · exact h
  · exact h
  · rename_i k
    have hk : k ≠ key := by simpa [AV.names1] using hn
    refine ⟨h.1, h.2.1, fun o hob => ?_⟩
    rw [ho k hk] at hob
    obtain ⟨p, hp, hv⟩ := h.2.2 o hob
    exact ⟨p, by rw [hρ k hk]; exact hp, hv⟩
  · rename_i k
    have hk : k ≠ key := by simpa [AV.names1] using hn
    refine ⟨h.1, fun o hob => ?_⟩
    rw [ho k hk] at hob
    obtain ⟨p, hp, hv⟩ := h.2 o hob
    exact ⟨p, by rw [hρ k hk]; exact hp, hv⟩
theorem AR.upd {x : AV} {v : Value} {key : Nat} (hn : x.names key = false) (hρ : ∀ k, k ≠ key → ρ' k = ρ k) (ho : ∀ k, k ≠ key → get ob' k = get ob k) (h : AR F ρ ob x v) : AR F ρ' ob' x v :=
  h.lift _ (AV.all1_names hn) fun _ _ hn h => h.upd hn hρ ho
/-- The same objects, of the same lengths. -/
theorem AR1.same {x : AV} {v : Value} (hl : ∀ k o', get ob' k = some o' → ∃ o, get ob k = some o ∧ (k < MK → o.rows.length = o'.rows.length)) (h : AR1 F ρ ob x v) : AR1 F ρ ob' x v := by
  cases x <;> simp only [AR1] at h ⊢
  · exact h
  · exact h
  · exact h
  · refine ⟨h.1, fun o' ho' => ?_⟩
    obtain ⟨o, ho, hlen⟩ := hl _ _ ho'
    rw [← hlen h.1]; exact h.2 o ho
  · refine ⟨h.1, fun o' ho' => ?_⟩
    obtain ⟨o, ho, hlen⟩ := hl _ _ ho'
    exact h.2 o ho
  · exact h
  · exact h
  · refine ⟨h.1, h.2.1, fun o' ho' => ?_⟩
    obtain ⟨o, ho, hlen⟩ := hl _ _ ho'
    exact h.2.2 o ho
  · refine ⟨h.1, fun o' ho' => ?_⟩
    obtain ⟨o, ho, hlen⟩ := hl _ _ ho'
    exact h.2 o ho
theorem AR.same {x : AV} {v : Value} (hl : ∀ k o', get ob' k = some o' → ∃ o, get ob k = some o ∧ (k < MK → o.rows.length = o'.rows.length)) (h : AR F ρ ob x v) : AR F ρ ob' x v :=
  h.lift _ x.all1_true fun _ _ _ h => h.same hl
/-- An object that has grown, perhaps elsewhere. -/
theorem AR1.more {x : AV} {v : Value} {key : Nat} {o0 o1 : Obj} (hK : key < MK) (hn : x.isLoc1 key = false) (hρ : ∀ k, k ≠ key → ρ' k = ρ k) (ho : ∀ k, k ≠ key → get ob' k = get ob k) (h0 : get ob key = some o0) (h1 : get ob' key = some o1) (hlt : o0.rows.length < o1.rows.length)
    (h : AR1 F ρ ob x v) : AR1 F ρ' ob' x v := by
  by_cases hx : x.names1 key = false
  · exact h.upd hx hρ ho
  · cases x <;> simp only [AV.names1, Bool.not_eq_false, beq_iff_eq, reduceCtorEq, not_true_eq_false, Bool.false_eq_true] at hx
    · rename_i k ver start len
      subst hx
      refine ⟨h.1, fun o ho' => ?_⟩
      rw [h1] at ho'; simp only [Option.some.injEq] at ho'; subst ho'
      have := (h.2 o0 h0).1
      exact ⟨by omega, fun hl => by omega⟩
    · simp [AV.isLoc1, hx] at hn
    · subst hx; have := h.1; omega
    · subst hx; have := h.1; omega
theorem AR.more {x : AV} {v : Value} {key : Nat} {o0 o1 : Obj} (hK : key < MK) (hn : x.isLoc key = false) (hρ : ∀ k, k ≠ key → ρ' k = ρ k) (ho : ∀ k, k ≠ key → get ob' k = get ob k) (h0 : get ob key = some o0) (h1 : get ob' key = some o1) (hlt : o0.rows.length < o1.rows.length)
    (h : AR F ρ ob x v) : AR F ρ' ob' x v :=
  h.lift _ (AV.all1_isLoc hn) fun _ _ hn h => h.more hK hn hρ ho h0 h1 hlt

/-- What an operation that changes memory leaves. -/
structure Ext (B : Nat) (F F' : Facts) (w w' : World) : Prop where
  le : F.le F'
  below : Below B w w'
  new : ∀ a u, F' a u → F a u ∨ B ≤ a.block
theorem Ext.refl (B : Nat) (F : Facts) (w : World) : Ext B F F w w := ⟨.refl F, .refl B w, fun _ _ h => .inl h⟩
theorem Ext.trans {F'' : Facts} {w'' : World} (h : Ext B F F' w w') (k : Ext B F' F'' w' w'') : Ext B F F'' w w'' :=
  ⟨h.le.trans k.le, h.below.trans k.below, fun a u hu => (k.new a u hu).elim (h.new a u) .inr⟩
def Post (B : Nat) (F : Facts) (w : World) (fr : List (Nat × AV)) (a : Go.Act) (ob' : List (Nat × Obj)) (v : AV) (u : Value) (w' : World) : Prop :=
  ∃ F' ρ', Mem B F' ρ' ob' w' ∧ Fr F' ρ' ob' fr a ∧ AR F' ρ' ob' v u ∧ Ext B F F' w w'
theorem Pure.post {v : AV} (h : Pure P o a w F ρ s v) (hm : Mem B F ρ s.ob w) (hf : Fr F ρ s.ob s.fr a) : Does P o a w (Post B F w s.fr a s.ob v) := by
  intro next Q hn
  refine h next Q ?_
  rintro u w' ⟨rfl, hv⟩
  exact hn u _ ⟨F, ρ, hm, hf, hv, .refl B F _⟩

/-! ### Freezing -/
def FrzF (F : Facts) (ρ : Map) (ob : List (Nat × Obj)) (ks : List Nat) (w : World) : Facts :=
  fun a u => F a u ∨ ∃ k ∈ ks, ∃ o p, get ob k = some o ∧ ρ k = some p ∧ a.block = p.g ∧ w.cell? a = some u
theorem FrzF.le {ks : List Nat} : F.le (FrzF F ρ ob ks w) := fun _ _ h => .inl h
theorem FrzF.mono {ks ks' : List Nat} (h : ∀ k ∈ ks, k ∈ ks') : (FrzF F ρ ob ks w).le (FrzF F ρ ob ks' w) := by
  rintro a u (hu | ⟨k, hk, r⟩)
  · exact .inl hu
  · exact .inr ⟨k, h k hk, r⟩
theorem FrzF.ok {ks : List Nat} (h : F.ok w) : (FrzF F ρ ob ks w).ok w := by
  refine ⟨?_, h.glob.mono FrzF.le⟩
  rintro a u (hu | ⟨k, hk, o, p, h1, h2, h3, h4⟩)
  · exact h a u hu
  · exact h4
theorem FrzF.new {ks : List Nat} (hm : Mem B F ρ ob w) {a : Addr} {u : Value} (h : FrzF F ρ ob ks w a u) : F a u ∨ B ≤ a.block := by
  rcases h with hu | ⟨k, hk, o, p, h1, h2, h3, h4⟩
  · exact .inl hu
  · exact .inr (by rw [h3]; exact (hm.own k o p h1 h2).1)
theorem get_kill : ∀ (ks : List Nat) (s : St) (k : Nat), get (kill s ks).ob k = if k ∈ ks then none else get s.ob k
  | [], s, k => by simp [kill]
  | j :: ks, s, k => by
    simp only [kill]
    rw [get_kill ks _ k]
    simp only [get_del, List.mem_cons]
    by_cases h1 : k ∈ ks <;> by_cases h2 : k = j <;> simp [h1, h2]
theorem kill_fr : ∀ (ks : List Nat) (s : St), (kill s ks).fr = s.fr
  | [], s => rfl
  | j :: ks, s => by simp only [kill]; rw [kill_fr ks]
theorem kill_sub (ks : List Nat) (s : St) : ∀ k o, get (kill s ks).ob k = some o → get s.ob k = some o := by
  intro k o h
  rw [get_kill] at h
  split at h
  · simp at h
  · exact h
theorem Mem.kill {ks : List Nat} (hm : Mem B F ρ s.ob w) : Mem B (FrzF F ρ s.ob ks w) ρ (Am.kill s ks).ob w where
  facts := FrzF.ok hm.facts
  big := hm.big
  bare := fun k o h => hm.bare k o (kill_sub ks s k o h)
  own := fun k o p h1 h2 => by
    obtain ⟨g1, g2⟩ := hm.own k o p (kill_sub ks s k o h1) h2
    exact ⟨g1, g2.imp fun r hr x hx v hv => (hv.mono FrzF.le).sub (kill_sub ks s)⟩
  apart := fun k o p h1 h2 a u hu => by
    have h0 := kill_sub ks s k o h1
    rcases hu with hu | ⟨k', hk', o', p', h3, h4, h5, h6⟩
    · exact hm.apart k o p h0 h2 a u hu
    · intro hg
      have := hm.inj k o p k' o' p' h0 h2 h3 h4 (by rw [← hg, h5])
      subst this
      rw [get_kill, if_pos hk'] at h1
      simp at h1
  inj := fun k o p k' o' p' h1 h2 h3 h4 => hm.inj k o p k' o' p' (kill_sub ks s k o h1) h2 (kill_sub ks s k' o' h3) h4
theorem Shows.dr {G : Facts} {sz : Nat} {rows : List (List D)} {v : Value} (hF : F.le G) (h : Shows F w sz rows v) (hG : rows ≠ [] → ∀ a u, w.cell? a = some u → (∃ x n c, v = .slice (some x) n c ∧ a.block = x.block) → G a u) : DR G (.vs sz rows) v := by
  obtain ⟨x, cap, ad, u, rfl, hcap, ha, hsz, hc⟩ := h
  refine .vs sz rows x cap ad u hcap ha hsz (fun i r j y hi hj => ?_) (fun i r j y hi hj => (hc i r j y hi hj).2.mono hF)
  have hne : rows ≠ [] := by intro h0; rw [h0] at hi; simp at hi
  refine hG hne _ _ (hc i r j y hi hj).1 ⟨ad, _, _, by rw [ha hne], ?_⟩
  unfold Addr.add; split <;> rfl
theorem frz_sound {x y : AV} {k : Option Nat} {v : Value} (hm : Mem B F ρ s.ob w) (h : s.frz x = some (y, k)) (hr : AR F ρ s.ob x v) : RR (FrzF F ρ s.ob k.toList w) y v := by
  unfold St.frz at h
  split at h
  · simp only [Option.some.injEq, Prod.mk.injEq] at h; obtain ⟨rfl, rfl⟩ := h
    exact DR.mono FrzF.le hr
  · simp only [Option.some.injEq, Prod.mk.injEq] at h; obtain ⟨rfl, rfl⟩ := h
    exact RR.mono (x := .agg _) FrzF.le hr
  · simp only [Option.some.injEq, Prod.mk.injEq] at h; obtain ⟨rfl, rfl⟩ := h
    obtain rfl : v = _ := hr
    exact DR.vs_nil
  · rename_i key ver start len
    simp only [Option.map_eq_some_iff, Prod.mk.injEq] at h
    obtain ⟨⟨sz, rows⟩, hv, rfl, rfl⟩ := h
    have hs := view_sound hm hv hr
    refine hs.dr FrzF.le fun hne ad u hu hx => ?_
    -- the block is the object's
    unfold St.view at hv
    simp only at hv
    split at hv
    · rename_i o hob
      split at hv
      · rename_i hc
        have hsl := (hr.2 o hob).2 hc.1 hc.2
        obtain ⟨x, n, c, rfl, hb⟩ := hx
        simp only [Option.map_eq_some_iff, Prod.mk.injEq] at hv
        obtain ⟨ds, hds, _, rfl⟩ := hv
        have hdl := (allRows_get hds).1
        have hpos : 0 < len := by
          rcases Nat.eq_zero_or_pos len with h0 | h0
          · subst h0; simp at hne
          · exact h0
        unfold SlR at hsl
        cases hρ : ρ key with
        | none => rw [hρ] at hsl; omega
        | some p =>
          rw [hρ] at hsl
          obtain ⟨hcap, x', hx', ha⟩ := hsl
          simp only [Value.slice.injEq] at hx'
          have := ha (.inl hpos)
          rw [this] at hx'
          obtain ⟨hx', _, _⟩ := hx'
          simp only [Option.some.injEq] at hx'
          exact .inr ⟨key, by simp, o, p, hob, hρ, by rw [hb, hx'], hu⟩
      · simp at hv
    · simp at hv
  · simp at h
theorem frzs_sound (hm : Mem B F ρ s.ob w) : ∀ {xs ys : List AV} {ks : List Nat} {vs : List Value}, s.frzs xs = some (ys, ks) → All2 (AR F ρ s.ob) xs vs → All2 (RR (FrzF F ρ s.ob ks w)) ys vs
  | [], ys, ks, vs, h, hr => by
    simp only [St.frzs, Option.some.injEq, Prod.mk.injEq] at h
    obtain ⟨rfl, rfl⟩ := h
    cases hr; exact .nil
  | x :: xs, ys, ks, vs, h, hr => by
    simp only [St.frzs] at h
    split at h
    · rename_i d k ds ks' h1 h2
      simp only [Option.some.injEq, Prod.mk.injEq] at h
      obtain ⟨rfl, rfl⟩ := h
      cases hr with
      | cons hx hxs =>
        exact .cons ((frz_sound hm h1 hx).mono (FrzF.mono (fun k hk => by simp at hk; simp [hk]))) ((frzs_sound hm h2 hxs).imp fun _ _ h => h.mono (FrzF.mono (fun k hk => by simp [hk])))
    · simp at h
theorem opds_sound (hf : Fr F ρ s.ob s.fr a) : ∀ {xs : List Operand} {ys : List Opd} {vs : List AV}, chkArgs xs ys = true → s.opds ys = some vs → All2 (AR F ρ s.ob) vs (xs.map a.eval)
  | [], [], vs, _, h => by simp only [St.opds, Option.some.injEq] at h; subst h; exact .nil
  | x :: xs, y :: ys, vs, hc, h => by
    simp only [chkArgs, Bool.and_eq_true] at hc
    simp only [St.opds] at h
    split at h
    · rename_i v vs' h1 h2
      simp only [Option.some.injEq] at h; subst h
      exact .cons (opd_sound hf hc.1 h1) (opds_sound hf hc.2 h2)
    · simp at h
  | [], _ :: _, _, hc, _ => by simp [chkArgs] at hc
  | _ :: _, [], _, hc, _ => by simp [chkArgs] at hc

/-! ### A call -/
theorem does_frz {x : Opd} {v : AV} {p : AV × Option Nat} (hm : Mem B F ρ s.ob w) (hf : Fr F ρ s.ob s.fr a) (hc : chkMov o x = true) (h : s.opd x = some v) (hp : s.frz v = some p) : Does P o a w (Post B F w s.fr a (kill s p.2.toList).ob p.1) := by
  intro next Q hn
  refine does_mov hf hc h next Q ?_
  rintro u w' ⟨rfl, hv⟩
  exact hn u _ ⟨FrzF F ρ s.ob p.2.toList w', ρ, hm.kill, (hf.mono FrzF.le).sub (kill_sub _ s), AR.of_RR (frz_sound hm hp hv), FrzF.le, .refl _ _, fun ad u hu => FrzF.new hm hu⟩
def RetR (F : Facts) (rs : List AV) (u : Value) : Prop :=
  match rs with
  | [r] => RR F r u
  | rs => ∃ us : List Value, u = .tuple us.toArray ∧ All2 (RR F) rs us
/-- What a function answers: data for data; it changes nothing that was there. -/
def Spec (P : Program) (f : FuncId) (S : List AV → Option (List AV)) : Prop :=
  ∀ (F : Facts) (w : World) (ds : List AV) (vs : List Value) (rs : List AV), F.ok w → All2 (RR F) ds vs → S ds = some rs →
    Calls P f vs.toArray w fun e w' => ∃ u, e = .returned u ∧ ∃ F' : Facts, F'.ok w' ∧ F.le F' ∧ Below w.heap.size w w' ∧ (∀ a v, F' a v → F a v ∨ w.heap.size ≤ a.block) ∧ RetR F' rs u
def chkCall (P : Program) (nm : Nat → Option Nat) (o : Oper) (f : Nat) (args : List Opd) : Bool := match o.op with
  | .call { callee := .value (.func g), args := as, argTypes := _ } => (match nm f with | some g' => g' == g | none => false) && chkArgs as.toList args && (match P.funcs[g]? with | some fn => fn.body.isSome && fn.name != "runtime.NumGoroutine" | none => false)
  | _ => false
theorem RetR.ar {rs : List AV} {u : Value} (h : RetR F rs u) : AR F ρ ob (retV rs) u := by
  unfold RetR at h
  split at h
  · exact AR.of_RR h
  · rename_i hne
    unfold retV
    split
    · exact (hne _ rfl).elim
    · obtain ⟨us, rfl, h⟩ := h
      exact ⟨us, rfl, h.imp fun _ _ h => AR1.of_RR h⟩
theorem RetR.flat {rs : List AV} {u : Value} (h : RetR F' rs u) (hfl : rs.all AV.flat = true) : RetR F rs u := by
  unfold RetR at h ⊢
  split at h
  · exact h.of_flat (by simpa using hfl)
  · rename_i hne
    obtain ⟨us, rfl, hr⟩ := h
    refine ⟨us, rfl, All2.of_get hr.length fun i x hx => ?_⟩
    obtain ⟨b, hb, hrr⟩ := hr.get? i x hx
    exact ⟨b, hb, hrr.of_flat (List.all_eq_true.1 hfl x (List.mem_of_getElem? hx))⟩
theorem does_enter {g : FuncId} {S : List AV → Option (List AV)} {us : List Value} {ds rs : List AV} {ks : List Nat} (hm : Mem B F ρ s.ob w) (hf : Fr F ρ s.ob s.fr a) (hS : Spec P g S) (hrun : (execOp a.eval o).run P w = .ok (.enter g us.toArray) w)
    (hds : All2 (RR (FrzF F ρ s.ob ks w)) ds us) (h3 : S ds = some rs) :
    Does P o a w (Post B F w s.fr a (if rs.all AV.flat then s else kill s ks).ob (retV rs)) := by
  refine does_call hrun ?_
  refine (hS (FrzF F ρ s.ob ks w) w ds us rs (FrzF.ok hm.facts) hds h3).mono ?_
  rintro e w' ⟨u, rfl, F2, hok, hle, hbel, hnew, hret⟩
  refine ⟨u, rfl, ?_⟩
  by_cases hfl : rs.all AV.flat = true
  · rw [if_pos hfl]
    exact ⟨F, ρ, hm.below hbel, hf, (hret.flat hfl).ar, .refl F, hbel.mono hm.big, fun _ _ h => .inl h⟩
  · rw [if_neg hfl]
    have hm1 := (hm.kill (ks := ks)).below hbel
    have hmem : Mem B F2 ρ (kill s ks).ob w' := {
      facts := hok
      big := hm1.big
      bare := hm1.bare
      own := fun k o p g1 g2 => by
        obtain ⟨q1, q2⟩ := hm1.own k o p g1 g2
        exact ⟨q1, q2.imp fun r hr x hx v hv => hv.mono hle⟩
      apart := fun k o p g1 g2 ad v hv => by
        rcases hnew ad v hv with hv | hv
        · exact hm1.apart k o p g1 g2 ad v hv
        · have := hm.lt (kill_sub ks s k o g1) g2
          omega
      inj := hm1.inj }
    refine ⟨F2, ρ, hmem, ((hf.mono (FrzF.le.trans hle)).sub (kill_sub ks s)), hret.ar, FrzF.le.trans hle, hbel.mono hm.big, fun ad v hv => ?_⟩
    rcases hnew ad v hv with hv | hv
    · exact FrzF.new hm hv
    · exact .inr (Nat.le_trans hm.big hv)
theorem does_call_ {nm : Nat → Option Nat} {Γ : Env} {f : Nat} {args : List Opd} {vs ds rs : List AV} {ks : List Nat} (hm : Mem B F ρ s.ob w) (hf : Fr F ρ s.ob s.fr a) (hΓ : ∀ f g, nm f = some g → Spec P g (Γ f)) (hc : chkCall P nm o f args = true)
    (h1 : s.opds args = some vs) (h2 : s.frzs vs = some (ds, ks)) (h3 : Γ f ds = some rs) :
    Does P o a w (Post B F w s.fr a (if rs.all AV.flat then s else kill s ks).ob (retV rs)) := by
  unfold chkCall at hc
  split at hc
  · rename_i g as ats hop
    simp only [Bool.and_eq_true] at hc
    obtain ⟨⟨hn, hargs⟩, hfn⟩ := hc
    split at hn
    · rename_i g' hg'
      simp only [beq_iff_eq] at hn; subst hn
      split at hfn
      · rename_i fn hfn'
        simp only [Bool.and_eq_true, bne_iff_ne, ne_eq] at hfn
        have hvs := opds_sound hf hargs h1
        have hds := frzs_sound hm h2 hvs
        have hrun : (execOp a.eval o).run P w = .ok (.enter g' ((as.toList.map a.eval).toArray)) w := by
          have hb : fn.body.isNone = false := by
            cases hb : fn.body <;> simp [hb] at hfn ⊢
          have hprog : ∀ w : World, (Go.program).run P w = .ok P w := fun _ => rfl
          have hbn : fn.body ≠ none := by intro h0; rw [h0] at hb; simp at hb
          have has : Array.map a.eval as = (as.toList.map a.eval).toArray := by rw [← Array.toList_inj]; simp
          simp [execOp, hop, resolve, Deferred.ofValue, Go.Act.eval, invoke, callFunc, hprog, hfn', hbn, hfn.2]
          exact has
        exact does_enter hm hf (hΓ f g' hg') hrun hds h3
      · simp at hfn
    · simp at hn
  · simp at hc

/-! ### A call that is handed what the caller owns -/
def tupV (us : List Value) : Value := if h : us.toArray.size = 1 then us.toArray[0] else .tuple us.toArray
/-- What a function does with what its caller owns. -/
def SpecP (P : Program) (g : FuncId) (S : St → Option (List AV × List (Nat × Obj))) : Prop :=
  ∀ (γ : Array Value) (B : Nat) (F : Facts) (ρ : Map) (fr : List (Nat × AV)) (ob : List (Nat × Obj)) (w : World) (us : List Value) (rs : List AV) (ob' : List (Nat × Obj)),
    (∀ fn, P.funcs[g]? = some fn → us.length ≤ fn.ntmps) → (∀ i, i < us.length → ∃ v, get fr i = some v) → Mem B F ρ ob w → (∀ i v, get fr i = some v → AR F ρ ob v (if i < GB then us.getD i undef else γ.getD (i - GB) undef)) → S ⟨fr, ob⟩ = some (rs, ob') →
    Calls P g us.toArray w fun e w' => ∃ qs, e = .returned (tupV qs) ∧ ∃ F' ρ', Mem B F' ρ' ob' w' ∧ (∀ i v, GB ≤ i → get fr i = some v → AR F' ρ' ob' v (γ.getD (i - GB) undef)) ∧ All2 (AR F' ρ' ob') rs qs ∧ Ext B F F' w w'
/-- A function that a function value may lead to. -/
def callable (P : Program) (g : FuncId) : Bool := match P.funcs[g]? with | some fn => fn.body.isSome && fn.name != "runtime.NumGoroutine" | none => false
structure EnvOk (P : Program) (nm : Nat → Option Nat) (Γ : Env) : Prop where
  fv : ∀ g ds rs, Γ.fv g ds = some rs → callable P g = true
  fvS : ∀ g, Spec P g (Γ.fv g)
  fn : ∀ f g, nm f = some g → Spec P g (Γ f)
  pt : ∀ f g, nm f = some g → SpecP P g (Γ.pt f)
  mono : PtMono Γ
def chkCallV (o : Oper) (x : Opd) (xs : List Opd) : Bool := match o.op with
  | .call { callee := .value y, args := as, argTypes := _ } => chkO y x && chkArgs as.toList xs
  | _ => false
theorem does_callV {nm : Nat → Option Nat} {Γ : Env} {x : Opd} {g : Nat} {xs : List Opd} {vs ds rs : List AV} {ks : List Nat} (hm : Mem B F ρ s.ob w) (hf : Fr F ρ s.ob s.fr a) (hΓ : EnvOk P nm Γ) (hc : chkCallV o x xs = true)
    (h0 : s.opd x = some (.ot (.fn g))) (h1 : s.opds xs = some vs) (h2 : s.frzs vs = some (ds, ks)) (h3 : Γ.fv g ds = some rs) :
    Does P o a w (Post B F w s.fr a (if rs.all AV.flat then s else kill s ks).ob (retV rs)) := by
  unfold chkCallV at hc
  split at hc
  · rename_i y as ats hop
    simp only [Bool.and_eq_true] at hc
    obtain ⟨hy, hargs⟩ := hc
    have hv : a.eval y = .func (.func g) #[] #[] := opd_sound hf hy h0
    have hb := hΓ.fv g ds rs h3
    unfold callable at hb
    split at hb
    · rename_i fn hfn'
      simp only [Bool.and_eq_true, bne_iff_ne, ne_eq] at hb
      have hvs := opds_sound hf hargs h1
      have hds := frzs_sound hm h2 hvs
      have hrun : (execOp a.eval o).run P w = .ok (.enter g ((as.toList.map a.eval).toArray)) w := by
        have hprog : ∀ w : World, (Go.program).run P w = .ok P w := fun _ => rfl
        have hbn : fn.body ≠ none := by intro h0; rw [h0] at hb; simp at hb
        have has : Array.map a.eval as = (as.toList.map a.eval).toArray := by rw [← Array.toList_inj]; simp
        simp [execOp, hop, resolve, Deferred.ofValue, hv, invoke, callFunc, hprog, hfn', hbn, hb.2]
        exact has
      exact does_enter hm hf (hΓ.fvS g) hrun hds h3
    · simp at hb
  · simp at hc
theorem get_append {α : Type} : ∀ (l m : List (Nat × α)) (i : Nat), get (l ++ m) i = match get l i with | some v => some v | none => get m i
  | [], m, i => rfl
  | (k, v) :: l, m, i => by
    simp only [List.cons_append, get]
    split
    · rfl
    · exact get_append l m i
theorem get_gho : ∀ (l : List (Nat × AV)) (i : Nat), get (gho l) (GB + i) = get l i
  | [], i => rfl
  | (k, v) :: l, i => by
    simp only [gho, get]
    by_cases h : k = i
    · rw [if_pos (by omega), if_pos h]
    · rw [if_neg (by omega), if_neg h]; exact get_gho l i
theorem get_gho_lt : ∀ (l : List (Nat × AV)) (i : Nat), i < GB → get (gho l) i = none
  | [], i, _ => rfl
  | (k, v) :: l, i, h => by
    simp only [gho, get]
    rw [if_neg (by omega)]; exact get_gho_lt l i h
theorem get_args_ : ∀ (vs : List AV) (k i : Nat), get (args k vs) i = if k ≤ i then vs[i - k]? else none
  | [], k, i => by simp [args, get]
  | x :: vs, k, i => by
    simp only [args, get]
    by_cases h : k = i
    · subst h; simp
    · rw [if_neg h, get_args_ vs (k + 1) i]
      by_cases h2 : k ≤ i
      · rw [if_pos (by omega), if_pos h2, show i - k = (i - (k + 1)) + 1 by omega]; simp
      · rw [if_neg (by omega), if_neg h2]
def chkCallP (P : Program) (nm : Nat → Option Nat) (o : Oper) (f : Nat) (xs : List Opd) : Bool := chkCall P nm o f xs && decide (xs.length ≤ GB) && (match nm f with | some g => (match P.funcs[g]? with | some fn => decide (xs.length ≤ fn.ntmps) | none => true) | none => false)
theorem opds_length : ∀ {xs : List Opd} {vs : List AV}, s.opds xs = some vs → vs.length = xs.length
  | [], vs, h => by simp only [St.opds, Option.some.injEq] at h; subst h; rfl
  | x :: xs, vs, h => by
    simp only [St.opds] at h
    split at h
    · rename_i v vs' h1 h2
      simp only [Option.some.injEq] at h; subst h
      simp [opds_length h2]
    · simp at h
theorem does_callP {nm : Nat → Option Nat} {Γ : Env} {f : Nat} {xs : List Opd} {vs rs : List AV} {v : AV} {ob' : List (Nat × Obj)} (hm : Mem B F ρ s.ob w) (hf : Fr F ρ s.ob s.fr a) (hΓ : EnvOk P nm Γ) (hc : chkCallP P nm o f xs = true)
    (h1 : s.opds xs = some vs) (h2 : Γ.pt f ⟨args 0 vs ++ gho s.fr, s.ob⟩ = some (rs, ob')) (h3 : retP rs = some v) :
    Does P o a w (Post B F w s.fr a ob' v) := by
  simp only [chkCallP, Bool.and_eq_true, decide_eq_true_eq] at hc
  obtain ⟨⟨hc, hlen⟩, htm⟩ := hc
  unfold chkCall at hc
  split at hc
  · rename_i g as ats hop
    simp only [Bool.and_eq_true] at hc
    obtain ⟨⟨hn, hargs⟩, hfn⟩ := hc
    split at hn
    · rename_i g' hg'
      simp only [beq_iff_eq] at hn; subst hn
      rw [hg'] at htm
      split at hfn
      · rename_i fn hfn'
        simp only [hfn', decide_eq_true_eq] at htm
        simp only [Bool.and_eq_true, bne_iff_ne, ne_eq] at hfn
        have hvs := opds_sound hf hargs h1
        have hl := opds_length h1
        have hrun : (execOp a.eval o).run P w = .ok (.enter g' ((as.toList.map a.eval).toArray)) w := by
          have hb : fn.body.isNone = false := by
            cases hb : fn.body <;> simp [hb] at hfn ⊢
          have hprog : ∀ w : World, (Go.program).run P w = .ok P w := fun _ => rfl
          have hbn : fn.body ≠ none := by intro h0; rw [h0] at hb; simp at hb
          have has : Array.map a.eval as = (as.toList.map a.eval).toArray := by rw [← Array.toList_inj]; simp
          simp [execOp, hop, resolve, Deferred.ofValue, Go.Act.eval, invoke, callFunc, hprog, hfn', hbn, hfn.2]
          exact has
        refine does_call hrun ?_
        have hul : (as.toList.map a.eval).length = xs.length := by rw [← hvs.length, hl]
        refine (hΓ.pt f g' hg' a.tmps B F ρ (args 0 vs ++ gho s.fr) s.ob w _ rs ob' (fun fn2 h => ?_) (fun i hi => ?_) hm (fun i x hi => ?_) h2).mono ?_
        · rw [hfn'] at h; simp only [Option.some.injEq] at h; subst h; omega
        · have hil : i < vs.length := by omega
          refine ⟨vs[i], ?_⟩
          rw [get_append, get_args_]
          simp only [Nat.zero_le, if_true, Nat.sub_zero, List.getElem?_eq_getElem hil]
        · rw [get_append, get_args_] at hi
          simp only [Nat.zero_le, if_true, Nat.sub_zero] at hi
          cases hx : vs[i]? with
          | some y =>
            rw [hx] at hi
            simp only [Option.some.injEq] at hi; subst hi
            obtain ⟨u, hu, hr⟩ := hvs.get? i _ hx
            have hil : i < vs.length := (List.getElem?_eq_some_iff.1 hx).1
            rw [if_pos (by omega), List.getD_eq_getElem?_getD, hu]; exact hr
          | none =>
            rw [hx] at hi
            simp only at hi
            by_cases hG : i < GB
            · rw [get_gho_lt _ _ hG] at hi; simp at hi
            · rw [if_neg hG]
              rw [show i = GB + (i - GB) by omega, get_gho] at hi
              exact hf _ _ hi
        · rintro e w' ⟨qs, rfl, F', ρ', hm', hgh, hrs, he⟩
          refine ⟨_, rfl, F', ρ', hm', fun i x hi => ?_, ?_, he⟩
          · have := hgh (GB + i) x (by omega) (by
              rw [get_append, get_args_]
              simp only [Nat.zero_le, if_true, Nat.sub_zero]
              rw [List.getElem?_eq_none (by omega)]
              simp only
              rw [get_gho]; exact hi)
            rwa [show GB + i - GB = i by omega] at this
          · unfold retP at h3
            split at h3
            · simp only [Option.some.injEq] at h3; subst h3
              cases hrs with
              | cons h4 h5 => cases h5; simpa [tupV] using h4
            · rename_i hne
              split at h3
              · rename_i hall
                simp only [Option.some.injEq] at h3; subst h3
                have hq : qs.length ≠ 1 := by
                  intro h0
                  have hr1 : rs.length = 1 := by rw [hrs.length]; exact h0
                  match rs, hr1 with
                  | [r], _ => exact hne r rfl
                refine ⟨qs, by simp [tupV, hq], ?_⟩
                refine All2.of_get hrs.length fun i x hx => ?_
                obtain ⟨u, hu, hr⟩ := hrs.get? i x hx
                refine ⟨u, hu, ?_⟩
                exact hr.to1 (List.all_eq_true.1 hall x (List.mem_of_getElem? hx))
              · simp at h3
      · simp at hfn
    · simp at hn
  · simp at hc
/-- Behind the entering of a function that is handed what its caller owns. -/
theorem does_enterP {nm : Nat → Option Nat} {Γ : Env} {f g : Nat} {vs rs : List AV} {us : List Value} {v : AV} {ob' : List (Nat × Obj)} (hm : Mem B F ρ s.ob w) (hf : Fr F ρ s.ob s.fr a) (hΓ : EnvOk P nm Γ) (hg : nm f = some g) (hrun : (execOp a.eval o).run P w = .ok (.enter g us.toArray) w) (hvs : All2 (AR F ρ s.ob) vs us) (hGB : vs.length ≤ GB) (hnt : ∀ fn, P.funcs[g]? = some fn → us.length ≤ fn.ntmps)
    (h2 : Γ.pt f ⟨args 0 vs ++ gho s.fr, s.ob⟩ = some (rs, ob')) (h3 : retP rs = some v) : Does P o a w (Post B F w s.fr a ob' v) := by
  refine does_call hrun ?_
  have hul : us.length = vs.length := hvs.length.symm
  refine (hΓ.pt f g hg a.tmps B F ρ (args 0 vs ++ gho s.fr) s.ob w _ rs ob' (fun fn2 h => ?_) (fun i hi => ?_) hm (fun i x hi => ?_) h2).mono ?_
  · exact hnt fn2 h
  · have hil : i < vs.length := by omega
    refine ⟨vs[i], ?_⟩
    rw [get_append, get_args_]
    simp only [Nat.zero_le, if_true, Nat.sub_zero, List.getElem?_eq_getElem hil]
  · rw [get_append, get_args_] at hi
    simp only [Nat.zero_le, if_true, Nat.sub_zero] at hi
    cases hx : vs[i]? with
    | some y =>
      rw [hx] at hi
      simp only [Option.some.injEq] at hi; subst hi
      obtain ⟨u, hu, hr⟩ := hvs.get? i _ hx
      have hil : i < vs.length := (List.getElem?_eq_some_iff.1 hx).1
      rw [if_pos (by omega), List.getD_eq_getElem?_getD, hu]; exact hr
    | none =>
      rw [hx] at hi
      simp only at hi
      by_cases hG : i < GB
      · rw [get_gho_lt _ _ hG] at hi; simp at hi
      · rw [if_neg hG]
        rw [show i = GB + (i - GB) by omega, get_gho] at hi
        exact hf _ _ hi
  · rintro e w' ⟨qs, rfl, F', ρ', hm', hgh, hrs, he⟩
    refine ⟨_, rfl, F', ρ', hm', fun i x hi => ?_, ?_, he⟩
    · have := hgh (GB + i) x (by omega) (by
        rw [get_append, get_args_]
        simp only [Nat.zero_le, if_true, Nat.sub_zero]
        rw [List.getElem?_eq_none (by omega)]
        simp only
        rw [get_gho]; exact hi)
      rwa [show GB + i - GB = i by omega] at this
    · unfold retP at h3
      split at h3
      · simp only [Option.some.injEq] at h3; subst h3
        cases hrs with
        | cons h4 h5 => cases h5; simpa [tupV] using h4
      · rename_i hne
        split at h3
        · rename_i hall
          simp only [Option.some.injEq] at h3; subst h3
          have hq : qs.length ≠ 1 := by
            intro h0
            have hr1 : rs.length = 1 := by rw [hrs.length]; exact h0
            match rs, hr1 with
            | [r], _ => exact hne r rfl
          refine ⟨qs, by simp [tupV, hq], ?_⟩
          refine All2.of_get hrs.length fun i x hx => ?_
          obtain ⟨u, hu, hr⟩ := hrs.get? i x hx
          refine ⟨u, hu, ?_⟩
          exact hr.to1 (List.all_eq_true.1 hall x (List.mem_of_getElem? hx))
        · simp at h3
def chkCallC (P : Program) (nm : Nat → Option Nat) (o : Oper) (f g n : Nat) (x : Opd) (xs : List Opd) : Bool := match o.op with
  | .call { callee := .value y, args := as, argTypes := _ } => chkO y x && chkArgs as.toList xs && nm f == some g && callable P g && (match P.funcs[g]? with | some fn => decide (xs.length + n ≤ fn.ntmps) | none => true)
  | _ => false
theorem does_callC {nm : Nat → Option Nat} {Γ : Env} {f g n : Nat} {x : Opd} {xs : List Opd} {vs cs rs : List AV} {v : AV} {ob' : List (Nat × Obj)} (hm : Mem B F ρ s.ob w) (hf : Fr F ρ s.ob s.fr a) (hΓ : EnvOk P nm Γ) (hc : chkCallC P nm o f g n x xs = true)
    (h0 : s.opd x = some (.clo g cs)) (h1 : s.opds xs = some vs) (hn : cs.length = n) (hGB : vs.length + n ≤ GB) (h2 : Γ.pt f ⟨args 0 (vs ++ cs) ++ gho s.fr, s.ob⟩ = some (rs, ob')) (h3 : retP rs = some v) :
    Does P o a w (Post B F w s.fr a ob' v) := by
  unfold chkCallC at hc
  split at hc
  · rename_i y as ats hop
    simp only [Bool.and_eq_true, beq_iff_eq] at hc
    obtain ⟨⟨⟨⟨hy, hargs⟩, hnm⟩, hb⟩, hnt⟩ := hc
    obtain ⟨ws, hv, hcs⟩ : ∃ ws : List Value, a.eval y = .func (.func g) #[] ws.toArray ∧ All2 (AR1 F ρ s.ob) cs ws := opd_sound hf hy h0
    unfold callable at hb
    split at hb
    · rename_i fn hfn'
      simp only [Bool.and_eq_true, bne_iff_ne, ne_eq] at hb
      have hvs := opds_sound hf hargs h1
      have hl := opds_length h1
      have hrun : (execOp a.eval o).run P w = .ok (.enter g ((as.toList.map a.eval ++ ws).toArray)) w := by
        have hprog : ∀ w : World, (Go.program).run P w = .ok P w := fun _ => rfl
        have hbn : fn.body ≠ none := by intro h0; rw [h0] at hb; simp at hb
        have has : Array.map a.eval as = (as.toList.map a.eval).toArray := by rw [← Array.toList_inj]; simp
        simp [execOp, hop, resolve, Deferred.ofValue, hv, invoke, callFunc, hprog, hfn', hbn, hb.2]
      have hall := hvs.append (hcs.imp fun _ _ h => AR.of1 h)
      refine does_enterP hm hf hΓ hnm hrun hall (by rw [List.length_append]; omega) (fun fn2 h => ?_) h2 h3
      rw [hfn'] at h hnt
      simp only [Option.some.injEq] at h; subst h
      simp only [decide_eq_true_eq] at hnt
      rw [← hall.length, List.length_append]; omega
    · simp at hb
  · simp at hc
end
section
/-! Are two objects the same? -/
mutual
theorem eqD_eq : ∀ (a b : D), eqD a b = true → a = b
  | .int k a, b, h => by cases b <;> simp_all [eqD]
  | .bool a, b, h => by cases b <;> simp_all [eqD]
  | .str a, b, h => by cases b <;> simp_all [eqD]
  | .vs z r, b, h => by
    cases b <;> simp only [eqD, Bool.false_eq_true, Bool.and_eq_true, decide_eq_true_eq] at h
    rw [h.1, eqDss_eq _ _ h.2]
  | .nil z, b, h => by cases b <;> simp_all [eqD]
  | .ot x, b, h => by cases b <;> simp_all [eqD]
theorem eqDs_eq : ∀ (a b : List D), eqDs a b = true → a = b
  | [], b, h => by cases b <;> simp_all [eqDs]
  | x :: l, b, h => by
    cases b with
    | nil => simp [eqDs] at h
    | cons y m =>
      simp only [eqDs, Bool.and_eq_true] at h
      rw [eqD_eq _ _ h.1, eqDs_eq _ _ h.2]
theorem eqDss_eq : ∀ (a b : List (List D)), eqDss a b = true → a = b
  | [], b, h => by cases b <;> simp_all [eqDss]
  | x :: l, b, h => by
    cases b with
    | nil => simp [eqDss] at h
    | cons y m =>
      simp only [eqDss, Bool.and_eq_true] at h
      rw [eqDs_eq _ _ h.1, eqDss_eq _ _ h.2]
end
theorem eqV1_eq (a b : AV) (h : eqV1 a b = true) : a = b := by
  cases a <;> cases b <;> simp only [eqV1, Bool.false_eq_true, Bool.and_eq_true, decide_eq_true_eq] at h
  all_goals first
    | (rw [eqD_eq _ _ h])
    | (rw [eqDs_eq _ _ h])
    | (rw [eqDs_eq _ _ h.1, h.2])
    | (subst h; rfl)
    | (obtain ⟨⟨⟨rfl, rfl⟩, rfl⟩, rfl⟩ := h; rfl)
    | (obtain ⟨⟨rfl, rfl⟩, rfl⟩ := h; rfl)
theorem eqVs_eq : ∀ (a b : List AV), eqVs a b = true → a = b
  | [], b, h => by cases b <;> simp_all [eqVs]
  | x :: l, b, h => by
    cases b with
    | nil => simp [eqVs] at h
    | cons y m =>
      simp only [eqVs, Bool.and_eq_true] at h
      rw [eqV1_eq _ _ h.1, eqVs_eq _ _ h.2]
theorem eqV_eq (a b : AV) (h : eqV a b = true) : a = b := by
  unfold eqV at h
  split at h
  · rw [eqVs_eq _ _ h]
  · rw [eqVs_eq _ _ h]
  · simp only [Bool.and_eq_true, decide_eq_true_eq] at h
    rw [eqVs_eq _ _ h.2, h.1]
  · exact eqV1_eq _ _ h
mutual
theorem eqD_self : ∀ a : D, eqD a a = true
  | .int k a => by simp [eqD]
  | .bool a => by simp [eqD]
  | .str a => by simp [eqD]
  | .vs z r => by simp only [eqD, eqDss_self r, decide_true, Bool.and_self]
  | .nil z => by simp [eqD]
  | .ot x => by simp [eqD]
theorem eqDs_self : ∀ a : List D, eqDs a a = true
  | [] => rfl
  | x :: l => by simp only [eqDs, eqD_self x, eqDs_self l, Bool.and_self]
theorem eqDss_self : ∀ a : List (List D), eqDss a a = true
  | [] => rfl
  | x :: l => by simp only [eqDss, eqDs_self x, eqDss_self l, Bool.and_self]
end
mutual
theorem eqA_eq : ∀ (a b : AV), eqA a b = true → a = b
  | .c a, b, h => by
    cases b <;> simp only [eqA, Bool.false_eq_true] at h
    rw [eqD_eq _ _ h]
  | .agg a, b, h => by
    cases b <;> simp only [eqA, Bool.false_eq_true] at h
    rw [eqDs_eq _ _ h]
  | .nil a, b, h => by cases b <;> simp_all [eqA]
  | .sl a b c d, e, h => by cases e <;> simp_all [eqA]
  | .loc a b c, e, h => by cases e <;> simp_all [eqA]
  | .vp r a, b, h => by
    cases b <;> simp only [eqA, Bool.false_eq_true, Bool.and_eq_true, decide_eq_true_eq] at h
    rw [eqDs_eq _ _ h.1, h.2]
  | .ot a, b, h => by cases b <;> simp_all [eqA]
  | .mp a, b, h => by cases b <;> simp_all [eqA]
  | .itr a, b, h => by cases b <;> simp_all [eqA]
  | .tup a, b, h => by
    cases b <;> simp only [eqA, Bool.false_eq_true] at h
    rw [eqAs_eq _ _ h]
  | .ags a, b, h => by
    cases b <;> simp only [eqA, Bool.false_eq_true] at h
    rw [eqAs_eq _ _ h]
  | .clo g a, b, h => by
    cases b <;> simp only [eqA, Bool.false_eq_true, Bool.and_eq_true, decide_eq_true_eq] at h
    rw [eqAs_eq _ _ h.2, h.1]
theorem eqAs_eq : ∀ (a b : List AV), eqAs a b = true → a = b
  | [], b, h => by cases b <;> simp_all [eqAs]
  | x :: l, b, h => by
    cases b with
    | nil => simp [eqAs] at h
    | cons y m =>
      simp only [eqAs, Bool.and_eq_true] at h
      rw [eqA_eq _ _ h.1, eqAs_eq _ _ h.2]
end
mutual
theorem eqA_self : ∀ a : AV, eqA a a = true
  | .c a => by simp only [eqA, eqD_self]
  | .agg a => by simp only [eqA, eqDs_self]
  | .nil a => by simp [eqA]
  | .sl a b c d => by simp [eqA]
  | .loc a b c => by simp [eqA]
  | .vp r a => by simp [eqA, eqDs_self]
  | .ot a => by simp [eqA]
  | .mp a => by simp [eqA]
  | .itr a => by simp [eqA]
  | .tup a => by simp only [eqA, eqAs_self a]
  | .ags a => by simp only [eqA, eqAs_self a]
  | .clo g a => by simp only [eqA, eqAs_self a, decide_true, Bool.and_self]
theorem eqAs_self : ∀ a : List AV, eqAs a a = true
  | [] => by simp only [eqAs]
  | x :: l => by simp only [eqAs, eqA_self x, eqAs_self l, Bool.and_self]
end
theorem eqRows_eq : ∀ (a b : Rows), eqRows a b = true → a = b
  | [], b, h => by cases b <;> simp_all [eqRows]
  | x :: l, b, h => by
    cases b with
    | nil => simp [eqRows] at h
    | cons y m =>
      simp only [eqRows, Bool.and_eq_true] at h
      rw [eqAs_eq _ _ h.1, eqRows_eq _ _ h.2]
theorem eqRows_self : ∀ a : Rows, eqRows a a = true
  | [] => by simp only [eqRows]
  | x :: l => by simp only [eqRows, eqAs_self x, eqRows_self l, Bool.and_self]
theorem eqOb_eq : ∀ (a b : List (Nat × Obj)), eqOb a b = true → a = b
  | [], b, h => by cases b <;> simp_all [eqOb]
  | (k, o) :: l, b, h => by
    cases b with
    | nil => simp [eqOb] at h
    | cons y m =>
      obtain ⟨k', o'⟩ := y
      simp only [eqOb, Bool.and_eq_true, decide_eq_true_eq] at h
      obtain ⟨⟨⟨h1, h2⟩, h3⟩, h4⟩ := h
      obtain ⟨z, rs⟩ := o
      obtain ⟨z', rs'⟩ := o'
      simp only at h2 h3
      rw [h1, h2, eqRows_eq _ _ h3, eqOb_eq _ _ h4]
theorem eqOb_self : ∀ a : List (Nat × Obj), eqOb a a = true
  | [] => by simp only [eqOb]
  | (k, o) :: l => by simp only [eqOb, eqRows_self, eqOb_self l, Bool.and_self, decide_true]
end
end Go.Am
