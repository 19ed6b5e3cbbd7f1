/- A law's row; the table of functions; rounds of loops; what simp opens. -/
import Derived.Test.YtdnmppikakpdiaaAk
set_option linter.unusedVariables false
namespace Go.Am
open Go.RowKit Go.ChangeShapes Go.WideShapes

section
variable {H : Type} {enc : TypeId × Value → H} {P : Program}
theorem law_post {f : Func} {s : ChangeSpec} {W W' : World} {args : Array Value} {ds gs : List (DataW H)} {before : List MemPlace} {tb : TypeId}
    (hW : DataW.Whole enc P f.params.toList s.vars false W args.toList ds gs before) (hv : s.vars = []) (h1 : (s.fn H (ds ++ gs)).results = [.lit (.bool true)]) (h2 : (s.fn H (ds ++ gs)).args = ds) (h3 : (s.fn H (ds ++ gs)).vars = [])
    (hl : laidOutB P = true) (hrows : ∀ t ∈ f.params.toList, P.readableRec t = true ∧ t < P.types.size) (ht : f.resultTypes = #[tb]) (hb : P.underlying tb = some .bool) (hbel : Below W.heap.size W W') :
    s.post enc P f false true false false W args (.bool true) W' := by
  have hW0 := hW
  obtain ⟨p, q, hA, hV, hpq, hfz, hnd⟩ := hW
  have hV' := hV
  rw [hv] at hV'
  obtain ⟨rfl, rfl⟩ := trodVars_none hV'
  simp only [List.append_nil] at hpq; subst hpq
  have hold : ∀ x ∈ before, x.block < W.heap.size := fun x hx => hW0.lt x hx
  have res : ∀ (b : Nat) (sp : Nat → Bool) (hd : Bool), DataW.TrodAll enc P W' b sp hd f.resultTypes.toList ((Value.bool true).resultList f.resultTypes.size) (s.fn H (ds ++ [])).results [] := fun b sp hd => by
    rw [ht, h1]
    exact trodAll_cons_mk (shut_bool hb true) trodAll_mk0
  have back := trodAll_below hl hbel f.params.toList args.toList ds before hrows hold hA
  have vars : ∀ sp : Nat → Bool, DataW.TrodVars enc P W' sp s.vars (s.fn H (ds ++ [])).vars [] := fun sp => by rw [hv, h3]; rfl
  exact ⟨ds, [], before, [], before, [], hW0, res _ _ _, by rw [h2]; exact back, vars _, World.keptBut_mono (fun p hp => ⟨hp, .inr (.inl hp)⟩) (hbel.frame (· ∈ before)), fun h => by simp at h⟩
/-- The last step but one: a law that answers true. -/
theorem law_calls {f : FuncId} {fn : Func} {s : ChangeSpec} {S : List AV → Option (List AV)} {W : World} {args : Array Value} {ds gs : List (DataW H)} {before : List MemPlace} {tb : TypeId} {ks : List (Bool × List CT)}
    (hspec : Spec P f S) (hW : DataW.Whole enc P fn.params.toList s.vars false W args.toList ds gs before) (hok : ∀ (j : Nat) t v, fn.params[j]? = some t → args[j]? = some v → Value.okWide P W .any 0 t v) (hG : GF (allF W))
    (hv : s.vars = []) (h1 : (s.fn H (ds ++ gs)).results = [.lit (.bool true)]) (h2 : (s.fn H (ds ++ gs)).args = ds) (h3 : (s.fn H (ds ++ gs)).vars = [])
    (hl : laidOutB P = true) (hrows : fn.params.toList.all (fun t => P.readableRec t && decide (t < P.types.size)) = true) (ht : fn.resultTypes = #[tb]) (hb : P.underlying tb = some .bool)
    (hk : ktAll P fn.params.toList = some ks) (hS : ∀ as, All2 WArg ks as → S as = some [.c (.bool true)]) :
    Calls P f args W fun e W' => ∃ v, e = .returned v ∧ s.post enc P fn false true false false W args v W' := by
  have hW0 := hW
  obtain ⟨p, q, hA, hV, hpq, hfz, hnd⟩ := hW
  obtain ⟨as, hw, hr⟩ := read_args _ _ _ _ ks hk hA fun j t v hj hv => hok j t v (by simpa using hj) (by simpa using hv)
  have := hspec (allF W) W as args.toList _ (allF.ok W hG) hr (hS as hw)
  simp only [Array.toArray_toList] at this
  refine this.mono ?_
  rintro e W' ⟨u, rfl, F', _, _, hbel, _, hret⟩
  simp only [RetR, RR] at hret
  cases hret
  refine ⟨_, rfl, law_post hW0 hv h1 h2 h3 hl (fun t ht => ?_) ht hb hbel⟩
  simp only [List.all_eq_true, Bool.and_eq_true, decide_eq_true_eq] at hrows
  exact hrows t ht
end

/-! ### The functions together -/
abbrev Tab := List (Nat × AFn × Nat)
def envFn (T : Tab) (X : Env) (r : AFn → List AV → Option (List AV)) (f : Nat) (ds : List AV) : Option (List AV) := match get T f with
  | some (F, k) => if ds.length = k then r F ds else none
  | none => X f ds
def envPt (T : Tab) (X : Env) (r : AFn → St → Option (List AV × List (Nat × Obj))) (f : Nat) (s : St) : Option (List AV × List (Nat × Obj)) := match get T f with
  | some (F, k) => if (ghOk F.body && ksFn F) = true then r F s else none
  | none => X.pt f s
/-- What the functions of a table answer, calls nested n deep; 'X': what others answer. -/
def envFv (I : List (Nat × Nat)) (e : Nat → List AV → Option (List AV)) (g : Nat) (ds : List AV) : Option (List AV) := match get I g with
  | some f => e f ds
  | none => none
def env (T : Tab) (I : List (Nat × Nat)) (X : Env) (M : Nat) : Nat → Env
  | 0 => ⟨envFn T X fun _ _ => none, envPt T X fun _ _ => none, fun _ _ => none⟩
  | n + 1 => ⟨envFn T X (run (env T I X M n) M), envPt T X (runP (env T I X M n) M), envFv I (env T I X M n)⟩
/-- What is asked of the functions that are not of the table. -/
structure XOk (P : Program) (nm : Nat → Option Nat) (T : Tab) (X : Env) : Prop where
  fn : ∀ f g, nm f = some g → get T f = none → Spec P g (X f)
  pt : ∀ f g, nm f = some g → get T f = none → SpecP P g (X.pt f)
  mono : PtMono X
/-- Function values: the program's numbers, and ours. -/
def chkI (P : Program) (nm : Nat → Option Nat) (I : List (Nat × Nat)) : Bool := I.all fun p => nm p.2 == some p.1 && callable P p.1
theorem chkI_get {P : Program} {nm : Nat → Option Nat} : ∀ {I : List (Nat × Nat)} {g f : Nat}, chkI P nm I = true → get I g = some f → nm f = some g ∧ callable P g = true
  | [], g, f, _, h => by simp [get] at h
  | (g', f') :: I, g, f, hc, h => by
    simp only [chkI, List.all_cons, Bool.and_eq_true, beq_iff_eq] at hc
    simp only [get] at h
    split at h
    · rename_i hg; subst hg
      simp only [Option.some.injEq] at h; subst h
      exact hc.1
    · exact chkI_get (I := I) hc.2 h
theorem Spec.congr {P : Program} {f : FuncId} {S S' : List AV → Option (List AV)} (h : Spec P f S) (he : ∀ ds, S ds = S' ds) : Spec P f S' := by
  have : S = S' := funext he
  rw [← this]; exact h
theorem SpecP.none {P : Program} {f : FuncId} : SpecP P f fun _ => none := by
  intro _ _ _ _ _ _ _ _ _ _ _ _ _ _ h; simp at h
def chkTab (P : Program) (nm : Nat → Option Nat) : Tab → Bool
  | [] => true
  | (f, F, k) :: T => (match nm f with | some g => chkFn P nm g F k | none => true) && chkTab P nm T
theorem chkTab_get {P : Program} {nm : Nat → Option Nat} : ∀ {T : Tab} {f g : Nat} {F : AFn} {k : Nat}, chkTab P nm T = true → get T f = some (F, k) → nm f = some g → chkFn P nm g F k = true
  | [], f, g, F, k, _, h, _ => by simp [get] at h
  | (f', F', k') :: T, f, g, F, k, hc, h, hg => by
    simp only [chkTab, Bool.and_eq_true] at hc
    simp only [get] at h
    split at h
    · rename_i hf; subst hf
      simp only [Option.some.injEq, Prod.mk.injEq] at h
      obtain ⟨rfl, rfl⟩ := h
      simpa only [hg] using hc.1
    · exact chkTab_get hc.2 h hg
theorem envFn_spec {P : Program} {nm : Nat → Option Nat} {T : Tab} {X : Env} (hX : ∀ f g, nm f = some g → get T f = none → Spec P g (X f)) {r : AFn → List AV → Option (List AV)}
    (hr : ∀ f g F k, nm f = some g → get T f = some (F, k) → Spec P g fun ds => if ds.length = k then r F ds else none) (f g : Nat) (hg : nm f = some g) : Spec P g (envFn T X r f) := by
  cases hf : get T f with
  | none => exact (hX f g hg hf).congr fun ds => by simp [envFn, hf]
  | some p => exact (hr f g p.1 p.2 hg hf).congr fun ds => by simp [envFn, hf]
theorem envPt_mono {T : Tab} {X : Env} (hX : PtMono X) {r : AFn → St → Option (List AV × List (Nat × Obj))} (hr : ∀ F s q R, (∀ i ∈ R, GB ≤ i) → ghOk F.body = true → ksFn F = true → r F s = some q → r F (lss R s) = some q) (fn : Nat → List AV → Option (List AV)) (fv : Nat → List AV → Option (List AV)) : PtMono ⟨fn, envPt T X r, fv⟩ := by
  intro f s rs ob R hR h
  simp only [envPt] at h ⊢
  split at h
  · rename_i F k hf
    split at h
    · rename_i hc
      have hc0 := hc
      simp only [Bool.and_eq_true] at hc
      rw [if_pos hc0]
      exact hr F s _ R hR hc.1 hc.2 h
    · simp at h
  · exact hX f s rs ob R hR h
theorem envPt_spec {P : Program} {nm : Nat → Option Nat} {T : Tab} {X : Env} (hX : ∀ f g, nm f = some g → get T f = none → SpecP P g (X.pt f)) {r : AFn → St → Option (List AV × List (Nat × Obj))}
    (hr : ∀ f g F k, nm f = some g → get T f = some (F, k) → (ghOk F.body && ksOk F.body) = true → SpecP P g (r F)) (f g : Nat) (hg : nm f = some g) : SpecP P g (envPt T X r f) := by
  cases hf : get T f with
  | none =>
    have : envPt T X r f = X.pt f := by funext s; simp [envPt, hf]
    rw [this]; exact hX f g hg hf
  | some p =>
    obtain ⟨F, k⟩ := p
    by_cases hk : (ghOk F.body && ksFn F) = true
    · have : envPt T X r f = r F := by funext s; simp only [envPt, hf, hk, if_true]
      rw [this]
      refine hr f g F k hg hf ?_
      simp only [ksFn, Bool.and_eq_true] at hk ⊢
      exact ⟨hk.1, hk.2.1⟩
    · have : envPt T X r f = fun _ => none := by funext s; simp only [envPt, hf]; rw [if_neg hk]
      rw [this]; exact SpecP.none
theorem env_ok {P : Program} {nm : Nat → Option Nat} {T : Tab} {I : List (Nat × Nat)} {X : Env} (hmix : P.follows .mixedOrders = true)
    (hX : XOk P nm T X) (hT : chkTab P nm T = true) (hI : chkI P nm I = true) (M : Nat) : ∀ n : Nat, EnvOk P nm (env T I X M n)
  | 0 => ⟨fun _ _ _ h => by simp [env] at h, fun g F w ds vs rs _ _ h => by simp [env] at h, fun f g hg => envFn_spec hX.fn (fun f g F k _ _ => by intro F w ds vs rs _ _ h; simp at h) f g hg, fun f g hg => envPt_spec hX.pt (fun _ _ _ _ _ _ _ => SpecP.none) f g hg, envPt_mono hX.mono (fun _ _ _ _ _ _ _ h => by simp at h) _ _⟩
  | n + 1 => by
    have ih := env_ok hmix hX hT hI M n
    refine ⟨fun g ds rs h => ?_, fun g => ?_, fun f g hg => envFn_spec hX.fn (fun f g F k hg hf => run_sound (n := k) (M := M) ih hmix (chkTab_get hT hf hg)) f g hg, fun f g hg => envPt_spec hX.pt (fun f g F k hg hf hk => runP_sound ih hmix (chkTab_get hT hf hg) hk) f g hg, envPt_mono hX.mono (fun F s q R hR h1 h2 h => runP_less ih.mono hR h1 h2 h) _ _⟩
    · simp only [env, envFv] at h
      split at h
      · rename_i f hf; exact (chkI_get hI hf).2
      · simp at h
    · show Spec P g (envFv I (env T I X M n) g)
      cases hf : get I g with
      | none => intro F w ds vs rs _ _ h; simp [envFv, hf] at h
      | some f => exact (ih.fn f g (chkI_get hI hf).1).congr fun ds => by simp [envFv, hf]
theorem env_spec {P : Program} {nm : Nat → Option Nat} {T : Tab} {I : List (Nat × Nat)} {X : Env} (hmix : P.follows .mixedOrders = true)
    (hX : XOk P nm T X) (hT : chkTab P nm T = true) (hI : chkI P nm I = true) (M n f g : Nat) (hg : nm f = some g) : Spec P g (env T I X M n f) := (env_ok hmix hX hT hI M n).fn f g hg
theorem env_run {T : Tab} {I : List (Nat × Nat)} {X : Env} {M n f k : Nat} {F : AFn} {ds : List AV} (hf : get T f = some (F, k)) (hl : ds.length = k) : env T I X M (n + 1) f ds = run (env T I X M n) M F ds := by
  simp [env, envFn, hf, hl]
theorem env_runP {T : Tab} {I : List (Nat × Nat)} {X : Env} {M n f k : Nat} {F : AFn} {s : St} (hf : get T f = some (F, k)) (hk : (ghOk F.body && ksFn F) = true) : (env T I X M (n + 1)).pt f s = runP (env T I X M n) M F s := by
  simp only [env, envPt, hf, hk, if_true]

/-! ### Rounds -/
/-- A loop: 'I n s': the state at the head of a round, at most n rounds to come. -/
theorem lp_rule {f : St → Option (AX × St)} {I : Nat → St → Prop} {R : AX → St → Prop}
    (step : ∀ n s, I n s → (∃ m s', m < n ∧ f s = some (.norm, s') ∧ I m s') ∨ ∃ ax s', ax ≠ .norm ∧ f s = some (ax, s') ∧ R ax s') :
    ∀ (n M : Nat) (s : St), I n s → n < M → ∃ ax s', lp f M s = some (ax, s') ∧ R ax s'
  | n, 0, s, h, hn => by omega
  | n, M + 1, s, h, hn => by
    rcases step n s h with ⟨m, s', hm, h1, h2⟩ | ⟨ax, s', h0, h1, h2⟩
    · obtain ⟨ax, s2, h3, h4⟩ := lp_rule step m M s' h2 (by omega)
      exact ⟨ax, s2, by simp only [lp, h1]; exact h3, h4⟩
    · refine ⟨ax, s', ?_, h2⟩
      simp only [lp, h1]
      cases ax
      · exact (h0 rfl).elim
      · rfl
      · rfl

def nrm (ks os : List Nat) (s : St) : St := ⟨keep ks s.fr, keep os s.ob⟩
/-- What a round does: another round's state, nearer to the end; or the way out. -/
def LPost {α : Type} (S : α → St) (inv : α → Prop) (μ : α → Nat) (ks os : List Nat) (R : AX → St → Prop) (q : α) : Option (AX × St) → Prop
  | none => False
  | some (.norm, s') => ∃ q', nrm ks os s' = S q' ∧ inv q' ∧ μ q' < μ q
  | some (.ex i, s') => R (.ex i) s'
  | some (.ret, s') => R .ret s'
theorem lp_keep {Γ : Env} {N : Nat} {b : AC} {ks os : List Nat} {α : Type} (S : α → St) (inv : α → Prop) (μ : α → Nat) (R : AX → St → Prop) (step : ∀ q, inv q → LPost S inv μ ks os R q (exec Γ N b (S q))) (q : α) (M : Nat) (s : St) (hq : inv q) (hs : nrm ks os s = S q) (hM : μ q < M) :
    ∃ ax s', lp (exec Γ N (.keep ks os b)) M s = some (ax, s') ∧ R ax s' := by
  refine lp_rule (I := fun n s => ∃ q, nrm ks os s = S q ∧ inv q ∧ μ q = n) (fun n s h => ?_) (μ q) M s ⟨q, hs, hq, rfl⟩ hM
  obtain ⟨q, hs, hi, rfl⟩ := h
  have h := step q hi
  have he : exec Γ N (.keep ks os b) s = exec Γ N b (S q) := by rw [← hs]; rfl
  rw [he]
  unfold LPost at h
  split at h
  · exact h.elim
  · obtain ⟨q', h1, h2, h3⟩ := h
    exact .inl ⟨_, _, h3, ‹_›, q', h1, h2, rfl⟩
  · exact .inr ⟨_, _, by simp, ‹_›, h⟩
  · exact .inr ⟨_, _, by simp, ‹_›, h⟩

/-- A loop of which only what is kept counts. -/
theorem lp_nrm {Γ : Env} {N : Nat} {b : AC} {ks os : List Nat} {s t : St} (h : nrm ks os s = nrm ks os t) (M : Nat) : lp (exec Γ N (.keep ks os b)) M s = lp (exec Γ N (.keep ks os b)) M t := by
  cases M with
  | zero => rfl
  | succ M =>
    have : exec Γ N (.keep ks os b) s = exec Γ N (.keep ks os b) t := by
      have e : ∀ s, exec Γ N (.keep ks os b) s = exec Γ N b (nrm ks os s) := fun _ => rfl
      rw [e, e, h]
    simp only [lp, this]
theorem lp_all {Γ : Env} {N : Nat} {b : AC} {ks os : List Nat} {α : Type} (S : α → St) (inv : α → Prop) (μ : α → Nat) (R : AX → St → Prop) (q : α) (M : Nat) (hS : nrm ks os (S q) = S q) (hq : inv q) (hM : μ q < M)
    (step : ∀ q, inv q → LPost S inv μ ks os R q (exec Γ N b (S q))) : ∃ ax s', R ax s' ∧ ∀ s, nrm ks os s = S q → lp (exec Γ N (.keep ks os b)) M s = some (ax, s') := by
  obtain ⟨ax, s', h1, h2⟩ := lp_keep S inv μ R step q M (S q) hq hS hM
  exact ⟨ax, s', h2, fun s hs => by rw [← h1]; exact lp_nrm (by rw [hs, hS]) M⟩

/-! ### Arithmetic -/
theorem wrapK_i64 {n : Int} (h1 : -9223372036854775808 ≤ n) (h2 : n ≤ 9223372036854775807) : wrapK .i64 n = n := by
  unfold wrapK; rw [IntKind.wrap_i64]; omega
theorem wrapK_u8 {n : Int} (h1 : 0 ≤ n) (h2 : n ≤ 255) : wrapK .u8 n = n := by
  unfold wrapK; rw [IntKind.wrap_u8]; omega
theorem tdivK_pos {x y : Int} (h : 0 ≤ x) : tdivK x y = x / y := Int.tdiv_eq_ediv_of_nonneg h
theorem tmodK_pos {x y : Int} (h : 0 ≤ x) : tmodK x y = x % y := Int.tmod_eq_emod_of_nonneg h
/-! ### Data by their types -/
theorem all2_nil {α β : Type} {R : α → β → Prop} {m : List β} : All2 R [] m ↔ m = [] := by
  constructor
  · intro h; cases h; rfl
  · rintro rfl; exact .nil
theorem all2_cons {α β : Type} {R : α → β → Prop} {a : α} {l : List α} {m : List β} : All2 R (a :: l) m ↔ ∃ b m', m = b :: m' ∧ R a b ∧ All2 R l m' := by
  constructor
  · intro h; cases h; exact ⟨_, _, rfl, ‹_›, ‹_›⟩
  · rintro ⟨b, m', rfl, h1, h2⟩; exact .cons h1 h2
theorem wt_int {k : IntKind} {d : D} : WT (.int k) d ↔ ∃ n, d = .int k n ∧ k.min ≤ n ∧ n ≤ k.max := by
  constructor
  · intro h; cases h; exact ⟨_, rfl, ‹_›, ‹_›⟩
  · rintro ⟨n, rfl, h1, h2⟩; exact .int k n h1 h2
theorem wt_bool {d : D} : WT .bool d ↔ ∃ b, d = .bool b := by
  constructor
  · intro h; cases h; exact ⟨_, rfl⟩
  · rintro ⟨n, rfl⟩; exact .bool n
theorem wt_str {d : D} : WT .str d ↔ ∃ s, d = .str s ∧ s.length ≤ maxLen := by
  constructor
  · intro h; cases h; exact ⟨_, rfl, ‹_›⟩
  · rintro ⟨s, rfl, h⟩; exact .str s h
theorem wt_sl {row : List CT} {d : D} : WT (.sl row) d ↔ ∃ rows, d = .vs row.length rows ∧ rows.length ≤ maxLen ∧ ∀ r ∈ rows, All2 WT row r := by
  constructor
  · intro h
    cases h with
    | sl _ rows h1 h2 h3 =>
      refine ⟨rows, rfl, h1, fun r hr => All2.of_get (h2 r hr).symm fun i t hi => ?_⟩
      have hlt : i < r.length := by rw [h2 r hr]; exact (List.getElem?_eq_some_iff.1 hi).1
      exact ⟨r[i], List.getElem?_eq_getElem hlt, h3 r hr i t _ hi (List.getElem?_eq_getElem hlt)⟩
  · rintro ⟨rows, rfl, h1, h2⟩
    exact .sl row rows h1 (fun r hr => (h2 r hr).length.symm) fun r hr i t d hi hj => (h2 r hr).get hi hj
theorem warg_c {ts : CT} {v : AV} (h : WArg (false, [ts]) v) : ∃ d, v = .c d ∧ WT ts d := by
  obtain ⟨h1, h2⟩ := h
  cases v with
  | c d => obtain ⟨t, h3, h4⟩ := h1; simp only [List.cons.injEq, and_true] at h3; subst h3; exact ⟨d, rfl, h4⟩
  | agg ds => simp at h2
  | _ => exact h1.elim
theorem warg_agg {ts : List CT} {v : AV} (h : WArg (true, ts) v) : ∃ ds, v = .agg ds ∧ All2 WT ts ds := by
  obtain ⟨h1, h2⟩ := h
  obtain ⟨ds, rfl⟩ := h2.1 rfl
  exact ⟨ds, rfl, h1⟩

/-! ### Rows of data in own objects -/
theorem allD_toAV : ∀ r : List D, allD (toAV r) = some r
  | [] => rfl
  | d :: r => by
    have := allD_toAV r
    simp only [toAV] at this ⊢
    simp [allD, this]
theorem allRows_toAV : ∀ rs : List (List D), allRows (rs.map toAV) = some rs
  | [] => rfl
  | r :: rs => by simp only [List.map_cons, allRows, allD_toAV, allRows_toAV rs]
theorem allRows_cons {r : List AV} {d : List D} {rs : Rows} (h : allD r = some d) : allRows (r :: rs) = (allRows rs).map (d :: ·) := by
  simp only [allRows, h]; cases allRows rs <;> rfl
theorem allRows_append : ∀ {a b : Rows} {x : List (List D)}, allRows a = some x → allRows (a ++ b) = (allRows b).map (x ++ ·)
  | [], b, x, h => by simp only [allRows, Option.some.injEq] at h; subst h; simp
  | r :: a, b, x, h => by
    simp only [allRows] at h
    split at h
    · rename_i d y h1 h2
      simp only [Option.some.injEq] at h; subst h
      rw [List.cons_append, allRows_cons h1, allRows_append h2]; simp [Function.comp_def]
    · simp at h
theorem allRows_comp {α : Type} (f : α → List D) (l : List α) : allRows (l.map (toAV ∘ f)) = some (l.map f) := by
  rw [← List.map_map, allRows_toAV]
theorem mem_toAV {v : AV} {r : List D} : v ∈ toAV r ↔ ∃ d, d ∈ r ∧ AV.c d = v := by simp [toAV]
theorem conv_int (s : St) (k k' : IntKind) (n : Int) : s.conv (.int k) (.c (.int k' n)) = some (.int k (wrapK k n)) := rfl
theorem conv_same (s : St) (x : List UInt8) : s.conv .same (.c (.str x)) = some (.str x) := rfl
theorem nth_zero {α : Type} (a : α) (l : List α) : (a :: l)[0]? = some a := rfl
theorem nth_succ {α : Type} (a : α) (l : List α) (n : Nat) : (a :: l)[n + 1]? = l[n]? := rfl
end Go.Am
