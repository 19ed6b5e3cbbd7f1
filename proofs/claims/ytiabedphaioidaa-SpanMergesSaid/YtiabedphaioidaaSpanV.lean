/- Law 9: what two rows both have, what one has alone, how many, whether one has a number: the program's functions. -/
import Derived.Test.YtiabedphaioidaaSpanW
set_option linter.unusedVariables false
set_option linter.unusedSimpArgs false
set_option maxRecDepth 10000
set_option maxHeartbeats 2000000
namespace Go.Am
def EqSpC (g : List AV → Option (List AV)) : Prop := ∀ l : List Sp, l.length ≤ 4000 → g [spL l, spL l] = some [bo true]
theorem slices_Equal_Sp_run (Γ : Env) (M : Nat) (hM : 4100 < M) : EqSpC (run Γ M slices_Equal_Sapi_Span_api_Span_f) := by
  intro ts hl
  obtain ⟨ax, s', ⟨rfl, rfl⟩, hin⟩ : ∃ ax s', (ax = .ex 0 ∧ s' = ⟨[], []⟩) ∧ ∀ s0, nrm [0, 1, 12, 13] [] s0 = ⟨[(0, spL ts), (1, spL ts), (12, i64 ts.length), (13, i64 (0 : Nat))], []⟩ → lp (exec Γ M slices_Equal_Sapi_Span_api_Span_l1) M s0 = some (ax, s') := by
    refine lp_all (fun q : Nat => ⟨[(0, spL ts), (1, spL ts), (12, i64 ts.length), (13, i64 q)], []⟩) (fun q => q ≤ ts.length) (fun q => ts.length - q) _ 0 M (by simp) (by omega) (by omega) ?_
    intro k hk
    by_cases hlt : k < ts.length
    · simp -implicitDefEqProofs (disch := first | omega | assumption) [hlt, Sp.cells]
      exact ⟨k + 1, by omega, by omega, by omega⟩
    · obtain rfl : k = ts.length := by omega
      simp -implicitDefEqProofs (disch := first | omega | assumption)
  simp -implicitDefEqProofs (disch := first | omega | (simp <;> fail) | assumption) [hin]
theorem takeSp (l : List Sp) : List.take l.length (l.map Sp.cells) = l.map Sp.cells := List.take_of_length_le (by simp)
/-! ### Both -/
structure AndInv (a b x y out : List Sp) : Prop where
  rx : SRight x
  ry : SRight y
  ro : SRight out
  far : ∀ s ∈ out, (∀ u ∈ x, s.t < u.f) ∨ (∀ u ∈ y, s.t < u.f)
  has : ∀ n, (HasS out n ∨ (HasS x n ∧ HasS y n)) ↔ HasS a n ∧ HasS b n
  ok : ∀ s ∈ out, s.Ok
  okx : ∀ s ∈ x, s.Ok
  oky : ∀ s ∈ y, s.Ok
  len : out.length + x.length + y.length ≤ a.length + b.length
theorem and_step {a b x y out : List Sp} {u v : Sp} (h : AndInv a b (u :: x) (v :: y) out) : ∃ out', (out' = out ∧ ¬ max u.f v.f < min u.t v.t ∨ out' = out ++ [⟨max u.f v.f, min u.t v.t⟩] ∧ max u.f v.f < min u.t v.t) ∧ (u.t < v.t → AndInv a b x (v :: y) out') ∧ (¬ u.t < v.t → AndInv a b (u :: x) y out') := by
  obtain ⟨hu1, hu2⟩ := h.rx.head
  obtain ⟨hv1, hv2⟩ := h.ry.head
  obtain ⟨w, hw⟩ : ∃ w : Sp, w = ⟨max u.f v.f, min u.t v.t⟩ := ⟨_, rfl⟩
  have wf : w.f = max u.f v.f := by rw [hw]
  have wt : w.t = min u.t v.t := by rw [hw]
  have hwok : w.Ok := by
    have h1 := h.okx u (by simp)
    have h2 := h.oky v (by simp)
    obtain ⟨⟨_, _⟩, _, _⟩ := h1
    obtain ⟨⟨_, _⟩, _, _⟩ := h2
    exact ⟨⟨by rw [wf]; omega, by rw [wf]; omega⟩, by rw [wt]; omega, by rw [wt]; omega⟩
  -- what the round puts out
  obtain ⟨out', hout, hro, hhas, hok, hlen, hfar⟩ : ∃ out', (out' = out ∧ ¬ max u.f v.f < min u.t v.t ∨ out' = out ++ [⟨max u.f v.f, min u.t v.t⟩] ∧ max u.f v.f < min u.t v.t) ∧ SRight out' ∧ (∀ n, HasS out' n ↔ HasS out n ∨ (u.f ≤ n ∧ n < u.t ∧ v.f ≤ n ∧ n < v.t)) ∧ (∀ s ∈ out', s.Ok) ∧ out'.length ≤ out.length + 1 ∧ (∀ s ∈ out', s ∈ out ∨ s.t = min u.t v.t) := by
    by_cases c : max u.f v.f < min u.t v.t
    · refine ⟨out ++ [w], .inr ⟨by rw [hw], c⟩, h.ro.snoc (by omega) fun s hs => ?_, fun n => ?_, fun s hs => ?_, by simp, fun s hs => ?_⟩
      · rcases h.far s hs with h1 | h1
        · have := h1 u (by simp); omega
        · have := h1 v (by simp); omega
      · rw [hasS_app, hasS_cons, hasS_nil, or_false, wf, wt]
        constructor
        · rintro (h1 | h1)
          · exact .inl h1
          · exact .inr (by omega)
        · rintro (h1 | h1)
          · exact .inl h1
          · exact .inr (by omega)
      · simp only [List.mem_append, List.mem_singleton] at hs
        rcases hs with hs | rfl
        · exact h.ok s hs
        · exact hwok
      · simp only [List.mem_append, List.mem_singleton] at hs
        rcases hs with hs | rfl
        · exact .inl hs
        · exact .inr wt
    · refine ⟨out, .inl ⟨rfl, c⟩, h.ro, fun n => ?_, h.ok, by omega, fun s hs => .inl hs⟩
      constructor
      · exact .inl
      · rintro (h1 | h1)
        · exact h1
        · omega
  have hl := h.len
  simp only [List.length_cons] at hl
  refine ⟨out', hout, fun hc => ⟨h.rx.tail, h.ry, hro, fun s hs => ?_, fun n => ?_, hok, fun s hs => h.okx s (by simp [hs]), h.oky, by simp only [List.length_cons]; omega⟩, fun hc => ⟨h.rx, h.ry.tail, hro, fun s hs => ?_, fun n => ?_, hok, h.okx, fun s hs => h.oky s (by simp [hs]), by simp only [List.length_cons]; omega⟩⟩
  · rcases hfar s hs with h1 | h1
    · rcases h.far s h1 with h2 | h2
      · exact .inl fun z hz => h2 z (by simp [hz])
      · exact .inr h2
    · exact .inl fun z hz => by have := hu2 z hz; omega
  · rw [hhas, ← h.has n, hasS_cons u x]
    constructor
    · rintro ((h1 | h1) | ⟨h1, h2⟩)
      · exact .inl h1
      · exact .inr ⟨.inl ⟨h1.1, h1.2.1⟩, (hasS_cons _ _ _).2 (.inl h1.2.2)⟩
      · exact .inr ⟨.inr h1, h2⟩
    · rintro (h1 | ⟨h1 | h1, h2⟩)
      · exact .inl (.inl h1)
      · rcases (hasS_cons _ _ _).1 h2 with h3 | ⟨z, hz, h3, h4⟩
        · exact .inl (.inr ⟨h1.1, h1.2, h3⟩)
        · have := hv2 z hz; omega
      · exact .inr ⟨h1, h2⟩
  · rcases hfar s hs with h1 | h1
    · rcases h.far s h1 with h2 | h2
      · exact .inl h2
      · exact .inr fun z hz => h2 z (by simp [hz])
    · exact .inr fun z hz => by have := hv2 z hz; omega
  · rw [hhas, ← h.has n, hasS_cons v y]
    constructor
    · rintro ((h1 | h1) | ⟨h1, h2⟩)
      · exact .inl h1
      · exact .inr ⟨(hasS_cons _ _ _).2 (.inl ⟨h1.1, h1.2.1⟩), .inl h1.2.2⟩
      · exact .inr ⟨h1, .inr h2⟩
    · rintro (h1 | ⟨h1, h2 | h2⟩)
      · exact .inl (.inl h1)
      · rcases (hasS_cons _ _ _).1 h1 with h3 | ⟨z, hz, h3, h4⟩
        · exact .inl (.inr ⟨h3.1, h3.2, h2⟩)
        · have := hu2 z hz; omega
      · exact .inr ⟨h1, h2⟩
def AndC (g : List AV → Option (List AV)) : Prop := ∀ a b : List Sp, a.length ≤ 1000 → b.length ≤ 1000 → SRight a → SRight b → (∀ s ∈ a, s.Ok) → (∀ s ∈ b, s.Ok) →
  ∃ o : List Sp, g [spL a, spL b] = some [spL o] ∧ SRight o ∧ (∀ s ∈ o, s.Ok) ∧ o.length ≤ a.length + b.length ∧ ∀ n, HasS o n ↔ HasS a n ∧ HasS b n
theorem span_And_run (Γ : Env) (M : Nat) (hM : 2100 < M) : AndC (run Γ M span_And_f) := by
  intro a b ha hb ra rb oa ob
  obtain ⟨ax, s', ⟨o, rfl, rfl, ho⟩, hin⟩ : ∃ ax s', (∃ o : List Sp, ax = .ex 0 ∧ s' = ⟨[(5, .sl 5 o.length 0 o.length)], [(5, ⟨2, oR o⟩)]⟩ ∧ SRight o ∧ (∀ s ∈ o, s.Ok) ∧ o.length ≤ a.length + b.length ∧ ∀ n, HasS o n ↔ HasS a n ∧ HasS b n) ∧ ∀ s0, nrm [0, 1, 5] [5, 42] s0 = ⟨[(0, spL a), (1, spL b), (5, .sl 5 ([] : List Sp).length 0 ([] : List Sp).length)], [(5, ⟨2, oR []⟩)]⟩ → lp (exec Γ M span_And_l1) M s0 = some (ax, s') := by
    refine lp_all (fun q : List Sp × List Sp × List Sp => ⟨[(0, spL q.1), (1, spL q.2.1), (5, .sl 5 q.2.2.length 0 q.2.2.length)], [(5, ⟨2, oR q.2.2⟩)]⟩) (fun q => AndInv a b q.1 q.2.1 q.2.2) (fun q => q.1.length + q.2.1.length) _ (a, b, []) M (by simp) ⟨ra, rb, .nil, by simp, fun n => by simp [hasS_nil], by simp, oa, ob, by simp⟩ (by dsimp only; omega) ?_
    rintro ⟨x, y, out⟩ h
    dsimp only at h ⊢
    have hl := h.len
    have hol := oR_len out
    cases x with
    | nil =>
      have hfin : ∀ n, HasS out n ↔ HasS a n ∧ HasS b n := fun n => by rw [← h.has n, hasS_nil]; simp
      simp -implicitDefEqProofs (disch := first | omega | assumption)
      exact ⟨out, ⟨rfl, rfl⟩, h.ro, h.ok, by omega, hfin⟩
    | cons u x =>
      cases y with
      | nil =>
        have hfin : ∀ n, HasS out n ↔ HasS a n ∧ HasS b n := fun n => by rw [← h.has n, hasS_nil]; simp
        simp -implicitDefEqProofs (disch := first | omega | assumption)
        exact ⟨out, ⟨rfl, rfl⟩, h.ro, h.ok, by simp only [List.length_cons] at hl; omega, hfin⟩
      | cons v y =>
        obtain ⟨out', hout, h1, h2⟩ := and_step h
        simp only [List.length_cons] at hl
        have hlc : lcRows 5 (oR out) = true := lcRows_comp 5 Sp.cells out
        have e1 : (if u.f < v.f then v.f else u.f) = max u.f v.f := by split <;> omega
        have e2 : (if v.t < u.t then v.t else u.t) = min u.t v.t := by split <;> omega
        have hnm : nmRows 6 (oR out) = true := nmRows_comp 6 Sp.cells out
        have hap : oR out ++ [[i64 (max u.f v.f), i64 (min u.t v.t)]] = oR (out ++ [⟨max u.f v.f, min u.t v.t⟩]) := by unfold oR; rw [List.map_append]; rfl
        have hln : (out ++ [(⟨max u.f v.f, min u.t v.t⟩ : Sp)]).length = out.length + 1 := by simp
        rcases hout with ⟨rfl, c⟩ | ⟨rfl, c⟩
        · by_cases d : u.t < v.t
          · have h1 := h1 d
            simp -implicitDefEqProofs (disch := first | omega | (simp <;> fail) | assumption) [Sp.cells, e1, e2, c, d, hol, hlc, hnm]
            refine ⟨x, v :: y, out', ?_, h1, by simp⟩
            simp [Sp.cells, takeSp]
          · have h2 := h2 d
            simp -implicitDefEqProofs (disch := first | omega | (simp <;> fail) | assumption) [Sp.cells, e1, e2, c, d, hol, hlc, hnm]
            refine ⟨u :: x, y, out', ?_, h2, by simp⟩
            simp [Sp.cells, takeSp]
        · by_cases d : u.t < v.t
          · have h1 := h1 d
            simp -implicitDefEqProofs (disch := first | omega | (simp <;> fail) | assumption) [Sp.cells, e1, e2, c, d, hol, hlc, hnm]
            refine ⟨x, v :: y, _, ?_, h1, by simp⟩
            simp [Sp.cells, hap, takeSp]
          · have h2 := h2 d
            simp -implicitDefEqProofs (disch := first | omega | (simp <;> fail) | assumption) [Sp.cells, e1, e2, c, d, hol, hlc, hnm]
            refine ⟨u :: x, y, _, ?_, h2, by simp⟩
            simp [Sp.cells, hap, takeSp]
  have hlp : ∀ s0, nrm [0, 1, 5] [5, 42] s0 = ⟨[(0, spL a), (1, spL b), (5, .sl 5 0 0 0)], [(5, ⟨2, []⟩)]⟩ → lp (exec Γ M span_And_l1) M s0 = some (.ex 0, ⟨[(5, .sl 5 o.length 0 o.length)], [(5, ⟨2, oR o⟩)]⟩) := hin
  refine ⟨o, ?_, ho⟩
  have hall := allRows_comp Sp.cells o
  have hrl := oR_len o
  have hF := List.take_of_length_le (i := o.length) (l := o.map Sp.cells) (by simp)
  rw [show List.map (toAV ∘ Sp.cells) o = oR o from rfl] at hall
  generalize hG : oR o = G at *
  generalize hK : o.map Sp.cells = K at *
  simp -implicitDefEqProofs (disch := first | omega | (simp <;> fail) | assumption) [hlp, hall, hrl, hF, hK]
/-! ### The first one alone -/
/-- What is put out of a span, some spans of the other row gone. -/
structure SubInv (out0 : List Sp) (s : Sp) (bp out : List Sp) (f : Int) : Prop where
  ro : SRight out
  far : ∀ x ∈ out, x.t < f
  low : s.f ≤ f
  mark : f = s.f ∨ ∃ x ∈ bp, f = x.t
  behind : ∀ n, f ≤ n → n < s.t → ¬ HasS bp n
  has : ∀ n, HasS out n ↔ HasS out0 n ∨ (s.f ≤ n ∧ n < s.t ∧ n < f ∧ ¬ HasS bp n)
  ok : ∀ x ∈ out, x.Ok
  okf : InI64 f
  top : ∀ x ∈ out, x ∈ out0 ∨ x.t ≤ s.t
  len : out.length ≤ out0.length + bp.length
theorem SubInv.outside {out0 bp out : List Sp} {s t : Sp} {f n : Int} (h : SubInv out0 s bp out f) (hb : ∀ x ∈ bp, x.t < t.f) (h1 : s.f ≤ n) (h2 : n < f) : ¬ (t.f ≤ n ∧ n < t.t) := by
  rintro ⟨h3, h4⟩
  rcases h.mark with h5 | ⟨x, hx, h5⟩
  · omega
  · have := hb x hx; omega
theorem sub_skip {out0 bp out : List Sp} {s t : Sp} {f : Int} (h : SubInv out0 s bp out f) (hb : ∀ x ∈ bp, x.t < t.f) (hs : t.t ≤ f ∨ s.t ≤ t.f) : SubInv out0 s (bp ++ [t]) out f where
  ro := h.ro
  far := h.far
  low := h.low
  mark := by
    rcases h.mark with h5 | ⟨x, hx, h5⟩
    · exact .inl h5
    · exact .inr ⟨x, by simp [hx], h5⟩
  behind := fun n h1 h2 => by
    rw [hasS_app, hasS_cons, hasS_nil, or_false]
    rintro (h3 | h3)
    · exact h.behind n h1 h2 h3
    · omega
  has := fun n => by
    rw [h.has, hasS_app, hasS_cons, hasS_nil, or_false]
    constructor
    · rintro (h1 | ⟨h1, h2, h3, h4⟩)
      · exact .inl h1
      · refine .inr ⟨h1, h2, h3, ?_⟩
        rintro (h5 | h5)
        · exact h4 h5
        · exact h.outside hb h1 h3 h5
    · rintro (h1 | ⟨h1, h2, h3, h4⟩)
      · exact .inl h1
      · exact .inr ⟨h1, h2, h3, fun h5 => h4 (.inl h5)⟩
  ok := h.ok
  okf := h.okf
  top := h.top
  len := by have := h.len; simp; omega
theorem sub_cut {out0 bp out : List Sp} {s t : Sp} {f : Int} (h : SubInv out0 s bp out f) (hb : ∀ x ∈ bp, x.t < t.f) (ht : t.f < t.t) (hok : t.Ok) (h1 : f < t.t) (h2 : t.f < s.t) (h3 : f < t.f) : SubInv out0 s (bp ++ [t]) (out ++ [⟨f, t.f⟩]) t.t where
  ro := h.ro.snoc h3 h.far
  far := fun x hx => by
    simp only [List.mem_append, List.mem_singleton] at hx
    rcases hx with hx | rfl
    · have := h.far x hx; omega
    · exact ht
  low := by have := h.low; omega
  mark := .inr ⟨t, by simp, rfl⟩
  behind := fun n h4 h5 => by
    rw [hasS_app, hasS_cons, hasS_nil, or_false]
    rintro (h6 | h6)
    · exact h.behind n (by omega) h5 h6
    · omega
  has := fun n => by
    rw [hasS_app, h.has, hasS_cons, hasS_nil, or_false, hasS_app, hasS_cons, hasS_nil, or_false]
    have hl := h.low
    constructor
    · rintro ((h4 | ⟨h4, h5, h6, h7⟩) | ⟨h4, h5⟩)
      · exact .inl h4
      · refine .inr ⟨h4, h5, by omega, ?_⟩
        rintro (h8 | h8)
        · exact h7 h8
        · omega
      · simp only at h4 h5
        refine .inr ⟨by omega, by omega, by omega, ?_⟩
        rintro (h8 | h8)
        · exact h.behind n h4 (by omega) h8
        · omega
    · rintro (h4 | ⟨h4, h5, h6, h7⟩)
      · exact .inl (.inl h4)
      · rcases Int.lt_or_le n f with h8 | h8
        · exact .inl (.inr ⟨h4, h5, h8, fun h9 => h7 (.inl h9)⟩)
        · refine .inr ⟨h8, ?_⟩
          simp only
          rcases Int.lt_or_le n t.f with h9 | h9
          · exact h9
          · exact (h7 (.inr ⟨h9, h6⟩)).elim
  ok := fun x hx => by
    simp only [List.mem_append, List.mem_singleton] at hx
    rcases hx with hx | rfl
    · exact h.ok x hx
    · exact ⟨h.okf, hok.f⟩
  okf := hok.t
  top := fun x hx => by
    simp only [List.mem_append, List.mem_singleton] at hx
    rcases hx with hx | rfl
    · exact h.top x hx
    · exact .inr (by simp only; omega)
  len := by have := h.len; simp; omega
theorem sub_eat {out0 bp out : List Sp} {s t : Sp} {f : Int} (h : SubInv out0 s bp out f) (hb : ∀ x ∈ bp, x.t < t.f) (ht : t.f < t.t) (hok : t.Ok) (h1 : f < t.t) (h2 : t.f < s.t) (h3 : ¬ f < t.f) : SubInv out0 s (bp ++ [t]) out t.t where
  ro := h.ro
  far := fun x hx => by have := h.far x hx; omega
  low := by have := h.low; omega
  mark := .inr ⟨t, by simp, rfl⟩
  behind := fun n h4 h5 => by
    rw [hasS_app, hasS_cons, hasS_nil, or_false]
    rintro (h6 | h6)
    · exact h.behind n (by omega) h5 h6
    · omega
  has := fun n => by
    rw [h.has, hasS_app, hasS_cons, hasS_nil, or_false]
    constructor
    · rintro (h4 | ⟨h4, h5, h6, h7⟩)
      · exact .inl h4
      · refine .inr ⟨h4, h5, by omega, ?_⟩
        rintro (h8 | h8)
        · exact h7 h8
        · exact h.outside hb h4 h6 h8
    · rintro (h4 | ⟨h4, h5, h6, h7⟩)
      · exact .inl h4
      · rcases Int.lt_or_le n f with h8 | h8
        · exact .inr ⟨h4, h5, h8, fun h9 => h7 (.inl h9)⟩
        · exact (h7 (.inr ⟨by omega, h6⟩)).elim
  ok := h.ok
  okf := hok.t
  top := h.top
  len := by have := h.len; simp; omega
structure SubOut (a b ap ar out : List Sp) : Prop where
  ro : SRight out
  far : ∀ x ∈ out, ∀ y ∈ ar, x.t < y.f
  has : ∀ n, HasS out n ↔ HasS ap n ∧ ¬ HasS b n
  ok : ∀ x ∈ out, x.Ok
  len : out.length ≤ ap.length * (b.length + 1)
theorem SubOut.start {a b ap ar out : List Sp} {s : Sp} (h : SubOut a b ap (s :: ar) out) (hs : s.Ok) : SubInv out s [] out s.f where
  ro := h.ro
  far := fun x hx => h.far x hx s (by simp)
  low := Int.le_refl _
  mark := .inl rfl
  behind := fun n _ _ => by simp [HasS]
  has := fun n => by
    constructor
    · exact .inl
    · rintro (h1 | h1)
      · exact h1
      · omega
  ok := h.ok
  okf := hs.f
  top := fun x hx => .inl hx
  len := by simp
theorem SubOut.next {a b ap ar out0 out : List Sp} {s : Sp} {f : Int} (h0 : SubOut a b ap (s :: ar) out0) (h : SubInv out0 s b out f) (hs : s.Ok) (hr : ∀ y ∈ ar, s.t < y.f) : (f < s.t → SubOut a b (ap ++ [s]) ar (out ++ [⟨f, s.t⟩])) ∧ (¬ f < s.t → SubOut a b (ap ++ [s]) ar out) := by
  have far : ∀ x ∈ out, ∀ y ∈ ar, x.t < y.f := fun x hx y hy => by
    rcases h.top x hx with h1 | h1
    · exact h0.far x h1 y (by simp [hy])
    · have := hr y hy; omega
  have l1 := h.len
  have l2 := h0.len
  have l3 : (ap.length + 1) * (b.length + 1) = ap.length * (b.length + 1) + (b.length + 1) := by rw [Nat.add_mul, Nat.one_mul]
  have hl := h.low
  refine ⟨fun hc => ⟨h.ro.snoc hc h.far, fun x hx y hy => ?_, fun n => ?_, fun x hx => ?_, ?_⟩, fun hc => ⟨h.ro, far, fun n => ?_, h.ok, ?_⟩⟩
  · simp only [List.mem_append, List.mem_singleton] at hx
    rcases hx with hx | rfl
    · exact far x hx y hy
    · exact hr y hy
  · rw [hasS_app, h.has, h0.has, hasS_cons, hasS_nil, or_false, hasS_app, hasS_cons, hasS_nil, or_false]
    constructor
    · rintro ((h1 | h1) | h1)
      · exact ⟨.inl h1.1, h1.2⟩
      · exact ⟨.inr ⟨h1.1, h1.2.1⟩, h1.2.2.2⟩
      · simp only at h1
        exact ⟨.inr ⟨by omega, h1.2⟩, h.behind n h1.1 h1.2⟩
    · rintro ⟨h1 | h1, h2⟩
      · exact .inl (.inl ⟨h1, h2⟩)
      · rcases Int.lt_or_le n f with h8 | h8
        · exact .inl (.inr ⟨h1.1, h1.2, h8, h2⟩)
        · exact .inr ⟨h8, h1.2⟩
  · simp only [List.mem_append, List.mem_singleton] at hx
    rcases hx with hx | rfl
    · exact h.ok x hx
    · exact ⟨h.okf, hs.t⟩
  · rw [show (ap ++ [s]).length = ap.length + 1 by simp, l3]; (try simp only [List.length_append, List.length_cons, List.length_nil]); omega
  · rw [h.has, h0.has, hasS_app, hasS_cons, hasS_nil, or_false]
    constructor
    · rintro (h1 | h1)
      · exact ⟨.inl h1.1, h1.2⟩
      · exact ⟨.inr ⟨h1.1, h1.2.1⟩, h1.2.2.2⟩
    · rintro ⟨h1 | h1, h2⟩
      · exact .inl ⟨h1, h2⟩
      · exact .inr ⟨h1.1, h1.2, by omega, h2⟩
  · rw [show (ap ++ [s]).length = ap.length + 1 by simp, l3]; (try simp only [List.length_append, List.length_cons, List.length_nil]); omega
theorem sub_in (Γ : Env) (M : Nat) (hM : 200 < M) (a b : List Sp) (hb : b.length ≤ 100) (rb : SRight b) (ob : ∀ s ∈ b, s.Ok) (i : Nat) (s : Sp) (out0 : List Sp) (hs : s.Ok) (h0 : SubInv out0 s [] out0 s.f) (hol : out0.length ≤ 20000) :
    ∃ ax s', (∃ (out : List Sp) (f : Int), ax = .ex 2 ∧ s' = ⟨[(1, spL b), (5, .sl 5 out.length 0 out.length), (7, .loc 7 0 0), (10, spL a), (11, i64 a.length), (12, i64 i)], [(5, ⟨2, oR out⟩), (7, ⟨2, [[i64 f, i64 s.t]]⟩)]⟩ ∧ SubInv out0 s b out f) ∧
      ∀ s0, nrm [1, 5, 7, 10, 11, 12, 16, 17, 18] [5, 7, 46, 59] s0 = ⟨[(1, spL b), (5, .sl 5 out0.length 0 out0.length), (7, .loc 7 0 0), (10, spL a), (11, i64 a.length), (12, i64 i), (16, spL b), (17, i64 b.length), (18, i64 (0 : Nat))], [(5, ⟨2, oR out0⟩), (7, ⟨2, [[i64 s.f, i64 s.t]]⟩)]⟩ → lp (exec Γ M span_Sub_l1) M s0 = some (ax, s') := by
  refine lp_all (fun q : Nat × List Sp × Int => ⟨[(1, spL b), (5, .sl 5 q.2.1.length 0 q.2.1.length), (7, .loc 7 0 0), (10, spL a), (11, i64 a.length), (12, i64 i), (16, spL b), (17, i64 b.length), (18, i64 q.1)], [(5, ⟨2, oR q.2.1⟩), (7, ⟨2, [[i64 q.2.2, i64 s.t]]⟩)]⟩) (fun q => q.1 ≤ b.length ∧ SubInv out0 s (b.take q.1) q.2.1 q.2.2) (fun q => b.length - q.1) _ (0, out0, s.f) M (by simp) ⟨by simp, by simpa using h0⟩ (by dsimp only; omega) ?_
  rintro ⟨j, out, f⟩ ⟨hj, h⟩
  dsimp only at hj h ⊢
  have hrl := oR_len out
  have hlc : lcRows 5 (oR out) = true := lcRows_comp 5 Sp.cells out
  have hnm : nmRows 9 (oR out) = true := nmRows_comp 9 Sp.cells out
  by_cases hlt : j < b.length
  · obtain ⟨t, ht⟩ : ∃ t, b[j]'hlt = t := ⟨_, rfl⟩
    have hmem : t ∈ b := ht ▸ List.getElem_mem hlt
    have htk : b.take (j + 1) = b.take j ++ [t] := by rw [List.take_succ_eq_append_getElem hlt, ht]
    have hbp : ∀ x ∈ b.take j, x.t < t.f := by
      have := rb
      rw [← List.take_append_drop j b] at this
      have h2 := this.of_app.2.2
      intro x hx
      refine h2 x hx t ?_
      rw [List.drop_eq_getElem_cons hlt, ht]; simp
    have htr := rb.some t hmem
    have hto := ob t hmem
    have hlen := h.len
    rw [List.length_take] at hlen
    by_cases c1 : t.t ≤ f
    · have h1 := sub_skip h hbp (.inl c1)
      rw [← htk] at h1
      simp -implicitDefEqProofs (disch := first | omega | (simp <;> fail) | assumption) [hlt, ht, Sp.cells, c1, hrl, hlc, hnm]
      exact ⟨j + 1, out, f, ⟨⟨rfl, by omega⟩, rfl, rfl⟩, ⟨by omega, h1⟩, by omega⟩
    · by_cases c2 : s.t ≤ t.f
      · have h1 := sub_skip h hbp (.inr c2)
        rw [← htk] at h1
        simp -implicitDefEqProofs (disch := first | omega | (simp <;> fail) | assumption) [hlt, ht, Sp.cells, c1, c2, hrl, hlc, hnm]
        exact ⟨j + 1, out, f, ⟨⟨rfl, by omega⟩, rfl, rfl⟩, ⟨by omega, h1⟩, by omega⟩
      · by_cases c3 : f < t.f
        · have h1 := sub_cut h hbp htr hto (by omega) (by omega) c3
          rw [← htk] at h1
          have hap : oR out ++ [[i64 f, i64 t.f]] = oR (out ++ [⟨f, t.f⟩]) := by unfold oR; rw [List.map_append]; rfl
          simp -implicitDefEqProofs (disch := first | omega | (simp <;> fail) | assumption) [hlt, ht, Sp.cells, c1, c2, c3, hrl, hlc, hnm]
          exact ⟨j + 1, _, _, ⟨⟨by simp, by omega⟩, hap, rfl⟩, ⟨by omega, h1⟩, by omega⟩
        · have h1 := sub_eat h hbp htr hto (by omega) (by omega) c3
          rw [← htk] at h1
          simp -implicitDefEqProofs (disch := first | omega | (simp <;> fail) | assumption) [hlt, ht, Sp.cells, c1, c2, c3, hrl, hlc, hnm]
          exact ⟨j + 1, out, _, ⟨⟨rfl, by omega⟩, rfl, rfl⟩, ⟨by omega, h1⟩, by omega⟩
  · obtain rfl : j = b.length := by omega
    rw [List.take_length] at h
    simp -implicitDefEqProofs (disch := first | omega | (simp <;> fail) | assumption) [hrl, hlc, hnm]
    exact ⟨out, f, ⟨rfl, rfl, rfl⟩, h⟩
def SubC (g : List AV → Option (List AV)) : Prop := ∀ a b : List Sp, a.length ≤ 100 → b.length ≤ 100 → SRight a → SRight b → (∀ s ∈ a, s.Ok) → (∀ s ∈ b, s.Ok) →
  ∃ o : List Sp, g [spL a, spL b] = some [spL o] ∧ SRight o ∧ (∀ s ∈ o, s.Ok) ∧ ∀ n, HasS o n ↔ HasS a n ∧ ¬ HasS b n
theorem span_Sub_run (Γ : Env) (M : Nat) (hM : 2100 < M) : SubC (run Γ M span_Sub_f) := by
  intro a b ha hb ra rb oa ob
  have hprod : ∀ k : Nat, k ≤ 100 → k * (b.length + 1) ≤ 100 * 101 := fun k hk => Nat.mul_le_mul hk (by omega)
  obtain ⟨ax, s', ⟨o, rfl, rfl, ho⟩, hin⟩ : ∃ ax s', (∃ o : List Sp, ax = .ex 0 ∧ s' = ⟨[(5, .sl 5 o.length 0 o.length)], [(5, ⟨2, oR o⟩)]⟩ ∧ SubOut a b a [] o) ∧ ∀ s0, nrm [1, 5, 10, 11, 12] [5, 46, 59] s0 = ⟨[(1, spL b), (5, .sl 5 ([] : List Sp).length 0 ([] : List Sp).length), (10, spL a), (11, i64 a.length), (12, i64 (0 : Nat))], [(5, ⟨2, oR []⟩)]⟩ → lp (exec Γ M span_Sub_l2) M s0 = some (ax, s') := by
    refine lp_all (fun q : Nat × List Sp => ⟨[(1, spL b), (5, .sl 5 q.2.length 0 q.2.length), (10, spL a), (11, i64 a.length), (12, i64 q.1)], [(5, ⟨2, oR q.2⟩)]⟩) (fun q => q.1 ≤ a.length ∧ SubOut a b (a.take q.1) (a.drop q.1) q.2) (fun q => a.length - q.1) _ (0, []) M (by simp) ⟨by simp, .nil, by simp, fun n => by simp [hasS_nil], by simp, by simp⟩ (by dsimp only; omega) ?_
    rintro ⟨i, out⟩ ⟨hi, h⟩
    dsimp only at hi h ⊢
    have hrl := oR_len out
    have hnm : nmRows 7 (oR out) = true := nmRows_comp 7 Sp.cells out
    have hlen := h.len
    rw [List.length_take] at hlen
    have hp := hprod (min i a.length) (by omega)
    by_cases hlt : i < a.length
    · obtain ⟨s, hs⟩ : ∃ t, a[i]'hlt = t := ⟨_, rfl⟩
      have hso := oa s (hs ▸ List.getElem_mem hlt)
      have hdr : a.drop i = s :: a.drop (i + 1) := by rw [List.drop_eq_getElem_cons hlt, hs]
      have htk : a.take (i + 1) = a.take i ++ [s] := by rw [List.take_succ_eq_append_getElem hlt, hs]
      rw [hdr] at h
      have hrr : ∀ y ∈ a.drop (i + 1), s.t < y.f := by
        have := ra
        rw [← List.take_append_drop i a, hdr] at this
        exact this.of_app.2.1.head.2
      obtain ⟨ax, s', ⟨out', f, rfl, rfl, hI⟩, hin⟩ := sub_in Γ M (by omega) a b hb rb ob i s out hso (h.start hso) (by omega)
      have hin2 : ∀ s0, nrm [1, 5, 7, 10, 11, 12, 16, 17, 18] [5, 7, 46, 59] s0 = ⟨[(1, spL b), (5, .sl 5 out.length 0 out.length), (7, .loc 7 0 0), (10, spL a), (11, i64 a.length), (12, i64 i), (16, spL b), (17, i64 b.length), (18, i64 0)], [(5, ⟨2, oR out⟩), (7, ⟨2, [[i64 s.f, i64 s.t]]⟩)]⟩ → lp (exec Γ M span_Sub_l1) M s0 = some (.ex 2, ⟨[(1, spL b), (5, .sl 5 out'.length 0 out'.length), (7, .loc 7 0 0), (10, spL a), (11, i64 a.length), (12, i64 i)], [(5, ⟨2, oR out'⟩), (7, ⟨2, [[i64 f, i64 s.t]]⟩)]⟩) := hin
      obtain ⟨h1, h2⟩ := h.next hI hso hrr
      rw [← htk] at h1 h2
      have hrl' := oR_len out'
      have hlc' : lcRows 5 (oR out') = true := lcRows_comp 5 Sp.cells out'
      have hl' := hI.len
      by_cases c : f < s.t
      · have h1 := h1 c
        have hap : oR out' ++ [[i64 f, i64 s.t]] = oR (out' ++ [⟨f, s.t⟩]) := by unfold oR; rw [List.map_append]; rfl
        simp -implicitDefEqProofs (disch := first | omega | (simp <;> fail) | assumption) [hlt, hs, Sp.cells, hrl, hnm, hin2, c, hrl', hlc']
        exact ⟨i + 1, _, ⟨⟨by simp, by omega⟩, hap⟩, ⟨by omega, h1⟩, by omega⟩
      · have h2 := h2 c
        simp -implicitDefEqProofs (disch := first | omega | (simp <;> fail) | assumption) [hlt, hs, Sp.cells, hrl, hnm, hin2, c, hrl', hlc']
        exact ⟨i + 1, _, ⟨⟨rfl, by omega⟩, rfl⟩, ⟨by omega, h2⟩, by omega⟩
    · obtain rfl : i = a.length := by omega
      rw [List.take_length, List.drop_length] at h
      simp -implicitDefEqProofs (disch := first | omega | (simp <;> fail) | assumption) [hrl]
      exact ⟨out, ⟨rfl, rfl⟩, h⟩
  have hlp : ∀ s0, nrm [1, 5, 10, 11, 12] [5, 46, 59] s0 = ⟨[(1, spL b), (5, .sl 5 0 0 0), (10, spL a), (11, i64 a.length), (12, i64 0)], [(5, ⟨2, []⟩)]⟩ → lp (exec Γ M span_Sub_l2) M s0 = some (.ex 0, ⟨[(5, .sl 5 o.length 0 o.length)], [(5, ⟨2, oR o⟩)]⟩) := hin
  refine ⟨o, ?_, ho.ro, ho.ok, ho.has⟩
  have hall := allRows_comp Sp.cells o
  have hrl := oR_len o
  have hF := List.take_of_length_le (i := o.length) (l := o.map Sp.cells) (by simp)
  rw [show List.map (toAV ∘ Sp.cells) o = oR o from rfl] at hall
  generalize hG : oR o = G at *
  generalize hK : o.map Sp.cells = K at *
  simp -implicitDefEqProofs (disch := first | omega | (simp <;> fail) | assumption) [hlp, hall, hrl, hF, hK]
/-! ### How many -/
abbrev u64V (z : Int) : AV := .c (.int .u64 z)
theorem wrapU (n : Int) : wrapK .u64 n = n % 18446744073709551616 := by unfold wrapK; rw [IntKind.wrap_u64]
theorem cntS_snoc (l : List Sp) (s : Sp) : cntS (l ++ [s]) = cntS l + (s.t - s.f) := by unfold cntS; simp
def LenC9 (g : List AV → Option (List AV)) : Prop := ∀ l : List Sp, l.length ≤ 20000 → g [spL l] = some [u64V (wrapK .u64 (cntS l))]
theorem span_Len_run (Γ : Env) (M : Nat) (hM : 20100 < M) : LenC9 (run Γ M span_Len_f) := by
  intro l hl
  obtain ⟨ax, s', ⟨rfl, rfl⟩, hin⟩ : ∃ ax s', (ax = .ex 0 ∧ s' = ⟨[(3, u64V (wrapK .u64 (cntS l)))], []⟩) ∧ ∀ s0, nrm [3, 6, 7, 8] [] s0 = ⟨[(3, u64V (wrapK .u64 (cntS (l.take 0)))), (6, spL l), (7, i64 l.length), (8, i64 (0 : Nat))], []⟩ → lp (exec Γ M span_Len_l1) M s0 = some (ax, s') := by
    refine lp_all (fun q : Nat => ⟨[(3, u64V (wrapK .u64 (cntS (l.take q)))), (6, spL l), (7, i64 l.length), (8, i64 q)], []⟩) (fun q => q ≤ l.length) (fun q => l.length - q) _ 0 M (by simp) (by omega) (by omega) ?_
    intro k hk
    by_cases hlt : k < l.length
    · obtain ⟨s, hs⟩ : ∃ t, l[k]'hlt = t := ⟨_, rfl⟩
      have hsn : cntS (l.take (k + 1)) = cntS (l.take k) + (s.t - s.f) := by rw [List.take_succ_eq_append_getElem hlt, hs, cntS_snoc]
      generalize cntS (l.take k) = C at *
      have hw : wrapK .u64 (wrapK .u64 C + wrapK .u64 (wrapK .u64 s.t - wrapK .u64 s.f)) = wrapK .u64 (cntS (l.take (k + 1))) := by
        rw [hsn]; simp only [wrapU]; omega
      generalize wrapK .u64 C = W at *
      simp -implicitDefEqProofs (disch := first | omega | assumption) [hlt, hs, Sp.cells, hw]
      exact ⟨k + 1, ⟨rfl, by omega⟩, by omega, by omega⟩
    · obtain rfl : k = l.length := by omega
      rw [List.take_length]
      simp -implicitDefEqProofs (disch := first | omega | assumption)
  have hlp : lp (exec Γ M span_Len_l1) M ⟨[(3, .c (.int .u64 0)), (6, spL l), (7, i64 l.length), (8, i64 0)], []⟩ = some (.ex 0, ⟨[(3, u64V (wrapK .u64 (cntS l)))], []⟩) := hin _ (by simp [cntS, wrapU])
  simp -implicitDefEqProofs (disch := first | omega | assumption) [hlp]
end Go.Am
