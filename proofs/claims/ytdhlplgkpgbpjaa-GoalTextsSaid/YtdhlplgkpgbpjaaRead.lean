/- Texts of lines that are read line by line: what comes of their tokens. -/
import Derived.Test.YtdhlplgkpgbpjaaTokW
set_option linter.unusedVariables false
set_option linter.unusedSimpArgs false
set_option maxRecDepth 10000
set_option maxHeartbeats 1000000
namespace Go.Am
theorem lcRows_take {α : Type} (k n : Nat) (f : α → List D) (l : List α) : lcRows k (List.take n (List.map (toAV ∘ f) l)) = true := by rw [← List.map_take]; exact lcRows_comp k f _
theorem nmRows_take {α : Type} (k n : Nat) (f : α → List D) (l : List α) : nmRows k (List.take n (List.map (toAV ∘ f) l)) = true := by rw [← List.map_take]; exact nmRows_comp k f _
attribute [simp] lcRows_take nmRows_take
/-- What was read; or the line and the column at which it stopped. -/
inductive RdR (α : Type) where
  | ok (l : List α)
  | bad (l c : Int)
/-- Tokens, line by line: those of the line so far, those to come, what was read. -/
def rdL {α : Type} (ev : List Tk → Option α) : List Tk → List Tk → List α → RdR α
  | _, [], out => .ok out
  | cur, t :: r, out => if t.kd = 3 then (match cur with
      | [] => rdL ev [] r out
      | x :: cr => match ev (x :: cr) with
        | some e => rdL ev [] r (out ++ [e])
        | none => .bad x.l x.c) else rdL ev (cur ++ [t]) r out
section
variable {α : Type} {ev : List Tk → Option α}
theorem rdL_end {cur : List Tk} {t : Tk} {r : List Tk} {out : List α} (h : t.kd = 3) : rdL ev [] (t :: r) out = rdL ev [] r out := by
  simp [rdL, h]
theorem rdL_more {cur : List Tk} {t : Tk} {r : List Tk} {out : List α} (h : t.kd ≠ 3) : rdL ev cur (t :: r) out = rdL ev (cur ++ [t]) r out := by
  simp [rdL, h]
theorem rdL_some {cur : List Tk} {t : Tk} {r : List Tk} {out : List α} {e : α} (h : t.kd = 3) (hc : cur ≠ []) (he : ev cur = some e) : rdL ev cur (t :: r) out = rdL ev [] r (out ++ [e]) := by
  cases cur with
  | nil => exact (hc rfl).elim
  | cons x cr => simp [rdL, h, he]
theorem rdL_none {x : Tk} {cr : List Tk} {t : Tk} {r : List Tk} {out : List α} (h : t.kd = 3) (he : ev (x :: cr) = none) : rdL ev (x :: cr) (t :: r) out = .bad x.l x.c := by
  simp [rdL, h, he]
/-- The rest of a line. -/
theorem rdL_line {out : List α} : ∀ (w cur : List Tk) (t : Tk) (r : List Tk), (∀ x ∈ w, x.kd ≠ 3) → rdL ev cur (w ++ t :: r) out = rdL ev (cur ++ w) (t :: r) out
  | [], cur, t, r, _ => by simp
  | x :: w, cur, t, r, h => by
    rw [List.cons_append, rdL_more (h x (by simp)), rdL_line w (cur ++ [x]) t r fun y hy => h y (by simp [hy])]
    simp
/-- Tokens whose last one ends a line: a line, and what comes behind. -/
theorem line_of : ∀ (l : List Tk), (∃ t, l.getLast? = some t ∧ t.kd = 3) → ∃ (w : List Tk) (t : Tk) (r : List Tk), l = w ++ t :: r ∧ (∀ x ∈ w, x.kd ≠ 3) ∧ t.kd = 3
  | [], ⟨t, h, _⟩ => by simp at h
  | x :: l, ⟨t, h, ht⟩ => by
    by_cases hx : x.kd = 3
    · exact ⟨[], x, l, rfl, by simp, hx⟩
    · cases l with
      | nil => simp at h; subst h; exact (hx ht).elim
      | cons y l =>
        obtain ⟨w, t', r, h1, h2, h3⟩ := line_of (y :: l) ⟨t, by rwa [List.getLast?_cons_cons] at h, ht⟩
        refine ⟨x :: w, t', r, by rw [h1]; rfl, fun z hz => ?_, h3⟩
        rcases List.mem_cons.1 hz with rfl | hz
        · exact hx
        · exact h2 z hz
theorem rdL_len {P : α → Prop} (hev : ∀ l e, ev l = some e → P e) : ∀ (ts cur : List Tk) (out l : List α), (∀ x ∈ out, P x) → rdL ev cur ts out = .ok l → l.length ≤ out.length + ts.length ∧ ∀ x ∈ l, P x
  | [], cur, out, l, ho, h => by simp only [rdL, RdR.ok.injEq] at h; subst h; exact ⟨by simp, ho⟩
  | t :: r, cur, out, l, ho, h => by
    simp only [rdL] at h
    split at h
    · split at h
      · obtain ⟨h1, h2⟩ := rdL_len hev r [] out l ho h
        exact ⟨by simp only [List.length_cons]; omega, h2⟩
      · split at h
        · rename_i e he
          obtain ⟨h1, h2⟩ := rdL_len hev r [] _ l (fun x hx => by
            rcases List.mem_append.1 hx with hx | hx
            · exact ho x hx
            · rw [List.mem_singleton] at hx; subst hx; exact hev _ _ he) h
          refine ⟨?_, h2⟩
          simp only [List.length_append, List.length_cons, List.length_nil] at h1 ⊢; omega
        · simp at h
    · obtain ⟨h1, h2⟩ := rdL_len hev r _ out l ho h
      exact ⟨by simp only [List.length_cons]; omega, h2⟩
end
/-- A text as lines: what was read; the number of what is wrong, and where. -/
structure RdS (α : Type) where
  l : List α
  e : Int
  ln : Int
  col : Int
def readR {α : Type} (ev : List Tk → Option α) (s : List UInt8) : RdS α :=
  if (scanR s).e ≠ 0 then ⟨[], (scanR s).e, (scanR s).l, (scanR s).c⟩
  else match rdL ev [] (scanR s).ts [] with
    | .ok l => ⟨l, 0, 0, 0⟩
    | .bad l c => ⟨[], 20, l, c⟩
/-- A written line's tokens, without its end. -/
def lineW : List It → Int → Int → List Tk
  | [], _, _ => []
  | [x], l, c => [x.tk l c]
  | x :: y :: r, l, c => x.tk l c :: lineW (y :: r) l (c + x.tx.length + 1)
theorem lineK_eq : ∀ (its : List It) (l c : Int), ∃ c', lineK its l c = lineW its l c ++ [⟨3, [], 0, l, c'⟩]
  | [], l, c => ⟨_, rfl⟩
  | [x], l, c => ⟨_, rfl⟩
  | x :: y :: r, l, c => by
    obtain ⟨c', h⟩ := lineK_eq (y :: r) l (c + x.tx.length + 1)
    exact ⟨c', by simp only [lineK, lineW, h, List.cons_append]⟩
theorem It.tk_kd (x : It) (l c : Int) : (x.tk l c).kd ≠ 3 := by cases x <;> simp [It.tk]
theorem lineW_kd : ∀ (its : List It) (l c : Int), ∀ t ∈ lineW its l c, t.kd ≠ 3
  | [], l, c, t, h => by simp [lineW] at h
  | [x], l, c, t, h => by simp only [lineW, List.mem_singleton] at h; subst h; exact x.tk_kd l c
  | x :: y :: r, l, c, t, h => by
    simp only [lineW, List.mem_cons] at h
    rcases h with rfl | h
    · exact x.tk_kd l c
    · exact lineW_kd (y :: r) l _ t (by simpa [lineW] using h)
theorem lineW_ne : ∀ (its : List It) (l c : Int), its ≠ [] → lineW its l c ≠ []
  | [], l, c, h => (h rfl).elim
  | [x], l, c, _ => by simp [lineW]
  | x :: y :: r, l, c, _ => by simp [lineW]
theorem rdL_lines {α : Type} {ev : List Tk → Option α} {g : α → List It} : ∀ (es out : List α) (l : Int), (∀ e ∈ es, g e ≠ [] ∧ ∀ l, ev (lineW (g e) l 1) = some e) → rdL ev [] (linesK (es.map g) l) out = .ok (out ++ es)
  | [], out, l, _ => by simp [linesK, rdL]
  | e :: es, out, l, h => by
    obtain ⟨h1, h2⟩ := h e (by simp)
    obtain ⟨c', hc⟩ := lineK_eq (g e) l 1
    simp only [List.map_cons, linesK]
    rw [hc, List.append_assoc, List.singleton_append, rdL_line _ _ _ _ (lineW_kd (g e) l 1), List.nil_append, rdL_some rfl (lineW_ne _ _ _ h1) (h2 l), rdL_lines es (out ++ [e]) (l + 1) fun x hx => h x (by simp [hx])]
    simp
/-- What was written is read as it was. -/
theorem readR_lines {α : Type} {ev : List Tk → Option α} {g : α → List It} (es : List α) (h : ∀ e ∈ es, (∀ x ∈ g e, x.ok) ∧ g e ≠ [] ∧ ∀ l, ev (lineW (g e) l 1) = some e) : readR ev (linesT (es.map g)) = ⟨es, 0, 0, 0⟩ := by
  cases es with
  | nil => rfl
  | cons e es =>
    have hs := scanR_lines ((e :: es).map g) (by simp) (fun its hi => by
      obtain ⟨a, ha, rfl⟩ := List.mem_map.1 hi
      exact (h a ha).1)
    unfold readR
    rw [hs]
    simp only [ne_eq, not_true_eq_false, if_false]
    rw [rdL_lines (e :: es) [] 1 fun x hx => (h x hx).2]
    simp
end Go.Am
