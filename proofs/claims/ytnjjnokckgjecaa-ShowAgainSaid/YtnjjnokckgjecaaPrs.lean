/- Law 26: what a text says, as a plain function. -/
import Derived.Test.YtnjjnokckgjecaaPar
import Derived.Test.YtnjjnokckgjecaaTokW
set_option linter.unusedVariables false
set_option linter.unusedSimpArgs false
set_option maxRecDepth 10000
set_option maxHeartbeats 1000000
namespace Go.Am
/-- What a line has: t a template, d a dispatcher, else a number's name. -/
def shapeW (w : List UInt8) : List (List UInt8) := if w = pTraffic then [[116], pTicks, pRate] else if w = pDispatcher then [[100]] else namesW w
def wordN (nm w : List UInt8) : Int := if nm = [100] then dspW w else temW w
def isWord (nm : List UInt8) : Bool := decide (nm = [116]) || decide (nm = [100])
def partE (nm : List UInt8) (t : Tk) : Int :=
  if t.kd = 3 then 261
  else if isWord nm = true then (if t.kd = 1 then (if wordN nm t.tx = 0 then 260 else 0) else 260)
  else if t.kd = 1 then 260 else if inB nm t.n then 0 else 264
def partN (nm : List UInt8) (t : Tk) : Int := if isWord nm = true then wordN nm t.tx else t.n
inductive PO where
  | bad (e : Int) (t : Tk) (r : List Tk)
  | ok (ns : List Int) (r : List Tk)
def tk0 : Tk := ⟨0, [], 0, 0, 0⟩
def numsA : List Int → List (List UInt8) → List Tk → PO
  | acc, [], r => .ok acc r
  | _, _ :: _, [] => .bad 0 tk0 []
  | acc, nm :: l, t :: r => if partE nm t = 0 then numsA (acc ++ [partN nm t]) l r else .bad (partE nm t) t r
def putC (s : Scn) (head : List UInt8) : List Int → Scn
  | [a] => if head = pDispatcher then { s with disp := a } else if head = pHorizon then { s with horizon := a } else s
  | [a, b] => if head = pBuilding then { s with floors := a, gap := b } else if head = pCars then { s with cars := a, capacity := b } else if head = pBins then { s with bins := a, width := b } else s
  | [k, a, b] => if head = pTraffic then { s with segs := s.segs ++ [⟨k, a, b⟩] } else s
  | [a, b, c, d] => if head = pDoors then { s with opn := a, dwell := b, cls := c, transfer := d } else s
  | _ => s
inductive LO where
  | bad (e : Int) (t : Tk) (r : List Tk)
  | ok (s : Scn) (r : List Tk)
def endP (s : Scn) (head : List UInt8) : PO → LO
  | .bad e t r => .bad e t r
  | .ok _ [] => .bad 0 tk0 []
  | .ok ns (x :: r) => if x.kd = 3 then .ok (putC s head ns) r else .bad 261 x r
def lineP (s : Scn) (seen : List (List UInt8)) (t : Tk) (r : List Tk) : LO :=
  if t.kd ≠ 1 ∨ shapeW t.tx = [] then .bad 260 t r
  else if t.tx ∈ seen ∧ t.tx ≠ pTraffic then .bad 262 t r
  else if t.tx = pTraffic ∧ s.segs.length = 8 then .bad 21 t r
  else endP s t.tx (numsA [] (shapeW t.tx) r)
structure PR where
  s : Scn
  e : Int
  l : Int
  c : Int
def scnZ : Scn := ⟨0, 0, 0, 0, 0, 0, 0, 0, [], 0, 0, 0, 0⟩
def badR (e : Int) (t : Tk) : PR := ⟨scnZ, e, t.l, t.c⟩
def lackW (seen : List (List UInt8)) : Bool := linesW.any fun w => decide (w ∉ seen)
def textP (last : Tk) : Nat → Scn → List (List UInt8) → List Tk → PR
  | 0, _, _, _ => badR 0 tk0
  | _ + 1, s, seen, [] => if lackW seen = true then badR 263 last else ⟨s, 0, 0, 0⟩
  | f + 1, s, seen, t :: r => if t.kd = 3 then textP last f s seen r else match lineP s seen t r with
    | .bad e t _ => badR e t
    | .ok s' r' => textP last f s' (seen ++ [t.tx]) r'
def parseT (ts : List Tk) : PR := textP (ts.getLastD tk0) (ts.length + 1) scnZ [] ts
def parseR (x : List UInt8) : PR := if (scanR x).e = 0 then parseT (scanR x).ts else ⟨scnZ, (scanR x).e, (scanR x).l, (scanR x).c⟩
/-! ### The rest gets less -/
/-- The last one is a line's end. -/
def EndL (l : List Tk) : Prop := ∃ t, l.getLast? = some t ∧ t.kd = 3
theorem endL_cons {t : Tk} {r : List Tk} (h : EndL (t :: r)) (ht : t.kd ≠ 3) : EndL r := by
  obtain ⟨x, h1, h2⟩ := h
  cases r with
  | nil => simp at h1; subst h1; exact (ht h2).elim
  | cons y r => exact ⟨x, by simpa using h1, h2⟩
theorem endL_or {t : Tk} {r : List Tk} (h : EndL (t :: r)) : r = [] ∨ EndL r := by
  obtain ⟨x, h1, h2⟩ := h
  cases r with
  | nil => exact .inl rfl
  | cons y r => exact .inr ⟨x, by simpa using h1, h2⟩
theorem endL_ne {r : List Tk} (h : EndL r) : r ≠ [] := by
  rintro rfl; obtain ⟨x, h1, _⟩ := h; simp at h1
theorem partE_ne {nm : List UInt8} {t : Tk} (h : partE nm t = 0) : t.kd ≠ 3 := by
  intro h3; simp [partE, h3] at h
/-- What numbers' reading comes to. -/
theorem numsA_spec (P : Tk → Prop) : ∀ (l : List (List UInt8)) (acc : List Int) (r : List Tk), EndL r → (∀ t ∈ r, P t) →
    (∃ e t r', numsA acc l r = .bad e t r' ∧ e ≠ 0 ∧ P t ∧ t ∈ r) ∨ (∃ ns r', numsA acc l r = .ok (acc ++ ns) r' ∧ ns.length = l.length ∧ EndL r' ∧ r'.length + l.length = r.length ∧ (∀ t ∈ r', t ∈ r) ∧
      ∀ (i : Nat) (nm : List UInt8) (n : Int), l[i]? = some nm → ns[i]? = some n → ∃ t, P t ∧ partE nm t = 0 ∧ n = partN nm t)
  | [], acc, r, hE, hP => .inr ⟨[], r, by simp [numsA], rfl, hE, by simp, fun t h => h, by simp⟩
  | nm :: l, acc, [], hE, hP => (endL_ne hE rfl).elim
  | nm :: l, acc, t :: r, hE, hP => by
    by_cases h : partE nm t = 0
    · have h3 := partE_ne h
      rcases numsA_spec P l (acc ++ [partN nm t]) r (endL_cons hE h3) (fun x hx => hP x (by simp [hx])) with ⟨e, t', r', h1, h2, h4, h5⟩ | ⟨ns, r', h1, h2, h4, h5, h5', h6⟩
      · exact .inl ⟨e, t', r', by simp only [numsA, if_pos h]; exact h1, h2, h4, by simp [h5]⟩
      · refine .inr ⟨partN nm t :: ns, r', by simp only [numsA, if_pos h]; rw [h1]; simp, by simp [h2], h4, by simp only [List.length_cons]; omega, fun x hx => by simp [h5' x hx], ?_⟩
        intro i nm' n hi hn
        cases i with
        | zero => simp only [List.getElem?_cons_zero, Option.some.injEq] at hi hn; subst hi hn; exact ⟨t, hP t (by simp), h, rfl⟩
        | succ i => simp only [List.getElem?_cons_succ] at hi hn; exact h6 i nm' n hi hn
    · exact .inl ⟨partE nm t, t, r, by simp only [numsA, if_neg h], h, hP t (by simp), by simp⟩
theorem lineP_spec (P : Tk → Prop) (s : Scn) (seen : List (List UInt8)) (t : Tk) (r : List Tk) (hE : EndL (t :: r)) (h3 : t.kd ≠ 3) (hP : ∀ x ∈ t :: r, P x) :
    (∃ e x r', lineP s seen t r = .bad e x r' ∧ e ≠ 0 ∧ P x ∧ x ∈ t :: r) ∨
    (∃ ns r', lineP s seen t r = .ok (putC s t.tx ns) r' ∧ t.kd = 1 ∧ shapeW t.tx ≠ [] ∧ (t.tx ∈ seen → t.tx = pTraffic) ∧ (t.tx = pTraffic → s.segs.length ≠ 8) ∧ ns.length = (shapeW t.tx).length ∧ (r' = [] ∨ EndL r') ∧ r'.length < r.length ∧ (∀ x ∈ r', x ∈ r) ∧
      ∀ (i : Nat) (nm : List UInt8) (n : Int), (shapeW t.tx)[i]? = some nm → ns[i]? = some n → ∃ t, P t ∧ partE nm t = 0 ∧ n = partN nm t) := by
  unfold lineP
  by_cases c1 : t.kd ≠ 1 ∨ shapeW t.tx = []
  · rw [if_pos c1]; exact .inl ⟨_, _, _, rfl, by decide, hP t (by simp), by simp⟩
  rw [if_neg c1]
  by_cases c2 : t.tx ∈ seen ∧ t.tx ≠ pTraffic
  · rw [if_pos c2]; exact .inl ⟨_, _, _, rfl, by decide, hP t (by simp), by simp⟩
  rw [if_neg c2]
  by_cases c3 : t.tx = pTraffic ∧ s.segs.length = 8
  · rw [if_pos c3]; exact .inl ⟨_, _, _, rfl, by decide, hP t (by simp), by simp⟩
  rw [if_neg c3]
  rcases numsA_spec P (shapeW t.tx) [] r (endL_cons hE h3) (fun x hx => hP x (by simp [hx])) with ⟨e, t', r', h1, h2, h4, h5⟩ | ⟨ns, r', h1, h2, h4, h5, h5', h6⟩
  · rw [h1]; exact .inl ⟨e, t', r', rfl, h2, h4, by simp [h5]⟩
  · rw [h1]
    cases r' with
    | nil => exact (endL_ne h4 rfl).elim
    | cons x r' =>
      simp only [endP, List.nil_append]
      by_cases c4 : x.kd = 3
      · rw [if_pos c4]
        simp only [not_or, Decidable.not_not] at c1
        refine .inr ⟨ns, r', rfl, c1.1, c1.2, fun h => Decidable.not_not.1 fun h' => c2 ⟨h, h'⟩, fun h h' => c3 ⟨h, h'⟩, h2, endL_or h4, by simp only [List.length_cons] at h5; omega, fun y hy => h5' y (by simp [hy]), h6⟩
      · rw [if_neg c4]
        exact .inl ⟨_, _, _, rfl, by decide, hP x (by simp [h5' x (by simp)]), by simp [h5' x (by simp)]⟩
theorem textP_fuel (last : Tk) : ∀ (f f' : Nat) (s : Scn) (seen : List (List UInt8)) (r : List Tk), (r = [] ∨ EndL r) → r.length < f → r.length < f' → textP last f s seen r = textP last f' s seen r
  | 0, f', s, seen, r, _, h, _ => by omega
  | f + 1, 0, s, seen, r, _, _, h => by omega
  | f + 1, f' + 1, s, seen, [], _, _, _ => rfl
  | f + 1, f' + 1, s, seen, t :: r, hE, h1, h2 => by
    have hE : EndL (t :: r) := hE.resolve_left (by simp)
    simp only [List.length_cons] at h1 h2
    simp only [textP]
    by_cases h3 : t.kd = 3
    · rw [if_pos h3, if_pos h3]; exact textP_fuel last f f' s seen r (endL_or hE) (by omega) (by omega)
    · rw [if_neg h3, if_neg h3]
      rcases lineP_spec (fun _ => True) s seen t r hE h3 (by simp) with ⟨e, x, r', h4, _⟩ | ⟨ns, r', h4, _, _, _, _, _, h5, h6, _⟩
      · rw [h4]
      · rw [h4]; exact textP_fuel last f f' _ _ r' h5 (by omega) (by omega)
end Go.Am
