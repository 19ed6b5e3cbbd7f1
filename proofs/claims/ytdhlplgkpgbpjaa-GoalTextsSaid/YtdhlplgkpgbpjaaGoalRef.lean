/- Law 59: goals: the document's reading. -/
import Derived.Test.YtdhlplgkpgbpjaaGoal
set_option linter.unusedVariables false
set_option linter.unusedSimpArgs false
set_option maxRecDepth 10000
set_option maxHeartbeats 2000000
namespace Go.Am
/-- A goal's words; none: it may not be. -/
def lineOf (g : Gl) : List (List UInt8) :=
  if rightB g.o g.p g.m = true then (if g.o = 3 then [gS, txt g.m] else [if g.o = 1 then gW else gT, if 0 < g.p then txt g.p else gM, txt g.m]) else []
def strR (s : List UInt8) : List D := [.str s]
def LineC59 (g : List AV → Option (List AV)) : Prop := ∀ e : Gl, InI64 e.o → InI64 e.p → InI64 e.m → g [.agg e.cells] = some [.c (.vs 1 ((lineOf e).map strR))]
theorem ref59_Line_run (Γ : Env) (M : Nat) (hR : RightC (Γ 100)) (hO : Of (Γ 6)) : LineC59 (run Γ M ref59_Line_f) := by
  rintro ⟨o, p, m⟩ ho hp hm
  simp only at ho hp hm
  have hr := hR o p m
  have e1 := hO m hm
  have e2 := hO p hp
  obtain ⟨X, hX⟩ : ∃ X, txt m = X := ⟨_, rfl⟩
  obtain ⟨Y, hY⟩ : ∃ Y, txt p = Y := ⟨_, rfl⟩
  simp only [lineOf]
  rw [hX] at e1 ⊢
  rw [hY] at e2 ⊢
  cases hb : rightB o p m with
  | false =>
    rw [hb] at hr
    simp -implicitDefEqProofs (disch := first | omega | assumption) [hr]
  | true =>
    rw [hb] at hr
    by_cases h3 : o = 3
    · subst h3
      simp -implicitDefEqProofs (disch := first | omega | assumption) [hr, e1, strR]
    · by_cases hp0 : 0 < p
      · by_cases h1 : o = 1
        · subst h1
          simp -implicitDefEqProofs (disch := first | omega | assumption) [hr, e1, e2, hp0, strR]
        · simp -implicitDefEqProofs (disch := first | omega | assumption) [hr, e1, e2, hp0, h1, h3, strR]
      · by_cases h1 : o = 1
        · subst h1
          simp -implicitDefEqProofs (disch := first | omega | assumption) [hr, e1, e2, hp0, strR]
        · simp -implicitDefEqProofs (disch := first | omega | assumption) [hr, e1, e2, hp0, h1, h3, strR]
def gGuess : List Tk → Gl
  | [] => ⟨0, 0, 0⟩
  | [x] => ⟨gOf x.tx, 0, x.n⟩
  | [x, z] => ⟨gOf x.tx, 0, z.n⟩
  | [x, y, z] => ⟨gOf x.tx, y.n, z.n⟩
  | x :: y :: u :: v :: r => ⟨gOf x.tx, 0, ((v :: r).getLast?.getD v).n⟩
def GuessC (g : List AV → Option (List AV)) : Prop := ∀ ts : List Tk, ts ≠ [] → ts.length ≤ 70000 → g [.c (.vs 5 (ts.map Tk.cells))] = some [.agg (gGuess ts).cells]
theorem ref59_guess_run (Γ : Env) (M : Nat) : GuessC (run Γ M ref59_guess_f) := by
  intro ts hne hl
  match ts, hne, hl with
  | [x], _, _ =>
    obtain ⟨w, hxw⟩ : ∃ w, x.tx = w := ⟨_, rfl⟩
    simp only [gGuess, hxw]
    rcases gOf_cases w with ⟨rfl, h⟩ | ⟨rfl, h⟩ | ⟨rfl, h⟩ | ⟨n1, n2, n3, h⟩
    · simp -implicitDefEqProofs (disch := first | omega | assumption) [hxw, h]
    · simp -implicitDefEqProofs (disch := first | omega | assumption) [hxw, h]
    · simp -implicitDefEqProofs (disch := first | omega | assumption) [hxw, h]
    · have m1 := decide_eq_false n1
      have m2 := decide_eq_false n2
      have m3 := decide_eq_false n3
      simp -implicitDefEqProofs (disch := first | omega | assumption) [hxw, h, m1, m2, m3]
  | [x, z], _, _ =>
    obtain ⟨w, hxw⟩ : ∃ w, x.tx = w := ⟨_, rfl⟩
    simp only [gGuess, hxw]
    rcases gOf_cases w with ⟨rfl, h⟩ | ⟨rfl, h⟩ | ⟨rfl, h⟩ | ⟨n1, n2, n3, h⟩
    · simp -implicitDefEqProofs (disch := first | omega | assumption) [hxw, h]
    · simp -implicitDefEqProofs (disch := first | omega | assumption) [hxw, h]
    · simp -implicitDefEqProofs (disch := first | omega | assumption) [hxw, h]
    · have m1 := decide_eq_false n1
      have m2 := decide_eq_false n2
      have m3 := decide_eq_false n3
      simp -implicitDefEqProofs (disch := first | omega | assumption) [hxw, h, m1, m2, m3]
  | [x, y, z], _, _ =>
    obtain ⟨w, hxw⟩ : ∃ w, x.tx = w := ⟨_, rfl⟩
    simp only [gGuess, hxw]
    rcases gOf_cases w with ⟨rfl, h⟩ | ⟨rfl, h⟩ | ⟨rfl, h⟩ | ⟨n1, n2, n3, h⟩
    · simp -implicitDefEqProofs (disch := first | omega | assumption) [hxw, h]
    · simp -implicitDefEqProofs (disch := first | omega | assumption) [hxw, h]
    · simp -implicitDefEqProofs (disch := first | omega | assumption) [hxw, h]
    · have m1 := decide_eq_false n1
      have m2 := decide_eq_false n2
      have m3 := decide_eq_false n3
      simp -implicitDefEqProofs (disch := first | omega | assumption) [hxw, h, m1, m2, m3]
  | x :: y :: u :: v :: r, _, hl =>
    obtain ⟨w, hxw⟩ : ∃ w, x.tx = w := ⟨_, rfl⟩
    obtain ⟨z, hz⟩ : ∃ z, (v :: r).getLast?.getD v = z := ⟨_, rfl⟩
    have hz0 : (v :: r)[r.length]? = some z := by
      have : (v :: r).getLast? = some z := by
        rw [← hz, List.getLast?_cons]; simp
      rw [List.getLast?_eq_getElem?] at this; simpa using this
    have hlast2 : (v.cells :: List.map Tk.cells r)[r.length]? = some z.cells := by
      have : ((v :: r).map Tk.cells)[r.length]? = some z.cells := by rw [List.getElem?_map, hz0]; rfl
      simpa using this
    have hrl : r.length ≤ 69996 := by simp at hl; omega
    have hlen : (r.length : Int) + 1 + 1 + 1 + 1 - 1 = r.length + 3 := by omega
    have hnat : ((r.length : Int) + 3).toNat = r.length + 3 := by omega
    have q3 : ¬ (r.length : Int) + 1 + 1 + 1 + 1 = 3 := by omega
    simp only [gGuess, hxw, hz]
    rcases gOf_cases w with ⟨rfl, h⟩ | ⟨rfl, h⟩ | ⟨rfl, h⟩ | ⟨n1, n2, n3, h⟩
    · simp -implicitDefEqProofs (disch := first | omega | assumption) [hxw, h, hlen, hnat, hlast2, q3]
    · simp -implicitDefEqProofs (disch := first | omega | assumption) [hxw, h, hlen, hnat, hlast2, q3]
    · simp -implicitDefEqProofs (disch := first | omega | assumption) [hxw, h, hlen, hnat, hlast2, q3]
    · have m1 := decide_eq_false n1
      have m2 := decide_eq_false n2
      have m3 := decide_eq_false n3
      simp -implicitDefEqProofs (disch := first | omega | assumption) [hxw, h, m1, m2, m3, hlen, hnat, hlast2, q3]
theorem lineOf_len (g : Gl) : lineOf g = [] ∨ (∃ a b, lineOf g = [a, b]) ∨ ∃ a b c, lineOf g = [a, b, c] := by
  unfold lineOf
  split
  · split
    · exact .inr (.inl ⟨_, _, rfl⟩)
    · exact .inr (.inr ⟨_, _, _, rfl⟩)
  · exact .inl rfl
def isG (ts : List Tk) (g : Gl) : Bool := !decide (ts = []) && decide (ts.map Tk.tx = lineOf g)
instance : DecidableEq Tk := fun a b => by
  cases a; cases b; simp only [Tk.mk.injEq]; infer_instance
def IsC (g : List AV → Option (List AV)) : Prop := ∀ (ts : List Tk) (e : Gl), ts ≠ [] → ts.length ≤ 70000 → InI64 e.o → InI64 e.p → InI64 e.m → g [.c (.vs 5 (ts.map Tk.cells)), .agg e.cells] = some [bo (decide (ts.map Tk.tx = lineOf e))]
theorem ref59_is_run (Γ : Env) (M : Nat) (hL : LineC59 (Γ 144)) : IsC (run Γ (M + 20) ref59_is_f) := by
  rintro ts e hne hl ho hp hm
  have hli := hL e ho hp hm
  obtain ⟨o, p, m⟩ := e
  obtain ⟨L, hLL⟩ : ∃ L, lineOf ⟨o, p, m⟩ = L := ⟨_, rfl⟩
  have hlen := lineOf_len ⟨o, p, m⟩
  rw [hLL] at hli hlen ⊢
  by_cases hll : L.length = ts.length
  · rcases hlen with rfl | ⟨a, b, rfl⟩ | ⟨a, b, c, rfl⟩
    · exact (hne (List.length_eq_zero_iff.1 hll.symm)).elim
    · match ts, hll with
      | [x, y], _ =>
        by_cases h1 : x.tx = a
        · by_cases h2 : y.tx = b
          · simp -implicitDefEqProofs (disch := first | omega | assumption) [hli, strR, lp_succ, ref59_is_l1_x, h1, h2]
          · simp -implicitDefEqProofs (disch := first | omega | assumption) [hli, strR, lp_succ, ref59_is_l1_x, h1, h2]
        · simp -implicitDefEqProofs (disch := first | omega | assumption) [hli, strR, lp_succ, ref59_is_l1_x, h1]
    · match ts, hll with
      | [x, y, z], _ =>
        by_cases h1 : x.tx = a
        · by_cases h2 : y.tx = b
          · by_cases h3 : z.tx = c
            · simp -implicitDefEqProofs (disch := first | omega | assumption) [hli, strR, lp_succ, ref59_is_l1_x, h1, h2, h3]
            · simp -implicitDefEqProofs (disch := first | omega | assumption) [hli, strR, lp_succ, ref59_is_l1_x, h1, h2, h3]
          · simp -implicitDefEqProofs (disch := first | omega | assumption) [hli, strR, lp_succ, ref59_is_l1_x, h1, h2]
        · simp -implicitDefEqProofs (disch := first | omega | assumption) [hli, strR, lp_succ, ref59_is_l1_x, h1]
  · have hll2 : ¬ (L.length : Int) = ts.length := by omega
    have hne2 : ¬ ts.map Tk.tx = L := fun h => hll (by rw [← h]; simp)
    simp -implicitDefEqProofs (disch := first | omega | assumption) [hli, hll2, hne2]
/-- The document's goal of a line's tokens. -/
def gl (ts : List Tk) : Option Gl := if ts ≠ [] ∧ ts.map Tk.tx = lineOf (gGuess ts) then some (gGuess ts) else none
end Go.Am
