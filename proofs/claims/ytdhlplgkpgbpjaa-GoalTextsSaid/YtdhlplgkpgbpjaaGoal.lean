/- Law 59: goals: which may be; the goal that a line's tokens are. -/
import Derived.Test.YtdhlplgkpgbpjaaGoalCode
set_option linter.unusedVariables false
set_option linter.unusedSimpArgs false
set_option maxRecDepth 10000
set_option maxHeartbeats 2000000
namespace Go.Am
structure Gl where
  o : Int
  p : Int
  m : Int
abbrev Gl.cells (e : Gl) : List D := [.int .i64 e.o, .int .i64 e.p, .int .i64 e.m]
abbrev gW : List UInt8 := [119, 97, 105, 116]
abbrev gT : List UInt8 := [116, 114, 97, 110, 115, 105, 116]
abbrev gS : List UInt8 := [115, 104, 97, 114, 101]
abbrev gM : List UInt8 := [109, 101, 97, 110]
def rightB (o p m : Int) : Bool :=
  if o = 3 then decide (p = 0) && decide (0 ≤ m) && decide (m ≤ 100)
  else (decide (o = 1) || decide (o = 2)) && decide (0 ≤ p) && decide (p ≤ 100) && decide (0 ≤ m) && decide (m ≤ 1048576)
def RightC (g : List AV → Option (List AV)) : Prop := ∀ o p m : Int, g [.agg [.int .i64 o, .int .i64 p, .int .i64 m]] = some [bo (rightB o p m)]
theorem goal_Right_run (Γ : Env) (M : Nat) : RightC (run Γ M goal_Right_f) := by
  intro o p m
  by_cases h1 : o = 1
  · subst h1; simp [rightB]
  by_cases h2 : o = 2
  · subst h2; simp [rightB]
  by_cases h3 : o = 3
  · subst h3; simp [rightB]
  simp [rightB, h1, h2, h3]
theorem ref59_Right_run (Γ : Env) (M : Nat) : RightC (run Γ M ref59_Right_f) := by
  intro o p m
  by_cases h1 : o = 1
  · subst h1; simp [rightB]
  by_cases h2 : o = 2
  · subst h2; simp [rightB]
  by_cases h3 : o = 3
  · subst h3; simp [rightB]
  simp [rightB, h1, h2, h3]
def gwd (o : Int) : List UInt8 := if o = 1 then gW else if o = 2 then gT else gS
def GWordC (g : List AV → Option (List AV)) : Prop := ∀ o : Int, g [i64 o] = some [st (gwd o)]
theorem goal_word_run (Γ : Env) (M : Nat) : GWordC (run Γ M goal_word_f) := by
  intro o
  by_cases h1 : o = 1
  · subst h1; simp [gwd]
  by_cases h2 : o = 2
  · subst h2; simp [gwd]
  simp [gwd, h1, h2]
/-- What a word is about. -/
def gOf (w : List UInt8) : Int := if w = gW then 1 else if w = gT then 2 else if w = gS then 3 else 0
theorem gOf_cases (w : List UInt8) : (w = gW ∧ gOf w = 1) ∨ (w = gT ∧ gOf w = 2) ∨ (w = gS ∧ gOf w = 3) ∨ (w ≠ gW ∧ w ≠ gT ∧ w ≠ gS ∧ gOf w = 0) := by
  by_cases h1 : w = gW
  · exact .inl ⟨h1, by simp only [gOf, if_pos h1]⟩
  by_cases h2 : w = gT
  · exact .inr (.inl ⟨h2, by simp only [gOf, if_neg h1, if_pos h2]⟩)
  by_cases h3 : w = gS
  · exact .inr (.inr (.inl ⟨h3, by simp only [gOf, if_neg h1, if_neg h2, if_pos h3]⟩))
  exact .inr (.inr (.inr ⟨h1, h2, h3, by simp only [gOf, if_neg h1, if_neg h2, if_neg h3]⟩))
/-- The program's goal of a line's tokens. -/
def gp : List Tk → Option Gl
  | [x, z] => if x.kd = 1 ∧ z.kd = 2 ∧ gOf x.tx = 3 ∧ rightB 3 0 z.n = true then some ⟨3, 0, z.n⟩ else none
  | [x, y, z] => if x.kd = 1 ∧ z.kd = 2 ∧ gOf x.tx ≠ 3 then
      (if y.kd = 2 then (if 0 < y.n ∧ rightB (gOf x.tx) y.n z.n = true then some ⟨gOf x.tx, y.n, z.n⟩ else none)
       else if y.tx = gM ∧ rightB (gOf x.tx) 0 z.n = true then some ⟨gOf x.tx, 0, z.n⟩ else none) else none
  | _ => none
def GoalRes : Option Gl → Option (List AV) → Prop
  | some e, r => r = some [.agg e.cells, bo true]
  | none, r => ∃ e : Gl, r = some [.agg e.cells, bo false]
def GoalC (g : List AV → Option (List AV)) : Prop := ∀ ts : List Tk, ts.length ≤ 70000 → GoalRes (gp ts) (g [.c (.vs 5 (ts.map Tk.cells))])
theorem GoalRes.of {o : Option Gl} {r : Option (List AV)} (e : Gl) (b : Bool) (h : r = some [.agg e.cells, bo b]) (h2 : o = if b then some e else none) : GoalRes o r := by
  cases b
  · rw [h2]; exact ⟨e, h⟩
  · rw [h2]; exact h
theorem goal_goal_run (Γ : Env) (M : Nat) (hw : GWordC (Γ 143)) (hR : RightC (Γ 98)) : GoalC (run Γ (M + 20) goal_goal_f) := by
  intro ts hl
  have e1 := hw 1
  have e2 := hw 2
  have e3 := hw 3
  simp [gwd] at e1 e2 e3
  match ts, hl with
  | [], _ =>
    refine GoalRes.of ⟨0, 0, 0⟩ false ?_ rfl
    simp -implicitDefEqProofs (disch := first | omega | assumption)
  | [x], _ =>
    refine GoalRes.of ⟨0, 0, 0⟩ false ?_ rfl
    by_cases hx : x.kd = 1
    · have hx2 : ¬ x.kd = 2 := by omega
      simp -implicitDefEqProofs (disch := first | omega | assumption) [hx, hx2]
    · simp -implicitDefEqProofs (disch := first | omega | assumption) [hx]
  | [x, z], _ =>
    by_cases hx : x.kd = 1
    · by_cases hz : z.kd = 2
      · obtain ⟨w, hxw⟩ : ∃ w, x.tx = w := ⟨_, rfl⟩
        have hr := hR 3 0 z.n
        rcases gOf_cases w with ⟨rfl, h⟩ | ⟨rfl, h⟩ | ⟨rfl, h⟩ | ⟨n1, n2, n3, h⟩
        · refine GoalRes.of ⟨0, 0, 0⟩ false ?_ (by simp [gp, hxw, h])
          simp -implicitDefEqProofs (disch := first | omega | assumption) [hx, hz, hxw, lp_succ, goal_goal_l1_x, e1, e2, e3]
        · refine GoalRes.of ⟨0, 0, 0⟩ false ?_ (by simp [gp, hxw, h])
          simp -implicitDefEqProofs (disch := first | omega | assumption) [hx, hz, hxw, lp_succ, goal_goal_l1_x, e1, e2, e3]
        · refine GoalRes.of ⟨3, 0, z.n⟩ (rightB 3 0 z.n) ?_ (by simp [gp, hx, hz, hxw, h])
          cases hb : rightB 3 0 z.n with
          | true => rw [hb] at hr; simp -implicitDefEqProofs (disch := first | omega | assumption) [hx, hz, hxw, lp_succ, goal_goal_l1_x, e1, e2, e3, hr]
          | false => rw [hb] at hr; simp -implicitDefEqProofs (disch := first | omega | assumption) [hx, hz, hxw, lp_succ, goal_goal_l1_x, e1, e2, e3, hr]
        · have m1 := decide_eq_false (Ne.symm n1)
          have m2 := decide_eq_false (Ne.symm n2)
          have m3 := decide_eq_false (Ne.symm n3)
          refine GoalRes.of ⟨0, 0, 0⟩ false ?_ (by simp [gp, hxw, h])
          simp -implicitDefEqProofs (disch := first | omega | assumption) [hx, hz, hxw, lp_succ, goal_goal_l1_x, e1, e2, e3, m1, m2, m3]
      · refine GoalRes.of ⟨0, 0, 0⟩ false ?_ (by simp [gp, hz])
        simp -implicitDefEqProofs (disch := first | omega | assumption) [hx, hz]
    · refine GoalRes.of ⟨0, 0, 0⟩ false ?_ (by simp [gp, hx])
      simp -implicitDefEqProofs (disch := first | omega | assumption) [hx]
  | [x, y, z], _ =>
    by_cases hx : x.kd = 1
    · by_cases hz : z.kd = 2
      · obtain ⟨w, hxw⟩ : ∃ w, x.tx = w := ⟨_, rfl⟩
        have hr1 := hR (gOf w) y.n z.n
        have hr2 := hR (gOf w) 0 z.n
        by_cases hy : y.kd = 2
        · by_cases hp : 0 < y.n
          · cases hb : rightB (gOf w) y.n z.n with
            | true =>
              rw [hb] at hr1
              rcases gOf_cases w with ⟨rfl, h⟩ | ⟨rfl, h⟩ | ⟨rfl, h⟩ | ⟨n1, n2, n3, h⟩
              · rw [h] at hr1 hb
                refine GoalRes.of ⟨1, y.n, z.n⟩ true ?_ (by simp [gp, hx, hz, hxw, h, hy, hp, hb])
                simp -implicitDefEqProofs (disch := first | omega | assumption) [hx, hz, hxw, lp_succ, goal_goal_l1_x, e1, e2, e3, hy, hp, hr1]
              · rw [h] at hr1 hb
                refine GoalRes.of ⟨2, y.n, z.n⟩ true ?_ (by simp [gp, hx, hz, hxw, h, hy, hp, hb])
                simp -implicitDefEqProofs (disch := first | omega | assumption) [hx, hz, hxw, lp_succ, goal_goal_l1_x, e1, e2, e3, hy, hp, hr1]
              · refine GoalRes.of ⟨3, 0, z.n⟩ false ?_ (by simp [gp, hxw, h])
                simp -implicitDefEqProofs (disch := first | omega | assumption) [hx, hz, hxw, lp_succ, goal_goal_l1_x, e1, e2, e3]
              · rw [h] at hb
                simp [rightB] at hb
            | false =>
              rw [hb] at hr1
              rcases gOf_cases w with ⟨rfl, h⟩ | ⟨rfl, h⟩ | ⟨rfl, h⟩ | ⟨n1, n2, n3, h⟩
              · rw [h] at hr1 hb
                refine GoalRes.of ⟨1, y.n, z.n⟩ false ?_ (by simp [gp, hxw, h, hy, hb])
                simp -implicitDefEqProofs (disch := first | omega | assumption) [hx, hz, hxw, lp_succ, goal_goal_l1_x, e1, e2, e3, hy, hp, hr1]
              · rw [h] at hr1 hb
                refine GoalRes.of ⟨2, y.n, z.n⟩ false ?_ (by simp [gp, hxw, h, hy, hb])
                simp -implicitDefEqProofs (disch := first | omega | assumption) [hx, hz, hxw, lp_succ, goal_goal_l1_x, e1, e2, e3, hy, hp, hr1]
              · refine GoalRes.of ⟨3, 0, z.n⟩ false ?_ (by simp [gp, hxw, h])
                simp -implicitDefEqProofs (disch := first | omega | assumption) [hx, hz, hxw, lp_succ, goal_goal_l1_x, e1, e2, e3]
              · have m1 := decide_eq_false (Ne.symm n1)
                have m2 := decide_eq_false (Ne.symm n2)
                have m3 := decide_eq_false (Ne.symm n3)
                rw [h] at hr1 hb
                refine GoalRes.of ⟨0, y.n, z.n⟩ false ?_ (by simp [gp, hxw, h, hy, hb])
                simp -implicitDefEqProofs (disch := first | omega | assumption) [hx, hz, hxw, lp_succ, goal_goal_l1_x, e1, e2, e3, m1, m2, m3, hy, hp, hr1]
          · rcases gOf_cases w with ⟨rfl, h⟩ | ⟨rfl, h⟩ | ⟨rfl, h⟩ | ⟨n1, n2, n3, h⟩
            · refine GoalRes.of ⟨1, y.n, z.n⟩ false ?_ (by simp [gp, hxw, h, hy, hp])
              simp -implicitDefEqProofs (disch := first | omega | assumption) [hx, hz, hxw, lp_succ, goal_goal_l1_x, e1, e2, e3, hy, hp]
            · refine GoalRes.of ⟨2, y.n, z.n⟩ false ?_ (by simp [gp, hxw, h, hy, hp])
              simp -implicitDefEqProofs (disch := first | omega | assumption) [hx, hz, hxw, lp_succ, goal_goal_l1_x, e1, e2, e3, hy, hp]
            · refine GoalRes.of ⟨3, 0, z.n⟩ false ?_ (by simp [gp, hxw, h])
              simp -implicitDefEqProofs (disch := first | omega | assumption) [hx, hz, hxw, lp_succ, goal_goal_l1_x, e1, e2, e3]
            · have m1 := decide_eq_false (Ne.symm n1)
              have m2 := decide_eq_false (Ne.symm n2)
              have m3 := decide_eq_false (Ne.symm n3)
              refine GoalRes.of ⟨0, y.n, z.n⟩ false ?_ (by simp [gp, hxw, h, hy, hp])
              simp -implicitDefEqProofs (disch := first | omega | assumption) [hx, hz, hxw, lp_succ, goal_goal_l1_x, e1, e2, e3, m1, m2, m3, hy, hp]
        · obtain ⟨v, hyv⟩ : ∃ v, y.tx = v := ⟨_, rfl⟩
          by_cases hm : v = gM
          · subst hm
            cases hb : rightB (gOf w) 0 z.n with
            | true =>
              rw [hb] at hr2
              rcases gOf_cases w with ⟨rfl, h⟩ | ⟨rfl, h⟩ | ⟨rfl, h⟩ | ⟨n1, n2, n3, h⟩
              · rw [h] at hr2 hb
                refine GoalRes.of ⟨1, 0, z.n⟩ true ?_ (by simp [gp, hx, hz, hxw, h, hy, hyv, hb])
                simp -implicitDefEqProofs (disch := first | omega | assumption) [hx, hz, hxw, lp_succ, goal_goal_l1_x, e1, e2, e3, hy, hyv, hr2]
              · rw [h] at hr2 hb
                refine GoalRes.of ⟨2, 0, z.n⟩ true ?_ (by simp [gp, hx, hz, hxw, h, hy, hyv, hb])
                simp -implicitDefEqProofs (disch := first | omega | assumption) [hx, hz, hxw, lp_succ, goal_goal_l1_x, e1, e2, e3, hy, hyv, hr2]
              · refine GoalRes.of ⟨3, 0, z.n⟩ false ?_ (by simp [gp, hxw, h])
                simp -implicitDefEqProofs (disch := first | omega | assumption) [hx, hz, hxw, lp_succ, goal_goal_l1_x, e1, e2, e3]
              · rw [h] at hb
                simp [rightB] at hb
            | false =>
              rw [hb] at hr2
              rcases gOf_cases w with ⟨rfl, h⟩ | ⟨rfl, h⟩ | ⟨rfl, h⟩ | ⟨n1, n2, n3, h⟩
              · rw [h] at hr2 hb
                refine GoalRes.of ⟨1, 0, z.n⟩ false ?_ (by simp [gp, hxw, h, hy, hb])
                simp -implicitDefEqProofs (disch := first | omega | assumption) [hx, hz, hxw, lp_succ, goal_goal_l1_x, e1, e2, e3, hy, hyv, hr2]
              · rw [h] at hr2 hb
                refine GoalRes.of ⟨2, 0, z.n⟩ false ?_ (by simp [gp, hxw, h, hy, hb])
                simp -implicitDefEqProofs (disch := first | omega | assumption) [hx, hz, hxw, lp_succ, goal_goal_l1_x, e1, e2, e3, hy, hyv, hr2]
              · refine GoalRes.of ⟨3, 0, z.n⟩ false ?_ (by simp [gp, hxw, h])
                simp -implicitDefEqProofs (disch := first | omega | assumption) [hx, hz, hxw, lp_succ, goal_goal_l1_x, e1, e2, e3]
              · have m1 := decide_eq_false (Ne.symm n1)
                have m2 := decide_eq_false (Ne.symm n2)
                have m3 := decide_eq_false (Ne.symm n3)
                rw [h] at hr2 hb
                refine GoalRes.of ⟨0, 0, z.n⟩ false ?_ (by simp [gp, hxw, h, hy, hb])
                simp -implicitDefEqProofs (disch := first | omega | assumption) [hx, hz, hxw, lp_succ, goal_goal_l1_x, e1, e2, e3, m1, m2, m3, hy, hyv, hr2]
          · have hm2 := decide_eq_false hm
            rcases gOf_cases w with ⟨rfl, h⟩ | ⟨rfl, h⟩ | ⟨rfl, h⟩ | ⟨n1, n2, n3, h⟩
            · refine GoalRes.of ⟨1, 0, z.n⟩ false ?_ (by simp [gp, hxw, h, hy, hyv, hm])
              simp -implicitDefEqProofs (disch := first | omega | assumption) [hx, hz, hxw, lp_succ, goal_goal_l1_x, e1, e2, e3, hy, hyv, hm2]
            · refine GoalRes.of ⟨2, 0, z.n⟩ false ?_ (by simp [gp, hxw, h, hy, hyv, hm])
              simp -implicitDefEqProofs (disch := first | omega | assumption) [hx, hz, hxw, lp_succ, goal_goal_l1_x, e1, e2, e3, hy, hyv, hm2]
            · refine GoalRes.of ⟨3, 0, z.n⟩ false ?_ (by simp [gp, hxw, h])
              simp -implicitDefEqProofs (disch := first | omega | assumption) [hx, hz, hxw, lp_succ, goal_goal_l1_x, e1, e2, e3]
            · have m1 := decide_eq_false (Ne.symm n1)
              have m2 := decide_eq_false (Ne.symm n2)
              have m3 := decide_eq_false (Ne.symm n3)
              refine GoalRes.of ⟨0, 0, z.n⟩ false ?_ (by simp [gp, hxw, h, hy, hyv, hm])
              simp -implicitDefEqProofs (disch := first | omega | assumption) [hx, hz, hxw, lp_succ, goal_goal_l1_x, e1, e2, e3, m1, m2, m3, hy, hyv, hm2]
      · refine GoalRes.of ⟨0, 0, 0⟩ false ?_ (by simp [gp, hz])
        simp -implicitDefEqProofs (disch := first | omega | assumption) [hx, hz]
    · refine GoalRes.of ⟨0, 0, 0⟩ false ?_ (by simp [gp, hx])
      simp -implicitDefEqProofs (disch := first | omega | assumption) [hx]
  | x :: y :: u :: v :: r, hl =>
    have hg : gp (x :: y :: u :: v :: r) = none := rfl
    rw [hg]
    by_cases hx : x.kd = 1
    · obtain ⟨z, hz0⟩ : ∃ z, (x :: y :: u :: v :: r)[r.length + 3]? = some z := ⟨(x :: y :: u :: v :: r)[r.length + 3], by simp⟩
      have hlast : ((x :: y :: u :: v :: r).map Tk.cells)[r.length + 3]? = some z.cells := by rw [List.getElem?_map, hz0]; rfl
      have hrl : r.length ≤ 69996 := by simp at hl; omega
      have hlen : (r.length : Int) + 1 + 1 + 1 + 1 - 1 = r.length + 3 := by omega
      have hnat : ((r.length : Int) + 3).toNat = r.length + 3 := by omega
      have q0 : ¬ (r.length : Int) + 1 + 1 + 1 + 1 = 0 := by omega
      have q2 : ¬ (r.length : Int) + 1 + 1 + 1 + 1 = 2 := by omega
      have q3 : ¬ (r.length : Int) + 1 + 1 + 1 + 1 = 3 := by omega
      simp only [List.map_cons] at hlast
      have hlast2 : (v.cells :: List.map Tk.cells r)[r.length]? = some z.cells := by simpa using hlast
      by_cases hz : z.kd = 2
      · obtain ⟨w, hxw⟩ : ∃ w, x.tx = w := ⟨_, rfl⟩
        rcases gOf_cases w with ⟨rfl, h⟩ | ⟨rfl, h⟩ | ⟨rfl, h⟩ | ⟨n1, n2, n3, h⟩
        · refine GoalRes.of ⟨0, 0, 0⟩ false ?_ rfl
          simp -implicitDefEqProofs (disch := first | omega | assumption) [hx, hz, hxw, lp_succ, goal_goal_l1_x, e1, e2, e3, hlen, hnat, hlast2, q0, q2, q3]
        · refine GoalRes.of ⟨0, 0, 0⟩ false ?_ rfl
          simp -implicitDefEqProofs (disch := first | omega | assumption) [hx, hz, hxw, lp_succ, goal_goal_l1_x, e1, e2, e3, hlen, hnat, hlast2, q0, q2, q3]
        · refine GoalRes.of ⟨3, 0, z.n⟩ false ?_ rfl
          simp -implicitDefEqProofs (disch := first | omega | assumption) [hx, hz, hxw, lp_succ, goal_goal_l1_x, e1, e2, e3, hlen, hnat, hlast2, q0, q2, q3]
        · have m1 := decide_eq_false (Ne.symm n1)
          have m2 := decide_eq_false (Ne.symm n2)
          have m3 := decide_eq_false (Ne.symm n3)
          refine GoalRes.of ⟨0, 0, 0⟩ false ?_ rfl
          simp -implicitDefEqProofs (disch := first | omega | assumption) [hx, hz, hxw, lp_succ, goal_goal_l1_x, e1, e2, e3, m1, m2, m3, hlen, hnat, hlast2, q0, q2, q3]
      · refine GoalRes.of ⟨0, 0, 0⟩ false ?_ rfl
        simp -implicitDefEqProofs (disch := first | omega | assumption) [hx, hz, hlen, hnat, hlast2, q0, q2, q3]
    · have q0 : ¬ (r.length : Int) + 1 + 1 + 1 + 1 = 0 := by omega
      refine GoalRes.of ⟨0, 0, 0⟩ false ?_ rfl
      simp -implicitDefEqProofs (disch := first | omega | assumption) [hx, q0]
end Go.Am
