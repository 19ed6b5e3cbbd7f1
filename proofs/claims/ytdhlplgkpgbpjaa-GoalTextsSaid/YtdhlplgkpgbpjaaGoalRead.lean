/- Law 59: a text as goals: the readings. -/
import Derived.Test.YtdhlplgkpgbpjaaGoalEq
set_option linter.unusedVariables false
set_option linter.unusedSimpArgs false
set_option maxRecDepth 10000
set_option maxHeartbeats 2000000
namespace Go.Am
def GReadC (ev : List Tk → Option Gl) (g : List AV → Option (List AV)) : Prop := ∀ s : List UInt8, s.length ≤ 65536 → g [st s] = some [.c (.vs 3 ((readR ev s).l.map Gl.cells)), .agg [.int .i64 (readR ev s).e, .int .i64 (readR ev s).ln, .int .i64 (readR ev s).col]]
abbrev pz9 : Obj := ⟨3, [[i64 0, i64 0, i64 0]]⟩
def grS (ts : List Tk) (i frm : Nat) (out : List Gl) : St := ⟨[(3, .loc 3 0 0), (4, .c (.vs 5 (ts.map Tk.cells))), (6, .sl 6 out.length 0 out.length), (7, i64 frm), (21, .c (.vs 5 (ts.map Tk.cells))), (22, i64 ts.length), (23, i64 i)], [(3, pz9), (6, ⟨3, out.map (toAV ∘ Gl.cells)⟩)]⟩
def grOut : RdR Gl → AX → St → Prop
  | .ok l, ax, s => ax = .ex 0 ∧ s = ⟨[(3, .loc 3 0 0), (6, .sl 6 l.length 0 l.length)], [(3, pz9), (6, ⟨3, l.map (toAV ∘ Gl.cells)⟩)]⟩
  | .bad l c, ax, s => ax = .ret ∧ s = ⟨[(2, .nil 3), (3, .loc 3 0 0)], [(3, ⟨3, [[i64 20, i64 l, i64 c]]⟩)]⟩
theorem goal_Read_loop (Γ : Env) (M : Nat) (hM : 65540 < M) (hE : GoalC (Γ 145)) (ts : List Tk) (hts : ts.length ≤ 65537) :
    ∃ ax s', grOut (rdL gp [] ts []) ax s' ∧ ∀ t, nrm [3, 4, 6, 7, 21, 22, 23] [3, 6, 58] t = grS ts 0 0 [] → lp (exec Γ M goal_Read_l1) M t = some (ax, s') := by
  obtain ⟨R0, hR0⟩ : ∃ R, rdL gp [] ts [] = R := ⟨_, rfl⟩
  rw [hR0]
  refine lp_all (fun q : Nat × Nat × List Gl => grS ts q.1 q.2.1 q.2.2) (fun q => q.1 ≤ ts.length ∧ q.2.1 ≤ q.1 ∧ q.2.2.length ≤ q.1 ∧ rdL gp ((ts.drop q.2.1).take (q.1 - q.2.1)) (ts.drop q.1) q.2.2 = R0) (fun q => ts.length - q.1) _ (0, 0, []) M (by simp [grS]) ⟨by omega, by simp, by simp, by simpa using hR0⟩ (by simp only; omega) ?_
  rintro ⟨i, frm, out⟩ ⟨hi, hf, ho, hr⟩
  simp only at hi hf ho hr ⊢
  by_cases hlt : i < ts.length
  · obtain ⟨t, ht⟩ : ∃ t, ts[i]'hlt = t := ⟨_, rfl⟩
    rw [List.drop_eq_getElem_cons hlt, ht] at hr
    have hnext : (ts.drop frm).take (i - frm) ++ [t] = (ts.drop frm).take (i + 1 - frm) := by
      rw [show i + 1 - frm = (i - frm) + 1 by omega, List.take_succ_eq_append_getElem (by simp; omega)]
      congr 2
      rw [List.getElem_drop, ← ht]; congr 1; omega
    by_cases hk : t.kd = 3
    · by_cases hgt : frm < i
      · have hlen : ((ts.drop frm).take (i - frm)).length = i - frm := by simp; omega
        have hfl : frm < ts.length := by omega
        obtain ⟨x, hx⟩ : ∃ x, ts[frm]'hfl = x := ⟨_, rfl⟩
        have hcur : (ts.drop frm).take (i - frm) = x :: ((ts.drop (frm + 1)).take (i - frm - 1)) := by
          rw [List.drop_eq_getElem_cons hfl, hx, show i - frm = (i - frm - 1) + 1 by omega, List.take_succ_cons]; simp
        have hE1 := hE ((ts.drop frm).take (i - frm)) (by omega)
        rw [List.map_take, List.map_drop] at hE1
        obtain ⟨C, hC⟩ : ∃ C, (ts.drop frm).take (i - frm) = C := ⟨_, rfl⟩
        rw [hC] at hr hE1 hcur
        have hcond : frm ≤ i ∧ i ≤ ts.length := ⟨hf, hi⟩
        cases he : gp C with
        | none =>
          rw [he] at hE1
          rw [hcur] at he hr
          rw [rdL_none hk he] at hr
          subst hr
          obtain ⟨e, hE1⟩ := hE1
          simp -implicitDefEqProofs (disch := first | omega | assumption) [grS, grOut, hlt, ht, hk, hgt, hcond, hE1, hfl, hx]
        | some e =>
          rw [rdL_some hk (by rw [hcur]; simp) he] at hr
          rw [he] at hE1
          simp only [GoalRes] at hE1
          simp -implicitDefEqProofs (disch := first | omega | assumption) [grS, grOut, hlt, ht, hk, hgt, hcond, hE1]
          exact ⟨i + 1, i + 1, out ++ [e], by simp, ⟨by omega, by omega, by simp; omega, by simpa using hr⟩, by omega⟩
      · obtain rfl : frm = i := by omega
        simp only [Nat.sub_self, List.take_zero] at hr
        rw [rdL_end (cur := []) hk] at hr
        simp -implicitDefEqProofs (disch := first | omega | assumption) [grS, grOut, hlt, ht, hk]
        exact ⟨frm + 1, frm + 1, out, by simp, ⟨by omega, by omega, by omega, by simpa using hr⟩, by omega⟩
    · rw [rdL_more hk, hnext] at hr
      simp -implicitDefEqProofs (disch := first | omega | assumption) [grS, grOut, hlt, ht, hk]
      exact ⟨i + 1, frm, out, by simp, ⟨by omega, by omega, by omega, hr⟩, by omega⟩
  · obtain rfl : i = ts.length := by omega
    have he : rdL gp ((ts.drop frm).take (ts.length - frm)) (ts.drop ts.length) out = .ok out := by simp [rdL]
    rw [he] at hr
    subst hr
    simp -implicitDefEqProofs (disch := first | omega | assumption) [grS, grOut]
theorem goal_Read_run (Γ : Env) (M : Nat) (hM : 65540 < M) (hS : ScanC (Γ 35)) (hE : GoalC (Γ 145)) : GReadC gp (run Γ M goal_Read_f) := by
  intro s hs
  have e35 := hS s hs
  have hlen := scanR_len s
  have hse := scanR_e s
  obtain ⟨R, hR⟩ : ∃ R, scanR s = R := ⟨_, rfl⟩
  simp only [readR]
  rw [hR] at e35 hlen hse ⊢
  by_cases h0 : R.e = 0
  · rw [if_neg (by simp [h0])]
    obtain ⟨ax, s', hO, hin⟩ := goal_Read_loop Γ M hM hE R.ts (by omega)
    have hlp := hin (grS R.ts 0 0 []) (by simp [grS])
    simp [grS] at hlp
    cases hr : rdL gp [] R.ts [] with
    | ok l =>
      rw [hr] at hO
      obtain ⟨rfl, rfl⟩ := hO
      simp -implicitDefEqProofs (disch := first | omega | assumption) [e35, h0, hlp]
      exact List.take_of_length_le (by simp)
    | bad l c =>
      rw [hr] at hO
      obtain ⟨rfl, rfl⟩ := hO
      simp -implicitDefEqProofs (disch := first | omega | assumption) [e35, h0, hlp]
  · rw [if_pos h0]
    have ht : R.ts = [] := by
      rcases hse with h | h
      · exact (h0 h.1).elim
      · exact h.2
    simp -implicitDefEqProofs (disch := first | omega | assumption) [e35, h0, ht]
/-- The line so far: in the first line an own slice; then none, or one that is made anew. -/
inductive Fs where
  | fa
  | fb
def lnV : Fs → List Tk → AV
  | .fa, [] => .sl 7 0 0 0
  | .fb, [] => .nil 5
  | .fa, x :: r => .sl 7 (r.length + 1) 0 (r.length + 1)
  | .fb, x :: r => .sl 37 (r.length + 1) 0 (r.length + 1)
def lnO : Fs → List Tk → List (Nat × Obj)
  | .fa, [] => [(7, ⟨5, []⟩)]
  | .fb, [] => []
  | .fa, x :: r => [(7, ⟨5, (x :: r).map (toAV ∘ Tk.cells)⟩)]
  | .fb, x :: r => [(37, ⟨5, (x :: r).map (toAV ∘ Tk.cells)⟩)]
def gfS (ts : List Tk) (i : Nat) (b : Fs) (cur : List Tk) (out : List Gl) : St := ⟨[(3, .loc 3 0 0), (4, .c (.vs 5 (ts.map Tk.cells))), (6, .sl 6 out.length 0 out.length), (7, lnV b cur), (8, i64 i)], (3, pz9) :: (6, ⟨3, out.map (toAV ∘ Gl.cells)⟩) :: lnO b cur⟩
theorem gl_some {ts : List Tk} (h : ts ≠ []) : gl ts = if ts.map Tk.tx = lineOf (gGuess ts) then some (gGuess ts) else none := by
  unfold gl; simp only [h, ne_eq, not_false_eq_true, true_and]
theorem guess_ok {ts : List Tk} (h : ∀ t ∈ ts, TkOk t) : InI64 (gGuess ts).o ∧ InI64 (gGuess ts).p ∧ InI64 (gGuess ts).m := by
  have ho : ∀ w, InI64 (gOf w) := fun w => by
    rcases gOf_cases w with ⟨_, h⟩ | ⟨_, h⟩ | ⟨_, h⟩ | ⟨_, _, _, h⟩ <;> rw [h] <;> unfold InI64 <;> omega
  have z0 : InI64 0 := by unfold InI64; omega
  have hn : ∀ t ∈ ts, InI64 t.n := fun t ht => by have := (h t ht).num; unfold InI64; omega
  match ts, hn with
  | [], _ => exact ⟨z0, z0, z0⟩
  | [x], hn => exact ⟨ho _, z0, hn x (by simp)⟩
  | [x, z], hn => exact ⟨ho _, z0, hn z (by simp)⟩
  | [x, y, z], hn => exact ⟨ho _, hn y (by simp), hn z (by simp)⟩
  | x :: y :: u :: v :: r, hn =>
    refine ⟨ho _, z0, ?_⟩
    obtain ⟨z, hz⟩ : ∃ z, (v :: r).getLast? = some z := by rw [List.getLast?_cons]; exact ⟨_, rfl⟩
    simp only [gGuess, hz, Option.getD_some]
    refine hn z ?_
    have := List.mem_of_getLast? hz
    simp only [List.mem_cons] at this ⊢
    rcases this with h | h
    · exact .inr (.inr (.inr (.inl h)))
    · exact .inr (.inr (.inr (.inr h)))
end Go.Am
