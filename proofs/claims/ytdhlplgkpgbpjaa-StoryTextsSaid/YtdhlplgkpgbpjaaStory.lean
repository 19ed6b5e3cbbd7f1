/- Law 66: a text as events: the program's functions. -/
import Derived.Test.YtdhlplgkpgbpjaaStoryCode
set_option linter.unusedVariables false
set_option linter.unusedSimpArgs false
set_option maxRecDepth 10000
set_option maxHeartbeats 1000000
namespace Go.Am
structure Ev where
  tk : Int
  kd : Int
  car : Int
  id : Int
abbrev Ev.cells (e : Ev) : List D := [.int .i64 e.tk, .int .i64 e.kd, .int .i64 e.car, .int .i64 e.id]
abbrev evZ : List D := [.int .i64 0, .int .i64 0, .int .i64 0, .int .i64 0]
abbrev w1 : List UInt8 := [99, 111, 109, 101, 115]
abbrev w2 : List UInt8 := [111, 112, 101, 110, 115]
abbrev w3 : List UInt8 := [111, 117, 116]
abbrev w4 : List UInt8 := [105, 110]
abbrev w5 : List UInt8 := [99, 108, 111, 115, 101, 115]
def wd (k : Int) : List UInt8 := if k = 1 then w1 else if k = 2 then w2 else if k = 3 then w3 else if k = 4 then w4 else if k = 5 then w5 else []
def kOf (w : List UInt8) : Int := if w = w1 then 1 else if w = w2 then 2 else if w = w3 then 3 else if w = w4 then 4 else if w = w5 then 5 else 0
def WordC (g : List AV → Option (List AV)) : Prop := ∀ k : Int, g [i64 k] = some [st (wd k)]
theorem story_word_run (Γ : Env) (M : Nat) : WordC (run Γ M story_word_f) := by
  intro k
  by_cases h1 : k = 1
  · subst h1; simp [wd]
  by_cases h2 : k = 2
  · subst h2; simp [wd]
  by_cases h3 : k = 3
  · subst h3; simp [wd]
  by_cases h4 : k = 4
  · subst h4; simp [wd]
  by_cases h5 : k = 5
  · subst h5; simp [wd]
  simp [wd, h1, h2, h3, h4, h5]
theorem ref66_word_run (Γ : Env) (M : Nat) : WordC (run Γ M ref66_word_f) := by
  intro k
  by_cases h1 : k = 1
  · subst h1; simp [wd]
  by_cases h2 : k = 2
  · subst h2; simp [wd]
  by_cases h3 : k = 3
  · subst h3; simp [wd]
  by_cases h4 : k = 4
  · subst h4; simp [wd]
  by_cases h5 : k = 5
  · subst h5; simp [wd]
  by_cases h6 : k < 1
  · simp [wd, h1, h2, h3, h4, h5, h6]
  · have h7 : 5 < k := by omega
    simp [wd, h1, h2, h3, h4, h5, h6, h7]
theorem kOf_cases (w : List UInt8) : (w = w1 ∧ kOf w = 1) ∨ (w = w2 ∧ kOf w = 2) ∨ (w = w3 ∧ kOf w = 3) ∨ (w = w4 ∧ kOf w = 4) ∨ (w = w5 ∧ kOf w = 5) ∨ (w ≠ w1 ∧ w ≠ w2 ∧ w ≠ w3 ∧ w ≠ w4 ∧ w ≠ w5 ∧ kOf w = 0) := by
  by_cases h1 : w = w1
  · exact .inl ⟨h1, by simp only [kOf, if_pos h1]⟩
  by_cases h2 : w = w2
  · exact .inr (.inl ⟨h2, by simp only [kOf, if_neg h1, if_pos h2]⟩)
  by_cases h3 : w = w3
  · exact .inr (.inr (.inl ⟨h3, by simp only [kOf, if_neg h1, if_neg h2, if_pos h3]⟩))
  by_cases h4 : w = w4
  · exact .inr (.inr (.inr (.inl ⟨h4, by simp only [kOf, if_neg h1, if_neg h2, if_neg h3, if_pos h4]⟩)))
  by_cases h5 : w = w5
  · exact .inr (.inr (.inr (.inr (.inl ⟨h5, by simp only [kOf, if_neg h1, if_neg h2, if_neg h3, if_neg h4, if_pos h5]⟩))))
  exact .inr (.inr (.inr (.inr (.inr ⟨h1, h2, h3, h4, h5, by simp only [kOf, if_neg h1, if_neg h2, if_neg h3, if_neg h4, if_neg h5]⟩))))
def ev1 : List Tk → Option Ev
  | [a, b, c, d] => if a.kd = 2 ∧ b.kd = 1 ∧ c.kd = 2 ∧ d.kd = 2 ∧ kOf b.tx ≠ 0 then some ⟨a.n, kOf b.tx, c.n, d.n⟩ else none
  | _ => none
theorem ev1_len {ts : List Tk} (h : ts.length ≠ 4) : ev1 ts = none := by
  unfold ev1
  split
  · simp at h
  · rfl
def EventC (g : List AV → Option (List AV)) : Prop := ∀ ts : List Tk, ts.length ≤ 70000 → g [.c (.vs 5 (ts.map Tk.cells))] = some (evR (ev1 ts))
where evR : Option Ev → List AV
  | some e => [.agg e.cells, bo true]
  | none => [.agg evZ, bo false]
theorem story_event_run (Γ : Env) (M : Nat) (hw : WordC (Γ 148)) : EventC (run Γ (M + 20) story_event_f) := by
  intro ts hl
  have e1 := hw 1
  have e2 := hw 2
  have e3 := hw 3
  have e4 := hw 4
  have e5 := hw 5
  simp [wd] at e1 e2 e3 e4 e5
  by_cases h4 : ts.length = 4
  · obtain ⟨a, b, c, d, rfl⟩ : ∃ a b c d, ts = [a, b, c, d] := by
      match ts, h4 with
      | [a, b, c, d], _ => exact ⟨a, b, c, d, rfl⟩
    by_cases ha : a.kd = 2
    · by_cases hb : b.kd = 1
      · by_cases hc : c.kd = 2
        · by_cases hd : d.kd = 2
          · obtain ⟨w, hbw⟩ : ∃ w, b.tx = w := ⟨_, rfl⟩
            rcases kOf_cases w with ⟨rfl, h⟩ | ⟨rfl, h⟩ | ⟨rfl, h⟩ | ⟨rfl, h⟩ | ⟨rfl, h⟩ | ⟨n1, n2, n3, n4, n5, h⟩
            · simp -implicitDefEqProofs (disch := first | omega | assumption) [ev1, EventC.evR, ha, hb, hc, hd, hbw, h, lp_succ, story_event_l1_x, e1, e2, e3, e4, e5]
            · simp -implicitDefEqProofs (disch := first | omega | assumption) [ev1, EventC.evR, ha, hb, hc, hd, hbw, h, lp_succ, story_event_l1_x, e1, e2, e3, e4, e5]
            · simp -implicitDefEqProofs (disch := first | omega | assumption) [ev1, EventC.evR, ha, hb, hc, hd, hbw, h, lp_succ, story_event_l1_x, e1, e2, e3, e4, e5]
            · simp -implicitDefEqProofs (disch := first | omega | assumption) [ev1, EventC.evR, ha, hb, hc, hd, hbw, h, lp_succ, story_event_l1_x, e1, e2, e3, e4, e5]
            · simp -implicitDefEqProofs (disch := first | omega | assumption) [ev1, EventC.evR, ha, hb, hc, hd, hbw, h, lp_succ, story_event_l1_x, e1, e2, e3, e4, e5]
            · have m1 := decide_eq_false (Ne.symm n1)
              have m2 := decide_eq_false (Ne.symm n2)
              have m3 := decide_eq_false (Ne.symm n3)
              have m4 := decide_eq_false (Ne.symm n4)
              have m5 := decide_eq_false (Ne.symm n5)
              simp -implicitDefEqProofs (disch := first | omega | assumption) [ev1, EventC.evR, ha, hb, hc, hd, hbw, h, lp_succ, story_event_l1_x, e1, e2, e3, e4, e5, m1, m2, m3, m4, m5]
          · simp -implicitDefEqProofs (disch := first | omega | assumption) [ev1, EventC.evR, ha, hb, hc, hd]
        · simp -implicitDefEqProofs (disch := first | omega | assumption) [ev1, EventC.evR, ha, hb, hc]
      · simp -implicitDefEqProofs (disch := first | omega | assumption) [ev1, EventC.evR, ha, hb]
    · simp -implicitDefEqProofs (disch := first | omega | assumption) [ev1, EventC.evR, ha]
  · have h4' : ¬ (ts.length : Int) = 4 := by omega
    rw [ev1_len h4]
    simp -implicitDefEqProofs (disch := first | omega | assumption) [EventC.evR, h4, h4']
/-- What Read answers. -/
def ReadC (g : List AV → Option (List AV)) : Prop := ∀ s : List UInt8, s.length ≤ 65536 → g [st s] = some [.c (.vs 4 ((readR ev1 s).l.map Ev.cells)), .agg [.int .i64 (readR ev1 s).e, .int .i64 (readR ev1 s).ln, .int .i64 (readR ev1 s).col]]
abbrev pz : Obj := ⟨3, [[i64 0, i64 0, i64 0]]⟩
def rdS (ts : List Tk) (i frm : Nat) (out : List Ev) : St := ⟨[(3, .loc 3 0 0), (4, .c (.vs 5 (ts.map Tk.cells))), (6, .sl 6 out.length 0 out.length), (7, i64 frm), (21, .c (.vs 5 (ts.map Tk.cells))), (22, i64 ts.length), (23, i64 i)], [(3, pz), (6, ⟨4, out.map (toAV ∘ Ev.cells)⟩)]⟩
def rdOut : RdR Ev → AX → St → Prop
  | .ok l, ax, s => ax = .ex 0 ∧ s = ⟨[(3, .loc 3 0 0), (6, .sl 6 l.length 0 l.length)], [(3, pz), (6, ⟨4, l.map (toAV ∘ Ev.cells)⟩)]⟩
  | .bad l c, ax, s => ax = .ret ∧ s = ⟨[(2, .nil 4), (3, .loc 3 0 0)], [(3, ⟨3, [[i64 20, i64 l, i64 c]]⟩)]⟩
theorem story_Read_loop (Γ : Env) (M : Nat) (hM : 65540 < M) (hE : EventC (Γ 123)) (ts : List Tk) (hts : ts.length ≤ 65537) :
    ∃ ax s', rdOut (rdL ev1 [] ts []) ax s' ∧ ∀ t, nrm [3, 4, 6, 7, 21, 22, 23] [3, 6, 58] t = rdS ts 0 0 [] → lp (exec Γ M story_Read_l1) M t = some (ax, s') := by
  obtain ⟨R0, hR0⟩ : ∃ R, rdL ev1 [] ts [] = R := ⟨_, rfl⟩
  rw [hR0]
  refine lp_all (fun q : Nat × Nat × List Ev => rdS ts q.1 q.2.1 q.2.2) (fun q => q.1 ≤ ts.length ∧ q.2.1 ≤ q.1 ∧ q.2.2.length ≤ q.1 ∧ rdL ev1 ((ts.drop q.2.1).take (q.1 - q.2.1)) (ts.drop q.1) q.2.2 = R0) (fun q => ts.length - q.1) _ (0, 0, []) M (by simp [rdS]) ⟨by omega, by simp, by simp, by simpa using hR0⟩ (by simp only; omega) ?_
  rintro ⟨i, frm, out⟩ ⟨hi, hf, ho, hr⟩
  simp only at hi hf ho hr ⊢
  by_cases hlt : i < ts.length
  · obtain ⟨t, ht⟩ : ∃ t, ts[i]'hlt = t := ⟨_, rfl⟩
    rw [List.drop_eq_getElem_cons hlt, ht] at hr
    have hnext : (ts.drop frm).take (i - frm) ++ [t] = (ts.drop frm).take (i + 1 - frm) := by
      rw [show i + 1 - frm = (i - frm) + 1 by omega, List.take_succ_eq_append_getElem (by simp; omega)]
      congr 2
      rw [List.getElem_drop, ← ht]; congr 1; omega
    by_cases hk : t.kd = 3
    · by_cases hgt : frm < i
      · have hlen : ((ts.drop frm).take (i - frm)).length = i - frm := by simp; omega
        have hfl : frm < ts.length := by omega
        obtain ⟨x, hx⟩ : ∃ x, ts[frm]'hfl = x := ⟨_, rfl⟩
        have hcur : (ts.drop frm).take (i - frm) = x :: ((ts.drop (frm + 1)).take (i - frm - 1)) := by
          rw [List.drop_eq_getElem_cons hfl, hx, show i - frm = (i - frm - 1) + 1 by omega, List.take_succ_cons]; simp
        have hE1 := hE ((ts.drop frm).take (i - frm)) (by omega)
        rw [List.map_take, List.map_drop] at hE1
        obtain ⟨C, hC⟩ : ∃ C, (ts.drop frm).take (i - frm) = C := ⟨_, rfl⟩
        rw [hC] at hr hE1 hcur
        have hcond : frm ≤ i ∧ i ≤ ts.length := ⟨hf, hi⟩
        cases he : ev1 C with
        | none =>
          rw [hcur] at he hr
          rw [rdL_none hk he] at hr
          rw [hcur, he] at hE1
          subst hr
          simp only [EventC.evR] at hE1
          simp -implicitDefEqProofs (disch := first | omega | assumption) [rdS, rdOut, hlt, ht, hk, hgt, hcond, hE1, hfl, hx]
        | some e =>
          rw [rdL_some hk (by rw [hcur]; simp) he] at hr
          rw [he] at hE1
          simp only [EventC.evR] at hE1
          simp -implicitDefEqProofs (disch := first | omega | assumption) [rdS, rdOut, hlt, ht, hk, hgt, hcond, hE1]
          exact ⟨i + 1, i + 1, out ++ [e], by simp, ⟨by omega, by omega, by simp; omega, by simpa using hr⟩, by omega⟩
      · obtain rfl : frm = i := by omega
        simp only [Nat.sub_self, List.take_zero] at hr
        rw [rdL_end (cur := []) hk] at hr
        simp -implicitDefEqProofs (disch := first | omega | assumption) [rdS, rdOut, hlt, ht, hk]
        exact ⟨frm + 1, frm + 1, out, by simp, ⟨by omega, by omega, by omega, by simpa using hr⟩, by omega⟩
    · rw [rdL_more hk, hnext] at hr
      simp -implicitDefEqProofs (disch := first | omega | assumption) [rdS, rdOut, hlt, ht, hk]
      exact ⟨i + 1, frm, out, by simp, ⟨by omega, by omega, by omega, hr⟩, by omega⟩
  · obtain rfl : i = ts.length := by omega
    have he : rdL ev1 ((ts.drop frm).take (ts.length - frm)) (ts.drop ts.length) out = .ok out := by simp [rdL]
    rw [he] at hr
    subst hr
    simp -implicitDefEqProofs (disch := first | omega | assumption) [rdS, rdOut]
theorem story_Read_run (Γ : Env) (M : Nat) (hM : 65540 < M) (hS : ScanC (Γ 35)) (hE : EventC (Γ 123)) : ReadC (run Γ M story_Read_f) := by
  intro s hs
  have e35 := hS s hs
  have hlen := scanR_len s
  have hse := scanR_e s
  obtain ⟨R, hR⟩ : ∃ R, scanR s = R := ⟨_, rfl⟩
  simp only [readR]
  rw [hR] at e35 hlen hse ⊢
  by_cases h0 : R.e = 0
  · rw [if_neg (by simp [h0])]
    obtain ⟨ax, s', hO, hin⟩ := story_Read_loop Γ M hM hE R.ts (by omega)
    have hlp := hin (rdS R.ts 0 0 []) (by simp [rdS])
    simp [rdS] at hlp
    cases hr : rdL ev1 [] R.ts [] with
    | ok l =>
      rw [hr] at hO
      obtain ⟨rfl, rfl⟩ := hO
      simp -implicitDefEqProofs (disch := first | omega | assumption) [e35, h0, hlp]
      exact List.take_of_length_le (by simp)
    | bad l c =>
      rw [hr] at hO
      obtain ⟨rfl, rfl⟩ := hO
      simp -implicitDefEqProofs (disch := first | omega | assumption) [e35, h0, hlp]
  · rw [if_pos h0]
    have ht : R.ts = [] := by
      rcases hse with h | h
      · exact (h0 h.1).elim
      · exact h.2
    simp -implicitDefEqProofs (disch := first | omega | assumption) [e35, h0, ht]
end Go.Am
