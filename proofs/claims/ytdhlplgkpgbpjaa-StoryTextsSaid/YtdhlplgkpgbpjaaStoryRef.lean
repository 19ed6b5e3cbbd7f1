/- Law 66: a text as events: the document's reading; the law's own functions. -/
import Derived.Test.YtdhlplgkpgbpjaaStory
set_option linter.unusedVariables false
set_option linter.unusedSimpArgs false
set_option maxRecDepth 10000
set_option maxHeartbeats 2000000
namespace Go.Am
theorem rd_hit {a b c d e : Tk} {r : List Tk} {out : List Ev} (ha : a.kd = 2) (hb : b.kd = 1) (hc : c.kd = 2) (hd : d.kd = 2) (he : e.kd = 3) (hk : kOf b.tx ≠ 0) :
    rdL ev1 [] (a :: b :: c :: d :: e :: r) out = rdL ev1 [] r (out ++ [⟨a.n, kOf b.tx, c.n, d.n⟩]) := by
  have h := rdL_line (ev := ev1) (out := out) [a, b, c, d] [] e r (by simp [ha, hb, hc, hd])
  simp only [List.cons_append, List.nil_append] at h
  rw [h, rdL_some (e := ⟨a.n, kOf b.tx, c.n, d.n⟩) he (by simp)]
  simp [ev1, ha, hb, hc, hd, hk]
theorem rd_miss {a : Tk} {r : List Tk} {out : List Ev} (hl : ∃ t, (a :: r).getLast? = some t ∧ t.kd = 3) (ha : a.kd ≠ 3)
    (hn : ∀ b c d e r', r = b :: c :: d :: e :: r' → a.kd = 2 → b.kd = 1 → c.kd = 2 → d.kd = 2 → e.kd = 3 → kOf b.tx = 0) : rdL ev1 [] (a :: r) out = .bad a.l a.c := by
  obtain ⟨w, t, r', h1, h2, h3⟩ := line_of (a :: r) hl
  cases w with
  | nil => simp only [List.nil_append, List.cons.injEq] at h1; exact (ha (h1.1 ▸ h3)).elim
  | cons x w =>
    simp only [List.cons_append, List.cons.injEq] at h1
    obtain ⟨rfl, rfl⟩ := h1
    have h := rdL_line (ev := ev1) (out := out) (a :: w) [] t r' h2
    simp only [List.cons_append, List.nil_append] at h
    rw [h]
    refine rdL_none h3 ?_
    unfold ev1
    split
    · rename_i a' b c d hw
      simp only [List.cons.injEq] at hw
      obtain ⟨rfl, rfl⟩ := hw
      rw [if_neg]
      rintro ⟨k1, k2, k3, k4, k5⟩
      exact k5 (hn b c d t r' rfl k1 k2 k3 k4 h3)
    · rfl
def rfS (ts : List Tk) (i : Nat) (out : List Ev) : St := ⟨[(3, .loc 3 0 0), (4, .c (.vs 5 (ts.map Tk.cells))), (6, .sl 6 out.length 0 out.length), (7, i64 i)], [(3, pz), (6, ⟨4, out.map (toAV ∘ Ev.cells)⟩)]⟩
theorem ref66_Read_loop (Γ : Env) (M : Nat) (hM : 65540 < M + 20) (hw : WordC (Γ 124)) (ts : List Tk) (hts : ts.length ≤ 65537) (hlast : ∃ t, ts.getLast? = some t ∧ t.kd = 3) :
    ∃ ax s', rdOut (rdL ev1 [] ts []) ax s' ∧ ∀ t, nrm [3, 4, 6, 7] [3, 6, 140] t = rfS ts 0 [] → lp (exec Γ (M + 20) ref66_Read_l2) (M + 20) t = some (ax, s') := by
  obtain ⟨R0, hR0⟩ : ∃ R, rdL ev1 [] ts [] = R := ⟨_, rfl⟩
  rw [hR0]
  have e1 := hw 1
  have e2 := hw 2
  have e3 := hw 3
  have e4 := hw 4
  have e5 := hw 5
  simp [wd] at e1 e2 e3 e4 e5
  refine lp_all (fun q : Nat × List Ev => rfS ts q.1 q.2) (fun q => q.1 ≤ ts.length ∧ q.2.length ≤ q.1 ∧ rdL ev1 [] (ts.drop q.1) q.2 = R0) (fun q => ts.length - q.1) _ (0, []) (M + 20) (by simp [rfS]) ⟨by omega, by simp, by simpa using hR0⟩ (by simp only; omega) ?_
  rintro ⟨i, out⟩ ⟨hi, ho, hr⟩
  simp only at hi ho hr ⊢
  by_cases hlt : i < ts.length
  · obtain ⟨a, ha⟩ : ∃ t, ts[i]'hlt = t := ⟨_, rfl⟩
    have hdr := List.drop_eq_getElem_cons hlt
    rw [ha] at hdr
    have hlst : ∃ t, (a :: ts.drop (i + 1)).getLast? = some t ∧ t.kd = 3 := by
      obtain ⟨t, h1, h2⟩ := hlast
      refine ⟨t, ?_, h2⟩
      rw [← hdr, List.getLast?_drop, if_neg (by omega)]; exact h1
    rw [hdr] at hr
    by_cases hk : a.kd = 3
    · rw [rdL_end (cur := []) hk] at hr
      simp -implicitDefEqProofs (disch := first | omega | assumption) [rfS, rdOut, hlt, ha, hk]
      exact ⟨i + 1, out, by simp, ⟨by omega, by omega, hr⟩, by omega⟩
    · have x1 : ((i : Int) + 1).toNat = i + 1 := by omega
      have x2 : ((i : Int) + 2).toNat = i + 2 := by omega
      have x3 : ((i : Int) + 3).toNat = i + 3 := by omega
      have x4 : ((i : Int) + 4).toNat = i + 4 := by omega
      have bad : (∀ b c d e r', ts.drop (i + 1) = b :: c :: d :: e :: r' → a.kd = 2 → b.kd = 1 → c.kd = 2 → d.kd = 2 → e.kd = 3 → kOf b.tx = 0) → R0 = .bad a.l a.c := fun h => by rw [← hr, rd_miss hlst hk h]
      by_cases ha2 : a.kd = 2
      · by_cases h4 : i + 4 < ts.length
        · have h1 : i + 1 < ts.length := by omega
          have h2 : i + 2 < ts.length := by omega
          have h3 : i + 3 < ts.length := by omega
          have h4' : (i : Int) + 4 < ts.length := by omega
          obtain ⟨b, hb⟩ : ∃ t, ts[i + 1]'h1 = t := ⟨_, rfl⟩
          obtain ⟨c, hc⟩ : ∃ t, ts[i + 2]'h2 = t := ⟨_, rfl⟩
          obtain ⟨d, hd⟩ : ∃ t, ts[i + 3]'h3 = t := ⟨_, rfl⟩
          obtain ⟨e, he⟩ : ∃ t, ts[i + 4]'h4 = t := ⟨_, rfl⟩
          have hd1 : ts.drop (i + 1) = b :: c :: d :: e :: ts.drop (i + 5) := by
            rw [List.drop_eq_getElem_cons h1, List.drop_eq_getElem_cons h2, List.drop_eq_getElem_cons h3, List.drop_eq_getElem_cons h4, hb, hc, hd, he]
          have bad2 : (a.kd = 2 → b.kd = 1 → c.kd = 2 → d.kd = 2 → e.kd = 3 → kOf b.tx = 0) → R0 = .bad a.l a.c := fun h => bad fun b' c' d' e' r' heq => by
            rw [hd1] at heq
            simp only [List.cons.injEq] at heq
            obtain ⟨rfl, rfl, rfl, rfl, _⟩ := heq
            exact h
          by_cases hb1 : b.kd = 1
          · by_cases hc2 : c.kd = 2
            · by_cases hd2 : d.kd = 2
              · by_cases he3 : e.kd = 3
                · obtain ⟨w, hbw⟩ : ∃ w, b.tx = w := ⟨_, rfl⟩
                  have good : kOf w ≠ 0 → rdL ev1 [] (ts.drop (i + 5)) (out ++ [⟨a.n, kOf w, c.n, d.n⟩]) = R0 := fun h => by
                    rw [hd1, rd_hit ha2 hb1 hc2 hd2 he3 (by rw [hbw]; exact h), hbw] at hr; exact hr
                  rcases kOf_cases w with ⟨rfl, h⟩ | ⟨rfl, h⟩ | ⟨rfl, h⟩ | ⟨rfl, h⟩ | ⟨rfl, h⟩ | ⟨n1, n2, n3, n4, n5, h⟩
                  · rw [h] at good
                    simp -implicitDefEqProofs (disch := first | omega | assumption) [rfS, rdOut, hlt, ha, ha2, hk, x1, x2, x3, x4, h1, h2, h3, h4, h4', hb, hc, hd, he, hb1, hc2, hd2, he3, hbw, lp_succ, ref66_Read_l1_x, e1, e2, e3, e4, e5]
                    exact ⟨i + 5, out ++ [⟨a.n, 1, c.n, d.n⟩], ⟨by simp; omega, by simp⟩, ⟨by omega, by simp; omega, good (by omega)⟩, by omega⟩
                  · rw [h] at good
                    simp -implicitDefEqProofs (disch := first | omega | assumption) [rfS, rdOut, hlt, ha, ha2, hk, x1, x2, x3, x4, h1, h2, h3, h4, h4', hb, hc, hd, he, hb1, hc2, hd2, he3, hbw, lp_succ, ref66_Read_l1_x, e1, e2, e3, e4, e5]
                    exact ⟨i + 5, out ++ [⟨a.n, 2, c.n, d.n⟩], ⟨by simp; omega, by simp⟩, ⟨by omega, by simp; omega, good (by omega)⟩, by omega⟩
                  · rw [h] at good
                    simp -implicitDefEqProofs (disch := first | omega | assumption) [rfS, rdOut, hlt, ha, ha2, hk, x1, x2, x3, x4, h1, h2, h3, h4, h4', hb, hc, hd, he, hb1, hc2, hd2, he3, hbw, lp_succ, ref66_Read_l1_x, e1, e2, e3, e4, e5]
                    exact ⟨i + 5, out ++ [⟨a.n, 3, c.n, d.n⟩], ⟨by simp; omega, by simp⟩, ⟨by omega, by simp; omega, good (by omega)⟩, by omega⟩
                  · rw [h] at good
                    simp -implicitDefEqProofs (disch := first | omega | assumption) [rfS, rdOut, hlt, ha, ha2, hk, x1, x2, x3, x4, h1, h2, h3, h4, h4', hb, hc, hd, he, hb1, hc2, hd2, he3, hbw, lp_succ, ref66_Read_l1_x, e1, e2, e3, e4, e5]
                    exact ⟨i + 5, out ++ [⟨a.n, 4, c.n, d.n⟩], ⟨by simp; omega, by simp⟩, ⟨by omega, by simp; omega, good (by omega)⟩, by omega⟩
                  · rw [h] at good
                    simp -implicitDefEqProofs (disch := first | omega | assumption) [rfS, rdOut, hlt, ha, ha2, hk, x1, x2, x3, x4, h1, h2, h3, h4, h4', hb, hc, hd, he, hb1, hc2, hd2, he3, hbw, lp_succ, ref66_Read_l1_x, e1, e2, e3, e4, e5]
                    exact ⟨i + 5, out ++ [⟨a.n, 5, c.n, d.n⟩], ⟨by simp; omega, by simp⟩, ⟨by omega, by simp; omega, good (by omega)⟩, by omega⟩
                  · obtain rfl := bad2 fun _ _ _ _ _ => by rw [hbw]; exact h
                    have m1 := decide_eq_false (Ne.symm n1)
                    have m2 := decide_eq_false (Ne.symm n2)
                    have m3 := decide_eq_false (Ne.symm n3)
                    have m4 := decide_eq_false (Ne.symm n4)
                    have m5 := decide_eq_false (Ne.symm n5)
                    simp -implicitDefEqProofs (disch := first | omega | assumption) [rfS, rdOut, hlt, ha, ha2, hk, x1, x2, x3, x4, h1, h2, h3, h4, h4', hb, hc, hd, he, hb1, hc2, hd2, he3, hbw, lp_succ, ref66_Read_l1_x, e1, e2, e3, e4, e5, m1, m2, m3, m4, m5]
                · obtain rfl := bad2 fun _ _ _ _ h => (he3 h).elim
                  simp -implicitDefEqProofs (disch := first | omega | assumption) [rfS, rdOut, hlt, ha, ha2, hk, x1, x2, x3, x4, h1, h2, h3, h4, h4', hb, hc, hd, he, hb1, hc2, hd2, he3, lp_succ, ref66_Read_l1_x]
              · obtain rfl := bad2 fun _ _ _ h _ => (hd2 h).elim
                simp -implicitDefEqProofs (disch := first | omega | assumption) [rfS, rdOut, hlt, ha, ha2, hk, x1, x2, x3, x4, h1, h2, h3, h4, h4', hb, hc, hd, he, hb1, hc2, hd2, lp_succ, ref66_Read_l1_x]
            · obtain rfl := bad2 fun _ _ h _ _ => (hc2 h).elim
              simp -implicitDefEqProofs (disch := first | omega | assumption) [rfS, rdOut, hlt, ha, ha2, hk, x1, x2, x3, x4, h1, h2, h3, h4, h4', hb, hc, hd, he, hb1, hc2, lp_succ, ref66_Read_l1_x]
          · obtain rfl := bad2 fun _ h _ _ _ => (hb1 h).elim
            simp -implicitDefEqProofs (disch := first | omega | assumption) [rfS, rdOut, hlt, ha, ha2, hk, x1, x2, x3, x4, h1, h2, h3, h4, h4', hb, hc, hd, he, hb1, lp_succ, ref66_Read_l1_x]
        · have h4' : ¬ (i : Int) + 4 < ts.length := by omega
          obtain rfl := bad fun b c d e r' heq => by
            have := congrArg List.length heq
            simp at this; omega
          simp -implicitDefEqProofs (disch := first | omega | assumption) [rfS, rdOut, hlt, ha, ha2, hk, h4, h4', lp_succ, ref66_Read_l1_x]
      · obtain rfl := bad fun _ _ _ _ _ _ h => (ha2 h).elim
        simp -implicitDefEqProofs (disch := first | omega | assumption) [rfS, rdOut, hlt, ha, ha2, hk, lp_succ, ref66_Read_l1_x]
  · obtain rfl : i = ts.length := by omega
    have he : rdL ev1 [] (ts.drop ts.length) out = .ok out := by simp [rdL]
    rw [he] at hr
    subst hr
    simp -implicitDefEqProofs (disch := first | omega | assumption) [rfS, rdOut]
theorem ref66_Read_run (Γ : Env) (M : Nat) (hM : 65540 < M + 20) (hS : ScanC (Γ 39)) (hw : WordC (Γ 124)) : ReadC (run Γ (M + 20) ref66_Read_f) := by
  intro s hs
  have e35 := hS s hs
  have hlen := scanR_len s
  have hse := scanR_e s
  have hok := (scanR_ok s hs).2
  obtain ⟨R, hR⟩ : ∃ R, scanR s = R := ⟨_, rfl⟩
  simp only [readR]
  rw [hR] at e35 hlen hse hok ⊢
  by_cases h0 : R.e = 0
  · rw [if_neg (by simp [h0])]
    obtain ⟨ax, s', hO, hin⟩ := ref66_Read_loop Γ M hM hw R.ts (by omega) (hok h0)
    have hlp := hin (rfS R.ts 0 []) (by simp [rfS])
    simp [rfS] at hlp
    cases hr : rdL ev1 [] R.ts [] with
    | ok l =>
      rw [hr] at hO
      obtain ⟨rfl, rfl⟩ := hO
      simp -implicitDefEqProofs (disch := first | omega | assumption) [e35, h0, hlp]
      exact List.take_of_length_le (by simp)
    | bad l c =>
      rw [hr] at hO
      obtain ⟨rfl, rfl⟩ := hO
      simp -implicitDefEqProofs (disch := first | omega | assumption) [e35, h0, hlp]
  · rw [if_pos h0]
    have ht : R.ts = [] := by
      rcases hse with h | h
      · exact (h0 h.1).elim
      · exact h.2
    simp -implicitDefEqProofs (disch := first | omega | assumption) [e35, h0, ht]
end Go.Am
