/- Law 59: the document's text of goals. -/
import Derived.Test.YtdhlplgkpgbpjaaGtx
set_option linter.unusedVariables false
set_option linter.unusedSimpArgs false
set_option maxRecDepth 10000
set_option maxHeartbeats 2000000
namespace Go.Am
theorem ref59_Text_run (Γ : Env) (M : Nat) (hM : 200 < M + 20) (hL : LineC59 (Γ 144)) : GTextC (run Γ (M + 20) ref59_Text_f) := by
  intro l hl hok
  obtain ⟨ax, s', ⟨rfl, rfl⟩, hin⟩ : ∃ ax s', (ax = .ex 0 ∧ s' = ⟨[(3, st (txtG l))], []⟩) ∧ ∀ t, nrm [0, 3, 4] [] t = ⟨[(0, gL l), (3, st (txtG (l.take 0))), (4, i64 (0 : Nat))], []⟩ → lp (exec Γ (M + 20) ref59_Text_l2) (M + 20) t = some (ax, s') := by
    refine lp_all (fun k : Nat => ⟨[(0, gL l), (3, st (txtG (l.take k))), (4, i64 k)], []⟩) (fun k => k ≤ l.length) (fun k => l.length - k) _ 0 (M + 20) (by simp) (by omega) (by omega) ?_
    intro k hk
    by_cases hlt : k < l.length
    · obtain ⟨⟨o, p, m⟩, he⟩ : ∃ t, l[k]'hlt = t := ⟨_, rfl⟩
      have heo := hok _ (List.getElem_mem hlt)
      rw [he] at heo
      have htk : txtG (l.take (k + 1)) = txtG (l.take k) ++ gT8 ⟨o, p, m⟩ := by rw [List.take_succ_eq_append_getElem hlt, he, txtG_snoc]
      have hle := txtG_le (l.take k)
      have hlk : (l.take k).length ≤ 60 := by simp; omega
      obtain ⟨T, hT⟩ : ∃ T, txtG (l.take k) = T := ⟨_, rfl⟩
      rw [hT] at hle htk ⊢
      have el := hL ⟨o, p, m⟩ heo.o heo.p heo.m
      have l1 := txt_le9 m
      have l5 := gP_le ⟨o, p, m⟩
      cases hb : rightB o p m with
      | false =>
        have h9 : gT8 ⟨o, p, m⟩ = [] := by simp [gT8, hb]
        have h8 : lineOf ⟨o, p, m⟩ = [] := by simp [lineOf, hb]
        rw [h9, List.append_nil] at htk
        rw [h8] at el
        simp [strR] at el
        simp -implicitDefEqProofs (disch := first | omega | assumption) [hlt, he, el, lp_succ, ref59_Text_l1_x]
        exact ⟨k + 1, by simp [htk], by omega, by omega⟩
      | true =>
        by_cases h3 : o = 3
        · subst h3
          have h9 : gT8 ⟨3, p, m⟩ = gS ++ 32 :: (txt m ++ [10]) := by simp [gT8, hb, gwd]
          have h8 : lineOf ⟨3, p, m⟩ = [gS, txt m] := by simp [lineOf, hb]
          rw [h9] at htk
          rw [h8] at el
          generalize txt m = X at *
          simp [strR] at el
          simp -implicitDefEqProofs (disch := first | omega | ((try simp only [List.length_append, List.length_cons, List.length_nil, maxStr_eq]); omega) | assumption) [hlt, he, el, lp_succ, ref59_Text_l1_x, binS_add]
          exact ⟨k + 1, by simp [htk], by omega, by omega⟩
        · have h9 : gT8 ⟨o, p, m⟩ = gwd o ++ (32 :: gP ⟨o, p, m⟩) ++ 32 :: (txt m ++ [10]) := by simp [gT8, hb, h3]
          have h8 : lineOf ⟨o, p, m⟩ = [gwd o, gP ⟨o, p, m⟩, txt m] := by
            have : o = 1 ∨ o = 2 := by
              simp [rightB, h3] at hb; omega
            rcases this with rfl | rfl <;> simp [lineOf, hb, gwd, gP]
          have l4 := gwd_le o
          rw [h9] at htk
          rw [h8] at el
          generalize txt m = X at *
          generalize gP ⟨o, p, m⟩ = Y at *
          generalize gwd o = W at *
          simp [strR] at el
          simp -implicitDefEqProofs (disch := first | omega | ((try simp only [List.length_append, List.length_cons, List.length_nil, maxStr_eq]); omega) | assumption) [hlt, he, el, lp_succ, ref59_Text_l1_x, binS_add]
          exact ⟨k + 1, by simp [htk], by omega, by omega⟩
    · obtain rfl : k = l.length := by omega
      simp -implicitDefEqProofs (disch := first | omega | assumption)
  have hlp := hin ⟨[(0, gL l), (3, st (txtG (l.take 0))), (4, i64 (0 : Nat))], []⟩ (by simp)
  have t0 : txtG (l.take 0) = [] := by simp [txtG]
  rw [t0] at hlp
  simp at hlp
  simp -implicitDefEqProofs (disch := first | omega | assumption) [hlp]
/-! ### Written and read -/
def rgt (e : Gl) : Bool := rightB e.o e.p e.m
def gIt (e : Gl) : List It := if e.o = 3 then [.w gS, .n e.m] else [.w (gwd e.o), if 0 < e.p then .n e.p else .w gM, .n e.m]
theorem rgt_cases {e : Gl} (h : rgt e = true) : (e.o = 3 ∧ e.p = 0 ∧ 0 ≤ e.m ∧ e.m ≤ 100) ∨ ((e.o = 1 ∨ e.o = 2) ∧ 0 ≤ e.p ∧ e.p ≤ 100 ∧ 0 ≤ e.m ∧ e.m ≤ 1048576) := by
  unfold rgt rightB at h
  split at h
  · simp at h; left; omega
  · simp at h; right; omega
theorem txt_n9 {n : Int} (h : 0 ≤ n) : txt n = dig n := by
  unfold txt; rw [if_neg (by omega)]
theorem lines_txtG : ∀ l : List Gl, linesT ((l.filter rgt).map gIt) = txtG l
  | [] => rfl
  | e :: r => by
    have ih := lines_txtG r
    by_cases h : rgt e = true
    · have hb : rightB e.o e.p e.m = true := h
      rw [List.filter_cons_of_pos h]
      simp only [List.map_cons, linesT, txtG, ih]
      rcases rgt_cases h with ⟨h1, h2, h3, h4⟩ | ⟨h1, h2, h3, h4, h5⟩
      · rw [h1] at hb
        simp [gT8, hb, h1, gIt, lineT, It.tx, gwd, txt_n9 h3]
      · have h3' : ¬ e.o = 3 := by omega
        by_cases hp : 0 < e.p
        · simp [gT8, hb, h3', gIt, lineT, It.tx, gP, hp, txt_n9 h4, txt_n9 h2]
        · simp [gT8, hb, h3', gIt, lineT, It.tx, gP, hp, txt_n9 h4]
    · have hb : ¬ rightB e.o e.p e.m = true := h
      rw [List.filter_cons_of_neg h, ih]
      simp [txtG, gT8, hb]
theorem read_txtG (l : List Gl) : readR gp (txtG l) = ⟨l.filter rgt, 0, 0, 0⟩ := by
  rw [← lines_txtG l]
  refine readR_lines (l.filter rgt) fun e he => ?_
  have h := (List.mem_filter.1 he).2
  have hb : rightB e.o e.p e.m = true := h
  have wS : ∀ b ∈ gS, isLt b = true := by decide
  have wM : ∀ b ∈ gM, isLt b = true := by decide
  rcases rgt_cases h with ⟨h1, h2, h3, h4⟩ | ⟨h1, h2, h3, h4, h5⟩
  · refine ⟨fun x hx => ?_, by simp [gIt, h1], fun ln => ?_⟩
    · simp only [gIt, h1, if_true, List.mem_cons, List.not_mem_nil, or_false] at hx
      rcases hx with rfl | rfl
      · exact ⟨by simp, wS⟩
      · exact ⟨h3, by omega⟩
    · rw [h1, h2] at hb
      obtain ⟨o, p, m⟩ := e
      simp only at h1 h2 h3 h4 hb
      subst h1 h2
      have hg : gOf gS = 3 := by decide
      simp [gIt, lineW, It.tk, gp, hg, hb]
  · have hw : (∀ b ∈ gwd e.o, isLt b = true) ∧ gOf (gwd e.o) = e.o := by
      rcases h1 with h1 | h1 <;> rw [h1] <;> exact ⟨by decide, by decide⟩
    have h3' : ¬ e.o = 3 := by omega
    refine ⟨fun x hx => ?_, by simp [gIt, h3'], fun ln => ?_⟩
    · simp only [gIt, h3', if_false, List.mem_cons, List.not_mem_nil, or_false] at hx
      rcases hx with rfl | rfl | rfl
      · exact ⟨gwd_ne _, hw.1⟩
      · split
        · exact ⟨h2, by omega⟩
        · exact ⟨by simp, wM⟩
      · exact ⟨h4, by omega⟩
    · obtain ⟨o, p, m⟩ := e
      simp only at h1 h2 h3 h4 h5 hb hw h3'
      by_cases hp : 0 < p
      · simp [gIt, h3', lineW, It.tk, gp, hw.2, hp, hb]
      · obtain rfl : p = 0 := by omega
        simp [gIt, h3', lineW, It.tk, gp, hw.2, hb]
end Go.Am
