/- Law 48: the walks of who is ahead of whom. -/
import Derived.Test.YtmepibdbnbmapaaAxD
set_option linter.unusedVariables false
set_option linter.unusedSimpArgs false
set_option maxRecDepth 10000
set_option maxHeartbeats 4000000
namespace Go.Am
def dirI (f t : Int) : Int := if f < t then 1 else if t < f then -1 else 0
def FT (n : Int) : Prop := 0 ≤ n ∧ n ≤ 127
def DirC (g : List AV → Option (List AV)) : Prop := ∀ f t : Int, FT f → FT t → g [i64 f, i64 t] = some [i64 (dirI f t)]
def SignC (g : List AV → Option (List AV)) : Prop := ∀ n : Int, g [i64 n] = some [i64 (if n < 0 then -1 else if 0 < n then 1 else 0)]
theorem place_Sign_run (Γ : Env) (M : Nat) : SignC (run Γ M place_Sign_f) := by
  intro n
  by_cases h1 : n < 0
  · simp -implicitDefEqProofs (disch := first | omega | assumption) [h1]
  by_cases h2 : 0 < n
  · simp -implicitDefEqProofs (disch := first | omega | assumption) [h1, h2]
  · simp -implicitDefEqProofs (disch := first | omega | assumption) [h1, h2]
theorem place_Dir_run (Γ : Env) (M : Nat) (h178 : SignC (Γ 178)) : DirC (run Γ M place_Dir_f) := by
  intro f t hf ht
  obtain ⟨f1, f2⟩ := hf
  obtain ⟨t1, t2⟩ := ht
  have e := h178 (t - f)
  have hd : (if t - f < 0 then (-1 : Int) else if 0 < t - f then 1 else 0) = dirI f t := by
    unfold dirI
    by_cases h1 : f < t
    · rw [if_neg (by omega), if_pos (by omega), if_pos h1]
    by_cases h2 : t < f
    · rw [if_pos (by omega), if_neg h1, if_pos h2]
    · rw [if_neg (by omega), if_neg (by omega), if_neg h1, if_neg h2]
  rw [hd] at e
  simp -implicitDefEqProofs (disch := first | omega | assumption) [e]
theorem ref39_Dir_run (Γ : Env) (M : Nat) : DirC (run Γ M ref39_Dir_f) := by
  intro f t hf ht
  unfold dirI
  by_cases h1 : f < t
  · simp -implicitDefEqProofs (disch := first | omega | assumption) [h1]
  by_cases h2 : t < f
  · simp -implicitDefEqProofs (disch := first | omega | assumption) [h1, h2]
  · simp -implicitDefEqProofs (disch := first | omega | assumption) [h1, h2]
/-- Did the second one get in ahead of the first one? -/
def passB (s : Scn) (a b : Trip) : Bool :=
  if a.frm ≠ b.frm ∨ dirI a.frm a.to ≠ dirI b.frm b.to ∨ b.board < 0 then false
  else if s.disp = 4 then decide (a.car = b.car) && decide (b.board ≤ a.board)
  else decide (a.board < 0) || decide (b.board < a.board) || (decide (a.board = b.board) && decide (b.car ≤ a.car))
def fairL (s : Scn) : List Trip → Bool
  | [] => true
  | a :: r => r.all (fun b => !passB s a b) && fairL s r
theorem fairL_snoc (s : Scn) (t : Trip) : ∀ l : List Trip, fairL s (l ++ [t]) = (fairL s l && l.all (fun a => !passB s a t))
  | [] => by simp [fairL]
  | a :: l => by
    rw [List.cons_append, fairL, fairL_snoc s t l, fairL, List.all_append]
    simp only [List.all_cons, List.all_nil, Bool.and_true]
    cases l.all (fun b => !passB s a b) <;> cases passB s a t <;> cases fairL s l <;> simp
theorem fairL_app (s : Scn) : ∀ (l m : List Trip), fairL s l = false → fairL s (l ++ m) = false
  | [], m, h => by simp [fairL] at h
  | a :: l, m, h => by
    rw [fairL, Bool.and_eq_false_iff] at h
    rw [List.cons_append, fairL, List.all_append]
    rcases h with h | h
    · rw [h]; rfl
    · rw [fairL_app s l m h, Bool.and_false]
theorem fairL_take (s : Scn) (l : List Trip) (k : Nat) (h : fairL s (l.take k) = false) : fairL s l = false := by
  have := fairL_app s (l.take k) (l.drop k) h
  rwa [List.take_append_drop] at this
def PassC (g : List AV → Option (List AV)) : Prop := ∀ (s : Scn) (a b : Trip), FT a.frm → FT a.to → FT b.frm → FT b.to → g [.agg s.cells, .agg a.cells, .agg b.cells] = some [bo (passB s a b)]
theorem axiom_passed_run (Γ : Env) (M : Nat) (h173 : DirC (Γ 173)) : PassC (run Γ M axiom_passed_f) := by
  intro s a b ha1 ha2 hb1 hb2
  have e1 := h173 a.frm a.to ha1 ha2
  have e2 := h173 b.frm b.to hb1 hb2
  unfold passB
  by_cases c1 : a.frm = b.frm
  case neg =>
    rw [if_pos (.inl c1)]
    simp -implicitDefEqProofs (disch := first | omega | assumption) [c1]
  rw [c1] at e1
  generalize hda : dirI a.frm a.to = da at *
  rw [c1] at hda
  rw [hda] at e1
  generalize dirI b.frm b.to = db at *
  by_cases c2 : da = db
  case neg =>
    rw [if_pos (.inr (.inl c2))]
    simp -implicitDefEqProofs (disch := first | omega | assumption) [c1, e1, e2, c2]
  by_cases c3 : b.board < 0
  · rw [if_pos (.inr (.inr c3))]
    simp -implicitDefEqProofs (disch := first | omega | assumption) [c1, e1, e2, c2, c3]
  rw [if_neg (by simp only [not_or, Decidable.not_not]; exact ⟨c1, c2, c3⟩)]
  by_cases c4 : s.disp = 4
  · rw [if_pos c4]
    by_cases c5 : a.car = b.car
    · by_cases c6 : b.board ≤ a.board
      · simp -implicitDefEqProofs (disch := first | omega | assumption) [c1, e1, e2, c2, c3, c4, c5, c6]
      · simp -implicitDefEqProofs (disch := first | omega | assumption) [c1, e1, e2, c2, c3, c4, c5, c6]
    · simp -implicitDefEqProofs (disch := first | omega | assumption) [c1, e1, e2, c2, c3, c4, c5]
  · rw [if_neg c4]
    by_cases c5 : a.board < 0
    · simp -implicitDefEqProofs (disch := first | omega | assumption) [c1, e1, e2, c2, c3, c4, c5]
    by_cases c6 : b.board < a.board
    · simp -implicitDefEqProofs (disch := first | omega | assumption) [c1, e1, e2, c2, c3, c4, c5, c6]
    by_cases c7 : a.board = b.board
    · by_cases c8 : b.car ≤ a.car
      · simp -implicitDefEqProofs (disch := first | omega | assumption) [c1, e1, e2, c2, c3, c4, c5, c6, c7, c8]
      · simp -implicitDefEqProofs (disch := first | omega | assumption) [c1, e1, e2, c2, c3, c4, c5, c6, c7, c8]
    · simp -implicitDefEqProofs (disch := first | omega | assumption) [c1, e1, e2, c2, c3, c4, c5, c6, c7]
def TripsFT (ts : List Trip) : Prop := ∀ t ∈ ts, FT t.frm ∧ FT t.to
def FairC (g : List AV → Option (List AV)) : Prop := ∀ (s : Scn) (ts : List Trip), ts.length ≤ 60 → TripsFT ts → g [.agg s.cells, vT ts] = some [bo (fairL s ts)]
theorem fair_in (Γ : Env) (M : Nat) (hM : 100 < M) (h161 : PassC (Γ 161)) (s : Scn) (ts r : List Trip) (a : Trip) (i : Nat) (hr : r.length ≤ 60) (ha : FT a.frm ∧ FT a.to) (hft : TripsFT r) :
    ∃ ax s', ((ax = .ex 2 ∧ s' = ⟨[(1, vT ts), (2, .loc 2 0 0), (9, vT ts), (10, i64 ts.length), (11, i64 i)], [(2, rS48 s)]⟩ ∧ r.all (fun b => !passB s a b) = true) ∨ (ax = .ret ∧ s' = ⟨[(4, bo false)], []⟩ ∧ r.all (fun b => !passB s a b) = false)) ∧
      ∀ s0, nrm [1, 2, 6, 9, 10, 11, 19, 20, 21] [2, 6] s0 = ⟨[(1, vT ts), (2, .loc 2 0 0), (6, .loc 6 0 0), (9, vT ts), (10, i64 ts.length), (11, i64 i), (19, vT r), (20, i64 r.length), (21, i64 (0 : Nat))], [(2, rS48 s), (6, ⟨7, [a.cells.map AV.c]⟩)]⟩ → lp (exec Γ M axiom_Fair_l1) M s0 = some (ax, s') := by
  refine lp_all (fun q : Nat => ⟨[(1, vT ts), (2, .loc 2 0 0), (6, .loc 6 0 0), (9, vT ts), (10, i64 ts.length), (11, i64 i), (19, vT r), (20, i64 r.length), (21, i64 q)], [(2, rS48 s), (6, ⟨7, [a.cells.map AV.c]⟩)]⟩) (fun q => q ≤ r.length ∧ (r.drop q).all (fun b => !passB s a b) = r.all (fun b => !passB s a b)) (fun q => r.length - q) _ 0 M (by simp) ⟨by simp, rfl⟩ (by omega) ?_
  rintro k ⟨hk, hq⟩
  by_cases hlt : k < r.length
  · obtain ⟨t, ht⟩ : ∃ t, r[k]'hlt = t := ⟨_, rfl⟩
    have htf := hft t (by rw [← ht]; exact List.getElem_mem hlt)
    rw [List.drop_eq_getElem_cons hlt, ht, List.all_cons] at hq
    have e := h161 s a t ha.1 ha.2 htf.1 htf.2
    simp only [Scn.cells, Trip.cells] at e
    cases hb : passB s a t with
    | true =>
      rw [hb] at e hq
      have hF : r.all (fun b => !passB s a b) = false := by rw [← hq]; rfl
      generalize r.all (fun b => !passB s a b) = R at *
      simp -implicitDefEqProofs (disch := first | omega | assumption) [hlt, ht, e, hF]
    | false =>
      rw [hb] at e hq
      have hG : (r.drop (k + 1)).all (fun b => !passB s a b) = r.all (fun b => !passB s a b) := by rw [← hq]; rfl
      generalize r.all (fun b => !passB s a b) = R at *
      simp -implicitDefEqProofs (disch := first | omega | assumption) [-List.all_eq_true, -List.all_eq_false, hlt, ht, e]
      exact ⟨k + 1, by omega, ⟨by omega, hG⟩, by omega⟩
  · obtain rfl : k = r.length := by omega
    rw [List.drop_length, List.all_nil] at hq
    generalize r.all (fun b => !passB s a b) = R at *
    simp -implicitDefEqProofs (disch := first | omega | assumption) [hq.symm]
theorem axiom_Fair_run (Γ : Env) (M : Nat) (hM : 100 < M) (h161 : PassC (Γ 161)) : FairC (run Γ M axiom_Fair_f) := by
  intro s ts hl hft
  obtain ⟨ax, s', (⟨rfl, rfl, hR⟩ | ⟨rfl, rfl, hR⟩), hin⟩ : ∃ ax s', ((ax = .ex 0 ∧ s' = ⟨[], []⟩ ∧ fairL s ts = true) ∨ (ax = .ret ∧ s' = ⟨[(4, bo false)], []⟩ ∧ fairL s ts = false)) ∧ ∀ s0, nrm [1, 2, 9, 10, 11] [2] s0 = ⟨[(1, vT ts), (2, .loc 2 0 0), (9, vT ts), (10, i64 ts.length), (11, i64 (0 : Nat))], [(2, rS48 s)]⟩ → lp (exec Γ M axiom_Fair_l2) M s0 = some (ax, s') := by
    refine lp_all (fun q : Nat => ⟨[(1, vT ts), (2, .loc 2 0 0), (9, vT ts), (10, i64 ts.length), (11, i64 q)], [(2, rS48 s)]⟩) (fun q => q ≤ ts.length ∧ fairL s (ts.drop q) = fairL s ts) (fun q => ts.length - q) _ 0 M (by simp) ⟨by simp, rfl⟩ (by omega) ?_
    rintro k ⟨hk, hq⟩
    by_cases hlt : k < ts.length
    · obtain ⟨t, ht⟩ : ∃ t, ts[k]'hlt = t := ⟨_, rfl⟩
      have htf := hft t (by rw [← ht]; exact List.getElem_mem hlt)
      rw [List.drop_eq_getElem_cons hlt, ht, fairL] at hq
      obtain ⟨r, hr⟩ : ∃ r, ts.drop (k + 1) = r := ⟨_, rfl⟩
      have hrl : r.length = ts.length - (k + 1) := by rw [← hr, List.length_drop]
      have hrf : TripsFT r := fun x hx => hft x (List.mem_of_mem_drop (by rw [hr]; exact hx))
      rw [hr] at hq
      obtain ⟨ax, s', hR, hin⟩ := fair_in Γ M hM h161 s ts r t k (by omega) htf hrf
      have hmd : (ts.map Trip.cells).drop (k + 1) = r.map Trip.cells := by rw [← hr, List.map_drop]
      have hk1 : k + 1 ≤ ts.length := by omega
      have hmt : (r.map Trip.cells).take (ts.length - (k + 1)) = r.map Trip.cells := by rw [List.take_of_length_le]; rw [List.length_map]; omega
      have hrl2 : (r.map Trip.cells).length = r.length := List.length_map _
      rcases hR with ⟨rfl, rfl, h2⟩ | ⟨rfl, rfl, h2⟩
      · rw [h2, Bool.true_and] at hq
        simp -implicitDefEqProofs (disch := first | omega | (simp <;> fail) | assumption) [hlt, ht, hmd, hmt, hk1, hin]
        exact ⟨k + 1, by omega, ⟨by omega, by rw [hr]; exact hq⟩, by omega⟩
      · rw [h2, Bool.false_and] at hq
        simp -implicitDefEqProofs (disch := first | omega | (simp <;> fail) | assumption) [hlt, ht, hmd, hmt, hk1, hin, hq.symm]
    · obtain rfl : k = ts.length := by omega
      rw [List.drop_length, fairL] at hq
      simp -implicitDefEqProofs (disch := first | omega | assumption) [hq.symm]
  all_goals
    have hlp := hin ⟨[(1, vT ts), (2, .loc 2 0 0), (9, vT ts), (10, i64 ts.length), (11, i64 (0 : Nat))], [(2, rS48 s)]⟩ (by simp)
    simp [rS48] at hlp
    rw [hR]
    simp -implicitDefEqProofs (disch := first | omega | (simp <;> fail) | assumption) [hlp]
theorem rfair_in (Γ : Env) (M : Nat) (hM : 100 < M) (h164 : DirC (Γ 164)) (s : Scn) (ts : List Trip) (k : Nat) (hl : ts.length ≤ 60) (hft : TripsFT ts) (hkl : k < ts.length) (b : Trip) (hbk : ts[k]'hkl = b) :
    ∃ ax s', ((ax = .ex 2 ∧ s' = ⟨[(1, vT ts), (2, .loc 2 0 0), (5, i64 k)], [(2, rS48 s)]⟩ ∧ (ts.take k).all (fun a => !passB s a b) = true) ∨ (ax = .ret ∧ s' = ⟨[(4, bo false)], []⟩ ∧ (ts.take k).all (fun a => !passB s a b) = false)) ∧
      ∀ s0, nrm [1, 2, 5, 6] [2] s0 = ⟨[(1, vT ts), (2, .loc 2 0 0), (5, i64 k), (6, i64 (0 : Nat))], [(2, rS48 s)]⟩ → lp (exec Γ M ref48_Fair_l1) M s0 = some (ax, s') := by
  refine lp_all (fun q : Nat => ⟨[(1, vT ts), (2, .loc 2 0 0), (5, i64 k), (6, i64 q)], [(2, rS48 s)]⟩) (fun q => q ≤ k ∧ (ts.take q).all (fun a => !passB s a b) = true) (fun q => k - q) _ 0 M (by simp) ⟨by simp, by simp⟩ (by omega) ?_
  rintro i ⟨hik, hq⟩
  have hbf := hft b (by rw [← hbk]; exact List.getElem_mem hkl)
  by_cases hlt : i < k
  · have hi : i < ts.length := by omega
    obtain ⟨a, ha⟩ : ∃ t, ts[i]'hi = t := ⟨_, rfl⟩
    have haf := hft a (by rw [← ha]; exact List.getElem_mem hi)
    have hsn : (ts.take (i + 1)).all (fun a => !passB s a b) = ((ts.take i).all (fun a => !passB s a b) && !passB s a b) := by
      rw [List.take_succ_eq_append_getElem hi, List.all_append, ha]; simp
    rw [hq, Bool.true_and] at hsn
    have bad : passB s a b = true → (ts.take k).all (fun a => !passB s a b) = false := fun h => by
      have h1 : a ∈ ts.take k := by
        rw [← ha]
        have := List.getElem_mem (l := ts.take k) (n := i) (by rw [List.length_take]; omega)
        rwa [List.getElem_take] at this
      cases hh : (ts.take k).all (fun a => !passB s a b) with
      | false => rfl
      | true => have := List.all_eq_true.1 hh a h1; rw [h] at this; simp at this
    have good : passB s a b = false → ∃ q' : Nat, (i : Int) + 1 = q' ∧ (q' ≤ k ∧ (ts.take q').all (fun a => !passB s a b) = true) ∧ k - q' < k - i := fun h => ⟨i + 1, by omega, ⟨by omega, by rw [hsn, h]; rfl⟩, by omega⟩
    have e1 := h164 a.frm a.to haf.1 haf.2
    have e2 := h164 b.frm b.to hbf.1 hbf.2
    clear hsn hq
    have hpd : passB s a b = (if a.frm ≠ b.frm ∨ dirI a.frm a.to ≠ dirI b.frm b.to ∨ b.board < 0 then false
      else if s.disp = 4 then decide (a.car = b.car) && decide (b.board ≤ a.board)
      else decide (a.board < 0) || decide (b.board < a.board) || (decide (a.board = b.board) && decide (b.car ≤ a.car))) := rfl
    generalize passB s a b = pv at hpd bad good
    by_cases c1 : a.frm = b.frm
    case neg =>
      have good := good (by rw [hpd, if_pos (.inl c1)])
      simp -implicitDefEqProofs (disch := first | omega | assumption) [-List.all_eq_true, -List.all_eq_false, hlt, hi, hkl, ha, hbk, c1]
      exact good
    rw [c1] at e1
    generalize hda : dirI a.frm a.to = da at *
    rw [c1] at hda
    rw [hda] at e1
    generalize dirI b.frm b.to = db at *
    by_cases c2 : da = db
    case neg =>
      have good := good (by rw [hpd, if_pos (.inr (.inl c2))])
      simp -implicitDefEqProofs (disch := first | omega | assumption) [-List.all_eq_true, -List.all_eq_false, hlt, hi, hkl, ha, hbk, c1, e1, e2, c2]
      exact good
    by_cases c3 : b.board < 0
    · have good := good (by rw [hpd, if_pos (.inr (.inr c3))])
      simp -implicitDefEqProofs (disch := first | omega | assumption) [-List.all_eq_true, -List.all_eq_false, hlt, hi, hkl, ha, hbk, c1, e1, e2, c2, c3]
      exact good
    rw [if_neg (by simp only [not_or, Decidable.not_not]; exact ⟨c1, c2, c3⟩)] at hpd
    by_cases c4 : s.disp = 4
    · rw [if_pos c4] at hpd
      by_cases c5 : a.car = b.car
      · by_cases c6 : b.board ≤ a.board
        · have hF := bad (by simp [hpd, c5, c6])
          simp -implicitDefEqProofs (disch := first | omega | assumption) [-List.all_eq_true, -List.all_eq_false, hlt, hi, hkl, ha, hbk, c1, e1, e2, c2, c3, c4, c5, c6]
          exact hF
        · have good := good (by simp [hpd, c6])
          simp -implicitDefEqProofs (disch := first | omega | assumption) [-List.all_eq_true, -List.all_eq_false, hlt, hi, hkl, ha, hbk, c1, e1, e2, c2, c3, c4, c5, c6]
          exact good
      · have good := good (by simp [hpd, c5])
        simp -implicitDefEqProofs (disch := first | omega | assumption) [-List.all_eq_true, -List.all_eq_false, hlt, hi, hkl, ha, hbk, c1, e1, e2, c2, c3, c4, c5]
        exact good
    · rw [if_neg c4] at hpd
      by_cases c5 : a.board < 0
      · have hF := bad (by simp [hpd, c5])
        simp -implicitDefEqProofs (disch := first | omega | assumption) [-List.all_eq_true, -List.all_eq_false, hlt, hi, hkl, ha, hbk, c1, e1, e2, c2, c3, c4, c5]
        exact hF
      by_cases c6 : b.board < a.board
      · have hF := bad (by simp [hpd, c6])
        simp -implicitDefEqProofs (disch := first | omega | assumption) [-List.all_eq_true, -List.all_eq_false, hlt, hi, hkl, ha, hbk, c1, e1, e2, c2, c3, c4, c5, c6]
        exact hF
      by_cases c7 : b.board = a.board
      · by_cases c8 : b.car ≤ a.car
        · have hF := bad (by simp [hpd, c7, c8])
          simp -implicitDefEqProofs (disch := first | omega | assumption) [-List.all_eq_true, -List.all_eq_false, hlt, hi, hkl, ha, hbk, c1, e1, e2, c2, c3, c4, c5, c6, c7, c8]
          exact hF
        · have good := good (by simp [hpd, c5, c6, c8])
          simp -implicitDefEqProofs (disch := first | omega | assumption) [-List.all_eq_true, -List.all_eq_false, hlt, hi, hkl, ha, hbk, c1, e1, e2, c2, c3, c4, c5, c6, c7, c8]
          exact good
      · have c9 : ¬ a.board = b.board := fun h => c7 h.symm
        have good := good (by simp [hpd, c5, c6, c9])
        simp -implicitDefEqProofs (disch := first | omega | assumption) [-List.all_eq_true, -List.all_eq_false, hlt, hi, hkl, ha, hbk, c1, e1, e2, c2, c3, c4, c5, c6, c7]
        exact good
  · obtain rfl : i = k := by omega
    simp -implicitDefEqProofs (disch := first | omega | assumption) [-List.all_eq_true, hq]
theorem ref48_Fair_run (Γ : Env) (M : Nat) (hM : 100 < M) (h164 : DirC (Γ 164)) : FairC (run Γ M ref48_Fair_f) := by
  intro s ts hl hft
  obtain ⟨ax, s', (⟨rfl, rfl, hR⟩ | ⟨rfl, rfl, hR⟩), hin⟩ : ∃ ax s', ((ax = .ex 0 ∧ s' = ⟨[], []⟩ ∧ fairL s ts = true) ∨ (ax = .ret ∧ s' = ⟨[(4, bo false)], []⟩ ∧ fairL s ts = false)) ∧ ∀ s0, nrm [1, 2, 5] [2] s0 = ⟨[(1, vT ts), (2, .loc 2 0 0), (5, i64 (0 : Nat))], [(2, rS48 s)]⟩ → lp (exec Γ M ref48_Fair_l2) M s0 = some (ax, s') := by
    refine lp_all (fun q : Nat => ⟨[(1, vT ts), (2, .loc 2 0 0), (5, i64 q)], [(2, rS48 s)]⟩) (fun q => q ≤ ts.length ∧ fairL s (ts.take q) = true) (fun q => ts.length - q) _ 0 M (by simp) ⟨by simp, rfl⟩ (by omega) ?_
    rintro k ⟨hk, hq⟩
    by_cases hlt : k < ts.length
    · obtain ⟨t, ht⟩ : ∃ t, ts[k]'hlt = t := ⟨_, rfl⟩
      have hsn := fairL_snoc s t (ts.take k)
      rw [hq, Bool.true_and] at hsn
      have hts : ts.take (k + 1) = ts.take k ++ [t] := by rw [List.take_succ_eq_append_getElem hlt, ht]
      obtain ⟨ax, s', hR, hin⟩ := rfair_in Γ M hM h164 s ts k hl hft hlt t ht
      rcases hR with ⟨rfl, rfl, h2⟩ | ⟨rfl, rfl, h2⟩
      · rw [h2] at hsn
        simp -implicitDefEqProofs (disch := first | omega | (simp <;> fail) | assumption) [hlt, hin]
        exact ⟨k + 1, by omega, ⟨by omega, by rw [hts]; exact hsn⟩, by omega⟩
      · rw [h2] at hsn
        have hF := fairL_take s ts (k + 1) (by rw [hts]; exact hsn)
        simp -implicitDefEqProofs (disch := first | omega | (simp <;> fail) | assumption) [hlt, hin, hF]
    · obtain rfl : k = ts.length := by omega
      rw [List.take_length] at hq
      simp -implicitDefEqProofs (disch := first | omega | assumption) [hq]
  all_goals
    have hlp := hin ⟨[(1, vT ts), (2, .loc 2 0 0), (5, i64 (0 : Nat))], [(2, rS48 s)]⟩ (by simp)
    simp [rS48] at hlp
    rw [hR]
    simp -implicitDefEqProofs (disch := first | omega | (simp <;> fail) | assumption) [hlp]
end Go.Am
