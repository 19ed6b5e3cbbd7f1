/- Law 48: the walks of how fast people get in and out. -/
import Derived.Test.YtmepibdbnbmapaaAxG
set_option linter.unusedVariables false
set_option linter.unusedSimpArgs false
set_option maxRecDepth 10000
set_option maxHeartbeats 4000000
namespace Go.Am
def nearB (s : Scn) (x y : Int) : Bool := decide (0 ≤ x) && decide (0 ≤ y) && decide (max (x - y) (y - x) < s.transfer)
def Tk30 (x : Int) : Prop := -1073741824 ≤ x ∧ x ≤ 1073741824
def NearC (g : List AV → Option (List AV)) : Prop := ∀ (s : Scn) (x y : Int), Tk30 x → Tk30 y → g [.agg s.cells, i64 x, i64 y] = some [bo (nearB s x y)]
theorem axiom_near_run (Γ : Env) (M : Nat) (h157 : FarC (Γ 157)) : NearC (run Γ M axiom_near_f) := by
  intro s x y hx hy
  obtain ⟨x1, x2⟩ := hx
  obtain ⟨y1, y2⟩ := hy
  have e := h157 x y (by omega) (by omega)
  unfold nearB
  generalize max (x - y) (y - x) = d at *
  by_cases c1 : 0 ≤ x
  · by_cases c2 : 0 ≤ y
    · by_cases c3 : d < s.transfer
      · simp -implicitDefEqProofs (disch := first | omega | assumption) [c1, c2, e, c3]
      · simp -implicitDefEqProofs (disch := first | omega | assumption) [c1, c2, e, c3]
    · simp -implicitDefEqProofs (disch := first | omega | assumption) [c1, c2, e]
  · simp -implicitDefEqProofs (disch := first | omega | assumption) [c1, e]
/-- Do two people get in or out of a car too near each other? -/
def clashB (s : Scn) (a b : Trip) : Bool :=
  if a.car ≠ b.car ∨ a.car < 0 then false
  else nearB s a.board b.board || nearB s a.board b.alight || nearB s a.alight b.board || nearB s a.alight b.alight
def pacedL (s : Scn) : List Trip → Bool
  | [] => true
  | a :: r => !(decide (0 ≤ a.board) && nearB s a.board a.alight) && r.all (fun b => !clashB s a b) && pacedL s r
abbrev tO (a : Trip) : Obj := ⟨7, [a.cells.map AV.c]⟩
structure TTk (t : Trip) : Prop where
  board : Tk30 t.board
  alight : Tk30 t.alight
theorem paced_l1 (Γ : Env) (M : Nat) (hM : 100 < M) (h162 : NearC (Γ 162)) (s : Scn) (ts r : List Trip) (a b : Trip) (i j : Nat) (ha : TTk a) (hb : TTk b) :
    ∃ ax s', ((ax = .ex 4 ∧ s' = ⟨[(1, vT ts), (2, .loc 2 0 0), (6, .loc 6 0 0), (11, vT ts), (12, i64 ts.length), (13, i64 i), (32, vT r), (33, i64 r.length), (34, i64 j)], [(2, rS48 s), (6, tO a)]⟩ ∧ (nearB s a.board b.board || nearB s a.board b.alight || nearB s a.alight b.board || nearB s a.alight b.alight) = false) ∨ (ax = .ret ∧ s' = ⟨[(4, bo false)], []⟩ ∧ (nearB s a.board b.board || nearB s a.board b.alight || nearB s a.alight b.board || nearB s a.alight b.alight) = true)) ∧
      ∀ s0, nrm [1, 2, 6, 8, 11, 12, 13, 32, 33, 34, 52, 53] [2, 6, 8] s0 = ⟨[(1, vT ts), (2, .loc 2 0 0), (6, .loc 6 0 0), (8, .loc 8 0 0), (11, vT ts), (12, i64 ts.length), (13, i64 i), (32, vT r), (33, i64 r.length), (34, i64 j), (52, .agg [.int .i64 a.board, .int .i64 a.alight]), (53, i64 (0 : Nat))], [(2, rS48 s), (6, tO a), (8, tO b)]⟩ → lp (exec Γ M axiom_Paced_l1) M s0 = some (ax, s') := by
  have e1 := h162 s a.board b.board ha.board hb.board
  have e2 := h162 s a.board b.alight ha.board hb.alight
  have e3 := h162 s a.alight b.board ha.alight hb.board
  have e4 := h162 s a.alight b.alight ha.alight hb.alight
  simp only [Scn.cells] at e1 e2 e3 e4
  generalize nearB s a.board b.board = n1 at *
  generalize nearB s a.board b.alight = n2 at *
  generalize nearB s a.alight b.board = n3 at *
  generalize nearB s a.alight b.alight = n4 at *
  refine lp_all (fun q : Nat => ⟨[(1, vT ts), (2, .loc 2 0 0), (6, .loc 6 0 0), (8, .loc 8 0 0), (11, vT ts), (12, i64 ts.length), (13, i64 i), (32, vT r), (33, i64 r.length), (34, i64 j), (52, .agg [.int .i64 a.board, .int .i64 a.alight]), (53, i64 q)], [(2, rS48 s), (6, tO a), (8, tO b)]⟩) (fun q => q ≤ 2 ∧ (1 ≤ q → n1 = false ∧ n2 = false) ∧ (2 ≤ q → n3 = false ∧ n4 = false)) (fun q => 2 - q) _ 0 M (by simp) ⟨by simp, by simp, by simp⟩ (by omega) ?_
  rintro q ⟨hq, h1, h2⟩
  have h3 : q = 0 ∨ q = 1 ∨ q = 2 := by omega
  rcases h3 with rfl | rfl | rfl
  · cases n1 with
    | true => simp -implicitDefEqProofs (disch := first | omega | assumption) [e1]
    | false =>
      cases n2 with
      | true => simp -implicitDefEqProofs (disch := first | omega | assumption) [e1, e2]
      | false =>
        simp -implicitDefEqProofs (disch := first | omega | assumption) [e1, e2]
        exact ⟨1, by omega, ⟨by omega, by omega⟩, by omega⟩
  · obtain ⟨rfl, rfl⟩ := h1 (by omega)
    cases n3 with
    | true => simp -implicitDefEqProofs (disch := first | omega | assumption) [e3]
    | false =>
      cases n4 with
      | true => simp -implicitDefEqProofs (disch := first | omega | assumption) [e3, e4]
      | false =>
        simp -implicitDefEqProofs (disch := first | omega | assumption) [e3, e4]
        exact ⟨2, by omega, by omega, by omega⟩
  · obtain ⟨rfl, rfl⟩ := h1 (by omega)
    obtain ⟨rfl, rfl⟩ := h2 (by omega)
    simp -implicitDefEqProofs (disch := first | omega | assumption)
theorem paced_l2 (Γ : Env) (M : Nat) (hM : 100 < M) (h162 : NearC (Γ 162)) (s : Scn) (ts r : List Trip) (a : Trip) (i : Nat) (hr : r.length ≤ 60) (ha : TTk a) (hft : ∀ t ∈ r, TTk t) :
    ∃ ax s', ((ax = .ex 2 ∧ s' = ⟨[(1, vT ts), (2, .loc 2 0 0), (11, vT ts), (12, i64 ts.length), (13, i64 i)], [(2, rS48 s)]⟩ ∧ r.all (fun b => !clashB s a b) = true) ∨ (ax = .ret ∧ s' = ⟨[(4, bo false)], []⟩ ∧ r.all (fun b => !clashB s a b) = false)) ∧
      ∀ s0, nrm [1, 2, 6, 11, 12, 13, 32, 33, 34] [2, 6] s0 = ⟨[(1, vT ts), (2, .loc 2 0 0), (6, .loc 6 0 0), (11, vT ts), (12, i64 ts.length), (13, i64 i), (32, vT r), (33, i64 r.length), (34, i64 (0 : Nat))], [(2, rS48 s), (6, tO a)]⟩ → lp (exec Γ M axiom_Paced_l2) M s0 = some (ax, s') := by
  refine lp_all (fun q : Nat => ⟨[(1, vT ts), (2, .loc 2 0 0), (6, .loc 6 0 0), (11, vT ts), (12, i64 ts.length), (13, i64 i), (32, vT r), (33, i64 r.length), (34, i64 q)], [(2, rS48 s), (6, tO a)]⟩) (fun q => q ≤ r.length ∧ (r.drop q).all (fun b => !clashB s a b) = r.all (fun b => !clashB s a b)) (fun q => r.length - q) _ 0 M (by simp) ⟨by simp, rfl⟩ (by omega) ?_
  rintro k ⟨hk, hq⟩
  by_cases hlt : k < r.length
  · obtain ⟨t, ht⟩ : ∃ t, r[k]'hlt = t := ⟨_, rfl⟩
    have htf := hft t (by rw [← ht]; exact List.getElem_mem hlt)
    rw [List.drop_eq_getElem_cons hlt, ht, List.all_cons] at hq
    have hcd : clashB s a t = (if a.car ≠ t.car ∨ a.car < 0 then false else nearB s a.board t.board || nearB s a.board t.alight || nearB s a.alight t.board || nearB s a.alight t.alight) := rfl
    have bad : clashB s a t = true → r.all (fun b => !clashB s a b) = false := fun h => by rw [← hq, h]; rfl
    have good : clashB s a t = false → ∃ q' : Nat, (k : Int) + 1 = q' ∧ (q' ≤ r.length ∧ (r.drop q').all (fun b => !clashB s a b) = r.all (fun b => !clashB s a b)) ∧ r.length - q' < r.length - k := fun h => ⟨k + 1, by omega, ⟨by omega, by rw [← hq, h]; rfl⟩, by omega⟩
    generalize clashB s a t = cv at hcd bad good
    clear hq
    generalize hR : r.all (fun b => !clashB s a b) = R at *
    by_cases c1 : a.car = t.car
    case neg =>
      have good := good (by rw [hcd, if_pos (.inl c1)])
      simp -implicitDefEqProofs (disch := first | omega | assumption) [-List.all_eq_true, -List.all_eq_false, hlt, ht, c1]
      exact good
    by_cases c2 : a.car < 0
    · have good := good (by rw [hcd, if_pos (.inr c2)])
      simp -implicitDefEqProofs (disch := first | omega | assumption) [-List.all_eq_true, -List.all_eq_false, hlt, ht, decide_eq_true c1, c2]
      exact good
    rw [if_neg (by simp only [not_or, Decidable.not_not]; exact ⟨c1, c2⟩)] at hcd
    obtain ⟨ax, s', hR2, hin⟩ := paced_l1 Γ M hM h162 s ts r a t i k ha htf
    have hd := decide_eq_true c1
    clear c1
    rcases hR2 with ⟨rfl, rfl, h2⟩ | ⟨rfl, rfl, h2⟩
    · have good := good (by rw [hcd, h2])
      simp -implicitDefEqProofs (disch := first | omega | (simp <;> fail) | assumption) [-List.all_eq_true, -List.all_eq_false, hlt, ht, hd, c2, hin]
      exact good
    · have bad := bad (by rw [hcd, h2])
      simp -implicitDefEqProofs (disch := first | omega | (simp <;> fail) | assumption) [-List.all_eq_true, -List.all_eq_false, hlt, ht, hd, c2, hin, bad]
  · obtain rfl : k = r.length := by omega
    rw [List.drop_length, List.all_nil] at hq
    generalize r.all (fun b => !clashB s a b) = R at *
    simp -implicitDefEqProofs (disch := first | omega | assumption) [hq.symm]
def PacedC (g : List AV → Option (List AV)) : Prop := ∀ (s : Scn) (ts : List Trip), ts.length ≤ 60 → (∀ t ∈ ts, TTk t) → g [.agg s.cells, vT ts] = some [bo (pacedL s ts)]
theorem axiom_Paced_run (Γ : Env) (M : Nat) (hM : 100 < M) (h162 : NearC (Γ 162)) : PacedC (run Γ M axiom_Paced_f) := by
  intro s ts hl hft
  obtain ⟨ax, s', (⟨rfl, rfl, hR⟩ | ⟨rfl, rfl, hR⟩), hin⟩ : ∃ ax s', ((ax = .ex 0 ∧ s' = ⟨[], []⟩ ∧ pacedL s ts = true) ∨ (ax = .ret ∧ s' = ⟨[(4, bo false)], []⟩ ∧ pacedL s ts = false)) ∧ ∀ s0, nrm [1, 2, 11, 12, 13] [2] s0 = ⟨[(1, vT ts), (2, .loc 2 0 0), (11, vT ts), (12, i64 ts.length), (13, i64 (0 : Nat))], [(2, rS48 s)]⟩ → lp (exec Γ M axiom_Paced_l3) M s0 = some (ax, s') := by
    refine lp_all (fun q : Nat => ⟨[(1, vT ts), (2, .loc 2 0 0), (11, vT ts), (12, i64 ts.length), (13, i64 q)], [(2, rS48 s)]⟩) (fun q => q ≤ ts.length ∧ pacedL s (ts.drop q) = pacedL s ts) (fun q => ts.length - q) _ 0 M (by simp) ⟨by simp, rfl⟩ (by omega) ?_
    rintro k ⟨hk, hq⟩
    by_cases hlt : k < ts.length
    · obtain ⟨t, ht⟩ : ∃ t, ts[k]'hlt = t := ⟨_, rfl⟩
      have htf := hft t (by rw [← ht]; exact List.getElem_mem hlt)
      rw [List.drop_eq_getElem_cons hlt, ht, pacedL] at hq
      obtain ⟨r, hr⟩ : ∃ r, ts.drop (k + 1) = r := ⟨_, rfl⟩
      have hrl : r.length = ts.length - (k + 1) := by rw [← hr, List.length_drop]
      have hrf : ∀ x ∈ r, TTk x := fun x hx => hft x (List.mem_of_mem_drop (by rw [hr]; exact hx))
      rw [hr] at hq
      have e1 := h162 s t.board t.alight htf.board htf.alight
      simp only [Scn.cells] at e1
      obtain ⟨ax, s', hR, hin⟩ := paced_l2 Γ M hM h162 s ts r t k (by omega) htf hrf
      have hmd : (ts.map Trip.cells).drop (k + 1) = r.map Trip.cells := by rw [← hr, List.map_drop]
      have hk1 : k + 1 ≤ ts.length := by omega
      have hmt : (r.map Trip.cells).take (ts.length - (k + 1)) = r.map Trip.cells := by rw [List.take_of_length_le]; rw [List.length_map]; omega
      by_cases c1 : 0 ≤ t.board
      · rw [decide_eq_true c1, Bool.true_and] at hq
        generalize nearB s t.board t.alight = n1 at *
        cases n1 with
        | true =>
          simp only [Bool.not_true, Bool.false_and] at hq
          simp -implicitDefEqProofs (disch := first | omega | (simp <;> fail) | assumption) [hlt, ht, c1, e1, hq.symm]
        | false =>
          simp only [Bool.not_false, Bool.true_and] at hq
          rcases hR with ⟨rfl, rfl, h2⟩ | ⟨rfl, rfl, h2⟩
          · rw [h2, Bool.true_and] at hq
            simp -implicitDefEqProofs (disch := first | omega | (simp <;> fail) | assumption) [hlt, ht, c1, e1, hmd, hmt, hk1, hin]
            exact ⟨k + 1, by omega, ⟨by omega, by rw [hr]; exact hq⟩, by omega⟩
          · rw [h2, Bool.false_and] at hq
            simp -implicitDefEqProofs (disch := first | omega | (simp <;> fail) | assumption) [hlt, ht, c1, e1, hmd, hmt, hk1, hin, hq.symm]
      · rw [decide_eq_false c1] at hq
        simp only [Bool.false_and, Bool.not_false, Bool.true_and] at hq
        rcases hR with ⟨rfl, rfl, h2⟩ | ⟨rfl, rfl, h2⟩
        · rw [h2, Bool.true_and] at hq
          simp -implicitDefEqProofs (disch := first | omega | (simp <;> fail) | assumption) [hlt, ht, c1, hmd, hmt, hk1, hin]
          exact ⟨k + 1, by omega, ⟨by omega, by rw [hr]; exact hq⟩, by omega⟩
        · rw [h2, Bool.false_and] at hq
          simp -implicitDefEqProofs (disch := first | omega | (simp <;> fail) | assumption) [hlt, ht, c1, hmd, hmt, hk1, hin, hq.symm]
    · obtain rfl : k = ts.length := by omega
      rw [List.drop_length, pacedL] at hq
      simp -implicitDefEqProofs (disch := first | omega | assumption) [hq.symm]
  all_goals
    have hlp := hin ⟨[(1, vT ts), (2, .loc 2 0 0), (11, vT ts), (12, i64 ts.length), (13, i64 (0 : Nat))], [(2, rS48 s)]⟩ (by simp)
    simp [rS48] at hlp
    rw [hR]
    simp -implicitDefEqProofs (disch := first | omega | (simp <;> fail) | assumption) [hlp]
end Go.Am
