/- Law 48: both ways to look over how fast people get in and out are one. -/
import Derived.Test.YtmepibdbnbmapaaAxI
set_option linter.unusedVariables false
set_option linter.unusedSimpArgs false
set_option maxRecDepth 10000
set_option maxHeartbeats 4000000
namespace Go.Am
def PX (s : Scn) (ts : List Trip) : Prop := ∀ i, i < 2 * ts.length → ∀ k, k < i → badIK s ts i k = false
theorem nearB_comm (s : Scn) (x y : Int) : nearB s x y = nearB s y x := by
  unfold nearB
  rw [show max (x - y) (y - x) = max (y - x) (x - y) by omega, Bool.and_comm (decide (0 ≤ x))]
theorem evT_even (t : Trip) (m : Nat) : evT t (2 * m) = t.board := by unfold evT; rw [if_neg (by omega)]
theorem evT_odd (t : Trip) (m : Nat) : evT t (2 * m + 1) = t.alight := by unfold evT; rw [if_pos (by omega)]
theorem badIK_eq {s : Scn} {ts : List Trip} {i k m n : Nat} (hm : i / 2 = m) (hn : k / 2 = n) (h1 : m < ts.length) (h2 : n < ts.length) : badIK s ts i k = badT s i k ts[m] ts[n] := by
  unfold badIK; rw [hm, hn, List.getElem?_eq_getElem h1, List.getElem?_eq_getElem h2]
theorem pacedL_iff (s : Scn) : ∀ ts : List Trip, pacedL s ts = true ↔ (∀ a ∈ ts, (decide (0 ≤ a.board) && nearB s a.board a.alight) = false) ∧ ts.Pairwise (fun a b => clashB s a b = false)
  | [] => by simp [pacedL]
  | a :: r => by
    rw [pacedL, List.pairwise_cons, Bool.and_eq_true, Bool.and_eq_true, pacedL_iff s r, List.all_eq_true]
    simp only [Bool.not_eq_true', List.mem_cons, forall_eq_or_imp]
    constructor
    · rintro ⟨⟨h1, h2⟩, h3, h4⟩; exact ⟨⟨h1, h3⟩, h2, h4⟩
    · rintro ⟨⟨h1, h3⟩, h2, h4⟩; exact ⟨⟨h1, h2⟩, h3, h4⟩
theorem paced_iff (s : Scn) (ts : List Trip) : pacedL s ts = true ↔ PX s ts := by
  rw [pacedL_iff, List.pairwise_iff_getElem]
  constructor
  · rintro ⟨h1, h2⟩ i hi k hk
    have hm : i / 2 < ts.length := by omega
    have hn : k / 2 < ts.length := by omega
    rw [badIK_eq rfl rfl hm hn]
    unfold badT
    by_cases mn : i / 2 = k / 2
    · have hi2 : i = 2 * (k / 2) + 1 := by omega
      have hk2 : k = 2 * (k / 2) := by omega
      have h := h1 ts[k / 2] (List.getElem_mem hn)
      have hab : ts[i / 2] = ts[k / 2] := by simp only [mn]
      rw [hab]
      generalize ts[k / 2] = a at h
      have e1 : evT a i = a.alight := by rw [hi2]; exact evT_odd _ _
      have e2 : evT a k = a.board := by rw [hk2]; exact evT_even _ _
      rw [e1, e2, nearB_comm]
      by_cases hb : 0 ≤ a.board
      · rw [decide_eq_true hb, Bool.true_and] at h
        rw [h, Bool.and_false]
      · have : nearB s a.board a.alight = false := by unfold nearB; rw [decide_eq_false hb]; rfl
        rw [this, Bool.and_false]
    · have h := h2 (k / 2) (i / 2) hn hm (by omega)
      rw [decide_eq_false mn, Bool.false_or]
      generalize ts[k / 2] = a at *
      generalize ts[i / 2] = b at *
      unfold clashB at h
      by_cases c : b.car = a.car ∧ 0 ≤ b.car
      · rw [if_neg (by omega)] at h
        simp only [Bool.or_eq_false_iff] at h
        obtain ⟨⟨⟨n1, n2⟩, n3⟩, n4⟩ := h
        have hx : evT b i = b.board ∨ evT b i = b.alight := by unfold evT; split <;> simp
        have hy : evT a k = a.board ∨ evT a k = a.alight := by unfold evT; split <;> simp
        rw [nearB_comm]
        rcases hx with hx | hx <;> rcases hy with hy | hy <;> rw [hx, hy] <;> simp [n1, n2, n3, n4]
      · have : (decide (b.car = a.car) && decide (0 ≤ b.car)) = false := by
          rw [Bool.and_eq_false_iff]
          by_cases c1 : b.car = a.car
          · right; exact decide_eq_false fun c2 => c ⟨c1, c2⟩
          · left; exact decide_eq_false c1
        rw [this]; rfl
  · intro h
    constructor
    · intro a ha
      obtain ⟨m, hm, rfl⟩ := List.getElem_of_mem ha
      have := h (2 * m + 1) (by omega) (2 * m) (by omega)
      rw [badIK_eq (m := m) (n := m) (by omega) (by omega) hm hm] at this
      unfold badT at this
      rw [evT_odd, evT_even, nearB_comm, decide_eq_true (show (2 * m + 1) / 2 = 2 * m / 2 by omega), Bool.true_or, Bool.true_and] at this
      rw [this, Bool.and_false]
    · intro m n hm hn hmn
      unfold clashB
      by_cases c : ts[m].car ≠ ts[n].car ∨ ts[m].car < 0
      · rw [if_pos c]
      rw [if_neg c]
      have key : ∀ i k, i / 2 = n → k / 2 = m → nearB s (evT ts[n] i) (evT ts[m] k) = false := fun i k hi hk => by
        have := h i (by omega) k (by omega)
        rw [badIK_eq hi hk hn hm] at this
        unfold badT at this
        rw [decide_eq_true (show ts[n].car = ts[m].car by omega), decide_eq_true (show 0 ≤ ts[n].car by omega), Bool.and_self, Bool.or_true, Bool.true_and] at this
        exact this
      have k1 := key (2 * n) (2 * m) (by omega) (by omega)
      have k2 := key (2 * n + 1) (2 * m) (by omega) (by omega)
      have k3 := key (2 * n) (2 * m + 1) (by omega) (by omega)
      have k4 := key (2 * n + 1) (2 * m + 1) (by omega) (by omega)
      rw [evT_even, evT_even, nearB_comm] at k1
      rw [evT_odd, evT_even, nearB_comm] at k2
      rw [evT_even, evT_odd, nearB_comm] at k3
      rw [evT_odd, evT_odd, nearB_comm] at k4
      rw [k1, k2, k3, k4]; rfl
theorem ref48_Paced_run (Γ : Env) (M : Nat) (hM : 200 < M) : PacedC (run Γ M ref48_Paced_f) := by
  intro s ts hl hft
  obtain ⟨ax, s', (⟨rfl, rfl, hR⟩ | ⟨rfl, rfl, hR⟩), hin⟩ : ∃ ax s', ((ax = .ex 0 ∧ s' = ⟨[], []⟩ ∧ PX s ts) ∨ (ax = .ret ∧ s' = ⟨[(4, bo false)], []⟩ ∧ ¬ PX s ts)) ∧ ∀ s0, nrm [1, 2, 5] [2] s0 = ⟨[(1, vT ts), (2, .loc 2 0 0), (5, i64 (0 : Nat))], [(2, rS48 s)]⟩ → lp (exec Γ M ref48_Paced_l2) M s0 = some (ax, s') := by
    refine lp_all (fun q : Nat => ⟨[(1, vT ts), (2, .loc 2 0 0), (5, i64 q)], [(2, rS48 s)]⟩) (fun q => q ≤ 2 * ts.length ∧ ∀ i, i < q → ∀ k, k < i → badIK s ts i k = false) (fun q => 2 * ts.length - q) _ 0 M (by simp) ⟨by simp, by simp⟩ (by omega) ?_
    rintro i ⟨hi, hq⟩
    by_cases hlt : i < 2 * ts.length
    · have hlt' : (i : Int) < 2 * (ts.length : Int) := by omega
      obtain ⟨ax, s', hR, hin⟩ := rpaced_in Γ M hM s ts i hl hft hlt
      rcases hR with ⟨rfl, rfl, h2⟩ | ⟨rfl, rfl, k, hk, h2⟩
      · simp -implicitDefEqProofs (disch := first | omega | (simp <;> fail) | assumption) [hlt, hlt', hin]
        refine ⟨i + 1, by omega, ⟨by omega, fun j hj => ?_⟩, by omega⟩
        rcases Nat.lt_or_ge j i with h1 | h1
        · exact hq j h1
        · obtain rfl : j = i := by omega
          exact h2
      · have hF : ¬ PX s ts := fun h => by rw [h i hlt k hk] at h2; simp at h2
        simp -implicitDefEqProofs (disch := first | omega | (simp <;> fail) | assumption) [hlt, hlt', hin, hF]
    · have hlt' : ¬ (i : Int) < 2 * (ts.length : Int) := by omega
      obtain rfl : i = 2 * ts.length := by omega
      have hG : PX s ts := hq
      simp -implicitDefEqProofs (disch := first | omega | assumption) [hG]
  · have hlp := hin ⟨[(1, vT ts), (2, .loc 2 0 0), (5, i64 (0 : Nat))], [(2, rS48 s)]⟩ (by simp)
    simp [rS48] at hlp
    rw [(paced_iff s ts).2 hR]
    simp -implicitDefEqProofs (disch := first | omega | (simp <;> fail) | assumption) [hlp]
  · have hlp := hin ⟨[(1, vT ts), (2, .loc 2 0 0), (5, i64 (0 : Nat))], [(2, rS48 s)]⟩ (by simp)
    simp [rS48] at hlp
    have : pacedL s ts = false := by
      cases h : pacedL s ts with
      | false => rfl
      | true => exact (hR ((paced_iff s ts).1 h)).elim
    rw [this]
    simp -implicitDefEqProofs (disch := first | omega | (simp <;> fail) | assumption) [hlp]
end Go.Am
