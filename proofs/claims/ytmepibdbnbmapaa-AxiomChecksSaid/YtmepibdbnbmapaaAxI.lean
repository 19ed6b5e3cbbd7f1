/- Law 48: the document's answer for how fast people get in and out. -/
import Derived.Test.YtmepibdbnbmapaaAxH
set_option linter.unusedVariables false
set_option linter.unusedSimpArgs false
set_option maxRecDepth 10000
set_option maxHeartbeats 4000000
namespace Go.Am
def evT (t : Trip) (i : Nat) : Int := if i % 2 = 1 then t.alight else t.board
def badT (s : Scn) (i k : Nat) (a b : Trip) : Bool := (decide (i / 2 = k / 2) || (decide (a.car = b.car) && decide (0 ≤ a.car))) && nearB s (evT a i) (evT b k)
def badIK (s : Scn) (ts : List Trip) (i k : Nat) : Bool := match ts[i / 2]?, ts[k / 2]? with
  | some a, some b => badT s i k a b
  | _, _ => false
theorem rpaced_in (Γ : Env) (M : Nat) (hM : 200 < M) (s : Scn) (ts : List Trip) (i : Nat) (hl : ts.length ≤ 60) (hft : ∀ t ∈ ts, TTk t) (hil : i < 2 * ts.length) :
    ∃ ax s', ((ax = .ex 2 ∧ s' = ⟨[(1, vT ts), (2, .loc 2 0 0), (5, i64 i)], [(2, rS48 s)]⟩ ∧ ∀ k, k < i → badIK s ts i k = false) ∨ (ax = .ret ∧ s' = ⟨[(4, bo false)], []⟩ ∧ ∃ k, k < i ∧ badIK s ts i k = true)) ∧
      ∀ s0, nrm [1, 2, 5, 6] [2] s0 = ⟨[(1, vT ts), (2, .loc 2 0 0), (5, i64 i), (6, i64 (0 : Nat))], [(2, rS48 s)]⟩ → lp (exec Γ M ref48_Paced_l1) M s0 = some (ax, s') := by
  refine lp_all (fun q : Nat => ⟨[(1, vT ts), (2, .loc 2 0 0), (5, i64 i), (6, i64 q)], [(2, rS48 s)]⟩) (fun q => q ≤ i ∧ ∀ k, k < q → badIK s ts i k = false) (fun q => i - q) _ 0 M (by simp) ⟨by simp, by simp⟩ (by omega) ?_
  rintro k ⟨hki, hq⟩
  by_cases hlt : k < i
  · obtain ⟨m, hm⟩ : ∃ m, i / 2 = m := ⟨_, rfl⟩
    obtain ⟨n, hn⟩ : ∃ m, k / 2 = m := ⟨_, rfl⟩
    have hml : m < ts.length := by omega
    have hnl : n < ts.length := by omega
    have hmi : (i : Int) / 2 = (m : Int) := by omega
    have hni : (k : Int) / 2 = (n : Int) := by omega
    obtain ⟨a, ha⟩ : ∃ t, ts[m]'hml = t := ⟨_, rfl⟩
    obtain ⟨b, hb⟩ : ∃ t, ts[n]'hnl = t := ⟨_, rfl⟩
    have hat := hft a (by rw [← ha]; exact List.getElem_mem hml)
    have hbt := hft b (by rw [← hb]; exact List.getElem_mem hnl)
    have hbi : badIK s ts i k = badT s i k a b := by
      unfold badIK; rw [hm, hn, List.getElem?_eq_getElem hml, List.getElem?_eq_getElem hnl, ha, hb]
    obtain ⟨a1, a2⟩ := hat.board
    obtain ⟨a3, a4⟩ := hat.alight
    obtain ⟨b1, b2⟩ := hbt.board
    obtain ⟨b3, b4⟩ := hbt.alight
    obtain ⟨x, hx0⟩ : ∃ x, evT a i = x := ⟨_, rfl⟩
    obtain ⟨y, hy0⟩ : ∃ x, evT b k = x := ⟨_, rfl⟩
    have bad : badT s i k a b = true → ∃ k, k < i ∧ badIK s ts i k = true := fun h => ⟨k, hlt, by rw [hbi]; exact h⟩
    have good : badT s i k a b = false → ∃ q' : Nat, (k : Int) + 1 = q' ∧ (q' ≤ i ∧ ∀ k, k < q' → badIK s ts i k = false) ∧ i - q' < i - k := fun h => ⟨k + 1, by omega, ⟨by omega, fun j hj => by
      rcases Nat.lt_or_ge j k with h1 | h1
      · exact hq j h1
      · obtain rfl : j = k := by omega
        rw [hbi]; exact h⟩, by omega⟩
    have hbd : badT s i k a b = ((decide (m = n) || (decide (a.car = b.car) && decide (0 ≤ a.car))) && (decide (0 ≤ x) && decide (0 ≤ y) && decide (max (x - y) (y - x) < s.transfer))) := by
      unfold badT nearB; rw [hm, hn, hx0, hy0]
    generalize badT s i k a b = pv at hbd bad good
    have hxc : ((i : Int) % 2 = 1 ∧ a.alight = x) ∨ (¬ (i : Int) % 2 = 1 ∧ a.board = x) := by
      unfold evT at hx0
      by_cases h : i % 2 = 1
      · rw [if_pos h] at hx0; exact .inl ⟨by omega, hx0⟩
      · rw [if_neg h] at hx0; exact .inr ⟨by omega, hx0⟩
    have hyc : ((k : Int) % 2 = 1 ∧ b.alight = y) ∨ (¬ (k : Int) % 2 = 1 ∧ b.board = y) := by
      unfold evT at hy0
      by_cases h : k % 2 = 1
      · rw [if_pos h] at hy0; exact .inl ⟨by omega, hy0⟩
      · rw [if_neg h] at hy0; exact .inr ⟨by omega, hy0⟩
    obtain ⟨d, hd⟩ : ∃ d, x - y = d := ⟨_, rfl⟩
    have hx5 : -1073741824 ≤ x ∧ x ≤ 1073741824 := by omega
    have hy5 : -1073741824 ≤ y ∧ y ≤ 1073741824 := by omega
    clear hbi hx0 hy0 hq
    by_cases mn : m = n
    · subst mn
      obtain rfl : a = b := ha.symm.trans hb
      rw [decide_eq_true rfl, Bool.true_or, Bool.true_and] at hbd
      rcases hxc with ⟨ci, hx⟩ | ⟨ci, hx⟩ <;> rcases hyc with ⟨ck, hy⟩ | ⟨ck, hy⟩
      · omega
      · by_cases cd : d < 0
        · rw [show max (x - y) (y - x) = -d by omega] at hbd
          cases pv with
          | true =>
            simp -implicitDefEqProofs (disch := first | omega | assumption) [hlt, hml, hmi, hni, ha, ci, hx, ck, hy, hd, cd, hbd.symm]
            exact bad rfl
          | false =>
            simp -implicitDefEqProofs (disch := first | omega | assumption) [hlt, hml, hmi, hni, ha, ci, hx, ck, hy, hd, cd, hbd.symm]
            exact good rfl
        · rw [show max (x - y) (y - x) = d by omega] at hbd
          cases pv with
          | true =>
            simp -implicitDefEqProofs (disch := first | omega | assumption) [hlt, hml, hmi, hni, ha, ci, hx, ck, hy, hd, cd, hbd.symm]
            exact bad rfl
          | false =>
            simp -implicitDefEqProofs (disch := first | omega | assumption) [hlt, hml, hmi, hni, ha, ci, hx, ck, hy, hd, cd, hbd.symm]
            exact good rfl
      · omega
      · omega
    · rw [decide_eq_false mn, Bool.false_or] at hbd
      simp only [← Bool.and_assoc] at hbd
      rcases hxc with ⟨ci, hx⟩ | ⟨ci, hx⟩ <;> rcases hyc with ⟨ck, hy⟩ | ⟨ck, hy⟩ <;> by_cases cd : d < 0
      · rw [show max (x - y) (y - x) = -d by omega] at hbd
        cases pv with
        | true =>
          simp -implicitDefEqProofs (disch := first | omega | assumption) [hlt, hml, hnl, hmi, hni, ha, hb, mn, ci, hx, ck, hy, hd, cd, hbd.symm]
          exact bad rfl
        | false =>
          simp -implicitDefEqProofs (disch := first | omega | assumption) [hlt, hml, hnl, hmi, hni, ha, hb, mn, ci, hx, ck, hy, hd, cd, hbd.symm]
          exact good rfl
      · rw [show max (x - y) (y - x) = d by omega] at hbd
        cases pv with
        | true =>
          simp -implicitDefEqProofs (disch := first | omega | assumption) [hlt, hml, hnl, hmi, hni, ha, hb, mn, ci, hx, ck, hy, hd, cd, hbd.symm]
          exact bad rfl
        | false =>
          simp -implicitDefEqProofs (disch := first | omega | assumption) [hlt, hml, hnl, hmi, hni, ha, hb, mn, ci, hx, ck, hy, hd, cd, hbd.symm]
          exact good rfl
      · rw [show max (x - y) (y - x) = -d by omega] at hbd
        cases pv with
        | true =>
          simp -implicitDefEqProofs (disch := first | omega | assumption) [hlt, hml, hnl, hmi, hni, ha, hb, mn, ci, hx, ck, hy, hd, cd, hbd.symm]
          exact bad rfl
        | false =>
          simp -implicitDefEqProofs (disch := first | omega | assumption) [hlt, hml, hnl, hmi, hni, ha, hb, mn, ci, hx, ck, hy, hd, cd, hbd.symm]
          exact good rfl
      · rw [show max (x - y) (y - x) = d by omega] at hbd
        cases pv with
        | true =>
          simp -implicitDefEqProofs (disch := first | omega | assumption) [hlt, hml, hnl, hmi, hni, ha, hb, mn, ci, hx, ck, hy, hd, cd, hbd.symm]
          exact bad rfl
        | false =>
          simp -implicitDefEqProofs (disch := first | omega | assumption) [hlt, hml, hnl, hmi, hni, ha, hb, mn, ci, hx, ck, hy, hd, cd, hbd.symm]
          exact good rfl
      · rw [show max (x - y) (y - x) = -d by omega] at hbd
        cases pv with
        | true =>
          simp -implicitDefEqProofs (disch := first | omega | assumption) [hlt, hml, hnl, hmi, hni, ha, hb, mn, ci, hx, ck, hy, hd, cd, hbd.symm]
          exact bad rfl
        | false =>
          simp -implicitDefEqProofs (disch := first | omega | assumption) [hlt, hml, hnl, hmi, hni, ha, hb, mn, ci, hx, ck, hy, hd, cd, hbd.symm]
          exact good rfl
      · rw [show max (x - y) (y - x) = d by omega] at hbd
        cases pv with
        | true =>
          simp -implicitDefEqProofs (disch := first | omega | assumption) [hlt, hml, hnl, hmi, hni, ha, hb, mn, ci, hx, ck, hy, hd, cd, hbd.symm]
          exact bad rfl
        | false =>
          simp -implicitDefEqProofs (disch := first | omega | assumption) [hlt, hml, hnl, hmi, hni, ha, hb, mn, ci, hx, ck, hy, hd, cd, hbd.symm]
          exact good rfl
      · rw [show max (x - y) (y - x) = -d by omega] at hbd
        cases pv with
        | true =>
          simp -implicitDefEqProofs (disch := first | omega | assumption) [hlt, hml, hnl, hmi, hni, ha, hb, mn, ci, hx, ck, hy, hd, cd, hbd.symm]
          exact bad rfl
        | false =>
          simp -implicitDefEqProofs (disch := first | omega | assumption) [hlt, hml, hnl, hmi, hni, ha, hb, mn, ci, hx, ck, hy, hd, cd, hbd.symm]
          exact good rfl
      · rw [show max (x - y) (y - x) = d by omega] at hbd
        cases pv with
        | true =>
          simp -implicitDefEqProofs (disch := first | omega | assumption) [hlt, hml, hnl, hmi, hni, ha, hb, mn, ci, hx, ck, hy, hd, cd, hbd.symm]
          exact bad rfl
        | false =>
          simp -implicitDefEqProofs (disch := first | omega | assumption) [hlt, hml, hnl, hmi, hni, ha, hb, mn, ci, hx, ck, hy, hd, cd, hbd.symm]
          exact good rfl
  · obtain rfl : k = i := by omega
    simp -implicitDefEqProofs (disch := first | omega | assumption)
    exact hq
end Go.Am
