/- Law 48: the walk of the document's way, tick by tick; of where people got in and out. -/
import Derived.Test.YtmepibdbnbmapaaAxN
set_option linter.unusedVariables false
set_option linter.unusedSimpArgs false
set_option maxRecDepth 10000
set_option maxHeartbeats 4000000
namespace Go.Am
def Near (x : Int × Bool) : Prop := -1099511627776 ≤ x.1 ∧ x.1 ≤ 1099511627776
theorem tickV_near {l : List Leg} (hw : WayOk l) {t : Int} (ht : -1073741824 ≤ t ∧ t ≤ 1073741824) : Near (tickV l t) := by
  unfold tickV Near
  cases h : lastLe t none l with
  | none => simp
  | some g =>
    have hgm : g ∈ l := by
      have : ∀ (l : List Leg) (a : Option Leg), lastLe t a l = some g → a = some g ∨ g ∈ l := by
        intro l
        induction l with
        | nil => intro a h; exact .inl h
        | cons x r ih =>
          intro a h
          rw [lastLe] at h
          rcases ih _ h with h1 | h1
          · split at h1
            · simp only [Option.some.injEq] at h1; exact .inr (by simp [h1])
            · exact .inl h1
          · exact .inr (by simp [h1])
      rcases this l none h with h | h
      · simp at h
      · exact h
    have hb := at_bound hw ht hgm
    have h2 := (hw.ok g hgm).pos
    simp only [Leg.at]; omega
theorem allT_near {l : List Leg} (hw : WayOk l) {n : Nat} (hn : n ≤ 300) : ∀ x ∈ allT l 0 n, Near x := by
  intro x hx
  simp only [allT, List.mem_map, List.mem_range] at hx
  obtain ⟨j, hj, rfl⟩ := hx
  exact tickV_near hw (by omega)
def Way48C (g : List AV → Option (List AV)) : Prop := ∀ (s : Scn) (car : Int) (l : List Leg), Dom s → WayOk l → (0 ≤ car ∧ car < s.cars) → g [.agg s.cells, i64 car, vL l] = some [bo (wayR s (homeP s car) l)]
theorem ref48_Way_run (Γ : Env) (M : Nat) (hM : 400 < M) (h130 : Shape48C (Γ 130)) (h129 : NewC (Γ.pt 129)) (h128 : All25C (Γ 128)) : Way48C (run Γ M ref48_Way_f) := by
  intro s car l hd hw hc
  have e1 := h130 s l hd hw
  have hca := hd.ca
  have hfl := hd.fl
  have hho := hd.ho
  have hga := hd.ga
  obtain ⟨n, hn⟩ : ∃ n : Nat, s.cars = n := ⟨s.cars.toNat, by omega⟩
  obtain ⟨c, rfl⟩ : ∃ c : Nat, car = c := ⟨car.toNat, by omega⟩
  have e2 := h129 s c l n hd hn
  have n0 : ¬ n = 0 := by omega
  simp only [Scn.cells] at e1
  simp [scR, wR, n0, wGs] at e2
  unfold wayR
  cases hsh : (shapeGo s.horizon true l && decide (l ≠ [])) with
  | false =>
    rw [hsh] at e1
    simp -implicitDefEqProofs (disch := first | omega | (simp <;> fail) | assumption) [e1]
  | true =>
    rw [hsh] at e1
    rw [Bool.true_and]
    simp only [Bool.and_eq_true, decide_eq_true_eq] at hsh
    obtain ⟨hs1, hs2⟩ := hsh
    have hl0 := List.length_pos_iff.2 hs2
    have ht0 : (l[0]'hl0).tick = 0 := by
      cases l with
      | nil => exact (hs2 rfl).elim
      | cons g r => exact (shapeGo_cons.1 hs1).1 rfl
    have e3 := h128 l s.horizon hl0 hw ht0 (by omega)
    have hnear := allT_near hw (n := s.horizon.toNat) (by omega)
    have hal := allT_len l 0 s.horizon.toNat
    have hcg := carsR_get s n c (by omega)
    have hcl := carsR_len s n
    have hcn : c < n := by omega
    have hnm := carsR_nm s n 7
    have hnm1 := carsR_nm s n 10
    have hlc := carsR_lc s n 7
    have hfb := first_bound hd (car := c) (by omega)
    have hgb := gap_bound (n := homeP s c) hd.ga (by unfold homeP; omega)
    have htb := gap_bound (n := s.floors - 1) hd.ga (by omega)
    obtain ⟨hm, hhm⟩ : ∃ x, homeP s c * s.gap = x := ⟨_, rfl⟩
    have hcr : carR s c = [i64 hm, i64 0, i64 0, i64 0, bo false, .c (.vs 2 [])] := by rw [← hhm]; rfl
    rw [hcr] at hcg
    rw [hhm] at hgb ⊢
    have hcg2 := (List.getElem?_eq_some_iff.1 hcg).2
    generalize allT l 0 s.horizon.toNat = A at *
    have hAl : A.length ≤ 300 := by omega
    obtain ⟨ax, s', (⟨rfl, rfl, hR⟩ | ⟨rfl, rfl, hR⟩), hin⟩ : ∃ ax s', ((ax = .ex 0 ∧ s' = ⟨[], [(129008, wR s n), (1000240, ⟨6, carsR s n⟩)]⟩ ∧ chain s (hm, false) A = true) ∨ (ax = .ret ∧ s' = ⟨[(6, bo false)], [(129008, wR s n), (1000240, ⟨6, carsR s n⟩)]⟩ ∧ chain s (hm, false) A = false)) ∧ ∀ s0, nrmP [3, 7, 8, 9] 0 1000 [3, 7] s0 = ⟨[(3, .loc 3 0 0), (7, .loc 7 0 0), (8, .c (.vs 2 (A.map tkD))), (9, i64 (0 : Nat))], [(7, ⟨2, [[i64 hm, bo false]]⟩), (129008, wR s n), (1000240, ⟨6, carsR s n⟩), (3, scR s)]⟩ → lp (exec Γ M ref48_Way_l1) M s0 = some (ax, s') := by
      refine lp_allP (fun q : Nat × Int × Bool => ⟨[(3, .loc 3 0 0), (7, .loc 7 0 0), (8, .c (.vs 2 (A.map tkD))), (9, i64 q.1)], [(7, ⟨2, [[i64 q.2.1, bo q.2.2]]⟩), (129008, wR s n), (1000240, ⟨6, carsR s n⟩), (3, scR s)]⟩) (fun q => q.1 ≤ A.length ∧ Near (q.2.1, q.2.2) ∧ chain s (q.2.1, q.2.2) (A.drop q.1) = chain s (hm, false) A) (fun q => A.length - q.1) _ (0, hm, false) M ⟨by simp, by unfold Near; dsimp only; omega, by simp⟩ (by dsimp only; omega) ?_
      rintro ⟨k, p, d⟩ ⟨hk, hnr, hq⟩
      dsimp only at hk hnr hq ⊢
      simp only [Near] at hnr
      by_cases hlt : k < A.length
      · obtain ⟨x, hx⟩ : ∃ x, A[k]'hlt = x := ⟨_, rfl⟩
        have hxn := hnear x (by rw [← hx]; exact List.getElem_mem hlt)
        simp only [Near] at hxn
        have hdr : A.drop k = x :: A.drop (k + 1) := by rw [List.drop_eq_getElem_cons hlt, hx]
        rw [hdr] at hq
        simp only [chain, tickOk] at hq
        obtain ⟨xp, xd⟩ := x
        dsimp only at hxn hq
        obtain ⟨tp, htp⟩ : ∃ x, (s.floors - 1) * s.gap = x := ⟨_, rfl⟩
        rw [htp] at hq htb
        obtain ⟨df, hdf⟩ : ∃ x, xp - p = x := ⟨_, rfl⟩
        rw [hdf] at hq
        by_cases q1 : df < -1
        · have hF : chain s (hm, false) A = false := by rw [← hq]; simp [q1]
          simp -implicitDefEqProofs (disch := first | omega | assumption) [-Bool.exists_bool, wR, n0, hnm1, hlt, hx, tkD, hdf, q1, hF]
        by_cases q2 : 1 < df
        · have hF : chain s (hm, false) A = false := by rw [← hq]; simp [q2]
          simp -implicitDefEqProofs (disch := first | omega | assumption) [-Bool.exists_bool, wR, n0, hnm1, hlt, hx, tkD, hdf, q1, q2, hF]
        by_cases q3 : df = 0
        · by_cases q4 : xp < 0
          · have hF : chain s (hm, false) A = false := by rw [← hq]; simp [q4]
            simp -implicitDefEqProofs (disch := first | omega | assumption) [-Bool.exists_bool, wR, n0, hnm1, hlt, hx, tkD, hdf, q1, q2, q3, q4, hF]
          by_cases q5 : tp < xp
          · have hF : chain s (hm, false) A = false := by rw [← hq]; simp [q5]
            simp -implicitDefEqProofs (disch := first | omega | assumption) [-Bool.exists_bool, wR, n0, hnm1, hlt, hx, tkD, hdf, q1, q2, q3, q4, htp, q5, hF]
          cases xd with
          | false =>
            simp [q1, q2, q3, q4, q5] at hq
            simp -implicitDefEqProofs (disch := first | omega | assumption) [-Bool.exists_bool, wR, n0, hnm1, hlt, hx, tkD, hdf, q1, q2, q3, q4, htp, q5]
            exact ⟨k + 1, xp, _, ⟨by omega, rfl, rfl⟩, ⟨by omega, hxn, hq⟩, by omega⟩
          | true =>
            by_cases q6 : xp % s.gap = 0
            · simp [q1, q2, q3, q4, q5, q6] at hq
              simp -implicitDefEqProofs (disch := first | omega | assumption) [-Bool.exists_bool, wR, n0, hnm1, hlt, hx, tkD, hdf, q1, q2, q3, q4, htp, q5, q6]
              exact ⟨k + 1, xp, _, ⟨by omega, rfl, rfl⟩, ⟨by omega, hxn, hq⟩, by omega⟩
            · have hF : chain s (hm, false) A = false := by rw [← hq]; simp [q6]
              simp -implicitDefEqProofs (disch := first | omega | assumption) [-Bool.exists_bool, wR, n0, hnm1, hlt, hx, tkD, hdf, q1, q2, q3, q4, htp, q5, q6, hF]
        · cases hxd : (xd || d) with
          | true =>
            have hF : chain s (hm, false) A = false := by rw [← hq, hxd]; simp [q3]
            cases xd <;> cases d <;> simp at hxd <;>
              simp -implicitDefEqProofs (disch := first | omega | assumption) [-Bool.exists_bool, wR, n0, hnm1, hlt, hx, tkD, hdf, q1, q2, q3, hF]
          | false =>
            simp only [Bool.or_eq_false_iff] at hxd
            obtain ⟨rfl, rfl⟩ := hxd
            by_cases q4 : xp < 0
            · have hF : chain s (hm, false) A = false := by rw [← hq]; simp [q4]
              simp -implicitDefEqProofs (disch := first | omega | assumption) [-Bool.exists_bool, wR, n0, hnm1, hlt, hx, tkD, hdf, q1, q2, q3, q4, hF]
            by_cases q5 : tp < xp
            · have hF : chain s (hm, false) A = false := by rw [← hq]; simp [q5]
              simp -implicitDefEqProofs (disch := first | omega | assumption) [-Bool.exists_bool, wR, n0, hnm1, hlt, hx, tkD, hdf, q1, q2, q3, q4, htp, q5, hF]
            simp [q1, q2, q3, q4, q5] at hq
            simp -implicitDefEqProofs (disch := first | omega | assumption) [-Bool.exists_bool, wR, n0, hnm1, hlt, hx, tkD, hdf, q1, q2, q3, q4, htp, q5]
            exact ⟨k + 1, xp, _, ⟨by omega, rfl, rfl⟩, ⟨by omega, hxn, hq⟩, by omega⟩
      · obtain rfl : k = A.length := by omega
        rw [List.drop_length] at hq
        simp only [chain] at hq
        simp -implicitDefEqProofs (disch := first | omega | assumption) [wR, n0, hq.symm]
    · have hlp := hin ⟨[(3, .loc 3 0 0), (7, .loc 7 0 0), (8, .c (.vs 2 (A.map tkD))), (9, i64 (0 : Nat))], [(7, ⟨2, [[i64 hm, bo false]]⟩), (129008, wR s n), (1000240, ⟨6, carsR s n⟩), (3, scR s)]⟩ (by simp [nrmP])
      simp [scR, wR, n0] at hlp
      rw [hR]
      simp -implicitDefEqProofs (disch := first | omega | (simp <;> fail) | assumption) [e1, e2, e3, hcg, hcg2, hcl, hcn, hnm, hlc, hlp]
    · have hlp := hin ⟨[(3, .loc 3 0 0), (7, .loc 7 0 0), (8, .c (.vs 2 (A.map tkD))), (9, i64 (0 : Nat))], [(7, ⟨2, [[i64 hm, bo false]]⟩), (129008, wR s n), (1000240, ⟨6, carsR s n⟩), (3, scR s)]⟩ (by simp [nrmP])
      simp [scR, wR, n0] at hlp
      rw [hR]
      simp -implicitDefEqProofs (disch := first | omega | (simp <;> fail) | assumption) [e1, e2, e3, hcg, hcg2, hcl, hcn, hnm, hlc, hlp]
end Go.Am
