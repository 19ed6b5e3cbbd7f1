/- Law 48: the walk of the document's first world: where cars are at home. -/
import Derived.Test.YtmepibdbnbmapaaAxR
set_option linter.unusedVariables false
set_option linter.unusedSimpArgs false
set_option maxRecDepth 10000
set_option maxHeartbeats 4000000
namespace Go.Am
theorem first_lt {s : Scn} (hd : Dom s) (car h : Int) : h * s.cars < car * s.floors ↔ h < firstP s car := by
  have hc := hd.ca
  unfold firstP
  have h1 : h + 1 ≤ (car * s.floors + s.cars - 1) / s.cars ↔ (h + 1) * s.cars ≤ car * s.floors + s.cars - 1 := Int.le_ediv_iff_mul_le (by omega)
  rw [Int.add_mul, Int.one_mul] at h1
  constructor
  · intro h2; have := h1.2 (by omega); omega
  · intro h2; have := h1.1 (by omega); omega
/-- A car of the first world. -/
def carR (s : Scn) (i : Nat) : List AV := [i64 (homeP s i * s.gap), i64 0, i64 0, i64 0, bo false, .c (.vs 2 [])]
def carsR (s : Scn) (k : Nat) : Rows := (List.range k).map (carR s)
theorem carsR_len (s : Scn) (k : Nat) : (carsR s k).length = k := by simp [carsR]
theorem carsR_snoc (s : Scn) (k : Nat) : carsR s (k + 1) = carsR s k ++ [carR s k] := by simp [carsR, List.range_succ]
theorem carsR_get (s : Scn) (k i : Nat) (h : i < k) : (carsR s k)[i]? = some (carR s i) := by simp [carsR, h]
theorem carsR_lc (s : Scn) (k key : Nat) : lcRows key (carsR s k) = true := by
  unfold carsR
  generalize List.range k = l
  induction l with
  | nil => rfl
  | cons x l ih => simp [lcRows, carR, lcRow, ih]
theorem carsR_nm (s : Scn) (k key : Nat) : nmRows key (carsR s k) = true := by
  unfold carsR
  generalize List.range k = l
  induction l with
  | nil => rfl
  | cons x l ih => simp [nmRows, carR, nmRow, ih]
abbrev scR (s : Scn) : Obj := ⟨13, [s.cells.map AV.c]⟩
/-- The world that holds so many cars. -/
def wR (s : Scn) (k : Nat) : Obj := ⟨18, [s.cells.map AV.c ++ [.nil 4, .nil 3, if k = 0 then .nil 6 else .sl 1000240 k 0 k, .nil 7, i64 0]]⟩
def wOb (s : Scn) (k : Nat) : List (Nat × Obj) := if k = 0 then [(129008, wR s k), (129001, scR s), (3, scR s)] else [(129008, wR s k), (1000240, ⟨6, carsR s k⟩), (129001, scR s), (3, scR s)]
abbrev wGs (s : Scn) (car : Int) (l : List Leg) : List (Nat × AV) := [(100016, .agg s.cells), (100001, i64 car), (100002, vL l), (100003, .loc 3 0 0)]
theorem new_home (Γ : Env) (M : Nat) (hM : 3000 < M) (s : Scn) (hd : Dom s) (car : Int) (l : List Leg) (k : Nat) (hk : k < 16) (ob : List (Nat × Obj)) (h1 : get ob 129001 = some (scR s)) (hkf : keepF 129000 130000 [129001, 129008] ob = ob) :
    ∀ s0, nrmP [1, 3, 4, 5] 129000 130000 [129001, 129008] s0 = ⟨(1, .loc 129001 0 0) :: (3, .loc 129008 0 0) :: (4, i64 k) :: (5, i64 (0 : Nat)) :: wGs s car l, ob⟩ →
      lp (exec Γ M ref43_New_l1) M s0 = some (.ex 2, ⟨(1, .loc 129001 0 0) :: (3, .loc 129008 0 0) :: (4, i64 k) :: (5, i64 (firstP s k)) :: wGs s car l, ob⟩) := by
  have hfb := first_bound hd (car := k) (by omega)
  obtain ⟨f, hf⟩ : ∃ f : Nat, firstP s k = f := ⟨(firstP s k).toNat, by omega⟩
  have hfl := hd.fl
  have hca := hd.ca
  have hcb := car_bound hd (car := k) (by omega)
  obtain ⟨ax, s', ⟨rfl, rfl⟩, hin⟩ : ∃ ax s', (ax = .ex 2 ∧ s' = ⟨(1, .loc 129001 0 0) :: (3, .loc 129008 0 0) :: (4, i64 k) :: (5, i64 (firstP s k)) :: wGs s car l, ob⟩) ∧ ∀ s0, nrmP [1, 3, 4, 5] 129000 130000 [129001, 129008] s0 = ⟨(1, .loc 129001 0 0) :: (3, .loc 129008 0 0) :: (4, i64 k) :: (5, i64 (0 : Nat)) :: wGs s car l, ob⟩ → lp (exec Γ M ref43_New_l1) M s0 = some (ax, s') := by
    refine lp_allP (fun q : Nat => ⟨(1, .loc 129001 0 0) :: (3, .loc 129008 0 0) :: (4, i64 k) :: (5, i64 q) :: wGs s car l, ob⟩) (fun q => q ≤ f) (fun q => f - q) _ 0 M (by omega) (by omega) ?_
    intro h hh
    have hlt := first_lt hd k h
    rw [hf] at hlt
    have hmb : 0 ≤ (h : Int) * s.cars ∧ (h : Int) * s.cars ≤ 40000 := by
      refine ⟨Int.mul_nonneg (by omega) (by omega), ?_⟩
      have a1 := Int.mul_le_mul_of_nonneg_left (show s.cars ≤ 16 by omega) (show (0 : Int) ≤ h by omega)
      omega
    obtain ⟨hc, hhc⟩ : ∃ x, (h : Int) * s.cars = x := ⟨_, rfl⟩
    obtain ⟨kf, hkf2⟩ : ∃ x, (k : Int) * s.floors = x := ⟨_, rfl⟩
    rw [hhc] at hlt hmb
    rw [hkf2] at hlt hcb
    by_cases c : h < f
    · have c' := hlt.2 (by omega)
      simp -implicitDefEqProofs (disch := first | omega | assumption) [h1, hkf, hhc, hkf2, c']
      exact ⟨h + 1, by omega, by omega, by omega⟩
    · obtain rfl : h = f := by omega
      have c' : ¬ hc < kf := fun x => by have := hlt.1 x; omega
      simp -implicitDefEqProofs (disch := first | omega | assumption) [h1, hkf, hhc, hkf2, c', hf]
  exact hin
def NewC (g : St → Option (List AV × List (Nat × Obj))) : Prop := ∀ (s : Scn) (car : Int) (l : List Leg) (n : Nat), Dom s → s.cars = n → g ⟨(0, .agg s.cells) :: wGs s car l, [(3, scR s)]⟩ = some ([.loc 129008 0 0], [(129008, wR s n), (1000240, ⟨6, carsR s n⟩), (3, scR s)])
theorem ref43_New_run (Γ : Env) (M : Nat) (hM : 3000 < M) : NewC (runP Γ M ref43_New_f) := by
  intro s car l n hd hn
  have hca := hd.ca
  have hfl := hd.fl
  have hga := hd.ga
  obtain ⟨ax, s', ⟨rfl, rfl⟩, hin⟩ : ∃ ax s', (ax = .ex 0 ∧ s' = ⟨(3, .loc 129008 0 0) :: wGs s car l, [(129008, wR s n), (1000240, ⟨6, carsR s n⟩), (3, scR s)]⟩) ∧ ∀ s0, nrmP [1, 3, 4] 129000 130000 [129001, 129008] s0 = ⟨(1, .loc 129001 0 0) :: (3, .loc 129008 0 0) :: (4, i64 (0 : Nat)) :: wGs s car l, wOb s 0⟩ → lp (exec Γ M ref43_New_l2) M s0 = some (ax, s') := by
    refine lp_allP (fun q : Nat => ⟨(1, .loc 129001 0 0) :: (3, .loc 129008 0 0) :: (4, i64 q) :: wGs s car l, wOb s q⟩) (fun q => q ≤ n) (fun q => n - q) _ 0 M (by omega) (by omega) ?_
    intro k hk
    by_cases hlt : k < n
    · have hlp := new_home Γ M hM s hd car l k (by omega) (wOb s k)
      have hfb := first_bound hd (car := k) (by omega)
      have hgb := gap_bound (n := homeP s k) hd.ga (by unfold homeP; omega)
      have hhm : homeP s k = min (firstP s k) (s.floors - 1) := rfl
      have hcr : carR s k = [i64 (homeP s k * s.gap), i64 0, i64 0, i64 0, bo false, .c (.vs 2 [])] := rfl
      have hsn := carsR_snoc s k
      rw [hcr] at hsn
      have hcl := carsR_len s k
      have hc1 := carsR_lc s k 1000240
      generalize firstP s k = f at *
      have hlt' : (k : Int) < s.cars := by omega
      by_cases k0 : k = 0
      · subst k0
        have hlp := hlp (by simp [wOb]) (by simp [wOb])
        simp [wOb, wR] at hlp
        by_cases c : s.floors - 1 < f
        · have e : homeP s (0 : Nat) = s.floors - 1 := by omega
          rw [e] at hgb hsn
          simp -implicitDefEqProofs (disch := first | omega | (simp <;> fail) | assumption) [hlt, hlt', hlp, c, wOb, wR]
          refine ⟨1, ⟨by omega, ?_⟩, by omega, by omega⟩
          rw [if_neg (by omega), show carsR s 1 = _ from hsn]; simp [carsR]
        · have e : homeP s (0 : Nat) = f := by omega
          rw [e] at hgb hsn
          simp -implicitDefEqProofs (disch := first | omega | (simp <;> fail) | assumption) [hlt, hlt', hlp, c, wOb, wR]
          refine ⟨1, ⟨by omega, ?_⟩, by omega, by omega⟩
          rw [if_neg (by omega), show carsR s 1 = _ from hsn]; simp [carsR]
      · have hlp := hlp (by simp [wOb, k0]) (by simp [wOb, k0])
        simp [wOb, wR, k0] at hlp
        by_cases c : s.floors - 1 < f
        · have e : homeP s k = s.floors - 1 := by omega
          rw [e] at hgb hsn
          simp -implicitDefEqProofs (disch := first | omega | (simp <;> fail) | assumption) [hlt, hlt', hlp, c, wOb, wR, k0, hcl, hc1]
          refine ⟨k + 1, ⟨by omega, ?_⟩, by omega, by omega⟩
          rw [if_neg (by omega), hsn]; simp
        · have e : homeP s k = f := by omega
          rw [e] at hgb hsn
          simp -implicitDefEqProofs (disch := first | omega | (simp <;> fail) | assumption) [hlt, hlt', hlp, c, wOb, wR, k0, hcl, hc1]
          refine ⟨k + 1, ⟨by omega, ?_⟩, by omega, by omega⟩
          rw [if_neg (by omega), hsn]; simp
    · obtain rfl : k = n := by omega
      have k0 : ¬ k = 0 := by omega
      have hlt' : ¬ (k : Int) < s.cars := by omega
      simp -implicitDefEqProofs (disch := first | omega | assumption) [hlt', wOb, wR, k0]
  have hlp := hin ⟨(1, .loc 129001 0 0) :: (3, .loc 129008 0 0) :: (4, i64 (0 : Nat)) :: wGs s car l, wOb s 0⟩ (by simp [wOb, nrmP])
  simp [wOb, wR, scR] at hlp
  simp -implicitDefEqProofs (disch := first | omega | (simp <;> fail) | assumption) [scR, wR, hlp]
end Go.Am
