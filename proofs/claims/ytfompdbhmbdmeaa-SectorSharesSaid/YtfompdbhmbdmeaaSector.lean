/- Sectors: what the functions answer, and the law. -/
import Derived.Test.YtfompdbhmbdmeaaSectorCode
set_option linter.unusedVariables false
namespace Go.Am
abbrev i64 (n : Int) : AV := .c (.int .i64 n)
abbrev bo (b : Bool) : AV := .c (.bool b)
def secFirst (f c i : Int) : Int := (i * f + c - 1) / c
def secCar (f c i : Int) : Int := i * c / f
def InSec (f c : Int) : Prop := 1 ≤ f ∧ f ≤ 128 ∧ 1 ≤ c ∧ c ≤ 128

def Sector_first (g : List AV → Option (List AV)) : Prop := ∀ f c i, InSec f c → 0 ≤ i → i ≤ 128 → g [i64 f, i64 c, i64 i] = some [i64 (secFirst f c i)]
def Sector_Car (g : List AV → Option (List AV)) : Prop := ∀ f c i, InSec f c → 0 ≤ i → i ≤ 128 → g [i64 f, i64 c, i64 i] = some [i64 (secCar f c i)]
def Sector_Span (g : List AV → Option (List AV)) : Prop := ∀ f c i, InSec f c → 0 ≤ i → i ≤ 127 → g [i64 f, i64 c, i64 i] = some [i64 (secFirst f c i), i64 (secFirst f c (i + 1))]
def Sector_Home (g : List AV → Option (List AV)) : Prop := ∀ f c i, InSec f c → 0 ≤ i → i ≤ 127 → g [i64 f, i64 c, i64 i] = some [i64 (if f - 1 < secFirst f c i then f - 1 else secFirst f c i)]

theorem sector_first_run (Γ : Env) (M : Nat) : Sector_first (run Γ M sector_first_f) := by
  intro f c i h h5 h6
  obtain ⟨h1, h2, h3, h4⟩ := h
  have hm : 0 ≤ i * f := Int.mul_nonneg (by omega) (by omega)
  have hm2 : i * f ≤ 128 * 128 := Int.mul_le_mul h6 h2 (by omega) (by omega)
  have hd : 0 ≤ (i * f + c - 1) / c := Int.ediv_nonneg (by omega) (by omega)
  have hd2 : (i * f + c - 1) / c ≤ i * f + c - 1 := Int.ediv_le_self _ (by omega)
  have hc : c ≠ 0 := by omega
  simp (disch := omega) [sector_first_f, sector_first_c, sector_first_r0, sector_first_r1, wrapK_i64, tdivK_pos, secFirst, hc]
theorem sector_Car_run (Γ : Env) (M : Nat) : Sector_Car (run Γ M sector_Car_f) := by
  intro f c i h h5 h6
  obtain ⟨h1, h2, h3, h4⟩ := h
  have hm : 0 ≤ i * c := Int.mul_nonneg (by omega) (by omega)
  have hm2 : i * c ≤ 128 * 128 := Int.mul_le_mul h6 h4 (by omega) (by omega)
  have hd : 0 ≤ i * c / f := Int.ediv_nonneg (by omega) (by omega)
  have hd2 : i * c / f ≤ i * c := Int.ediv_le_self _ (by omega)
  have hf : f ≠ 0 := by omega
  simp (disch := omega) [sector_Car_f, sector_Car_c, sector_Car_r0, sector_Car_r1, wrapK_i64, tdivK_pos, secCar, hf]
theorem sector_Span_run {Γ : Env} {M : Nat} (h1 : Sector_first (Γ 49)) : Sector_Span (run Γ M sector_Span_f) := by
  intro f c i h h5 h6
  simp (disch := omega) [sector_Span_f, sector_Span_c, sector_Span_r0, sector_Span_r1, wrapK_i64, h1 f c i h h5 (by omega), h1 f c (i + 1) h (by omega) (by omega)]
theorem sector_Home_run {Γ : Env} {M : Nat} (h1 : Sector_first (Γ 49)) : Sector_Home (run Γ M sector_Home_f) := by
  intro f c i h h5 h6
  have h0 := h
  obtain ⟨h1, h2, h3, h4⟩ := h0
  simp (disch := omega) [sector_Home_f, sector_Home_c, sector_Home_r0, sector_Home_r1, wrapK_i64, ‹Sector_first _› f c i h h5 (by omega)]

theorem secFirst_mono (f c i : Int) (h1 : 1 ≤ f) (h3 : 1 ≤ c) : secFirst f c i ≤ secFirst f c (i + 1) := by
  unfold secFirst
  apply Int.ediv_le_ediv (by omega)
  have : (i + 1) * f = i * f + f := by rw [Int.add_mul]; omega
  omega
theorem secFirst_zero (f c : Int) (h3 : 1 ≤ c) : secFirst f c 0 = 0 := by
  unfold secFirst
  apply Int.ediv_eq_zero_of_lt <;> omega
theorem secFirst_end (f c : Int) (h3 : 1 ≤ c) : secFirst f c c = f := by
  unfold secFirst
  have : c * f + c - 1 = (c - 1) + f * c := by rw [Int.mul_comm]; omega
  rw [this, Int.add_mul_ediv_right _ _ (by omega), Int.ediv_eq_zero_of_lt (by omega) (by omega)]
  omega
theorem secFirst_le (f c i : Int) (h1 : 1 ≤ f) (h3 : 1 ≤ c) (h : i ≤ c) : secFirst f c i ≤ f := by
  have h2 := secFirst_end f c h3
  have : secFirst f c i ≤ secFirst f c c := by
    unfold secFirst
    apply Int.ediv_le_ediv (by omega)
    have := Int.mul_le_mul_of_nonneg_right h (show 0 ≤ f by omega)
    omega
  omega
theorem secFirst_nonneg (f c i : Int) (h1 : 1 ≤ f) (h3 : 1 ≤ c) (h : 0 ≤ i) : 0 ≤ secFirst f c i := by
  unfold secFirst
  have := Int.mul_nonneg h (show 0 ≤ f by omega)
  exact Int.ediv_nonneg (by omega) (by omega)
theorem secCar_of (f c i j : Int) (h1 : 1 ≤ f) (h3 : 1 ≤ c) (ha : secFirst f c i ≤ j) (hb : j < secFirst f c (i + 1)) : secCar f c j = i := by
  unfold secFirst at ha hb
  unfold secCar
  have e1 : i * f ≤ j * c := by
    have := Int.lt_mul_of_ediv_lt (show 0 < c by omega) (show (i * f + c - 1) / c < j + 1 by omega)
    rw [Int.add_mul] at this
    omega
  have e2 : j * c < (i + 1) * f := by
    have := Int.mul_le_of_le_ediv (show 0 < c by omega) (show j + 1 ≤ ((i + 1) * f + c - 1) / c by omega)
    rw [Int.add_mul] at this
    omega
  apply Int.le_antisymm
  · have := Int.ediv_lt_of_lt_mul (show 0 < f by omega) e2
    omega
  · exact Int.le_ediv_of_mul_le (by omega) e1

def Law33_alive (g : List AV → Option (List AV)) : Prop := g [] = some [bo true]
theorem law33_alive_run {Γ : Env} {M : Nat} (h1 : Sector_Car (Γ 2)) (h2 : Sector_Span (Γ 4)) : Law33_alive (run Γ M law33_alive_f) := by
  have e1 := h2 10 3 1 (by unfold InSec; omega) (by omega) (by omega)
  have e2 := h1 10 3 6 (by unfold InSec; omega) (by omega) (by omega)
  simp [secFirst, secCar] at e1 e2
  simp [Law33_alive, law33_alive_f, law33_alive_c, law33_alive_r0, law33_alive_r1, law33_alive_r2, e1, e2]

/-- The inner loop: the floors of a car. -/
theorem sector_inner {Γ : Env} {N : Nat} {f c k : Int} (h : InSec f c) (hk : 0 ≤ k) (hkc : k < c) (hC : Sector_Car (Γ 2)) {M : Nat} (hM : 1000 ≤ M) {s : St}
    (hs : nrm [0, 1, 6, 8, 9] [] s = ⟨[(0, i64 f), (1, i64 c), (6, i64 k), (8, i64 (secFirst f c (k + 1))), (9, i64 (secFirst f c k))], []⟩) :
    ∃ ax s', lp (exec Γ N law33_SectorShares_l1) M s = some (ax, s') ∧ ax = .ex 2 ∧ s' = ⟨[(0, i64 f), (1, i64 c), (6, i64 k), (8, i64 (secFirst f c (k + 1)))], []⟩ := by
  obtain ⟨h1, h2, h3, h4⟩ := id h
  have hle := secFirst_le f c (k + 1) h1 h3 (by omega)
  have hnn := secFirst_nonneg f c k h1 h3 (by omega)
  have hm := secFirst_mono f c k h1 h3
  refine lp_keep (fun q => ⟨[(0, i64 f), (1, i64 c), (6, i64 k), (8, i64 (secFirst f c (k + 1))), (9, i64 q)], []⟩) (fun q => secFirst f c k ≤ q ∧ q ≤ secFirst f c (k + 1)) (fun q => (secFirst f c (k + 1) - q).toNat)
    (fun ax s' => ax = .ex 2 ∧ s' = ⟨[(0, i64 f), (1, i64 c), (6, i64 k), (8, i64 (secFirst f c (k + 1)))], []⟩) ?_ (secFirst f c k) M s ⟨by omega, hm⟩ hs (by omega)
  rintro q ⟨hq1, hq2⟩
  by_cases hq : q < secFirst f c (k + 1)
  · have hcar := secCar_of f c k q h1 h3 hq1 hq
    have e := hC f c q h (by omega) (by omega)
    have hy : 0 ≤ q * c := Int.mul_nonneg (by omega) (by omega)
    have hy2 : q * c ≤ 128 * 128 := Int.mul_le_mul (by omega) h4 (by omega) (by omega)
    have hcar' : q * c / f = k := hcar
    have hf : f ≠ 0 := by omega
    rw [hcar] at e
    simp (disch := omega) [law33_SectorShares_l1b, law33_SectorShares_r11, law33_SectorShares_r12, law33_SectorShares_r13, wrapK_i64, tdivK_pos, hq, e, hcar', hf, LPost, nrm]
    omega
  · obtain rfl : q = secFirst f c (k + 1) := by omega
    simp [law33_SectorShares_l1b, law33_SectorShares_r11, LPost]
theorem sector_outer {Γ : Env} {f c : Int} (h : InSec f c) (hC : Sector_Car (Γ 2)) (hH : Sector_Home (Γ 3)) (hS : Sector_Span (Γ 4)) {N M : Nat} (hN : 1000 ≤ N) (hM : 1000 ≤ M) {s : St}
    (hs : nrm [0, 1, 5, 6] [] s = ⟨[(0, i64 f), (1, i64 c), (5, i64 0), (6, i64 0)], []⟩) :
    ∃ ax s', lp (exec Γ N law33_SectorShares_l2) M s = some (ax, s') ∧ ax = .ex 0 ∧ s' = ⟨[(0, i64 f), (5, i64 f)], []⟩ := by
  obtain ⟨h1, h2, h3, h4⟩ := id h
  refine lp_keep (fun k => ⟨[(0, i64 f), (1, i64 c), (5, i64 (secFirst f c k)), (6, i64 k)], []⟩) (fun k => 0 ≤ k ∧ k ≤ c) (fun k => (c - k).toNat)
    (fun ax s' => ax = .ex 0 ∧ s' = ⟨[(0, i64 f), (5, i64 f)], []⟩) ?_ 0 M s ⟨by omega, by omega⟩ (by rw [hs, secFirst_zero f c h3]) (by omega)
  rintro k ⟨hk0, hkc⟩
  by_cases hk : k < c
  · have hle := secFirst_le f c (k + 1) h1 h3 (by omega)
    have hnn := secFirst_nonneg f c k h1 h3 (by omega)
    have hm := secFirst_mono f c k h1 h3
    have hin : ∀ s, nrm [0, 1, 6, 8, 9] [] s = ⟨[(0, i64 f), (1, i64 c), (6, i64 k), (8, i64 (secFirst f c (k + 1))), (9, i64 (secFirst f c k))], []⟩ →
        lp (exec Γ N law33_SectorShares_l1) N s = some (.ex 2, ⟨[(0, i64 f), (1, i64 c), (6, i64 k), (8, i64 (secFirst f c (k + 1)))], []⟩) := fun s hs => by
      obtain ⟨ax, s', h1, rfl, rfl⟩ := sector_inner h hk0 hk hC hN hs
      exact h1
    have eS := hS f c k h hk0 (by omega)
    have eH := hH f c k h hk0 (by omega)
    have hd : (k * f + c - 1) / c = secFirst f c k := rfl
    have hx : 0 ≤ k * f := Int.mul_nonneg (by omega) (by omega)
    have hx2 : k * f ≤ 128 * 128 := Int.mul_le_mul (by omega) h2 (by omega) (by omega)
    have hc : c ≠ 0 := by omega
    have q1 : ¬ secFirst f c (k + 1) < secFirst f c k := by omega
    have q2 : ¬ f < secFirst f c (k + 1) := by omega
    by_cases hmin : f - 1 < secFirst f c k
    all_goals
      simp (disch := first | omega | (simp [nrm]; done)) [law33_SectorShares_l2b, law33_SectorShares_r5, law33_SectorShares_r6, law33_SectorShares_r7, law33_SectorShares_r8, law33_SectorShares_r9, law33_SectorShares_r10, law33_SectorShares_r15, wrapK_i64, tdivK_pos, hk, eS, eH, hd, hc, q1, q2, hmin, hin, LPost, nrm]
      exact ⟨k + 1, ⟨rfl, rfl⟩, by omega, by omega⟩
  · obtain rfl : k = c := by omega
    have he := secFirst_end f k h3
    simp [law33_SectorShares_l2b, law33_SectorShares_r5, LPost, he]

def Law33 (g : List AV → Option (List AV)) : Prop := ∀ f c : Int, g [i64 f, i64 c] = some [bo true]
theorem law33_SectorShares_run {Γ : Env} {M : Nat} (hM : 1000 ≤ M) (hA : Law33_alive (Γ 1)) (hC : Sector_Car (Γ 2)) (hH : Sector_Home (Γ 3)) (hS : Sector_Span (Γ 4)) : Law33 (run Γ M law33_SectorShares_f) := by
  intro f c
  by_cases h1 : f < 1
  · simp [law33_SectorShares_f, law33_SectorShares_c, law33_SectorShares_r0, law33_SectorShares_r1, law33_SectorShares_r2, h1]
  by_cases h2 : 128 < f
  · simp [law33_SectorShares_f, law33_SectorShares_c, law33_SectorShares_r0, law33_SectorShares_r1, law33_SectorShares_r2, h1, h2]
  by_cases h3 : c < 1
  · simp [law33_SectorShares_f, law33_SectorShares_c, law33_SectorShares_r0, law33_SectorShares_r1, law33_SectorShares_r2, h1, h2, h3]
  by_cases h4 : 128 < c
  · simp [law33_SectorShares_f, law33_SectorShares_c, law33_SectorShares_r0, law33_SectorShares_r1, law33_SectorShares_r2, h1, h2, h3, h4]
  have h : InSec f c := ⟨by omega, by omega, by omega, by omega⟩
  have hout : ∀ s, nrm [0, 1, 5, 6] [] s = ⟨[(0, i64 f), (1, i64 c), (5, i64 0), (6, i64 0)], []⟩ → lp (exec Γ M law33_SectorShares_l2) M s = some (.ex 0, ⟨[(0, i64 f), (5, i64 f)], []⟩) := fun s hs => by
    obtain ⟨ax, s', h1, rfl, rfl⟩ := sector_outer h hC hH hS hM hM hs
    exact h1
  simp (disch := first | omega | (simp [nrm]; done)) [law33_SectorShares_f, law33_SectorShares_c, law33_SectorShares_r0, law33_SectorShares_r1, law33_SectorShares_r3, law33_SectorShares_r4, law33_SectorShares_r16, h1, h2, h3, h4, hout, show Γ 1 [] = some [bo true] from hA]

/-- The functions of the law. -/
def sectorTab : Tab := [(1, law33_alive_f, 0), (2, sector_Car_f, 3), (3, sector_Home_f, 3), (4, sector_Span_f, 3), (49, sector_first_f, 3), (0, law33_SectorShares_f, 2)]
def noEnv : Env := fun _ _ => none
theorem sector_law : Law33 (env sectorTab noEnv 1000 4 0) := by
  have a (n : Nat) : Sector_first (env sectorTab noEnv 1000 (n + 1) 49) := fun f c i => by rw [env_run rfl rfl]; exact sector_first_run _ _ f c i
  have b (n : Nat) : Sector_Car (env sectorTab noEnv 1000 (n + 1) 2) := fun f c i => by rw [env_run rfl rfl]; exact sector_Car_run _ _ f c i
  have c (n : Nat) : Sector_Span (env sectorTab noEnv 1000 (n + 2) 4) := fun f c i => by rw [env_run rfl rfl]; exact sector_Span_run (a _) f c i
  have d (n : Nat) : Sector_Home (env sectorTab noEnv 1000 (n + 2) 3) := fun f c i => by rw [env_run rfl rfl]; exact sector_Home_run (a _) f c i
  have e (n : Nat) : Law33_alive (env sectorTab noEnv 1000 (n + 3) 1) := by unfold Law33_alive; rw [env_run rfl rfl]; exact law33_alive_run (b _) (c _)
  intro f g
  rw [env_run rfl rfl]
  exact law33_SectorShares_run (by omega) (e 0) (b _) (d _) (c _) f g
end Go.Am
