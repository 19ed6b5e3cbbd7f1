/- Law 48: the walks of how many ride. -/
import Derived.Test.YtmepibdbnbmapaaAxC
set_option linter.unusedVariables false
set_option linter.unusedSimpArgs false
set_option maxRecDepth 10000
set_option maxHeartbeats 4000000
namespace Go.Am
def numD (z : Int) : List D := [.int .i64 z]
/-- Does one ride in a car behind a tick? -/
def in1 (car tick : Int) (t : Trip) : Bool := decide (t.car = car) && decide (0 ≤ t.board) && decide (t.board ≤ tick) && (decide (t.alight < 0) || decide (tick < t.alight))
def loadL (ts : List Trip) (car tick : Int) : List Int := (ts.filter (in1 car tick)).map Trip.id
theorem loadL_snoc (ts : List Trip) (car tick : Int) (k : Nat) (h : k < ts.length) : loadL (ts.take (k + 1)) car tick = loadL (ts.take k) car tick ++ if in1 car tick ts[k] = true then [ts[k].id] else [] := by
  rw [List.take_succ_eq_append_getElem h]
  unfold loadL
  rw [List.filter_append, List.map_append]
  congr 1
  cases hb : in1 car tick ts[k] <;> simp [hb]
theorem loadL_le (ts : List Trip) (car tick : Int) : (loadL ts car tick).length ≤ ts.length := by
  unfold loadL; rw [List.length_map]; exact List.length_filter_le _ _
def LoadC (g : List AV → Option (List AV)) : Prop := ∀ (ts : List Trip) (car tick : Int), ts.length ≤ 60 → g [vT ts, i64 car, i64 tick] = some [.c (.vs 1 ((loadL ts car tick).map numD))]
theorem trip_Load_run (Γ : Env) (M : Nat) (hM : 100 < M) : LoadC (run Γ M trip_Load_f) := by
  intro ts car tick hl
  obtain ⟨ax, s', ⟨rfl, rfl⟩, hin⟩ : ∃ ax s', (ax = .ex 0 ∧ s' = ⟨[(7, .sl 7 (loadL ts car tick).length 0 (loadL ts car tick).length)], [(7, ⟨1, (loadL ts car tick).map (toAV ∘ numD)⟩)]⟩) ∧ ∀ s0, nrm [1, 2, 7, 10, 11, 12] [7, 46] s0 = ⟨[(1, i64 car), (2, i64 tick), (7, .sl 7 (loadL (ts.take 0) car tick).length 0 (loadL (ts.take 0) car tick).length), (10, vT ts), (11, i64 ts.length), (12, i64 (0 : Nat))], [(7, ⟨1, (loadL (ts.take 0) car tick).map (toAV ∘ numD)⟩)]⟩ → lp (exec Γ M trip_Load_l1) M s0 = some (ax, s') := by
    refine lp_all (fun q : Nat => ⟨[(1, i64 car), (2, i64 tick), (7, .sl 7 (loadL (ts.take q) car tick).length 0 (loadL (ts.take q) car tick).length), (10, vT ts), (11, i64 ts.length), (12, i64 q)], [(7, ⟨1, (loadL (ts.take q) car tick).map (toAV ∘ numD)⟩)]⟩) (fun q => q ≤ ts.length) (fun q => ts.length - q) _ 0 M (by simp) (by omega) (by omega) ?_
    intro k hk
    by_cases hlt : k < ts.length
    · obtain ⟨t, ht⟩ : ∃ t, ts[k]'hlt = t := ⟨_, rfl⟩
      have hs := loadL_snoc ts car tick k hlt
      rw [ht] at hs
      have hle := loadL_le (ts.take k) car tick
      rw [List.length_take] at hle
      have hrl : ((loadL (ts.take k) car tick).map (toAV ∘ numD)).length = (loadL (ts.take k) car tick).length := List.length_map _
      have hrc := lcRows_comp 7 numD (loadL (ts.take k) car tick)
      have hrn := nmRows_comp 9 numD (loadL (ts.take k) car tick)
      generalize hG : loadL (ts.take k) car tick = G at *
      have outF : in1 car tick t = false → ∃ q', ((G.length = (loadL (ts.take q') car tick).length ∧ (k : Int) + 1 = q') ∧ G.map (toAV ∘ numD) = (loadL (ts.take q') car tick).map (toAV ∘ numD)) ∧ q' ≤ ts.length ∧ ts.length - q' < ts.length - k := fun h => ⟨k + 1, ⟨⟨by rw [hs, h]; simp, by omega⟩, by rw [hs, h]; simp⟩, by omega, by omega⟩
      have inF : in1 car tick t = true → ∃ q', ((G.length + 1 = (loadL (ts.take q') car tick).length ∧ (k : Int) + 1 = q') ∧ G.map (toAV ∘ numD) ++ [[AV.c (D.int IntKind.i64 t.id)]] = (loadL (ts.take q') car tick).map (toAV ∘ numD)) ∧ q' ≤ ts.length ∧ ts.length - q' < ts.length - k := fun h => ⟨k + 1, ⟨⟨by rw [hs, h]; simp, by omega⟩, by rw [hs, h]; simp [numD, toAV]⟩, by omega, by omega⟩
      by_cases a1 : t.car = car
      case neg =>
        simp -implicitDefEqProofs (disch := first | omega | assumption) [hlt, ht, hrl, hrc, hrn, a1]
        exact outF (by simp [in1, a1])
      by_cases a2 : 0 ≤ t.board
      case neg =>
        simp -implicitDefEqProofs (disch := first | omega | assumption) [hlt, ht, hrl, hrc, hrn, a1, a2]
        exact outF (by simp [in1, a2])
      by_cases a3 : t.board ≤ tick
      case neg =>
        simp -implicitDefEqProofs (disch := first | omega | assumption) [hlt, ht, hrl, hrc, hrn, a1, a2, a3]
        exact outF (by simp [in1, a3])
      by_cases a4 : t.alight < 0
      · simp -implicitDefEqProofs (disch := first | omega | assumption) [hlt, ht, hrl, hrc, hrn, a1, a2, a3, a4]
        exact inF (by simp [in1, a1, a2, a3, a4])
      by_cases a5 : tick < t.alight
      · simp -implicitDefEqProofs (disch := first | omega | assumption) [hlt, ht, hrl, hrc, hrn, a1, a2, a3, a4, a5]
        exact inF (by simp [in1, a1, a2, a3, a5])
      · simp -implicitDefEqProofs (disch := first | omega | assumption) [hlt, ht, hrl, hrc, hrn, a1, a2, a3, a4, a5]
        exact outF (by simp [in1, a4, a5])
    · obtain rfl : k = ts.length := by omega
      rw [List.take_length]
      simp -implicitDefEqProofs (disch := first | omega | assumption)
  have hlp := hin ⟨[(1, i64 car), (2, i64 tick), (7, .sl 7 0 0 0), (10, vT ts), (11, i64 ts.length), (12, i64 (0 : Nat))], [(7, ⟨1, []⟩)]⟩ (by simp [loadL])
  simp at hlp
  have ha := allRows_comp numD (loadL ts car tick)
  have hle := loadL_le ts car tick
  have hrl : ((loadL ts car tick).map (toAV ∘ numD)).length = (loadL ts car tick).length := List.length_map _
  have hF2 : ((loadL ts car tick).map numD).take (loadL ts car tick).length = (loadL ts car tick).map numD := by rw [List.take_of_length_le]; rw [List.length_map]; omega
  generalize (loadL ts car tick).map (toAV ∘ numD) = G at *
  generalize (loadL ts car tick).map numD = K at *
  generalize (loadL ts car tick).length = N at *
  simp -implicitDefEqProofs (disch := first | omega | (simp <;> fail) | assumption) [hlp, ha, hF2, hrl]
theorem ref24_Load_run (Γ : Env) (M : Nat) (hM : 100 < M) : LoadC (run Γ M ref24_Load_f) := by
  intro ts car tick hl
  obtain ⟨ax, s', ⟨rfl, rfl⟩, hin⟩ : ∃ ax s', (ax = .ex 0 ∧ s' = ⟨[(7, .sl 7 (loadL ts car tick).length 0 (loadL ts car tick).length)], [(7, ⟨1, (loadL ts car tick).map (toAV ∘ numD)⟩)]⟩) ∧ ∀ s0, nrm [0, 1, 2, 7, 8] [7, 55] s0 = ⟨[(0, vT ts), (1, i64 car), (2, i64 tick), (7, .sl 7 (loadL (ts.take 0) car tick).length 0 (loadL (ts.take 0) car tick).length), (8, i64 (0 : Nat))], [(7, ⟨1, (loadL (ts.take 0) car tick).map (toAV ∘ numD)⟩)]⟩ → lp (exec Γ M ref24_Load_l1) M s0 = some (ax, s') := by
    refine lp_all (fun q : Nat => ⟨[(0, vT ts), (1, i64 car), (2, i64 tick), (7, .sl 7 (loadL (ts.take q) car tick).length 0 (loadL (ts.take q) car tick).length), (8, i64 q)], [(7, ⟨1, (loadL (ts.take q) car tick).map (toAV ∘ numD)⟩)]⟩) (fun q => q ≤ ts.length) (fun q => ts.length - q) _ 0 M (by simp) (by omega) (by omega) ?_
    intro k hk
    by_cases hlt : k < ts.length
    · obtain ⟨t, ht⟩ : ∃ t, ts[k]'hlt = t := ⟨_, rfl⟩
      have hs := loadL_snoc ts car tick k hlt
      rw [ht] at hs
      have hle := loadL_le (ts.take k) car tick
      rw [List.length_take] at hle
      have hrl : ((loadL (ts.take k) car tick).map (toAV ∘ numD)).length = (loadL (ts.take k) car tick).length := List.length_map _
      have hrc := lcRows_comp 7 numD (loadL (ts.take k) car tick)
      have hrn := nmRows_comp 9 numD (loadL (ts.take k) car tick)
      generalize hG : loadL (ts.take k) car tick = G at *
      have outF : in1 car tick t = false → ∃ q', ((G.length = (loadL (ts.take q') car tick).length ∧ (k : Int) + 1 = q') ∧ G.map (toAV ∘ numD) = (loadL (ts.take q') car tick).map (toAV ∘ numD)) ∧ q' ≤ ts.length ∧ ts.length - q' < ts.length - k := fun h => ⟨k + 1, ⟨⟨by rw [hs, h]; simp, by omega⟩, by rw [hs, h]; simp⟩, by omega, by omega⟩
      have inF : in1 car tick t = true → ∃ q', ((G.length + 1 = (loadL (ts.take q') car tick).length ∧ (k : Int) + 1 = q') ∧ G.map (toAV ∘ numD) ++ [[AV.c (D.int IntKind.i64 t.id)]] = (loadL (ts.take q') car tick).map (toAV ∘ numD)) ∧ q' ≤ ts.length ∧ ts.length - q' < ts.length - k := fun h => ⟨k + 1, ⟨⟨by rw [hs, h]; simp, by omega⟩, by rw [hs, h]; simp [numD, toAV]⟩, by omega, by omega⟩
      by_cases a2 : 0 ≤ t.board
      case neg =>
        by_cases a6 : 0 ≤ t.alight <;> by_cases a7 : t.alight ≤ tick <;> by_cases a1 : t.car = car <;>
          (simp -implicitDefEqProofs (disch := first | omega | assumption) [hlt, ht, hrl, hrc, hrn, a1, a2, a6, a7]
           exact outF (by simp [in1, a2]))
      by_cases a3 : t.board ≤ tick
      case neg =>
        by_cases a6 : 0 ≤ t.alight <;> by_cases a7 : t.alight ≤ tick <;> by_cases a1 : t.car = car <;>
          (simp -implicitDefEqProofs (disch := first | omega | assumption) [hlt, ht, hrl, hrc, hrn, a1, a2, a3, a6, a7]
           exact outF (by simp [in1, a3]))
      by_cases a1 : t.car = car
      case neg =>
        by_cases a6 : 0 ≤ t.alight <;> by_cases a7 : t.alight ≤ tick <;>
          (simp -implicitDefEqProofs (disch := first | omega | assumption) [hlt, ht, hrl, hrc, hrn, a1, a2, a3, a6, a7]
           first | exact outF (by simp [in1, a1]) | omega)
      by_cases a4 : t.alight < 0
      · have a6 : ¬ 0 ≤ t.alight := by omega
        simp -implicitDefEqProofs (disch := first | omega | assumption) [hlt, ht, hrl, hrc, hrn, a1, a2, a3, a6]
        exact inF (by simp [in1, a1, a2, a3, a4])
      by_cases a5 : tick < t.alight
      · have a6 : 0 ≤ t.alight := by omega
        have a7 : ¬ t.alight ≤ tick := by omega
        simp -implicitDefEqProofs (disch := first | omega | assumption) [hlt, ht, hrl, hrc, hrn, a1, a2, a3, a6, a7]
        exact inF (by simp [in1, a1, a2, a3, a5])
      · have a6 : 0 ≤ t.alight := by omega
        have a7 : t.alight ≤ tick := by omega
        simp -implicitDefEqProofs (disch := first | omega | assumption) [hlt, ht, hrl, hrc, hrn, a1, a2, a3, a6, a7]
        exact outF (by simp [in1, a4, a5])
    · obtain rfl : k = ts.length := by omega
      rw [List.take_length]
      simp -implicitDefEqProofs (disch := first | omega | assumption)
  have hlp := hin ⟨[(0, vT ts), (1, i64 car), (2, i64 tick), (7, .sl 7 0 0 0), (8, i64 (0 : Nat))], [(7, ⟨1, []⟩)]⟩ (by simp [loadL])
  simp at hlp
  have ha := allRows_comp numD (loadL ts car tick)
  have hle := loadL_le ts car tick
  have hrl : ((loadL ts car tick).map (toAV ∘ numD)).length = (loadL ts car tick).length := List.length_map _
  have hF2 : ((loadL ts car tick).map numD).take (loadL ts car tick).length = (loadL ts car tick).map numD := by rw [List.take_of_length_le]; rw [List.length_map]; omega
  generalize (loadL ts car tick).map (toAV ∘ numD) = G at *
  generalize (loadL ts car tick).map numD = K at *
  generalize (loadL ts car tick).length = N at *
  simp -implicitDefEqProofs (disch := first | omega | (simp <;> fail) | assumption) [hlp, ha, hF2, hrl]
def fits1 (s : Scn) (ts : List Trip) (t : Trip) : Bool := decide (t.board < 0) || decide (((loadL ts t.car t.board).length : Int) ≤ s.capacity)
def fitsB (s : Scn) (ts : List Trip) : Bool := ts.all (fits1 s ts)
def FitsC (g : List AV → Option (List AV)) : Prop := ∀ (s : Scn) (ts : List Trip), ts.length ≤ 60 → g [.agg s.cells, vT ts] = some [bo (fitsB s ts)]
theorem axiom_Fits_run (Γ : Env) (M : Nat) (hM : 200 < M) (h160 : LoadC (Γ 160)) : FitsC (run Γ M axiom_Fits_f) := by
  intro s ts hl
  obtain ⟨ax, s', (⟨rfl, rfl, hR⟩ | ⟨rfl, rfl, hR⟩), hin⟩ : ∃ ax s', ((ax = .ex 0 ∧ s' = ⟨[], []⟩ ∧ fitsB s ts = true) ∨ (ax = .ret ∧ s' = ⟨[(4, bo false)], []⟩ ∧ fitsB s ts = false)) ∧ ∀ s0, nrm [1, 2, 7, 8, 9] [2] s0 = ⟨[(1, vT ts), (2, .loc 2 0 0), (7, vT ts), (8, i64 ts.length), (9, i64 (0 : Nat))], [(2, rS48 s)]⟩ → lp (exec Γ M axiom_Fits_l1) M s0 = some (ax, s') := by
    refine lp_all (fun q : Nat => ⟨[(1, vT ts), (2, .loc 2 0 0), (7, vT ts), (8, i64 ts.length), (9, i64 q)], [(2, rS48 s)]⟩) (fun q => q ≤ ts.length ∧ (ts.drop q).all (fits1 s ts) = fitsB s ts) (fun q => ts.length - q) _ 0 M (by simp) ⟨by simp, rfl⟩ (by omega) ?_
    rintro k ⟨hk, hq⟩
    by_cases hlt : k < ts.length
    · obtain ⟨t, ht⟩ : ∃ t, ts[k]'hlt = t := ⟨_, rfl⟩
      rw [List.drop_eq_getElem_cons hlt, ht, List.all_cons] at hq
      have bad : fits1 s ts t = false → fitsB s ts = false := fun h => by rw [← hq, h]; rfl
      have good : fits1 s ts t = true → (ts.drop (k + 1)).all (fits1 s ts) = fitsB s ts := fun h => by rw [← hq, h]; rfl
      unfold fits1 at bad good
      have e := h160 ts t.car t.board hl
      have hll : ((loadL ts t.car t.board).map numD).length = (loadL ts t.car t.board).length := List.length_map _
      have hle := loadL_le ts t.car t.board
      generalize (loadL ts t.car t.board).map numD = K at *
      by_cases b0 : 0 ≤ t.board
      · have b1 : ¬ t.board < 0 := by omega
        by_cases c0 : s.capacity < ((loadL ts t.car t.board).length : Int)
        · have c1 : ¬ ((loadL ts t.car t.board).length : Int) ≤ s.capacity := by omega
          have hF := bad (by simp [b1, c1])
          simp -implicitDefEqProofs (disch := first | omega | assumption) [hlt, ht, e, hll, b0, c0, hF]
        · have c1 : ((loadL ts t.car t.board).length : Int) ≤ s.capacity := by omega
          have hG := good (by simp [c1])
          simp -implicitDefEqProofs (disch := first | omega | assumption) [hlt, ht, e, hll, b0, c0]
          exact ⟨k + 1, by omega, ⟨by omega, hG⟩, by omega⟩
      · have b1 : t.board < 0 := by omega
        have hG := good (by simp [b1])
        simp -implicitDefEqProofs (disch := first | omega | assumption) [hlt, ht, b0]
        exact ⟨k + 1, by omega, ⟨by omega, hG⟩, by omega⟩
    · obtain rfl : k = ts.length := by omega
      rw [List.drop_length, List.all_nil] at hq
      simp -implicitDefEqProofs (disch := first | omega | assumption) [hq.symm]
  all_goals
    have hlp := hin ⟨[(1, vT ts), (2, .loc 2 0 0), (7, vT ts), (8, i64 ts.length), (9, i64 (0 : Nat))], [(2, rS48 s)]⟩ (by simp)
    simp [rS48] at hlp
    rw [hR]
    simp -implicitDefEqProofs (disch := first | omega | (simp <;> fail) | assumption) [hlp]
theorem ref48_Fits_run (Γ : Env) (M : Nat) (hM : 200 < M) (h163 : LoadC (Γ 163)) : FitsC (run Γ M ref48_Fits_f) := by
  intro s ts hl
  obtain ⟨ax, s', (⟨rfl, rfl, hR⟩ | ⟨rfl, rfl, hR⟩), hin⟩ : ∃ ax s', ((ax = .ex 0 ∧ s' = ⟨[], []⟩ ∧ fitsB s ts = true) ∨ (ax = .ret ∧ s' = ⟨[(4, bo false)], []⟩ ∧ fitsB s ts = false)) ∧ ∀ s0, nrm [1, 2, 5] [2] s0 = ⟨[(1, vT ts), (2, .loc 2 0 0), (5, i64 (0 : Nat))], [(2, rS48 s)]⟩ → lp (exec Γ M ref48_Fits_l1) M s0 = some (ax, s') := by
    refine lp_all (fun q : Nat => ⟨[(1, vT ts), (2, .loc 2 0 0), (5, i64 q)], [(2, rS48 s)]⟩) (fun q => q ≤ ts.length ∧ (ts.drop q).all (fits1 s ts) = fitsB s ts) (fun q => ts.length - q) _ 0 M (by simp) ⟨by simp, rfl⟩ (by omega) ?_
    rintro k ⟨hk, hq⟩
    by_cases hlt : k < ts.length
    · obtain ⟨t, ht⟩ : ∃ t, ts[k]'hlt = t := ⟨_, rfl⟩
      rw [List.drop_eq_getElem_cons hlt, ht, List.all_cons] at hq
      have bad : fits1 s ts t = false → fitsB s ts = false := fun h => by rw [← hq, h]; rfl
      have good : fits1 s ts t = true → (ts.drop (k + 1)).all (fits1 s ts) = fitsB s ts := fun h => by rw [← hq, h]; rfl
      unfold fits1 at bad good
      have e := h163 ts t.car t.board hl
      have hll : ((loadL ts t.car t.board).map numD).length = (loadL ts t.car t.board).length := List.length_map _
      have hle := loadL_le ts t.car t.board
      generalize (loadL ts t.car t.board).map numD = K at *
      by_cases b0 : 0 ≤ t.board
      · have b1 : ¬ t.board < 0 := by omega
        by_cases c0 : s.capacity < ((loadL ts t.car t.board).length : Int)
        · have c1 : ¬ ((loadL ts t.car t.board).length : Int) ≤ s.capacity := by omega
          have hF := bad (by simp [b1, c1])
          simp -implicitDefEqProofs (disch := first | omega | assumption) [hlt, ht, e, hll, b0, c0, hF]
        · have c1 : ((loadL ts t.car t.board).length : Int) ≤ s.capacity := by omega
          have hG := good (by simp [c1])
          simp -implicitDefEqProofs (disch := first | omega | assumption) [hlt, ht, e, hll, b0, c0]
          exact ⟨k + 1, by omega, ⟨by omega, hG⟩, by omega⟩
      · have b1 : t.board < 0 := by omega
        have hG := good (by simp [b1])
        simp -implicitDefEqProofs (disch := first | omega | assumption) [hlt, ht, b0]
        exact ⟨k + 1, by omega, ⟨by omega, hG⟩, by omega⟩
    · obtain rfl : k = ts.length := by omega
      rw [List.drop_length, List.all_nil] at hq
      simp -implicitDefEqProofs (disch := first | omega | assumption) [hq.symm]
  all_goals
    have hlp := hin ⟨[(1, vT ts), (2, .loc 2 0 0), (5, i64 (0 : Nat))], [(2, rS48 s)]⟩ (by simp)
    simp [rS48] at hlp
    rw [hR]
    simp -implicitDefEqProofs (disch := first | omega | (simp <;> fail) | assumption) [hlp]
end Go.Am
