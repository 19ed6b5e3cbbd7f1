/- Law 48: AxiomChecks, over the functions together. -/
import Derived.Test.YtmepibdbnbmapaaAxJ
import Derived.Test.YtmepibdbnbmapaaAxL
set_option linter.unusedVariables false
set_option linter.unusedSimpArgs false
set_option maxRecDepth 10000
set_option maxHeartbeats 4000000
namespace Go.Am
def waysGo (s : Scn) : Nat → List (List Leg) → Bool
  | _, [] => true
  | i, w :: ws => wayR s (homeP s i) w && waysGo s (i + 1) ws
def checkN (s : Scn) (ps : List Psg) (l : Log) : Int :=
  if cameGo 0 ps l.trips = false then 1
  else if timelyB s l.trips = false then 2
  else if (l.legs.length : Int) ≠ s.cars then 3
  else if waysGo s 0 l.legs = false then 4
  else if placedB s l = false then 5
  else if fitsB s l.trips = false then 6
  else if fairL s l.trips = false then 7
  else if pacedL s l.trips = false then 8
  else 0
theorem timely_car {s : Scn} {ts : List Trip} (h : timelyB s ts = true) : ∀ t ∈ ts, 0 ≤ t.board → 0 ≤ t.car := by
  intro t ht hb
  have := List.all_eq_true.1 h t ht
  unfold timely1 at this
  rw [if_neg (by omega)] at this
  simp only [Bool.and_eq_true, Bool.not_eq_true', Bool.or_eq_false_iff, decide_eq_false_iff_not] at this
  omega
theorem check_ways (Γ : Env) (M : Nat) (hM : 100 < M) (h90 : WayC (Γ 90)) (s : Scn) (l : Log) (hd : Dom s) (hl : LogOk l) (hc : (l.legs.length : Int) = s.cars) :
    ∃ ax s', ((ax = .ex 1 ∧ s' = ⟨[(3, .loc 3 0 0), (5, .loc 5 0 0)], [(3, rS48 s), (5, rL48 l)]⟩ ∧ waysGo s 0 l.legs = true) ∨ (ax = .ret ∧ s' = ⟨[(6, i64 4)], []⟩ ∧ waysGo s 0 l.legs = false)) ∧
      ∀ s0, nrm [3, 5, 29, 30, 31] [3, 5] s0 = ⟨[(3, .loc 3 0 0), (5, .loc 5 0 0), (29, .c (.vs 1 (l.legs.map legsRow))), (30, i64 l.legs.length), (31, i64 (0 : Nat))], [(3, rS48 s), (5, rL48 l)]⟩ → lp (exec Γ M axiom_Check_l1) M s0 = some (ax, s') := by
  have hf := hl.fewl
  refine lp_all (fun q : Nat => ⟨[(3, .loc 3 0 0), (5, .loc 5 0 0), (29, .c (.vs 1 (l.legs.map legsRow))), (30, i64 l.legs.length), (31, i64 q)], [(3, rS48 s), (5, rL48 l)]⟩) (fun q => q ≤ l.legs.length ∧ waysGo s q (l.legs.drop q) = waysGo s 0 l.legs) (fun q => l.legs.length - q) _ 0 M (by simp) ⟨by simp, rfl⟩ (by omega) ?_
  rintro k ⟨hk, hq⟩
  by_cases hlt : k < l.legs.length
  · obtain ⟨w, hw⟩ : ∃ t, l.legs[k]'hlt = t := ⟨_, rfl⟩
    have hwo := hl.legs w (by rw [← hw]; exact List.getElem_mem hlt)
    have e1 := h90 s k w hd hwo ⟨by omega, by omega⟩
    rw [way_same] at e1
    simp only [Scn.cells] at e1
    rw [List.drop_eq_getElem_cons hlt, hw, waysGo] at hq
    cases hb : wayR s (homeP s k) w with
    | false =>
      rw [hb] at e1
      rw [hb, Bool.false_and] at hq
      simp -implicitDefEqProofs (disch := first | omega | assumption) [hlt, hw, legsRow, e1, hq.symm]
    | true =>
      rw [hb] at e1
      rw [hb, Bool.true_and] at hq
      simp -implicitDefEqProofs (disch := first | omega | assumption) [hlt, hw, legsRow, e1]
      exact ⟨k + 1, by omega, ⟨by omega, hq⟩, by omega⟩
  · obtain rfl : k = l.legs.length := by omega
    rw [List.drop_length, waysGo] at hq
    simp -implicitDefEqProofs (disch := first | omega | assumption) [hq.symm]
theorem rcheck_ways (Γ : Env) (M : Nat) (hM : 100 < M) (h91 : Way48C (Γ 91)) (s : Scn) (l : Log) (hd : Dom s) (hl : LogOk l) (hc : (l.legs.length : Int) = s.cars) :
    ∃ ax s', ((ax = .ex 0 ∧ s' = ⟨[(3, .loc 3 0 0), (5, .loc 5 0 0)], [(3, rS48 s), (5, rL48 l)]⟩ ∧ waysGo s 0 l.legs = true) ∨ (ax = .ret ∧ s' = ⟨[(6, i64 4)], []⟩ ∧ waysGo s 0 l.legs = false)) ∧
      ∀ s0, nrm [3, 5, 7] [3, 5] s0 = ⟨[(3, .loc 3 0 0), (5, .loc 5 0 0), (7, i64 (0 : Nat))], [(3, rS48 s), (5, rL48 l)]⟩ → lp (exec Γ M ref48_Check_l1) M s0 = some (ax, s') := by
  have hf := hl.fewl
  refine lp_all (fun q : Nat => ⟨[(3, .loc 3 0 0), (5, .loc 5 0 0), (7, i64 q)], [(3, rS48 s), (5, rL48 l)]⟩) (fun q => q ≤ l.legs.length ∧ waysGo s q (l.legs.drop q) = waysGo s 0 l.legs) (fun q => l.legs.length - q) _ 0 M (by simp) ⟨by simp, rfl⟩ (by omega) ?_
  rintro k ⟨hk, hq⟩
  by_cases hlt : k < l.legs.length
  · obtain ⟨w, hw⟩ : ∃ t, l.legs[k]'hlt = t := ⟨_, rfl⟩
    have hwo := hl.legs w (by rw [← hw]; exact List.getElem_mem hlt)
    have e1 := h91 s k w hd hwo ⟨by omega, by omega⟩
    simp only [Scn.cells] at e1
    rw [List.drop_eq_getElem_cons hlt, hw, waysGo] at hq
    cases hb : wayR s (homeP s k) w with
    | false =>
      rw [hb] at e1
      rw [hb, Bool.false_and] at hq
      simp -implicitDefEqProofs (disch := first | omega | assumption) [hlt, hw, legsRow, e1, hq.symm]
    | true =>
      rw [hb] at e1
      rw [hb, Bool.true_and] at hq
      simp -implicitDefEqProofs (disch := first | omega | assumption) [hlt, hw, legsRow, e1]
      exact ⟨k + 1, by omega, ⟨by omega, hq⟩, by omega⟩
  · obtain rfl : k = l.legs.length := by omega
    rw [List.drop_length, waysGo] at hq
    simp -implicitDefEqProofs (disch := first | omega | assumption) [hq.symm]
def CheckC48 (g : List AV → Option (List AV)) : Prop := ∀ (s : Scn) (ps : List Psg) (l : Log), Dom s → LogOk l → ps.length ≤ 100 → g [.agg s.cells, vP ps, .agg l.cells] = some [i64 (checkN s ps l)]
theorem logFT {l : Log} (hl : LogOk l) : TripsFT l.trips := fun t ht => ⟨(hl.trips t ht).fr, (hl.trips t ht).to⟩
theorem logTk {l : Log} (hl : LogOk l) : ∀ t ∈ l.trips, TTk t := fun t ht => ⟨(hl.trips t ht).board, (hl.trips t ht).alight⟩
theorem axiom_Check_run (Γ : Env) (M : Nat) (hM : 100 < M) (h137 : CameC (Γ 137)) (h136 : TimelyC (Γ 136)) (h90 : WayC (Γ 90)) (h87 : PlacedC (Γ 87)) (h135 : FitsC (Γ 135)) (h134 : FairC (Γ 134)) (h133 : PacedC (Γ 133)) : CheckC48 (run Γ M axiom_Check_f) := by
  intro s ps l hd hl hp
  have e1 := h137 ps l.trips hp hl.few
  have e2 := h136 s l.trips hl.few
  have hpl := h87 s l hd hl
  have e6 := h135 s l.trips hl.few
  have e7 := h134 s l.trips hl.few (logFT hl)
  have e8 := h133 s l.trips hl.few (logTk hl)
  have hf := hl.fewl
  simp only [Scn.cells, Log.cells] at e1 e2 hpl e6 e7 e8
  unfold checkN
  cases c1 : cameGo 0 ps l.trips with
  | false => rw [c1] at e1; simp -implicitDefEqProofs (disch := first | omega | assumption) [Log.cells, e1]
  | true =>
  rw [c1] at e1
  have hcar := @timely_car s l.trips
  cases c2 : timelyB s l.trips with
  | false => rw [c2] at e2; simp -implicitDefEqProofs (disch := first | omega | assumption) [Log.cells, e1, e2]
  | true =>
  rw [c2] at e2
  have e5 := hpl (hcar c2)
  by_cases c3 : (l.legs.length : Int) = s.cars
  case neg => simp -implicitDefEqProofs (disch := first | omega | assumption) [Log.cells, e1, e2, c3]
  obtain ⟨ax, s', hR, hin⟩ := check_ways Γ M hM h90 s l hd hl c3
  have hlp := hin ⟨[(3, .loc 3 0 0), (5, .loc 5 0 0), (29, .c (.vs 1 (l.legs.map legsRow))), (30, i64 l.legs.length), (31, i64 (0 : Nat))], [(3, rS48 s), (5, rL48 l)]⟩ (by simp)
  simp [rS48, rL48, Log.cells] at hlp
  have c3' : decide ((l.legs.length : Int) = s.cars) = true := decide_eq_true c3
  rcases hR with ⟨rfl, rfl, c4⟩ | ⟨rfl, rfl, c4⟩
  · simp [rS48, rL48, Log.cells] at hlp
    rw [c4]
    rw [if_neg (by simp), if_neg (by simp), if_neg (by simpa using c3), if_neg (by simp)]
    clear c3
    cases c5 : placedB s l with
    | false => rw [c5] at e5; simp -implicitDefEqProofs (disch := first | omega | assumption) [Log.cells, e1, e2, c3', hlp, e5]
    | true =>
    rw [c5] at e5
    cases c6 : fitsB s l.trips with
    | false => rw [c6] at e6; simp -implicitDefEqProofs (disch := first | omega | assumption) [Log.cells, e1, e2, c3', hlp, e5, e6]
    | true =>
    rw [c6] at e6
    cases c7 : fairL s l.trips with
    | false => rw [c7] at e7; simp -implicitDefEqProofs (disch := first | omega | assumption) [Log.cells, e1, e2, c3', hlp, e5, e6, e7]
    | true =>
    rw [c7] at e7
    cases c8 : pacedL s l.trips with
    | false => rw [c8] at e8; simp -implicitDefEqProofs (disch := first | omega | assumption) [Log.cells, e1, e2, c3', hlp, e5, e6, e7, e8]
    | true => rw [c8] at e8; simp -implicitDefEqProofs (disch := first | omega | assumption) [Log.cells, e1, e2, c3', hlp, e5, e6, e7, e8]
  · rw [c4]
    rw [if_neg (by simp), if_neg (by simp), if_neg (by simpa using c3), if_pos rfl]
    clear c3
    simp -implicitDefEqProofs (disch := first | omega | assumption) [Log.cells, e1, e2, c3', hlp]
theorem ref48_Check_run (Γ : Env) (M : Nat) (hM : 100 < M) (h142 : CameC (Γ 142)) (h141 : TimelyC (Γ 141)) (h91 : Way48C (Γ 91)) (h88 : PlacedC (Γ 88)) (h140 : FitsC (Γ 140)) (h139 : FairC (Γ 139)) (h138 : PacedC (Γ 138)) : CheckC48 (run Γ M ref48_Check_f) := by
  intro s ps l hd hl hp
  have e1 := h142 ps l.trips hp hl.few
  have e2 := h141 s l.trips hl.few
  have hpl := h88 s l hd hl
  have e6 := h140 s l.trips hl.few
  have e7 := h139 s l.trips hl.few (logFT hl)
  have e8 := h138 s l.trips hl.few (logTk hl)
  have hf := hl.fewl
  simp only [Scn.cells, Log.cells] at e1 e2 hpl e6 e7 e8
  unfold checkN
  cases c1 : cameGo 0 ps l.trips with
  | false => rw [c1] at e1; simp -implicitDefEqProofs (disch := first | omega | assumption) [Log.cells, e1]
  | true =>
  rw [c1] at e1
  have hcar := @timely_car s l.trips
  cases c2 : timelyB s l.trips with
  | false => rw [c2] at e2; simp -implicitDefEqProofs (disch := first | omega | assumption) [Log.cells, e1, e2]
  | true =>
  rw [c2] at e2
  have e5 := hpl (hcar c2)
  by_cases c3 : (l.legs.length : Int) = s.cars
  case neg => simp -implicitDefEqProofs (disch := first | omega | assumption) [Log.cells, e1, e2, c3]
  obtain ⟨ax, s', hR, hin⟩ := rcheck_ways Γ M hM h91 s l hd hl c3
  have hlp := hin ⟨[(3, .loc 3 0 0), (5, .loc 5 0 0), (7, i64 (0 : Nat))], [(3, rS48 s), (5, rL48 l)]⟩ (by simp)
  simp [rS48, rL48, Log.cells] at hlp
  have c3' : decide ((l.legs.length : Int) = s.cars) = true := decide_eq_true c3
  rcases hR with ⟨rfl, rfl, c4⟩ | ⟨rfl, rfl, c4⟩
  · simp [rS48, rL48, Log.cells] at hlp
    rw [c4]
    rw [if_neg (by simp), if_neg (by simp), if_neg (by simpa using c3), if_neg (by simp)]
    clear c3
    cases c5 : placedB s l with
    | false => rw [c5] at e5; simp -implicitDefEqProofs (disch := first | omega | assumption) [Log.cells, e1, e2, c3', hlp, e5]
    | true =>
    rw [c5] at e5
    cases c6 : fitsB s l.trips with
    | false => rw [c6] at e6; simp -implicitDefEqProofs (disch := first | omega | assumption) [Log.cells, e1, e2, c3', hlp, e5, e6]
    | true =>
    rw [c6] at e6
    cases c7 : fairL s l.trips with
    | false => rw [c7] at e7; simp -implicitDefEqProofs (disch := first | omega | assumption) [Log.cells, e1, e2, c3', hlp, e5, e6, e7]
    | true =>
    rw [c7] at e7
    cases c8 : pacedL s l.trips with
    | false => rw [c8] at e8; simp -implicitDefEqProofs (disch := first | omega | assumption) [Log.cells, e1, e2, c3', hlp, e5, e6, e7, e8]
    | true => rw [c8] at e8; simp -implicitDefEqProofs (disch := first | omega | assumption) [Log.cells, e1, e2, c3', hlp, e5, e6, e7, e8]
  · rw [c4]
    rw [if_neg (by simp), if_neg (by simp), if_neg (by simpa using c3), if_pos rfl]
    clear c3
    simp -implicitDefEqProofs (disch := first | omega | assumption) [Log.cells, e1, e2, c3', hlp]
theorem law48_AxiomChecks_run {Γ : Env} (M : Nat) (hM : 100 < M) (h92 : FewC (Γ 92)) (h93 : CheckC48 (Γ 93)) (h94 : CheckC48 (Γ 94)) (h89 : Γ 89 [] = some [bo true]) (s : Scn) (ps : List Psg) (l : Log) (hs : s.Ok) (hl : l.Ok) (hps : ps.length ≤ maxLen) :
    run Γ M law48_AxiomChecks_f [.agg s.cells, vP ps, .agg l.cells] = some [bo true] := by
  have hmax := maxLen_eq
  obtain ⟨b, e, hb⟩ := h92 s l hs hl
  simp only [Scn.cells, Log.cells] at e
  cases b with
  | false => simp -implicitDefEqProofs (disch := first | omega | assumption) [Log.cells, e]
  | true =>
    obtain ⟨hc0, h8, hd, hlo⟩ := hb rfl
    by_cases hp : 100 < ps.length
    · have hp' : 100 < (ps.length : Int) := by omega
      simp -implicitDefEqProofs (disch := first | omega | assumption) [Log.cells, e, hp, hp']
    have hp' : ¬ 100 < (ps.length : Int) := by omega
    have e1 := h93 s ps l hd hlo (by omega)
    have e2 := h94 s ps l hd hlo (by omega)
    simp only [Scn.cells, Log.cells] at e1 e2
    generalize checkN s ps l = n at *
    simp -implicitDefEqProofs (disch := first | omega | assumption) [Log.cells, e, hp, hp', e1, e2, h89]
abbrev checksTab48 : Tab := (0, law48_AxiomChecks_f, 3) :: axTab
theorem checks_alive48 : env checksTab48 [] noEnv 70000 11 89 [] = some [bo true] := yesB (by decide +kernel)
theorem axiomChecks_law (s : Scn) (ps : List Psg) (l : Log) (hs : s.Ok) (hl : l.Ok) (hps : ps.length ≤ maxLen) : env checksTab48 [] noEnv 70000 12 0 [.agg s.cells, vP ps, .agg l.cells] = some [bo true] := by
  rw [env_run rfl rfl]
  refine law48_AxiomChecks_run _ (by omega) (ax_Few _ _ _) ?_ ?_ checks_alive48 s ps l hs hl hps
  · intro s ps l h1 h2 h3; rw [env_run rfl rfl]
    refine axiom_Check_run _ _ (by omega) ?_ ?_ (ax_Way _ _ _) (ax_Placed _ _ _) ?_ ?_ ?_ s ps l h1 h2 h3
    · intro ps ts h1 h2; rw [env_run rfl rfl]
      refine axiom_Came_run _ _ (by omega) ?_ ps ts h1 h2
      intro p; rw [env_run rfl rfl]; exact trip_Begin_run _ 70000 p
    · intro s ts h1; rw [env_run rfl rfl]
      refine axiom_Timely_run _ _ (by omega) ?_ s ts h1
      intro s t; rw [env_run rfl rfl]; exact axiom_timely_run _ 70000 s t
    · intro s ts h1; rw [env_run rfl rfl]
      refine axiom_Fits_run _ _ (by omega) ?_ s ts h1
      intro ts c t h1; rw [env_run rfl rfl]; exact trip_Load_run _ _ (by omega) ts c t h1
    · intro s ts h1 h2; rw [env_run rfl rfl]
      refine axiom_Fair_run _ _ (by omega) ?_ s ts h1 h2
      intro s a b h1 h2 h3 h4; rw [env_run rfl rfl]
      refine axiom_passed_run _ 70000 ?_ s a b h1 h2 h3 h4
      intro f t h1 h2; rw [env_run rfl rfl]
      refine place_Dir_run _ 70000 ?_ f t h1 h2
      intro n; rw [env_run rfl rfl]; exact place_Sign_run _ 70000 n
    · intro s ts h1 h2; rw [env_run rfl rfl]
      refine axiom_Paced_run _ _ (by omega) ?_ s ts h1 h2
      intro s x y h1 h2; rw [env_run rfl rfl]
      refine axiom_near_run _ 70000 ?_ s x y h1 h2
      intro a b h1 h2; rw [env_run rfl rfl]; exact place_Far_run _ _ a b h1 h2
  · intro s ps l h1 h2 h3; rw [env_run rfl rfl]
    refine ref48_Check_run _ _ (by omega) ?_ ?_ (ax_Way48 _ _ _) (ax_Placed48 _ _ _) ?_ ?_ ?_ s ps l h1 h2 h3
    · intro ps ts h1 h2; rw [env_run rfl rfl]; exact ref48_Came_run _ _ (by omega) ps ts h1 h2
    · intro s ts h1; rw [env_run rfl rfl]; exact ref48_Timely_run _ _ (by omega) s ts h1
    · intro s ts h1; rw [env_run rfl rfl]
      refine ref48_Fits_run _ _ (by omega) ?_ s ts h1
      intro ts c t h1; rw [env_run rfl rfl]; exact ref24_Load_run _ _ (by omega) ts c t h1
    · intro s ts h1 h2; rw [env_run rfl rfl]
      refine ref48_Fair_run _ _ (by omega) ?_ s ts h1 h2
      intro f t h1 h2; rw [env_run rfl rfl]; exact ref39_Dir_run _ 70000 f t h1 h2
    · intro s ts h1 h2; rw [env_run rfl rfl]; exact ref48_Paced_run _ _ (by omega) s ts h1 h2
end Go.Am
