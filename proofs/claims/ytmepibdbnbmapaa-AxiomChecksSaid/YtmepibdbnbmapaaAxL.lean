/- Law 48: AxiomWays, over the functions together. -/
import Derived.Test.YtmepibdbnbmapaaAxF
set_option linter.unusedVariables false
set_option linter.unusedSimpArgs false
set_option maxRecDepth 10000
set_option maxHeartbeats 4000000
namespace Go.Am
theorem ways_loop (Γ : Env) (M : Nat) (hM : 100 < M) (h90 : WayC (Γ 90)) (h91 : Way48C (Γ 91)) (s : Scn) (l : Log) (hd : Dom s) (hl : LogOk l) :
    ∀ s0, nrm [2, 3, 5] [2, 3] s0 = ⟨[(2, .loc 2 0 0), (3, .loc 3 0 0), (5, i64 (0 : Nat))], [(2, rS48 s), (3, rL48 l)]⟩ → lp (exec Γ M law48_AxiomWays_l2) M s0 = some (.ex 0, ⟨[(2, .loc 2 0 0), (3, .loc 3 0 0)], [(2, rS48 s), (3, rL48 l)]⟩) := by
  have hf := hl.fewl
  obtain ⟨ax, s', ⟨rfl, rfl⟩, hin⟩ : ∃ ax s', (ax = .ex 0 ∧ s' = ⟨[(2, .loc 2 0 0), (3, .loc 3 0 0)], [(2, rS48 s), (3, rL48 l)]⟩) ∧ ∀ s0, nrm [2, 3, 5] [2, 3] s0 = ⟨[(2, .loc 2 0 0), (3, .loc 3 0 0), (5, i64 (0 : Nat))], [(2, rS48 s), (3, rL48 l)]⟩ → lp (exec Γ M law48_AxiomWays_l2) M s0 = some (ax, s') := by
    refine lp_all (fun q : Nat => ⟨[(2, .loc 2 0 0), (3, .loc 3 0 0), (5, i64 q)], [(2, rS48 s), (3, rL48 l)]⟩) (fun q => q ≤ l.legs.length) (fun q => l.legs.length - q) _ 0 M (by simp) (by omega) (by omega) ?_
    intro k hk
    by_cases hlt : k < l.legs.length
    · by_cases hc : (k : Int) < s.cars
      · obtain ⟨w, hw⟩ : ∃ t, l.legs[k]'hlt = t := ⟨_, rfl⟩
        have hwo := hl.legs w (by rw [← hw]; exact List.getElem_mem hlt)
        have e1 := h90 s k w hd hwo ⟨by omega, hc⟩
        have e2 := h91 s k w hd hwo ⟨by omega, hc⟩
        rw [way_same] at e1
        simp only [Scn.cells] at e1 e2
        generalize wayR s (homeP s k) w = b at *
        simp -implicitDefEqProofs (disch := first | omega | assumption) [hlt, hc, hw, legsRow, e1, e2]
        exact ⟨k + 1, by omega, by omega, by omega⟩
      · simp -implicitDefEqProofs (disch := first | omega | assumption) [hlt, hc]
    · obtain rfl : k = l.legs.length := by omega
      simp -implicitDefEqProofs (disch := first | omega | assumption)
  exact hin
theorem boards_loop (Γ : Env) (M : Nat) (hM : 100 < M) (h89 : Γ 89 [] = some [bo true]) (s : Scn) (l : Log) (hl : LogOk l) :
    ∃ ax s', ((ax = .ex 2 ∧ s' = ⟨[(2, .loc 2 0 0), (3, .loc 3 0 0)], [(2, rS48 s), (3, rL48 l)]⟩ ∧ ∀ t ∈ l.trips, 0 ≤ t.board → 0 ≤ t.car) ∨ (ax = .ret ∧ s' = ⟨[(4, bo true)], []⟩)) ∧ ∀ s0, nrm [2, 3, 6] [2, 3] s0 = ⟨[(2, .loc 2 0 0), (3, .loc 3 0 0), (6, i64 (0 : Nat))], [(2, rS48 s), (3, rL48 l)]⟩ → lp (exec Γ M law48_AxiomWays_l1) M s0 = some (ax, s') := by
  have hf := hl.few
  refine lp_all (fun q : Nat => ⟨[(2, .loc 2 0 0), (3, .loc 3 0 0), (6, i64 q)], [(2, rS48 s), (3, rL48 l)]⟩) (fun q => q ≤ l.trips.length ∧ ∀ t ∈ l.trips.take q, 0 ≤ t.board → 0 ≤ t.car) (fun q => l.trips.length - q) _ 0 M (by simp) ⟨by simp, by simp⟩ (by omega) ?_
  rintro k ⟨hk, hq⟩
  by_cases hlt : k < l.trips.length
  · obtain ⟨t, ht⟩ : ∃ t, l.trips[k]'hlt = t := ⟨_, rfl⟩
    by_cases a1 : 0 ≤ t.board
    · by_cases a2 : t.car < 0
      · simp -implicitDefEqProofs (disch := first | omega | assumption) [hlt, ht, a1, a2, h89]
      · simp -implicitDefEqProofs (disch := first | omega | assumption) [hlt, ht, a1, a2]
        refine ⟨k + 1, by omega, ⟨by omega, fun x hx => ?_⟩, by omega⟩
        rw [List.take_succ_eq_append_getElem hlt, ht] at hx
        simp only [List.mem_append, List.mem_singleton] at hx
        rcases hx with hx | rfl
        · exact hq x hx
        · intro _; omega
    · simp -implicitDefEqProofs (disch := first | omega | assumption) [hlt, ht, a1]
      refine ⟨k + 1, by omega, ⟨by omega, fun x hx => ?_⟩, by omega⟩
      rw [List.take_succ_eq_append_getElem hlt, ht] at hx
      simp only [List.mem_append, List.mem_singleton] at hx
      rcases hx with hx | rfl
      · exact hq x hx
      · intro _; omega
  · obtain rfl : k = l.trips.length := by omega
    rw [List.take_length] at hq
    simp -implicitDefEqProofs (disch := first | omega | assumption)
    exact hq
theorem law48_AxiomWays_run {Γ : Env} (M : Nat) (hM : 100 < M) (h92 : FewC (Γ 92)) (h90 : WayC (Γ 90)) (h91 : Way48C (Γ 91)) (h87 : PlacedC (Γ 87)) (h88 : PlacedC (Γ 88)) (h89 : Γ 89 [] = some [bo true]) (s : Scn) (l : Log) (hs : s.Ok) (hl : l.Ok) :
    run Γ M law48_AxiomWays_f [.agg s.cells, .agg l.cells] = some [bo true] := by
  obtain ⟨b, e, hb⟩ := h92 s l hs hl
  simp only [Scn.cells, Log.cells] at e
  cases b with
  | false => simp -implicitDefEqProofs (disch := first | omega | assumption) [Log.cells, e]
  | true =>
    obtain ⟨hc0, h8, hd, hlo⟩ := hb rfl
    have hlp := ways_loop Γ M hM h90 h91 s l hd hlo ⟨[(2, .loc 2 0 0), (3, .loc 3 0 0), (5, i64 (0 : Nat))], [(2, rS48 s), (3, rL48 l)]⟩ (by simp)
    simp [rS48, rL48, Log.cells] at hlp
    obtain ⟨ax, s', hR, hin⟩ := boards_loop Γ M hM h89 s l hlo
    have hlp2 := hin ⟨[(2, .loc 2 0 0), (3, .loc 3 0 0), (6, i64 (0 : Nat))], [(2, rS48 s), (3, rL48 l)]⟩ (by simp)
    simp [rS48, rL48, Log.cells] at hlp2
    rcases hR with ⟨rfl, rfl, hok⟩ | ⟨rfl, rfl⟩
    · have e1 := h87 s l hd hlo hok
      have e2 := h88 s l hd hlo hok
      simp only [Scn.cells, Log.cells] at e1 e2
      simp [rS48, rL48, Log.cells] at hlp2
      generalize placedB s l = p at *
      simp -implicitDefEqProofs (disch := first | omega | assumption) [Log.cells, e, hlp, hlp2, e1, e2, h89]
    · simp -implicitDefEqProofs (disch := first | omega | assumption) [Log.cells, e, hlp, hlp2]
def isB (o : Option (List AV)) : Bool := match o with | some [.c (.bool true)] => true | _ => false
theorem yesB {o : Option (List AV)} (h : isB o = true) : o = some [bo true] := by
  unfold isB at h
  split at h
  · rfl
  · simp at h
abbrev axTab : Tab := (89, law48_alive_f, 0) :: (94, ref48_Check_f, 3) :: (142, ref48_Came_f, 2) :: (141, ref48_Timely_f, 2) :: (163, ref24_Load_f, 3) :: (140, ref48_Fits_f, 2) :: (164, ref39_Dir_f, 2) :: (139, ref48_Fair_f, 2) :: (138, ref48_Paced_f, 2) :: (92, law48_Few_f, 2) :: (157, place_Far_f, 2) :: (156, place_Top_f, 2) :: (127, place_At_f, 2) :: (178, place_Sign_f, 1) :: (173, place_Dir_f, 2) :: (49, sector_first_f, 3) :: (3, sector_Home_f, 3) :: (167, track_find_f, 2) :: (150, track_At_f, 2) :: (126, axiom_leg_f, 5) :: (90, axiom_Way_f, 3) :: (131, axiom_stood_f, 4) :: (87, axiom_Placed_f, 2) :: (113, ref25_At_f, 2) :: (128, ref25_All_f, 2) :: (129, ref43_New_f, 1) :: (130, ref48_shape_f, 2) :: (91, ref48_Way_f, 3) :: (132, ref48_stood_f, 4) :: (88, ref48_Placed_f, 2) :: (158, trip_Begin_f, 1) :: (137, axiom_Came_f, 2) :: (159, axiom_timely_f, 2) :: (136, axiom_Timely_f, 2) :: (160, trip_Load_f, 3) :: (135, axiom_Fits_f, 2) :: (161, axiom_passed_f, 3) :: (134, axiom_Fair_f, 2) :: (162, axiom_near_f, 3) :: (133, axiom_Paced_f, 2) :: (93, axiom_Check_f, 3) :: (26, ref20_Check_f, 1) :: (21, ref20_In_f, 2) :: [(23, ref20_Bounds_f, 1)]
abbrev waysTab48 : Tab := (0, law48_AxiomWays_f, 2) :: axTab
theorem ways_alive48 : env waysTab48 [] noEnv 70000 11 89 [] = some [bo true] := yesB (by decide +kernel)
section
variable (F : AFn) (k : Nat)
theorem ax_Check (n : Nat) : ChkC (env ((0, F, k) :: axTab) [] noEnv 70000 (n + 3) 26) := fun s h => by
  rw [env_run rfl rfl]
  refine ref20_Check_run (M := 69900) ?_ s h
  intro x m; rw [env_run rfl rfl]; refine ref20_In_run ?_ x m
  intro x; rw [env_run rfl rfl]; exact ref20_Bounds_run _ 69980 x
theorem ax_Few (n : Nat) : FewC (env ((0, F, k) :: axTab) [] noEnv 70000 (n + 4) 92) := fun s l hs hl => by
  rw [env_run rfl rfl]; exact law48_Few_run _ _ (by omega) (ax_Check F k n) s l hs hl
theorem ax_At (n : Nat) : PlAtC (env ((0, F, k) :: axTab) [] noEnv 70000 (n + 1) 127) := fun a b h1 h2 => by
  rw [env_run rfl rfl]; exact place_At_run _ _ a b h1 h2
theorem ax_Way (n : Nat) : WayC (env ((0, F, k) :: axTab) [] noEnv 70000 (n + 3) 90) := fun s car l h1 h2 h3 => by
  rw [env_run rfl rfl]
  refine axiom_Way_run _ _ (by omega) ?_ (ax_At F k _) ?_ s car l h1 h2 h3
  · intro s c h1 h2; rw [env_run rfl rfl]
    refine sector_Home_run _ _ ?_ s c h1 h2
    intro s c h1 h2; rw [env_run rfl rfl]; exact sector_first_run _ _ s c h1 h2
  · intro s g e b d h1 h2 h3 h4 h5; rw [env_run rfl rfl]
    refine axiom_leg_run _ _ ?_ ?_ s g e b d h1 h2 h3 h4 h5
    · intro a b h1 h2; rw [env_run rfl rfl]; exact place_Far_run _ _ a b h1 h2
    · intro s h; rw [env_run rfl rfl]; exact place_Top_run _ _ s h
theorem ax_At25 (n : Nat) : At25C (env ((0, F, k) :: axTab) [] noEnv 70000 (n + 1) 113) := fun l t h1 h2 => by
  rw [env_run rfl rfl]; exact ref25_At_run _ _ (by omega) l t h1 h2
theorem ax_Way48 (n : Nat) : Way48C (env ((0, F, k) :: axTab) [] noEnv 70000 (n + 3) 91) := fun s car l h1 h2 h3 => by
  rw [env_run rfl rfl]
  refine ref48_Way_run _ _ (by omega) ?_ ?_ ?_ s car l h1 h2 h3
  · intro s l h1 h2; rw [env_run rfl rfl]; exact ref48_shape_run _ _ (by omega) s l h1 h2
  · intro s car l n h1 h2; rw [env_runP rfl (by decide +kernel)]; exact ref43_New_run _ _ (by omega) s car l n h1 h2
  · intro l H h0 h1 h2 h3; rw [env_run rfl rfl]; exact ref25_All_run _ _ (by omega) (ax_At25 F k _) l H h0 h1 h2 h3
theorem ax_Placed (n : Nat) : PlacedC (env ((0, F, k) :: axTab) [] noEnv 70000 (n + 4) 87) := fun s l h1 h2 h3 => by
  rw [env_run rfl rfl]
  refine axiom_Placed_run _ _ (by omega) ?_ s l h1 h2 h3
  intro s l f t h1 h2 h3 h4; rw [env_run rfl rfl]
  refine axiom_stood_run _ _ ?_ (ax_At F k _) s l f t h1 h2 h3 h4
  intro l t h1 h2; rw [env_run rfl rfl]
  refine track_At_run _ _ ?_ l t h1 h2
  intro l t h1; rw [env_run rfl rfl]; exact track_find_run _ _ (by omega) l t h1
theorem ax_Placed48 (n : Nat) : PlacedC (env ((0, F, k) :: axTab) [] noEnv 70000 (n + 3) 88) := fun s l h1 h2 h3 => by
  rw [env_run rfl rfl]
  refine ref48_Placed_run _ _ (by omega) ?_ s l h1 h2 h3
  intro s l f t h1 h2 h3 h4; rw [env_run rfl rfl]; exact ref48_stood_run _ 70000 (ax_At25 F k _) s l f t h1 h2 h3 h4
end
theorem axiomWays_law (s : Scn) (l : Log) (hs : s.Ok) (hl : l.Ok) : env waysTab48 [] noEnv 70000 12 0 [.agg s.cells, .agg l.cells] = some [bo true] := by
  rw [env_run rfl rfl]
  exact law48_AxiomWays_run _ (by omega) (ax_Few _ _ _) (ax_Way _ _ _) (ax_Way48 _ _ _) (ax_Placed _ _ _) (ax_Placed48 _ _ _) ways_alive48 s l hs hl
end Go.Am
