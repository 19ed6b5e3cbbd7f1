/- Law 51: stories. -/
import Derived.Test.YtfompdbhmbdmeaaReplayCode
set_option linter.unusedVariables false
set_option linter.unusedSimpArgs false
set_option maxRecDepth 10000
set_option maxHeartbeats 1000000
namespace Go.Am
def logO (l : Log) : Obj := ⟨3, [toAV l.cells]⟩
@[simp] def fewR (ax : AX) (s' : St) (i : Nat) (s : St) : Prop := (ax = .ex i ∧ s' = s) ∨ (ax = .ret ∧ s' = ⟨[(2, bo false)], []⟩)
theorem few_trips {Γ : Env} {N M : Nat} {l : Log} (h : l.Ok) (hM : l.trips.length < M) :
    ∃ ax s', fewR ax s' 0 ⟨[(1, .loc 1 0 0)], [(1, logO l)]⟩ ∧ ∀ s, nrm [1, 3] [1] s = ⟨[(1, .loc 1 0 0), (3, i64 (0 : Nat))], [(1, logO l)]⟩ → lp (exec Γ N law51_few_l3) M s = some (ax, s') := by
  refine lp_all (fun i : Nat => ⟨[(1, .loc 1 0 0), (3, i64 i)], [(1, logO l)]⟩) (fun i => i ≤ l.trips.length) (fun i => l.trips.length - i)
    (fun ax s' => fewR ax s' 0 ⟨[(1, .loc 1 0 0)], [(1, logO l)]⟩) 0 M (by simp) (by omega) (by omega) ?_
  intro i hi
  have hmax := maxLen_eq
  have hn := h.ntrips
  by_cases hlt : i < l.trips.length
  · have hlt' : (i : Int) < l.trips.length := by omega
    obtain ⟨t, ht⟩ : ∃ t, l.trips[i]'hlt = t := ⟨_, rfl⟩
    obtain ⟨x, hx⟩ : ∃ x, minL .i64 t.arrive [i64 t.board, i64 t.alight] = some x := ⟨_, by simp only [minL, if_true]; rfl⟩
    obtain ⟨y, hy⟩ : ∃ y, maxL .i64 t.arrive [i64 t.board, i64 t.alight] = some y := ⟨_, by simp only [maxL, if_true]; rfl⟩
    by_cases c1 : t.id = i
    · by_cases c2 : x < -1073741824
      · simp -implicitDefEqProofs (disch := omega) [-minL, -maxL, logO, hlt', ht, hx, hy, c1, c2]
      by_cases c3 : 1073741824 < y
      · simp -implicitDefEqProofs (disch := omega) [-minL, -maxL, logO, hlt', ht, hx, hy, c1, c2, c3]
      simp -implicitDefEqProofs (disch := omega) [-minL, -maxL, logO, hlt', ht, hx, hy, c1, c2, c3]
      exact ⟨i + 1, by omega, by omega, by omega⟩
    · simp -implicitDefEqProofs (disch := omega) [-minL, -maxL, logO, hlt', ht, hx, hy, c1]
  · obtain rfl : i = l.trips.length := by omega
    simp [logO]
theorem few_legs1 {Γ : Env} {N M : Nat} {l : Log} (h : l.Ok) {i : Nat} {gs : List Leg} (hi : l.legs[i]? = some gs) (hM : gs.length < M) :
    ∃ ax s', fewR ax s' 4 ⟨[(1, .loc 1 0 0), (5, i64 i)], [(1, logO l)]⟩ ∧ ∀ s, nrm [1, 5, 6] [1] s = ⟨[(1, .loc 1 0 0), (5, i64 i), (6, i64 (0 : Nat))], [(1, logO l)]⟩ → lp (exec Γ N law51_few_l1) M s = some (ax, s') := by
  refine lp_all (fun k : Nat => ⟨[(1, .loc 1 0 0), (5, i64 i), (6, i64 k)], [(1, logO l)]⟩) (fun k => k ≤ gs.length) (fun k => gs.length - k)
    (fun ax s' => fewR ax s' 4 ⟨[(1, .loc 1 0 0), (5, i64 i)], [(1, logO l)]⟩) 0 M (by simp) (by omega) (by omega) ?_
  intro k hk
  have hmax := maxLen_eq
  have hn := (h.legs gs (List.mem_of_getElem? hi)).1
  by_cases hlt : k < gs.length
  · have hlt' : (k : Int) < gs.length := by omega
    obtain ⟨g, hg⟩ : ∃ g, gs[k]'hlt = g := ⟨_, rfl⟩
    obtain ⟨x, hx⟩ : ∃ x, minL .i64 g.pos [i64 g.tick] = some x := ⟨_, by simp only [minL, if_true]; rfl⟩
    obtain ⟨y, hy⟩ : ∃ y, maxL .i64 g.pos [i64 g.tick] = some y := ⟨_, by simp only [maxL, if_true]; rfl⟩
    by_cases c1 : 60 < (k : Int)
    · simp -implicitDefEqProofs (disch := omega) [-minL, -maxL, logO, hlt', hi, hg, hx, hy, c1]
    by_cases c0 : 0 < k
    · obtain ⟨g', hg'⟩ : ∃ g', gs[k - 1]'(by omega) = g' := ⟨_, rfl⟩
      have hk1 : ((k : Int) - 1).toNat = k - 1 := by omega
      by_cases c2 : g.tick ≤ g'.tick
      · simp -implicitDefEqProofs (disch := omega) [-minL, -maxL, logO, hlt', hi, hg, hg', hk1, hx, hy, c0, c1, c2]
      by_cases c3 : x < -1073741824
      · simp -implicitDefEqProofs (disch := omega) [-minL, -maxL, logO, hlt', hi, hg, hg', hk1, hx, hy, c0, c1, c2, c3]
      by_cases c4 : 1073741824 < y
      · simp -implicitDefEqProofs (disch := omega) [-minL, -maxL, logO, hlt', hi, hg, hg', hk1, hx, hy, c0, c1, c2, c3, c4]
      by_cases c5 : g.dir < -1
      · simp -implicitDefEqProofs (disch := omega) [-minL, -maxL, logO, hlt', hi, hg, hg', hk1, hx, hy, c0, c1, c2, c3, c4, c5]
      by_cases c6 : 1 < g.dir
      · simp -implicitDefEqProofs (disch := omega) [-minL, -maxL, logO, hlt', hi, hg, hg', hk1, hx, hy, c0, c1, c2, c3, c4, c5, c6]
      simp -implicitDefEqProofs (disch := omega) [-minL, -maxL, logO, hlt', hi, hg, hg', hk1, hx, hy, c0, c1, c2, c3, c4, c5, c6]
      exact ⟨k + 1, by omega, by omega, by omega⟩
    · by_cases c3 : x < -1073741824
      · simp -implicitDefEqProofs (disch := omega) [-minL, -maxL, logO, hlt', hi, hg, hx, hy, c0, c1, c3]
      by_cases c4 : 1073741824 < y
      · simp -implicitDefEqProofs (disch := omega) [-minL, -maxL, logO, hlt', hi, hg, hx, hy, c0, c1, c3, c4]
      by_cases c5 : g.dir < -1
      · simp -implicitDefEqProofs (disch := omega) [-minL, -maxL, logO, hlt', hi, hg, hx, hy, c0, c1, c3, c4, c5]
      by_cases c6 : 1 < g.dir
      · simp -implicitDefEqProofs (disch := omega) [-minL, -maxL, logO, hlt', hi, hg, hx, hy, c0, c1, c3, c4, c5, c6]
      simp -implicitDefEqProofs (disch := omega) [-minL, -maxL, logO, hlt', hi, hg, hx, hy, c0, c1, c3, c4, c5, c6]
      exact ⟨k + 1, by omega, by omega, by omega⟩
  · obtain rfl : k = gs.length := by omega
    simp [logO, hi]
theorem few_legs {Γ : Env} {N M : Nat} {l : Log} (h : l.Ok) (hN : maxLen < N) (hM : l.legs.length < M) :
    ∃ ax s', fewR ax s' 2 ⟨[], []⟩ ∧ ∀ s, nrm [1, 5] [1] s = ⟨[(1, .loc 1 0 0), (5, i64 (0 : Nat))], [(1, logO l)]⟩ → lp (exec Γ N law51_few_l2) M s = some (ax, s') := by
  refine lp_all (fun i : Nat => ⟨[(1, .loc 1 0 0), (5, i64 i)], [(1, logO l)]⟩) (fun i => i ≤ l.legs.length) (fun i => l.legs.length - i)
    (fun ax s' => fewR ax s' 2 ⟨[], []⟩) 0 M (by simp) (by omega) (by omega) ?_
  intro i hi
  have hmax := maxLen_eq
  have hn := h.nlegs
  by_cases hlt : i < l.legs.length
  · have hlt' : (i : Int) < l.legs.length := by omega
    obtain ⟨gs, hg⟩ : ∃ gs, l.legs[i]? = some gs := ⟨_, List.getElem?_eq_getElem hlt⟩
    have hg2 : l.legs[i]'hlt = gs := by rw [List.getElem?_eq_getElem hlt] at hg; simpa using hg
    have hl := (h.legs gs (List.mem_of_getElem? hg)).1
    obtain ⟨ax, s', (⟨rfl, rfl⟩ | ⟨rfl, rfl⟩), hin⟩ := few_legs1 (Γ := Γ) (N := N) (M := N) h hg (by omega)
    · simp -implicitDefEqProofs (disch := first | omega | (simp [logO] <;> fail) | assumption) [logO, hlt', hin]
      exact ⟨i + 1, by omega, by omega, by omega⟩
    · simp -implicitDefEqProofs (disch := first | omega | (simp [logO] <;> fail) | assumption) [logO, hlt', hin]
  · obtain rfl : i = l.legs.length := by omega
    simp [logO]
def Few (g : List AV → Option (List AV)) : Prop := ∀ l : Log, l.Ok → ∃ b, g [.agg l.cells] = some [bo b]
theorem few_run {Γ : Env} {M : Nat} (hM : maxLen < M) : Few (run Γ M law51_few_f) := by
  intro l h
  have h1 := h.ntrips
  have h2 := h.nlegs
  by_cases c1 : 60 < l.trips.length
  · refine ⟨false, ?_⟩
    simp -implicitDefEqProofs (disch := omega) []
  by_cases c2 : 16 < l.legs.length
  · refine ⟨false, ?_⟩
    simp -implicitDefEqProofs (disch := omega) []
  obtain ⟨ax, s', (⟨rfl, rfl⟩ | ⟨rfl, rfl⟩), h3⟩ := few_trips (Γ := Γ) (N := M) (M := M) h (by omega)
  · obtain ⟨ax, s', (⟨rfl, rfl⟩ | ⟨rfl, rfl⟩), h4⟩ := few_legs (Γ := Γ) (N := M) (M := M) h (by omega) (by omega)
    · refine ⟨true, ?_⟩
      simp -implicitDefEqProofs (disch := first | omega | (simp [logO] <;> fail) | assumption) [h3, h4]
    · refine ⟨false, ?_⟩
      simp -implicitDefEqProofs (disch := first | omega | (simp [logO] <;> fail) | assumption) [h3, h4]
  · refine ⟨false, ?_⟩
    simp -implicitDefEqProofs (disch := first | omega | (simp [logO] <;> fail) | assumption) [h3]

def phase (t : Trip) : Int := if 0 ≤ t.alight then 2 else if 0 ≤ t.board then 1 else 0
def TripAt (g : List AV → Option (List AV)) : Prop := ∀ t : Trip, t.Ok → g [.agg t.cells] = some [i64 (phase t)]
theorem trip_At_run (Γ : Env) {M : Nat} : TripAt (run Γ M trip_At_f) := by
  intro t h
  by_cases c1 : 0 ≤ t.alight
  · simp -implicitDefEqProofs (disch := omega) [phase, c1]
  by_cases c2 : 0 ≤ t.board
  · simp -implicitDefEqProofs (disch := omega) [phase, c1, c2]
  · simp -implicitDefEqProofs (disch := omega) [phase, c1, c2]

/-- What became of anyone, as a line. -/
def came (t : Trip) : List UInt8 := txt t.id ++ ([32, 99, 97, 109, 101, 32, 97, 116, 32] ++ (txt t.arrive ++ ([32, 102, 114, 111, 109, 32] ++ (txt t.frm ++ ([32, 116, 111, 32] ++ txt t.to)))))
def inAt (t : Trip) : List UInt8 := [44, 32, 105, 110, 32, 97, 116, 32] ++ (txt t.board ++ ([32, 98, 121, 32, 99, 97, 114, 32] ++ txt t.car))
def story (t : Trip) : List UInt8 :=
  if 0 ≤ t.alight then came t ++ (inAt t ++ ([44, 32, 111, 117, 116, 32, 97, 116, 32] ++ txt t.alight))
  else if 0 ≤ t.board then came t ++ (inAt t ++ [44, 32, 114, 105, 100, 101, 115]) else came t ++ [44, 32, 119, 97, 105, 116, 115]
theorem txt_len (n : Int) : (txt n).length ≤ 21 := by
  have h1 := dig_len n
  have h2 := dig_len (-n)
  unfold txt
  split <;> simp <;> omega
def Story (g : List AV → Option (List AV)) : Prop := ∀ (l : Log) (id : Int), l.Ok → InI64 id → g [.agg l.cells, i64 id] = some [st (if h : 0 ≤ id ∧ id < l.trips.length then story (l.trips[id.toNat]'(by omega)) else [])]
theorem replay_Story_run {Γ : Env} {M : Nat} (hO : Of (Γ 50)) (hA : TripAt (Γ 51)) : Story (run Γ M replay_Story_f) := by
  intro l id h hid
  have hmax : maxStr = 9223372036854775807 := rfl
  by_cases c1 : id < 0
  · simp -implicitDefEqProofs (disch := omega) [dif_neg (show ¬ (0 ≤ id ∧ id < l.trips.length) by omega)]
  by_cases c2 : (l.trips.length : Int) ≤ id
  · simp -implicitDefEqProofs (disch := omega) [dif_neg (show ¬ (0 ≤ id ∧ id < l.trips.length) by omega)]
  have hlt : id.toNat < l.trips.length := by omega
  rw [dif_pos (show 0 ≤ id ∧ id < l.trips.length by omega)]
  obtain ⟨t, ht⟩ : ∃ t, l.trips[id.toNat]'hlt = t := ⟨_, rfl⟩
  have ok : t.Ok := by rw [← ht]; exact h.trips _ (List.getElem_mem hlt)
  have e1 := hO _ ok.id
  have e2 := hO _ ok.arrive
  have e3 := hO _ ok.frm
  have e4 := hO _ ok.to
  have e5 := hO _ ok.board
  have e6 := hO _ ok.car
  have e7 := hO _ ok.alight
  have e8 := hA _ ok
  simp only [Trip.cells] at e8
  have l1 := txt_len t.id
  have l2 := txt_len t.arrive
  have l3 := txt_len t.frm
  have l4 := txt_len t.to
  have l5 := txt_len t.board
  have l6 := txt_len t.car
  have l7 := txt_len t.alight
  unfold story came inAt
  by_cases c3 : 0 ≤ t.alight
  · simp -implicitDefEqProofs (disch := first | omega | (simp <;> omega) | assumption) [ht, e1, e2, e3, e4, e5, e6, e7, e8, c3, phase]
  by_cases c4 : 0 ≤ t.board
  · simp -implicitDefEqProofs (disch := first | omega | (simp <;> omega) | assumption) [ht, e1, e2, e3, e4, e5, e6, e7, e8, c3, c4, phase]
  · simp -implicitDefEqProofs (disch := first | omega | (simp <;> omega) | assumption) [ht, e1, e2, e3, e4, e5, e6, e7, e8, c3, c4, phase]

def Law51_alive (g : List AV → Option (List AV)) : Prop := g [] = some [bo true]
theorem txt_small : txt 0 = [48] ∧ txt 1 = [49] ∧ txt 2 = [50] ∧ txt 5 = [53] := by decide
theorem law51_alive_run {Γ : Env} {M : Nat} (h : Story (Γ 7)) : Law51_alive (run Γ M law51_alive_f) := by
  have e := h ⟨[⟨0, 5, 1, 2, -1, -1, -1⟩], [], 0⟩ 0 ⟨by simp [maxLen_eq], by simp only [List.mem_singleton, forall_eq]; constructor <;> (unfold InI64; simp), by simp, by simp, by unfold InI64; simp⟩ (by unfold InI64; simp)
  obtain ⟨t0, t1, t2, t5⟩ := txt_small
  simp [story, came, t0, t1, t2, t5] at e
  simp -implicitDefEqProofs [Law51_alive, e]

/-- The law's own answer. -/
def Law51 (g : List AV → Option (List AV)) : Prop := ∀ (l : Log) (id : Int), l.Ok → InI64 id → g [.agg l.cells, i64 id] = some [bo true]
theorem law51_ReplayStories_run {Γ : Env} {M : Nat} (hA : Law51_alive (Γ 5)) (hO : Of (Γ 6)) (hS : Story (Γ 7)) (hF : Few (Γ 8)) : Law51 (run Γ M law51_ReplayStories_f) := by
  intro l id h hid
  have hmax : maxStr = 9223372036854775807 := rfl
  have hA : Γ 5 [] = some [bo true] := hA
  obtain ⟨b, hb⟩ := hF l h
  have e0 := hS l id h hid
  simp only [Log.cells] at hb e0
  cases b
  · simp -implicitDefEqProofs (disch := omega) [hb]
  by_cases c1 : id < 0
  · rw [dif_neg (by omega)] at e0
    simp -implicitDefEqProofs (disch := omega) [hb, e0, hA]
  by_cases c2 : (l.trips.length : Int) ≤ id
  · rw [dif_neg (by omega)] at e0
    simp -implicitDefEqProofs (disch := omega) [hb, e0, hA]
  have hlt : id.toNat < l.trips.length := by omega
  rw [dif_pos (by omega)] at e0
  obtain ⟨t, ht⟩ : ∃ t, l.trips[id.toNat]'hlt = t := ⟨_, rfl⟩
  have ok : t.Ok := by rw [← ht]; exact h.trips _ (List.getElem_mem hlt)
  rw [ht] at e0
  have e1 := hO _ ok.id
  have e2 := hO _ ok.arrive
  have e3 := hO _ ok.frm
  have e4 := hO _ ok.to
  have e5 := hO _ ok.board
  have e6 := hO _ ok.car
  have e7 := hO _ ok.alight
  have l1 := txt_len t.id
  have l2 := txt_len t.arrive
  have l3 := txt_len t.frm
  have l4 := txt_len t.to
  have l5 := txt_len t.board
  have l6 := txt_len t.car
  have l7 := txt_len t.alight
  unfold story came inAt at e0
  by_cases c3 : 0 ≤ t.alight
  · simp only [c3, if_true] at e0
    simp -implicitDefEqProofs (disch := first | omega | (simp <;> omega) | assumption) [hb, e0, hA, ht, e1, e2, e3, e4, e5, e6, e7, c3]
  by_cases c4 : 0 ≤ t.board
  · simp only [c3, c4, if_true, if_false] at e0
    simp -implicitDefEqProofs (disch := first | omega | (simp <;> omega) | assumption) [hb, e0, hA, ht, e1, e2, e3, e4, e5, e6, e7, c3, c4]
  · simp only [c3, c4, if_false] at e0
    simp -implicitDefEqProofs (disch := first | omega | (simp <;> omega) | assumption) [hb, e0, hA, ht, e1, e2, e3, e4, e5, e6, e7, c3, c4]

/-! ### Together -/
def replayTab : Tab := [(0, law51_ReplayStories_f, 2), (5, law51_alive_f, 0), (6, ref02_Of_f, 1), (7, replay_Story_f, 2), (8, law51_few_f, 1), (50, digits_Of_f, 1), (51, trip_At_f, 1), (52, ref02_Text_f, 1), (72, digits_Text_f, 1), (73, ref02_plain_f, 1), (74, ref01_Size_f, 1), (80, digits_plain_f, 1), (81, nums_Size_f, 1)]
theorem replay_law : Law51 (env replayTab noEnv (maxLen + 1) 40 0) := by
  have hM : maxLen < maxLen + 1 := by omega
  have hm := maxLen_eq
  have p20 : ∀ (k n : Nat), k < 20 → Ref02_plain (k + 1) (env replayTab noEnv (maxLen + 1) (n + (k + 1)) 73) := by
    intro k
    induction k with
    | zero =>
      intro n _ m hmm
      rw [show n + (0 + 1) = n + 1 by omega, env_run rfl rfl]
      exact ref02_plain_run (by omega) (fun h => by omega) m hmm
    | succ k ih =>
      intro n hk m hmm
      rw [show n + (k + 1 + 1) = (n + (k + 1)) + 1 by omega, env_run rfl rfl]
      exact ref02_plain_run (by omega) (fun _ => ih n (by omega)) m hmm
  have s1 (n : Nat) : Size (env replayTab noEnv (maxLen + 1) (n + 1) 74) := fun m hmm => by rw [env_run rfl rfl]; exact ref01_Size_run _ m hmm
  have s2 (n : Nat) : Size (env replayTab noEnv (maxLen + 1) (n + 1) 81) := fun m hmm => by rw [env_run rfl rfl]; exact nums_Size_run _ m hmm
  have d1 (n : Nat) : Digits_plain (env replayTab noEnv (maxLen + 1) (n + 1) 80) := fun m hmm => by rw [env_run rfl rfl]; exact digits_plain_run _ (by omega) m hmm
  have t1 (n : Nat) : Of (env replayTab noEnv (maxLen + 1) (n + 21) 52) := fun m hmm => by rw [env_run rfl rfl]; exact ref02_Text_run (p20 19 n (by omega)) (s1 _) m hmm
  have t2 (n : Nat) : Of (env replayTab noEnv (maxLen + 1) (n + 2) 72) := fun m hmm => by rw [env_run rfl rfl]; exact digits_Text_run (d1 _) (s2 _) m hmm
  have o1 (n : Nat) : Of (env replayTab noEnv (maxLen + 1) (n + 22) 6) := fun m hmm => by rw [env_run rfl rfl]; exact ref02_Of_run (t1 _) m hmm
  have o2 (n : Nat) : Of (env replayTab noEnv (maxLen + 1) (n + 3) 50) := fun m hmm => by rw [env_run rfl rfl]; exact digits_Of_run (t2 _) m hmm
  have a1 (n : Nat) : TripAt (env replayTab noEnv (maxLen + 1) (n + 1) 51) := fun m hmm => by rw [env_run rfl rfl]; exact trip_At_run _ m hmm
  have st (n : Nat) : Story (env replayTab noEnv (maxLen + 1) (n + 4) 7) := fun l id h hid => by rw [env_run rfl rfl]; exact replay_Story_run (o2 _) (a1 _) l id h hid
  have al (n : Nat) : Law51_alive (env replayTab noEnv (maxLen + 1) (n + 5) 5) := by unfold Law51_alive; rw [env_run rfl rfl]; exact law51_alive_run (st _)
  have fw (n : Nat) : Few (env replayTab noEnv (maxLen + 1) (n + 1) 8) := fun l h => by rw [env_run rfl rfl]; exact few_run hM l h
  intro l id h hid
  rw [env_run rfl rfl]
  exact law51_ReplayStories_run (al 34) (o1 17) (st 35) (fw 38) l id h hid
end Go.Am
