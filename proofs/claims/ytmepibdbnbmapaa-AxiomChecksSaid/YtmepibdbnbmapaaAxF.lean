/- Law 48: the walk of which logs are few enough. -/
import Derived.Test.YtmepibdbnbmapaaAxP
set_option linter.unusedVariables false
set_option linter.unusedSimpArgs false
set_option maxRecDepth 10000
set_option maxHeartbeats 4000000
namespace Go.Am
theorem chk_num {s : Scn} (h : chkS s = 0) : numOk s = true := by
  unfold chkS at h
  split at h
  · simp at h
  · rename_i h1; simpa using h1
theorem dom_of {s : Scn} (h : chkS s = 0) (h8 : s.segs.length ≤ 8) (hh : s.horizon ≤ 300) : Dom s := by
  have hn := chk_num h
  simp only [numOk, inB, bnd, Bool.and_eq_true, decide_eq_true_eq] at hn
  simp at hn
  constructor <;> first | omega | exact h8
theorem ite_min (x y : Int) : (if y < x then y else x) = min x y := by omega
theorem ite_max (x y : Int) : (if x < y then y else x) = max x y := by omega
/-- One trip. -/
theorem few_trips (Γ : Env) (M : Nat) (hM : 100 < M) (s : Scn) (l : Log) (hl : l.trips.length ≤ 60) (hI : ∀ t ∈ l.trips, t.Ok) :
    ∃ ax s', ((ax = .ex 0 ∧ s' = ⟨[(3, .loc 3 0 0)], [(3, rL48 l)]⟩ ∧ ∀ t ∈ l.trips, TripOk t) ∨ (ax = .ret ∧ s' = ⟨[(4, bo false)], []⟩)) ∧ ∀ s0, nrm [3, 5] [3] s0 = ⟨[(3, .loc 3 0 0), (5, i64 (0 : Nat))], [(3, rL48 l)]⟩ → lp (exec Γ M law48_Few_l3) M s0 = some (ax, s') := by
  refine lp_all (fun q : Nat => ⟨[(3, .loc 3 0 0), (5, i64 q)], [(3, rL48 l)]⟩) (fun q => q ≤ l.trips.length ∧ ∀ t ∈ l.trips.take q, TripOk t) (fun q => l.trips.length - q) _ 0 M (by simp) ⟨by simp, by simp⟩ (by omega) ?_
  rintro k ⟨hk, hq⟩
  by_cases hlt : k < l.trips.length
  · obtain ⟨t, ht⟩ : ∃ t, l.trips[k]'hlt = t := ⟨_, rfl⟩
    have htm : t ∈ l.trips := by rw [← ht]; exact List.getElem_mem hlt
    have hto := hI t htm
    by_cases a1 : min (min t.arrive t.board) t.alight < -1073741824
    · simp -implicitDefEqProofs (disch := first | omega | assumption) [hlt, ht, ite_min, ite_max, a1]
    by_cases a2 : 1073741824 < max (max t.arrive t.board) t.alight
    · simp -implicitDefEqProofs (disch := first | omega | assumption) [hlt, ht, ite_min, ite_max, a1, a2]
    by_cases a3 : min t.frm t.to < 0
    · simp -implicitDefEqProofs (disch := first | omega | assumption) [hlt, ht, ite_min, ite_max, a1, a2, a3]
    by_cases a4 : 127 < max t.frm t.to
    · simp -implicitDefEqProofs (disch := first | omega | assumption) [hlt, ht, ite_min, ite_max, a1, a2, a3, a4]
    by_cases a5 : t.car < -1
    · simp -implicitDefEqProofs (disch := first | omega | assumption) [hlt, ht, ite_min, ite_max, a1, a2, a3, a4, a5]
    simp -implicitDefEqProofs (disch := first | omega | assumption) [hlt, ht, ite_min, ite_max, a1, a2, a3, a4, a5]
    have hok : TripOk t := ⟨by omega, by omega, by omega, by omega, by omega, by omega⟩
    refine ⟨k + 1, by omega, ⟨by omega, fun x hx => ?_⟩, by omega⟩
    rw [List.take_succ_eq_append_getElem hlt, ht] at hx
    simp only [List.mem_append, List.mem_singleton] at hx
    rcases hx with hx | rfl
    · exact hq x hx
    · exact hok
  · obtain rfl : k = l.trips.length := by omega
    rw [List.take_length] at hq
    simp -implicitDefEqProofs (disch := first | omega | assumption)
    exact hq
theorem rise_of : ∀ w : List Leg, (∀ (j : Nat) (hj : j + 1 < w.length), (w[j]'(by omega)).tick < (w[j + 1]'hj).tick) → Rise w
  | [], _ => trivial
  | [g], _ => ⟨by simp, trivial⟩
  | g :: h :: r, hs => by
    have ih := rise_of (h :: r) fun j hj => hs (j + 1) (by simp at hj ⊢; omega)
    have h0 := hs 0 (by simp)
    simp only [List.getElem_cons_zero, List.getElem_cons_succ] at h0
    refine ⟨fun x hx => ?_, ih⟩
    simp only [List.mem_cons] at hx
    rcases hx with rfl | hx
    · exact h0
    · have := ih.1 x hx
      omega
/-- One way: its legs. -/
theorem few_legs (Γ : Env) (M : Nat) (hM : 100 < M) (l : Log) (i : Nat) (hi : i < l.legs.length) (w : List Leg) (hw : l.legs[i]'hi = w) (hwl : w.length ≤ 60) (hI : ∀ g ∈ w, g.Ok) :
    ∃ ax s', ((ax = .ex 4 ∧ s' = ⟨[(3, .loc 3 0 0), (7, i64 i)], [(3, rL48 l)]⟩ ∧ WayOk w) ∨ (ax = .ret ∧ s' = ⟨[(4, bo false)], []⟩)) ∧ ∀ s0, nrm [3, 7, 8] [3] s0 = ⟨[(3, .loc 3 0 0), (7, i64 i), (8, i64 (0 : Nat))], [(3, rL48 l)]⟩ → lp (exec Γ M law48_Few_l1) M s0 = some (ax, s') := by
  refine lp_all (fun q : Nat => ⟨[(3, .loc 3 0 0), (7, i64 i), (8, i64 q)], [(3, rL48 l)]⟩) (fun q => q ≤ w.length ∧ (∀ (j : Nat) (hj : j < w.length), j < q → LegOk (w[j]'hj)) ∧ ∀ (j : Nat) (hj : j < w.length), j < q → 0 < j → (w[j - 1]'(by omega)).tick < (w[j]'hj).tick) (fun q => w.length - q) _ 0 M (by simp) ⟨by simp, by simp, by simp⟩ (by omega) ?_
  rintro k ⟨hk, hq1, hq2⟩
  by_cases hlt : k < w.length
  · obtain ⟨g, hg⟩ : ∃ t, w[k]'hlt = t := ⟨_, rfl⟩
    have hgm : g ∈ w := by rw [← hg]; exact List.getElem_mem hlt
    have hgo := hI g hgm
    by_cases a1 : min g.tick g.pos < -1073741824
    · simp -implicitDefEqProofs (disch := first | omega | assumption) [hi, hw, hlt, hg, ite_min, ite_max, legsRow, a1]
    by_cases a2 : 1073741824 < max g.tick g.pos
    · simp -implicitDefEqProofs (disch := first | omega | assumption) [hi, hw, hlt, hg, ite_min, ite_max, legsRow, a1, a2]
    by_cases a3 : g.dir < -5
    · simp -implicitDefEqProofs (disch := first | omega | assumption) [hi, hw, hlt, hg, ite_min, ite_max, legsRow, a1, a2, a3]
    by_cases a4 : 5 < g.dir
    · simp -implicitDefEqProofs (disch := first | omega | assumption) [hi, hw, hlt, hg, ite_min, ite_max, legsRow, a1, a2, a3, a4]
    have hok : LegOk g := ⟨by omega, by omega, by omega⟩
    have hq1' : ∀ (j : Nat) (hj : j < w.length), j < k + 1 → LegOk (w[j]'hj) := fun j hj hjk => by
      rcases Nat.lt_or_ge j k with h | h
      · exact hq1 j hj h
      · obtain rfl : j = k := by omega
        rw [hg]; exact hok
    by_cases k0 : k = 0
    · subst k0
      simp -implicitDefEqProofs (disch := first | omega | assumption) [hi, hw, hlt, hg, ite_min, ite_max, legsRow, a1, a2, a3, a4]
      refine ⟨1, by omega, ⟨by omega, fun j hj h => hq1' j hj (by omega), fun j hj h h0 => by omega⟩, by omega⟩
    · have hk1 : k - 1 < w.length := by omega
      obtain ⟨g1, hg1⟩ : ∃ t, w[k - 1]'hk1 = t := ⟨_, rfl⟩
      have hk2 : (k : Int) - 1 = ((k - 1 : Nat) : Int) := by omega
      have hk3 : 0 < k := by omega
      by_cases a6 : g.tick ≤ g1.tick
      · simp -implicitDefEqProofs (disch := first | omega | assumption) [hi, hw, hlt, hg, ite_min, ite_max, legsRow, a1, a2, a3, a4, k0, hk3, hk2, hk1, hg1, a6]
      · simp -implicitDefEqProofs (disch := first | omega | assumption) [hi, hw, hlt, hg, ite_min, ite_max, legsRow, a1, a2, a3, a4, k0, hk3, hk2, hk1, hg1, a6]
        refine ⟨k + 1, by omega, ⟨by omega, fun j hj h => hq1' j hj (by omega), fun j hj h h0 => ?_⟩, by omega⟩
        rcases Nat.lt_or_ge j k with h | h
        · exact hq2 j hj h h0
        · obtain rfl : j = k := by omega
          rw [hg, hg1]; omega
  · obtain rfl : k = w.length := by omega
    simp -implicitDefEqProofs (disch := first | omega | assumption) [hi, hw, hlt, legsRow]
    exact ⟨hwl, fun g hg => by
      obtain ⟨j, hj, rfl⟩ := List.getElem_of_mem hg
      exact hq1 j hj hj, rise_of w fun j hj => hq2 (j + 1) hj hj (by omega)⟩
/-- All ways. -/
theorem few_ways (Γ : Env) (M : Nat) (hM : 100 < M) (l : Log) (hl : l.legs.length ≤ 20) (hI : ∀ w ∈ l.legs, ∀ g ∈ w, g.Ok) :
    ∃ ax s', ((ax = .ex 2 ∧ s' = ⟨[], []⟩ ∧ ∀ w ∈ l.legs, WayOk w) ∨ (ax = .ret ∧ s' = ⟨[(4, bo false)], []⟩)) ∧ ∀ s0, nrm [3, 7] [3] s0 = ⟨[(3, .loc 3 0 0), (7, i64 (0 : Nat))], [(3, rL48 l)]⟩ → lp (exec Γ M law48_Few_l2) M s0 = some (ax, s') := by
  refine lp_all (fun q : Nat => ⟨[(3, .loc 3 0 0), (7, i64 q)], [(3, rL48 l)]⟩) (fun q => q ≤ l.legs.length ∧ ∀ w ∈ l.legs.take q, WayOk w) (fun q => l.legs.length - q) _ 0 M (by simp) ⟨by simp, by simp⟩ (by omega) ?_
  rintro k ⟨hk, hq⟩
  by_cases hlt : k < l.legs.length
  · obtain ⟨w, hw⟩ : ∃ t, l.legs[k]'hlt = t := ⟨_, rfl⟩
    have hwm : w ∈ l.legs := by rw [← hw]; exact List.getElem_mem hlt
    by_cases a1 : 60 < w.length
    · have a2 : 60 < (w.length : Int) := by omega
      simp -implicitDefEqProofs (disch := first | omega | assumption) [hlt, hw, legsRow, a1, a2]
    have a2 : ¬ 60 < (w.length : Int) := by omega
    obtain ⟨ax, s', hR, hin⟩ := few_legs Γ M hM l k hlt w hw (by omega) (hI w hwm)
    have hlp := hin ⟨[(3, .loc 3 0 0), (7, i64 k), (8, i64 (0 : Nat))], [(3, rL48 l)]⟩ (by simp)
    simp at hlp
    rcases hR with ⟨rfl, rfl, hok⟩ | ⟨rfl, rfl⟩
    · simp -implicitDefEqProofs (disch := first | omega | assumption) [hlt, hw, legsRow, a1, a2, hlp]
      refine ⟨k + 1, by omega, ⟨by omega, fun x hx => ?_⟩, by omega⟩
      rw [List.take_succ_eq_append_getElem hlt, hw] at hx
      simp only [List.mem_append, List.mem_singleton] at hx
      rcases hx with hx | rfl
      · exact hq x hx
      · exact hok
    · simp -implicitDefEqProofs (disch := first | omega | assumption) [hlt, hw, legsRow, a1, a2, hlp]
  · obtain rfl : k = l.legs.length := by omega
    rw [List.take_length] at hq
    simp -implicitDefEqProofs (disch := first | omega | assumption)
    exact hq
def FewC (g : List AV → Option (List AV)) : Prop := ∀ (s : Scn) (l : Log), s.Ok → l.Ok → ∃ b, g [.agg s.cells, .agg l.cells] = some [bo b] ∧ (b = true → chkS s = 0 ∧ s.segs.length ≤ 8 ∧ Dom s ∧ LogOk l)
theorem law48_Few_run (Γ : Env) (M : Nat) (hM : 100 < M) (h26 : ChkC (Γ 26)) : FewC (run Γ M law48_Few_f) := by
  intro s l hs hl
  have e26 := h26 s hs.nsegs
  simp only [Scn.cells] at e26
  by_cases a1 : 8 < s.segs.length
  · have a2 : 8 < (s.segs.length : Int) := by omega
    refine ⟨false, ?_, by simp⟩
    simp -implicitDefEqProofs (disch := first | omega | assumption) [a1, a2]
  have a2 : ¬ 8 < (s.segs.length : Int) := by omega
  by_cases a3 : chkS s = 0
  case neg =>
    refine ⟨false, ?_, by simp⟩
    generalize chkS s = E at *
    simp -implicitDefEqProofs (disch := first | omega | assumption) [a1, a2, e26, a3]
  rw [a3] at e26
  by_cases a4 : 300 < s.horizon
  · refine ⟨false, ?_, by simp⟩
    simp -implicitDefEqProofs (disch := first | omega | assumption) [a1, a2, e26, a4]
  by_cases a5 : 60 < l.trips.length
  · have a6 : 60 < (l.trips.length : Int) := by omega
    refine ⟨false, ?_, by simp⟩
    simp -implicitDefEqProofs (disch := first | omega | assumption) [a1, a2, e26, a4, a5, a6]
  have a6 : ¬ 60 < (l.trips.length : Int) := by omega
  by_cases a7 : 20 < l.legs.length
  · have a8 : 20 < (l.legs.length : Int) := by omega
    refine ⟨false, ?_, by simp⟩
    simp -implicitDefEqProofs (disch := first | omega | assumption) [a1, a2, e26, a4, a5, a6, a7, a8]
  have a8 : ¬ 20 < (l.legs.length : Int) := by omega
  have hd := dom_of a3 (by omega) (by omega)
  obtain ⟨ax, s', hR, hin⟩ := few_trips Γ M hM s l (by omega) hl.trips
  have hlp := hin ⟨[(3, .loc 3 0 0), (5, i64 (0 : Nat))], [(3, rL48 l)]⟩ (by simp)
  simp [rL48] at hlp
  rcases hR with ⟨rfl, rfl, hok⟩ | ⟨rfl, rfl⟩
  · obtain ⟨ax, s', hR, hin⟩ := few_ways Γ M hM l (by omega) fun w hw g hg => (hl.legs w hw).2 g hg
    have hlp2 := hin ⟨[(3, .loc 3 0 0), (7, i64 (0 : Nat))], [(3, rL48 l)]⟩ (by simp)
    simp at hlp2
    rcases hR with ⟨rfl, rfl, hok2⟩ | ⟨rfl, rfl⟩
    · refine ⟨true, ?_, fun _ => ⟨a3, by omega, hd, ⟨by omega, hok, by omega, hok2⟩⟩⟩
      simp -implicitDefEqProofs (disch := first | omega | assumption) [a1, a2, e26, a4, a5, a6, a7, a8, hlp, hlp2]
    · refine ⟨false, ?_, by simp⟩
      simp -implicitDefEqProofs (disch := first | omega | assumption) [a1, a2, e26, a4, a5, a6, a7, a8, hlp, hlp2]
  · refine ⟨false, ?_, by simp⟩
    simp -implicitDefEqProofs (disch := first | omega | assumption) [a1, a2, e26, a4, a5, a6, a7, a8, hlp]
end Go.Am
