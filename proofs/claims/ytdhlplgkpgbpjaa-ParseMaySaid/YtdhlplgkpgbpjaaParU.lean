/- Law 26: the walks of ParseTexts and ParseMay. -/
import Derived.Test.YtdhlplgkpgbpjaaParT
set_option linter.unusedVariables false
set_option linter.unusedSimpArgs false
set_option maxRecDepth 10000
set_option maxHeartbeats 2000000
namespace Go.Am
/-- Are two scenarios of few segments the same? -/
def SameL (g : List AV → Option (List AV)) : Prop := ∀ a b : Scn, a.segs.length ≤ 10 → b.segs.length ≤ 10 → g [.agg a.cells, .agg b.cells] = some [bo (sameS a b)]
theorem parseR_segs (x : List UInt8) (hx : x.length ≤ 65536) : (parseR x).s.segs.length ≤ 8 := by
  rcases parseR_spec x hx with ⟨_, h⟩ | ⟨_, ⟨e, t, h, _⟩ | ⟨s', h, _, h2⟩⟩
  · rw [h]; simp [scnZ]
  · rw [h]; simp [badR, scnZ]
  · rw [h]; exact h2
theorem law26_ParseTexts_run {Γ : Env} (M : Nat) (h114 : Γ 114 [] = some [bo true]) (h116 : TextC26 (Γ 116)) (h115 : TextC26 (Γ 115)) (h28 : SameL (Γ 28)) (x : List UInt8) (hx : x.length ≤ maxLen) :
    run Γ M law26_ParseTexts_f [st x] = some [bo true] := by
  by_cases hl : 3000 < (x.length : Int)
  · simp -implicitDefEqProofs (disch := omega) [hl]
  have e116 := h116 x (by omega)
  have e115 := h115 x (by omega)
  have hs := parseR_segs x (by omega)
  have hm : (parseR x).s.segs.length ≤ 10 := by omega
  have e28 := h28 (parseR x).s (parseR x).s hm hm
  rw [sameS_self] at e28
  simp only [Scn.cells] at e28
  generalize parseR x = R at *
  simp -implicitDefEqProofs (disch := first | omega | assumption) [hl, e116, e115, e28, h114]
/-- Where it is told is somewhere in the text. -/
theorem parseR_place (x : List UInt8) (hx : x.length ≤ 65536) (he : (parseR x).e ≠ 0) : fnd x (parseR x).l (parseR x).c (x.length + 1) = true ∧ (parseR x).s = scnZ := by
  rcases parseR_spec x hx with ⟨h1, h⟩ | ⟨h1, ⟨e, t, h, h2, h3⟩ | ⟨s', h, _, h2⟩⟩
  · rw [h]
    rcases scanR_wi x with ⟨h0, _⟩ | ⟨_, _, k, hk, h4, h5⟩
    · exact (h1 h0).elim
    · exact ⟨fnd_true x _ _ h4 h5 _ (by omega), rfl⟩
  · rw [h]
    rcases scanR_wi x with ⟨_, _, _, _, hw⟩ | ⟨h0, _⟩
    · have key : ∀ (ts : List Tk) (lo : Nat), wi x lo x.length ts → ∀ t ∈ ts, ∃ p, okTk x p t := by
        intro ts
        induction ts with
        | nil => intro lo _ t ht; simp at ht
        | cons a r ih =>
          intro lo hw t ht
          obtain ⟨p, hp, hok, hr⟩ := hw
          simp only [List.mem_cons] at ht
          rcases ht with rfl | ht
          · exact ⟨p, hok⟩
          · exact ih p hr t ht
      obtain ⟨p, hp1, hp2, hp3, _⟩ := key _ _ hw t h3
      exact ⟨fnd_true x _ _ hp2 hp3 _ (by omega), rfl⟩
    · omega
  · rw [h] at he; exact (he rfl).elim
theorem may_l1 (Γ : Env) (M : Nat) (hM : 1010 < M) (h36 : PlaceC (Γ 36)) (s : List UInt8) (hs : s.length ≤ 1000) (o3 : Obj) (e l c : Int) :
    ∀ s0, nrm [0, 3, 4, 5, 6] [3, 4] s0 = ⟨[(0, st s), (3, .loc 3 0 0), (4, .loc 4 0 0), (5, bo (fnd s l c 0)), (6, i64 (0 : Nat))], [(3, o3), (4, ⟨3, [[i64 e, i64 l, i64 c]]⟩)]⟩ →
      lp (exec Γ M law26_ParseMay_l1) M s0 = some (.ex 0, ⟨[(3, .loc 3 0 0), (5, bo (fnd s l c (s.length + 1)))], [(3, o3)]⟩) := by
  have e37 : ∀ k : Nat, k ≤ s.length → Γ 36 [st s, i64 k] = some [i64 (plc s k).1, i64 (plc s k).2] := by
    intro k hk
    have := h36 s k (by omega) (by unfold InI64; omega)
    rwa [cut_nat s k hk] at this
  obtain ⟨ax, s', ⟨rfl, rfl⟩, hin⟩ : ∃ ax s', (ax = .ex 0 ∧ s' = ⟨[(3, .loc 3 0 0), (5, bo (fnd s l c (s.length + 1)))], [(3, o3)]⟩) ∧ ∀ s0, nrm [0, 3, 4, 5, 6] [3, 4] s0 = ⟨[(0, st s), (3, .loc 3 0 0), (4, .loc 4 0 0), (5, bo (fnd s l c 0)), (6, i64 (0 : Nat))], [(3, o3), (4, ⟨3, [[i64 e, i64 l, i64 c]]⟩)]⟩ → lp (exec Γ M law26_ParseMay_l1) M s0 = some (ax, s') := by
    refine lp_all (fun k : Nat => ⟨[(0, st s), (3, .loc 3 0 0), (4, .loc 4 0 0), (5, bo (fnd s l c k)), (6, i64 k)], [(3, o3), (4, ⟨3, [[i64 e, i64 l, i64 c]]⟩)]⟩) (fun k => k ≤ s.length + 1) (fun k => s.length + 1 - k) _ 0 M (by simp) (by omega) (by omega) ?_
    intro k hk
    by_cases hlt : k ≤ s.length
    · have e1 := e37 k hlt
      obtain ⟨u, v, hu, hv⟩ : ∃ u v, (plc s k).1 = u ∧ (plc s k).2 = v := ⟨_, _, rfl, rfl⟩
      have hf : fnd s l c (k + 1) = (fnd s l c k || (decide (u = l) && decide (v = c))) := by simp only [fnd, hu, hv]
      rw [hu, hv] at e1
      cases hb : fnd s l c k with
      | true =>
        simp -implicitDefEqProofs (disch := first | omega | assumption) [hlt, e1]
        exact ⟨k + 1, ⟨by rw [hf, hb]; rfl, by simp⟩, by omega, by omega⟩
      | false =>
        simp -implicitDefEqProofs (disch := first | omega | assumption) [hlt, e1]
        exact ⟨k + 1, ⟨by rw [hf, hb]; simp, by simp⟩, by omega, by omega⟩
    · obtain rfl : k = s.length + 1 := by omega
      simp -implicitDefEqProofs (disch := first | omega | assumption)
  exact hin
theorem law26_ParseMay_run {Γ : Env} (M : Nat) (hM : 1010 < M) (h114 : Γ 114 [] = some [bo true]) (h116 : TextC26 (Γ 116)) (h36 : PlaceC (Γ 36)) (h26 : ChkC (Γ 26)) (h28 : SameL (Γ 28)) (x : List UInt8) (hx : x.length ≤ maxLen) :
    run Γ M law26_ParseMay_f [st x] = some [bo true] := by
  by_cases hl : 1000 < (x.length : Int)
  · simp -implicitDefEqProofs (disch := omega) [hl]
  have e116 := h116 x (by omega)
  have hs := parseR_segs x (by omega)
  by_cases h0 : (parseR x).e = 0
  · rcases parseR_spec x (by omega) with ⟨h1, h⟩ | ⟨h1, ⟨e, t, h, h2, h3⟩ | ⟨s', h, h2, h3⟩⟩
    · rw [h] at h0; exact (h1 h0).elim
    · rw [h] at h0; exact (h2 h0).elim
    · rw [h] at e116
      have e26 := h26 s' (by rw [maxLen_eq]; omega)
      rw [h2] at e26
      simp only [Scn.cells] at e26
      simp -implicitDefEqProofs (disch := first | omega | assumption) [hl, e116, e26, h114]
  · obtain ⟨hf, hz⟩ := parseR_place x (by omega) h0
    have e28 := h28 scnZ scnZ (by simp [scnZ]) (by simp [scnZ])
    rw [sameS_self] at e28
    have hl1 := may_l1 Γ M hM h36 x (by omega) ⟨13, [scA scnZ (.c (.vs 3 []))]⟩ (parseR x).e (parseR x).l (parseR x).c ⟨[(0, st x), (3, .loc 3 0 0), (4, .loc 4 0 0), (5, bo false), (6, i64 (0 : Nat))], [(3, ⟨13, [scA scnZ (.c (.vs 3 []))]⟩), (4, ⟨3, [[i64 (parseR x).e, i64 (parseR x).l, i64 (parseR x).c]]⟩)]⟩ (by simp [fnd])
    rw [hf] at hl1
    rw [hz] at e116
    generalize parseR x = R at *
    simp [scnZ] at hl1 e28 e116
    simp -implicitDefEqProofs (disch := first | omega | assumption) [hl, e116, h0, hl1, e28, h114]
end Go.Am
