/- Law 66: where a car is, tick by tick, and when its door is open: the reference's walks. -/
import Derived.Test.YtkjlejpaajcahaaStN
set_option linter.unusedVariables false
set_option linter.unusedSimpArgs false
set_option maxRecDepth 10000
set_option maxHeartbeats 2000000
namespace Go.Am
theorem at_bound {l : List Leg} {t : Int} (hw : WayI l) (ht : -1073741824 ≤ t ∧ t ≤ 1073741824) {g : Leg} (hg : g ∈ l) : -10737418240 ≤ g.dir * (t - g.tick) ∧ g.dir * (t - g.tick) ≤ 10737418240 := by
  have h := hw.ok g hg
  have h1 := h.tick
  have h3 := h.dir
  have : g.dir = -1 ∨ g.dir = 0 ∨ g.dir = 1 := by omega
  rcases this with h | h | h <;> rw [h] <;> omega
def optV (t : Int) (o : Option Leg) : Int × Bool := match o with
  | some g => (g.at t, g.door)
  | none => (0, false)
theorem tickV_opt (l : List Leg) (t : Int) : tickV l t = optV t (lastLe t none l) := rfl
def tkD (x : Int × Bool) : List D := [.int .i64 x.1, .bool x.2]
def At25C (g : List AV → Option (List AV)) : Prop := ∀ (l : List Leg) (t : Int), WayI l → (-1073741824 ≤ t ∧ t ≤ 1073741824) → g [vL l, i64 t] = some [.agg (tkD (tickV l t)), bo (lastLe t none l).isSome]
theorem ref25_At_run (Γ : Env) (M : Nat) (hM : 100 < M) : At25C (run Γ M ref25_At_f) := by
  intro l t hw ht
  have hfew := hw.few
  obtain ⟨ax, s', ⟨rfl, rfl⟩, hin⟩ : ∃ ax s', (ax = .ex 0 ∧ s' = ⟨[(4, .loc 4 0 0), (6, .loc 6 0 0), (7, bo (lastLe t none l).isSome)], [(4, ⟨2, [[i64 0, bo false]]⟩), (6, ⟨2, [[i64 (tickV l t).1, bo (tickV l t).2]]⟩)]⟩) ∧ ∀ s0, nrm [0, 1, 4, 6, 7, 8] [4, 6] s0 = ⟨[(0, vL l), (1, i64 t), (4, .loc 4 0 0), (6, .loc 6 0 0), (7, bo false), (8, i64 (0 : Nat))], [(4, ⟨2, [[i64 0, bo false]]⟩), (6, ⟨2, [[i64 0, bo false]]⟩)]⟩ → lp (exec Γ M ref25_At_l1) M s0 = some (ax, s') := by
    refine lp_all (fun q : Nat × Int × Bool × Bool => ⟨[(0, vL l), (1, i64 t), (4, .loc 4 0 0), (6, .loc 6 0 0), (7, bo q.2.2.2), (8, i64 q.1)], [(4, ⟨2, [[i64 0, bo false]]⟩), (6, ⟨2, [[i64 q.2.1, bo q.2.2.1]]⟩)]⟩) (fun q => q.1 ≤ l.length ∧ (q.2.1, q.2.2.1) = optV t (lastLe t none (l.take q.1)) ∧ q.2.2.2 = (lastLe t none (l.take q.1)).isSome) (fun q => l.length - q.1) _ (0, 0, false, false) M (by simp) ⟨by simp, by simp [lastLe, optV], by simp [lastLe]⟩ (by dsimp only; omega) ?_
    rintro ⟨k, p, d, is⟩ ⟨h1, h2, h3⟩
    dsimp only at h1 h2 h3 ⊢
    by_cases hlt : k < l.length
    · obtain ⟨g, hg⟩ : ∃ g, l[k]'hlt = g := ⟨_, rfl⟩
      have hgm : g ∈ l := by rw [← hg]; exact List.getElem_mem hlt
      have hb := at_bound hw ht hgm
      have b1 := (hw.ok g hgm).tick
      have b2 := (hw.ok g hgm).pos
      have hs : lastLe t none (l.take (k + 1)) = if g.tick ≤ t then some g else lastLe t none (l.take k) := by
        rw [List.take_succ_eq_append_getElem hlt, lastLe_snoc, hg]
      by_cases c : g.tick ≤ t
      · rw [if_pos c] at hs
        simp -implicitDefEqProofs (disch := first | omega | assumption) [-Bool.exists_bool, hlt, hg, c]
        exact ⟨k + 1, _, _, _, ⟨⟨rfl, by omega⟩, rfl, rfl⟩, ⟨by omega, by rw [hs]; rfl, by rw [hs]; rfl⟩, by omega⟩
      · rw [if_neg c] at hs
        simp -implicitDefEqProofs (disch := first | omega | assumption) [-Bool.exists_bool, hlt, hg, c]
        exact ⟨k + 1, p, d, is, ⟨⟨rfl, by omega⟩, rfl, rfl⟩, ⟨by omega, by rw [hs]; exact h2, by rw [hs]; exact h3⟩, by omega⟩
    · obtain rfl : k = l.length := by omega
      rw [List.take_length] at h2 h3
      rw [tickV_opt, ← h2, ← h3]
      simp -implicitDefEqProofs (disch := first | omega | assumption)
  simp -implicitDefEqProofs (disch := first | omega | (simp <;> fail) | assumption) [hin, tkD]

def All25C (g : List AV → Option (List AV)) : Prop := ∀ (l : List Leg) (H a : Int) (h0 : 0 < l.length), WayI l → (l[0]'h0).tick = a → (-1 ≤ H ∧ H ≤ 1073741824) → H - a ≤ 300 → g [vL l, i64 H] = some [.c (.vs 2 ((tB (tickV l) a (H - a).toNat).map tkD))]
theorem ref25_All_run (Γ : Env) (M : Nat) (hM : 400 < M) (h113 : At25C (Γ 113)) : All25C (run Γ M ref25_All_f) := by
  intro l H a h0 hw ha hH hHa
  have hfew := hw.few
  obtain ⟨n, hn⟩ : ∃ n, (H - a).toNat = n := ⟨_, rfl⟩
  rw [hn]
  have hz : ¬ l.length = 0 := by omega
  obtain ⟨g, hg⟩ : ∃ g, l[0]'h0 = g := ⟨_, rfl⟩
  rw [hg] at ha
  have b0 := (hw.ok g (by rw [← hg]; exact List.getElem_mem h0)).tick
  rw [ha] at b0
  have hrow0 : (l.map Leg.cells)[0]? = some g.cells := by simp [h0, hg]
  obtain ⟨ax, s', ⟨rfl, rfl⟩, hin⟩ : ∃ ax s', (ax = .ex 0 ∧ s' = ⟨[(5, .sl 5 n 0 n)], [(5, ⟨2, (tB (tickV l) a n).map (toAV ∘ tkD)⟩)]⟩) ∧ ∀ s0, nrm [0, 1, 5, 6] [5, 30] s0 = ⟨[(0, vL l), (1, i64 H), (5, .sl 5 0 0 0), (6, i64 (a + (0 : Nat)))], [(5, ⟨2, (tB (tickV l) a 0).map (toAV ∘ tkD)⟩)]⟩ → lp (exec Γ M ref25_All_l1) M s0 = some (ax, s') := by
    refine lp_all (fun q : Nat => ⟨[(0, vL l), (1, i64 H), (5, .sl 5 q 0 q), (6, i64 (a + q))], [(5, ⟨2, (tB (tickV l) a q).map (toAV ∘ tkD)⟩)]⟩) (fun q => q ≤ n) (fun q => n - q) _ 0 M (by simp) (by omega) (by omega) ?_
    intro k hk
    have hrl : ((tB (tickV l) a k).map (toAV ∘ tkD)).length = k := by rw [List.length_map, tB_len]
    have hrc := lcRows_comp 5 tkD (tB (tickV l) a k)
    have hrn := nmRows_comp 7 tkD (tB (tickV l) a k)
    by_cases hlt : k < n
    · have c1 : a + (k : Int) < H := by omega
      have e := h113 l (a + k) hw (by omega)
      have hs : (tB (tickV l) a (k + 1)).map (toAV ∘ tkD) = (tB (tickV l) a k).map (toAV ∘ tkD) ++ [toAV (tkD (tickV l (a + k)))] := by rw [tB_snoc]; simp
      generalize (tB (tickV l) a k).map (toAV ∘ tkD) = G at *
      generalize tickV l (a + k) = x at *
      generalize (lastLe (a + k) none l).isSome = is at *
      simp only [tkD] at e hs
      simp -implicitDefEqProofs (disch := first | omega | assumption) [c1, e, hrl, hrc, hrn, hs, toAV]
      exact ⟨k + 1, ⟨⟨rfl, by omega⟩, by rw [hs]; rfl⟩, by omega, by omega⟩
    · obtain rfl : k = n := by omega
      have c1 : ¬ a + (k : Int) < H := by omega
      simp -implicitDefEqProofs (disch := first | omega | assumption) [c1]
  have hin := hin ⟨[(0, vL l), (1, i64 H), (5, .sl 5 0 0 0), (6, i64 a)], [(5, ⟨2, []⟩)]⟩ (by simp [tB])
  have haR := allRows_comp tkD (tB (tickV l) a n)
  have hrl : ((tB (tickV l) a n).map (toAV ∘ tkD)).length = n := by rw [List.length_map, tB_len]
  have hF2 : ((tB (tickV l) a n).map tkD).take n = (tB (tickV l) a n).map tkD := by
    rw [List.take_of_length_le]; rw [List.length_map, tB_len]; omega
  generalize hG : (tB (tickV l) a n).map (toAV ∘ tkD) = G at *
  generalize (tB (tickV l) a n).map tkD = K at *
  simp -implicitDefEqProofs (disch := first | omega | (simp <;> fail) | assumption) [hin, hz, hrow0, Leg.cells, ha, haR, hF2, hrl, hg]
def All25N (g : List AV → Option (List AV)) : Prop := ∀ H : Int, g [vL [], i64 H] = some [.c (.vs 2 [])]
theorem ref25_All_nil (Γ : Env) (M : Nat) : All25N (run Γ M ref25_All_f) := by
  intro H
  simp -implicitDefEqProofs (disch := first | omega | (simp <;> fail) | assumption)
def Drs25C (g : List AV → Option (List AV)) : Prop := ∀ (l : List Leg) (H : Int), WayI l → (-1 ≤ H ∧ H ≤ 1073741824) → (∀ x ∈ l.head?, H - x.tick ≤ 300) → g [vL l, i64 H] = some [vS (trk H [] l)]
theorem rfd_len : ∀ (bs : List Bool) (t : Int) (p : Bool) (out : List Sp), (rfd t p out bs).length ≤ out.length + bs.length
  | [], t, p, out => by simp [rfd]
  | b :: bs, t, p, out => by
    have h1 := rfd_len bs (t + 1) b (tickS t p out b)
    have h2 : (tickS t p out b).length ≤ out.length + 1 := by
      unfold tickS; split
      · split
        · rw [setLast_len]; omega
        · simp
      · omega
    simp only [rfd, List.length_cons]; omega
theorem ref25_Doors_run (Γ : Env) (M : Nat) (hM : 400 < M) (hA : All25C (Γ 128)) (hN : All25N (Γ 128)) : Drs25C (run Γ M ref25_Doors_f) := by
  intro l H hw hH hh
  cases l with
  | nil =>
    have e : Γ 128 [.c (.vs 4 []), i64 H] = some [.c (.vs 2 [])] := hN H
    obtain ⟨M, rfl⟩ : ∃ k, M = k + 1 := ⟨M - 1, by omega⟩
    simp -implicitDefEqProofs (disch := first | omega | (simp <;> fail) | assumption) [e, lp_succ, ref25_Doors_l1_x, trk]
  | cons g0 r0 =>
  obtain ⟨l, hl⟩ : ∃ l, g0 :: r0 = l := ⟨_, rfl⟩
  have h0 : 0 < l.length := by rw [← hl]; simp
  have hg0 : l[0]'h0 = g0 := by subst hl; rfl
  have hrow0 : (l.map Leg.cells)[0]? = some g0.cells := by rw [← hl]; rfl
  have b0 := (hw.ok g0 (by simp)).tick
  obtain ⟨a, ha⟩ : ∃ a, g0.tick = a := ⟨_, rfl⟩
  have hHa := hh g0 (by simp)
  have hsame := doors_same H g0 r0 hw.up
  rw [hl] at hw hsame ⊢
  rw [ha] at b0 hHa hsame
  have eA := hA l H a h0 hw (by rw [hg0, ha]) hH hHa
  obtain ⟨n, hn⟩ : ∃ n, (H - a).toNat = n := ⟨_, rfl⟩
  rw [hn] at eA hsame
  have hnl := tB_len (tickV l) n a
  generalize tB (tickV l) a n = all at *
  have hnn : n ≤ 300 := by omega
  obtain ⟨R, hR⟩ : ∃ R, trk H [] l = R := ⟨_, rfl⟩
  rw [hR] at hsame ⊢
  have hnl2 : (all.map tkD).length = n := by rw [List.length_map, hnl]
  obtain ⟨ax, s', ⟨rfl, rfl⟩, hin⟩ : ∃ ax s', (ax = .ex 0 ∧ s' = ⟨[(6, .sl 6 R.length 0 R.length)], [(6, ⟨2, spR R⟩)]⟩) ∧ ∀ s0, nrm [0, 5, 6, 7] [6, 54] s0 = ⟨[(0, vL l), (5, .c (.vs 2 (all.map tkD))), (6, .sl 6 0 0 0), (7, i64 (0 : Nat))], [(6, ⟨2, spR []⟩)]⟩ → lp (exec Γ M ref25_Doors_l1) M s0 = some (ax, s') := by
    refine lp_all (fun q : List Sp × Nat × Bool => ⟨[(0, vL l), (5, .c (.vs 2 (all.map tkD))), (6, .sl 6 q.1.length 0 q.1.length), (7, i64 q.2.1)], [(6, ⟨2, spR q.1⟩)]⟩) (fun q => q.2.1 ≤ n ∧ q.1.length ≤ q.2.1 ∧ rfd (a + q.2.1) q.2.2 q.1 ((all.map (·.2)).drop q.2.1) = R ∧ (q.2.2 = true → q.1 ≠ []) ∧ (q.2.1 = 0 ∧ q.2.2 = false ∨ ∃ h : q.2.1 - 1 < all.length, 0 < q.2.1 ∧ (all[q.2.1 - 1]'h).2 = q.2.2)) (fun q => n - q.2.1) _ ([], 0, false) M (by simp) ⟨by simp, by simp, by simpa using hsame, by simp, .inl ⟨rfl, rfl⟩⟩ (by dsimp only; omega) ?_
    rintro ⟨out, k, p⟩ ⟨h1, h2, h3, h4, h5⟩
    dsimp only at h1 h2 h3 h4 h5 ⊢
    by_cases hlt : k < n
    · have hka : k < all.length := by omega
      obtain ⟨⟨pos, b⟩, hx⟩ : ∃ x, all[k]'hka = x := ⟨_, rfl⟩
      have hrow : (all.map tkD)[k]? = some [.int .i64 pos, .bool b] := by simp [hka, hx, tkD]
      have hdr : (all.map (·.2)).drop k = b :: (all.map (·.2)).drop (k + 1) := by
        rw [List.drop_eq_getElem_cons (by simpa using hka)]; simp [hx]
      rw [hdr, rfd] at h3
      have t0 : a + (k : Int) + 1 = a + ((k + 1 : Nat) : Int) := by omega
      have h5' : k + 1 = 0 ∧ b = false ∨ 0 < k + 1 ∧ ∃ h : k + 1 - 1 < n, (all[k + 1 - 1]'(by omega)).2 = b := .inr ⟨by omega, by omega, by simp [hx]⟩
      cases b with
      | false =>
        simp only [tickS, Bool.false_eq_true, if_false] at h3
        simp -implicitDefEqProofs (disch := first | omega | (simp <;> fail) | assumption) [-Bool.exists_bool, hlt, hnl2, hnl, hrow, hx, tkD]
        exact ⟨out, k + 1, ⟨⟨rfl, by omega⟩, rfl⟩, ⟨by omega, by omega, false, by rw [← t0]; exact h3, by simp, h5'⟩, by omega⟩
      | true =>
        cases p with
        | false =>
          simp only [tickS, if_true, Bool.false_eq_true, if_false] at h3
          have u6 := fun z => nmSp z out
          have u7 := fun z => lcSp z out
          have u8 := fun a b => spR_snoc out a b
          have u5 := spR_len out
          rcases h5 with ⟨rfl, -⟩ | ⟨hk1, hk2, hk3⟩
          · generalize spR out = G at *
            simp -implicitDefEqProofs (disch := first | omega | (simp <;> fail) | assumption) [-Bool.exists_bool, -List.append_assoc, hlt, hnl2, hnl, hrow, hx, tkD, hrow0, hg0, Leg.cells, ha, u5, u6, u7, u8]
            exact ⟨out ++ [(a, a + 1)], 1, ⟨⟨by simp, by simp⟩, rfl⟩, ⟨by omega, by simp at h2 ⊢; omega, true, by simpa using h3, by simp, by simpa using h5'⟩, by omega⟩
          · generalize spR out = G at *
            have t1 : (k : Int) - 1 < n := by omega
            have t2 : ((k : Int) - 1).toNat = k - 1 := by omega
            have t3 : (0 : Int) ≤ (k : Int) - 1 := by omega
            simp -implicitDefEqProofs (disch := first | omega | (simp <;> fail) | assumption) [-Bool.exists_bool, -List.append_assoc, hlt, hnl2, hnl, hrow, hx, tkD, hrow0, hg0, Leg.cells, ha, u5, u6, u7, u8, hk1, hk2, hk3, t1, t2, t3]
            exact ⟨out ++ [(a + k, a + k + 1)], k + 1, ⟨⟨by simp, by omega⟩, rfl⟩, ⟨by omega, by simp; omega, true, by rw [← t0]; exact h3, by simp, h5'⟩, by omega⟩
        | true =>
          rcases h5 with ⟨-, h6⟩ | ⟨hk1, hk2, hk3⟩
          · simp at h6
          rcases List.eq_nil_or_concat out with rfl | ⟨o, ⟨x0, y0⟩, rfl⟩
          · exact absurd rfl (h4 rfl)
          rw [List.concat_eq_append] at *
          simp only [tickS, if_true, setLast_snoc] at h3
          have hl : o.length + 1 ≤ k := by simpa using h2
          have u1 : ((o.length : Int) + 1 - 1) = o.length := by omega
          have u3 := spR_last o x0 y0
          have u4 := fun c => spR_set o x0 y0 c
          have u5 := spR_len (o ++ [(x0, y0)])
          have u6 := fun z => nmSp z (o ++ [(x0, y0)])
          have u7 := fun z => lcSp z (o ++ [(x0, y0)])
          have u9 : (o ++ [(x0, y0)]).length = o.length + 1 := by simp
          rw [u9] at u5
          generalize spR (o ++ [(x0, y0)]) = G at *
          have t1 : (k : Int) - 1 < n := by omega
          have t2 : ((k : Int) - 1).toNat = k - 1 := by omega
          have t3 : (0 : Int) ≤ (k : Int) - 1 := by omega
          simp -implicitDefEqProofs (disch := first | omega | (simp <;> fail) | assumption) [-Bool.exists_bool, -List.append_assoc, hlt, hnl2, hnl, hrow, hx, tkD, hrow0, hg0, Leg.cells, ha, u1, u3, u4, u5, u6, u7, u9, hk1, hk2, hk3, t1, t2, t3]
          exact ⟨o ++ [(x0, a + k + 1)], k + 1, ⟨⟨by simp, by omega⟩, rfl⟩, ⟨by omega, by simp; omega, true, by rw [← t0]; exact h3, by simp, h5'⟩, by omega⟩
    · obtain rfl : k = n := by omega
      have hz : (all.map (·.2)).drop k = [] := List.drop_eq_nil_of_le (by simp; omega)
      rw [hz] at h3
      simp only [rfd] at h3
      subst h3
      simp -implicitDefEqProofs (disch := first | omega | (simp <;> fail) | assumption) [-Bool.exists_bool, hnl2, hnl]
  have hin2 := hin ⟨[(0, vL l), (5, .c (.vs 2 (all.map tkD))), (6, .sl 6 0 0 0), (7, i64 0)], [(6, ⟨2, []⟩)]⟩ (by simp [spR])
  simp -implicitDefEqProofs (disch := first | omega | (simp <;> fail) | assumption) [hin2, eA, allS, spR_len]
  exact List.take_of_length_le (by simp)
end Go.Am
