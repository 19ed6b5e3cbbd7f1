/- Law 19: the walk of LexerWithin. -/
import Derived.Test.YtnjjnokckgjecaaLexIn
set_option linter.unusedVariables false
set_option linter.unusedSimpArgs false
set_option maxRecDepth 10000
set_option maxHeartbeats 1000000
namespace Go.Am
theorem cut_nat (s : List UInt8) (k : Nat) (h : k ≤ s.length) : cut s k = k := by unfold cut; omega
theorem within_l2 (Γ : Env) (M : Nat) (hM : 3010 < M) (h37 : PlaceC (Γ 37)) (s : List UInt8) (hs : s.length ≤ 1000) (ts : List Tk) (i : Nat) (hi : i ≤ 5000) (e l c : Int) (t : Tk) (ht : ts[i]? = some t) (lo p : Nat) (hlo : lo ≤ p) (hp : okTk s p t) :
    ∀ s0, nrm [0, 3, 4, 5, 6, 7] [4] s0 = ⟨[(0, st s), (3, .c (.vs 5 (ts.map Tk.cells))), (4, .loc 4 0 0), (5, i64 lo), (6, i64 i), (7, bo false)], [(4, ⟨3, [[i64 e, i64 l, i64 c]]⟩)]⟩ →
      lp (exec Γ M law19_LexerWithin_l2) M s0 = some (.ex 2, ⟨[(0, st s), (3, .c (.vs 5 (ts.map Tk.cells))), (4, .loc 4 0 0), (5, i64 p), (6, i64 i), (7, bo true)], [(4, ⟨3, [[i64 e, i64 l, i64 c]]⟩)]⟩) := by
  obtain ⟨hp1, hp2, hp3, _⟩ := hp
  have e37 : ∀ k : Nat, k ≤ s.length → Γ 37 [st s, i64 k] = some [i64 (plc s k).1, i64 (plc s k).2] := by
    intro k hk
    have := h37 s k (by omega) (by unfold InI64; omega)
    rwa [cut_nat s k hk] at this
  obtain ⟨hil, hti⟩ := List.getElem?_eq_some_iff.1 ht
  obtain ⟨ax, s', ⟨rfl, rfl⟩, hin⟩ : ∃ ax s', (ax = .ex 2 ∧ s' = ⟨[(0, st s), (3, .c (.vs 5 (ts.map Tk.cells))), (4, .loc 4 0 0), (5, i64 p), (6, i64 i), (7, bo true)], [(4, ⟨3, [[i64 e, i64 l, i64 c]]⟩)]⟩) ∧ ∀ s0, nrm [0, 3, 4, 5, 6, 7] [4] s0 = ⟨[(0, st s), (3, .c (.vs 5 (ts.map Tk.cells))), (4, .loc 4 0 0), (5, i64 lo), (6, i64 i), (7, bo false)], [(4, ⟨3, [[i64 e, i64 l, i64 c]]⟩)]⟩ → lp (exec Γ M law19_LexerWithin_l2) M s0 = some (ax, s') := by
    refine lp_all (fun q : Nat × Bool => ⟨[(0, st s), (3, .c (.vs 5 (ts.map Tk.cells))), (4, .loc 4 0 0), (5, i64 q.1), (6, i64 i), (7, bo q.2)], [(4, ⟨3, [[i64 e, i64 l, i64 c]]⟩)]⟩) (fun q => lo ≤ q.1 ∧ q.1 ≤ p ∧ (q.2 = true → q.1 = p)) (fun q => p - q.1 + (if q.2 then 0 else 1)) _ (lo, false) M (by simp) ⟨Nat.le_refl _, hlo, by simp⟩ (by simp; omega) ?_
    rintro ⟨k, b⟩ ⟨hk1, hk2, hk3⟩
    simp only at hk1 hk2 hk3 ⊢
    cases b with
    | true =>
      obtain rfl := hk3 rfl
      simp -implicitDefEqProofs (disch := first | omega | assumption) [hp1]
    | false =>
      have hk : k ≤ s.length := by omega
      have e1 := e37 k hk
      have hkb := plc_bound s k
      by_cases hkp : k = p
      · subst hkp
        rw [hp2, hp3] at e1
        simp -implicitDefEqProofs (disch := first | omega | assumption) [hk, e1, hil, hti]
        exact ⟨k, rfl, ⟨by omega, by omega, rfl⟩, by omega⟩
      · have hne : ¬ ((plc s k).1 = t.l ∧ (plc s k).2 = t.c) := fun h => hkp (plc_inj s (h.1.trans hp2.symm) (h.2.trans hp3.symm))
        obtain ⟨u, v, hu, hv⟩ : ∃ u v, (plc s k).1 = u ∧ (plc s k).2 = v := ⟨_, _, rfl, rfl⟩
        rw [hu, hv] at e1 hne
        by_cases hul : u = t.l
        · have hvc : ¬ v = t.c := fun h => hne ⟨hul, h⟩
          simp -implicitDefEqProofs (disch := first | omega | assumption) [hk, e1, hil, hti, hul, hvc]
          exact ⟨k + 1, by simp, ⟨by omega, by omega⟩, by omega⟩
        · simp -implicitDefEqProofs (disch := first | omega | assumption) [hk, e1, hil, hti, hul]
          exact ⟨k + 1, by simp, ⟨by omega, by omega⟩, by omega⟩
  exact hin
theorem within_l3 (Γ : Env) (M : Nat) (hM : 3010 < M) (h37 : PlaceC (Γ 37)) (s : List UInt8) (hs : s.length ≤ 1000) (ts : List Tk) (hts : ts.length ≤ 3000) (e l c : Int) (hw : wi s 0 s.length ts) :
    ∀ s0, nrm [0, 3, 4, 5, 6] [4] s0 = ⟨[(0, st s), (3, .c (.vs 5 (ts.map Tk.cells))), (4, .loc 4 0 0), (5, i64 (0 : Nat)), (6, i64 (0 : Nat))], [(4, ⟨3, [[i64 e, i64 l, i64 c]]⟩)]⟩ →
      lp (exec Γ M law19_LexerWithin_l3) M s0 = some (.ex 0, ⟨[(0, st s), (3, .c (.vs 5 (ts.map Tk.cells))), (4, .loc 4 0 0)], [(4, ⟨3, [[i64 e, i64 l, i64 c]]⟩)]⟩) := by
  obtain ⟨ax, s', ⟨rfl, rfl⟩, hin⟩ : ∃ ax s', (ax = .ex 0 ∧ s' = ⟨[(0, st s), (3, .c (.vs 5 (ts.map Tk.cells))), (4, .loc 4 0 0)], [(4, ⟨3, [[i64 e, i64 l, i64 c]]⟩)]⟩) ∧ ∀ s0, nrm [0, 3, 4, 5, 6] [4] s0 = ⟨[(0, st s), (3, .c (.vs 5 (ts.map Tk.cells))), (4, .loc 4 0 0), (5, i64 (0 : Nat)), (6, i64 (0 : Nat))], [(4, ⟨3, [[i64 e, i64 l, i64 c]]⟩)]⟩ → lp (exec Γ M law19_LexerWithin_l3) M s0 = some (ax, s') := by
    refine lp_all (fun q : Nat × Nat => ⟨[(0, st s), (3, .c (.vs 5 (ts.map Tk.cells))), (4, .loc 4 0 0), (5, i64 q.2), (6, i64 q.1)], [(4, ⟨3, [[i64 e, i64 l, i64 c]]⟩)]⟩) (fun q => q.1 ≤ ts.length ∧ q.2 ≤ s.length ∧ wi s q.2 s.length (ts.drop q.1)) (fun q => ts.length - q.1) _ (0, 0) M (by simp) ⟨by omega, by omega, by simpa using hw⟩ (by simp only; omega) ?_
    rintro ⟨i, a⟩ ⟨hi, ha, hwi⟩
    simp only at hi ha hwi ⊢
    by_cases hlt : i < ts.length
    · rw [List.drop_eq_getElem_cons hlt] at hwi
      obtain ⟨p, hap, hok, hwr⟩ := hwi
      have hti := List.getElem?_eq_getElem hlt
      obtain ⟨t, ht⟩ : ∃ t, ts[i]'hlt = t := ⟨_, rfl⟩
      rw [ht] at hok hti
      have hl2 := within_l2 Γ M hM h37 s hs ts i (by omega) e l c t hti a p hap hok ⟨[(0, st s), (3, .c (.vs 5 (ts.map Tk.cells))), (4, .loc 4 0 0), (5, i64 a), (6, i64 i), (7, bo false)], [(4, ⟨3, [[i64 e, i64 l, i64 c]]⟩)]⟩ (by simp)
      simp only [bo] at hl2
      obtain ⟨hp1, hp2, hp3, hp4⟩ := hok
      rcases hp4 with ⟨k3, k4⟩ | ⟨k3, k4, k5⟩
      · by_cases hpl : p < s.length
        · have h10 : ((s[p]'hpl).toNat : Int) = 10 := by
            have := k4 hpl
            rw [List.getElem?_eq_getElem hpl, Option.some.injEq] at this
            rw [this]; rfl
          simp -implicitDefEqProofs (disch := first | omega | assumption) [hlt, hl2, ht, k3, hpl, hp1, h10]
          exact ⟨i + 1, p, ⟨rfl, by simp⟩, ⟨by omega, hp1, hwr⟩, by omega⟩
        · simp -implicitDefEqProofs (disch := first | omega | assumption) [hlt, hl2, ht, k3, hpl, hp1]
          exact ⟨i + 1, p, ⟨rfl, by simp⟩, ⟨by omega, hp1, hwr⟩, by omega⟩
      · have hif : (p : Int) ≤ p + t.tx.length ∧ (p : Int) + t.tx.length ≤ s.length := by omega
        have htk : ((p : Int) + t.tx.length).toNat - p = t.tx.length := by omega
        simp -implicitDefEqProofs (disch := first | omega | assumption) [hlt, hl2, ht, k3, k5, hp1, hif, htk]
        exact ⟨i + 1, p, ⟨rfl, by simp⟩, ⟨by omega, hp1, hwr⟩, by omega⟩
    · obtain rfl : i = ts.length := by omega
      simp -implicitDefEqProofs (disch := first | omega | assumption)
  exact hin
theorem scl_len (s : List UInt8) : ∀ (f a : Nat) (l c : Int) (ts : List Tk), a ≤ s.length → (1 ≤ l ∧ l ≤ a + 1) → (1 ≤ c ∧ c ≤ a + 1) → ts.length ≤ a → (scl s f a l c ts).ts.length ≤ s.length + 1
  | 0, a, l, c, ts, ha, _, _, h => by simp only [scl]; omega
  | f + 1, a, l, c, ts, ha, hl, hc, h => by
    simp only [scl]
    split
    · rename_i hlt
      cases hx : nx s a l c with
      | err e => simp
      | go t a' l' c' =>
        obtain ⟨g1, g2, g3, g4, g5⟩ := nx_go hlt hl hc hx
        exact scl_len s f a' l' c' (ts ++ t) g2 g3 g4 (by simp only [List.length_append]; omega)
    · simp only [finT]; split
      · simp only [List.length_append, List.length_cons, List.length_nil]; omega
      · omega
def fnd (s : List UInt8) (l c : Int) : Nat → Bool
  | 0 => false
  | k + 1 => fnd s l c k || (decide ((plc s k).1 = l) && decide ((plc s k).2 = c))
theorem fnd_true (s : List UInt8) (l c : Int) {k : Nat} (h1 : (plc s k).1 = l) (h2 : (plc s k).2 = c) : ∀ n, k < n → fnd s l c n = true
  | 0, h => by omega
  | n + 1, h => by
    simp only [fnd, Bool.or_eq_true]
    by_cases hk : k < n
    · exact .inl (fnd_true s l c h1 h2 n hk)
    · obtain rfl : k = n := by omega
      exact .inr (by simp [h1, h2])
theorem within_l1 (Γ : Env) (M : Nat) (hM : 3010 < M) (h37 : PlaceC (Γ 37)) (s : List UInt8) (hs : s.length ≤ 1000) (T : AV) (e l c : Int) :
    ∀ s0, nrm [0, 3, 4, 10, 11] [4] s0 = ⟨[(0, st s), (3, T), (4, .loc 4 0 0), (10, bo (fnd s l c 0)), (11, i64 (0 : Nat))], [(4, ⟨3, [[i64 e, i64 l, i64 c]]⟩)]⟩ →
      lp (exec Γ M law19_LexerWithin_l1) M s0 = some (.ex 4, ⟨[(3, T), (10, bo (fnd s l c s.length))], []⟩) := by
  have e37 : ∀ k : Nat, k ≤ s.length → Γ 37 [st s, i64 k] = some [i64 (plc s k).1, i64 (plc s k).2] := by
    intro k hk
    have := h37 s k (by omega) (by unfold InI64; omega)
    rwa [cut_nat s k hk] at this
  obtain ⟨ax, s', ⟨rfl, rfl⟩, hin⟩ : ∃ ax s', (ax = .ex 4 ∧ s' = ⟨[(3, T), (10, bo (fnd s l c s.length))], []⟩) ∧ ∀ s0, nrm [0, 3, 4, 10, 11] [4] s0 = ⟨[(0, st s), (3, T), (4, .loc 4 0 0), (10, bo (fnd s l c 0)), (11, i64 (0 : Nat))], [(4, ⟨3, [[i64 e, i64 l, i64 c]]⟩)]⟩ → lp (exec Γ M law19_LexerWithin_l1) M s0 = some (ax, s') := by
    refine lp_all (fun k : Nat => ⟨[(0, st s), (3, T), (4, .loc 4 0 0), (10, bo (fnd s l c k)), (11, i64 k)], [(4, ⟨3, [[i64 e, i64 l, i64 c]]⟩)]⟩) (fun k => k ≤ s.length) (fun k => s.length - k) _ 0 M (by simp) (by omega) (by omega) ?_
    intro k hk
    have e1 := e37 k hk
    have hkb := plc_bound s k
    obtain ⟨u, v, hu, hv⟩ : ∃ u v, (plc s k).1 = u ∧ (plc s k).2 = v := ⟨_, _, rfl, rfl⟩
    have hf : fnd s l c (k + 1) = (fnd s l c k || (decide (u = l) && decide (v = c))) := by simp only [fnd, hu, hv]
    rw [hu, hv] at e1
    by_cases hlt : k < s.length
    · cases hb : fnd s l c k with
      | true =>
        simp -implicitDefEqProofs (disch := first | omega | assumption) [hlt, e1]
        exact ⟨k + 1, ⟨by rw [hf, hb]; rfl, by simp⟩, by omega, by omega⟩
      | false =>
        by_cases hul : u = l
        · simp -implicitDefEqProofs (disch := first | omega | assumption) [hlt, e1, hul]
          exact ⟨k + 1, ⟨by rw [hf, hb]; simp [hul], by simp⟩, by omega, by omega⟩
        · simp -implicitDefEqProofs (disch := first | omega | assumption) [hlt, e1, hul]
          exact ⟨k + 1, ⟨by rw [hf, hb]; simp [hul], by simp⟩, by omega, by omega⟩
    · obtain rfl : k = s.length := by omega
      simp -implicitDefEqProofs (disch := first | omega | assumption)
  exact hin
theorem law19_LexerWithin_run {Γ : Env} (M : Nat) (hM : 3010 < M) (h37 : PlaceC (Γ 37)) (h35 : ScanC (Γ 35)) (h34 : AliveC (Γ 34)) (s : List UInt8) (hs : s.length ≤ maxLen) :
    run Γ M law19_LexerWithin_f [st s] = some [bo true] := by
  by_cases hl : 1000 < (s.length : Int)
  · simp -implicitDefEqProofs (disch := omega) [hl]
  have e35 := h35 s (by omega)
  have e34 : Γ 34 [] = some [bo true] := h34
  have hlen := scl_len s (s.length + 1) 0 1 1 [] (by omega) (by omega) (by omega) (by simp)
  change (scanR s).ts.length ≤ s.length + 1 at hlen
  have hw := scanR_wi s
  obtain ⟨R, hR⟩ : ∃ R, scanR s = R := ⟨_, rfl⟩
  rw [hR] at e35 hw hlen
  rcases hw with ⟨h0, h1, h2, h3, h4⟩ | ⟨h0, h1, k, hk, h2, h3⟩
  · have hl3 := within_l3 Γ M hM h37 s (by omega) R.ts (by omega) R.e R.l R.c h4 ⟨[(0, st s), (3, .c (.vs 5 (R.ts.map Tk.cells))), (4, .loc 4 0 0), (5, i64 (0 : Nat)), (6, i64 (0 : Nat))], [(4, ⟨3, [[i64 R.e, i64 R.l, i64 R.c]]⟩)]⟩ (by simp)
    rw [h0, h1, h2] at e35 hl3
    simp at hl3
    have hpos : 0 < R.ts.length := by cases hts : R.ts with | nil => exact (h3 hts).elim | cons x y => simp
    simp -implicitDefEqProofs (disch := first | omega | assumption) [hl, e35, e34, hl3, hpos]
  · have hl3 := within_l3 Γ M hM h37 s (by omega) [] (by simp) R.e R.l R.c (by simp [wi]) ⟨[(0, st s), (3, .c (.vs 5 (([] : List Tk).map Tk.cells))), (4, .loc 4 0 0), (5, i64 (0 : Nat)), (6, i64 (0 : Nat))], [(4, ⟨3, [[i64 R.e, i64 R.l, i64 R.c]]⟩)]⟩ (by simp)
    have hl1 := within_l1 Γ M hM h37 s (by omega) (.c (.vs 5 [])) R.e R.l R.c ⟨[(0, st s), (3, .c (.vs 5 [])), (4, .loc 4 0 0), (10, bo false), (11, i64 (0 : Nat))], [(4, ⟨3, [[i64 R.e, i64 R.l, i64 R.c]]⟩)]⟩ (by simp [fnd])
    rw [fnd_true s R.l R.c h2 h3 _ hk] at hl1
    rw [h1] at e35
    have he : ¬ R.e = 0 := by omega
    simp at hl3 hl1 e35
    simp -implicitDefEqProofs (disch := first | omega | assumption) [hl, e35, e34, hl3, hl1, he]
end Go.Am
