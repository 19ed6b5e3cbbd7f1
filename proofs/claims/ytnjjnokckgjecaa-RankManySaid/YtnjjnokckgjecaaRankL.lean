/- Law 15: RankPlaces and RankTells, over the functions together. -/
import Derived.Test.YtnjjnokckgjecaaRank
set_option linter.unusedVariables false
set_option linter.unusedSimpArgs false
set_option maxRecDepth 10000
set_option maxHeartbeats 2000000
namespace Go.Am
theorem law15_RankPlaces_run {Γ : Env} (M : Nat) (h248 : PlaceC15 (Γ 248)) (h247 : Γ 247 [] = some [bo true]) (p m : Int) (hp : InI64 p) (hm : InI64 m) : run Γ M law15_RankPlaces_f [i64 p, i64 m] = some [bo true] := by
  have e := h248 p m hp hm
  obtain ⟨h1, h2⟩ := hp
  obtain ⟨h3, h4⟩ := hm
  by_cases c1 : p < 1
  · rw [if_neg (by omega)] at e
    simp -implicitDefEqProofs (disch := first | omega | assumption) [c1, e, h247]
  by_cases c2 : 100 < p
  · rw [if_neg (by omega)] at e
    simp -implicitDefEqProofs (disch := first | omega | assumption) [c1, c2, e, h247]
  by_cases c3 : m < 1
  · rw [if_neg (by omega)] at e
    simp -implicitDefEqProofs (disch := first | omega | assumption) [c1, c2, c3, e, h247]
  rw [if_pos (by omega)] at e
  have b0 := plK_bounds (p := p) (m := m) (by omega) (by omega)
  have b1 := mul_le100 (p := p) (by omega) (r := m / 100) (by omega)
  have b2 := mul_le100 (p := p) (by omega) (r := m % 100) (by omega)
  have hk : plK p m = m / 100 * p + (m % 100 * p + 99) / 100 := rfl
  generalize plK p m = k at *
  have q1 : p * (m / 100) = m / 100 * p := Int.mul_comm _ _
  have q2 : p * (m % 100) = m % 100 * p := Int.mul_comm _ _
  have x1 : ¬ k < 1 := by omega
  have x2 : ¬ m < k := by omega
  have x3 : m % 100 * p ≤ 100 * (k - m / 100 * p) := by omega
  have x4 : 100 * (k - m / 100 * p) < m % 100 * p + 100 := by omega
  simp -implicitDefEqProofs (disch := first | omega | assumption) [c1, c2, c3, e, h247, x1, x2, q1, q2, x3, x4]
theorem law15_RankTells_run {Γ : Env} (M : Nat) (hM : 60000 < M) (h252 : OfC15 (Γ 252)) (h251 : CountC (Γ 251)) (h250 : CountC (Γ 250)) (h247 : Γ 247 [] = some [bo true]) (p n : Int) (l : List Int) (hp : InI64 p) : run Γ M law15_RankTells_f [i64 p, vI l, i64 n] = some [bo true] := by
  by_cases hl : 200 < l.length
  · have hl' : 200 < (l.length : Int) := by omega
    simp -implicitDefEqProofs (disch := first | omega | assumption) [hl, hl']
  have hl' : ¬ 200 < (l.length : Int) := by omega
  have e := h252 p l hp (by omega)
  have eb := h251 n l (by omega)
  have ec := h250 n l (by omega)
  by_cases c1 : p < 1
  · rw [if_neg (by omega)] at e
    simp -implicitDefEqProofs (disch := first | omega | assumption) [hl, hl', eb, ec, c1, e, h247]
  by_cases c2 : 100 < p
  · rw [if_neg (by omega)] at e
    simp -implicitDefEqProofs (disch := first | omega | assumption) [hl, hl', eb, ec, c1, c2, e, h247]
  by_cases c3 : l = []
  · rw [if_neg (by simp [c3])] at e
    have hz : l.length = 0 := by rw [c3]; rfl
    simp -implicitDefEqProofs (disch := first | omega | assumption) [hl, hl', eb, ec, c1, c2, e, h247, hz]
  rw [if_pos ⟨by omega, by omega, c3⟩] at e
  have hlen := List.length_pos_iff.2 c3
  have hmem := ofP_mem (p := p) ⟨by omega, by omega⟩ c3
  have hen := ofP_enough (p := p) ⟨by omega, by omega⟩ c3
  have hle := fun y => ofP_least (p := p) ⟨by omega, by omega⟩ c3 (y := y)
  generalize ofP p l = x at *
  have hz : ¬ (l.length : Int) = 0 := by omega
  have hcx := cnt_le x l
  have hpl : p * (l.length : Int) ≤ 20000 := by
    have := mul_le100 (p := p) ⟨by omega, by omega⟩ (r := l.length) (by omega)
    rw [Int.mul_comm] at this; omega
  have hpl0 : 0 ≤ p * (l.length : Int) := Int.mul_nonneg (by omega) (by omega)
  have ex := h250 x l (by omega)
  obtain ⟨ax, s', ⟨rfl, rfl⟩, hin⟩ : ∃ ax s', (ax = .ex 0 ∧ s' = ⟨[(0, i64 p), (1, vI l), (7, i64 x), (8, i64 0), (9, bo true)], []⟩) ∧ ∀ s0, nrm [0, 1, 7, 8, 9, 10] [] s0 = ⟨[(0, i64 p), (1, vI l), (7, i64 x), (8, i64 0), (9, bo false), (10, i64 (0 : Nat))], []⟩ → lp (exec Γ M law15_RankTells_l1) M s0 = some (ax, s') := by
    refine lp_all (fun q : Bool × Nat => ⟨[(0, i64 p), (1, vI l), (7, i64 x), (8, i64 0), (9, bo q.1), (10, i64 q.2)], []⟩) (fun q => q.2 ≤ l.length ∧ (q.1 = true ↔ x ∈ l.take q.2)) (fun q => l.length - q.2) _ (false, 0) M (by simp) ⟨by simp, by simp⟩ (by dsimp only; omega) ?_
    rintro ⟨b, k⟩ ⟨h1, h2⟩
    dsimp only at h1 h2 ⊢
    by_cases hlt : k < l.length
    · obtain ⟨z, hzz⟩ : ∃ z, l[k]'hlt = z := ⟨_, rfl⟩
      have hs := List.take_succ_eq_append_getElem hlt
      rw [hzz] at hs
      have ez := h250 z l (by omega)
      have hcz := cnt_le z l
      have hzl : z < x → ¬ p * (l.length : Int) ≤ 100 * (cntI z l : Int) := fun h => by have := hle z h; omega
      have hnx : (b || decide (z = x)) = true ↔ x ∈ l.take (k + 1) := by
        rw [hs]
        simp only [Bool.or_eq_true, decide_eq_true_eq, List.mem_append, List.mem_singleton, h2]
        constructor
        · rintro (h | h)
          · exact .inl h
          · exact .inr h.symm
        · rintro (h | h)
          · exact .inl h
          · exact .inr h.symm
      have hb : ∀ z' : Bool, (bo z') = bo z' := fun _ => rfl
      cases b with
      | true =>
        by_cases cx : z < x
        · have := hzl cx
          simp -implicitDefEqProofs (disch := first | omega | assumption) [hlt, hzz, intD, cx, ez, this]
          exact ⟨k + 1, by omega, ⟨by omega, hnx.1 (by simp)⟩, by omega⟩
        · simp -implicitDefEqProofs (disch := first | omega | assumption) [hlt, hzz, intD, cx, ez]
          exact ⟨k + 1, by omega, ⟨by omega, hnx.1 (by simp)⟩, by omega⟩
      | false =>
        by_cases cx : z < x
        · have := hzl cx
          simp -implicitDefEqProofs (disch := first | omega | assumption) [hlt, hzz, intD, cx, ez, this]
          exact ⟨k + 1, by omega, ⟨by omega, fun h => by have := hnx.2 h; simp at this; omega⟩, by omega⟩
        · by_cases cy : z = x
          · have cy' : decide (z = x) = true := decide_eq_true cy
            simp -implicitDefEqProofs (disch := first | omega | assumption) [hlt, hzz, intD, cx, ez, cy']
            exact ⟨k + 1, by omega, ⟨by omega, hnx.1 (by simp [cy])⟩, by omega⟩
          · simp -implicitDefEqProofs (disch := first | omega | assumption) [hlt, hzz, intD, cx, ez, cy]
            exact ⟨k + 1, by omega, ⟨by omega, fun h => by have := hnx.2 h; simp [cy] at this⟩, by omega⟩
    · obtain rfl : k = l.length := by omega
      rw [List.take_length] at h2
      have : b = true := h2.2 hmem
      subst this
      simp -implicitDefEqProofs (disch := first | omega | assumption)
  simp -implicitDefEqProofs (disch := first | omega | (simp <;> fail) | assumption) [hl, hl', eb, ec, c1, c2, e, h247, hz, hin, ex, hen]
theorem wt_ints {d : D} (h : WT (.sl [ctI]) d) : ∃ l : List Int, d = .vs 1 (l.map intD) ∧ l.length ≤ maxLen ∧ AllI l := by
  cases h with
  | sl row rows h1 h2 h3 =>
    have key : ∀ rows : List (List D), (∀ r ∈ rows, r.length = 1) → (∀ r ∈ rows, ∀ (i : Nat) (t : CT) (d : D), [ctI][i]? = some t → r[i]? = some d → WT t d) → ∃ l : List Int, rows = l.map intD ∧ AllI l := by
      intro rows
      induction rows with
      | nil => intro _ _; exact ⟨[], rfl, fun z hz => by simp at hz⟩
      | cons r rows ih =>
        intro h2 h3
        obtain ⟨l, rfl, hl⟩ := ih (fun x hx => h2 x (by simp [hx])) (fun x hx => h3 x (by simp [hx]))
        have hr := h2 r (by simp)
        match r, hr with
        | [x], _ =>
          have hw := h3 [x] (by simp) 0 ctI x rfl rfl
          cases hw with
          | int _ n a b =>
            refine ⟨n :: l, rfl, fun z hz => ?_⟩
            simp only [List.mem_cons] at hz
            rcases hz with rfl | hz
            · exact ⟨a, b⟩
            · exact hl z hz
    obtain ⟨l, rfl, hl⟩ := key rows h2 h3
    exact ⟨l, rfl, by simpa using h1, hl⟩
/-- The sort of numbers alone is from outside. -/
def srtEnv : Env := ⟨fun _ _ => none, fun f s => if f = 290 then sortPt s else none, fun _ _ => none⟩
theorem srtEnv_pt : srtEnv.pt 290 = sortPt := by funext s; simp [srtEnv]
theorem srtEnv_ok {P : Program} {nm : Nat → Option Nat} {T : Tab} {τ : Go.Shelf.Ren} (L : Go.Proofs.Lays.n189 P τ) (h : nm 290 = some (τ.f 189)) : XOk P nm T srtEnv where
  fn := fun f g _ _ F w ds vs rs _ _ h => by simp [srtEnv] at h
  pt := fun f g hg _ => by
    by_cases hf : f = 290
    · subst hf
      rw [h] at hg
      simp only [Option.some.injEq] at hg
      subst hg
      rw [srtEnv_pt]; exact sort_specP L
    · have : srtEnv.pt f = fun _ => none := by funext s; simp [srtEnv, hf]
      rw [this]; exact SpecP.none
  mono := fun f s rs ob R hR h => by
    by_cases hf : f = 290
    · subst hf
      rw [srtEnv_pt] at h ⊢
      exact sort_mono s rs ob R hR h
    · simp [srtEnv, hf] at h
def isYes (o : Option (List AV)) : Bool := match o with | some [.c (.bool true)] => true | _ => false
theorem isYes_eq {o : Option (List AV)} (h : isYes o = true) : o = some [bo true] := by
  unfold isYes at h
  split at h
  · rfl
  · simp at h
abbrev rankTab : Tab := (247, law15_alive_f, 0) :: (248, rank_Place_f, 2) :: (252, rank_Of_f, 2) :: (367, slices_Clone_Sint_int_P_f, 1) :: (251, rank_Below_f, 2) :: [(250, law15_below_f, 2)]
abbrev placesTab15 : Tab := (0, law15_RankPlaces_f, 2) :: rankTab
abbrev tellsTab15 : Tab := (0, law15_RankTells_f, 3) :: rankTab
theorem rankP_alive : env placesTab15 [] srtEnv 70000 7 247 [] = some [bo true] := isYes_eq (by decide +kernel)
theorem rankT_alive : env tellsTab15 [] srtEnv 70000 7 247 [] = some [bo true] := isYes_eq (by decide +kernel)
theorem rankPlaces_law (p m : Int) (hp : InI64 p) (hm : InI64 m) : env placesTab15 [] srtEnv 70000 8 0 [i64 p, i64 m] = some [bo true] := by
  rw [env_run rfl rfl]
  refine law15_RankPlaces_run _ ?_ rankP_alive p m hp hm
  intro p m hp hm; rw [env_run rfl rfl]; exact rank_Place_run _ _ p m hp hm
theorem env_sort {T : Tab} {n : Nat} (h : get T 290 = none) : (env T [] srtEnv 70000 n).pt 290 = sortPt := by
  rw [← srtEnv_pt]
  funext s
  cases n <;> simp [env, envPt, h]
theorem rankTells_law (p n : Int) (l : List Int) (hp : InI64 p) : env tellsTab15 [] srtEnv 70000 8 0 [i64 p, vI l, i64 n] = some [bo true] := by
  rw [env_run rfl rfl]
  refine law15_RankTells_run _ (by omega) ?_ ?_ ?_ rankT_alive p n l hp
  · intro p l hp hl; rw [env_run rfl rfl]
    refine rank_Of_run _ _ ?_ ?_ (env_sort rfl) p l hp hl
    · intro p m hp hm; rw [env_run rfl rfl]; exact rank_Place_run _ _ p m hp hm
    · intro l k h1 h2
      rw [env_runP rfl (by decide +kernel)]; exact clone_run _ _ l k h1 h2
  · intro n l hl; rw [env_run rfl rfl]; exact rank_Below_run _ _ (by omega) n l hl
  · intro n l hl; rw [env_run rfl rfl]; exact law15_below_run _ _ (by omega) n l hl
end Go.Am
