/- Law 21: DemandOf. -/
import Derived.Test.YtiabedphaioidaaDemL
set_option linter.unusedVariables false
set_option linter.unusedSimpArgs false
set_option maxRecDepth 10000
set_option maxHeartbeats 1000000
namespace Go.Am
def clk : GSt → Nat
  | none => 0
  | some (z, _) => z
abbrev PB (a b : En) : Prop := a.b ≠ b.b
abbrev PP (a b : En) : Prop := ¬ (a.x = b.x ∧ a.y = b.y)
structure GI (G : GSt) (N : Nat) : Prop where
  b : ∀ e ∈ entsG G, e.b < clk G
  nb : (entsG G).Pairwise PB
  np : (entsG G).Pairwise PP
  l : (entsG G).length ≤ N
  v : ∀ e ∈ entsG G, -9223372036854775808 ≤ e.n ∧ e.n ≤ 9223372036854775807
theorem pidx_none {x y : Int} : ∀ {es : List En} {i : Nat}, pidx x y es i = none → ∀ e ∈ es, ¬ (e.x = x ∧ e.y = y)
  | e :: l, i, h, f, hf => by
    simp only [pidx] at h
    split at h
    · simp at h
    · rename_i hne
      rcases List.mem_cons.1 hf with rfl | hf
      · exact fun hh => hne ⟨hh.1.symm, hh.2.symm⟩
      · exact pidx_none h f hf
theorem pw_mid {R : En → En → Prop} {A B : List En} {e f : En} (h : (A ++ e :: B).Pairwise R) (h1 : ∀ a, R a e → R a f) (h2 : ∀ a, R e a → R f a) : (A ++ f :: B).Pairwise R := by
  rw [List.pairwise_append, List.pairwise_cons] at h ⊢
  refine ⟨h.1, ⟨fun a ha => h2 a (h.2.1.1 a ha), h.2.1.2⟩, fun a ha c hc => ?_⟩
  rcases List.mem_cons.1 hc with rfl | hc
  · exact h1 a (h.2.2 a ha e (by simp))
  · exact h.2.2 a ha c (by simp [hc])
theorem gi_set {G : GSt} {N : Nat} (h : GI G N) {x y n : Int} (hn : -9223372036854775808 ≤ n ∧ n ≤ 9223372036854775807) : GI (setG G x y n) (N + 1) := by
  obtain ⟨hb, nb, np, hl, hv⟩ := h
  unfold setG
  by_cases h0 : n = 0
  · rw [if_pos h0]
    cases G with
    | none =>
      show GI none (N + 1)
      exact ⟨hb, nb, np, by omega, hv⟩
    | some p =>
      obtain ⟨z, es⟩ := p
      simp only [entsG, clk] at hb nb np hl hv
      cases hp : pidx x y es 0 with
      | none =>
        simp only [hp]
        exact ⟨hb, nb, np, by simp only [entsG]; omega, hv⟩
      | some q =>
        obtain ⟨i, m⟩ := q
        simp only [hp]
        have hs := List.eraseIdx_sublist es i
        exact ⟨fun e he => hb e (hs.subset he), nb.sublist hs, np.sublist hs, by have := hs.length_le; simp only [entsG]; omega, fun e he => hv e (hs.subset he)⟩
  · rw [if_neg h0]
    cases G with
    | none =>
      show GI (some (1, [⟨0, x, y, n⟩])) (N + 1)
      exact ⟨fun e he => by simp [entsG] at he; subst he; simp [clk], List.pairwise_singleton _ _, List.pairwise_singleton _ _, by simp [entsG], fun e he => by simp [entsG] at he; subst he; exact hn⟩
    | some p =>
      obtain ⟨z, es⟩ := p
      simp only [entsG, clk] at hb nb np hl hv
      cases hp : pidx x y es 0 with
      | none =>
        have hno := pidx_none hp
        simp only [hp]
        refine ⟨?_, ?_, ?_, by simp only [entsG, List.length_append, List.length_cons, List.length_nil]; omega, ?_⟩
        · intro e he
          simp only [entsG, List.mem_append, List.mem_singleton] at he
          simp only [clk]
          rcases he with he | rfl
          · have := hb e he; omega
          · simp only; omega
        · refine List.pairwise_append.2 ⟨nb, List.pairwise_singleton _ _, fun a ha c hc => ?_⟩
          rw [List.mem_singleton.1 hc]
          have := hb a ha
          simp only [PB]; omega
        · refine List.pairwise_append.2 ⟨np, List.pairwise_singleton _ _, fun a ha c hc => ?_⟩
          rw [List.mem_singleton.1 hc]
          exact hno a ha
        · intro e he
          simp only [entsG, List.mem_append, List.mem_singleton] at he
          rcases he with he | rfl
          · exact hv e he
          · exact hn
      | some q =>
        obtain ⟨i, m⟩ := q
        obtain ⟨_, hi, e, he, rfl, rfl⟩ := pidx_lt hp
        rw [Nat.zero_add] at hi
        rw [Nat.sub_zero] at he
        have hba : bAt es i = e.b := by unfold bAt; rw [he]
        have hei : es[i] = e := by rw [List.getElem?_eq_getElem hi] at he; simpa using he
        have hes : es = es.take i ++ e :: es.drop (i + 1) := by rw [← hei, ← List.drop_eq_getElem_cons hi, List.take_append_drop]
        simp only [hp]
        rw [hba]
        generalize es.take i = A at *
        generalize es.drop (i + 1) = B at *
        subst hes
        refine ⟨?_, pw_mid nb (fun a h => h) (fun a h => h), pw_mid np (fun a h => h) (fun a h => h), by simp only [entsG, List.length_append, List.length_cons] at hl ⊢; omega, ?_⟩
        · intro f hf
          simp only [entsG, List.mem_append, List.mem_cons] at hf
          simp only [clk]
          rcases hf with hf | rfl | hf
          · exact hb f (by simp [hf])
          · exact hb e (by simp)
          · exact hb f (by simp [hf])
        · intro f hf
          simp only [entsG, List.mem_append, List.mem_cons] at hf
          rcases hf with hf | rfl | hf
          · exact hv f (by simp [hf])
          · exact hn
          · exact hv f (by simp [hf])
theorem bornB_pw : ∀ {l : List En}, l.Pairwise PB → bornB l = true
  | [], _ => rfl
  | e :: l, h => by
    rw [List.pairwise_cons] at h
    simp only [bornB, Bool.and_eq_true, List.all_eq_true, Bool.not_eq_true', decide_eq_false_iff_not]
    exact ⟨fun f hf => h.1 f hf, bornB_pw h.2⟩
theorem noTies_pw {l : List En} (h : l.Pairwise PP) : noTies ltW (l.map En.w) = true := by
  unfold noTies
  rw [List.all_eq_true]
  intro x hx
  rw [List.all_eq_true]
  intro y hy
  obtain ⟨a, ha, rfl⟩ := List.mem_map.1 hx
  obtain ⟨b, hb, rfl⟩ := List.mem_map.1 hy
  obtain ⟨i, hi, rfl⟩ := List.getElem_of_mem ha
  obtain ⟨j, hj, rfl⟩ := List.getElem_of_mem hb
  have hp := List.pairwise_iff_getElem.1 h
  have key : ∀ a b : En, PP a b → (ltW a.w b.w || ltW b.w a.w || a.w == b.w) = true ∧ (ltW b.w a.w || ltW a.w b.w || b.w == a.w) = true := by
    intro a b hab
    simp only [ltW, En.w, List.getD_cons_zero, List.getD_cons_succ, Bool.or_eq_true, Bool.and_eq_true, decide_eq_true_eq]
    omega
  rcases Nat.lt_trichotomy i j with hij | hij | hij
  · exact (key _ _ (hp i j hi hj hij)).1
  · subst hij; simp
  · exact (key _ _ (hp j i hj hi hij)).2
theorem GI.ok {G : GSt} {N : Nat} (h : GI G N) (hN : N ≤ 200000) : GOk G := ⟨bornB_pw h.nb, by have := h.l; omega, noTies_pw h.np⟩
def setAll (l : List W3) : GSt := l.foldl (fun G m => setG G m.1 m.2.1 m.2.2) none
theorem setAll_take {l : List W3} {k : Nat} (h : k < l.length) : setAll (l.take (k + 1)) = setG (setAll (l.take k)) (l[k]).1 (l[k]).2.1 (l[k]).2.2 := by
  unfold setAll
  rw [List.take_succ_eq_append_getElem h, List.foldl_append]; rfl
theorem gi_all : ∀ (l : List W3), (∀ m ∈ l, -9223372036854775808 ≤ m.2.2 ∧ m.2.2 ≤ 9223372036854775807) → GI (setAll l) l.length := by
  intro l hl
  have : ∀ (l : List W3) (G : GSt) (N : Nat), GI G N → (∀ m ∈ l, -9223372036854775808 ≤ m.2.2 ∧ m.2.2 ≤ 9223372036854775807) → GI (l.foldl (fun G m => setG G m.1 m.2.1 m.2.2) G) (N + l.length) := by
    intro l
    induction l with
    | nil => intro G N h _; exact h
    | cons m l ih =>
      intro G N h hm
      have := ih (setG G m.1 m.2.1 m.2.2) (N + 1) (gi_set h (hm m (by simp))) fun x hx => hm x (by simp [hx])
      rw [List.foldl_cons, List.length_cons, show N + (l.length + 1) = N + 1 + l.length by omega]
      exact this
  have := this l none 0 ⟨by simp [entsG], .nil, .nil, by simp [entsG], by simp [entsG]⟩ hl
  rwa [Nat.zero_add] at this
theorem DemandOf_run (Γ : Env) (M : Nat) (hM : 100 < M) (hA : Γ.pt 276 = allPt) (hal : Γ 278 [] = some [bo true]) (hS : SetC (Γ.pt 56)) (hO : OfC (Γ.pt 286)) (hRO : ROfC (Γ 285)) (l : List W3) (hv : ∀ m ∈ l, -9223372036854775808 ≤ m.2.2 ∧ m.2.2 ≤ 9223372036854775807) (w : Int) (hw1 : 0 ≤ w) (hw2 : w ≤ 4294967295) : run Γ M law21_DemandOf_f [dW l, u32 w] = some [bo true] := by
  by_cases h50 : 50 < l.length
  · simp -implicitDefEqProofs (disch := first | omega | (simp <;> fail) | assumption) [h50]
  have e1 := fun G x y n gs a b c => hS 15 G x y n gs [] a b c (by omega) (by omega) (rsOk_nil 15)
  simp only [List.append_nil] at e1
  have hkf : ∀ (G : GSt) (os : List Nat), 15 ∈ os → keepF 0 1000 os (grOb 15 G) = grOb 15 G := fun G os h => by
    have := keepF_grOb (lo := 0) (hi := 1000) (os := os) (gk := 15) (G := G) (rest := []) (by omega) (.inr (.inr h)) (kf_nil _ _)
    simpa using this
  obtain ⟨ax, s', ⟨rfl, rfl⟩, hin⟩ : ∃ ax s', (ax = .ex 0 ∧ s' = ⟨[(1, u32 w), (5, .loc 15 0 0)], grOb 15 (setAll l)⟩) ∧ ∀ s0, nrmP [0, 1, 5, 6] 0 1000 [15] s0 = ⟨[(0, dW l), (1, u32 w), (5, .loc 15 0 0), (6, i64 (0 : Nat))], grOb 15 (setAll (l.take 0))⟩ → lp (exec Γ M law21_DemandOf_l1) M s0 = some (ax, s') := by
    refine lp_allP (fun q : Nat => ⟨[(0, dW l), (1, u32 w), (5, .loc 15 0 0), (6, i64 q)], grOb 15 (setAll (l.take q))⟩) (fun q => q ≤ l.length) (fun q => l.length - q) _ 0 M (by omega) (by omega) ?_
    intro k hk
    by_cases hlt : k < l.length
    · have ht := setAll_take hlt
      obtain ⟨⟨a, b, n⟩, hm⟩ : ∃ m, l[k] = m := ⟨_, rfl⟩
      have hrow : (l.map d3)[k]? = some [.int .i64 a, .int .i64 b, .int .i64 n] := by simp [hlt, hm, d3]
      rw [hm] at ht
      simp only at ht
      generalize setAll (l.take k) = G at *
      simp -implicitDefEqProofs (disch := first | omega | (simp <;> fail) | assumption) [hlt, hrow, d3, hm, e1, hkf]
      exact ⟨k + 1, by rw [ht]; simp, by omega, by omega⟩
    · obtain rfl : k = l.length := by omega
      simp -implicitDefEqProofs (disch := first | omega | (simp <;> fail) | assumption) [hkf]
  have hin2 := hin ⟨[(0, dW l), (1, u32 w), (5, .loc 15 0 0), (6, .c (.int .i64 0))], [(15, ⟨1, [[.ot .nm]]⟩)]⟩ (by
    have h0 : setAll (l.take 0) = none := rfl
    rw [h0]
    simp -implicitDefEqProofs (disch := first | omega | (simp <;> fail) | assumption) [grOb])
  have hgi := gi_all l hv
  have hG := hgi.ok (by omega)
  have hel := hgi.l
  have hi : Int64s ((allM (setAll l)).map (·.2.2)) := by
    intro n hn
    obtain ⟨m, hm, rfl⟩ := List.mem_map.1 hn
    obtain ⟨e, he, rfl⟩ := allM_mem hm
    exact hgi.v e he
  have hq := qr_nil 15 (by omega) (by omega) (by omega) (by omega) (by omega)
  have eO := fun gs g n3 n4 ni l3 o4 o7 o9 l7 s5 => hO 15 (setAll l) w gs [] hG ⟨g, n3, n4, ni, l3, o4, o7, o9, l7, s5⟩ hq (by omega) hi hw1 hw2
  have hlen : (allM (setAll l)).length ≤ 100000 := by rw [allM_length]; omega
  have eR := hRO w (allM (setAll l)) hlen hi hw1 hw2
  obtain ⟨a, b, hab⟩ := ansP_two w (allM (setAll l))
  have eA := fun (o1 o2 : Obj) p3 p4 pi q3 => all_at2 (ob := (7, o1) :: (276003, o2) :: grOb 15 (setAll l)) (pre := [(7, o1)]) (rest := []) (gk := 15) hG hq (by
    have := keepF_grOb (lo := 276000) (hi := 277000) (os := []) (gk := 15) (G := setAll l) (rest := []) (by omega) (by omega) (kf_nil _ _)
    simp only [List.append_nil] at this
    simp [this]) rfl rfl p3 p4 pi q3
  simp only [List.append_nil, List.cons_append, List.nil_append] at eO eA
  have hk15 := hkf (setAll l)
  have x7 : del (grOb 15 (setAll l)) 7 = grOb 15 (setAll l) := by simpa using del_gr (G := setAll l) (gk := 15) (rest := []) (k := 7) rfl (by decide) (by decide)
  have x9 : del (grOb 15 (setAll l)) 9 = grOb 15 (setAll l) := by simpa using del_gr (G := setAll l) (gk := 15) (rest := []) (k := 9) rfl (by decide) (by decide)
  have n7 : nmOb 7 (grOb 15 (setAll l)) = true := by simpa using nmOb_gr (G := setAll l) (gk := 15) (rest := []) (k := 7) rfl (by decide)
  have n9 : nmOb 9 (grOb 15 (setAll l)) = true := by simpa using nmOb_gr (G := setAll l) (gk := 15) (rest := []) (k := 9) rfl (by decide)
  generalize hL : allM (setAll l) = L at *
  generalize hans : ansP w L = P at *
  have y1 := fun k => nmRows_out3 k L
  have hall : allRows (L.map out3) = some (L.map d3) := by rw [out3_d3, allRows_comp]
  have htc : List.take L.length (L.map d3) = L.map d3 := List.take_of_length_le (by simp)
  generalize grOb 15 (setAll l) = ob at *
  simp -implicitDefEqProofs (disch := first | omega | (simp [y1] <;> fail) | assumption) [h50, hin2, eO, eR, hA, eA, hab, hk15, x7, x9, n7, n9, y1, hall, htc, hal]
theorem w3_row (r : List D) (h : All2 WT [ctI, ctI, ctI] r) : ∃ t : W3, r = d3 t ∧ (-9223372036854775808 ≤ t.2.2 ∧ t.2.2 ≤ 9223372036854775807) := by
  simp only [all2_cons, all2_nil, wt_i64] at h
  obtain ⟨_, _, rfl, ⟨a, rfl, ha⟩, _, _, rfl, ⟨b, rfl, hb⟩, _, _, rfl, ⟨c, rfl, hc⟩, rfl⟩ := h
  exact ⟨(a, b, c), rfl, hc⟩
theorem wt_weights {d : D} (h : WT (.sl [ctI, ctI, ctI]) d) : ∃ l : List W3, AV.c d = dW l ∧ ∀ t ∈ l, -9223372036854775808 ≤ t.2.2 ∧ t.2.2 ≤ 9223372036854775807 := by
  rw [wt_sl] at h
  obtain ⟨rows, rfl, hl, h⟩ := h
  obtain ⟨ts, rfl, hts⟩ := rows_map w3_row rows h
  exact ⟨ts, rfl, hts⟩
end Go.Am
