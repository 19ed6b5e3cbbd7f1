/- Law 26: the numbers of a line. -/
import Derived.Test.YtnjjnokckgjecaaPar
import Derived.Test.YtnjjnokckgjecaaPrs
set_option linter.unusedVariables false
set_option linter.unusedSimpArgs false
set_option maxRecDepth 10000
set_option maxHeartbeats 1000000
namespace Go.Am
theorem names_notword {w : List UInt8} : ∀ nm ∈ namesW w, isWord nm = false := by
  unfold namesW
  (repeat' split) <;> simp [isWord]
theorem namesW_len (w : List UInt8) : (namesW w).length ≤ 4 := by
  unfold namesW; (repeat' split) <;> decide
theorem partE_num {nm : List UInt8} {t : Tk} (h : isWord nm = false) : partE nm t = numErr nm t := by
  simp only [partE, numErr, h, Bool.false_eq_true, if_false]
theorem nmRows_nsR (k : Nat) : ∀ l : List Int, nmRows k (nsR l) = true
  | [] => rfl
  | x :: l => by have := nmRows_nsR k l; simp only [nsR] at this; simp [nmRows, nmRow, this]
theorem lcRows_nsR (k : Nat) : ∀ l : List Int, lcRows k (nsR l) = true
  | [] => rfl
  | x :: l => by have := lcRows_nsR k l; simp only [nsR] at this; simp [lcRows, lcRow, this]
theorem allRows_nsR : ∀ l : List Int, allRows (nsR l) = some (l.map fun n => [.int .i64 n])
  | [] => rfl
  | x :: l => by have := allRows_nsR l; simp only [nsR] at this; simp [allRows, this]
/-- What a call of number wants of its caller. -/
structure NumOk (gs : List (Nat × AV)) (ob : List (Nat × Obj)) : Prop where
  a : Nk 170002 gs ob
  b : Nk 170003 gs ob
  f : Nk 169005 gs ob
  n : Nk 177006 gs ob
  k170 : Kf 170000 171000 ob
  k169 : Kf 169000 170000 ob
  k177 : Kf 177000 178000 ob
theorem Nk.put {k N j m : Nat} {gs : List (Nat × AV)} {ob : List (Nat × Obj)} {s : Sc} {e l c : Int} (h : Nk k gs ob) (hk : k ≠ 34) (hT : k ≠ 1000212) (hM : k ≠ 1461501637330902918203684832716283019655932543008) (hs : s.sg.names k = false) : Nk k gs ((34, rdr N j m (rdT s e l c)) :: del ob 34) := by
  obtain ⟨h1, h2, h3⟩ := h
  refine ⟨h1, ?_, ?_⟩
  · simp [nmOb_del h2, hs, Ne.symm hT, Ne.symm hM]
  · simp only [del, if_neg (Ne.symm hk)]; rw [del_comm, h3]
theorem Kf.put {lo hi : Nat} {ob : List (Nat × Obj)} {o : Obj} (h : Kf lo hi ob) (hk : 34 < lo) : Kf lo hi ((34, o) :: Am.del ob 34) := by
  rw [kf_cons (by omega)]; exact h.del
theorem NumOk.put {gs : List (Nat × AV)} {ob : List (Nat × Obj)} {N j m j' m' : Nat} {s : Sc} {e l c e' l' c' : Int} (h : NumOk gs ob) (h34 : get ob 34 = some (rdr N j m (rdT s e l c))) : NumOk gs ((34, rdr N j' m' (rdT s e' l' c')) :: del ob 34) := by
  have hs : ∀ k, Nk k gs ob → s.sg.names k = false := fun k hk => by
    have := nmOb_get hk.2.1 h34
    simp at this; exact this.2.1
  exact ⟨h.a.put (by decide) (by decide) (by decide) (hs _ h.a), h.b.put (by decide) (by decide) (by decide) (hs _ h.b), h.f.put (by decide) (by decide) (by decide) (hs _ h.f), h.n.put (by decide) (by decide) (by decide) (hs _ h.n),
    h.k170.put (by decide), h.k169.put (by decide), h.k177.put (by decide)⟩
def numsX (X : List (Nat × Obj)) (o : Obj) : List Int → List (Nat × Obj)
  | [] => X
  | _ :: _ => (34, o) :: del X 34
abbrev rowsL (l : List Tk) (last : Tk) : Rows := (l ++ [last]).map (toAV ∘ Tk.cells)
def numsRes (l : List Tk) (s : Sc) (e0 l0 c0 : Int) (X : List (Nat × Obj)) (res : Option (List AV × List (Nat × Obj))) : PO → Prop
  | .ok ns r => ∃ k', l.drop k' = r ∧ k' < l.length ∧ res = some ([.sl 171006 ns.length 0 ns.length, bo true], (171006, ⟨1, nsR ns⟩) :: numsX X (rdr (l.length + 1) k' (l.length + 1 - k') (rdT s e0 l0 c0)) ns)
  | .bad e t r => ∃ k', l.drop k' = r ∧ k' ≤ l.length ∧ res = some ([.nil 1, bo false], (34, rdr (l.length + 1) k' (l.length + 1 - k') (rdT s e t.l t.c)) :: del X 34)
def NumsT (g : St → Option (List AV × List (Nat × Obj))) : Prop := ∀ gs ob X l k (s : Sc) (e0 l0 c0 : Int) head last, Gh gs → get ob 34 = some (rdr (l.length + 1) k (l.length + 1 - k) (rdT s e0 l0 c0)) → get ob 1000212 = some ⟨5, rowsL l last⟩ → l.length < 100000 → k < l.length → EndL (l.drop k) →
  X = del ob 171006 → keepF 171000 172000 [] ob = X → Kf 171000 172000 X → NumOk gs X → nmFr 171006 gs = true → lcFr 171006 gs = true → nmOb 171006 X = true → lcOb 171006 X = true →
  numsRes l s e0 l0 c0 X (g ⟨(0, .loc 34 0 0) :: (1, st head) :: gs, ob⟩) (numsA [] (namesW head) (l.drop k))
theorem rowsL_get {l : List Tk} {last : Tk} {k : Nat} (h : k < l.length) : (rowsL l last)[k]? = some (toAV l[k].cells) := by
  simp [rowsL, List.getElem?_append_left, h]
theorem lcOb_del {k j : Nat} : ∀ {ob : List (Nat × Obj)}, lcOb k ob = true → lcOb k (del ob j) = true
  | [], _ => rfl
  | (i, o) :: r, h => by
    simp only [lcOb, Bool.and_eq_true] at h
    simp only [del]
    split
    · exact lcOb_del h.2
    · simp only [lcOb, h.1, lcOb_del h.2, Bool.and_self]
theorem lcOb_get {k i : Nat} {o : Obj} : ∀ {ob : List (Nat × Obj)}, lcOb k ob = true → get ob i = some o → lcRows k o.rows = true
  | [], _, h => by simp [get] at h
  | (j, p) :: r, h, hi => by
    simp only [lcOb, Bool.and_eq_true] at h
    simp only [get] at hi
    split at hi
    · simp only [Option.some.injEq] at hi; subst hi; exact h.1
    · exact lcOb_get h.2 hi
theorem parse_reader_numbers_run (Γ : Env) (M : Nat) (hM : 10 < M) (hnum : NumT (Γ.pt 177)) (h117 : NamesC (Γ 117)) : NumsT (runP Γ M parse_reader_numbers_f) := by
  intro gs ob X0 l k s e0 l0 c0 head last hg h34 hT hlen hk hE hX hkf hK hok n6 l6 n7 l7
  have hnm := h117 head
  have hnw : ∀ nm ∈ namesW head, isWord nm = false := names_notword
  have hnl := namesW_len head
  obtain ⟨names, hnames⟩ : ∃ names, namesW head = names := ⟨_, rfl⟩
  rw [hnames] at hnm hnw hnl
  obtain ⟨R, hR⟩ : ∃ R, numsA [] names (l.drop k) = R := ⟨_, rfl⟩
  rw [hnames, hR]
  have x34 : get X0 34 = some (rdr (l.length + 1) k (l.length + 1 - k) (rdT s e0 l0 c0)) := by rw [hX, get_del, if_neg (by decide)]; exact h34
  have xT : get X0 1000212 = some ⟨5, rowsL l last⟩ := by rw [hX, get_del, if_neg (by decide)]; exact hT
  have xd : del X0 171006 = X0 := by rw [hX, del_del]
  have hfree : X0 = X0 := rfl
  obtain ⟨ax, s', hres, hin⟩ : ∃ ax s', ((∃ ns r' k', R = .ok ns r' ∧ l.drop k' = r' ∧ k' < l.length ∧ ax = .ex 0 ∧ s' = ⟨(6, .sl 171006 ns.length 0 ns.length) :: gs, (171006, ⟨1, nsR ns⟩) :: numsX X0 (rdr (l.length + 1) k' (l.length + 1 - k') (rdT s e0 l0 c0)) ns⟩) ∨
      (∃ e t r' k', R = .bad e t r' ∧ l.drop k' = r' ∧ k' ≤ l.length ∧ ax = .ret ∧ s' = ⟨(4, .nil 1) :: (5, bo false) :: gs, (34, rdr (l.length + 1) k' (l.length + 1 - k') (rdT s e t.l t.c)) :: del X0 34⟩)) ∧
      ∀ t, nrmP [0, 6, 12, 13, 14] 171000 172000 [171006, 171029] t = ⟨(0, .loc 34 0 0) :: (6, .sl 171006 0 0 0) :: (12, .c (.vs 1 (names.map strQ))) :: (13, i64 names.length) :: (14, i64 (0 : Nat)) :: gs, (171006, ⟨1, nsR []⟩) :: X0⟩ → lp (exec Γ M parse_reader_numbers_l1) M t = some (ax, s') := by
    refine lp_allP (fun q : List Int × Nat × List (Nat × Obj) => ⟨(0, .loc 34 0 0) :: (6, .sl 171006 q.1.length 0 q.1.length) :: (12, .c (.vs 1 (names.map strQ))) :: (13, i64 names.length) :: (14, i64 q.1.length) :: gs, (171006, ⟨1, nsR q.1⟩) :: q.2.2⟩)
      (fun q => q.1.length ≤ names.length ∧ q.2.1 < l.length ∧ EndL (l.drop q.2.1) ∧ get q.2.2 34 = some (rdr (l.length + 1) q.2.1 (l.length + 1 - q.2.1) (rdT s e0 l0 c0)) ∧ get q.2.2 1000212 = some ⟨5, rowsL l last⟩ ∧ NumOk gs q.2.2 ∧
        (nmOb 171006 q.2.2 = true ∧ lcOb 171006 q.2.2 = true ∧ del q.2.2 171006 = q.2.2 ∧ Kf 171000 172000 q.2.2) ∧ del q.2.2 34 = del X0 34 ∧ numsA q.1 (names.drop q.1.length) (l.drop q.2.1) = R ∧ q.2.2 = numsX X0 (rdr (l.length + 1) q.2.1 (l.length + 1 - q.2.1) (rdT s e0 l0 c0)) q.1)
      (fun q => names.length - q.1.length) _ ([], k, X0) M ⟨by simp, hk, hE, x34, xT, hok, ⟨n7, l7, xd, hK⟩, rfl, by simpa using hR, rfl⟩ (by simp only [List.length_nil]; omega) ?_
    rintro ⟨acc, k', X⟩ ⟨hi, hk', hE', y34, yT, hok', ⟨m1, m2, m3, m4⟩, hdX, hRR, hXX⟩
    simp only at hi hk' hE' y34 yT hok' m1 m2 m3 m4 hdX hRR hXX ⊢
    by_cases hlt : acc.length < names.length
    · obtain ⟨nm, hnm'⟩ : ∃ nm, names[acc.length]'hlt = nm := ⟨_, rfl⟩
      have hmem : nm ∈ names := by rw [← hnm']; exact List.getElem_mem _
      have hw := hnw nm hmem
      obtain ⟨t, ht⟩ : ∃ t, l[k']'hk' = t := ⟨_, rfl⟩
      have hrow : (rowsL l last)[k']? = some (toAV t.cells) := by rw [rowsL_get hk', ht]
      rw [List.drop_eq_getElem_cons hlt, List.drop_eq_getElem_cons hk', hnm', ht] at hRR
      rw [List.drop_eq_getElem_cons hk', ht] at hE'
      simp only [numsA, partE_num hw] at hRR
      have s6 : s.sg.names 171006 = false := by have := nmOb_get m1 y34; simpa using this
      have s7 : s.sg.isLoc 171006 = false := by have := lcOb_get m2 y34; simpa using this
      have hc : ∀ gs', Gh gs' → nmFr 170002 gs' = true → nmFr 170003 gs' = true → nmFr 169005 gs' = true → nmFr 177006 gs' = true → Γ.pt 177 ⟨(0, .loc 34 0 0) :: (1, st nm) :: gs', (171006, ⟨1, nsR acc⟩) :: X⟩ =
          some ([i64 (if numErr nm t = 0 then t.n else 0), bo (decide (numErr nm t = 0))], (34, rdr (l.length + 1) (k' + 1) (l.length - k') (if numErr nm t = 0 then rdT s e0 l0 c0 else rdT s (numErr nm t) t.l t.c)) :: (171006, ⟨1, nsR acc⟩) :: del X 34) := fun gs' h1 h2 h3 h4 h5 => by
        have hnk : ∀ j, j ≠ 171006 → nmFr j gs' = true → Nk j gs X → Nk j gs' ((171006, ⟨1, nsR acc⟩) :: X) := fun j hj hf h => ⟨hf, by simp only [nmOb, nmRows_nsR, h.2.1, Bool.and_self], by simp [Ne.symm hj, h.2.2]⟩
        have := hnum gs' ((171006, ⟨1, nsR acc⟩) :: X) (l.length + 1) k' (l.length + 1 - k') s e0 l0 c0 t (rowsL l last) nm h1 (by simpa using y34) (by simpa using yT) (by simp) (by omega) (by omega) (by omega) hrow
          (hnk _ (by decide) h2 hok'.a) (hnk _ (by decide) h3 hok'.b) (hnk _ (by decide) h4 hok'.f) (hnk _ (by decide) h5 hok'.n) (by simp [hok'.k170]) (by simp [hok'.k169]) (by simp [hok'.k177])
        rw [this]; simp; omega
      have g1 := hok'.a.1
      have g2 := hok'.b.1
      have g3 := hok'.f.1
      have g4 := hok'.n.1
      by_cases h0 : numErr nm t = 0
      · simp only [if_pos h0, decide_eq_true h0] at hc hRR
        have h3 : t.kd ≠ 3 := partE_ne (by rw [partE_num hw]; exact h0)
        have hE2 := endL_cons hE' h3
        have hk2 : k' + 1 < l.length := by
          rcases Nat.lt_or_ge (k' + 1) l.length with h | h
          · exact h
          · exact (endL_ne hE2 (List.drop_eq_nil_of_le h)).elim
        have hroom : room (acc.length + 1) 8 = true := by simp only [room, decide_eq_true_eq]; omega
        have hm34 := nmOb_del (j := 34) m1
        have lm34 := lcOb_del (j := 34) m2
        have dm34 : del (del X 34) 171006 = del X 34 := by rw [del_comm, m3]
        have km34 := m4.del (k := 34)
        simp -implicitDefEqProofs (disch := first | omega | (simp [*] <;> fail) | assumption) [hlt, hnm', strQ, hc, g1, g2, g3, g4, hg, n6, l6, m1, m2, m3, m4, hm34, lm34, dm34, km34, s6, s7, nmRows_nsR, lcRows_nsR, hroom]
        have hsub : l.length + 1 - (k' + 1) = l.length - k' := by omega
        have hpn : partN nm t = t.n := by simp [partN, hw]
        have hput := hok'.put (N := l.length + 1) (j' := k' + 1) (m' := l.length - k') (e' := e0) (l' := l0) (c' := c0) y34
        refine ⟨acc ++ [t.n], k' + 1, (34, rdr (l.length + 1) (k' + 1) (l.length - k') (rdT s e0 l0 c0)) :: del X 34, ⟨⟨by simp, by simp⟩, by simp [nsR], rfl⟩, ⟨by simp; omega, hk2, ?_, ?_, ?_, hput, ⟨?_, ?_, ?_, ?_⟩, ?_, ?_, ?_⟩, by simp; omega⟩
        · exact hE2
        · rw [hsub]; rfl
        · simp only [get, if_neg (show ¬ (34 = 1000212) by decide), get_del, if_neg (show ¬ (1000212 = 34) by decide), yT]; simp [rowsL]
        · simp [hm34, s6]
        · simp [lm34, s7]
        · simp [dm34]
        · simp [km34]
        · simp [hdX]
        · rw [← hRR, hpn, List.length_append, List.length_singleton]
        · cases acc <;> simp [numsX, hdX]
      · simp only [if_neg h0, decide_eq_false h0] at hc hRR
        have km34 := m4.del (k := 34)
        simp -implicitDefEqProofs (disch := first | omega | (simp [*] <;> fail) | assumption) [hlt, hnm', strQ, hc, g1, g2, g3, g4, hg, n6, l6, m1, m2, m3, m4, km34, s6, s7, nmRows_nsR, lcRows_nsR]
        exact ⟨_, t, _, hRR.symm, k' + 1, rfl, by omega, ⟨⟨rfl, by omega⟩, rfl, rfl, rfl⟩, hdX⟩
    · obtain hie : acc.length = names.length := by omega
      rw [hie, List.drop_length] at hRR
      simp only [numsA] at hRR
      simp -implicitDefEqProofs (disch := first | omega | (simp [*] <;> fail) | assumption) [hlt, hg, m4]
      exact ⟨acc, _, hRR.symm, k', rfl, hk', rfl, rfl, hXX⟩
  have hlp := hin ⟨(0, .loc 34 0 0) :: (6, .sl 171006 0 0 0) :: (12, .c (.vs 1 (names.map strQ))) :: (13, i64 names.length) :: (14, i64 (0 : Nat)) :: gs, (171006, ⟨1, nsR []⟩) :: X0⟩ (by simp [hg, hK])
  simp at hlp
  rcases hres with ⟨ns, r', k', rfl, hd, hk2, rfl, rfl⟩ | ⟨e, t, r', k', rfl, hd, hk2, rfl, rfl⟩
  · refine ⟨k', hd, hk2, ?_⟩
    simp -implicitDefEqProofs (disch := first | omega | (simp [*] <;> fail) | assumption) [hg, hkf, hnm, n6, n7, xd, hlp]
    cases ns <;> simp [numsX, hK, hK.del (k := 34)]
  · refine ⟨k', hd, hk2, ?_⟩
    simp -implicitDefEqProofs (disch := first | omega | (simp [*] <;> fail) | assumption) [hg, hkf, hnm, n6, n7, xd, hlp]
    exact hK.del _
end Go.Am
