/- Law 26: the reader's functions. -/
import Derived.Test.YtnjjnokckgjecaaPw
import Derived.Test.YtnjjnokckgjecaaSeen
import Derived.Test.YtnjjnokckgjecaaLexScan
set_option linter.unusedVariables false
set_option linter.unusedSimpArgs false
set_option maxRecDepth 10000
set_option maxHeartbeats 1000000
namespace Go.Am
/-- What a function with own keys from lo on wants of what it is handed: none of these keys is there, none is named. -/
def Nk (k : Nat) (gs : List (Nat × AV)) (ob : List (Nat × Obj)) : Prop := nmFr k gs = true ∧ nmOb k ob = true ∧ del ob k = ob
theorem nmOb_del {k j : Nat} : ∀ {ob : List (Nat × Obj)}, nmOb k ob = true → nmOb k (del ob j) = true
  | [], _ => rfl
  | (i, o) :: r, h => by
    simp only [nmOb, Bool.and_eq_true] at h
    simp only [del]
    split
    · exact nmOb_del h.2
    · simp only [nmOb, h.1, nmOb_del h.2, Bool.and_self]
theorem Kf.del {lo hi k : Nat} : ∀ {ob : List (Nat × Obj)}, Kf lo hi ob → Kf lo hi (del ob k) := by
  intro ob h
  suffices hs : ∀ (ob : List (Nat × Obj)) (os : List Nat), keepF lo hi os ob = ob → keepF lo hi os (Am.del ob k) = Am.del ob k from fun os => hs ob os (h os)
  intro ob os
  have hlen : ∀ l : List (Nat × Obj), (keepF lo hi os l).length ≤ l.length := by
    intro l
    induction l with
    | nil => simp
    | cons p r ih =>
      obtain ⟨i, o⟩ := p
      simp only [keepF]; split <;> simp <;> omega
  induction ob with
  | nil => intro _; rfl
  | cons p r ih =>
    obtain ⟨i, o⟩ := p
    intro h1
    simp only [keepF] at h1
    split at h1
    · rename_i hc
      simp only [List.cons.injEq, true_and] at h1
      simp only [Am.del]
      split
      · exact ih h1
      · simp only [keepF]; rw [if_pos hc, ih h1]
    · have := hlen r
      rw [h1] at this; simp only [List.length_cons] at this; omega
abbrev rdr (N k m : Nat) (r : List AV) : Obj := ⟨18, [.sl 1000212 N k m :: r]⟩
def NextT (g : St → Option (List AV × List (Nat × Obj))) : Prop := ∀ gs ob N k m (r : List AV) (t : Tk) rows, Gh gs → get ob 34 = some (rdr N k m r) → get ob 1000212 = some ⟨5, rows⟩ → rows.length = N → k + m ≤ N → 0 < m → N ≤ 100000 →
  rows[k]? = some (toAV t.cells) → Nk 170002 gs ob → Nk 170003 gs ob → Kf 170000 171000 ob →
  g ⟨(0, .loc 34 0 0) :: gs, ob⟩ = some ([.agg t.cells], if 1 < m then (34, rdr N (k + 1) (m - 1) r) :: del ob 34 else ob)
theorem parse_tokens_next_run (Γ : Env) (M : Nat) : NextT (runP Γ M parse_tokens_next_f) := by
  intro gs ob N k m r t rows hg h34 hT hN hkm hm hNm ht ⟨a1, a2, a3⟩ ⟨b1, b2, b3⟩ hK
  have k2 := hK.del (k := 34)
  have d1 : del (del ob 34) 170002 = del ob 34 := by rw [del_comm, a3]
  have d2 : del (del ob 34) 170003 = del ob 34 := by rw [del_comm, b3]
  subst hN
  simp only [Tk.cells, toAV, List.map_cons, List.map_nil] at ht
  obtain ⟨hlt, ht⟩ := List.getElem?_eq_some_iff.1 ht
  have hm1 : 1 ≤ m := hm
  by_cases h1 : 1 < m
  · have hk2 : k + 1 + (m - 1) ≤ rows.length := by omega
    simp -implicitDefEqProofs (disch := first | omega | (simp [*] <;> fail) | assumption) [hk2, h34, hT, hg, a1, a2, a3, b1, b2, b3, hK, k2, d1, d2, ht, h1, hkm, hm, hm1]
  · simp -implicitDefEqProofs (disch := first | omega | (simp [*] <;> fail) | assumption) [h34, hT, hg, a1, a2, a3, b1, b2, b3, hK, k2, d1, d2, ht, h1, hkm, hm, hm1]
/-- What a scenario's cells are; 'sg': the segments. -/
structure Sc where
  fl : Int
  ga : Int
  ca : Int
  cp : Int
  op : Int
  dw : Int
  cl : Int
  tr : Int
  sg : AV
  di : Int
  ho : Int
  bi : Int
  wi : Int
abbrev rdT (s : Sc) (e l c : Int) : List AV := [i64 s.fl, i64 s.ga, i64 s.ca, i64 s.cp, i64 s.op, i64 s.dw, i64 s.cl, i64 s.tr, s.sg, i64 s.di, i64 s.ho, i64 s.bi, i64 s.wi, .mp 1461501637330902918203684832716283019655932543008, i64 e, i64 l, i64 c]
def FailT (g : St → Option (List AV × List (Nat × Obj))) : Prop := ∀ gs ob N k m (s : Sc) (e0 l0 c0 e : Int) (t : Tk), Gh gs → get ob 34 = some (rdr N k m (rdT s e0 l0 c0)) → Nk 169005 gs ob → Kf 169000 170000 ob →
  g ⟨(0, .loc 34 0 0) :: (1, i64 e) :: (2, .agg t.cells) :: gs, ob⟩ = some ([bo false], (34, rdr N k m (rdT s e t.l t.c)) :: del ob 34)
theorem parse_reader_fail_run (Γ : Env) (M : Nat) : FailT (runP Γ M parse_reader_fail_f) := by
  intro gs ob N k m s e0 l0 c0 e t hg h34 ⟨a1, a2, a3⟩ hK
  have k2 := hK.del (k := 34)
  have d1 : del (del ob 34) 169005 = del ob 34 := by rw [del_comm, a3]
  simp -implicitDefEqProofs (disch := first | omega | (simp [*] <;> fail) | assumption) [h34, hg, a1, a2, a3, hK, k2, d1]
end Go.Am
namespace Go.Am
theorem nmOb_get {k i : Nat} {o : Obj} : ∀ {ob : List (Nat × Obj)}, nmOb k ob = true → get ob i = some o → nmRows k o.rows = true
  | [], _, h => by simp [get] at h
  | (j, p) :: r, h, hi => by
    simp only [nmOb, Bool.and_eq_true] at h
    simp only [get] at hi
    split at hi
    · simp only [Option.some.injEq] at hi; subst hi; exact h.1
    · exact nmOb_get h.2 hi
def numErr (name : List UInt8) (t : Tk) : Int := if t.kd = 3 then 261 else if t.kd = 1 then 260 else if inB name t.n then 0 else 264
def NumT (g : St → Option (List AV × List (Nat × Obj))) : Prop := ∀ gs ob N k m (s : Sc) (e0 l0 c0 : Int) (t : Tk) rows name, Gh gs → get ob 34 = some (rdr N k m (rdT s e0 l0 c0)) → get ob 1000212 = some ⟨5, rows⟩ → rows.length = N → k + m ≤ N → 1 < m → N ≤ 100000 →
  rows[k]? = some (toAV t.cells) → Nk 170002 gs ob → Nk 170003 gs ob → Nk 169005 gs ob → Nk 177006 gs ob → Kf 170000 171000 ob → Kf 169000 170000 ob → Kf 177000 178000 ob →
  g ⟨(0, .loc 34 0 0) :: (1, st name) :: gs, ob⟩ = some ([i64 (if numErr name t = 0 then t.n else 0), bo (decide (numErr name t = 0))], (34, rdr N (k + 1) (m - 1) (if numErr name t = 0 then rdT s e0 l0 c0 else rdT s (numErr name t) t.l t.c)) :: del ob 34)
theorem parse_reader_number_run (Γ : Env) (M : Nat) (hnext : NextT (Γ.pt 170)) (hfail : FailT (Γ.pt 169)) (hin : InC (Γ 20)) : NumT (runP Γ M parse_reader_number_f) := by
  intro gs ob N k m s e0 l0 c0 t rows name hg h34 hT hN hkm hm hNm ht ⟨a1, a2, a3⟩ ⟨b1, b2, b3⟩ ⟨f1, f2, f3⟩ ⟨n1, n2, n3⟩ k170 k169 k177
  have hn : ∀ gs, Gh gs → nmFr 170002 gs = true → nmFr 170003 gs = true → (Γ.pt 170) ⟨(0, .loc 34 0 0) :: gs, ob⟩ = some ([.agg t.cells], (34, rdr N (k + 1) (m - 1) (rdT s e0 l0 c0)) :: del ob 34) := fun gs h1 h2 h3 => by
    have := hnext gs ob N k m _ t rows h1 h34 hT hN hkm (by omega) hNm ht ⟨h2, a2, a3⟩ ⟨h3, b2, b3⟩ k170
    rwa [if_pos hm] at this
  have q169 := k169.del (k := 34)
  have q177 := k177.del (k := 34)
  have d1 : del (del ob 34) 169005 = del ob 34 := by rw [del_comm, f3]
  have d2 : del (del ob 34) 177006 = del ob 34 := by rw [del_comm, n3]
  have m1 := nmOb_del (j := 34) f2
  have m2 := nmOb_del (j := 34) n2
  have s1 : s.sg.names 169005 = false := by simpa using nmOb_get f2 h34
  have s2 : s.sg.names 177006 = false := by simpa using nmOb_get n2 h34
  have hf : ∀ gs e, Gh gs → nmFr 169005 gs = true → (Γ.pt 169) ⟨(0, .loc 34 0 0) :: (1, i64 e) :: (2, .agg t.cells) :: gs, (177006, ⟨5, [toAV t.cells]⟩) :: (34, rdr N (k + 1) (m - 1) (rdT s e0 l0 c0)) :: del ob 34⟩ = some ([bo false], (34, rdr N (k + 1) (m - 1) (rdT s e t.l t.c)) :: (177006, ⟨5, [toAV t.cells]⟩) :: del ob 34) := fun gs e h1 h2 => by
    have := hfail gs ((177006, ⟨5, [toAV t.cells]⟩) :: (34, rdr N (k + 1) (m - 1) (rdT s e0 l0 c0)) :: del ob 34) N (k + 1) (m - 1) s e0 l0 c0 e t h1 (by simp) ⟨h2, by simp [m1, s1], by simp [d1]⟩ (by simp [q169])
    rw [this]; simp
  have hi := hin name t.n
  simp only [Tk.cells, toAV, List.map_cons, List.map_nil] at hn hf
  by_cases h3 : t.kd = 3
  · have hne : numErr name t = 261 := by simp [numErr, h3]
    have x3 := decide_eq_true h3
    clear h3
    simp -implicitDefEqProofs (disch := first | omega | (simp [*] <;> fail) | assumption) [h34, s1, s2, hn, hf, hg, a1, b1, f1, n1, n2, m1, m2, d1, d2, q169, q177, k177, hi, hne, x3]
  by_cases h1 : t.kd = 1
  · have hne : numErr name t = 260 := by simp [numErr, h1]
    have x3 := decide_eq_false h3
    have x1 := decide_eq_true h1
    clear h1 h3
    simp -implicitDefEqProofs (disch := first | omega | (simp [*] <;> fail) | assumption) [h34, s1, s2, hn, hf, hg, a1, b1, f1, n1, n2, m1, m2, d1, d2, q169, q177, k177, hi, hne, x3, x1]
  by_cases h2 : inB name t.n = true
  · have hne : numErr name t = 0 := by simp [numErr, h3, h1, h2]
    simp -implicitDefEqProofs (disch := first | omega | (simp [*] <;> fail) | assumption) [h34, s1, s2, hn, hf, hg, a1, b1, f1, n1, n2, m1, m2, d1, d2, q169, q177, k177, hi, hne, h3, h1, h2]
  · simp only [Bool.not_eq_true] at h2
    have hne : numErr name t = 264 := by simp [numErr, h3, h1, h2]
    simp -implicitDefEqProofs (disch := first | omega | (simp [*] <;> fail) | assumption) [h34, s1, s2, hn, hf, hg, a1, b1, f1, n1, n2, m1, m2, d1, d2, q169, q177, k177, hi, hne, h3, h1, h2]
end Go.Am
namespace Go.Am
def wordErr (t : Tk) : Int := if t.kd = 3 then 261 else if t.kd = 2 then 260 else 0
def WordT (g : St → Option (List AV × List (Nat × Obj))) : Prop := ∀ gs ob N k m (s : Sc) (e0 l0 c0 : Int) (t : Tk) rows, Gh gs → get ob 34 = some (rdr N k m (rdT s e0 l0 c0)) → get ob 1000212 = some ⟨5, rows⟩ → rows.length = N → k + m ≤ N → 1 < m → N ≤ 100000 →
  rows[k]? = some (toAV t.cells) → Nk 170002 gs ob → Nk 170003 gs ob → Nk 169005 gs ob → Nk 176002 gs ob → Nk 176004 gs ob → Kf 170000 171000 ob → Kf 169000 170000 ob → Kf 176000 177000 ob →
  g ⟨(0, .loc 34 0 0) :: gs, ob⟩ = some ([.agg t.cells, bo (decide (wordErr t = 0))], (34, rdr N (k + 1) (m - 1) (if wordErr t = 0 then rdT s e0 l0 c0 else rdT s (wordErr t) t.l t.c)) :: del ob 34)
theorem parse_reader_word_run (Γ : Env) (M : Nat) (hnext : NextT (Γ.pt 170)) (hfail : FailT (Γ.pt 169)) : WordT (runP Γ M parse_reader_word_f) := by
  intro gs ob N k m s e0 l0 c0 t rows hg h34 hT hN hkm hm hNm ht ⟨a1, a2, a3⟩ ⟨b1, b2, b3⟩ ⟨f1, f2, f3⟩ ⟨n1, n2, n3⟩ ⟨p1, p2, p3⟩ k170 k169 k176
  have hn : ∀ gs, Gh gs → nmFr 170002 gs = true → nmFr 170003 gs = true → (Γ.pt 170) ⟨(0, .loc 34 0 0) :: gs, (176002, ⟨5, [toAV tkZero]⟩) :: ob⟩ = some ([.agg t.cells], (34, rdr N (k + 1) (m - 1) (rdT s e0 l0 c0)) :: (176002, ⟨5, [toAV tkZero]⟩) :: del ob 34) := fun gs h1 h2 h3 => by
    have := hnext gs ((176002, ⟨5, [toAV tkZero]⟩) :: ob) N k m _ t rows h1 (by simpa using h34) (by simpa using hT) hN hkm (by omega) hNm ht ⟨h2, by simp [a2], by simp [a3]⟩ ⟨h3, by simp [b2], by simp [b3]⟩ (by simp [k170])
    rw [if_pos hm] at this
    rw [this]; simp
  have q169 := k169.del (k := 34)
  have q176 := k176.del (k := 34)
  have d1 : del (del ob 34) 169005 = del ob 34 := by rw [del_comm, f3]
  have d2 : del (del ob 34) 176002 = del ob 34 := by rw [del_comm, n3]
  have d3 : del (del ob 34) 176004 = del ob 34 := by rw [del_comm, p3]
  have m1 := nmOb_del (j := 34) f2
  have m2 := nmOb_del (j := 34) n2
  have m3 := nmOb_del (j := 34) p2
  have s1 : s.sg.names 169005 = false := by simpa using nmOb_get f2 h34
  have s2 : s.sg.names 176002 = false := by simpa using nmOb_get n2 h34
  have s3 : s.sg.names 176004 = false := by simpa using nmOb_get p2 h34
  have hf : ∀ gs e, Gh gs → nmFr 169005 gs = true → (Γ.pt 169) ⟨(0, .loc 34 0 0) :: (1, i64 e) :: (2, .agg t.cells) :: gs, (176004, ⟨5, [toAV t.cells]⟩) :: (34, rdr N (k + 1) (m - 1) (rdT s e0 l0 c0)) :: (176002, ⟨5, [toAV tkZero]⟩) :: del ob 34⟩ = some ([bo false], (34, rdr N (k + 1) (m - 1) (rdT s e t.l t.c)) :: (176004, ⟨5, [toAV t.cells]⟩) :: (176002, ⟨5, [toAV tkZero]⟩) :: del ob 34) := fun gs e h1 h2 => by
    have := hfail gs ((176004, ⟨5, [toAV t.cells]⟩) :: (34, rdr N (k + 1) (m - 1) (rdT s e0 l0 c0)) :: (176002, ⟨5, [toAV tkZero]⟩) :: del ob 34) N (k + 1) (m - 1) s e0 l0 c0 e t h1 (by simp) ⟨h2, by simp [m1, s1], by simp [d1]⟩ (by simp [q169])
    rw [this]; simp
  simp only [Tk.cells, toAV, List.map_cons, List.map_nil, tkZero] at hn hf
  by_cases h3 : t.kd = 3
  · have hne : wordErr t = 261 := by simp [wordErr, h3]
    have x3 := decide_eq_true h3
    clear h3
    simp -implicitDefEqProofs (disch := first | omega | (simp [*] <;> fail) | assumption) [h34, s1, s2, s3, hn, hf, hg, a1, b1, f1, n1, n2, n3, p1, p2, p3, m1, m2, m3, d1, d2, d3, q169, q176, k176, hne, x3]
  by_cases h1 : t.kd = 2
  · have hne : wordErr t = 260 := by simp [wordErr, h1]
    have x3 := decide_eq_false h3
    have x1 := decide_eq_true h1
    clear h1 h3
    simp -implicitDefEqProofs (disch := first | omega | (simp [*] <;> fail) | assumption) [h34, s1, s2, s3, hn, hf, hg, a1, b1, f1, n1, n2, n3, p1, p2, p3, m1, m2, m3, d1, d2, d3, q169, q176, k176, hne, x3, x1]
  · have hne : wordErr t = 0 := by simp [wordErr, h1, h3]
    simp -implicitDefEqProofs (disch := first | omega | (simp [*] <;> fail) | assumption) [h34, s1, s2, s3, hn, hf, hg, a1, b1, f1, n1, n2, n3, p1, p2, p3, m1, m2, m3, d1, d2, d3, q169, q176, k176, hne, h3, h1]
end Go.Am
namespace Go.Am
def kindN (head : List UInt8) (t : Tk) : Int := if head = pDispatcher then dspW t.tx else temW t.tx
def kindErr (head : List UInt8) (t : Tk) : Int := if wordErr t = 0 then (if kindN head t = 0 then 260 else 0) else wordErr t
def KindT (g : St → Option (List AV × List (Nat × Obj))) : Prop := ∀ gs ob N k m (s : Sc) (e0 l0 c0 : Int) (t : Tk) rows head, Gh gs → get ob 34 = some (rdr N k m (rdT s e0 l0 c0)) → get ob 1000212 = some ⟨5, rows⟩ → rows.length = N → k + m ≤ N → 1 < m → N ≤ 100000 →
  rows[k]? = some (toAV t.cells) → Nk 170002 gs ob → Nk 170003 gs ob → Nk 169005 gs ob → Nk 176002 gs ob → Nk 176004 gs ob → Nk 172006 gs ob → Kf 170000 171000 ob → Kf 169000 170000 ob → Kf 176000 177000 ob → Kf 172000 173000 ob →
  g ⟨(0, .loc 34 0 0) :: (1, st head) :: gs, ob⟩ = some ([i64 (if kindErr head t = 0 then kindN head t else 0), bo (decide (kindErr head t = 0))], (34, rdr N (k + 1) (m - 1) (if kindErr head t = 0 then rdT s e0 l0 c0 else rdT s (kindErr head t) t.l t.c)) :: del ob 34)
theorem parse_reader_kind_run (Γ : Env) (M : Nat) (hword : WordT (Γ.pt 176)) (hfail : FailT (Γ.pt 169)) (hT : TemC (Γ 119)) (hD : DspC (Γ 121)) : KindT (runP Γ M parse_reader_kind_f) := by
  intro gs ob N k m s e0 l0 c0 t rows head hg h34 hTk hN hkm hm hNm ht ⟨a1, a2, a3⟩ ⟨b1, b2, b3⟩ ⟨f1, f2, f3⟩ ⟨n1, n2, n3⟩ ⟨p1, p2, p3⟩ ⟨u1, u2, u3⟩ k170 k169 k176 k172
  have hw : ∀ gs, Gh gs → nmFr 170002 gs = true → nmFr 170003 gs = true → nmFr 169005 gs = true → nmFr 176002 gs = true → nmFr 176004 gs = true → (Γ.pt 176) ⟨(0, .loc 34 0 0) :: gs, ob⟩ = some ([.agg t.cells, bo (decide (wordErr t = 0))], (34, rdr N (k + 1) (m - 1) (if wordErr t = 0 then rdT s e0 l0 c0 else rdT s (wordErr t) t.l t.c)) :: del ob 34) := fun gs h1 h2 h3 h4 h5 h6 =>
    hword gs ob N k m s e0 l0 c0 t rows h1 h34 hTk hN hkm hm hNm ht ⟨h2, a2, a3⟩ ⟨h3, b2, b3⟩ ⟨h4, f2, f3⟩ ⟨h5, n2, n3⟩ ⟨h6, p2, p3⟩ k170 k169 k176
  have q169 := k169.del (k := 34)
  have q172 := k172.del (k := 34)
  have d1 : del (del ob 34) 169005 = del ob 34 := by rw [del_comm, f3]
  have d2 : del (del ob 34) 172006 = del ob 34 := by rw [del_comm, u3]
  have m1 := nmOb_del (j := 34) f2
  have m2 := nmOb_del (j := 34) u2
  have s1 : s.sg.names 169005 = false := by simpa using nmOb_get f2 h34
  have s2 : s.sg.names 172006 = false := by simpa using nmOb_get u2 h34
  have hf : ∀ gs e, Gh gs → nmFr 169005 gs = true → (Γ.pt 169) ⟨(0, .loc 34 0 0) :: (1, i64 e) :: (2, .agg t.cells) :: gs, (172006, ⟨5, [toAV t.cells]⟩) :: (34, rdr N (k + 1) (m - 1) (rdT s e0 l0 c0)) :: del ob 34⟩ = some ([bo false], (34, rdr N (k + 1) (m - 1) (rdT s e t.l t.c)) :: (172006, ⟨5, [toAV t.cells]⟩) :: del ob 34) := fun gs e h1 h2 => by
    have := hfail gs ((172006, ⟨5, [toAV t.cells]⟩) :: (34, rdr N (k + 1) (m - 1) (rdT s e0 l0 c0)) :: del ob 34) N (k + 1) (m - 1) s e0 l0 c0 e t h1 (by simp) ⟨h2, by simp [m1, s1], by simp [d1]⟩ (by simp [q169])
    rw [this]; simp
  have hT' := hT t.tx
  have hD' := hD t.tx
  simp only [Tk.cells, toAV, List.map_cons, List.map_nil] at hw hf
  by_cases h0 : wordErr t = 0
  · have y0 := decide_eq_true h0
    simp only [y0, if_pos h0] at hw
    by_cases hh : head = pDispatcher
    · subst hh
      have hk : kindN pDispatcher t = dspW t.tx := by simp [kindN]
      by_cases hz : dspW t.tx = 0
      · have hne : kindErr pDispatcher t = 260 := by simp [kindErr, h0, hk, hz]
        simp -implicitDefEqProofs (disch := first | omega | (simp [*] <;> fail) | assumption) [h34, s1, s2, hw, hf, hg, a1, b1, f1, n1, p1, u1, m1, m2, d1, d2, q169, q172, k172, hne, hk, hz, hT', hD']
      · have hne : kindErr pDispatcher t = 0 := by simp [kindErr, h0, hk, hz]
        simp -implicitDefEqProofs (disch := first | omega | (simp [*] <;> fail) | assumption) [h34, s1, s2, hw, hf, hg, a1, b1, f1, n1, p1, u1, m1, m2, d1, d2, q169, q172, k172, hne, hk, hz, hT', hD']
    · have hk : kindN head t = temW t.tx := by simp [kindN, hh]
      by_cases hz : temW t.tx = 0
      · have hne : kindErr head t = 260 := by simp [kindErr, h0, hk, hz]
        simp -implicitDefEqProofs (disch := first | omega | (simp [*] <;> fail) | assumption) [h34, s1, s2, hw, hf, hg, a1, b1, f1, n1, p1, u1, m1, m2, d1, d2, q169, q172, k172, hne, hk, hz, hT', hD', hh]
      · have hne : kindErr head t = 0 := by simp [kindErr, h0, hk, hz]
        simp -implicitDefEqProofs (disch := first | omega | (simp [*] <;> fail) | assumption) [h34, s1, s2, hw, hf, hg, a1, b1, f1, n1, p1, u1, m1, m2, d1, d2, q169, q172, k172, hne, hk, hz, hT', hD', hh]
  · have y0 := decide_eq_false h0
    have hne : kindErr head t = wordErr t := by simp [kindErr, h0]
    simp only [y0, if_neg h0] at hw
    simp -implicitDefEqProofs (disch := first | omega | (simp [*] <;> fail) | assumption) [h34, s1, s2, hw, hf, hg, a1, b1, f1, n1, p1, u1, m1, m2, d1, d2, q169, q172, k172, hne, h0, hT', hD']
end Go.Am
namespace Go.Am
abbrev nsR (ns : List Int) : Rows := ns.map fun n => [i64 n]
/-- What a line but a segment's says. -/
def putS (s : Sc) (head : List UInt8) (kind : Int) (ns : List Int) : Sc :=
  match ns with
  | [] => if head = pDispatcher then { s with di := kind } else s
  | [a] => if head = pHorizon then { s with ho := a } else s
  | [a, b] => if head = pBuilding then { s with fl := a, ga := b } else if head = pCars then { s with ca := a, cp := b } else if head = pBins then { s with bi := a, wi := b } else s
  | [a, b, c, d] => if head = pDoors then { s with op := a, dw := b, cl := c, tr := d } else s
  | _ => s
def SetT (g : St → Option (List AV × List (Nat × Obj))) : Prop := ∀ gs ob N k m (s : Sc) (e0 l0 c0 : Int) head (kind : Int) (ns : List Int), Gh gs → get ob 34 = some (rdr N k m (rdT s e0 l0 c0)) → get ob 171006 = some ⟨1, nsR ns⟩ →
  (head = pDispatcher ∧ ns.length = 0 ∨ head = pHorizon ∧ ns.length = 1 ∨ (head = pBuilding ∨ head = pCars ∨ head = pBins) ∧ ns.length = 2 ∨ head = pDoors ∧ ns.length = 4) →
  g ⟨(0, .loc 34 0 0) :: (1, st head) :: (2, i64 kind) :: (3, .sl 171006 ns.length 0 ns.length) :: gs, ob⟩ = some ([], (34, rdr N k m (rdT (putS s head kind ns) e0 l0 c0)) :: del ob 34)
theorem parse_reader_set_run (Γ : Env) (M : Nat) : SetT (runP Γ M parse_reader_set_f) := by
  intro gs ob N k m s e0 l0 c0 head kind ns hg h34 hns hw
  rcases hw with ⟨rfl, hl⟩ | ⟨rfl, hl⟩ | ⟨hh, hl⟩ | ⟨rfl, hl⟩
  · obtain rfl : ns = [] := by simpa using hl
    simp -implicitDefEqProofs (disch := first | omega | (simp [*] <;> fail) | assumption) [h34, hg, putS]
  · obtain ⟨a, rfl⟩ : ∃ a, ns = [a] := List.length_eq_one_iff.1 hl
    have h1 := hns
    simp -implicitDefEqProofs (disch := first | omega | (simp [*] <;> fail) | assumption) [h34, hg, h1, putS]
  · obtain ⟨a, b, rfl⟩ : ∃ a b, ns = [a, b] := by
      match ns, hl with
      | [a, b], _ => exact ⟨a, b, rfl⟩
    have h1 := hns
    rcases hh with rfl | rfl | rfl
    · simp -implicitDefEqProofs (disch := first | omega | (simp [*] <;> fail) | assumption) [h34, hg, h1, putS]
    · simp -implicitDefEqProofs (disch := first | omega | (simp [*] <;> fail) | assumption) [h34, hg, h1, putS]
    · simp -implicitDefEqProofs (disch := first | omega | (simp [*] <;> fail) | assumption) [h34, hg, h1, putS]
  · obtain ⟨a, b, c, d, rfl⟩ : ∃ a b c d, ns = [a, b, c, d] := by
      match ns, hl with
      | [a, b, c, d], _ => exact ⟨a, b, c, d, rfl⟩
    have h1 := hns
    simp -implicitDefEqProofs (disch := first | omega | (simp [*] <;> fail) | assumption) [h34, hg, h1, putS]
end Go.Am
namespace Go.Am
abbrev Sgt := Int × Int × Int
abbrev sgC (x : Sgt) : List AV := [i64 x.1, i64 x.2.1, i64 x.2.2]
abbrev sgsR (l : List Sgt) : Rows := l.map sgC
def sgV (l : List Sgt) : AV := if l = [] then .nil 3 else .sl 1000242 l.length 0 l.length
def SetTrT (g : St → Option (List AV × List (Nat × Obj))) : Prop := ∀ gs ob N k m (s : Sc) (l : List Sgt) (e0 l0 c0 : Int) (kind a b : Int), Gh gs → get ob 34 = some (rdr N k m (rdT s e0 l0 c0)) → s.sg = sgV l → l.length < 9 → (l ≠ [] → get ob 1000242 = some ⟨3, sgsR l⟩) → get ob 171006 = some ⟨1, nsR [a, b]⟩ →
  nmFr 1000242 gs = true → lcFr 1000242 gs = true → (l = [] → nmOb 1000242 ob = true) → lcOb 1000242 ob = true →
  g ⟨(0, .loc 34 0 0) :: (1, st pTraffic) :: (2, i64 kind) :: (3, .sl 171006 2 0 2) :: gs, ob⟩ = some ([], (34, rdr N k m (rdT { s with sg := sgV (l ++ [(kind, a, b)]) } e0 l0 c0)) :: (1000242, ⟨3, sgsR (l ++ [(kind, a, b)])⟩) :: del (del ob 34) 1000242)
theorem parse_reader_set_traffic (Γ : Env) (M : Nat) : SetTrT (runP Γ M parse_reader_set_f) := by
  intro gs ob N k m s l e0 l0 c0 kind a b hg h34 hsg hl9 hsl hns n1 n2 n3 n4
  have g34 : get (del ob 1000242) 34 = some (rdr N k m (rdT s e0 l0 c0)) := by rw [get_del, if_neg (by decide)]; exact h34
  have hdc : del (del ob 1000242) 34 = del (del ob 34) 1000242 := del_comm _ _ _
  cases l with
  | nil =>
    have n5 := nmOb_del (j := 1000242) (n3 rfl)
    simp only [sgV, if_true] at hsg
    simp -implicitDefEqProofs (disch := first | omega | (simp [*] <;> fail) | assumption) [h34, hg, hns, hsg, n1, n2, n4, n5, sgV, g34, hdc]
  | cons x r =>
    have h2 := hsl (by simp)
    have hro : room (r.length + 1 + 1) 24 = true := by simp only [List.length_cons] at hl9; simp only [room, decide_eq_true_eq]; omega
    have hsg' : s.sg = .sl 1000242 (r.length + 1) 0 (r.length + 1) := by rw [hsg]; simp [sgV]
    simp -implicitDefEqProofs (disch := first | omega | (simp [*] <;> fail) | assumption) [h34, hg, hns, hsg', h2, n1, n2, n4, sgV, hro, g34, hdc]
end Go.Am
