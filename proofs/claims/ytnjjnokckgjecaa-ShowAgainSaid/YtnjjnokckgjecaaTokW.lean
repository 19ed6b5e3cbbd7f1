/- Law 19: texts of words and numbers are scanned as they were written. -/
import Derived.Test.YtnjjnokckgjecaaTok
set_option linter.unusedVariables false
set_option linter.unusedSimpArgs false
set_option maxRecDepth 10000
set_option maxHeartbeats 1000000
namespace Go.Am
theorem drop_lt {s rest : List UInt8} {a : Nat} {b : UInt8} (h : s.drop a = b :: rest) : a < s.length ∧ s[a]? = some b := by
  have h1 : (s.drop a)[0]? = some b := by rw [h]; rfl
  rw [List.getElem?_drop] at h1
  simp only [Nat.add_zero] at h1
  exact ⟨(List.getElem?_eq_some_iff.1 h1).1, h1⟩
theorem drop_app {s w rest : List UInt8} {a : Nat} (h : s.drop a = w ++ rest) : s.drop (a + w.length) = rest := by
  rw [← List.drop_drop, h]; simp
theorem tw_of {p : UInt8 → Bool} {s w rest : List UInt8} {a : Nat} (h : s.drop a = w ++ rest) (hw : ∀ b ∈ w, p b = true) (hr : ∀ b, rest.head? = some b → p b = false) : tw p s a = w := by
  unfold tw
  rw [h, List.takeWhile_append_of_pos hw]
  cases rest with
  | nil => simp
  | cons b r => rw [List.takeWhile_cons, hr b rfl]; simp
theorem lt_not {b : UInt8} (h : isLt b = true) : isBl b = false ∧ ¬ (b.toNat : Int) = 35 ∧ ¬ (b.toNat : Int) = 10 := by
  simp [isLt] at h
  refine ⟨?_, by omega, by omega⟩
  have h1 : ¬ (b.toNat : Int) = 32 := by omega
  have h2 : ¬ (b.toNat : Int) = 9 := by omega
  have h3 : ¬ (b.toNat : Int) = 13 := by omega
  simp only [isBl, decide_eq_false h1, decide_eq_false h2, decide_eq_false h3]; rfl
theorem dg_not {b : UInt8} (h : 48 ≤ b.toNat ∧ b.toNat ≤ 57) : isBl b = false ∧ ¬ (b.toNat : Int) = 35 ∧ ¬ (b.toNat : Int) = 10 ∧ isLt b = false ∧ isDg b = true := by
  have h1 : ¬ (b.toNat : Int) = 32 := by omega
  have h2 : ¬ (b.toNat : Int) = 9 := by omega
  have h3 : ¬ (b.toNat : Int) = 13 := by omega
  have h4 : ¬ 97 ≤ (b.toNat : Int) := by omega
  have h5 : 48 ≤ (b.toNat : Int) := by omega
  have h6 : (b.toNat : Int) ≤ 57 := by omega
  refine ⟨?_, by omega, by omega, ?_, ?_⟩
  · simp only [isBl, decide_eq_false h1, decide_eq_false h2, decide_eq_false h3]; rfl
  · simp only [isLt, decide_eq_false h4]; rfl
  · simp only [isDg, decide_eq_true h5, decide_eq_true h6]; rfl
theorem scl_bl {s rest : List UInt8} {f a : Nat} {l c : Int} {ts : List Tk} (h : s.drop a = 32 :: rest) : scl s (f + 1) a l c ts = scl s f (a + 1) l (c + 1) ts := by
  obtain ⟨h1, h2⟩ := drop_lt h
  have hb : isBl 32 = true := by decide
  simp only [scl, if_pos h1, nx, h2, hb, if_true, List.append_nil]
theorem scl_nl {s rest : List UInt8} {f a : Nat} {l c : Int} {ts : List Tk} (h : s.drop a = 10 :: rest) : scl s (f + 1) a l c ts = scl s f (a + 1) (l + 1) 1 (ts ++ [⟨3, [], 0, l, c⟩]) := by
  obtain ⟨h1, h2⟩ := drop_lt h
  have hb : isBl 10 = false := by decide
  have h35 : ¬ (((10 : UInt8).toNat : Int) = 35) := by decide
  have h10 : (((10 : UInt8).toNat : Int) = 10) := by decide
  simp only [scl, if_pos h1, nx, h2, hb, if_neg h35, if_pos h10, Bool.false_eq_true, if_false]
theorem It.tx_ne {x : It} (h : x.ok) : x.tx ≠ [] := by
  cases x with
  | w x => exact h.1
  | n x => exact dig_ne x
theorem scl_it {s rest : List UInt8} {f a : Nat} {l c : Int} {ts : List Tk} {x : It} (hx : x.ok) (h : s.drop a = x.tx ++ rest) (hr : ∀ b, rest.head? = some b → isLt b = false ∧ isDg b = false) :
    scl s (f + 1) a l c ts = scl s f (a + x.tx.length) l (c + x.tx.length) (ts ++ [x.tk l c]) := by
  cases x with
  | w x =>
    obtain ⟨hne, hl⟩ := hx
    have htw := tw_of (p := isLt) h hl (fun b hb => (hr b hb).1)
    simp only [It.tx] at h htw ⊢
    obtain ⟨b, r, rfl⟩ : ∃ b r, x = b :: r := by cases x with | nil => exact (hne rfl).elim | cons b r => exact ⟨b, r, rfl⟩
    obtain ⟨h1, h2⟩ := drop_lt h
    have hb := hl b (by simp)
    obtain ⟨n1, n2, n3⟩ := lt_not hb
    simp only [scl, if_pos h1, nx, h2, n1, if_neg n2, if_neg n3, hb, htw, It.tk, if_true, Bool.false_eq_true, if_false]
  | n x =>
    obtain ⟨g1, g2⟩ := numG_dig hx.1 hx.2
    have hl : ∀ b ∈ dig x, 48 ≤ b.toNat ∧ b.toNat ≤ 57 := mem_dig 20 x hx.1
    have htw := tw_of (p := isDg) h (fun b hb => (dg_not (hl b hb)).2.2.2.2) (fun b hb => (hr b hb).2)
    simp only [It.tx] at h htw ⊢
    obtain ⟨b, r, he⟩ : ∃ b r, dig x = b :: r := by cases he : dig x with | nil => exact (dig_ne x he).elim | cons b r => exact ⟨b, r, rfl⟩
    have h0 := h
    rw [he] at h0
    obtain ⟨h1, h2⟩ := drop_lt h0
    have hb := hl b (by rw [he]; simp)
    obtain ⟨n1, n2, n3, n4, n5⟩ := dg_not hb
    simp only [scl, if_pos h1, nx, h2, n1, if_neg n2, if_neg n3, n4, n5, htw, g1, if_neg g2, It.tk, if_true, Bool.false_eq_true, if_false]
theorem sep_not (b : UInt8) (h : b = 32 ∨ b = 10) : isLt b = false ∧ isDg b = false := by
  rcases h with rfl | rfl <;> decide
theorem scl_line {s : List UInt8} : ∀ (its : List It), (∀ x ∈ its, x.ok) → ∀ (rest : List UInt8) (f a : Nat) (l c : Int) (ts : List Tk), s.drop a = lineT its ++ rest → (lineT its).length ≤ f →
    ∃ f', f ≤ f' + (lineT its).length ∧ scl s f a l c ts = scl s f' (a + (lineT its).length) (l + 1) 1 (ts ++ lineK its l c)
  | [], _, rest, f, a, l, c, ts, h, hf => by
    simp only [lineT, List.length_singleton] at hf
    obtain ⟨f, rfl⟩ : ∃ g, f = g + 1 := ⟨f - 1, by omega⟩
    exact ⟨f, by simp [lineT], by rw [scl_nl h]; simp [lineT, lineK]⟩
  | [x], hok, rest, f, a, l, c, ts, h, hf => by
    have hx := hok x (by simp)
    have hlen := List.length_pos_iff.2 (It.tx_ne hx)
    simp only [lineT, List.length_append, List.length_singleton] at hf
    obtain ⟨f, rfl⟩ : ∃ g, f = g + 1 + 1 := ⟨f - 2, by omega⟩
    simp only [lineT, List.append_assoc] at h
    have hn := drop_app h
    rw [scl_it hx h (fun b hb => sep_not b (.inr (by simpa using hb.symm))), scl_nl hn]
    exact ⟨f, by simp [lineT]; omega, by simp [lineT, lineK, Nat.add_assoc]⟩
  | x :: y :: r, hok, rest, f, a, l, c, ts, h, hf => by
    have hx := hok x (by simp)
    have hlen := List.length_pos_iff.2 (It.tx_ne hx)
    simp only [lineT, List.length_append, List.length_cons] at hf
    obtain ⟨f, rfl⟩ : ∃ g, f = g + 1 + 1 := ⟨f - 2, by omega⟩
    simp only [lineT, List.append_assoc] at h
    have hn := drop_app h
    have hn2 : s.drop (a + x.tx.length + 1) = lineT (y :: r) ++ rest := by
      have : s.drop (a + x.tx.length) = [32] ++ (lineT (y :: r) ++ rest) := by rw [hn]; simp
      simpa using drop_app this
    obtain ⟨f', h1, h2⟩ := scl_line (s := s) (y :: r) (fun z hz => hok z (by simp [hz])) rest f (a + x.tx.length + 1) l (c + x.tx.length + 1) (ts ++ [x.tk l c]) hn2 (by omega)
    refine ⟨f', by simp only [lineT, List.length_append, List.length_cons]; omega, ?_⟩
    rw [scl_it hx h (fun b hb => sep_not b (.inl (by simpa using hb.symm))), scl_bl hn, h2]
    have e1 : a + x.tx.length + 1 + (lineT (y :: r)).length = a + (lineT (x :: y :: r)).length := by
      simp only [lineT, List.length_append, List.length_cons]; omega
    rw [e1]
    simp [lineK]
theorem scl_lines {s : List UInt8} : ∀ (ls : List (List It)), (∀ its ∈ ls, ∀ x ∈ its, x.ok) → ∀ (rest : List UInt8) (f a : Nat) (l : Int) (ts : List Tk), s.drop a = linesT ls ++ rest → (linesT ls).length ≤ f →
    ∃ f', f ≤ f' + (linesT ls).length ∧ scl s f a l 1 ts = scl s f' (a + (linesT ls).length) (l + ls.length) 1 (ts ++ linesK ls l)
  | [], _, rest, f, a, l, ts, h, hf => ⟨f, by simp, by simp [linesT, linesK]⟩
  | x :: r, hok, rest, f, a, l, ts, h, hf => by
    simp only [linesT, List.length_append, List.append_assoc] at h hf
    obtain ⟨f1, h1, h2⟩ := scl_line x (hok x (by simp)) (linesT r ++ rest) f a l 1 ts h (by omega)
    obtain ⟨f2, h3, h4⟩ := scl_lines (s := s) r (fun y hy => hok y (by simp [hy])) rest f1 (a + (lineT x).length) (l + 1) (ts ++ lineK x l 1) (drop_app h) (by omega)
    refine ⟨f2, by simp only [linesT, List.length_append]; omega, ?_⟩
    rw [h2, h4]
    have e1 : a + (lineT x).length + (linesT r).length = a + (linesT (x :: r)).length := by simp only [linesT, List.length_append]; omega
    have e2 : l + 1 + (r.length : Int) = l + ((x :: r).length : Int) := by simp only [List.length_cons]; omega
    rw [e1, e2]
    simp [linesK]
theorem lineK_last : ∀ (its : List It) (l c : Int), ∃ t, (lineK its l c).getLast? = some t ∧ t.kd = 3
  | [], l, c => ⟨_, rfl, rfl⟩
  | [x], l, c => ⟨⟨3, [], 0, l, c + x.tx.length⟩, rfl, rfl⟩
  | x :: y :: r, l, c => by
    obtain ⟨t, h1, h2⟩ := lineK_last (y :: r) l (c + x.tx.length + 1)
    refine ⟨t, ?_, h2⟩
    simp only [lineK]
    rw [List.getLast?_cons, h1]; rfl
theorem linesK_last : ∀ (ls : List (List It)) (l : Int), ls ≠ [] → ∃ t, (linesK ls l).getLast? = some t ∧ t.kd = 3
  | [], l, h => (h rfl).elim
  | [x], l, _ => by simpa [linesK] using lineK_last x l 1
  | x :: y :: r, l, _ => by
    obtain ⟨t, h1, h2⟩ := linesK_last (y :: r) (l + 1) (by simp)
    refine ⟨t, ?_, h2⟩
    rw [linesK, List.getLast?_append, h1]; rfl
/-- What was written is scanned as it was. -/
theorem scanR_lines (ls : List (List It)) (hne : ls ≠ []) (hok : ∀ its ∈ ls, ∀ x ∈ its, x.ok) : scanR (linesT ls) = ⟨linesK ls 1, 0, 0, 0⟩ := by
  obtain ⟨f', h1, h2⟩ := scl_lines (s := linesT ls) ls hok [] ((linesT ls).length + 1) 0 1 [] (by simp) (by omega)
  unfold scanR
  rw [h2]
  obtain ⟨f', rfl⟩ : ∃ g, f' = g + 1 := ⟨f' - 1, by omega⟩
  obtain ⟨t, h3, h4⟩ := linesK_last ls 1 hne
  simp only [scl, Nat.zero_add, Nat.lt_irrefl, if_false, List.nil_append, finT, lastNo, h3]
  rw [if_neg (by simp [h4])]
theorem scanR_none : scanR (linesT []) = ⟨[⟨3, [], 0, 1, 1⟩], 0, 0, 0⟩ := rfl
end Go.Am
