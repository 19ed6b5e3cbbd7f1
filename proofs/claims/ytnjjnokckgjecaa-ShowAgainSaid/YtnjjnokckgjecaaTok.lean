/- Law 19: what tokens are: of which kinds, with which texts and numbers. -/
import Derived.Test.YtnjjnokckgjecaaLexWith
import Derived.Test.YtnjjnokckgjecaaDigits
set_option linter.unusedVariables false
set_option linter.unusedSimpArgs false
set_option maxRecDepth 10000
set_option maxHeartbeats 1000000
namespace Go.Am
theorem dg_of {d : UInt8} (h1 : 48 ≤ d.toNat) (h2 : d.toNat ≤ 57) : dg ((d.toNat : Int) - 48) = d := by
  apply UInt8.toNat_inj.1
  have := dg_toNat (d := (d.toNat : Int) - 48) (by omega) (by omega)
  omega
theorem dig_one {n : Int} (h : n < 10) : dig n = [dg n] := by
  simp [dig, digF, h]
theorem dig_snoc {n d : Int} (h1 : 1 ≤ n) (h2 : n ≤ 1073741824) (h3 : 0 ≤ d) (h4 : d ≤ 9) : dig (10 * n + d) = dig n ++ [dg d] := by
  have e1 : dig (10 * n + d) = digF 19 ((10 * n + d) / 10) ++ [dg ((10 * n + d) % 10)] := by
    unfold dig
    rw [show (20 : Nat) = 19 + 1 from rfl, digF, if_neg (by omega)]
  have e2 : (10 * n + d) / 10 = n := by omega
  have e3 : (10 * n + d) % 10 = d := by omega
  rw [e1, e2, e3]
  have := digF_more 19 1 n ⟨by omega, by omega, by omega⟩ (by omega)
  unfold dig
  rw [← this]
theorem numG_ge : ∀ (w : List UInt8) (n : Int), (∀ d ∈ w, 48 ≤ d.toNat ∧ d.toNat ≤ 57) → 0 ≤ n → n ≤ numG w n
  | [], n, _, _ => Int.le_refl _
  | d :: w, n, h, h0 => by
    have := h d (by simp)
    simp only [numG]
    split
    · exact Int.le_refl _
    · have := numG_ge w (10 * n + (d.toNat - 48)) (fun d hd => h d (by simp [hd])) (by omega)
      omega
theorem dig_numG : ∀ (w : List UInt8) (n : Int), (∀ d ∈ w, 48 ≤ d.toNat ∧ d.toNat ≤ 57) → 1 ≤ n → numG w n ≤ 1073741824 → dig (numG w n) = dig n ++ w
  | [], n, _, _, _ => by simp [numG]
  | d :: w, n, h, h1, h2 => by
    have hd := h d (by simp)
    have hw : ∀ d ∈ w, 48 ≤ d.toNat ∧ d.toNat ≤ 57 := fun d hd => h d (by simp [hd])
    simp only [numG] at h2 ⊢
    split
    · rename_i hn; rw [if_pos hn] at h2; omega
    · rename_i hn
      rw [if_neg hn] at h2
      rw [dig_numG w _ hw (by omega) h2, dig_snoc h1 (by omega) (by omega) (by omega), dg_of hd.1 hd.2]
      simp
/-- A number's text is its digits. -/
theorem dig_of_text {w : List UInt8} (hne : w ≠ []) (h : ∀ d ∈ w, 48 ≤ d.toNat ∧ d.toNat ≤ 57) (hb : ¬ numBad w) : dig (numG w 0) = w ∧ 0 ≤ numG w 0 ∧ numG w 0 ≤ 1073741824 := by
  have hle : numG w 0 ≤ 1073741824 := by
    unfold numBad at hb
    by_cases hx : 1073741824 < numG w 0
    · exact (hb (.inl hx)).elim
    · omega
  refine ⟨?_, numG_ge w 0 h (by omega), hle⟩
  cases w with
  | nil => exact (hne rfl).elim
  | cons d w =>
    have hd := h d (by simp)
    have hw : ∀ d ∈ w, 48 ≤ d.toNat ∧ d.toNat ≤ 57 := fun d hd => h d (by simp [hd])
    have e : numG (d :: w) 0 = numG w ((d.toNat : Int) - 48) := by simp [numG]
    rw [e] at hle ⊢
    cases w with
    | nil =>
      simp only [numG]
      rw [dig_one (by omega), dg_of hd.1 hd.2]
    | cons d2 w =>
      have h48 : d ≠ 48 := by
        intro h48
        exact hb (.inr ⟨by simp, by simp [h48]⟩)
      have h48' : d.toNat ≠ 48 := fun hx => h48 (UInt8.toNat_inj.1 hx)
      rw [dig_numG (d2 :: w) _ hw (by omega) hle, dig_one (by omega), dg_of hd.1 hd.2]
      simp
theorem mem_dig : ∀ (k : Nat) (n : Int), 0 ≤ n → ∀ d ∈ digF k n, 48 ≤ d.toNat ∧ d.toNat ≤ 57
  | 0, n, _, d, h => by simp [digF] at h
  | k + 1, n, h0, d, h => by
    simp only [digF] at h
    split at h
    · simp only [List.mem_singleton] at h
      subst h
      have := dg_toNat (d := n) h0 (by omega)
      omega
    · simp only [List.mem_append, List.mem_singleton] at h
      rcases h with h | rfl
      · exact mem_dig k _ (by omega) d h
      · have := dg_toNat (d := n % 10) (by omega) (by omega)
        omega
theorem dig_ne (n : Int) : dig n ≠ [] := by
  unfold dig
  rw [show (20 : Nat) = 19 + 1 from rfl, digF]
  split <;> simp
/-- What a token is. -/
structure TkOk (t : Tk) : Prop where
  len : t.tx.length ≤ 65536
  num : 0 ≤ t.n ∧ t.n ≤ 1073741824
  lin : 1 ≤ t.l ∧ t.l ≤ 65537
  col : 1 ≤ t.c ∧ t.c ≤ 65537
  kind : (t.kd = 3 ∧ t.tx = [] ∧ t.n = 0) ∨ (t.kd = 1 ∧ t.n = 0 ∧ t.tx ≠ [] ∧ ∀ b ∈ t.tx, isLt b = true) ∨ (t.kd = 2 ∧ t.tx = dig t.n)
theorem tw_mem {p : UInt8 → Bool} {s : List UInt8} {a : Nat} {b : UInt8} (h : b ∈ tw p s a) : p b = true := mem_tw h
theorem tw_ne {p : UInt8 → Bool} {s : List UInt8} {a : Nat} (ha : a < s.length) (h : p s[a] = true) : tw p s a ≠ [] := by
  unfold tw
  rw [List.drop_eq_getElem_cons ha, List.takeWhile_cons, if_pos h]
  simp
theorem isDg_iff {b : UInt8} (h : isDg b = true) : 48 ≤ b.toNat ∧ b.toNat ≤ 57 := by
  simp [isDg] at h; omega
theorem nx_ok {s : List UInt8} {a : Nat} {l c : Int} (hs : s.length ≤ 65536) (ha : a < s.length) (hl : 1 ≤ l ∧ l ≤ a + 1) (hc : 1 ≤ c ∧ c ≤ a + 1) {t : List Tk} {a' : Nat} {l' c' : Int} (h : nx s a l c = .go t a' l' c') : ∀ x ∈ t, TkOk x := by
  have hb : s[a]? = some s[a] := List.getElem?_eq_getElem ha
  simp only [nx, hb] at h
  split at h
  · simp only [Nx.go.injEq] at h; obtain ⟨rfl, _⟩ := h; simp
  · split at h
    · simp only [Nx.go.injEq] at h; obtain ⟨rfl, _⟩ := h; simp
    · split at h
      · simp only [Nx.go.injEq] at h; obtain ⟨rfl, _⟩ := h
        intro x hx; simp only [List.mem_singleton] at hx; subst hx
        exact ⟨by simp, by simp, by simp only; omega, by simp only; omega, .inl ⟨rfl, rfl, rfl⟩⟩
      · split at h
        · rename_i h4
          have hle := twl_le isLt s a (by omega)
          simp only [Nx.go.injEq] at h; obtain ⟨rfl, _⟩ := h
          intro x hx; simp only [List.mem_singleton] at hx; subst hx
          refine ⟨?_, by simp, by simp only; omega, by simp only; omega, .inr (.inl ⟨rfl, rfl, tw_ne ha h4, fun b hb => tw_mem hb⟩)⟩
          show (tw isLt s a).length ≤ 65536
          have : twl isLt s a = (tw isLt s a).length := rfl
          omega
        · split at h
          · rename_i h5
            split at h
            · simp at h
            · rename_i hnb
              have hle := twl_le isDg s a (by omega)
              obtain ⟨q1, q2, q3⟩ := dig_of_text (tw_ne ha h5) (fun d hd => isDg_iff (tw_mem hd)) hnb
              simp only [Nx.go.injEq] at h; obtain ⟨rfl, _⟩ := h
              intro x hx; simp only [List.mem_singleton] at hx; subst hx
              refine ⟨?_, ⟨q2, q3⟩, by simp only; omega, by simp only; omega, .inr (.inr ⟨rfl, q1.symm⟩)⟩
              show (tw isDg s a).length ≤ 65536
              have : twl isDg s a = (tw isDg s a).length := rfl
              omega
          · simp at h
theorem finT_ok {s : List UInt8} {ts : List Tk} {l c : Int} (hl : 1 ≤ l ∧ l ≤ 65537) (hc : 1 ≤ c ∧ c ≤ 65537) (h : ∀ x ∈ ts, TkOk x) : (∀ x ∈ finT ts l c, TkOk x) ∧ ∃ t, (finT ts l c).getLast? = some t ∧ t.kd = 3 := by
  unfold finT
  split
  · refine ⟨fun x hx => ?_, ⟨3, [], 0, l, c⟩, by simp, rfl⟩
    simp only [List.mem_append, List.mem_singleton] at hx
    rcases hx with hx | rfl
    · exact h x hx
    · exact ⟨by simp, by simp, hl, hc, .inl ⟨rfl, rfl, rfl⟩⟩
  · rename_i hn
    refine ⟨h, ?_⟩
    unfold lastNo at hn
    cases ht : ts.getLast? with
    | none => simp [ht] at hn
    | some t => exact ⟨t, rfl, by simpa [ht] using hn⟩
theorem scl_ok (s : List UInt8) (hs : s.length ≤ 65536) : ∀ (f a : Nat) (l c : Int) (ts : List Tk), s.length - a < f → a ≤ s.length → (1 ≤ l ∧ l ≤ a + 1) → (1 ≤ c ∧ c ≤ a + 1) → (∀ x ∈ ts, TkOk x) →
    (∀ x ∈ (scl s f a l c ts).ts, TkOk x) ∧ ((scl s f a l c ts).e = 0 → ∃ t, (scl s f a l c ts).ts.getLast? = some t ∧ t.kd = 3)
  | 0, a, l, c, ts, h, _, _, _, _ => by omega
  | f + 1, a, l, c, ts, h, ha, hl, hc, hts => by
    simp only [scl]
    split
    · rename_i hlt
      cases hx : nx s a l c with
      | err e =>
        have := nx_err hlt hx
        refine ⟨by simp, fun h0 => ?_⟩
        simp only at h0; omega
      | go t a' l' c' =>
        obtain ⟨g1, g2, g3, g4, _⟩ := nx_go hlt hl hc hx
        have ho := nx_ok hs hlt hl hc hx
        exact scl_ok s hs f a' l' c' (ts ++ t) (by omega) g2 g3 g4 fun x hx => by
          simp only [List.mem_append] at hx
          rcases hx with hx | hx
          · exact hts x hx
          · exact ho x hx
    · obtain ⟨h1, h2⟩ := finT_ok (s := s) (l := l) (c := c) ⟨by omega, by omega⟩ ⟨by omega, by omega⟩ hts
      exact ⟨h1, fun _ => h2⟩
theorem scanR_ok (s : List UInt8) (hs : s.length ≤ 65536) : (∀ x ∈ (scanR s).ts, TkOk x) ∧ ((scanR s).e = 0 → ∃ t, (scanR s).ts.getLast? = some t ∧ t.kd = 3) :=
  scl_ok s hs _ 0 1 1 [] (by omega) (by omega) (by simp) (by simp) (by simp)
theorem scanR_e (s : List UInt8) : ((scanR s).e = 0 ∧ (scanR s).l = 0 ∧ (scanR s).c = 0) ∨ (((scanR s).e = 190 ∨ (scanR s).e = 191) ∧ (scanR s).ts = []) := by
  rcases scanR_wi s with ⟨h1, h2, h3, _⟩ | ⟨h1, h2, _⟩
  · exact .inl ⟨h1, h2, h3⟩
  · exact .inr ⟨h1, h2⟩
theorem scanR_len (s : List UInt8) : (scanR s).ts.length ≤ s.length + 1 := scl_len s (s.length + 1) 0 1 1 [] (by omega) (by omega) (by omega) (by simp)

/-! ### Texts of words and numbers, written and read -/
/-- A word, or a number. -/
inductive It where
  | w (x : List UInt8)
  | n (x : Int)
def It.ok : It → Prop
  | .w x => x ≠ [] ∧ ∀ b ∈ x, isLt b = true
  | .n x => 0 ≤ x ∧ x ≤ 1073741824
def It.tx : It → List UInt8
  | .w x => x
  | .n x => dig x
def It.tk : It → Int → Int → Tk
  | .w x, l, c => ⟨1, x, 0, l, c⟩
  | .n x, l, c => ⟨2, dig x, x, l, c⟩
/-- A line: words and numbers with one blank between. -/
def lineT : List It → List UInt8
  | [] => [10]
  | [x] => x.tx ++ [10]
  | x :: y :: r => x.tx ++ 32 :: lineT (y :: r)
def lineK : List It → Int → Int → List Tk
  | [], l, c => [⟨3, [], 0, l, c⟩]
  | [x], l, c => [x.tk l c, ⟨3, [], 0, l, c + x.tx.length⟩]
  | x :: y :: r, l, c => x.tk l c :: lineK (y :: r) l (c + x.tx.length + 1)
def linesT : List (List It) → List UInt8
  | [] => []
  | x :: r => lineT x ++ linesT r
def linesK : List (List It) → Int → List Tk
  | [], _ => []
  | x :: r, l => lineK x l 1 ++ linesK r (l + 1)
theorem head_app {a b : List UInt8} (h : a ≠ []) : (a ++ b).head? = a.head? := by
  cases a with
  | nil => exact (h rfl).elim
  | cons x a => rfl
theorem digF_head : ∀ (k : Nat) (m : Int), 1 ≤ m → m < 10 ^ k → (digF k m).head? ≠ some 48
  | 0, m, h, h2 => by simp at h2; omega
  | k + 1, m, h, h2 => by
    simp only [digF]
    split
    · have := dg_toNat (d := m) (by omega) (by omega)
      intro hx; simp only [List.head?_cons, Option.some.injEq] at hx
      rw [hx] at this; simp at this; omega
    · have hne : digF k (m / 10) ≠ [] := by
        cases k with
        | zero => simp at h2; omega
        | succ k => simp only [digF]; split <;> simp
      rw [head_app hne]
      exact digF_head k (m / 10) (by omega) (by rw [Int.pow_succ] at h2; omega)
theorem numG_dig {n : Int} (h0 : 0 ≤ n) (h1 : n ≤ 1073741824) : numG (dig n) 0 = n ∧ ¬ numBad (dig n) := by
  -- by the text's own digits
  have key : ∀ (k : Nat) (m : Int), 0 ≤ m → m ≤ 1073741824 → m < 10 ^ k → 0 < k → numG (digF k m) 0 = m ∧ (1 < (digF k m).length → (digF k m).head? ≠ some 48) ∧ ∀ (d : UInt8), 48 ≤ d.toNat → d.toNat ≤ 57 → numG (digF k m ++ [d]) 0 = 10 * m + (d.toNat - 48) := by
    intro k
    induction k with
    | zero => intro m _ _ _ h; omega
    | succ k ih =>
      intro m m0 m1 mk _
      have hd := fun (x : Int) (h0 : 0 ≤ x) (h9 : x ≤ 9) => dg_toNat h0 h9
      simp only [digF]
      split
      · have := hd m m0 (by omega)
        refine ⟨by simp only [numG]; rw [if_neg (by omega)]; omega, by simp, fun d d1 d2 => ?_⟩
        simp only [List.cons_append, List.nil_append, numG]
        rw [if_neg (by omega), if_neg (by omega)]; omega
      · have hk : 0 < k := by
          rcases Nat.eq_zero_or_pos k with rfl | hk
          · simp at mk; omega
          · exact hk
        obtain ⟨i1, i2, i3⟩ := ih (m / 10) (by omega) (by omega) (by rw [Int.pow_succ] at mk; omega) hk
        have hm := hd (m % 10) (by omega) (by omega)
        have e1 := i3 (dg (m % 10)) (by omega) (by omega)
        have e2 : numG (digF k (m / 10) ++ [dg (m % 10)]) 0 = m := by rw [e1]; omega
        have hne : digF k (m / 10) ≠ [] := by
          cases k with
          | zero => omega
          | succ k => simp only [digF]; split <;> simp
        have hh : (digF k (m / 10)).head? ≠ some 48 := digF_head k (m / 10) (by omega) (by rw [Int.pow_succ] at mk; omega)
        have hsp : ∀ (d : UInt8), 48 ≤ d.toNat → d.toNat ≤ 57 → numG (digF k (m / 10) ++ [dg (m % 10)] ++ [d]) 0 = 10 * m + (d.toNat - 48) := by
          intro d d1 d2
          have app : ∀ (w : List UInt8) (x : Int) (y : List UInt8), (∀ d ∈ w, 48 ≤ d.toNat ∧ d.toNat ≤ 57) → 0 ≤ x → numG w x ≤ 1073741824 → numG (w ++ y) x = numG y (numG w x) := by
            intro w
            induction w with
            | nil => intro x y _ _ _; rfl
            | cons b w ihw =>
              intro x y hb hx hle
              have hbb := hb b (by simp)
              simp only [List.cons_append, numG] at hle ⊢
              split
              · rename_i hgt; rw [if_pos hgt] at hle; omega
              · rename_i hgt; rw [if_neg hgt] at hle
                exact ihw _ y (fun d hd => hb d (by simp [hd])) (by omega) hle
          rw [app _ 0 [d] (fun x hx => ?_) (by omega) (by rw [e2]; omega), e2]
          · simp only [numG]; rw [if_neg (by omega)]
          · simp only [List.mem_append, List.mem_singleton] at hx
            rcases hx with hx | rfl
            · exact mem_dig k _ (by omega) x hx
            · omega
        refine ⟨e2, fun _ => ?_, hsp⟩
        rw [head_app hne]; exact hh
  obtain ⟨k1, k2, _⟩ := key 20 n h0 h1 (by omega) (by omega)
  refine ⟨k1, ?_⟩
  unfold numBad
  rintro (h | ⟨h, h'⟩)
  · unfold dig at h; omega
  · exact k2 h h'
end Go.Am
