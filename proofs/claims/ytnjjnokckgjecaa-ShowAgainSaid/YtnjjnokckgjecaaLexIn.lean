/- Law 19: where the tokens lie. -/
import Derived.Test.YtnjjnokckgjecaaLexRun
set_option linter.unusedVariables false
set_option linter.unusedSimpArgs false
set_option maxRecDepth 10000
set_option maxHeartbeats 1000000
namespace Go.Am
theorem plc_lt (s : List UInt8) {j k : Nat} (h : j < k) : (plc s j).1 < (plc s k).1 ∨ ((plc s j).1 = (plc s k).1 ∧ (plc s j).2 < (plc s k).2) := by
  induction k with
  | zero => omega
  | succ k ih =>
    rcases Nat.lt_or_ge j k with hj | hj
    · have := ih hj
      simp only [plc]
      split
      · left; simp only; omega
      · simp only; omega
    · obtain rfl : j = k := by omega
      simp only [plc]
      split
      · left; simp only; omega
      · exact .inr ⟨rfl, by simp only; omega⟩
theorem plc_inj (s : List UInt8) {j k : Nat} (h1 : (plc s j).1 = (plc s k).1) (h2 : (plc s j).2 = (plc s k).2) : j = k := by
  rcases Nat.lt_trichotomy j k with h | h | h
  · have := plc_lt s h; omega
  · exact h
  · have := plc_lt s h; omega
theorem plc_run (s : List UInt8) (a : Nat) : ∀ n, (∀ i < n, s[a + i]? ≠ some 10) → plc s (a + n) = ((plc s a).1, (plc s a).2 + n)
  | 0, _ => by simp
  | n + 1, h => by
    have ih := plc_run s a n (fun i hi => h i (by omega))
    have hn := h n (by omega)
    rw [← Nat.add_assoc, plc, if_neg hn, ih]
    simp [Int.add_assoc]
/-- A token lies at a place. -/
def okTk (s : List UInt8) (p : Nat) (t : Tk) : Prop := p ≤ s.length ∧ (plc s p).1 = t.l ∧ (plc s p).2 = t.c ∧ ((t.kd = 3 ∧ (p < s.length → s[p]? = some 10)) ∨ (t.kd ≠ 3 ∧ p + t.tx.length ≤ s.length ∧ (s.drop p).take t.tx.length = t.tx))
def wi (s : List UInt8) (lo hi : Nat) : List Tk → Prop
  | [] => lo ≤ hi
  | t :: r => ∃ p, lo ≤ p ∧ okTk s p t ∧ wi s p hi r
theorem wi_app {s : List UInt8} {m hi : Nat} {r : List Tk} : ∀ {ts : List Tk} {lo : Nat}, wi s lo m ts → (∀ lo', lo' ≤ m → wi s lo' hi r) → wi s lo hi (ts ++ r)
  | [], lo, h, h2 => h2 lo h
  | t :: ts, lo, ⟨p, h1, h3, h4⟩, h2 => ⟨p, h1, h3, wi_app h4 h2⟩
theorem wi_mono {s : List UInt8} {m hi : Nat} (h : m ≤ hi) : ∀ {ts : List Tk} {lo : Nat}, wi s lo m ts → wi s lo hi ts
  | [], lo, h2 => Nat.le_trans h2 h
  | t :: ts, lo, ⟨p, h1, h3, h4⟩ => ⟨p, h1, h3, wi_mono h h4⟩
theorem tw_take (p : UInt8 → Bool) (s : List UInt8) (a : Nat) : (s.drop a).take (tw p s a).length = tw p s a := by
  unfold tw
  have := List.takeWhile_prefix (l := s.drop a) p
  exact (List.prefix_iff_eq_take.1 this).symm
theorem tw_nl (p : UInt8 → Bool) (s : List UInt8) (a : Nat) (hp : p 10 = false) : ∀ i < (tw p s a).length, s[a + i]? ≠ some 10 := by
  intro i hi h
  have h1 : (tw p s a)[i]? = some 10 := by
    rw [← tw_take p s a, List.getElem?_take_of_lt hi, List.getElem?_drop, h]
  have := mem_tw (List.mem_of_getElem? h1)
  rw [hp] at this; cases this
theorem nx_plc {s : List UInt8} {a : Nat} {l c : Int} (ha : a < s.length) (hl : (plc s a).1 = l) (hc : (plc s a).2 = c) {t : List Tk} {a' : Nat} {l' c' : Int} (h : nx s a l c = .go t a' l' c') :
    (plc s a').1 = l' ∧ (plc s a').2 = c' ∧ ∀ lo, lo ≤ a → wi s lo a' t := by
  have hb : s[a]? = some s[a] := List.getElem?_eq_getElem ha
  have key : ∀ p : UInt8 → Bool, p 10 = false → (plc s (a + (tw p s a).length)).1 = l ∧ (plc s (a + (tw p s a).length)).2 = c + (tw p s a).length ∧ a + (tw p s a).length ≤ s.length := by
    intro p hp
    rw [plc_run s a _ (tw_nl p s a hp)]
    exact ⟨hl, by simp [hc], twl_le p s a (by omega)⟩
  simp only [nx, hb] at h
  split at h
  · rename_i h1
    have hne : s[a]? ≠ some 10 := by rw [hb]; intro h; simp only [Option.some.injEq] at h; rw [h] at h1; simp [isBl] at h1
    simp only [Nx.go.injEq] at h; obtain ⟨rfl, rfl, rfl, rfl⟩ := h
    simp only [plc, if_neg hne]
    exact ⟨hl, by rw [hc], fun lo h => by simp only [wi]; omega⟩
  · split at h
    · have := key noNl (by simp [noNl])
      simp only [Nx.go.injEq] at h; obtain ⟨rfl, rfl, rfl, rfl⟩ := h
      exact ⟨this.1, this.2.1, fun lo h => by simp only [wi]; omega⟩
    · split at h
      · rename_i h3
        have h10 : s[a] = 10 := UInt8.toNat_inj.1 (Int.ofNat.inj h3)
        rw [h10] at hb
        simp only [Nx.go.injEq] at h; obtain ⟨rfl, rfl, rfl, rfl⟩ := h
        simp only [plc, if_pos hb]
        exact ⟨by rw [hl], by trivial, fun lo h => ⟨a, h, ⟨by omega, hl, hc, .inl ⟨rfl, fun _ => hb⟩⟩, by simp only [wi]; omega⟩⟩
      · split at h
        · have := key isLt (by simp [isLt])
          simp only [Nx.go.injEq] at h; obtain ⟨rfl, rfl, rfl, rfl⟩ := h
          exact ⟨this.1, this.2.1, fun lo h => ⟨a, h, ⟨by omega, hl, hc, .inr ⟨by simp, this.2.2, tw_take _ _ _⟩⟩, by simp only [wi]; omega⟩⟩
        · split at h
          · split at h
            · simp at h
            · have := key isDg (by simp [isDg])
              simp only [Nx.go.injEq] at h; obtain ⟨rfl, rfl, rfl, rfl⟩ := h
              exact ⟨this.1, this.2.1, fun lo h => ⟨a, h, ⟨by omega, hl, hc, .inr ⟨by simp, this.2.2, tw_take _ _ _⟩⟩, by simp only [wi]; omega⟩⟩
          · simp at h
theorem scl_wi (s : List UInt8) : ∀ (f a : Nat) (l c : Int) (ts : List Tk), s.length - a < f → a ≤ s.length → (plc s a).1 = l → (plc s a).2 = c → wi s 0 a ts →
    ((scl s f a l c ts).e = 0 ∧ (scl s f a l c ts).l = 0 ∧ (scl s f a l c ts).c = 0 ∧ (scl s f a l c ts).ts ≠ [] ∧ wi s 0 s.length (scl s f a l c ts).ts) ∨ (((scl s f a l c ts).e = 190 ∨ (scl s f a l c ts).e = 191) ∧ (scl s f a l c ts).ts = [] ∧ ∃ k < s.length, (plc s k).1 = (scl s f a l c ts).l ∧ (plc s k).2 = (scl s f a l c ts).c)
  | 0, a, l, c, ts, h, _, _, _, _ => by omega
  | f + 1, a, l, c, ts, h, ha, hl, hc, hw => by
    simp only [scl]
    split
    · rename_i hlt
      cases hx : nx s a l c with
      | err e =>
        exact .inr ⟨nx_err hlt hx, rfl, a, hlt, hl, hc⟩
      | go t a' l' c' =>
        have hb := plc_bound s a
        obtain ⟨g1, g2, _, _, _⟩ := nx_go hlt (by omega) (by omega) hx
        obtain ⟨q1, q2, q3⟩ := nx_plc hlt hl hc hx
        exact scl_wi s f a' l' c' (ts ++ t) (by omega) g2 q1 q2 (wi_app hw q3)
    · obtain rfl : a = s.length := by omega
      refine .inl ⟨rfl, rfl, rfl, ?_, ?_⟩
      · by_cases hn : lastNo ts
        · simp [finT, if_pos hn]
        · simp only [finT, if_neg hn]
          intro h; subst h; exact hn trivial
      · simp only [finT]
        split
        · exact wi_app hw fun lo h => ⟨s.length, h, ⟨Nat.le_refl _, hl, hc, .inl ⟨rfl, fun h => by omega⟩⟩, Nat.le_refl _⟩
        · exact hw
theorem scanR_wi (s : List UInt8) :
    ((scanR s).e = 0 ∧ (scanR s).l = 0 ∧ (scanR s).c = 0 ∧ (scanR s).ts ≠ [] ∧ wi s 0 s.length (scanR s).ts) ∨ (((scanR s).e = 190 ∨ (scanR s).e = 191) ∧ (scanR s).ts = [] ∧ ∃ k < s.length, (plc s k).1 = (scanR s).l ∧ (plc s k).2 = (scanR s).c) :=
  scl_wi s _ 0 1 1 [] (by omega) (by omega) rfl rfl (by simp [wi])
end Go.Am
