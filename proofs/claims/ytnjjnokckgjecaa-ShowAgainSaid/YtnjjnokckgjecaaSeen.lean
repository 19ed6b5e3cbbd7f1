/- Law 26: the map of the words that were seen. -/
import Derived.Test.YtnjjnokckgjecaaData
set_option linter.unusedVariables false
set_option linter.unusedSimpArgs false
set_option maxRecDepth 10000
namespace Go.Am
def seenR : Nat → List (List UInt8) → Rows
  | _, [] => []
  | n, w :: l => [.c (.int .i64 (n : Int)), .c (.str w), .c (.bool true)] :: seenR (n + 1) l
theorem seenR_length : ∀ (l : List (List UInt8)) (n : Nat), (seenR n l).length = l.length
  | [], n => rfl
  | w :: l, n => by simp [seenR, seenR_length l]
theorem seenR_get : ∀ (l : List (List UInt8)) (n j : Nat), (seenR n l)[j]? = (l[j]?).map fun w => [.c (.int .i64 ((n + j : Nat) : Int)), .c (.str w), .c (.bool true)]
  | [], n, j => by simp [seenR]
  | w :: l, n, 0 => by simp [seenR]
  | w :: l, n, j + 1 => by simp only [seenR, List.getElem?_cons_succ, seenR_get l (n + 1) j]; rw [show n + 1 + j = n + (j + 1) by omega]
theorem seenR_append : ∀ (l m : List (List UInt8)) (n : Nat), seenR n (l ++ m) = seenR n l ++ seenR (n + l.length) m
  | [], m, n => by simp [seenR]
  | w :: l, m, n => by simp only [List.cons_append, seenR, seenR_append l m (n + 1), List.length_cons]; rw [show n + 1 + l.length = n + (l.length + 1) by omega]
abbrev kkS : KK := (false, [.str])
theorem mkeq_str (w x : List UInt8) : mkeq kkS (.c (.str w)) (.c (.str x)) = some (decide (w = x)) := by simp [mkeq, eqKs, eqK]
theorem mfind_no {w : List UInt8} : ∀ {l : List (List UInt8)} (n i : Nat), w ∉ l → mfind kkS (.c (.str w)) (seenR n l) i = some none
  | [], n, i, h => by simp only [seenR, mfind]
  | x :: l, n, i, h => by
    simp only [List.mem_cons, not_or] at h
    simp only [seenR, mfind, mkeq_str, decide_eq_false h.1, mfind_no (n + 1) (i + 1) h.2]
theorem mfind_yes {w : List UInt8} : ∀ {l : List (List UInt8)} (n i : Nat), w ∈ l → ∃ j, l[j]? = some w ∧ mfind kkS (.c (.str w)) (seenR n l) i = some (some (i + j, .c (.bool true)))
  | x :: l, n, i, h => by
    by_cases hx : w = x
    · subst hx
      exact ⟨0, rfl, by simp only [seenR, mfind, mkeq_str, decide_true, Nat.add_zero]⟩
    · obtain ⟨j, h1, h2⟩ := mfind_yes (n + 1) (i + 1) (by simpa [hx] using h : w ∈ l)
      exact ⟨j + 1, h1, by simp only [seenR, mfind, mkeq_str, decide_eq_false hx, h2]; rw [show i + 1 + j = i + (j + 1) by omega]⟩
theorem setRow_same {rows : Rows} {i : Nat} {r : List AV} (h : rows[i]? = some r) : setRow rows i r = rows := by
  have hlt := (List.getElem?_eq_some_iff.1 h).1
  unfold setRow
  apply List.ext_getElem?
  intro k
  rcases Nat.lt_trichotomy k i with hk | hk | hk
  · rw [List.getElem?_append_left (by simp; omega), List.getElem?_take, if_pos hk]
  · subst hk; rw [List.getElem?_append_right (by simp; omega)]; simp [Nat.min_eq_left (Nat.le_of_lt hlt), h]
  · rw [List.getElem?_append_right (by simp; omega)]
    simp only [List.length_take, Nat.min_eq_left (Nat.le_of_lt hlt)]
    rw [show k - i = (k - i - 1) + 1 by omega, List.getElem?_cons_succ, List.getElem?_drop, show i + 1 + (k - i - 1) = k by omega]
def seenAdd (l : List (List UInt8)) (w : List UInt8) : List (List UInt8) := if w ∈ l then l else l ++ [w]
theorem mupd_seen (key : Nat) (l : List (List UInt8)) (w : List UInt8) (s : St) : mupd key kkS (.c (.str w)) (.c (.bool true)) ⟨l.length, seenR 0 l⟩ s = some (s.obj key ⟨(seenAdd l w).length, seenR 0 (seenAdd l w)⟩) := by
  unfold mupd seenAdd
  by_cases h : w ∈ l
  · obtain ⟨j, h1, h2⟩ := mfind_yes 0 0 h
    have hr := seenR_get l 0 j
    rw [h1] at hr
    simp only [Option.map_some, Nat.zero_add] at hr
    simp only [h2, if_pos h, Nat.zero_add]
    have hs : stampAt (seenR 0 l) j = .c (.int .i64 (j : Int)) := by simp only [stampAt, hr]
    rw [hs, setRow_same hr]
  · simp only [mfind_no 0 0 h, if_neg h, seenR_append, seenR, List.length_append, List.length_cons, List.length_nil, Nat.zero_add]
end Go.Am
