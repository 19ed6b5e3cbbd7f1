/- Law 16: the words of a line (cols.Cells). -/
import Derived.Test.YtkhbfjmckgddeaaDoorCelCode
import Derived.Test.YtkhbfjmckgddeaaDoorColsL
set_option linter.unusedVariables false
set_option linter.unusedSimpArgs false
set_option maxRecDepth 10000
set_option maxHeartbeats 2000000
namespace Go.Am
def fin1 (cur : List UInt8) : List (List UInt8) := if cur = [] then [] else [cur]
/-- The words of a text, one begun. -/
def splitW : List UInt8 → List UInt8 → List (List UInt8)
  | cur, [] => fin1 cur
  | cur, c :: s => if c = 32 then fin1 cur ++ splitW [] s else splitW (cur ++ [c]) s
theorem splitW_word : ∀ {w : List UInt8} (cur x : List UInt8), (32 : UInt8) ∉ w → splitW cur (w ++ x) = splitW (cur ++ w) x
  | [], cur, x, _ => by simp
  | c :: w, cur, x, h => by
    have h1 : ¬ c = 32 := fun hc => h (by simp [hc])
    rw [List.cons_append, splitW, if_neg h1, splitW_word (cur ++ [c]) x fun hm => h (by simp [hm])]
    simp
theorem splitW_bl : ∀ (n : Nat) (x : List UInt8), splitW [] (List.replicate n 32 ++ x) = splitW [] x
  | 0, x => by simp
  | n + 1, x => by rw [List.replicate_succ, List.cons_append, splitW, if_pos rfl, splitW_bl n x]; simp [fin1]
theorem splitW_end : ∀ (y cur : List UInt8) (n : Nat), splitW cur (y ++ List.replicate n 32) = splitW cur y
  | [], cur, 0 => by simp
  | [], cur, n + 1 => by
    have := splitW_bl n []
    rw [List.append_nil] at this
    simp only [List.nil_append, List.replicate_succ, splitW, if_true, this]
    simp [fin1]
  | c :: y, cur, n => by
    rw [List.cons_append, splitW, splitW, splitW_end y [] n, splitW_end y (cur ++ [c]) n]
/-- A word, then blanks. -/
theorem splitW_cut {w x : List UInt8} (hw : w ≠ []) (h32 : (32 : UInt8) ∉ w) (n : Nat) (hx : x = [] ∨ ∃ y, x = 32 :: y) : splitW [] (w ++ (List.replicate n 32 ++ x)) = w :: splitW [] x := by
  rw [splitW_word _ _ h32, List.nil_append]
  have hb : ∀ x : List UInt8, (x = [] ∨ ∃ y, x = 32 :: y) → splitW w x = w :: splitW [] x := by
    rintro x (rfl | ⟨y, rfl⟩)
    · simp [splitW, fin1, hw]
    · rw [splitW, if_pos rfl, splitW, if_pos rfl]; simp [fin1, hw]
  cases n with
  | zero => exact hb x hx
  | succ n =>
    rw [hb _ (.inr ⟨List.replicate n 32 ++ x, by rw [List.replicate_succ, List.cons_append]⟩), splitW_bl]
theorem trimR_snoc_rep (l : List UInt8) : ∃ n, l = trimR l ++ List.replicate n 32 := by
  have h := List.takeWhile_append_dropWhile (p := (· == (32 : UInt8))) (l := l.reverse)
  have hr : ∀ x ∈ l.reverse.takeWhile (· == (32 : UInt8)), x = 32 := fun x hx => by simpa using List.all_eq_true.1 List.all_takeWhile x hx
  have ht : l.reverse.takeWhile (· == (32 : UInt8)) = List.replicate (l.reverse.takeWhile (· == (32 : UInt8))).length 32 := List.eq_replicate_iff.2 ⟨rfl, hr⟩
  refine ⟨(l.reverse.takeWhile (· == (32 : UInt8))).length, ?_⟩
  have h2 := congrArg List.reverse h
  rw [List.reverse_append, List.reverse_reverse, ht, List.reverse_replicate] at h2
  unfold trimR
  simpa using h2.symm
theorem splitW_trim (l : List UInt8) : splitW [] (trimR l) = splitW [] l := by
  obtain ⟨n, hn⟩ := trimR_snoc_rep l
  have := splitW_end (trimR l) [] n
  rw [← hn] at this
  exact this.symm
/-- Texts without blanks, none of them empty. -/
def WordsR (r : TRow) : Prop := ∀ w ∈ r, w ≠ [] ∧ (32 : UInt8) ∉ w
theorem splitW_acc (ws : List Int) (r : TRow) (hr : WordsR r) : ∀ k, k ≤ r.length → ∀ x : List UInt8, (x = [] ∨ ∃ y, x = 32 :: y) → splitW [] (accG ws r k ++ x) = r.take k ++ splitW [] x
  | 0, _, x, _ => by simp [accG]
  | k + 1, hk, x, hx => by
    have hlt : k < r.length := by omega
    have hgd : r.getD k [] = r[k] := by rw [List.getD_eq_getElem?_getD, List.getElem?_eq_getElem hlt]; rfl
    have hw := hr r[k] (List.getElem_mem hlt)
    have ih := splitW_acc ws r hr k (by omega)
    rw [accG, hgd, List.take_succ_eq_append_getElem hlt]
    generalize r[k] = s at *
    unfold cellG
    by_cases h0 : k = 0
    · subst h0
      rw [if_pos rfl]
      simp only [accG, List.nil_append, List.take_zero]
      unfold padL
      rw [List.append_nil, List.append_assoc]
      exact splitW_cut hw.1 hw.2 _ hx
    · rw [if_neg h0, List.append_assoc]
      have := ih (([32, 32] ++ padL s (ws.getD k 0)) ++ x) (.inr ⟨_, rfl⟩)
      rw [this]
      unfold padL bl
      have e : ([32, 32] ++ (List.replicate (min (max (ws.getD k 0) 0) 65536 - (s.length : Int)).toNat 32 ++ s) ++ x : List UInt8) = List.replicate ((min (max (ws.getD k 0) 0) 65536 - (s.length : Int)).toNat + 2) 32 ++ (s ++ x) := by
        rw [show ∀ m : Nat, List.replicate (m + 2) (32 : UInt8) = 32 :: 32 :: List.replicate m 32 from fun m => rfl]
        simp
      rw [e, splitW_bl]
      have := splitW_cut hw.1 hw.2 0 hx
      rw [List.replicate_zero, List.nil_append] at this
      rw [this]; simp
theorem splitW_line (ws : List Int) (r : TRow) (hr : WordsR r) : splitW [] (lineG ws r) = r := by
  have := splitW_acc ws r hr r.length (Nat.le_refl _) [] (.inl rfl)
  rw [List.append_nil, List.take_length] at this
  unfold lineG
  rw [splitW_trim, this]; simp [splitW, fin1]
/-! ### The walk -/
def CellsC16 (g : List AV → Option (List AV)) : Prop := ∀ s : List UInt8, s.length ≤ 1000000 → g [st s] = some [vR (splitW [] s)]
def cutA (s : List UInt8) (f i : Nat) : List UInt8 := (s.drop f).take (i - f)
theorem cols_Cells_run (Γ : Env) (M : Nat) (hM : 1000002 < M) : CellsC16 (run Γ M cols_Cells_f) := by
  intro s hl
  obtain ⟨ax, s', ⟨rfl, rfl⟩, hin⟩ : ∃ ax s', (ax = .ex 0 ∧ s' = ⟨[(3, .sl 3 (splitW [] s).length 0 (splitW [] s).length)], [(3, ⟨1, (splitW [] s).map (toAV ∘ txQ)⟩)]⟩) ∧ ∀ s0, nrm [0, 3, 4, 5] [3, 31] s0 = ⟨[(0, st s), (3, .sl 3 ([] : TRow).length 0 ([] : TRow).length), (4, i64 (0 : Nat)), (5, i64 (0 : Nat))], [(3, ⟨1, ([] : TRow).map (toAV ∘ txQ)⟩)]⟩ → lp (exec Γ M cols_Cells_l1) M s0 = some (ax, s') := by
    refine lp_all (fun q : Nat × Nat × TRow => ⟨[(0, st s), (3, .sl 3 q.2.2.length 0 q.2.2.length), (4, i64 q.2.1), (5, i64 q.1)], [(3, ⟨1, q.2.2.map (toAV ∘ txQ)⟩)]⟩)
      (fun q => q.1 ≤ s.length + 1 ∧ q.2.1 ≤ q.1 ∧ q.2.2.length ≤ q.1 ∧ (q.1 ≤ s.length → splitW [] s = q.2.2 ++ splitW (cutA s q.2.1 q.1) (s.drop q.1)) ∧ (q.1 = s.length + 1 → splitW [] s = q.2.2)) (fun q => s.length + 1 - q.1) _ (0, 0, []) M (by simp) (by simp [cutA]) (by simp; omega) ?_
    rintro ⟨i, f, out⟩ ⟨hi, hf, ho, h1, h2⟩
    simp only at hi hf ho h1 h2 ⊢
    by_cases hle : i ≤ s.length
    · have h1 := h1 hle
      by_cases hlt : i < s.length
      · obtain ⟨c, hc⟩ : ∃ c, s[i] = c := ⟨_, rfl⟩
        have hd : s.drop i = c :: s.drop (i + 1) := by rw [List.drop_eq_getElem_cons hlt, hc]
        have hcut : cutA s f (i + 1) = cutA s f i ++ [c] := by
          unfold cutA
          rw [show i + 1 - f = (i - f) + 1 by omega, List.take_succ_eq_append_getElem (by rw [List.length_drop]; omega)]
          simp only [List.getElem_drop]
          congr 2
          simp only [show f + (i - f) = i by omega]; exact hc
        by_cases h32 : c = 32
        · subst h32
          have hci : ((32 : UInt8).toNat : Int) = 32 := rfl
          rw [hd, splitW, if_pos rfl] at h1
          by_cases hfi : f < i
          · have hne : cutA s f i ≠ [] := fun h => by
              have := congrArg List.length h
              unfold cutA at this
              rw [List.length_take, List.length_drop] at this
              simp at this; omega
            have h1' : splitW [] s = (out ++ [cutA s f i]) ++ splitW [] (s.drop (i + 1)) := by rw [h1]; simp [fin1, hne]
            have hcu : (s.drop f).take (i - f) = cutA s f i := rfl
            simp -implicitDefEqProofs (disch := first | omega | (simp <;> fail) | assumption) [hlt, hc, hle, hfi, hcu, hf]
            refine ⟨i + 1, i + 1, out ++ [cutA s f i], ⟨⟨by simp, by omega, by omega⟩, by simp [txQ, toAV]⟩, ⟨by omega, by omega, by simp; omega, fun _ => ?_, fun h => by omega⟩, by omega⟩
            rw [h1']; simp [cutA]
          · obtain rfl : f = i := by omega
            have hcn : cutA s f f = [] := by simp [cutA]
            rw [hcn] at h1
            simp -implicitDefEqProofs (disch := first | omega | (simp <;> fail) | assumption) [hlt, hc, hle]
            refine ⟨f + 1, f + 1, out, ⟨⟨rfl, by omega, by omega⟩, rfl⟩, ⟨by omega, by omega, by omega, fun _ => ?_, fun h => by omega⟩, by omega⟩
            rw [h1]; simp [cutA, fin1]
        · have hci : ¬ ((c.toNat : Int) = 32) := fun h => h32 (UInt8.toNat_inj.1 (by have : c.toNat = 32 := by omega
                                                                                     rw [this]; rfl))
          rw [hd, splitW, if_neg h32, ← hcut] at h1
          simp -implicitDefEqProofs (disch := first | omega | (simp <;> fail) | assumption) [hlt, hc, hle, hci]
          exact ⟨i + 1, f, out, ⟨⟨rfl, rfl, by omega⟩, rfl⟩, ⟨by omega, by omega, by omega, fun _ => h1, fun h => by omega⟩, by omega⟩
      · obtain rfl : i = s.length := by omega
        rw [List.drop_length, splitW] at h1
        by_cases hfi : f < s.length
        · have hne : cutA s f s.length ≠ [] := fun h => by
            have := congrArg List.length h
            unfold cutA at this
            rw [List.length_take, List.length_drop] at this
            simp at this; omega
          have h1' : splitW [] s = out ++ [cutA s f s.length] := by rw [h1]; simp [fin1, hne]
          have hcu : (s.drop f).take (s.length - f) = cutA s f s.length := rfl
          simp -implicitDefEqProofs (disch := first | omega | (simp <;> fail) | assumption) [hle, hfi, hcu, hf, -List.take_length]
          refine ⟨s.length + 1, s.length + 1, out ++ [cutA s f s.length], ⟨⟨by simp, by omega, by omega⟩, by simp [txQ, toAV]⟩, ⟨by omega, by omega, by simp; omega, fun h => by omega, fun _ => h1'⟩, by omega⟩
        · obtain rfl : f = s.length := by omega
          have hcn : cutA s s.length s.length = [] := by simp [cutA]
          rw [hcn] at h1
          simp -implicitDefEqProofs (disch := first | omega | (simp <;> fail) | assumption) [hle]
          refine ⟨s.length + 1, s.length + 1, out, ⟨⟨rfl, by omega, by omega⟩, rfl⟩, ⟨by omega, by omega, by omega, fun h => by omega, fun _ => ?_⟩, by omega⟩
          rw [h1]; simp [fin1]
    · obtain rfl : i = s.length + 1 := by omega
      have h2 := h2 rfl
      rw [h2]
      simp -implicitDefEqProofs (disch := first | omega | (simp <;> fail) | assumption) [hle]
  have hin2 := hin ⟨[(0, st s), (3, .sl 3 0 0 0), (4, .c (.int .i64 0)), (5, .c (.int .i64 0))], [(3, ⟨1, []⟩)]⟩ (by simp)
  have htc : List.take (splitW [] s).length ((splitW [] s).map txQ) = (splitW [] s).map txQ := List.take_of_length_le (by simp)
  simp -implicitDefEqProofs (disch := first | omega | (simp <;> fail) | assumption) [hin2, htc]
/-! ### Is there a blank? -/
theorem lineG_short (ws : List Int) (h100 : ∀ x ∈ ws, x ≤ 100) (r : TRow) (hr : SmallR r) : (lineG ws r).length ≤ 1000000 := by
  have h1 := trimR_len (accG ws r r.length)
  have h2 := accG_len ws h100 r hr r.length
  have := hr.few
  unfold lineG
  omega
end Go.Am
