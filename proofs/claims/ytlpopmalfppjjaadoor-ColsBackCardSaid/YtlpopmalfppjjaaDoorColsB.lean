/- Law 16: the words of a line; ColsBack. -/
import Derived.Test.YtlpopmalfppjjaaDoorBackCode
set_option linter.unusedVariables false
set_option linter.unusedSimpArgs false
set_option maxRecDepth 10000
set_option maxHeartbeats 2000000
namespace Go.Am
def fin1 (cur : List UInt8) : List (List UInt8) := if cur = [] then [] else [cur]
/-- The words of a text, one begun. -/
def splitW : List UInt8 → List UInt8 → List (List UInt8)
  | cur, [] => fin1 cur
  | cur, c :: s => if c = 32 then fin1 cur ++ splitW [] s else splitW (cur ++ [c]) s
theorem splitW_word : ∀ {w : List UInt8} (cur x : List UInt8), (32 : UInt8) ∉ w → splitW cur (w ++ x) = splitW (cur ++ w) x
  | [], cur, x, _ => by simp
  | c :: w, cur, x, h => by
    have h1 : ¬ c = 32 := fun hc => h (by simp [hc])
    rw [List.cons_append, splitW, if_neg h1, splitW_word (cur ++ [c]) x fun hm => h (by simp [hm])]
    simp
theorem splitW_bl : ∀ (n : Nat) (x : List UInt8), splitW [] (List.replicate n 32 ++ x) = splitW [] x
  | 0, x => by simp
  | n + 1, x => by rw [List.replicate_succ, List.cons_append, splitW, if_pos rfl, splitW_bl n x]; simp [fin1]
theorem splitW_end : ∀ (y cur : List UInt8) (n : Nat), splitW cur (y ++ List.replicate n 32) = splitW cur y
  | [], cur, 0 => by simp
  | [], cur, n + 1 => by
    have := splitW_bl n []
    rw [List.append_nil] at this
    simp only [List.nil_append, List.replicate_succ, splitW, if_true, this]
    simp [fin1]
  | c :: y, cur, n => by
    rw [List.cons_append, splitW, splitW, splitW_end y [] n, splitW_end y (cur ++ [c]) n]
/-- A word, then blanks. -/
theorem splitW_cut {w x : List UInt8} (hw : w ≠ []) (h32 : (32 : UInt8) ∉ w) (n : Nat) (hx : x = [] ∨ ∃ y, x = 32 :: y) : splitW [] (w ++ (List.replicate n 32 ++ x)) = w :: splitW [] x := by
  rw [splitW_word _ _ h32, List.nil_append]
  have hb : ∀ x : List UInt8, (x = [] ∨ ∃ y, x = 32 :: y) → splitW w x = w :: splitW [] x := by
    rintro x (rfl | ⟨y, rfl⟩)
    · simp [splitW, fin1, hw]
    · rw [splitW, if_pos rfl, splitW, if_pos rfl]; simp [fin1, hw]
  cases n with
  | zero => exact hb x hx
  | succ n =>
    rw [hb _ (.inr ⟨List.replicate n 32 ++ x, by rw [List.replicate_succ, List.cons_append]⟩), splitW_bl]
theorem trimR_snoc_rep (l : List UInt8) : ∃ n, l = trimR l ++ List.replicate n 32 := by
  have h := List.takeWhile_append_dropWhile (p := (· == (32 : UInt8))) (l := l.reverse)
  have hr : ∀ x ∈ l.reverse.takeWhile (· == (32 : UInt8)), x = 32 := fun x hx => by simpa using List.all_eq_true.1 List.all_takeWhile x hx
  have ht : l.reverse.takeWhile (· == (32 : UInt8)) = List.replicate (l.reverse.takeWhile (· == (32 : UInt8))).length 32 := List.eq_replicate_iff.2 ⟨rfl, hr⟩
  refine ⟨(l.reverse.takeWhile (· == (32 : UInt8))).length, ?_⟩
  have h2 := congrArg List.reverse h
  rw [List.reverse_append, List.reverse_reverse, ht, List.reverse_replicate] at h2
  unfold trimR
  simpa using h2.symm
theorem splitW_trim (l : List UInt8) : splitW [] (trimR l) = splitW [] l := by
  obtain ⟨n, hn⟩ := trimR_snoc_rep l
  have := splitW_end (trimR l) [] n
  rw [← hn] at this
  exact this.symm
/-- Texts without blanks, none of them empty. -/
def WordsR (r : TRow) : Prop := ∀ w ∈ r, w ≠ [] ∧ (32 : UInt8) ∉ w
theorem splitW_acc (ws : List Int) (r : TRow) (hr : WordsR r) : ∀ k, k ≤ r.length → ∀ x : List UInt8, (x = [] ∨ ∃ y, x = 32 :: y) → splitW [] (accG ws r k ++ x) = r.take k ++ splitW [] x
  | 0, _, x, _ => by simp [accG]
  | k + 1, hk, x, hx => by
    have hlt : k < r.length := by omega
    have hgd : r.getD k [] = r[k] := by rw [List.getD_eq_getElem?_getD, List.getElem?_eq_getElem hlt]; rfl
    have hw := hr r[k] (List.getElem_mem hlt)
    have ih := splitW_acc ws r hr k (by omega)
    rw [accG, hgd, List.take_succ_eq_append_getElem hlt]
    generalize r[k] = s at *
    unfold cellG
    by_cases h0 : k = 0
    · subst h0
      rw [if_pos rfl]
      simp only [accG, List.nil_append, List.take_zero]
      unfold padL
      rw [List.append_nil, List.append_assoc]
      exact splitW_cut hw.1 hw.2 _ hx
    · rw [if_neg h0, List.append_assoc]
      have := ih (([32, 32] ++ padL s (ws.getD k 0)) ++ x) (.inr ⟨_, rfl⟩)
      rw [this]
      unfold padL bl
      have e : ([32, 32] ++ (List.replicate (min (max (ws.getD k 0) 0) 65536 - (s.length : Int)).toNat 32 ++ s) ++ x : List UInt8) = List.replicate ((min (max (ws.getD k 0) 0) 65536 - (s.length : Int)).toNat + 2) 32 ++ (s ++ x) := by
        rw [show ∀ m : Nat, List.replicate (m + 2) (32 : UInt8) = 32 :: 32 :: List.replicate m 32 from fun m => rfl]
        simp
      rw [e, splitW_bl]
      have := splitW_cut hw.1 hw.2 0 hx
      rw [List.replicate_zero, List.nil_append] at this
      rw [this]; simp
theorem splitW_line (ws : List Int) (r : TRow) (hr : WordsR r) : splitW [] (lineG ws r) = r := by
  have := splitW_acc ws r hr r.length (Nat.le_refl _) [] (.inl rfl)
  rw [List.append_nil, List.take_length] at this
  unfold lineG
  rw [splitW_trim, this]; simp [splitW, fin1]
/-! ### The walk -/
def CellsC16 (g : List AV → Option (List AV)) : Prop := ∀ s : List UInt8, s.length ≤ 1000000 → g [st s] = some [vR (splitW [] s)]
def cutA (s : List UInt8) (f i : Nat) : List UInt8 := (s.drop f).take (i - f)
theorem cols_Cells_run (Γ : Env) (M : Nat) (hM : 1000002 < M) : CellsC16 (run Γ M cols_Cells_f) := by
  intro s hl
  obtain ⟨ax, s', ⟨rfl, rfl⟩, hin⟩ : ∃ ax s', (ax = .ex 0 ∧ s' = ⟨[(3, .sl 3 (splitW [] s).length 0 (splitW [] s).length)], [(3, ⟨1, (splitW [] s).map (toAV ∘ txQ)⟩)]⟩) ∧ ∀ s0, nrm [0, 3, 4, 5] [3, 31] s0 = ⟨[(0, st s), (3, .sl 3 ([] : TRow).length 0 ([] : TRow).length), (4, i64 (0 : Nat)), (5, i64 (0 : Nat))], [(3, ⟨1, ([] : TRow).map (toAV ∘ txQ)⟩)]⟩ → lp (exec Γ M cols_Cells_l1) M s0 = some (ax, s') := by
    refine lp_all (fun q : Nat × Nat × TRow => ⟨[(0, st s), (3, .sl 3 q.2.2.length 0 q.2.2.length), (4, i64 q.2.1), (5, i64 q.1)], [(3, ⟨1, q.2.2.map (toAV ∘ txQ)⟩)]⟩)
      (fun q => q.1 ≤ s.length + 1 ∧ q.2.1 ≤ q.1 ∧ q.2.2.length ≤ q.1 ∧ (q.1 ≤ s.length → splitW [] s = q.2.2 ++ splitW (cutA s q.2.1 q.1) (s.drop q.1)) ∧ (q.1 = s.length + 1 → splitW [] s = q.2.2)) (fun q => s.length + 1 - q.1) _ (0, 0, []) M (by simp) (by simp [cutA]) (by simp; omega) ?_
    rintro ⟨i, f, out⟩ ⟨hi, hf, ho, h1, h2⟩
    simp only at hi hf ho h1 h2 ⊢
    by_cases hle : i ≤ s.length
    · have h1 := h1 hle
      by_cases hlt : i < s.length
      · obtain ⟨c, hc⟩ : ∃ c, s[i] = c := ⟨_, rfl⟩
        have hd : s.drop i = c :: s.drop (i + 1) := by rw [List.drop_eq_getElem_cons hlt, hc]
        have hcut : cutA s f (i + 1) = cutA s f i ++ [c] := by
          unfold cutA
          rw [show i + 1 - f = (i - f) + 1 by omega, List.take_succ_eq_append_getElem (by rw [List.length_drop]; omega)]
          simp only [List.getElem_drop]
          congr 2
          simp only [show f + (i - f) = i by omega]; exact hc
        by_cases h32 : c = 32
        · subst h32
          have hci : ((32 : UInt8).toNat : Int) = 32 := rfl
          rw [hd, splitW, if_pos rfl] at h1
          by_cases hfi : f < i
          · have hne : cutA s f i ≠ [] := fun h => by
              have := congrArg List.length h
              unfold cutA at this
              rw [List.length_take, List.length_drop] at this
              simp at this; omega
            have h1' : splitW [] s = (out ++ [cutA s f i]) ++ splitW [] (s.drop (i + 1)) := by rw [h1]; simp [fin1, hne]
            have hcu : (s.drop f).take (i - f) = cutA s f i := rfl
            simp -implicitDefEqProofs (disch := first | omega | (simp <;> fail) | assumption) [hlt, hc, hle, hfi, hcu, hf]
            refine ⟨i + 1, i + 1, out ++ [cutA s f i], ⟨⟨by simp, by omega, by omega⟩, by simp [txQ, toAV]⟩, ⟨by omega, by omega, by simp; omega, fun _ => ?_, fun h => by omega⟩, by omega⟩
            rw [h1']; simp [cutA]
          · obtain rfl : f = i := by omega
            have hcn : cutA s f f = [] := by simp [cutA]
            rw [hcn] at h1
            simp -implicitDefEqProofs (disch := first | omega | (simp <;> fail) | assumption) [hlt, hc, hle]
            refine ⟨f + 1, f + 1, out, ⟨⟨rfl, by omega, by omega⟩, rfl⟩, ⟨by omega, by omega, by omega, fun _ => ?_, fun h => by omega⟩, by omega⟩
            rw [h1]; simp [cutA, fin1]
        · have hci : ¬ ((c.toNat : Int) = 32) := fun h => h32 (UInt8.toNat_inj.1 (by have : c.toNat = 32 := by omega
                                                                                     rw [this]; rfl))
          rw [hd, splitW, if_neg h32, ← hcut] at h1
          simp -implicitDefEqProofs (disch := first | omega | (simp <;> fail) | assumption) [hlt, hc, hle, hci]
          exact ⟨i + 1, f, out, ⟨⟨rfl, rfl, by omega⟩, rfl⟩, ⟨by omega, by omega, by omega, fun _ => h1, fun h => by omega⟩, by omega⟩
      · obtain rfl : i = s.length := by omega
        rw [List.drop_length, splitW] at h1
        by_cases hfi : f < s.length
        · have hne : cutA s f s.length ≠ [] := fun h => by
            have := congrArg List.length h
            unfold cutA at this
            rw [List.length_take, List.length_drop] at this
            simp at this; omega
          have h1' : splitW [] s = out ++ [cutA s f s.length] := by rw [h1]; simp [fin1, hne]
          have hcu : (s.drop f).take (s.length - f) = cutA s f s.length := rfl
          simp -implicitDefEqProofs (disch := first | omega | (simp <;> fail) | assumption) [hle, hfi, hcu, hf, -List.take_length]
          refine ⟨s.length + 1, s.length + 1, out ++ [cutA s f s.length], ⟨⟨by simp, by omega, by omega⟩, by simp [txQ, toAV]⟩, ⟨by omega, by omega, by simp; omega, fun h => by omega, fun _ => h1'⟩, by omega⟩
        · obtain rfl : f = s.length := by omega
          have hcn : cutA s s.length s.length = [] := by simp [cutA]
          rw [hcn] at h1
          simp -implicitDefEqProofs (disch := first | omega | (simp <;> fail) | assumption) [hle]
          refine ⟨s.length + 1, s.length + 1, out, ⟨⟨rfl, by omega, by omega⟩, rfl⟩, ⟨by omega, by omega, by omega, fun h => by omega, fun _ => ?_⟩, by omega⟩
          rw [h1]; simp [fin1]
    · obtain rfl : i = s.length + 1 := by omega
      have h2 := h2 rfl
      rw [h2]
      simp -implicitDefEqProofs (disch := first | omega | (simp <;> fail) | assumption) [hle]
  have hin2 := hin ⟨[(0, st s), (3, .sl 3 0 0 0), (4, .c (.int .i64 0)), (5, .c (.int .i64 0))], [(3, ⟨1, []⟩)]⟩ (by simp)
  have htc : List.take (splitW [] s).length ((splitW [] s).map txQ) = (splitW [] s).map txQ := List.take_of_length_le (by simp)
  simp -implicitDefEqProofs (disch := first | omega | (simp <;> fail) | assumption) [hin2, htc]
/-! ### Is there a blank? -/
abbrev bV (t : List UInt8) : AV := .c (.vs 1 (t.map u8row))
abbrev u8V (z : Int) : AV := .c (.int .u8 z)
def IdxC (g : List AV → Option (List AV)) : Prop := ∀ t : List UInt8, t.length ≤ 100000 → ∃ z : Int, g [bV t, u8V 32] = some [i64 z] ∧ (0 ≤ z ↔ (32 : UInt8) ∈ t)
theorem slices_Index_run (Γ : Env) (M : Nat) (hM : 100000 < M) : IdxC (run Γ M slices_Index_Sbyte_byte_f) := by
  intro t hl
  obtain ⟨ax, s', hR, hin⟩ : ∃ ax s', ((∃ k : Nat, (32 : UInt8) ∈ t ∧ ax = .ret ∧ s' = ⟨[(4, i64 k)], []⟩) ∨ ((32 : UInt8) ∉ t ∧ ax = .ex 0 ∧ s' = ⟨[], []⟩)) ∧ ∀ s0, nrm [0, 1, 7, 8] [] s0 = ⟨[(0, bV t), (1, u8V 32), (7, i64 t.length), (8, i64 (0 : Nat))], []⟩ → lp (exec Γ M slices_Index_Sbyte_byte_l1) M s0 = some (ax, s') := by
    refine lp_all (fun q : Nat => ⟨[(0, bV t), (1, u8V 32), (7, i64 t.length), (8, i64 q)], []⟩) (fun q => q ≤ t.length ∧ ((32 : UInt8) ∈ t ↔ (32 : UInt8) ∈ t.drop q)) (fun q => t.length - q) _ 0 M (by simp) (by simp) (by omega) ?_
    intro k ⟨hk, hd⟩
    by_cases hlt : k < t.length
    · obtain ⟨c, hc⟩ : ∃ c, t[k] = c := ⟨_, rfl⟩
      have hdr : t.drop k = c :: t.drop (k + 1) := by rw [List.drop_eq_getElem_cons hlt, hc]
      rw [hdr, List.mem_cons] at hd
      by_cases h32 : c = 32
      · subst h32
        have hci : ((32 : UInt8).toNat : Int) = 32 := rfl
        have hin : (32 : UInt8) ∈ t := hd.2 (.inl rfl)
        simp -implicitDefEqProofs (disch := first | omega | (simp <;> fail) | assumption) [hlt, hc, u8row, hin]
        exact ⟨k, rfl⟩
      · have hci : ¬ (32 = (c.toNat : Int)) := fun h => h32 (UInt8.toNat_inj.1 (by have : c.toNat = 32 := by omega
                                                                                   rw [this]; rfl))
        have hd' : (32 : UInt8) ∈ t ↔ (32 : UInt8) ∈ t.drop (k + 1) := by
          rw [hd]
          exact ⟨fun h => h.elim (fun h => absurd h.symm h32) id, .inr⟩
        simp -implicitDefEqProofs (disch := first | omega | (simp <;> fail) | assumption) [hlt, hc, u8row, hci]
        exact ⟨k + 1, by omega, ⟨by omega, hd'⟩, by omega⟩
    · obtain rfl : k = t.length := by omega
      have hno : (32 : UInt8) ∉ t := by rw [hd]; simp
      simp -implicitDefEqProofs (disch := first | omega | (simp <;> fail) | assumption) [hno]
  rcases hR with ⟨k, hm, rfl, rfl⟩ | ⟨hm, rfl, rfl⟩
  · refine ⟨k, ?_, by simp [hm]⟩
    simp -implicitDefEqProofs (disch := first | omega | (simp <;> fail) | assumption) [hin]
  · refine ⟨-1, ?_, by simp [hm]⟩
    simp -implicitDefEqProofs (disch := first | omega | (simp <;> fail) | assumption) [hin]
def ContC (g : List AV → Option (List AV)) : Prop := ∀ t : List UInt8, t.length ≤ 100000 → ∃ b, g [bV t, u8V 32] = some [bo b] ∧ (b = false → (32 : UInt8) ∉ t)
theorem slices_Contains_run (Γ : Env) (M : Nat) (hI : IdxC (Γ 190)) : ContC (run Γ M slices_Contains_Sbyte_byte_f) := by
  intro t hl
  obtain ⟨z, hz, hi⟩ := hI t hl
  by_cases h0 : 0 ≤ z
  · refine ⟨true, ?_, by simp⟩
    simp -implicitDefEqProofs (disch := first | omega | (simp <;> fail) | assumption) [hz, h0]
  · refine ⟨false, ?_, fun _ h => h0 (hi.2 h)⟩
    simp -implicitDefEqProofs (disch := first | omega | (simp <;> fail) | assumption) [hz, h0]
def EqR (g : List AV → Option (List AV)) : Prop := ∀ r : TRow, r.length ≤ 100000 → g [vR r, vR r] = some [bo true]
theorem slices_Equal_R_run (Γ : Env) (M : Nat) (hM : 100000 < M) : EqR (run Γ M slices_Equal_Sstring_string_f) := by
  intro ts hl
  obtain ⟨ax, s', ⟨rfl, rfl⟩, hin⟩ : ∃ ax s', (ax = .ex 0 ∧ s' = ⟨[], []⟩) ∧ ∀ s0, nrm [0, 1, 12, 13] [] s0 = ⟨[(0, vR ts), (1, vR ts), (12, i64 ts.length), (13, i64 (0 : Nat))], []⟩ → lp (exec Γ M slices_Equal_Sstring_string_l1) M s0 = some (ax, s') := by
    refine lp_all (fun q : Nat => ⟨[(0, vR ts), (1, vR ts), (12, i64 ts.length), (13, i64 q)], []⟩) (fun q => q ≤ ts.length) (fun q => ts.length - q) _ 0 M (by simp) (by omega) (by omega) ?_
    intro k hk
    by_cases hlt : k < ts.length
    · simp -implicitDefEqProofs (disch := first | omega | assumption) [hlt, txQ]
      exact ⟨k + 1, by omega, by omega, by omega⟩
    · obtain rfl : k = ts.length := by omega
      simp -implicitDefEqProofs (disch := first | omega | assumption)
  simp -implicitDefEqProofs (disch := first | omega | (simp <;> fail) | assumption) [hin]
theorem lineG_short (ws : List Int) (h100 : ∀ x ∈ ws, x ≤ 100) (r : TRow) (hr : SmallR r) : (lineG ws r).length ≤ 1000000 := by
  have h1 := trimR_len (accG ws r r.length)
  have h2 := accG_len ws h100 r hr r.length
  have := hr.few
  unfold lineG
  omega
theorem ColsBack_run (Γ : Env) (M : Nat) (hM : 100 < M) (hal : Γ 185 [] = some [bo true]) (hG : GreatC (Γ 186)) (hL : LineC16 (Γ 187)) (hC : CellsC16 (Γ 188)) (hE : EqR (Γ 118)) (hK : ContC (Γ 244)) (ws : List Int) (hws : ∀ x ∈ ws, -9223372036854775808 ≤ x ∧ x ≤ 9223372036854775807) (r : TRow) : run Γ M law16_ColsBack_f [vN ws, vR r] = some [bo true] := by
  obtain ⟨b, hg, hb⟩ := hG [r]
  have hg : Γ.fn 186 [.c (.vs 1 [[.vs 1 (r.map txQ)]])] = some [bo b] := hg
  cases b with
  | true =>
    by_cases h20 : 20 < ws.length
    · simp -implicitDefEqProofs (disch := first | omega | (simp <;> fail) | assumption) [hg, h20]
    · simp -implicitDefEqProofs (disch := first | omega | (simp <;> fail) | assumption) [hg, h20]
  | false =>
    have hsm := (hb rfl).rows r (by simp)
    have hfew := hsm.few
    by_cases h20 : 20 < ws.length
    · simp -implicitDefEqProofs (disch := first | omega | (simp <;> fail) | assumption) [hg, h20]
    obtain ⟨ax, s', hR, hin⟩ : ∃ ax s', ((ax = .ret ∧ s' = ⟨[(4, bo true)], []⟩) ∨ ((∀ x ∈ ws, x ≤ 100) ∧ ax = .ex 0 ∧ s' = ⟨[(0, vN ws), (1, vR r)], []⟩)) ∧ ∀ s0, nrm [0, 1, 5] [] s0 = ⟨[(0, vN ws), (1, vR r), (5, i64 (0 : Nat))], []⟩ → lp (exec Γ M law16_ColsBack_l2) M s0 = some (ax, s') := by
      refine lp_all (fun q : Nat => ⟨[(0, vN ws), (1, vR r), (5, i64 q)], []⟩) (fun q => q ≤ ws.length ∧ ∀ x ∈ ws.take q, x ≤ 100) (fun q => ws.length - q) _ 0 M (by simp) (by simp) (by omega) ?_
      intro k ⟨hk, hd⟩
      by_cases hlt : k < ws.length
      · obtain ⟨c, hc⟩ : ∃ c, ws[k] = c := ⟨_, rfl⟩
        by_cases h100 : 100 < c
        · simp -implicitDefEqProofs (disch := first | omega | (simp <;> fail) | assumption) [hlt, hc, numQ, h100]
        · simp -implicitDefEqProofs (disch := first | omega | (simp <;> fail) | assumption) [hlt, hc, numQ, h100]
          refine ⟨k + 1, by omega, ⟨by omega, ?_⟩, by omega⟩
          intro x hx
          rw [List.take_succ_eq_append_getElem hlt, List.mem_append, List.mem_singleton, hc] at hx
          rcases hx with hx | rfl
          · exact hd x hx
          · omega
      · obtain rfl : k = ws.length := by omega
        rw [List.take_length] at hd
        simp -implicitDefEqProofs (disch := first | omega | (simp <;> fail) | assumption)
        exact hd
    rcases hR with ⟨rfl, rfl⟩ | ⟨h100, rfl, rfl⟩
    · simp -implicitDefEqProofs (disch := first | omega | (simp <;> fail) | assumption) [hg, h20, hin]
    obtain ⟨ax, s', hR, hin2⟩ : ∃ ax s', ((ax = .ret ∧ s' = ⟨[(4, bo true)], []⟩) ∨ (WordsR r ∧ ax = .ex 2 ∧ s' = ⟨[(0, vN ws), (1, vR r)], []⟩)) ∧ ∀ s0, nrm [0, 1, 6] [] s0 = ⟨[(0, vN ws), (1, vR r), (6, i64 (0 : Nat))], []⟩ → lp (exec Γ M law16_ColsBack_l1) M s0 = some (ax, s') := by
      refine lp_all (fun q : Nat => ⟨[(0, vN ws), (1, vR r), (6, i64 q)], []⟩) (fun q => q ≤ r.length ∧ WordsR (r.take q)) (fun q => r.length - q) _ 0 M (by simp) (by simp [WordsR]) (by omega) ?_
      intro k ⟨hk, hd⟩
      by_cases hlt : k < r.length
      · obtain ⟨c, hc⟩ : ∃ c, r[k] = c := ⟨_, rfl⟩
        have hcl := hsm.short c (hc ▸ List.getElem_mem hlt)
        obtain ⟨b, hkb, hkn⟩ := hK c (by omega)
        by_cases h0 : c = []
        · subst h0
          simp -implicitDefEqProofs (disch := first | omega | (simp <;> fail) | assumption) [hlt, hc, txQ, hkb]
        · cases b with
          | true => simp -implicitDefEqProofs (disch := first | omega | (simp <;> fail) | assumption) [hlt, hc, txQ, hkb, h0]
          | false =>
            simp -implicitDefEqProofs (disch := first | omega | (simp <;> fail) | assumption) [hlt, hc, txQ, hkb, h0]
            refine ⟨k + 1, by omega, ⟨by omega, ?_⟩, by omega⟩
            intro x hx
            rw [List.take_succ_eq_append_getElem hlt, List.mem_append, List.mem_singleton, hc] at hx
            rcases hx with hx | rfl
            · exact hd x hx
            · exact ⟨h0, hkn rfl⟩
      · obtain rfl : k = r.length := by omega
        rw [List.take_length] at hd
        simp -implicitDefEqProofs (disch := first | omega | (simp <;> fail) | assumption)
        exact hd
    rcases hR with ⟨rfl, rfl⟩ | ⟨hwr, rfl, rfl⟩
    · simp -implicitDefEqProofs (disch := first | omega | (simp <;> fail) | assumption) [hg, h20, hin, hin2]
    have eL := hL ws r (by omega) (fun x hx => ⟨(hws x hx).1, h100 x hx⟩) hsm
    have hlen : (lineG ws r).length ≤ 1000000 := lineG_short ws h100 r hsm
    have eC := hC (lineG ws r) hlen
    rw [splitW_line ws r hwr] at eC
    have eE := hE r (by omega)
    generalize lineG ws r = X at *
    simp -implicitDefEqProofs (disch := first | omega | (simp <;> fail) | assumption) [hg, h20, hin, hin2, eL, eC, eE, hal]
theorem num_row (r : List D) (h : All2 WT [ctI] r) : ∃ z : Int, r = numQ z ∧ (-9223372036854775808 ≤ z ∧ z ≤ 9223372036854775807) := by
  simp only [all2_cons, all2_nil, wt_i64] at h
  obtain ⟨_, _, rfl, ⟨a, rfl, ha⟩, rfl⟩ := h
  exact ⟨a, rfl, ha⟩
theorem wt_nums {d : D} (h : WT (.sl [ctI]) d) : ∃ l : List Int, AV.c d = vN l ∧ ∀ z ∈ l, -9223372036854775808 ≤ z ∧ z ≤ 9223372036854775807 := by
  rw [wt_sl] at h
  obtain ⟨rows, rfl, hl, h⟩ := h
  obtain ⟨ts, rfl, hts⟩ := rows_map num_row rows h
  exact ⟨ts, rfl, hts⟩
theorem word_row (r : List D) (h : All2 WT [.str] r) : ∃ w : List UInt8, r = txQ w ∧ True := by
  simp only [all2_cons, all2_nil, wt_str] at h
  obtain ⟨_, _, rfl, ⟨a, rfl, ha⟩, rfl⟩ := h
  exact ⟨a, rfl, trivial⟩
theorem wt_words {d : D} (h : WT (.sl [.str]) d) : ∃ r : TRow, AV.c d = vR r := by
  rw [wt_sl] at h
  obtain ⟨rows, rfl, hl, h⟩ := h
  obtain ⟨ts, rfl, _⟩ := rows_map word_row rows h
  exact ⟨ts, rfl⟩
end Go.Am
