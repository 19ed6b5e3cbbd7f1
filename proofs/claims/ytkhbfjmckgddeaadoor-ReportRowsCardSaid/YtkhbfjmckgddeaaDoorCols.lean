/- Law 16: rows of texts: whether they are too great; blanks; widths of columns. -/
import Derived.Test.YtkhbfjmckgddeaaDoorColsCode
import Derived.Test.YtkhbfjmckgddeaaDoorDigits
set_option linter.unusedVariables false
set_option linter.unusedSimpArgs false
set_option maxRecDepth 10000
set_option maxHeartbeats 2000000
namespace Go.Am
abbrev TRow := List (List UInt8)
def txQ (w : List UInt8) : List D := [.str w]
def rowQ (r : TRow) : List D := [.vs 1 (r.map txQ)]
abbrev vR (r : TRow) : AV := .c (.vs 1 (r.map txQ))
abbrev vRs (rs : List TRow) : AV := .c (.vs 1 (rs.map rowQ))
def numQ (z : Int) : List D := [.int .i64 z]
abbrev vN (l : List Int) : AV := .c (.vs 1 (l.map numQ))
structure SmallR (r : TRow) : Prop where
  few : r.length ≤ 20
  short : ∀ w ∈ r, w.length ≤ 60
structure Small (rs : List TRow) : Prop where
  few : rs.length ≤ 120
  rows : ∀ r ∈ rs, SmallR r
def bl (n : Int) : List UInt8 := List.replicate n.toNat 32
def BlanksC (g : List AV → Option (List AV)) : Prop := ∀ n : Int, n ≤ 1000 → g [i64 n] = some [st (bl n)]
theorem ref16_blanks_run (Γ : Env) (M : Nat) (hM : 2000 < M) : BlanksC (run Γ M ref16_blanks_f) := by
  intro n hn
  have hmax : (1000 : Nat) ≤ maxStr := by decide
  obtain ⟨ax, s', ⟨rfl, rfl⟩, hin⟩ : ∃ ax s', (ax = .ex 0 ∧ s' = ⟨[(3, st (bl n))], []⟩) ∧ ∀ s0, nrm [0, 3, 4] [] s0 = ⟨[(0, i64 n), (3, st (List.replicate 0 32)), (4, i64 (0 : Nat))], []⟩ → lp (exec Γ M ref16_blanks_l1) M s0 = some (ax, s') := by
    refine lp_all (fun q : Nat => ⟨[(0, i64 n), (3, st (List.replicate q 32)), (4, i64 q)], []⟩) (fun q => q ≤ n.toNat) (fun q => n.toNat - q) _ 0 M (by simp) (by omega) (by omega) ?_
    intro k hk
    by_cases hlt : (k : Int) < n
    · have hs : List.replicate (k + 1) (32 : UInt8) = List.replicate k 32 ++ [32] := List.replicate_succ'
      have hlk : (List.replicate k (32 : UInt8)).length = k := List.length_replicate
      generalize List.replicate k (32 : UInt8) = R at *
      simp -implicitDefEqProofs (disch := first | omega | ((try simp only [List.length_append, List.length_cons, List.length_nil, maxStr_eq]); omega) | assumption) [binS_add, hlt]
      exact ⟨k + 1, ⟨hs.symm, by omega⟩, by omega, by omega⟩
    · obtain rfl : k = n.toNat := by omega
      simp -implicitDefEqProofs (disch := first | omega | assumption) [hlt, bl]
  simp -implicitDefEqProofs (disch := first | omega | (simp <;> fail) | assumption) [hin]
/-- A text with blanks ahead. -/
def padL (s : List UInt8) (w : Int) : List UInt8 := bl (min (max w 0) 65536 - s.length) ++ s
def PadC (g : List AV → Option (List AV)) : Prop := ∀ (s : List UInt8) (w : Int), s.length ≤ 1000 → w ≤ 9223372036854775807 → -9223372036854775808 ≤ w → g [st s, i64 w] = some [st (padL s w)]
def bR (k : Nat) : Rows := (List.replicate k (32 : UInt8)).map (toAV ∘ u8row)
theorem bR_succ (k : Nat) : bR (k + 1) = bR k ++ [[.c (.int .u8 32)]] := by unfold bR; rw [List.replicate_succ']; simp [u8row, toAV]
theorem bR_len (k : Nat) : (bR k).length = k := by unfold bR; simp
theorem digits_Pad_run (Γ : Env) (M : Nat) (hM : 66000 < M) : PadC (run Γ M digits_Pad_f) := by
  intro s w hs hw hw2
  obtain ⟨n, hn⟩ : ∃ n, min (max w 0) 65536 - (s.length : Int) = n := ⟨_, rfl⟩
  obtain ⟨N, hN⟩ : ∃ N, n.toNat = N := ⟨_, rfl⟩
  obtain ⟨ax, s', ⟨rfl, rfl⟩, hin⟩ : ∃ ax s', (ax = .ex 0 ∧ s' = ⟨[(0, st s), (5, .sl 11 N 0 N)], [(11, ⟨1, bR N⟩)]⟩) ∧ ∀ s0, nrm [0, 5, 15, 16] [5, 11, 20] s0 = ⟨[(0, st s), (5, .sl 11 0 0 0), (15, i64 n), (16, i64 (0 : Nat))], [(11, ⟨1, bR 0⟩)]⟩ → lp (exec Γ M digits_Pad_l1) M s0 = some (ax, s') := by
    refine lp_all (fun q : Nat => ⟨[(0, st s), (5, .sl 11 q 0 q), (15, i64 n), (16, i64 q)], [(11, ⟨1, bR q⟩)]⟩) (fun q => q ≤ N) (fun q => N - q) _ 0 M (by simp) (by omega) (by omega) ?_
    intro k hk
    by_cases hlt : (k : Int) < n
    · have hrl := bR_len k
      have hrc : lcRows 11 (bR k) = true := lcRows_comp 11 u8row _
      have hs2 := bR_succ k
      generalize bR k = R at *
      simp -implicitDefEqProofs (disch := first | omega | assumption) [hlt, hrl, hrc]
      exact ⟨k + 1, ⟨by omega, hs2.symm⟩, by omega, by omega⟩
    · obtain rfl : k = N := by omega
      simp -implicitDefEqProofs (disch := first | omega | assumption) [hlt]
  have hin := hin ⟨[(0, st s), (5, .sl 11 0 0 0), (15, i64 n), (16, i64 (0 : Nat))], [(11, ⟨1, []⟩)]⟩ (by simp [bR])
  simp at hin
  have hrl := bR_len N
  have hrc : lcRows 11 (bR N) = true := lcRows_comp 11 u8row _
  have hE : (if 65536 < (if w < 0 then (0 : Int) else w) then (65536 : Int) else if w < 0 then 0 else w) - (s.length : Int) = n := by
    by_cases w0 : w < 0
    · rw [if_pos w0]; simp only [if_neg (show ¬ (65536 : Int) < 0 by omega)]; omega
    · by_cases w1 : 65536 < w
      · simp only [if_neg w0, if_pos w1]; omega
      · simp only [if_neg w0, if_neg w1]; omega
  obtain ⟨T, hT⟩ : ∃ T, List.replicate N (32 : UInt8) ++ s = T := ⟨_, rfl⟩
  have hp : padL s w = T := by unfold padL bl; rw [hn, hN, hT]
  have happ : bR N ++ s.map (toAV ∘ u8row) = T.map (toAV ∘ u8row) := by rw [← hT]; unfold bR; simp only [List.map_append]
  have hTl : N + s.length = T.length := by rw [← hT]; simp
  have ha := allRows_comp u8row T
  have h1 := u8row_all T
  have h2 := u8row_of T
  have h3 : (T.map u8row).take T.length = T.map u8row := by rw [List.take_of_length_le]; simp
  have hconv : ∀ fr, (⟨fr, [(11, ⟨1, T.map (toAV ∘ u8row)⟩)]⟩ : St).conv .toStr (.sl 11 T.length 0 T.length) = some (.str T) := fun fr => by
    simp only [St.conv, St.view, get, if_true, List.length_map, Nat.zero_add, Nat.le_refl, and_self, ha, Option.map_some, List.drop_zero, h3, h1, h2]
  rw [hp]
  generalize bR N = G at *
  generalize T.map (toAV ∘ u8row) = G2 at *
  simp -implicitDefEqProofs (disch := first | omega | assumption) [hE, hin, hrl, hrc, happ, hTl, hconv]
end Go.Am
