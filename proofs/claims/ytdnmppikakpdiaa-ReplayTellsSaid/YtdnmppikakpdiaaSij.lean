/- A stable sort's walks: blocks in order, and ever longer ones. -/
import Derived.Test.YtdnmppikakpdiaaSii
set_option linter.unusedVariables false
set_option linter.unusedSimpArgs false
set_option maxRecDepth 10000
set_option maxHeartbeats 2000000
namespace Go.Am.Si
open Go.Am
/-- Up to a place blocks of w are in order. -/
def Blk (w lim : Nat) (L : List Ev) : Prop := ∀ i j, i ≤ j → j < lim → i / w = j / w → leE (evAt L i) (evAt L j)
/-- A range of a list is another one now. -/
def rep (L Z : List Ev) (a : Nat) : List Ev := L.take a ++ (Z ++ L.drop (a + Z.length))
theorem rep_len {L Z : List Ev} {a : Nat} (h : a + Z.length ≤ L.length) : (rep L Z a).length = L.length := by simp [rep]; omega
theorem rep_lo {L Z : List Ev} {a i : Nat} (h : a + Z.length ≤ L.length) (hi : i < a) : evAt (rep L Z a) i = evAt L i := by
  unfold rep evAt
  rw [List.getElem?_append_left (by simp; omega), List.getElem?_take_of_lt hi]
theorem rep_mid {L Z : List Ev} {a i : Nat} (h : a + Z.length ≤ L.length) (hi : a ≤ i) (hi2 : i < a + Z.length) : evAt (rep L Z a) i = evAt Z (i - a) := by
  unfold rep
  exact evAt_mid (by simp; omega) hi hi2
theorem rep_hi {L Z : List Ev} {a i : Nat} (h : a + Z.length ≤ L.length) (hi : a + Z.length ≤ i) : evAt (rep L Z a) i = evAt L i := by
  unfold rep evAt
  rw [List.getElem?_append_right (by simp; omega), List.getElem?_append_right (by simp; omega), List.getElem?_drop]
  congr 2; simp; omega
theorem rep_perm {L A Z : List Ev} {a : Nat} (hA : (L.drop a).take Z.length = A) (hp : Z.Perm A) : (rep L Z a).Perm L := by
  have hL : L = L.take a ++ (A ++ L.drop (a + Z.length)) := by
    rw [← hA, ← List.drop_drop, List.take_append_drop, List.take_append_drop]
  conv => rhs; rw [hL]
  exact List.Perm.append_left _ (List.Perm.append_right _ hp)
theorem blk_step {L Z : List Ev} {a k w : Nat} (hw : 0 < w) (ha : a = k * w) (hZ : Sor Z) (hzw : Z.length ≤ w) (h : a + Z.length ≤ L.length) (hb : Blk w a L) : Blk w (a + Z.length) (rep L Z a) := by
  intro i j hij hj he
  rcases Nat.lt_or_ge j a with hc | hc
  · rw [rep_lo h (by omega), rep_lo h hc]; exact hb i j hij hc he
  · have hjk : k ≤ j / w := (Nat.le_div_iff_mul_le hw).2 (by omega)
    have hi : a ≤ i := by rw [ha]; exact (Nat.le_div_iff_mul_le hw).1 (by omega)
    rw [rep_mid h hi (by omega), rep_mid h hc hj, evAt_get (by omega), evAt_get (by omega)]
    exact sor_get hZ (by omega) (by omega)
theorem seg_at {L : List Ev} {a c i : Nat} (h : i < c) : evAt ((L.drop a).take c) i = evAt L (a + i) := by
  unfold evAt; rw [List.getElem?_take_of_lt h, List.getElem?_drop]
theorem seg_sor {L : List Ev} {a c : Nat} (hc : a + c ≤ L.length) (h : ∀ i j, a ≤ i → i ≤ j → j < a + c → leE (evAt L i) (evAt L j)) : Sor ((L.drop a).take c) := by
  unfold Sor
  rw [List.pairwise_iff_getElem]
  intro i j hi hj hij
  have := h (a + i) (a + j) (by omega) (by omega) (by simp at hj; omega)
  rw [← seg_at (c := c) (by simp at hi; omega), ← seg_at (c := c) (by simp at hj; omega), evAt_get hi, evAt_get hj] at this
  exact this
theorem blk_all {L : List Ev} {w : Nat} (hw : L.length ≤ w) (hb : Blk w L.length L) : Sor L := by
  unfold Sor
  rw [List.pairwise_iff_getElem]
  intro i j hi hj hij
  have := hb i j (by omega) hj (by rw [Nat.div_eq_of_lt (by omega), Nat.div_eq_of_lt (by omega)])
  rwa [evAt_get hi, evAt_get hj] at this
/-- A range is put in order. -/
theorem ins_at {U : Ev → Prop} {cmp : St → Option (List AV × List (Nat × Obj))} {g : St → Option (List AV × List (Nat × Obj))} (h : InsC U cmp g) (K : Nat) (L : List Ev) (a b n : Nat) (gs : List (Nat × AV)) (rest : List (Nat × Obj)) (hg : Gh gs) (hd : del rest K = rest) (hL : L.length = n) (hab : a ≤ b) (hb : b ≤ n) (hn : n ≤ 100000) (hC : CmpC U K rest cmp) (hU : ∀ x ∈ L, U x) (hT : ((L.drop a).take (b - a)).Pairwise Tie) :
    ∃ Z, Sor Z ∧ Z.Perm ((L.drop a).take (b - a)) ∧ Z.length = b - a ∧ ∀ gs, Gh gs → g ⟨(0, .sl K n 0 n) :: (1, i64 a) :: (2, i64 b) :: (3, .clo fv_replay_Riders_1 [.loc 8 0 0]) :: gs, (K, ⟨1, evR L⟩) :: rest⟩ = some ([], (K, ⟨1, evR (rep L Z a)⟩) :: rest) := by
  have hl : ((L.drop a).take (b - a)).length = b - a := by simp; omega
  have hl2 : (srtE ((L.drop a).take (b - a))).length = b - a := by rw [srtE_len, hl]
  refine ⟨srtE ((L.drop a).take (b - a)), srtE_sor _, srtE_perm _, hl2, fun gs hg => ?_⟩
  have hE : L.take a ++ ((L.drop a).take (b - a) ++ L.drop b) = L := by
    have : L.drop b = (L.drop a).drop (b - a) := by rw [List.drop_drop]; congr 1; omega
    rw [this, List.take_append_drop, List.take_append_drop]
  have := h K (L.take a) ((L.drop a).take (b - a)) (L.drop b) a b n gs rest hg hd (by simp; omega) (by omega) (by rw [hE]; exact hL) hn hC (fun x hx => hU x (List.mem_of_mem_drop (List.mem_of_mem_take hx))) hT
  rw [hE] at this
  rw [this]
  unfold rep
  rw [hl2, show a + (b - a) = b by omega]
theorem sym_at {U : Ev → Prop} {cmp : St → Option (List AV × List (Nat × Obj))} {d : Nat} {g : St → Option (List AV × List (Nat × Obj))} (h : SymC U cmp d g) (K : Nat) (L : List Ev) (a m b n : Nat) (rest : List (Nat × Obj)) (hd : del rest K = rest) (hL : L.length = n) (ham : a < m) (hmb : m < b) (hb : b ≤ n) (hn : n ≤ 100000) (hw : b - a ≤ 2 ^ d) (sA : Sor ((L.drop a).take (m - a))) (sB : Sor ((L.drop m).take (b - m))) (hC : CmpC U K rest cmp) (hU : ∀ x ∈ L, U x) (hT : ∀ x ∈ (L.drop a).take (m - a), ∀ y ∈ (L.drop m).take (b - m), Tie x y) :
    ∃ Z, Sor Z ∧ Z.Perm ((L.drop a).take (b - a)) ∧ Z.length = b - a ∧ ∀ gs, Gh gs → g ⟨(0, .sl K n 0 n) :: (1, i64 a) :: (2, i64 m) :: (3, i64 b) :: (4, .clo fv_replay_Riders_1 [.loc 8 0 0]) :: gs, (K, ⟨1, evR L⟩) :: rest⟩ = some ([], (K, ⟨1, evR (rep L Z a)⟩) :: rest) := by
  have l1 : ((L.drop a).take (m - a)).length = m - a := by simp; omega
  have l2 : ((L.drop m).take (b - m)).length = b - m := by simp; omega
  have hD : L.drop b = (L.drop m).drop (b - m) := by rw [List.drop_drop]; congr 1; omega
  have hM : L.drop m = (L.drop a).drop (m - a) := by rw [List.drop_drop]; congr 1; omega
  have hE : L.take a ++ ((L.drop a).take (m - a) ++ ((L.drop m).take (b - m) ++ L.drop b)) = L := by
    rw [hD, List.take_append_drop, hM, List.take_append_drop, List.take_append_drop]
  have hAB : (L.drop a).take (m - a) ++ (L.drop m).take (b - m) = (L.drop a).take (b - a) := by
    rw [hM, show b - a = (m - a) + (b - m) by omega, ← List.take_add]
  have hl2 : (srtE ((L.drop a).take (b - a))).length = b - a := by rw [srtE_len]; simp; omega
  refine ⟨srtE ((L.drop a).take (b - a)), srtE_sor _, srtE_perm _, hl2, fun gs hg => ?_⟩
  have := h K (L.take a) ((L.drop a).take (m - a)) ((L.drop m).take (b - m)) (L.drop b) a m b n gs rest hg hd (by simp; omega) (by omega) (by omega) (by rw [hE]; exact hL) hn (by omega) (by omega) (by omega) sA sB hC (fun x hx => hU x (List.mem_of_mem_drop (List.mem_of_mem_take hx))) (fun x hx => hU x (List.mem_of_mem_drop (List.mem_of_mem_take hx))) hT
  rw [hE, hAB] at this
  rw [this]
  unfold rep
  rw [hl2, show a + (b - a) = b by omega]
end Go.Am.Si
