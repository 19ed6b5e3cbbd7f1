/- strings.ReplaceAll of a blank by a plus sign, as a function from outside of the table. -/
import Derived.Test.YtkhbfjmckgddeaaDoorLayRp
import Derived.Test.YtkhbfjmckgddeaaDoorAl
set_option linter.unusedVariables false
set_option linter.unusedSimpArgs false
namespace Go.Am
open Go.Proofs Go.Shelf Go.RowKit
theorem rpExtra : Builder.Extra Tryd.prog Tryd.lays155_ren where
  sizeBuilder := by kernel_rfl
  liesBuilder := by kernel_rfl
  t5 := Tryd.underlying5
  a5 := Tryd.isAgg5
  z5 := Tryd.sizeOf5
  v5 := Tryd.zeroValue5
  infoByte := by kernel_rfl
  cellsByte := by kernel_rfl
  sizeByte := by kernel_rfl
  neB5 := by decide
def repS : List AV → Option (List AV)
  | [.c (.str s), .c (.str [32]), .c (.str [43])] => if s.length ≤ 1000 then some [.c (.str (Lib.replaceAll s [32] [43]))] else none
  | _ => none
theorem rep_spec (hg : 0 ∈ gBlocks) : Spec Tryd.prog 40 repS := by
  intro F w ds vs rs hok hall h
  unfold repS at h
  split at h
  case h_2 => simp at h
  rename_i s
  split at h
  case isFalse => simp at h
  rename_i hs
  simp only [Option.some.injEq] at h
  subst h
  cases hall with
  | cons h1 h2 =>
  cases h2 with
  | cons h2 h3 =>
  cases h3 with
  | cons h3 h4 =>
  cases h4
  cases h1
  cases h2
  cases h3
  obtain ⟨m, hm⟩ := hok.glob 0 hg
  have hcell := hok.at_ _ _ hm
  have hcb := Lib.countB_mul_le (⟨#[32]⟩ : ByteArray) (by decide) (⟨s.toArray⟩ : ByteArray).size ⟨s.toArray⟩ (Nat.le_refl _)
  have hsz : (⟨s.toArray⟩ : ByteArray).size = s.length := by simp [ByteArray.size]
  have hz : (⟨#[32]⟩ : ByteArray).size = 1 := rfl
  have hz2 : (⟨#[43]⟩ : ByteArray).size = 1 := rfl
  rw [hz, hsz] at hcb
  have hc := Any.strings_ReplaceAll (P := Tryd.prog) (ρ := Tryd.lays155_ren) { Tryd.lays155 with } rpExtra ⟨s.toArray⟩ ⟨#[32]⟩ ⟨#[43]⟩ m w (by rw [hsz]; omega) hcell (by decide) (by rw [hz2, hsz]; omega)
  refine hc.mono ?_
  rintro e w' ⟨rfl, hb⟩
  refine ⟨_, rfl, F, hok.below hb, Facts.le.refl F, hb, fun a v hv => .inl hv, ?_⟩
  simpa [RetR, RR] using DR.str (F := F) (Lib.replaceAll s [32] [43])
/-! ### What it answers -/
theorem index_none : ∀ l : List UInt8, (32 : UInt8) ∉ l → Lib.index l [32] = -1
  | [], _ => rfl
  | b :: l, h => by
    have hb : ¬ b = 32 := fun e => h (by simp [e])
    have ih := index_none l fun hm => h (by simp [hm])
    have hp : ([32] : List UInt8).isPrefixOf (b :: l) = false := by simp [List.isPrefixOf, Ne.symm hb]
    rw [Lib.index, hp, ih]; rfl
theorem index_some : ∀ (a b : List UInt8), (32 : UInt8) ∉ a → Lib.index (a ++ 32 :: b) [32] = a.length
  | [], b, _ => by simp [Lib.index, List.isPrefixOf]
  | c :: a, b, h => by
    have hc : ¬ c = 32 := fun e => h (by simp [e])
    have ih := index_some a b fun hm => h (by simp [hm])
    have hp : ([32] : List UInt8).isPrefixOf (c :: (a ++ 32 :: b)) = false := by simp [List.isPrefixOf, Ne.symm hc]
    have hm : ¬ ((a.length : Int) == -1) = true := fun e => by have := beq_iff_eq.1 e; omega
    rw [List.cons_append, Lib.index, hp, ih]
    simp only [Bool.false_eq_true, if_false, if_neg hm, List.length_cons]
    omega
theorem rep_none {l : List UInt8} (h : (32 : UInt8) ∉ l) : Lib.replaceAll l [32] [43] = l := by
  have hi := index_none l h
  unfold Lib.replaceAll Lib.replace
  rw [if_neg (by decide)]
  cases hk : Lib.replaceNum l [32] (-1) with
  | zero => rfl
  | succ k => rw [Lib.replaceK, hi]; rfl
theorem rep_one {a b : List UInt8} (ha : (32 : UInt8) ∉ a) (hb : (32 : UInt8) ∉ b) : Lib.replaceAll (a ++ 32 :: b) [32] [43] = a ++ 43 :: b := by
  have hi := index_some a b ha
  have hi2 := index_none b hb
  unfold Lib.replaceAll Lib.replace
  rw [if_neg (by decide)]
  have hk : Lib.replaceNum (a ++ 32 :: b) [32] (-1) ≠ 0 := by
    unfold Lib.replaceNum
    rw [if_pos (.inl (by decide))]
    intro h0
    rw [Lib.count_hit (by decide) hi] at h0
    omega
  obtain ⟨k, hk⟩ := Nat.exists_eq_succ_of_ne_zero hk
  rw [hk, Lib.replaceK_hit _ _ _ _ a.length hi]
  have hd : (a ++ 32 :: b).drop (a.length + ([32] : List UInt8).length) = b := by
    rw [← List.drop_drop, List.drop_left]; rfl
  rw [hd, List.take_left]
  have : Lib.replaceK [32] [43] k b = b := by
    cases k with
    | zero => rfl
    | succ k => rw [Lib.replaceK, hi2]; rfl
  rw [this]; simp
end Go.Am
