/- Law 27: a scenario's text is its lines. -/
import Derived.Test.YtnjjnokckgjecaaParT
import Derived.Test.YtnjjnokckgjecaaBack
import Derived.Test.YtnjjnokckgjecaaShow
set_option linter.unusedVariables false
set_option linter.unusedSimpArgs false
set_option maxRecDepth 10000
set_option maxHeartbeats 1000000
namespace Go.Am
theorem txt_dig {n : Int} (h : 0 ≤ n) : txt n = dig n := by unfold txt; rw [if_neg (by omega)]
theorem lineT_nums : ∀ (x : It) (l : List Int), (∀ n ∈ l, 0 ≤ n) → lineT (x :: l.map It.n) = x.tx ++ numsT l ++ [10]
  | x, [], _ => by simp [lineT, numsT]
  | x, n :: l, h => by
    have := lineT_nums (.n n) l (fun m hm => h m (by simp [hm]))
    simp only [List.map_cons, lineT, numsT, this, It.tx, txt_dig (h n (by simp))]
    simp
theorem lineT_w1 (w : List UInt8) (l : List Int) (h : ∀ n ∈ l, 0 ≤ n) : lineT (.w w :: l.map It.n) = shL [w] l := by
  rw [lineT_nums _ _ h]; rfl
theorem lineT_w2 (w v : List UInt8) (l : List Int) (h : ∀ n ∈ l, 0 ≤ n) : lineT (.w w :: .w v :: l.map It.n) = shL [w, v] l := by
  rw [lineT, lineT_nums _ _ h]; simp [It.tx, shL, joinW]
theorem linesT_app : ∀ a b : List (List It), linesT (a ++ b) = linesT a ++ linesT b
  | [], b => rfl
  | x :: a, b => by simp [linesT, linesT_app a b]
theorem tplW_tplB (k : Int) : tplW k = tplB k := rfl
theorem disW_disB (k : Int) : disW k = disB k := rfl
theorem segs_linesT : ∀ l : List Seg, (∀ g ∈ l, segErr g = 0) → linesT (l.map segIt) = segsT l
  | [], _ => rfl
  | g :: l, h => by
    obtain ⟨_, ht, hr⟩ := segErr_zero (h g (by simp))
    have h1 := (inB_range ht).1
    have h2 := (inB_range hr).1
    have := lineT_w2 pTraffic (tplB g.kind) [g.ticks, g.rate] (by simp [h1, h2])
    simp only [List.map_cons, List.map_nil] at this
    rw [List.map_cons, linesT, segs_linesT l fun x hx => h x (by simp [hx]), segsT, segIt, this]
    rfl
theorem txtS_lines {s : Scn} (h : chkS s = 0) : txtS s = linesT (itS s) := by
  obtain ⟨hn, hd, hne, h8, hsg⟩ := chk_fine h
  simp only [numOk, Bool.and_eq_true] at hn
  obtain ⟨⟨⟨⟨⟨⟨⟨⟨⟨⟨b1, b2⟩, b3⟩, b4⟩, b5⟩, b6⟩, b7⟩, b8⟩, b9⟩, b10⟩, b11⟩ := hn
  have c1 := lineT_w1 pBuilding [s.floors, s.gap] (by simp [(inB_range b1).1, (inB_range b2).1])
  have c2 := lineT_w1 pCars [s.cars, s.capacity] (by simp [(inB_range b3).1, (inB_range b4).1])
  have c3 := lineT_w1 pDoors [s.opn, s.dwell, s.cls, s.transfer] (by simp [(inB_range b5).1, (inB_range b6).1, (inB_range b7).1, (inB_range b8).1])
  have c4 := lineT_w2 pDispatcher (disB s.disp) [] (by simp)
  have c5 := lineT_w1 pHorizon [s.horizon] (by simp [(inB_range b9).1])
  have c6 := lineT_w1 pBins [s.bins, s.width] (by simp [(inB_range b10).1, (inB_range b11).1])
  simp only [List.map_cons, List.map_nil] at c1 c2 c3 c4 c5 c6
  unfold itS
  rw [linesT_app, linesT_app, segs_linesT _ hsg]
  simp only [headIt, tailIt, linesT, c1, c2, c3, c4, c5, c6, txtS, headT, disW_disB, List.append_assoc, List.append_nil]
theorem txtS_len (s : Scn) (h : s.segs.length ≤ 30) : (txtS s).length ≤ 50000 := by
  have n1 := headT_len s
  have n4 := segsT_len s.segs
  have n5 := shL_len [wDispatcher, disW s.disp] [] (by simp) (by simp [disW_len]) (by simp)
  have n6 := shL_len [wHorizon] [s.horizon] (by simp) (by simp) (by simp)
  have n7 := shL_len [wBins] [s.bins, s.width] (by simp) (by simp) (by simp)
  simp only [txtS, List.length_append]; omega
theorem parseR_txtS {s : Scn} (h : chkS s = 0) : parseR (txtS s) = ⟨s, 0, 0, 0⟩ := by rw [txtS_lines h]; exact parseR_back h
theorem inI_of {n : Int} (h : 0 ≤ n ∧ n ≤ 1073741824) : InI64 n := by unfold InI64; omega
theorem ok_of_chk {s : Scn} (h : chkS s = 0) : s.Ok := by
  obtain ⟨hn, hd, hne, h8, hsg⟩ := chk_fine h
  have hmax := maxLen_eq
  simp only [numOk, Bool.and_eq_true] at hn
  obtain ⟨⟨⟨⟨⟨⟨⟨⟨⟨⟨b1, b2⟩, b3⟩, b4⟩, b5⟩, b6⟩, b7⟩, b8⟩, b9⟩, b10⟩, b11⟩ := hn
  refine ⟨inI_of (inB_range b1), inI_of (inB_range b2), inI_of (inB_range b3), inI_of (inB_range b4), inI_of (inB_range b5), inI_of (inB_range b6), inI_of (inB_range b7), inI_of (inB_range b8), by omega, ?_, inI_of (by omega), inI_of (inB_range b9), inI_of (inB_range b10), inI_of (inB_range b11)⟩
  intro g hg
  obtain ⟨hk, ht, hr⟩ := segErr_zero (hsg g hg)
  exact ⟨inI_of (by omega), inI_of (inB_range ht), inI_of (inB_range hr)⟩
def SameK (g : List AV → Option (List AV)) : Prop := ∀ a b : Scn, a.segs.length ≤ 10 → b.segs.length ≤ 10 → g [.agg a.cells, .agg b.cells] = some [bo (sameS a b)]
theorem law27_ShowBack_run {Γ : Env} (M : Nat) (h26 : ChkC (Γ 26)) (h48 : TextC (Γ 48)) (h116 : TextC26 (Γ 116)) (h28 : SameK (Γ 28)) (h46 : Γ 46 [] = some [bo true]) (s : Scn) (hs : s.Ok) :
    run Γ M law27_ShowBack_f [.agg s.cells] = some [bo true] := by
  have hns := hs.nsegs
  by_cases hn : 30 < s.segs.length
  · have hn' : (30 : Int) < s.segs.length := by omega
    simp -implicitDefEqProofs (disch := first | omega | assumption) [hn, hn']
  have hn' : ¬ (30 : Int) < s.segs.length := by omega
  have e26 := h26 s hns
  by_cases h0 : chkS s = 0
  · rw [h0] at e26
    have h8 := (chk_fine h0).few
    have e48 := h48 s hs (by omega)
    rw [if_pos h0] at e48
    have e116 := h116 (txtS s) (txtS_len s (by omega))
    rw [parseR_txtS h0] at e116
    have e28 := h28 s s (by omega) (by omega)
    rw [sameS_self] at e28
    generalize txtS s = T at *
    simp only [Scn.cells] at e26 e48 e116 e28
    simp -implicitDefEqProofs (disch := first | omega | assumption) [hn, hn', e26, e48, e116, e28, h46]
  · generalize chkS s = E at *
    simp only [Scn.cells] at e26
    simp -implicitDefEqProofs (disch := first | omega | assumption) [hn, hn', e26, h0]
theorem law27_ShowAgain_run {Γ : Env} (M : Nat) (h48 : TextC (Γ 48)) (h116 : TextC26 (Γ 116)) (h28 : SameK (Γ 28)) (h46 : Γ 46 [] = some [bo true]) (x : List UInt8) (hx : x.length ≤ maxLen) :
    run Γ M law27_ShowAgain_f [st x] = some [bo true] := by
  by_cases hl : 3000 < (x.length : Int)
  · simp -implicitDefEqProofs (disch := omega) [hl]
  have e116 := h116 x (by omega)
  have key : (parseR x).e ≠ 0 ∨ ∃ s, parseR x = ⟨s, 0, 0, 0⟩ ∧ chkS s = 0 := by
    rcases parseR_spec x (by omega) with ⟨h1, h⟩ | ⟨h1, ⟨e, t, h, h2, h3⟩ | ⟨s', h, h2, h3⟩⟩
    · left; rw [h]; exact h1
    · left; rw [h]; exact h2
    · exact .inr ⟨s', h, h2⟩
  rcases key with he | ⟨s, hp, h0⟩
  · generalize parseR x = R at *
    simp only [Scn.cells] at e116
    simp -implicitDefEqProofs (disch := first | omega | assumption) [hl, e116, he, h46]
  · have h8 := (chk_fine h0).few
    have hs := ok_of_chk h0
    rw [hp] at e116
    have e48 := h48 s hs (by omega)
    rw [if_pos h0] at e48
    have f116 := h116 (txtS s) (txtS_len s (by omega))
    rw [parseR_txtS h0] at f116
    have e28 := h28 s s (by omega) (by omega)
    rw [sameS_self] at e28
    generalize txtS s = T at *
    simp only [Scn.cells] at e48 e116 f116 e28
    simp -implicitDefEqProofs (disch := first | omega | assumption) [hl, e48, e116, f116, e28, h46]
end Go.Am
