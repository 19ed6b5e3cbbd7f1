/- Law 70: the table; ByfloorRows. -/
import Derived.Test.YtkhbfjmckgddeaaDoorBfC
set_option linter.unusedVariables false
set_option linter.unusedSimpArgs false
set_option maxRecDepth 10000
set_option maxHeartbeats 2000000
namespace Go.Am
def rowTF (e : BE) : TRow := [txt e.x, if 0 < e.y then [117, 112] else [100, 111, 119, 110], txt e.c, txt e.s, txt e.u, txt e.m]
def headF : TRow := [[102, 108, 111, 111, 114], [119, 97, 121], [99, 97, 109, 101], [105, 110], [115, 117, 109], [109, 97, 120]]
def tabF (es : List BE) : List TRow := headF :: es.map rowTF
theorem tabF_snoc (es : List BE) (e : BE) : tabF (es ++ [e]) = tabF es ++ [rowTF e] := by simp [tabF]
theorem tabF_len (es : List BE) : (tabF es).length = es.length + 1 := by simp [tabF]
def trF (rs : List TRow) : Rows := rs.map (toAV ∘ rowQ)
theorem trF_len (rs : List TRow) : (trF rs).length = rs.length := by simp [trF]
theorem trF_snoc (rs : List TRow) (r : TRow) : trF (rs ++ [r]) = trF rs ++ [[vR r]] := by simp [trF, rowQ, toAV]
theorem txF_len {n : Int} (h0 : 0 ≤ n) : (txt n).length ≤ 20 := by
  unfold txt; rw [if_neg (by omega)]; exact dig_len n
/-- A row such as there may be. -/
structure BE.Ok (e : BE) : Prop where
  x : 0 ≤ e.x ∧ e.x ≤ 127
  c : 0 ≤ e.c ∧ e.c ≤ 100
  s : 0 ≤ e.s ∧ e.s ≤ 100
  u : 0 ≤ e.u ∧ e.u ≤ 107374182600
  m : 0 ≤ e.m ∧ e.m ≤ 1073741826
theorem rowI3_ok {l : List Trip} (hn : l.length ≤ 100) (hl : ∀ t ∈ l, Tb t) {i : Nat} (hi : i < 384) : (rowI3 l i).Ok := by
  obtain ⟨h1, h2, h3, h4⟩ := rowL_inA hl (fAt i) (dAt i)
  have hx := rowI3_x l i
  refine ⟨?_, by unfold rowI3; omega, by unfold rowI3; omega, by unfold rowI3; omega, h4⟩
  rw [hx.1]; unfold fAt; omega
theorem wantE_ok {l : List Trip} (hn : l.length ≤ 100) (hl : ∀ t ∈ l, Tb t) : ∀ e ∈ wantE l 384, e.Ok := by
  intro e he
  obtain ⟨-, i, rfl, hi⟩ := wantE_in hl 384 e he
  exact rowI3_ok hn hl hi
theorem tabF_small {es : List BE} (hn : es.length ≤ 100) (h : ∀ e ∈ es, e.Ok) : Small (tabF es) := by
  constructor
  · rw [tabF_len]; omega
  · intro r hr
    unfold tabF at hr
    rw [List.mem_cons] at hr
    rcases hr with rfl | hr
    · constructor <;> decide
    · obtain ⟨e, he, rfl⟩ := List.mem_map.1 hr
      obtain ⟨h1, h2, h3, h4, h5⟩ := h e he
      constructor
      · simp [rowTF]
      · intro w hw
        simp only [rowTF, List.mem_cons, List.not_mem_nil, or_false] at hw
        have c1 := txF_len h1.1
        have c2 := txF_len h2.1
        have c3 := txF_len h3.1
        have c4 := txF_len h4.1
        have c5 := txF_len h5.1
        rcases hw with rfl | rfl | rfl | rfl | rfl | rfl
        · omega
        · split <;> simp
        all_goals omega
def FTextC (g : List AV → Option (List AV)) : Prop := ∀ l : List Trip, l.length ≤ 100 → (∀ t ∈ l, Tb t) → g [vTb l] = some [st (linesG (wid (tabF (wantE l 384))) (tabF (wantE l 384)))]
theorem byfloor_Text_run {Γ : Env} {M : Nat} (hM : 1000 < M) (hA : AllE (Γ 445)) (h4 : Of (Γ 50)) (h6 : TextC16 (Γ 183)) : FTextC (run Γ M byfloor_Text_f) := by
  intro l hn hl
  have eA := hA l hn hl
  have hel := wantE_len hl
  have hok := wantE_ok hn hl
  generalize wantE l 384 = es at *
  have hT := h6 _ (tabF_small (by omega) hok)
  obtain ⟨ax, s', ⟨rfl, rfl⟩, hin⟩ : ∃ ax s', (ax = .ex 0 ∧ s' = ⟨[(3, .sl 8 (es.length + 1) 0 (es.length + 1))], [(8, ⟨1, trF (tabF es)⟩)]⟩) ∧ ∀ s0, nrm [3, 10, 11, 12] [3, 8, 40] s0 = ⟨[(3, .sl 8 (0 + 1) 0 (0 + 1)), (10, vE es), (11, i64 es.length), (12, i64 (0 : Nat))], [(8, ⟨1, trF (tabF (es.take 0))⟩)]⟩ → lp (exec Γ M byfloor_Text_l1) M s0 = some (ax, s') := by
    refine lp_all (fun q : Nat => ⟨[(3, .sl 8 (q + 1) 0 (q + 1)), (10, vE es), (11, i64 es.length), (12, i64 q)], [(8, ⟨1, trF (tabF (es.take q))⟩)]⟩) (fun q => q ≤ es.length) (fun q => es.length - q) _ 0 M (by simp) (by simp) (by omega) ?_
    intro k hk
    by_cases hlt : k < es.length
    · obtain ⟨e, he⟩ : ∃ w, es[k]'hlt = w := ⟨_, rfl⟩
      have hrow := be_get hlt he
      obtain ⟨o1, o2, o3, o4, o5⟩ := hok e (he ▸ List.getElem_mem hlt)
      have a1 := h4 e.x ⟨by omega, by omega⟩
      have a2 := h4 e.c ⟨by omega, by omega⟩
      have a3 := h4 e.s ⟨by omega, by omega⟩
      have a4 := h4 e.u ⟨by omega, by omega⟩
      have a5 := h4 e.m ⟨by omega, by omega⟩
      have hrl := trF_len (tabF (es.take k))
      rw [tabF_len, List.length_take, Nat.min_eq_left (by omega)] at hrl
      have hrn : ∀ z, nmRows z (trF (tabF (es.take k))) = true := fun z => nmRows_comp z rowQ _
      have hrc : ∀ z, lcRows z (trF (tabF (es.take k))) = true := fun z => lcRows_comp z rowQ _
      have hgoal : trF (tabF (es.take (k + 1))) = trF (tabF (es.take k)) ++ [[vR (rowTF e)]] := by rw [List.take_succ_eq_append_getElem hlt, he, tabF_snoc, trF_snoc]
      have hcr : rowTF e = [txt e.x, if 0 < e.y then [117, 112] else [100, 111, 119, 110], txt e.c, txt e.s, txt e.u, txt e.m] := rfl
      rw [hcr] at hgoal
      simp only [BE.cells] at hrow
      generalize trF (tabF (es.take k)) = G at *
      by_cases c : 0 < e.y
      · rw [if_pos c] at hgoal
        simp -implicitDefEqProofs (disch := first | omega | (simp [hrl, hrc, hrn] <;> fail) | assumption) [hlt, hrow, a1, a2, a3, a4, a5, hrl, hrc, hrn, c]
        exact ⟨k + 1, ⟨⟨by omega, by omega⟩, hgoal.symm⟩, by omega, by omega⟩
      · rw [if_neg c] at hgoal
        simp -implicitDefEqProofs (disch := first | omega | (simp [hrl, hrc, hrn] <;> fail) | assumption) [hlt, hrow, a1, a2, a3, a4, a5, hrl, hrc, hrn, c]
        exact ⟨k + 1, ⟨⟨by omega, by omega⟩, hgoal.symm⟩, by omega, by omega⟩
    · obtain rfl : k = es.length := by omega
      rw [List.take_length]
      simp -implicitDefEqProofs (disch := first | omega | assumption)
  have hlp := hin ⟨[(3, .sl 8 1 0 1), (10, vE es), (11, i64 es.length), (12, i64 0)], [(8, ⟨1, [[vR headF]]⟩)]⟩ (by simp [tabF, trF, rowQ, toAV])
  simp only [vR, headF, List.map_cons, List.map_nil, txQ] at hlp
  have ha := allRows_comp rowQ (tabF es)
  have hrl := trF_len (tabF es)
  rw [tabF_len] at hrl
  have hF2 : ((tabF es).map rowQ).take (es.length + 1) = (tabF es).map rowQ := by rw [List.take_of_length_le]; rw [List.length_map, tabF_len]; omega
  rw [show (tabF es).map (toAV ∘ rowQ) = trF (tabF es) from rfl] at ha
  generalize trF (tabF es) = G at *
  generalize linesG (wid (tabF es)) (tabF es) = T at *
  simp only [vRs] at hT
  generalize (tabF es).map rowQ = K at *
  simp -implicitDefEqProofs (disch := first | omega | assumption) [eA, hlp, ha, hrl, hF2, hT]
end Go.Am
