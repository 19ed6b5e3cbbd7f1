/- Law 70: ByfloorRows, the law. -/
import Derived.Test.YtkhbfjmckgddeaaDoorBfE
set_option linter.unusedVariables false
set_option linter.unusedSimpArgs false
set_option maxRecDepth 10000
set_option maxHeartbeats 4000000
namespace Go.Am
open Go.Proofs
theorem ByfloorRows_run {Γ : Env} {M : Nat} (hM : 1000 < M) (ha : Γ 448 [] = some [bo true]) (h0 : Great24 (Γ 60)) (h1 : RowC70 (Γ 449)) (h2 : Of (Γ 6)) (h3 : WorstC (Γ 451)) (h4 : OfCB (Γ 450)) (h5 : AllE (Γ 445)) (h6 : EqE (Γ 446)) (h7 : FTextC (Γ 447)) (h8 : TextC16 (Γ 184)) (l : List Trip) (kf kd : Int) :
    run Γ M law70_ByfloorRows_f [vTb l, .agg [.int .i64 kf, .int .i64 kd]] = some [bo true] := by
  obtain ⟨g, e0, hg⟩ := h0 l
  cases g with
  | true => simp -implicitDefEqProofs (disch := first | omega | assumption) [e0]
  | false =>
  have hg := hg rfl
  have hn := hg.n
  obtain ⟨ax, s', hR, hin⟩ := l3_run Γ M hM l hg kf kd
  have hlp3 := hin ⟨[(0, vTb l), (3, .loc 3 0 0), (5, i64 0)], [(3, ⟨2, [[i64 kf, i64 kd]]⟩)]⟩ (by simp)
  clear hin
  rcases hR with ⟨rfl, ob, rfl⟩ | ⟨rfl, rfl, hl⟩
  · simp -implicitDefEqProofs (disch := first | omega | assumption) [e0, hlp3]
  have hw0 : wantE l (3 * 0) = [] := rfl
  have hlp2 := l2_run hM h1 h2 l hn hl kf kd ⟨[(0, vTb l), (3, .loc 3 0 0), (7, .sl 7 0 0 0), (8, .loc 8 0 0), (9, bo false), (10, .sl 60 1 0 1), (11, i64 0)], [(3, ⟨2, [[i64 kf, i64 kd]]⟩), (7, ⟨6, []⟩), (8, ⟨6, [[i64 0, i64 0, i64 0, i64 0, i64 0, i64 0]]⟩), (60, ⟨1, [[vR headF]]⟩)]⟩ (by rw [hw0]; simp [eR, wst, e00, cellsA, tabF, trF, rowQ, toAV])
  simp only [vR, headF, List.map_cons, List.map_nil, txQ, cellsA] at hlp2
  have eW := h3 l hn hl
  have eO := h4 l kf kd hn hl
  have eR1 := h1 l kf kd hn hl
  have eA := h5 l hn hl
  have eT := h7 l hn hl
  have hrin := rowL_inA hl kf kd
  have hel := wantE_len hl
  have hok := wantE_ok hn hl
  have hT := h8 _ (tabF_small (by omega) hok)
  have eE := h6 (wantE l 384) (by omega)
  generalize wantE l 384 = es at *
  have ha7 := allRows_comp BE.cells es
  rw [show es.map (toAV ∘ BE.cells) = eR es from rfl] at ha7
  have hl7 := eR_len es
  have hF7 : (es.map BE.cells).take es.length = es.map BE.cells := by rw [List.take_of_length_le]; simp
  have ha60 := allRows_comp rowQ (tabF es)
  rw [show (tabF es).map (toAV ∘ rowQ) = trF (tabF es) from rfl] at ha60
  have hl60 := trF_len (tabF es)
  rw [tabF_len] at hl60
  have hF60 : ((tabF es).map rowQ).take (es.length + 1) = (tabF es).map rowQ := by rw [List.take_of_length_le]; rw [List.length_map, tabF_len]; omega
  have hn7 : ∀ z, nmRows z (eR es) = true := fun z => nmRows_comp z BE.cells _
  have hc7 : ∀ z, lcRows z (eR es) = true := fun z => lcRows_comp z BE.cells _
  have hn60 : ∀ z, nmRows z (trF (tabF es)) = true := fun z => nmRows_comp z rowQ _
  have hc60 : ∀ z, lcRows z (trF (tabF es)) = true := fun z => lcRows_comp z rowQ _
  generalize eR es = G7 at *
  generalize trF (tabF es) = G60 at *
  generalize linesG (wid (tabF es)) (tabF es) = T at *
  simp only [vRs] at hT
  simp only [vE] at eE eA
  generalize (tabF es).map rowQ = K60 at *
  generalize es.map BE.cells = K7 at *
  generalize es.length = n at *
  obtain ⟨⟨B, sm⟩, hB⟩ : ∃ q, wst es = q := ⟨_, rfl⟩
  rw [hB] at hlp2 eW
  generalize rowL l kf kd = R at *
  simp only [BE.cells, e00] at eW eO eR1
  obtain ⟨i1, -⟩ := hrin
  by_cases c0 : R.c = 0
  · rw [if_pos c0] at eO
    have c1 : ¬ 0 < R.c := by omega
    simp -implicitDefEqProofs (disch := first | omega | (simp [hl7, hl60, hn7, hc7, hn60, hc60] <;> fail) | assumption) [e0, hlp3, hlp2, eW, eO, eR1, eA, eT, hT, eE, ha7, hl7, hF7, ha60, hl60, hF60, hn7, hc7, hn60, hc60, c0, c1, ha]
  · rw [if_neg c0] at eO
    have c1 : 0 < R.c := by omega
    simp -implicitDefEqProofs (disch := first | omega | (simp [hl7, hl60, hn7, hc7, hn60, hc60] <;> fail) | assumption) [e0, hlp3, hlp2, eW, eO, eR1, eA, eT, hT, eE, ha7, hl7, hF7, ha60, hl60, hF60, hn7, hc7, hn60, hc60, c0, c1, ha]
/-! ### All, from outside -/
def bfF : Env := ⟨fun f ds => if f = 445 then allS ds else none, fun _ _ => none, fun _ _ => none⟩
theorem bfF_fn : bfF 445 = allS := by funext s; simp [bfF]
theorem all_spec {nm : Nat → Option Nat} (n1 : nm 173 = some 29) (n2 : nm 178 = some 56) (n3 : nm 454 = some 30) (hT : chkTab Tryd.prog nm bfT = true) (hc : chkFnWD Tryd.prog nm 12 byfloor_All_f 1 = true) (hmix : Tryd.prog.follows .mixedOrders = true) : Spec Tryd.prog 12 allS := by
  refine runWD_sound (nm := nm) (Γ := bfE) (fn := byfloor_All_f) (M := 2001) (n := 1) (env_ok hmix (bfX_ok n3) hT rfl 100 2) hmix hc allS fun ds rs h => ?_
  obtain ⟨l, rfl, h1, h2, rfl⟩ := allS_some h
  exact ⟨rfl, all_walk bfE bfE_pt 2001 (by omega) bfE_dir l h1 h2⟩
theorem bfF_ok {nm : Nat → Option Nat} {T : Tab} (hA : nm 445 = some 12) (hS : Spec Tryd.prog 12 allS) : XOk Tryd.prog nm T bfF where
  fn := fun f g hg _ => by
    by_cases hf : f = 445
    · subst hf
      rw [hA] at hg; simp only [Option.some.injEq] at hg; subst hg
      rw [bfF_fn]; exact hS
    · intro F w ds vs rs _ _ h
      simp [bfF, hf] at h
  pt := fun f g _ _ => by
    have : bfF.pt f = fun _ => none := rfl
    rw [this]; exact SpecP.none
  mono := fun f s rs ob R hR h => by simp [bfF] at h
theorem env_all {T : Tab} {V : List (Nat × Nat)} {M n : Nat} (h : get T 445 = none) : AllE (env T V bfF M n 445) := by
  have : env T V bfF M n 445 = allS := by
    rw [← bfF_fn]
    funext s
    cases n <;> simp [env, envFn, h]
  rw [this]; exact allS_E
end Go.Am
