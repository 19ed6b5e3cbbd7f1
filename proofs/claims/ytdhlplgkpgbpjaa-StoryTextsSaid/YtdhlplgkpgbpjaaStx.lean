/- Law 66: events as lines. -/
import Derived.Test.YtdhlplgkpgbpjaaStxCode
import Derived.Test.YtdhlplgkpgbpjaaStory
set_option linter.unusedVariables false
set_option linter.unusedSimpArgs false
set_option maxRecDepth 10000
set_option maxHeartbeats 2000000
namespace Go.Am
open S
structure Ev.Ok (e : Ev) : Prop where
  tk : InI64 e.tk
  kd : InI64 e.kd
  car : InI64 e.car
  id : InI64 e.id
theorem txt_le (n : Int) : (txt n).length ≤ 21 := by
  unfold txt; split
  · have := dig_len (-n); simp; omega
  · have := dig_len n; omega
theorem wd_le (k : Int) : (wd k).length ≤ 6 := by
  unfold wd; (repeat' split) <;> simp
def evT (e : Ev) : List UInt8 := if wd e.kd = [] then [] else txt e.tk ++ [32] ++ wd e.kd ++ [32] ++ txt e.car ++ [32] ++ txt e.id ++ [10]
def txtE : List Ev → List UInt8
  | [] => []
  | e :: r => evT e ++ txtE r
theorem txtE_snoc (e : Ev) : ∀ l, txtE (l ++ [e]) = txtE l ++ evT e
  | [] => by simp [txtE]
  | x :: l => by simp only [List.cons_append, txtE, txtE_snoc e l, List.append_assoc]
theorem evT_le (e : Ev) : (evT e).length ≤ 80 := by
  unfold evT
  split
  · simp
  · have := txt_le e.tk
    have := txt_le e.car
    have := txt_le e.id
    have := wd_le e.kd
    simp only [List.length_append, List.length_cons, List.length_nil]; omega
theorem txtE_le : ∀ l, (txtE l).length ≤ 80 * l.length
  | [] => by simp [txtE]
  | e :: r => by
    have := evT_le e
    have := txtE_le r
    simp only [txtE, List.length_append, List.length_cons]; omega
abbrev eL (l : List Ev) : AV := .c (.vs 4 (l.map Ev.cells))
theorem kf0 (t : List UInt8) (os : List Nat) (h : kt_story_Text_3 ∈ os) : keepF 0 1000 os (bOb t []) = bOb t [] := by
  simp only [kt_story_Text_3] at h
  cases t <;> simp [bOb, h]
theorem kf5 (t : List UInt8) (o : Obj) (os : List Nat) (h : kt_story_Text_3 ∈ os) (h5 : 5 ∉ os) : keepF 0 1000 os (bOb t [(5, o)]) = bOb t [] := by
  simp only [kt_story_Text_3] at h
  cases t <;> simp [bOb, h, h5]
theorem d5 (t : List UInt8) : del (bOb t []) 5 = bOb t [] := by
  cases t <;> simp [bOb]
theorem nm5 (t : List UInt8) : nmOb 5 (bOb t []) = true := by
  cases t with
  | nil => simp [bOb]
  | cons b r => simp [bOb, bRows]; rfl
def STextC (g : List AV → Option (List AV)) : Prop := ∀ l : List Ev, l.length ≤ 100 → (∀ e ∈ l, e.Ok) → g [eL l] = some [st (txtE l)]
theorem story_Text_run (Γ : Env) (M : Nat) (hM : 200 < M) (hW : WrK (Γ.pt 79)) (hS : StrC (Γ.pt 69)) (hS0 : StrC0 (Γ.pt 69)) (hO : Of (Γ 50)) (hw : WordC (Γ 148)) : STextC (run Γ M story_Text_f) := by
  intro l hl hok
  have k0 := fun t => kf0 t [kt_story_Text_3] (by simp)
  have k1 := fun t => kf0 t [kt_story_Text_3, 5] (by simp)
  have k5 := fun t o => kf5 t o [kt_story_Text_3] (by simp) (by simp)
  have z0 := fun t => kf0 t [] 
  simp only [kt_story_Text_3] at k0 k1 k5
  obtain ⟨ax, s', ⟨rfl, rfl⟩, hin⟩ : ∃ ax s', (ax = .ex 0 ∧ s' = ⟨[(3, .loc kB 0 0)], bOb (txtE l) []⟩) ∧ ∀ t, nrmP [3, 6, 7, 8] 0 1000 [kt_story_Text_3] t = ⟨[(3, .loc kB 0 0), (6, eL l), (7, i64 l.length), (8, i64 (0 : Nat))], bOb (txtE (l.take 0)) []⟩ → lp (exec Γ M story_Text_l1) M t = some (ax, s') := by
    refine lp_allP (fun k : Nat => ⟨[(3, .loc kB 0 0), (6, eL l), (7, i64 l.length), (8, i64 k)], bOb (txtE (l.take k)) []⟩) (fun k => k ≤ l.length) (fun k => l.length - k) _ 0 M (by omega) (by omega) ?_
    intro k hk
    by_cases hlt : k < l.length
    · obtain ⟨e, he⟩ : ∃ t, l[k]'hlt = t := ⟨_, rfl⟩
      have heo := hok e (he ▸ List.getElem_mem hlt)
      have htk : txtE (l.take (k + 1)) = txtE (l.take k) ++ evT e := by rw [List.take_succ_eq_append_getElem hlt, he, txtE_snoc]
      have hle := txtE_le (l.take k)
      have hlk : (l.take k).length ≤ 100 := by simp; omega
      obtain ⟨T, hT⟩ : ∃ T, txtE (l.take k) = T := ⟨_, rfl⟩
      rw [hT] at hle htk ⊢
      have ew := hw e.kd
      by_cases h0 : wd e.kd = []
      · have h9 : evT e = [] := by unfold evT; rw [if_pos h0]
        rw [h9, List.append_nil] at htk
        rw [h0] at ew
        simp -implicitDefEqProofs (disch := first | omega | assumption) [hlt, he, ew, k0, k1, d5, nm5]
        exact ⟨k + 1, ⟨by simp, by rw [htk]⟩, by omega, by omega⟩
      · have h9 : evT e = txt e.tk ++ [32] ++ wd e.kd ++ [32] ++ txt e.car ++ [32] ++ txt e.id ++ [10] := by unfold evT; rw [if_neg h0]
        have hel := evT_le e
        have e1 := hO e.tk heo.tk
        have e2 := hO e.car heo.car
        have e3 := hO e.id heo.id
        have l1 := txt_le e.tk
        have l2 := txt_le e.car
        have l3 := txt_le e.id
        have l4 := wd_le e.kd
        have hwr := fun gs h1 h2 h3 => hW gs [] T (evT e) 5 ⟨4, [[i64 e.tk, i64 e.kd, i64 e.car, i64 e.id]]⟩ ⟨h1, h2, h3⟩ ⟨rfl, rfl, rfl, rfl⟩ (by omega) (by rfl) (by rfl) (.inr (by rw [h9]; simp)) (by omega)
        rw [h9] at hwr htk hel
        have hd := decide_eq_false h0
        generalize txt e.tk = X at *
        generalize txt e.car = Y at *
        generalize txt e.id = Z at *
        generalize wd e.kd = W at *
        simp only [List.append_assoc, List.singleton_append, List.cons_append, List.nil_append, kB, kt_story_Text_3, kt_buf] at hwr
        simp -implicitDefEqProofs (disch := first | omega | ((try simp only [List.length_append, List.length_cons, List.length_nil, maxStr_eq]); omega) | (simp <;> fail) | assumption) [hlt, he, ew, e1, e2, e3, k0, k1, k5, d5, nm5, h0, hd, binS_add, hwr]
        exact ⟨k + 1, ⟨by simp, by rw [htk]; simp⟩, by omega, by omega⟩
    · obtain rfl : k = l.length := by omega
      simp -implicitDefEqProofs (disch := first | omega | assumption) [k0]
  have hlp := hin ⟨[(3, .loc kB 0 0), (6, eL l), (7, i64 l.length), (8, i64 (0 : Nat))], bOb (txtE (l.take 0)) []⟩ (by simp [k0])
  have t0 : txtE (l.take 0) = [] := by simp [txtE]
  have b0 : bOb [] [] = [(kt_story_Text_3, ⟨2, [[.ot .np, .nil 1]]⟩)] := rfl
  rw [t0, b0] at hlp
  simp at hlp
  have hle := txtE_le l
  by_cases ht : txtE l = []
  · have h0 := fun gs h1 => hS0 gs [] h1
    rw [ht] at hlp ⊢
    simp only [bOb, kB, kt_story_Text_3] at h0 hlp
    simp -implicitDefEqProofs (disch := first | omega | (simp <;> fail) | assumption) [hlp, h0]
  · have h0 := fun gs h1 h2 h3 => hS gs [] (txtE l) ⟨h1, h2, h3⟩ ⟨rfl, rfl, rfl, rfl⟩ ht (by omega)
    simp only [kB, kt_story_Text_3, kt_buf] at h0 hlp
    simp -implicitDefEqProofs (disch := first | omega | (simp <;> fail) | assumption) [hlp, h0, k0]
end Go.Am
