/- Law 59: goals as a text. -/
import Derived.Test.YtdhlplgkpgbpjaaGtxCode
import Derived.Test.YtdhlplgkpgbpjaaGoalRef
set_option linter.unusedVariables false
set_option linter.unusedSimpArgs false
set_option maxRecDepth 10000
set_option maxHeartbeats 2000000
namespace Go.Am
open G
structure Gl.Ok (e : Gl) : Prop where
  o : InI64 e.o
  p : InI64 e.p
  m : InI64 e.m
theorem txt_le9 (n : Int) : (txt n).length ≤ 21 := by
  unfold txt; split
  · have := dig_len (-n); simp; omega
  · have := dig_len n; omega
theorem gwd_le (k : Int) : (gwd k).length ≤ 7 := by
  unfold gwd; (repeat' split) <;> simp
theorem gwd_ne (k : Int) : gwd k ≠ [] := by
  unfold gwd; (repeat' split) <;> simp
def gP (e : Gl) : List UInt8 := if 0 < e.p then txt e.p else gM
theorem gP_le (e : Gl) : (gP e).length ≤ 21 := by
  unfold gP; split
  · exact txt_le9 _
  · simp
def gT8 (e : Gl) : List UInt8 := if rightB e.o e.p e.m = true then (if e.o = 3 then gwd e.o ++ 32 :: (txt e.m ++ [10]) else gwd e.o ++ (32 :: gP e) ++ 32 :: (txt e.m ++ [10])) else []
def txtG : List Gl → List UInt8
  | [] => []
  | e :: r => gT8 e ++ txtG r
theorem txtG_snoc (e : Gl) : ∀ l, txtG (l ++ [e]) = txtG l ++ gT8 e
  | [] => by simp [txtG]
  | x :: l => by simp only [List.cons_append, txtG, txtG_snoc e l, List.append_assoc]
theorem gT8_le (e : Gl) : (gT8 e).length ≤ 80 := by
  have := gwd_le e.o
  have := gP_le e
  have := txt_le9 e.m
  unfold gT8
  split
  · split <;> simp only [List.length_append, List.length_cons, List.length_nil] <;> omega
  · simp
theorem txtG_le : ∀ l, (txtG l).length ≤ 80 * l.length
  | [] => by simp [txtG]
  | e :: r => by
    have := gT8_le e
    have := txtG_le r
    simp only [txtG, List.length_append, List.length_cons]; omega
abbrev gL (l : List Gl) : AV := .c (.vs 3 (l.map Gl.cells))
theorem kg0 (t : List UInt8) (os : List Nat) (h : kt_goal_Text_3 ∈ os) : keepF 0 1000 os (bOb t []) = bOb t [] := by
  simp only [kt_goal_Text_3] at h
  cases t <;> simp [bOb, h]
theorem kg5 (t : List UInt8) (o : Obj) (os : List Nat) (h : kt_goal_Text_3 ∈ os) (h5 : 5 ∉ os) : keepF 0 1000 os (bOb t [(5, o)]) = bOb t [] := by
  simp only [kt_goal_Text_3] at h
  cases t <;> simp [bOb, h, h5]
theorem kg6 (t : List UInt8) (o : Obj) (os : List Nat) (h : kt_goal_Text_3 ∈ os) (h5 : 5 ∈ os) : keepF 0 1000 os (bOb t [(5, o)]) = bOb t [(5, o)] := by
  simp only [kt_goal_Text_3] at h
  cases t <;> simp [bOb, h, h5]
theorem gg5 (t : List UInt8) (o : Obj) : get (bOb t [(5, o)]) 5 = some o := by
  cases t <;> simp [bOb]
theorem dg5 (t : List UInt8) : del (bOb t []) 5 = bOb t [] := by
  cases t <;> simp [bOb]
theorem nmg5 (t : List UInt8) : nmOb 5 (bOb t []) = true := by
  cases t with
  | nil => simp [bOb]
  | cons b r => simp [bOb, bRows]; rfl
def GTextC (g : List AV → Option (List AV)) : Prop := ∀ l : List Gl, l.length ≤ 60 → (∀ e ∈ l, e.Ok) → g [gL l] = some [st (txtG l)]
theorem goal_Text_run (Γ : Env) (M : Nat) (hM : 200 < M) (hW : WrK (Γ.pt 79)) (hW2 : WrC (Γ.pt 79)) (hS : StrC (Γ.pt 69)) (hS0 : StrC0 (Γ.pt 69)) (hO : Of (Γ 50)) (hR : RightC (Γ 98)) (hw : GWordC (Γ 143)) : GTextC (run Γ M goal_Text_f) := by
  intro l hl hok
  have k0 := fun t => kg0 t [kt_goal_Text_3] (by simp)
  have k1 := fun t => kg0 t [kt_goal_Text_3, 5] (by simp)
  have k5 := fun t o => kg5 t o [kt_goal_Text_3] (by simp) (by simp)
  have k6 := fun t o => kg6 t o [kt_goal_Text_3, 5] (by simp) (by simp)
  simp only [kt_goal_Text_3] at k0 k1 k5 k6
  obtain ⟨ax, s', ⟨rfl, rfl⟩, hin⟩ : ∃ ax s', (ax = .ex 0 ∧ s' = ⟨[(3, .loc kB 0 0)], bOb (txtG l) []⟩) ∧ ∀ t, nrmP [3, 7, 8, 9] 0 1000 [kt_goal_Text_3] t = ⟨[(3, .loc kB 0 0), (7, gL l), (8, i64 l.length), (9, i64 (0 : Nat))], bOb (txtG (l.take 0)) []⟩ → lp (exec Γ M goal_Text_l1) M t = some (ax, s') := by
    refine lp_allP (fun k : Nat => ⟨[(3, .loc kB 0 0), (7, gL l), (8, i64 l.length), (9, i64 k)], bOb (txtG (l.take k)) []⟩) (fun k => k ≤ l.length) (fun k => l.length - k) _ 0 M (by omega) (by omega) ?_
    intro k hk
    by_cases hlt : k < l.length
    · obtain ⟨⟨o, p, m⟩, he⟩ : ∃ t, l[k]'hlt = t := ⟨_, rfl⟩
      have heo := hok _ (List.getElem_mem hlt)
      rw [he] at heo
      have htk : txtG (l.take (k + 1)) = txtG (l.take k) ++ gT8 ⟨o, p, m⟩ := by rw [List.take_succ_eq_append_getElem hlt, he, txtG_snoc]
      have hle := txtG_le (l.take k)
      have hlk : (l.take k).length ≤ 60 := by simp; omega
      obtain ⟨T, hT⟩ : ∃ T, txtG (l.take k) = T := ⟨_, rfl⟩
      rw [hT] at hle htk ⊢
      have er := hR o p m
      cases hb : rightB o p m with
      | false =>
        have h9 : gT8 ⟨o, p, m⟩ = [] := by simp [gT8, hb]
        rw [h9, List.append_nil] at htk
        rw [hb] at er
        simp -implicitDefEqProofs (disch := first | omega | assumption) [hlt, he, er, k0, k1, dg5, nmg5]
        exact ⟨k + 1, ⟨by simp, by rw [htk]⟩, by omega, by omega⟩
      | true =>
        rw [hb] at er
        have ew := hw o
        have e1 := hO m heo.m
        have e2 := hO p heo.p
        have l1 := txt_le9 m
        have l2 := txt_le9 p
        have l4 := gwd_le o
        have l5 := gP_le ⟨o, p, m⟩
        have n4 := gwd_ne o
        have hr5 : RestOk [(5, (⟨3, [[i64 o, i64 p, i64 m]]⟩ : Obj))] := ⟨rfl, rfl, rfl, rfl⟩
        have w1 := fun gs h1 h2 h3 => hW gs [] T (gwd o) 5 ⟨3, [[i64 o, i64 p, i64 m]]⟩ ⟨h1, h2, h3⟩ ⟨rfl, rfl, rfl, rfl⟩ (by omega) (by rfl) (by rfl) (.inr n4) (by omega)
        have w2 := fun gs h1 h2 h3 => hW2 gs [(5, ⟨3, [[i64 o, i64 p, i64 m]]⟩)] (T ++ gwd o) (32 :: gP ⟨o, p, m⟩) ⟨h1, h2, h3⟩ hr5 (.inr (by simp)) (by simp only [List.length_append, List.length_cons]; omega)
        have w3 := fun gs h1 h2 h3 => hW2 gs [(5, ⟨3, [[i64 o, i64 p, i64 m]]⟩)] (T ++ gwd o ++ 32 :: gP ⟨o, p, m⟩) (32 :: (txt m ++ [10])) ⟨h1, h2, h3⟩ hr5 (.inr (by simp)) (by simp only [List.length_append, List.length_cons, List.length_nil]; omega)
        have w4 := fun gs h1 h2 h3 => hW2 gs [(5, ⟨3, [[i64 o, i64 p, i64 m]]⟩)] (T ++ gwd o) (32 :: (txt m ++ [10])) ⟨h1, h2, h3⟩ hr5 (.inr (by simp)) (by simp only [List.length_append, List.length_cons, List.length_nil]; omega)
        have h9 : gT8 ⟨o, p, m⟩ = if o = 3 then gwd o ++ 32 :: (txt m ++ [10]) else gwd o ++ (32 :: gP ⟨o, p, m⟩) ++ 32 :: (txt m ++ [10]) := by simp [gT8, hb]
        obtain ⟨T1, hT1⟩ : ∃ T1, T ++ gwd o = T1 := ⟨_, rfl⟩
        obtain ⟨T2, hT2⟩ : ∃ T2, T1 ++ 32 :: gP ⟨o, p, m⟩ = T2 := ⟨_, rfl⟩
        obtain ⟨T3, hT3⟩ : ∃ T3, T2 ++ 32 :: (txt m ++ [10]) = T3 := ⟨_, rfl⟩
        obtain ⟨T4, hT4⟩ : ∃ T4, T1 ++ 32 :: (txt m ++ [10]) = T4 := ⟨_, rfl⟩
        rw [hT1] at w1 w2 w3 w4
        rw [hT2] at w2 w3
        rw [hT3] at w3
        rw [hT4] at w4
        rw [h9] at htk
        simp only [kB, kt_goal_Text_3, kt_buf] at w1 w2 w3 w4
        by_cases h3 : o = 3
        · subst h3
          rw [if_pos rfl, ← List.append_assoc, hT1, hT4] at htk
          generalize txt m = X at *
          generalize gwd 3 = W at *
          simp -implicitDefEqProofs (disch := first | omega | ((try simp only [List.length_append, List.length_cons, List.length_nil, maxStr_eq]); omega) | (simp <;> fail) | assumption) [hlt, he, er, ew, e1, k0, k1, k5, k6, gg5, dg5, nmg5, binS_add, w1, w4]
          exact ⟨k + 1, ⟨by simp, by rw [htk]⟩, by omega, by omega⟩
        · rw [if_neg h3, ← List.append_assoc, ← List.append_assoc, hT1, hT2, hT3] at htk
          by_cases hp : 0 < p
          · have hgp : gP ⟨o, p, m⟩ = txt p := by simp [gP, hp]
            rw [hgp] at w2
            generalize txt m = X at *
            generalize txt p = Y at *
            generalize gwd o = W at *
            simp -implicitDefEqProofs (disch := first | omega | ((try simp only [List.length_append, List.length_cons, List.length_nil, maxStr_eq]); omega) | (simp <;> fail) | assumption) [hlt, he, er, ew, e1, e2, k0, k1, k5, k6, gg5, dg5, nmg5, h3, hp, binS_add, w1, w2, w3]
            exact ⟨k + 1, ⟨by simp, by rw [htk]⟩, by omega, by omega⟩
          · have hgp : gP ⟨o, p, m⟩ = gM := by simp [gP, hp]
            rw [hgp] at w2
            generalize txt m = X at *
            generalize gwd o = W at *
            simp -implicitDefEqProofs (disch := first | omega | ((try simp only [List.length_append, List.length_cons, List.length_nil, maxStr_eq]); omega) | (simp <;> fail) | assumption) [hlt, he, er, ew, e1, k0, k1, k5, k6, gg5, dg5, nmg5, h3, hp, binS_add, w1, w2, w3]
            exact ⟨k + 1, ⟨by simp, by rw [htk]⟩, by omega, by omega⟩
    · obtain rfl : k = l.length := by omega
      simp -implicitDefEqProofs (disch := first | omega | assumption) [k0]
  have hlp := hin ⟨[(3, .loc kB 0 0), (7, gL l), (8, i64 l.length), (9, i64 (0 : Nat))], bOb (txtG (l.take 0)) []⟩ (by simp [k0])
  have t0 : txtG (l.take 0) = [] := by simp [txtG]
  have b0 : bOb [] [] = [(kt_goal_Text_3, ⟨2, [[.ot .np, .nil 1]]⟩)] := rfl
  rw [t0, b0] at hlp
  simp at hlp
  have hle := txtG_le l
  by_cases ht : txtG l = []
  · have h0 := fun gs h1 => hS0 gs [] h1
    rw [ht] at hlp ⊢
    simp only [bOb, kB, kt_goal_Text_3] at h0 hlp
    simp -implicitDefEqProofs (disch := first | omega | (simp <;> fail) | assumption) [hlp, h0]
  · have h0 := fun gs h1 h2 h3 => hS gs [] (txtG l) ⟨h1, h2, h3⟩ ⟨rfl, rfl, rfl, rfl⟩ ht (by omega)
    simp only [kB, kt_goal_Text_3, kt_buf] at h0 hlp
    simp -implicitDefEqProofs (disch := first | omega | (simp <;> fail) | assumption) [hlp, h0, k0]
end Go.Am
