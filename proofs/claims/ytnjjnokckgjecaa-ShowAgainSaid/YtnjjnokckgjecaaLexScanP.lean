/- Law 26: the scanner, handed with its memory (printed by pvar.py from XLexScan.lean). -/
import Derived.Test.YtnjjnokckgjecaaParseCode
import Derived.Test.YtnjjnokckgjecaaLexScan
set_option linter.unusedVariables false
set_option linter.unusedSimpArgs false
set_option maxRecDepth 10000
set_option maxHeartbeats 1000000
namespace Go.Am.Pv
def SkipC (g : St → Option (List AV × List (Nat × Obj))) : Prop := ∀ gs ob s (a l c n : Int) o, Gh gs → get ob 365009 = some (scn s a l c o) → 0 ≤ a → a ≤ 70000 → 0 ≤ c → c ≤ 70000 → 0 ≤ n → n ≤ 70000 →
  g ⟨(0, .loc 365009 0 0) :: (1, i64 n) :: gs, ob⟩ = some ([], (365009, scn s (a + n) l (c + n) o) :: del ob 365009)
theorem lexer_scanner_skip_run (Γ : Env) (M : Nat) : SkipC (runP Γ M lexer_scanner_skip_f) := by
  intro gs ob s a l c n o hg h h1 h2 h3 h4 h5 h6
  simp -implicitDefEqProofs (disch := first | omega | assumption) [h, hg, scn]
def RunC (Γ : Env) (g : St → Option (List AV × List (Nat × Obj))) : Prop := ∀ gs ob s (a : Nat) (l c : Int) o is (p : UInt8 → Bool), Gh gs → get ob 365009 = some (scn s a l c o) → s.length ≤ 65536 → a ≤ s.length → (∀ b : UInt8, Γ.fv is [.c (.int .u8 b.toNat)] = some [bo (p b)]) →
  g ⟨(0, .loc 365009 0 0) :: (1, .ot (.fn is)) :: gs, ob⟩ = some ([st ((s.drop a).takeWhile p)], ob)
theorem lexer_scanner_run_run (Γ : Env) (M : Nat) (hM : 65540 < M) : RunC Γ (runP Γ M lexer_scanner_run_f) := by
  intro gs ob s a l c o is p hg h hs ha hp
  have hle := twl_le p s a ha
  obtain ⟨e0, he0⟩ : ∃ e, a + twl p s a = e := ⟨_, rfl⟩
  have hlt0 : ∀ k (h : k < s.length), a ≤ k → k < e0 → p s[k] = true := fun k h h1 h2 => twl_lt h1 (by omega) h
  have hend : ∀ (h : e0 < s.length), p s[e0] = false := by subst he0; exact fun h => twl_end h
  obtain ⟨ax, s', ⟨rfl, rfl⟩, hin⟩ : ∃ ax s', (ax = .ex 0 ∧ s' = ⟨(0, .loc 365009 0 0) :: (5, i64 e0) :: gs, ob⟩) ∧ ∀ t, nrmP [0, 1, 5] 0 0 [] t = ⟨(0, .loc 365009 0 0) :: (1, .ot (.fn is)) :: (5, i64 a) :: gs, ob⟩ → lp (exec Γ M lexer_scanner_run_l1) M t = some (ax, s') := by
    refine lp_allP (fun k : Nat => ⟨(0, .loc 365009 0 0) :: (1, .ot (.fn is)) :: (5, i64 k) :: gs, ob⟩) (fun k => a ≤ k ∧ k ≤ e0) (fun k => s.length - k) _ a M ⟨Nat.le_refl _, by omega⟩ (by omega) ?_
    rintro k ⟨hk1, hk2⟩
    by_cases hk : k < e0
    · have hlt : k < s.length := by omega
      have hpk := hlt0 k hlt hk1 hk
      have e := hp s[k]
      simp -implicitDefEqProofs (disch := first | omega | assumption) [h, hg, scn, hlt, e, hpk]
      exact ⟨k + 1, by omega, by omega, by omega⟩
    · obtain rfl : k = e0 := by omega
      by_cases hlt : k < s.length
      · have hpk := hend hlt
        have e := hp s[k]
        simp -implicitDefEqProofs (disch := first | omega | assumption) [h, hg, scn, hlt, e, hpk]
      · simp -implicitDefEqProofs (disch := first | omega | assumption) [h, hg, scn, hlt]
  have htk : (s.drop a).take (e0 - a) = (s.drop a).takeWhile p := by
    have := List.takeWhile_prefix p (l := s.drop a)
    rw [show e0 - a = twl p s a by omega]
    exact (List.prefix_iff_eq_take.1 this).symm
  have hq1 : a ≤ e0 := by omega
  have hq2 : e0 ≤ s.length := by omega
  simp -implicitDefEqProofs (disch := first | omega | (simp [hg] <;> fail) | assumption) [h, hg, scn, hin, htk, hq1, hq2]
def lexOb (s : List UInt8) (a l c : Int) : List Tk → List (Nat × Obj)
  | [] => [(365009, scn s a l c (.nil 5)), (365003, ⟨3, [[i64 0, i64 0, i64 0]]⟩), (3, ⟨3, [[i64 0, i64 0, i64 0]]⟩), (2, ⟨13, [[i64 0, i64 0, i64 0, i64 0, i64 0, i64 0, i64 0, i64 0, .nil 3, i64 0, i64 0, i64 0, i64 0]]⟩)]
  | t :: r => [(365009, scn s a l c (.sl 1000212 (r.length + 1) 0 (r.length + 1))), (1000212, ⟨5, (t :: r).map (toAV ∘ Tk.cells)⟩), (365003, ⟨3, [[i64 0, i64 0, i64 0]]⟩), (3, ⟨3, [[i64 0, i64 0, i64 0]]⟩), (2, ⟨13, [[i64 0, i64 0, i64 0, i64 0, i64 0, i64 0, i64 0, i64 0, .nil 3, i64 0, i64 0, i64 0, i64 0]]⟩)]
def NumC (g : St → Option (List AV × List (Nat × Obj))) : Prop := ∀ gs s (a l c : Int) ts w, Gh gs → nmFr 213004 gs = true → w.length ≤ 65536 → w ≠ [] → (∀ d ∈ w, 48 ≤ d.toNat ∧ d.toNat ≤ 57) →
  g ⟨(0, .loc 365009 0 0) :: (1, st w) :: gs, lexOb s a l c ts⟩ = some (if numBad w then [.agg tkZero, i64 191] else [.agg (Tk.cells ⟨2, w, numG w 0, l, c⟩), i64 0], lexOb s a l c ts)
theorem lexer_scanner_number_run (Γ : Env) (M : Nat) (hM : 65540 < M) : NumC (runP Γ M lexer_scanner_number_f) := by
  intro gs s a l c ts w hg hnm hw hne hd
  obtain ⟨w0, wr, rfl⟩ : ∃ x y, w = x :: y := by cases w with | nil => exact (hne rfl).elim | cons x y => exact ⟨x, y, rfl⟩
  obtain ⟨W, hW⟩ : ∃ W, w0 :: wr = W := ⟨_, rfl⟩
  rw [hW] at hw hd ⊢
  have hlen : 0 < W.length := by rw [← hW]; simp
  have h0 : W[0]'hlen = w0 := by subst hW; rfl
  have hhd : W.head? = some w0 := by subst hW; rfl
  -- the rest of a text
  have hstep : ∀ k (h : k < W.length) n, numG (W.drop k) n = if 1073741824 < n then n else numG (W.drop (k + 1)) (10 * n + ((W[k]'h).toNat - 48)) := fun k h n => by
    rw [List.drop_eq_getElem_cons h]; rfl
  obtain ⟨ob, hob⟩ : ∃ ob, lexOb s a l c ts = ob := ⟨_, rfl⟩
  have hkf : Kf 213000 214000 ob := by
    subst hob; cases ts <;> simp [lexOb]
  have hg9 : ∃ o, get ob 365009 = some (scn s a l c o) := by
    subst hob; cases ts <;> exact ⟨_, rfl⟩
  obtain ⟨o, hg9⟩ := hg9
  have hdel : del ob 213004 = ob := by
    subst hob; cases ts <;> simp [lexOb]
  have hnmo : nmOb 213004 ob = true := by
    subst hob; cases ts <;> simp [lexOb, scn]
  rw [hob]
  obtain ⟨Z, hZ⟩ : ∃ Z : Obj, (⟨5, [toAV tkZero]⟩ : Obj) = Z := ⟨_, rfl⟩
  obtain ⟨ax, s', hR, hin⟩ : ∃ ax s', (if 1073741824 < numG W 0 then (ax = .ret ∧ s' = ⟨(4, .loc 213004 0 0) :: (5, i64 191) :: gs, (213004, Z) :: ob⟩) else (ax = .ex 0 ∧ s' = ⟨(0, .loc 365009 0 0) :: (1, st W) :: (4, .loc 213004 0 0) :: (6, i64 (numG W 0)) :: gs, (213004, Z) :: ob⟩)) ∧
      ∀ t, nrmP [0, 1, 4, 6, 9, 10] 213000 214000 [213004] t = ⟨(0, .loc 365009 0 0) :: (1, st W) :: (4, .loc 213004 0 0) :: (6, i64 0) :: (9, i64 W.length) :: (10, i64 (0 : Nat)) :: gs, (213004, Z) :: ob⟩ → lp (exec Γ M lexer_scanner_number_l1) M t = some (ax, s') := by
    refine lp_allP (fun q : Nat × Int => ⟨(0, .loc 365009 0 0) :: (1, st W) :: (4, .loc 213004 0 0) :: (6, i64 q.2) :: (9, i64 W.length) :: (10, i64 q.1) :: gs, (213004, Z) :: ob⟩) (fun q => q.1 ≤ W.length ∧ 0 ≤ q.2 ∧ q.2 ≤ 1073741824 ∧ numG W 0 = numG (W.drop q.1) q.2) (fun q => W.length - q.1) _ (0, 0) M ⟨by omega, by omega, by omega, rfl⟩ (by simp only; omega) ?_
    rintro ⟨k, n⟩ ⟨hk, hn1, hn2, hnum⟩
    simp only at hk hn1 hn2 hnum ⊢
    by_cases hlt : k < W.length
    · have hdk := hd W[k] (List.getElem_mem hlt)
      have hs := hstep k hlt n
      rw [if_neg (by omega)] at hs
      obtain ⟨d, hdd⟩ : ∃ d, W[k]'hlt = d := ⟨_, rfl⟩
      rw [hdd] at hdk hs
      by_cases hb : 1073741824 < 10 * n + ((d.toNat : Int) - 48)
      · have hbig : 1073741824 < numG W 0 := by rw [hnum, hs, numG_stop _ hb]; exact hb
        have hb2 : 1073741824 < n * 10 + ((d.toNat : Int) - 48) := by omega
        subst hZ
        simp -implicitDefEqProofs (disch := first | omega | assumption) [hg9, hg, scn, hlt, hdd, hb2, hdel, hkf, hnmo, hbig]
      · have hb2 : ¬ 1073741824 < n * 10 + ((d.toNat : Int) - 48) := by omega
        simp -implicitDefEqProofs (disch := first | omega | assumption) [hg9, hg, scn, hlt, hdd, hb2, hdel, hkf, hnmo]
        refine ⟨k + 1, n * 10 + ((d.toNat : Int) - 48), ⟨rfl, rfl⟩, ⟨by omega, by omega, by omega, ?_⟩, by omega⟩
        rw [hnum, hs]; congr 1; omega
    · obtain rfl : k = W.length := by omega
      have hnn : numG W 0 = n := by rw [hnum]; simp [numG]
      have hns : ¬ 1073741824 < n := by omega
      simp -implicitDefEqProofs (disch := first | omega | assumption) [hg9, hg, scn, hdel, hkf, hnmo, hnn, hns]
  by_cases hbig : 1073741824 < numG W 0
  · rw [if_pos hbig] at hR
    obtain ⟨rfl, rfl⟩ := hR
    have hbad : numBad W := .inl hbig
    subst hZ
    simp -implicitDefEqProofs (disch := first | omega | (simp [hg, hkf] <;> fail) | assumption) [hg9, hg, scn, hin, hbad, hnm, hnmo, hdel, hkf]
  · rw [if_neg hbig] at hR
    obtain ⟨rfl, rfl⟩ := hR
    have hbd := numG_bound W 0 hd (by omega) (by omega)
    subst hZ
    by_cases h1 : 1 < W.length
    · by_cases h48 : w0 = 48
      · subst h48
        have hbad : numBad W := .inr ⟨h1, hhd⟩
        simp -implicitDefEqProofs (disch := first | omega | (simp [hg, hkf] <;> fail) | assumption) [hg9, hg, scn, hin, hbad, hnm, hnmo, hdel, hkf, h1, hlen, h0]
      · have hbad : ¬ numBad W := by
          rintro (h | ⟨_, h⟩)
          · exact hbig h
          · rw [hhd] at h; simp at h; exact h48 h
        have h48' : ¬ ((w0.toNat : Int) = 48) := by
          intro h; apply h48; have : w0.toNat = 48 := by omega
          exact UInt8.toNat_inj.1 (by simpa using this)
        simp -implicitDefEqProofs (disch := first | omega | (simp [hg, hkf] <;> fail) | assumption) [hg9, hg, scn, hin, hbad, hnm, hnmo, hdel, hkf, h1, hlen, h0, h48']
    · have hbad : ¬ numBad W := by
        rintro (h | ⟨h, _⟩)
        · exact hbig h
        · exact h1 h
      simp -implicitDefEqProofs (disch := first | omega | (simp [hg, hkf] <;> fail) | assumption) [hg9, hg, scn, hin, hbad, hnm, hnmo, hdel, hkf, h1, hlen, h0]
def nxRes (s : List UInt8) (a : Nat) (l c : Int) (ts : List Tk) : Nx → Option (List AV × List (Nat × Obj))
  | .err e => some ([i64 e], lexOb s a l c ts)
  | .go t a' l' c' => some ([i64 0], lexOb s a' l' c' (ts ++ t))
def NextC (g : St → Option (List AV × List (Nat × Obj))) : Prop := ∀ gs s (a : Nat) (l c : Int) ts, Gh gs → nmFr 213004 gs = true → nmFr 66006 gs = true → nmFr 1000212 gs = true → lcFr 1000212 gs = true → s.length ≤ 65536 → a < s.length → 1 ≤ l → l ≤ 65537 → 1 ≤ c → c ≤ 65537 → ts.length ≤ a →
  g ⟨(0, .loc 365009 0 0) :: gs, lexOb s a l c ts⟩ = nxRes s a l c ts (nx s a l c)
theorem lex9 (s : List UInt8) (a l c : Int) (ts : List Tk) : ∃ o, get (lexOb s a l c ts) 365009 = some (scn s a l c o) := by
  cases ts <;> exact ⟨_, rfl⟩
theorem lexer_scanner_next_run (Γ Γ' : Env) (M : Nat) (hB : BlaC (Γ 33)) (hL : LetC (Γ 31)) (hD : DigC (Γ 32)) (hfL : LetC (Γ'.fv fv_lexer_Letter)) (hfD : DigC (Γ'.fv fv_lexer_Digit)) (hfN : NlC (Γ'.fv fv_lexer_scanner_next_1)) (hrun : RunC Γ' (Γ.pt 78)) (hskip : SkipC (Γ.pt 77)) (hnum : NumC (Γ.pt 213)) : NextC (runP Γ M lexer_scanner_next_f) := by
  intro gs s a l c ts hg hn1 hn3 hn2 hl2 hs ha hl hlm hc hcm hts
  obtain ⟨b, hb⟩ : ∃ b, s[a]'ha = b := ⟨_, rfl⟩
  have hb? : s[a]? = some b := by rw [List.getElem?_eq_getElem ha, hb]
  have hb255 : b.toNat ≤ 255 := by have := b.toNat_lt; omega
  have eB := hB b.toNat (by omega) (by omega)
  have eL := hL b.toNat (by omega) (by omega)
  have eD := hD b.toNat (by omega) (by omega)
  have hpL : ∀ b : UInt8, Γ'.fv fv_lexer_Letter [.c (.int .u8 b.toNat)] = some [bo (isLt b)] := fun b => hfL b.toNat (by omega) (by have := b.toNat_lt; omega)
  have hpD : ∀ b : UInt8, Γ'.fv fv_lexer_Digit [.c (.int .u8 b.toNat)] = some [bo (isDg b)] := fun b => hfD b.toNat (by omega) (by have := b.toNat_lt; omega)
  have hpN : ∀ b : UInt8, Γ'.fv fv_lexer_scanner_next_1 [.c (.int .u8 b.toNat)] = some [bo (noNl b)] := fun b => hfN b.toNat (by omega) (by have := b.toNat_lt; omega)
  have hrL := fun gs ob o h1 h2 => hrun gs ob s a l c o fv_lexer_Letter isLt h1 h2 hs (by omega) hpL
  have hrD := fun gs ob o h1 h2 => hrun gs ob s a l c o fv_lexer_Digit isDg h1 h2 hs (by omega) hpD
  have hrN := fun gs ob o h1 h2 => hrun gs ob s a l c o fv_lexer_scanner_next_1 noNl h1 h2 hs (by omega) hpN
  obtain ⟨o9, h9⟩ := lex9 s a l c ts
  have lenL := twl_le isLt s a (by omega)
  have lenD := twl_le isDg s a (by omega)
  have lenN := twl_le noNl s a (by omega)
  have etL : twl isLt s a = (tw isLt s a).length := rfl
  have etD : twl isDg s a = (tw isDg s a).length := rfl
  have etN : twl noNl s a = (tw noNl s a).length := rfl
  have wL : List.takeWhile isLt (List.drop a s) = tw isLt s a := rfl
  have wD : List.takeWhile isDg (List.drop a s) = tw isDg s a := rfl
  have wN : List.takeWhile noNl (List.drop a s) = tw noNl s a := rfl
  rw [wL] at hrL; rw [wD] at hrD; rw [wN] at hrN
  rw [etL] at lenL; rw [etD] at lenD; rw [etN] at lenN
  have hke : ∀ (a l c : Int) (ts : List Tk) (os : List Nat), keepF 66000 67000 os (lexOb s a l c ts) = lexOb s a l c ts := by
    intro a l c ts os; cases ts <;> simp [lexOb]
  -- the scanner's object, turned
  have turn : ∀ (a' : Nat) (c' : Int), (365009, scn s a' l c' o9) :: del (lexOb s a l c ts) 365009 = lexOb s a' l c' ts := by
    intro a' c'
    cases ts <;> simp [lexOb, scn] at h9 ⊢ <;> exact h9.symm
  simp only [nx, hb?]
  by_cases h1 : isBl b = true
  · rw [if_pos h1]
    have eB' : Γ 33 [.c (.int .u8 b.toNat)] = some [bo true] := by rw [eB]; exact congrArg (fun x => some [bo x]) h1
    have hsk := fun gs h => hskip gs (lexOb s a l c ts) s a l c 1 o9 h h9 (by omega) (by omega) (by omega) (by omega) (by omega) (by omega)
    have e1 := turn (a + 1) (c + 1)
    simp only [Int.natCast_add, Int.natCast_one] at e1
    simp only [e1] at hsk
    simp -implicitDefEqProofs (disch := first | omega | (simp [hg] <;> fail) | assumption) [h9, scn, hg, ha, hb, eB', hke, hsk, nxRes]
  · rw [if_neg h1]
    have h1 : isBl b = false := by simpa using h1
    have eB' : Γ 33 [.c (.int .u8 b.toNat)] = some [bo false] := by rw [eB]; exact congrArg (fun x => some [bo x]) h1
    by_cases h2 : (b.toNat : Int) = 35
    · rw [if_pos h2]
      have hsk := fun gs h => hskip gs (lexOb s a l c ts) s a l c (tw noNl s a).length o9 h h9 (by omega) (by omega) (by omega) (by omega) (by omega) (by omega)
      have e1 := turn (a + (tw noNl s a).length) (c + (tw noNl s a).length)
      simp only [Int.natCast_add] at e1
      simp only [e1] at hsk
      have d2 := decide_eq_true h2
      simp -implicitDefEqProofs (disch := first | omega | (simp [hg] <;> fail) | assumption) [h9, scn, hg, ha, hb, eB', hke, hsk, nxRes, d2, hrN]
    · rw [if_neg h2]
      by_cases h3 : (b.toNat : Int) = 10
      · rw [if_pos h3]
        have d2 := decide_eq_false h2
        have d3 := decide_eq_true h3
        cases ts with
        | nil =>
          simp -implicitDefEqProofs (disch := first | omega | (simp [hg] <;> fail) | assumption) [lexOb, scn, hg, ha, hb, eB', d2, d3, nxRes, hn1, hn2, hl2]
        | cons t0 r =>
          have hr : r.length + 1 ≤ a := by simpa using hts
          simp -implicitDefEqProofs (disch := first | omega | (simp [hg] <;> fail) | assumption) [lexOb, scn, hg, ha, hb, eB', d2, d3, nxRes, hn1, hn2, hl2]
      · rw [if_neg h3]
        have d2 := decide_eq_false h2
        have d3 := decide_eq_false h3
        by_cases h4 : isLt b = true
        · rw [if_pos h4]
          have eL' : Γ 31 [.c (.int .u8 b.toNat)] = some [bo true] := by rw [eL]; exact congrArg (fun x => some [bo x]) h4
          obtain ⟨W, hW⟩ : ∃ W, tw isLt s a = W := ⟨_, rfl⟩
          simp only [hW] at hrL lenL ⊢
          cases ts with
          | nil =>
            have hsk := fun gs h => hskip gs (lexOb s a l c [⟨1, W, 0, l, c⟩]) s a l c W.length _ h rfl (by omega) (by omega) (by omega) (by omega) (by omega) (by omega)
            have hr := fun gs h => hrL gs (lexOb s a l c []) _ h rfl
            simp [lexOb, scn] at hsk hr
            simp -implicitDefEqProofs (disch := first | omega | (simp [hg] <;> fail) | assumption) [lexOb, scn, hg, ha, hb, eB', d2, d3, nxRes, hn1, hn2, hl2, eL', hr, hsk]
          | cons t0 r =>
            have hrl : r.length + 1 ≤ a := by simpa using hts
            have hsk := fun gs h => hskip gs (lexOb s a l c (t0 :: (r ++ [⟨1, W, 0, l, c⟩]))) s a l c W.length _ h rfl (by omega) (by omega) (by omega) (by omega) (by omega) (by omega)
            have hr := fun gs h => hrL gs (lexOb s a l c (t0 :: r)) _ h rfl
            simp [lexOb, scn] at hsk hr
            simp -implicitDefEqProofs (disch := first | omega | (simp [hg] <;> fail) | assumption) [lexOb, scn, hg, ha, hb, eB', d2, d3, nxRes, hn1, hn2, hl2, eL', hr, hsk]
        · rw [if_neg h4]
          have h4 : isLt b = false := by simpa using h4
          have eL' : Γ 31 [.c (.int .u8 b.toNat)] = some [bo false] := by rw [eL]; exact congrArg (fun x => some [bo x]) h4
          by_cases h5 : isDg b = true
          · rw [if_pos h5]
            have eD' : Γ 32 [.c (.int .u8 b.toNat)] = some [bo true] := by rw [eD]; exact congrArg (fun x => some [bo x]) h5
            obtain ⟨W, hW⟩ : ∃ W, tw isDg s a = W := ⟨_, rfl⟩
            have hdg : ∀ d ∈ W, 48 ≤ d.toNat ∧ d.toNat ≤ 57 := by
              intro d hd
              rw [← hW] at hd
              have := mem_tw hd
              simp only [isDg, Bool.and_eq_true, decide_eq_true_eq] at this
              omega
            have hne : W ≠ [] := by
              rw [← hW]; unfold tw
              rw [List.drop_eq_getElem_cons ha, List.takeWhile_cons, hb, h5]; simp
            simp only [hW] at hrD lenD ⊢
            have hbd := numG_bound W 0 hdg (by omega) (by omega)
            have hnm := fun gs h h2 => hnum gs s a l c ts W h h2 (by omega) hne hdg
            by_cases hbad : numBad W
            · rw [if_pos hbad]
              simp only [if_pos hbad] at hnm
              cases ts with
              | nil =>
                have hr := fun gs h => hrD gs (lexOb s a l c []) _ h rfl
                simp [lexOb, scn] at hr hnm
                simp -implicitDefEqProofs (disch := first | omega | (simp [hg, hn1] <;> fail) | assumption) [lexOb, scn, hg, ha, hb, eB', d2, d3, nxRes, hn1, hn2, hn3, hl2, eL', eD', hr, hnm]
              | cons t0 r =>
                have hr := fun gs h => hrD gs (lexOb s a l c (t0 :: r)) _ h rfl
                simp [lexOb, scn] at hr hnm
                simp -implicitDefEqProofs (disch := first | omega | (simp [hg, hn1] <;> fail) | assumption) [lexOb, scn, hg, ha, hb, eB', d2, d3, nxRes, hn1, hn2, hn3, hl2, eL', eD', hr, hnm]
            · rw [if_neg hbad]
              simp only [if_neg hbad] at hnm
              cases ts with
              | nil =>
                have hsk := fun gs h => hskip gs (lexOb s a l c [⟨2, W, numG W 0, l, c⟩]) s a l c W.length _ h rfl (by omega) (by omega) (by omega) (by omega) (by omega) (by omega)
                have hr := fun gs h => hrD gs (lexOb s a l c []) _ h rfl
                simp [lexOb, scn] at hsk hr hnm
                simp -implicitDefEqProofs (disch := first | omega | (simp [hg, hn1] <;> fail) | assumption) [lexOb, scn, hg, ha, hb, eB', d2, d3, nxRes, hn1, hn2, hl2, hn3, eL', eD', hr, hsk, hnm]
              | cons t0 r =>
                have hrl : r.length + 1 ≤ a := by simpa using hts
                have hsk := fun gs h => hskip gs (lexOb s a l c (t0 :: (r ++ [⟨2, W, numG W 0, l, c⟩]))) s a l c W.length _ h rfl (by omega) (by omega) (by omega) (by omega) (by omega) (by omega)
                have hr := fun gs h => hrD gs (lexOb s a l c (t0 :: r)) _ h rfl
                simp [lexOb, scn] at hsk hr hnm
                simp -implicitDefEqProofs (disch := first | omega | (simp [hg, hn1] <;> fail) | assumption) [lexOb, scn, hg, ha, hb, eB', d2, d3, nxRes, hn1, hn2, hl2, hn3, eL', eD', hr, hsk, hnm]
          · rw [if_neg h5]
            have h5 : isDg b = false := by simpa using h5
            have eD' : Γ 32 [.c (.int .u8 b.toNat)] = some [bo false] := by rw [eD]; exact congrArg (fun x => some [bo x]) h5
            simp -implicitDefEqProofs (disch := first | omega | (simp [hg] <;> fail) | assumption) [h9, scn, hg, ha, hb, eB', hke, nxRes, d2, d3, eL', eD']
end Go.Am.Pv
