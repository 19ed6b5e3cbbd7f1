/- Law 26: the whole scan, handed with its memory. -/
import Derived.Test.YtnjjnokckgjecaaLexScanP
import Derived.Test.YtnjjnokckgjecaaLexRun
set_option linter.unusedVariables false
set_option linter.unusedSimpArgs false
set_option maxRecDepth 10000
set_option maxHeartbeats 1000000
namespace Go.Am.Pv
def parR : List (Nat × Obj) := [(3, ⟨3, [[i64 0, i64 0, i64 0]]⟩), (2, ⟨13, [[i64 0, i64 0, i64 0, i64 0, i64 0, i64 0, i64 0, i64 0, .nil 3, i64 0, i64 0, i64 0, i64 0]]⟩)]
def parG (s : List UInt8) : List (Nat × AV) := [(100012, st s), (100000, st s), (100002, .loc 2 0 0), (100003, .loc 3 0 0)]
def tkOb : List Tk → List (Nat × Obj)
  | [] => []
  | t :: r => [(1000212, ⟨5, (t :: r).map (toAV ∘ Tk.cells)⟩)]
theorem keepF_lexOb (s : List UInt8) (a l c : Int) (ts : List Tk) : keepF 365000 366000 [365003, 365009] (lexOb s a l c ts) = lexOb s a l c ts := by
  cases ts <;> simp [lexOb]
theorem scan_err (Γ : Env) (M : Nat) (hnext : NextC (Γ.pt 66)) (s : List UInt8) (a : Nat) (l c e : Int) (ts : List Tk) (hs : s.length ≤ 65536) (hlt : a < s.length) (hl : 1 ≤ l ∧ l ≤ a + 1) (hc : 1 ≤ c ∧ c ≤ a + 1) (hts : ts.length ≤ a) (hx : nx s a l c = .err e) :
    exec Γ M lexer_Scan_P_l1b ⟨[(0, st s), (3, .loc 365003 0 0), (4, .loc 365009 0 0), (100012, st s), (100000, st s), (100002, .loc 2 0 0), (100003, .loc 3 0 0)], lexOb s a l c ts⟩ = some (.ret, ⟨[(2, .nil 5), (3, .loc 365003 0 0), (100012, st s), (100000, st s), (100002, .loc 2 0 0), (100003, .loc 3 0 0)], (365003, ⟨3, [[i64 e, i64 l, i64 c]]⟩) :: (tkOb ts ++ parR)⟩) := by
  have hn := hnext [(100021, .loc 365009 0 0), (100000, st s), (100003, .loc 365003 0 0), (100004, .loc 365009 0 0), (200012, st s), (200000, st s), (200002, .loc 2 0 0), (200003, .loc 3 0 0)] s a l c ts (by simp) (by simp) (by simp) (by simp) (by simp) hs hlt (by omega) (by omega) (by omega) (by omega) hts
  have he := nx_err hlt hx
  rw [hx] at hn
  simp only [nxRes] at hn
  have hne : ¬ e = 0 := by omega
  cases ts with
  | nil =>
    simp only [lexOb] at hn ⊢
    simp -implicitDefEqProofs (disch := first | omega | assumption) [scn, hlt] at hn ⊢; simp -implicitDefEqProofs (disch := first | omega | assumption) [hlt, hn, hne, tkOb, parR]
  | cons t0 r =>
    simp only [lexOb] at hn ⊢
    simp -implicitDefEqProofs (disch := first | omega | assumption) [scn] at hn ⊢; simp -implicitDefEqProofs (disch := first | omega | assumption) [hlt, hn, hne, tkOb, parR]
theorem scan_tail (Γ : Env) (M : Nat) (s : List UInt8) (a : Nat) (l c : Int) (ts : List Tk) (hts : ts.length ≤ 65536) :
    exec Γ M (.keepP [3, 4] 365000 366000 [365003, 365009] (.seq (.seq (.reg lexer_Scan_P_r8) (.keepP [3, 4, 6] 365000 366000 [365003, 365009] (.seq (.reg lexer_Scan_P_r9) (.keepP [3, 4, 53] 365000 366000 [365003, 365009] (.cond (.t 53) (.keepP [3, 4] 365000 366000 [365003, 365009] (.draw lexer_Scan_P_r10q [] [(15, (some 69), .app 1000212 5 48 (.t 58) (.t 68), [4], [1, 2, 3, 4, 5, 6, 7, 8, 9, 10, 11, 12, 13, 14])] lexer_Scan_P_r10)) (.skip)))))) (.keepP [3, 4] 365000 366000 [365003, 365009] (.seq (.reg lexer_Scan_P_r11) (.keepP [2, 3] 365000 366000 [365003] (.ret)))))) ⟨[(3, .loc 365003 0 0), (4, .loc 365009 0 0), (100012, st s), (100000, st s), (100002, .loc 2 0 0), (100003, .loc 3 0 0)], lexOb s a l c ts⟩ = some (.ret, ⟨[(2, .sl 1000212 (finT ts l c).length 0 (finT ts l c).length), (3, .loc 365003 0 0), (100012, st s), (100000, st s), (100002, .loc 2 0 0), (100003, .loc 3 0 0)], [(365003, ⟨3, [[i64 0, i64 0, i64 0]]⟩), (1000212, ⟨5, (finT ts l c).map (toAV ∘ Tk.cells)⟩), (3, ⟨3, [[i64 0, i64 0, i64 0]]⟩), (2, ⟨13, [[i64 0, i64 0, i64 0, i64 0, i64 0, i64 0, i64 0, i64 0, .nil 3, i64 0, i64 0, i64 0, i64 0]]⟩)]⟩) := by
  cases ts with
  | nil =>
    simp -implicitDefEqProofs (disch := first | omega | assumption) [lexOb, scn, finT, lastNo]
  | cons t r =>
    obtain ⟨tl, htl⟩ : ∃ tl, (t :: r).getLast? = some tl := by rw [List.getLast?_cons]; exact ⟨_, rfl⟩
    have hr : (t :: r)[r.length]? = some tl := by rw [← htl, List.getLast?_eq_getElem?]; simp
    have hlen : r.length + 1 ≤ 65536 := by simpa using hts
    have hrow : ([AV.c (.int .i64 t.kd), .c (.str t.tx), .c (.int .i64 t.n), .c (.int .i64 t.l), .c (.int .i64 t.c)] :: List.map (toAV ∘ Tk.cells) r)[r.length]? = some [.c (.int .i64 tl.kd), .c (.str tl.tx), .c (.int .i64 tl.n), .c (.int .i64 tl.l), .c (.int .i64 tl.c)] := by
      have : ((t :: r).map (toAV ∘ Tk.cells))[r.length]? = some ((toAV ∘ Tk.cells) tl) := by rw [List.getElem?_map, hr]; rfl
      exact this
    have hd : r.length - 0 = r.length := rfl
    by_cases hk : tl.kd = 3
    · have hf : finT (t :: r) l c = t :: r := by simp [finT, lastNo, htl, hk]
      rw [hf]
      simp -implicitDefEqProofs (disch := first | omega | assumption) [lexOb, scn, hrow, hk]
    · have hf : finT (t :: r) l c = t :: r ++ [⟨3, [], 0, l, c⟩] := by simp [finT, lastNo, htl, hk]
      rw [hf]
      simp -implicitDefEqProofs (disch := first | omega | assumption) [lexOb, scn, hrow, hk]
def ScanC (g : St → Option (List AV × List (Nat × Obj))) : Prop := ∀ s : List UInt8, s.length ≤ 65536 →
  ((scanR s).e ≠ 0 ∧ ∃ ts, g ⟨(0, st s) :: parG s, parR⟩ = some ([.nil 5, .agg [.int .i64 (scanR s).e, .int .i64 (scanR s).l, .int .i64 (scanR s).c]], tkOb ts ++ parR)) ∨
  ((scanR s).e = 0 ∧ (scanR s).ts.length ≤ 65537 ∧ g ⟨(0, st s) :: parG s, parR⟩ = some ([.sl 1000212 (scanR s).ts.length 0 (scanR s).ts.length, .agg [.int .i64 0, .int .i64 0, .int .i64 0]], (1000212, ⟨5, (scanR s).ts.map (toAV ∘ Tk.cells)⟩) :: parR))
theorem lexer_Scan_P_run (Γ : Env) (M : Nat) (hM : 65540 < M) (hnext : NextC (Γ.pt 66)) : ScanC (runP Γ M lexer_Scan_P_f) := by
  intro s hs
  obtain ⟨R, hR0⟩ : ∃ R, scanR s = R := ⟨_, rfl⟩
  have hnl : ¬ (65536 < (s.length : Int)) := by omega
  -- the loop
  obtain ⟨ax, s', hR, hin⟩ : ∃ ax s', ((R.ts = [] ∧ R.e ≠ 0 ∧ ax = .ret ∧ ∃ ts, s' = ⟨[(2, .nil 5), (3, .loc 365003 0 0), (100012, st s), (100000, st s), (100002, .loc 2 0 0), (100003, .loc 3 0 0)], (365003, ⟨3, [[i64 R.e, i64 R.l, i64 R.c]]⟩) :: (tkOb ts ++ parR)⟩) ∨ (R.e = 0 ∧ R.l = 0 ∧ R.c = 0 ∧ ∃ (a : Nat) (l c : Int) (ts : List Tk), R.ts = finT ts l c ∧ ts.length ≤ 65536 ∧ ax = .ex 0 ∧ s' = ⟨[(3, .loc 365003 0 0), (4, .loc 365009 0 0), (100012, st s), (100000, st s), (100002, .loc 2 0 0), (100003, .loc 3 0 0)], lexOb s a l c ts⟩)) ∧
      ∀ t, nrmP [0, 3, 4] 365000 366000 [365003, 365009] t = ⟨[(0, st s), (3, .loc 365003 0 0), (4, .loc 365009 0 0), (100012, st s), (100000, st s), (100002, .loc 2 0 0), (100003, .loc 3 0 0)], lexOb s (0 : Nat) 1 1 []⟩ → lp (exec Γ M lexer_Scan_P_l1) M t = some (ax, s') := by
    refine lp_allP (fun q : Nat × Int × Int × List Tk => ⟨[(0, st s), (3, .loc 365003 0 0), (4, .loc 365009 0 0), (100012, st s), (100000, st s), (100002, .loc 2 0 0), (100003, .loc 3 0 0)], lexOb s q.1 q.2.1 q.2.2.1 q.2.2.2⟩)
      (fun q => q.1 ≤ s.length ∧ (1 ≤ q.2.1 ∧ q.2.1 ≤ q.1 + 1) ∧ (1 ≤ q.2.2.1 ∧ q.2.2.1 ≤ q.1 + 1) ∧ q.2.2.2.length ≤ q.1 ∧ ∀ f, s.length - q.1 < f → scl s f q.1 q.2.1 q.2.2.1 q.2.2.2 = R)
      (fun q => s.length - q.1) _ (0, 1, 1, []) M ⟨by omega, by simp, by simp, by simp, ?_⟩ (by simp only; omega) ?_
    · intro f hf
      rw [← hR0]
      exact scl_fuel s f (s.length + 1) 0 1 1 [] (by simpa using hf) (by omega) (by omega) (by simp) (by simp)
    rintro ⟨a, l, c, ts⟩ ⟨ha, hl, hc, hts, hf⟩
    simp only at ha hl hc hts hf ⊢
    obtain ⟨o9, h9⟩ := lex9 s a l c ts
    by_cases hlt : a < s.length
    · cases hx : nx s a l c with
      | err e =>
        have hex := scan_err Γ M hnext s a l c e ts hs hlt hl hc hts hx
        have hr := hf (s.length - a + 1) (by omega)
        simp only [scl, if_pos hlt, hx] at hr
        subst hr
        rw [hex]
        have he := nx_err hlt hx
        simp
        exact ⟨by omega, ts, rfl⟩
      | go t a' l' c' =>
        obtain ⟨g1, g2, g3, g4, g5⟩ := nx_go hlt hl hc hx
        have hn := hnext [(100021, .loc 365009 0 0), (100000, st s), (100003, .loc 365003 0 0), (100004, .loc 365009 0 0), (200012, st s), (200000, st s), (200002, .loc 2 0 0), (200003, .loc 3 0 0)] s a l c ts (by simp) (by simp) (by simp) (by simp) (by simp) hs hlt (by omega) (by omega) (by omega) (by omega) hts
        rw [hx] at hn
        simp only [nxRes] at hn
        simp -implicitDefEqProofs (disch := first | omega | assumption) [h9, scn, hlt, keepF_lexOb, hn]
        refine ⟨a', l', c', ts ++ t, rfl, ⟨g2, g3, g4, by simp only [List.length_append]; omega, fun f hff => ?_⟩, by omega⟩
        rw [scl_fuel s f (s.length - a) a' l' c' (ts ++ t) hff (by omega) g2 g3 g4]
        have := hf (s.length - a + 1) (by omega)
        simpa only [scl, if_pos hlt, hx] using this
    · obtain rfl : a = s.length := by omega
      simp -implicitDefEqProofs (disch := first | omega | assumption) [h9, scn, keepF_lexOb]
      have := hf 1 (by omega)
      simp only [scl, Nat.lt_irrefl, if_false] at this
      subst this
      exact ⟨rfl, rfl, rfl, _, _, _, ts, rfl, by omega, rfl⟩
  rw [hR0]
  have hlp := hin ⟨[(0, st s), (3, .loc 365003 0 0), (4, .loc 365009 0 0), (100012, st s), (100000, st s), (100002, .loc 2 0 0), (100003, .loc 3 0 0)], lexOb s (0 : Nat) 1 1 []⟩ (by simp [lexOb, scn])
  simp [lexOb, scn] at hlp
  rcases hR with ⟨h1, he, rfl, ts, rfl⟩ | ⟨h0, h1, h2, a, l, c, ts, h3, h4, rfl, rfl⟩
  · refine .inl ⟨he, ts, ?_⟩
    cases ts <;> simp [tkOb, parR] at hlp <;> simp -implicitDefEqProofs (disch := first | omega | assumption) [lexOb, scn, hnl, hlp, h1, parG, parR, tkOb]
  · have ht := scan_tail Γ M s a l c ts h4
    have hf : (finT ts l c).length ≤ 65537 := by unfold finT; split <;> (try simp) <;> omega
    refine .inr ⟨h0, by rw [h3]; exact hf, ?_⟩
    rw [h3]
    simp -implicitDefEqProofs (disch := first | omega | assumption) [hnl, parG, parR]
    simp -implicitDefEqProofs (disch := first | omega | assumption) [hlp]
    simp -implicitDefEqProofs (disch := first | omega | assumption) at ht
    rw [ht]
    simp
end Go.Am.Pv
