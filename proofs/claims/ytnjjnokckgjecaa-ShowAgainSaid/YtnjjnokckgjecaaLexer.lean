/- Law 19: the lexer. -/
import Derived.Test.YtnjjnokckgjecaaLexCode
set_option linter.unusedVariables false
set_option linter.unusedSimpArgs false
set_option maxRecDepth 10000
set_option maxHeartbeats 1000000
namespace Go.Am
def plc (s : List UInt8) : Nat → Int × Int
  | 0 => (1, 1)
  | k + 1 => if s[k]? = some 10 then ((plc s k).1 + 1, 1) else ((plc s k).1, (plc s k).2 + 1)
theorem plc_bound (s : List UInt8) (k : Nat) : 1 ≤ (plc s k).1 ∧ (plc s k).1 ≤ k + 1 ∧ 1 ≤ (plc s k).2 ∧ (plc s k).2 ≤ k + 1 := by
  induction k with
  | zero => simp [plc]
  | succ k ih => simp only [plc]; split <;> simp <;> omega
def cut (s : List UInt8) (at_ : Int) : Nat := (min (max at_ 0) s.length).toNat
def PlaceC (g : List AV → Option (List AV)) : Prop := ∀ (s : List UInt8) (n : Int), s.length ≤ 3000 → InI64 n → g [st s, i64 n] = some [i64 (plc s (cut s n)).1, i64 (plc s (cut s n)).2]
theorem lexer_Place_run (Γ : Env) (M : Nat) (hM : 3000 < M) : PlaceC (run Γ M lexer_Place_f) := by
  intro s n hs hn
  obtain ⟨hn1, hn2⟩ := hn
  have hc : cut s n ≤ s.length := by unfold cut; omega
  obtain ⟨m, hm⟩ : ∃ m, cut s n = m := ⟨_, rfl⟩
  have hmax : (if n < 0 then 0 else n) = max n 0 := by omega
  have hmi : (if (s.length : Int) < max n 0 then (s.length : Int) else max n 0) = (m : Int) := by rw [← hm]; unfold cut; omega
  obtain ⟨ax, s', ⟨rfl, rfl⟩, hin⟩ : ∃ ax s', (ax = .ex 0 ∧ s' = ⟨[(6, i64 (plc s m).1), (7, i64 (plc s m).2)], []⟩) ∧ ∀ t, nrm [0, 6, 7, 13, 14] [] t = ⟨[(0, st s), (6, i64 (plc s 0).1), (7, i64 (plc s 0).2), (13, i64 (m : Int)), (14, i64 (0 : Nat))], []⟩ → lp (exec Γ M lexer_Place_l1) M t = some (ax, s') := by
    refine lp_all (fun k : Nat => ⟨[(0, st s), (6, i64 (plc s k).1), (7, i64 (plc s k).2), (13, i64 (m : Int)), (14, i64 k)], []⟩) (fun k => k ≤ m) (fun k => m - k) (fun ax s' => ax = .ex 0 ∧ s' = ⟨[(6, i64 (plc s m).1), (7, i64 (plc s m).2)], []⟩) 0 M (by simp) (by omega) (by omega) ?_
    intro k hk
    have hb := plc_bound s k
    by_cases hlt : k < m
    · have hlt' : (k : Int) < m := by omega
      have hls : k < s.length := by omega
      obtain ⟨b, hb1⟩ : ∃ b, s[k]'hls = b := ⟨_, rfl⟩
      by_cases h10 : b = 10
      · subst h10
        simp -implicitDefEqProofs (disch := omega) [hlt', hls, hb1]
        exact ⟨k + 1, by simp [plc, hls, hb1], by omega, by omega⟩
      · have h10' : ¬ ((b.toNat : Int) = 10) := by
          intro h; apply h10; have : b.toNat = 10 := by omega
          exact UInt8.toNat_inj.1 (by simpa using this)
        simp -implicitDefEqProofs (disch := omega) [hlt', hls, hb1, h10, h10']
        exact ⟨k + 1, by simp [plc, hls, hb1, h10], by omega, by omega⟩
    · obtain rfl : k = m := by omega
      simp
  have p0 : plc s 0 = (1, 1) := rfl
  rw [p0] at hin
  rw [hm]
  have hb := plc_bound s m
  simp -implicitDefEqProofs (disch := first | omega | (simp [hmax, hmi] <;> fail) | assumption) [hmax, hmi, hin]
theorem ref19_Place_run (Γ : Env) (M : Nat) (hM : 3000 < M) : PlaceC (run Γ M ref19_Place_f) := by
  intro s n hs hn
  obtain ⟨hn1, hn2⟩ := hn
  have hc : cut s n ≤ s.length := by unfold cut; omega
  obtain ⟨m, hm⟩ : ∃ m, cut s n = m := ⟨_, rfl⟩
  have hmd : ∀ k : Nat, k < m ↔ k < s.length ∧ (k : Int) < n := by intro k; rw [← hm]; unfold cut; omega
  obtain ⟨ax, s', ⟨rfl, rfl⟩, hin⟩ : ∃ ax s', (ax = .ex 0 ∧ s' = ⟨[(6, i64 (plc s m).1), (7, i64 (plc s m).2)], []⟩) ∧ ∀ t, nrm [0, 1, 6, 7, 8] [] t = ⟨[(0, st s), (1, i64 n), (6, i64 (plc s 0).1), (7, i64 (plc s 0).2), (8, i64 (0 : Nat))], []⟩ → lp (exec Γ M ref19_Place_l1) M t = some (ax, s') := by
    refine lp_all (fun k : Nat => ⟨[(0, st s), (1, i64 n), (6, i64 (plc s k).1), (7, i64 (plc s k).2), (8, i64 k)], []⟩) (fun k => k ≤ m) (fun k => m - k) (fun ax s' => ax = .ex 0 ∧ s' = ⟨[(6, i64 (plc s m).1), (7, i64 (plc s m).2)], []⟩) 0 M (by simp) (by omega) (by omega) ?_
    intro k hk
    have hb := plc_bound s k
    by_cases hlt : k < m
    · obtain ⟨hls, hln⟩ := (hmd k).1 hlt
      have hls' : (k : Int) < s.length := by omega
      obtain ⟨b, hb1⟩ : ∃ b, s[k]'hls = b := ⟨_, rfl⟩
      by_cases h10 : b = 10
      · subst h10
        simp -implicitDefEqProofs (disch := omega) [hln, hls, hls', hb1]
        exact ⟨k + 1, by simp [plc, hls, hb1], by omega, by omega⟩
      · have h10' : ¬ ((b.toNat : Int) = 10) := by
          intro h; apply h10; have : b.toNat = 10 := by omega
          exact UInt8.toNat_inj.1 (by simpa using this)
        simp -implicitDefEqProofs (disch := omega) [hln, hls, hls', hb1, h10, h10']
        exact ⟨k + 1, by simp [plc, hls, hb1, h10], by omega, by omega⟩
    · obtain rfl : k = m := by omega
      have hno := (not_congr (hmd k)).1 hlt
      by_cases hls : k < s.length
      · have hln : ¬ ((k : Int) < n) := by omega
        simp -implicitDefEqProofs (disch := omega) [hls, hln]
      · simp -implicitDefEqProofs (disch := omega) [hls]
  have p0 : plc s 0 = (1, 1) := rfl
  rw [p0] at hin
  rw [hm]
  have hb := plc_bound s m
  simp -implicitDefEqProofs (disch := first | omega | (simp <;> fail) | assumption) [hin]
def LetC (g : List AV → Option (List AV)) : Prop := ∀ c : Int, 0 ≤ c → c ≤ 255 → g [.c (.int .u8 c)] = some [bo (decide (97 ≤ c) && decide (c ≤ 122))]
def DigC (g : List AV → Option (List AV)) : Prop := ∀ c : Int, 0 ≤ c → c ≤ 255 → g [.c (.int .u8 c)] = some [bo (decide (48 ≤ c) && decide (c ≤ 57))]
def BlaC (g : List AV → Option (List AV)) : Prop := ∀ c : Int, 0 ≤ c → c ≤ 255 → g [.c (.int .u8 c)] = some [bo (decide (c = 32) || decide (c = 9) || decide (c = 13))]
theorem lexer_Letter_run (Γ : Env) (M : Nat) : LetC (run Γ M lexer_Letter_f) := by
  intro c h1 h2
  by_cases a : 97 ≤ c
  · simp -implicitDefEqProofs (disch := omega) [a]
  · simp -implicitDefEqProofs (disch := omega) [a]
theorem lexer_Digit_run (Γ : Env) (M : Nat) : DigC (run Γ M lexer_Digit_f) := by
  intro c h1 h2
  by_cases a : 48 ≤ c
  · simp -implicitDefEqProofs (disch := omega) [a]
  · simp -implicitDefEqProofs (disch := omega) [a]
theorem lexer_Blank_run (Γ : Env) (M : Nat) : BlaC (run Γ M lexer_Blank_f) := by
  intro c h1 h2
  by_cases a : c = 32
  · simp -implicitDefEqProofs (disch := omega) [a]
  by_cases b : c = 9
  · simp -implicitDefEqProofs (disch := omega) [a, b]
  simp -implicitDefEqProofs (disch := omega) [a, b]
def LongC (g : List AV → Option (List AV)) : Prop := ∀ s : List UInt8, s.length = 65537 → g [st s] = some [.c (.vs 5 []), .agg [.int .i64 21, .int .i64 1, .int .i64 1]]
theorem lexer_Scan_long (Γ : Env) (M : Nat) : LongC (run Γ M lexer_Scan_f) := by
  intro s hs
  simp -implicitDefEqProofs (disch := omega) [hs]
theorem nmRows_repl (k n : Nat) (r : List AV) (h : nmRow k r = true) : nmRows k (List.replicate n r) = true := by
  induction n with
  | zero => rfl
  | succ n ih => simp only [List.replicate_succ, nmRows, h, ih, Bool.and_self]
theorem lcRows_repl (k n : Nat) (r : List AV) (h : lcRow k r = true) : lcRows k (List.replicate n r) = true := by
  induction n with
  | zero => rfl
  | succ n ih => simp only [List.replicate_succ, lcRows, h, ih, Bool.and_self]
theorem nm0 (k n : Nat) : nmRows k (List.replicate n [AV.c (.int .u8 0)]) = true := nmRows_repl _ _ _ rfl
theorem lc0 (k n : Nat) : lcRows k (List.replicate n [AV.c (.int .u8 0)]) = true := lcRows_repl _ _ _ rfl
theorem conv_zeros (fr : List (Nat × AV)) (k n : Nat) : St.conv ⟨fr, [(k, ⟨1, List.replicate n [AV.c (.int .u8 0)]⟩)]⟩ .toStr (.sl k n 0 n) = some (.str (List.replicate n 0)) := by
  have h : allRows (List.replicate n [AV.c (.int .u8 0)]) = some (List.replicate n [D.int .u8 0]) := allRows_repl1 n _
  have hv : St.view ⟨fr, [(k, ⟨1, List.replicate n [AV.c (.int .u8 0)]⟩)]⟩ (.sl k n 0 n) = some (1, List.replicate n [D.int .u8 0]) := by
    simp only [St.view, get, if_true, h, List.length_replicate, Option.map, List.drop_zero, true_and]
    rw [if_pos (by omega)]
    simp [List.take_replicate]
  have ha : (List.replicate n [D.int .u8 0]).all isU8 = true := by simp only [List.all_eq_true]; intro x hx; rw [List.eq_of_mem_replicate hx]; rfl
  simp only [St.conv, hv, ha, if_true, List.map_replicate]
  rfl
def AliveC (g : List AV → Option (List AV)) : Prop := g [] = some [bo true]
set_option maxHeartbeats 4000000 in
theorem law19_LexerPlaces_run {Γ : Env} (M : Nat) (h37 : PlaceC (Γ 37)) (h36 : PlaceC (Γ 36)) (h31 : LetC (Γ 31)) (h32 : DigC (Γ 32)) (h33 : BlaC (Γ 33)) (h35 : LongC (Γ 35)) (h34 : AliveC (Γ 34)) (s : List UInt8) (hs : s.length ≤ maxLen) (n : Int) (hn : InI64 n) (c : Int) (hc : 0 ≤ c ∧ c ≤ 255) :
    run Γ M law19_LexerPlaces_f [st s, i64 n, .c (.int .u8 c)] = some [bo true] := by
  by_cases hl : 3000 < (s.length : Int)
  · simp -implicitDefEqProofs (disch := omega) [hl]
  have e1 := h37 s n (by omega) hn
  have e2 := h36 s n (by omega) hn
  have e3 := h31 c hc.1 hc.2
  have e4 := h32 c hc.1 hc.2
  have e5 := h33 c hc.1 hc.2
  have e6 := h35 (List.replicate 65537 0) List.length_replicate
  have e7 : Γ 34 [] = some [bo true] := h34
  simp -implicitDefEqProofs (disch := omega) [-List.reduceReplicate, conv_zeros, nm0, lc0, hl, e1, e2, e3, e4, e5, e6, e7]
abbrev lexTab : Tab := [(31, lexer_Letter_f, 1), (32, lexer_Digit_f, 1), (33, lexer_Blank_f, 1), (34, law19_alive_f, 0), (35, lexer_Scan_f, 1), (36, ref19_Place_f, 2), (37, lexer_Place_f, 2), (66, lexer_scanner_next_f, 1), (77, lexer_scanner_skip_f, 2), (78, lexer_scanner_run_f, 2), (213, lexer_scanner_number_f, 2), (218, lexer_scanner_next_1_f, 1)]
abbrev lexVals : List (Nat × Nat) := [(fv_lexer_Letter, 31), (fv_lexer_Digit, 32), (fv_lexer_scanner_next_1, 218)]
def yes : Option (List AV) → Bool
  | some [.c (.bool b)] => b
  | _ => false
theorem yes_eq {o : Option (List AV)} (h : yes o = true) : o = some [bo true] := by
  unfold yes at h
  split at h
  · subst h; rfl
  · simp at h
theorem lex_alive : AliveC (env lexTab lexVals noEnv 70000 9 34) := yes_eq (by decide +kernel)
abbrev placesTab : Tab := (0, law19_LexerPlaces_f, 3) :: lexTab
theorem places_alive : AliveC (env placesTab lexVals noEnv 70000 9 34) := yes_eq (by decide +kernel)
theorem places_law (s : List UInt8) (hs : s.length ≤ maxLen) (n : Int) (hn : InI64 n) (c : Int) (hc : 0 ≤ c ∧ c ≤ 255) : env placesTab lexVals noEnv 70000 10 0 [st s, i64 n, .c (.int .u8 c)] = some [bo true] := by
  rw [env_run rfl rfl]
  refine law19_LexerPlaces_run _ ?_ ?_ ?_ ?_ ?_ ?_ places_alive s hs n hn c hc
  · intro s n h1 h2; rw [env_run rfl rfl]; exact lexer_Place_run _ _ (by omega) s n h1 h2
  · intro s n h1 h2; rw [env_run rfl rfl]; exact ref19_Place_run _ _ (by omega) s n h1 h2
  · intro c h1 h2; rw [env_run rfl rfl]; exact lexer_Letter_run _ _ c h1 h2
  · intro c h1 h2; rw [env_run rfl rfl]; exact lexer_Digit_run _ _ c h1 h2
  · intro c h1 h2; rw [env_run rfl rfl]; exact lexer_Blank_run _ _ c h1 h2
  · intro s h1; rw [env_run rfl rfl]; exact lexer_Scan_long _ _ s h1
end Go.Am
