/- Law 27: show: what is written into a strings.Builder. -/
import Derived.Test.YtnjjnokckgjecaaShowCode
set_option linter.unusedVariables false
set_option linter.unusedSimpArgs false
set_option maxRecDepth 10000
set_option maxHeartbeats 1000000
namespace Go.Am
/-- The builder's key in show.Text. -/
@[simp] abbrev kB : Nat := kt_show_Text_5
def bRows (t : List UInt8) : List (List AV) := t.map (toAV ∘ u8row)
/-- The builder with a text written, before other objects. -/
def bOb (t : List UInt8) (rest : List (Nat × Obj)) : List (Nat × Obj) := match t with
  | [] => (kB, ⟨2, [[.ot .np, .nil 1]]⟩) :: rest
  | b :: r => (kB, ⟨2, [[.loc kB 0 0, .sl kt_buf (r.length + 1) 0 (r.length + 1)]]⟩) :: (kt_buf, ⟨1, bRows (b :: r)⟩) :: rest
/-- Other objects: none of the builder's. -/
structure RestOk (rest : List (Nat × Obj)) : Prop where
  dK : del rest kB = rest
  dB : del rest kt_buf = rest
  nB : nmOb kt_buf rest = true
  lB : lcOb kt_buf rest = true
structure GsOk (gs : List (Nat × AV)) : Prop where
  g : Gh gs
  nB : nmFr kt_buf gs = true
  lB : lcFr kt_buf gs = true
def CopyC (g : St → Option (List AV × List (Nat × Obj))) : Prop := ∀ gs rest v, Gh gs → del rest kB = rest →
  (g ⟨(0, .loc kB 0 0) :: gs, (kB, ⟨2, [[.ot .np, v]]⟩) :: rest⟩ = some ([], (kB, ⟨2, [[.loc kB 0 0, v]]⟩) :: rest) ∧ g ⟨(0, .loc kB 0 0) :: gs, (kB, ⟨2, [[.loc kB 0 0, v]]⟩) :: rest⟩ = some ([], (kB, ⟨2, [[.loc kB 0 0, v]]⟩) :: rest))
def CopyC7 (g : St → Option (List AV × List (Nat × Obj))) : Prop := ∀ gs ob v, Gh gs → get ob kB = some ⟨2, [[.loc kB 0 0, v]]⟩ → g ⟨(0, .loc kB 0 0) :: gs, ob⟩ = some ([], ob)
theorem copyCheck_run7 (Γ : Env) (M : Nat) : CopyC7 (runP Γ M strings_Builder_copyCheck_f) := by
  intro gs ob v hg hr
  simp only [kB, kt_show_Text_5] at hr
  simp -implicitDefEqProofs (disch := first | omega | (simp [hg] <;> fail) | assumption) [hg, hr]
theorem copyCheck_run (Γ : Env) (M : Nat) : CopyC (runP Γ M strings_Builder_copyCheck_f) := by
  intro gs rest v hg hr
  constructor
  · simp -implicitDefEqProofs (disch := first | omega | (simp [hg] <;> fail) | assumption) [hg, hr]
  · simp -implicitDefEqProofs (disch := first | omega | (simp [hg] <;> fail) | assumption) [hg, hr]
theorem lcRow_u8 (k : Nat) (b : UInt8) : lcRow k (List.map AV.c (u8row b)) = true := rfl
def WrC (g : St → Option (List AV × List (Nat × Obj))) : Prop := ∀ gs rest t s, GsOk gs → RestOk rest → (t ≠ [] ∨ s ≠ []) → t.length + s.length ≤ 1000000 →
  g ⟨(0, .loc kB 0 0) :: (1, st s) :: gs, bOb t rest⟩ = some ([i64 s.length, .ot .ni], bOb (t ++ s) rest)
theorem WriteString_run (Γ : Env) (M : Nat) (hc : CopyC (Γ.pt 228)) : WrC (runP Γ M strings_Builder_WriteString_f) := by
  intro gs rest t s ⟨hg, hn, hl⟩ ⟨r1, r2, r3, r4⟩ hne hlen
  cases t with
  | nil =>
    obtain ⟨b, r, rfl⟩ : ∃ b r, s = b :: r := by cases s with | nil => simp at hne | cons b r => exact ⟨b, r, rfl⟩
    have hcc := fun gs h => (hc gs rest (.nil 1) h r1).1
    simp only [List.length_cons, List.length_nil] at hlen
    simp only [bOb, List.nil_append]
    simp -implicitDefEqProofs (disch := first | omega | (simp [hg] <;> fail) | assumption) [hg, hn, hl, r1, r2, r3, r4, hcc, bRows]
  | cons b r =>
    have hcc := fun gs h => (hc gs ((kt_buf, ⟨1, bRows (b :: r)⟩) :: rest) (.sl kt_buf (r.length + 1) 0 (r.length + 1)) h (by simp [r1])).2
    simp [bRows] at hcc
    simp only [List.length_cons] at hlen
    simp only [bOb, List.cons_append]
    have hcm : r.length + s.length + 1 = r.length + 1 + s.length := by omega
    simp -implicitDefEqProofs (disch := first | omega | (simp [hg] <;> fail) | assumption) [hg, hn, hl, r1, r2, r3, r4, hcc, bRows, lcRow_u8, hcm]
/-- As WrC, where one more object lies in front. -/
def WrC7 (g : St → Option (List AV × List (Nat × Obj))) : Prop := ∀ gs rest t s (o : Obj), GsOk gs → RestOk rest → nmRows kt_buf o.rows = true → lcRows kt_buf o.rows = true → t ≠ [] → t.length + s.length ≤ 1000000 →
  g ⟨(0, .loc kB 0 0) :: (1, st s) :: gs, (7, o) :: bOb t rest⟩ = some ([i64 s.length, .ot .ni], bOb (t ++ s) ((7, o) :: rest))
theorem WriteString_run7 (Γ : Env) (M : Nat) (hc : CopyC7 (Γ.pt 228)) : WrC7 (runP Γ M strings_Builder_WriteString_f) := by
  intro gs rest t s o ⟨hg, hn, hl⟩ ⟨r1, r2, r3, r4⟩ ho1 ho2 hne hlen
  cases t with
  | nil => exact (hne rfl).elim
  | cons b r =>
    have hcc := fun gs h => hc gs ((7, o) :: (kB, ⟨2, [[.loc kB 0 0, .sl kt_buf (r.length + 1) 0 (r.length + 1)]]⟩) :: (kt_buf, ⟨1, bRows (b :: r)⟩) :: rest) (.sl kt_buf (r.length + 1) 0 (r.length + 1)) h (by simp)
    simp [bRows] at hcc
    simp only [List.length_cons] at hlen
    simp only [bOb, List.cons_append]
    have hcm : r.length + s.length + 1 = r.length + 1 + s.length := by omega
    simp -implicitDefEqProofs (disch := first | omega | (simp [hg] <;> fail) | assumption) [hg, hn, hl, r1, r2, r3, r4, ho1, ho2, hcc, bRows, lcRow_u8, hcm]
theorem RestOk.seven {rest : List (Nat × Obj)} {o : Obj} (h : RestOk rest) (h1 : nmRows kt_buf o.rows = true) (h2 : lcRows kt_buf o.rows = true) : RestOk ((7, o) :: rest) :=
  ⟨by simp [h.dK], by simp [h.dB], by simp [h.nB, h1], by simp [h.lB, h2]⟩
def StrC (g : St → Option (List AV × List (Nat × Obj))) : Prop := ∀ gs rest t, GsOk gs → RestOk rest → t ≠ [] → t.length ≤ 1000000 →
  g ⟨(0, .loc kB 0 0) :: gs, bOb t rest⟩ = some ([st t], (kB, ⟨2, [[.loc kB 0 0, .sl kt_buf t.length 0 t.length]]⟩) :: rest)
theorem u8le (a : UInt8) : (a.toNat : Int) ≤ 255 := by have := a.toNat_lt; omega
theorem allD_u8 (b : UInt8) : allD (List.map AV.c (u8row b)) = some (u8row b) := rfl
theorem isU8_all (r : List UInt8) : ∀ x ∈ List.map u8row r, isU8 x = true := by
  intro x hx
  have := u8row_all r
  rw [List.all_eq_true] at this
  exact this x hx
theorem u8comp : u8of ∘ u8row = id := funext fun b => by simp [u8row, u8of]
attribute [-simp] isU8 isByte u8of
theorem isByte_row (b : UInt8) : isByte (u8row b) = true := by
  have := u8le b
  simp [u8row, isByte, this]
theorem isU8_row (b : UInt8) : isU8 (u8row b) = true := by
  have := isU8_all [b] (u8row b) (by simp)
  exact this
theorem u8of_row (b : UInt8) : u8of (u8row b) = b := congrFun u8comp b
theorem BString_run (Γ : Env) (M : Nat) : StrC (runP Γ M strings_Builder_String_f) := by
  intro gs rest t ⟨hg, hn, hl⟩ ⟨r1, r2, r3, r4⟩ hne hlen
  obtain ⟨b, r, rfl⟩ : ∃ b r, t = b :: r := by cases t with | nil => simp at hne | cons b r => exact ⟨b, r, rfl⟩
  simp only [List.length_cons] at hlen
  have hle : (r.length : Int) + 1 ≤ 9223372036854775807 := by omega
  simp only [bOb]
  simp -implicitDefEqProofs (disch := first | omega | (simp [hg] <;> fail) | assumption) [hg, hn, hl, r1, r2, r3, r4, bRows, allD_u8, u8comp, isU8_row, isByte_row, u8of_row, hle]
end Go.Am
namespace Go.Am
theorem gsOk_iff (gs : List (Nat × AV)) : GsOk gs ↔ (Gh gs ∧ nmFr kt_buf gs = true ∧ lcFr kt_buf gs = true) := ⟨fun h => ⟨h.1, h.2, h.3⟩, fun h => ⟨h.1, h.2.1, h.2.2⟩⟩
theorem nmFr_gho (k : Nat) : ∀ gs : List (Nat × AV), nmFr k (gho gs) = nmFr k gs
  | [] => rfl
  | (i, v) :: r => by simp only [gho, nmFr, nmFr_gho k r]
theorem lcFr_gho (k : Nat) : ∀ gs : List (Nat × AV), lcFr k (gho gs) = lcFr k gs
  | [] => rfl
  | (i, v) :: r => by simp only [gho, lcFr, lcFr_gho k r]
attribute [simp] nmFr_gho lcFr_gho
/-- Words with blanks between. -/
def joinW : List (List UInt8) → List UInt8
  | [] => []
  | [w] => w
  | w :: r => w ++ 32 :: joinW r
def numsT : List Int → List UInt8
  | [] => []
  | n :: r => 32 :: txt n ++ numsT r
def shL (ws : List (List UInt8)) (l : List Int) : List UInt8 := joinW ws ++ numsT l ++ [10]
def wV (ws : List (List UInt8)) : AV := .c (.vs 1 (ws.map fun w => [.str w]))
def nV (l : List Int) : AV := .c (.vs 1 (l.map fun n => [.int .i64 n]))
theorem numsT_app (a b : List Int) : numsT (a ++ b) = numsT a ++ numsT b := by
  induction a with
  | nil => rfl
  | cons x a ih => simp [numsT, ih]
theorem numsT_len (l : List Int) : (numsT l).length ≤ 30 * l.length := by
  induction l with
  | nil => simp [numsT]
  | cons x a ih =>
    have : (txt x).length ≤ 21 := by
      unfold txt; split
      · have := dig_len (-x); simp; omega
      · have := dig_len x; omega
    simp [numsT]; omega
/-- The second loop. -/
theorem line_l1 (Γ : Env) (M : Nat) (hM : 100 < M) (hw : WrC (Γ.pt 79)) (hof : Of (Γ 50)) (gs : List (Nat × AV)) (rest : List (Nat × Obj)) (hgs : GsOk gs) (hr : RestOk rest) (l : List Int) (V : AV) (hV : V = nV l ∨ (l = [] ∧ V = .nil 1)) (hl : l.length ≤ 10) (hI : ∀ n ∈ l, InI64 n) (t : List UInt8) (ht : t.length ≤ 900000) (htn : t ≠ []) :
    ∀ s0, nrmP [0, 25, 26, 27] 0 0 [] s0 = ⟨(0, .loc kB 0 0) :: (25, V) :: (26, i64 l.length) :: (27, i64 (0 : Nat)) :: gs, bOb t rest⟩ →
      lp (exec Γ M show_line_l1) M s0 = some (.ex 2, ⟨(0, .loc kB 0 0) :: gs, bOb (t ++ numsT l) rest⟩) := by
  obtain ⟨hg, hn, hlc⟩ := id hgs
  obtain ⟨ax, s', ⟨rfl, rfl⟩, hin⟩ : ∃ ax s', (ax = .ex 2 ∧ s' = ⟨(0, .loc kB 0 0) :: gs, bOb (t ++ numsT l) rest⟩) ∧ ∀ s0, nrmP [0, 25, 26, 27] 0 0 [] s0 = ⟨(0, .loc kB 0 0) :: (25, V) :: (26, i64 l.length) :: (27, i64 (0 : Nat)) :: gs, bOb (t ++ numsT (l.take 0)) rest⟩ → lp (exec Γ M show_line_l1) M s0 = some (ax, s') := by
    refine lp_allP (fun k : Nat => ⟨(0, .loc kB 0 0) :: (25, V) :: (26, i64 l.length) :: (27, i64 k) :: gs, bOb (t ++ numsT (l.take k)) rest⟩) (fun k => k ≤ l.length) (fun k => l.length - k) _ 0 M (by omega) (by omega) ?_
    intro k hk
    by_cases hlt : k < l.length
    · obtain rfl : V = nV l := by
        rcases hV with h | ⟨h, _⟩
        · exact h
        · subst h; simp at hlt
      have e50 := hof l[k] (hI _ (List.getElem_mem hlt))
      have hlen := numsT_len (l.take k)
      have hlk : (l.take k).length ≤ 10 := by simp; omega
      have hT : t ++ numsT (l.take k) ≠ [] := by simp [htn]
      have hTl : (t ++ numsT (l.take k)).length ≤ 990000 := by simp; omega
      have hnext : (t ++ numsT (l.take k)) ++ [32] ++ txt l[k] = t ++ numsT (l.take (k + 1)) := by
        rw [List.take_succ_eq_append_getElem hlt, numsT_app]; simp [numsT]
      obtain ⟨T, hTT⟩ : ∃ T, t ++ numsT (l.take k) = T := ⟨_, rfl⟩
      rw [hTT] at hT hTl hnext ⊢
      have htx : (txt l[k]).length ≤ 21 := by
        unfold txt; split
        · have := dig_len (-l[k]); simp; omega
        · have := dig_len l[k]; omega
      obtain ⟨X, hX⟩ : ∃ X, txt l[k] = X := ⟨_, rfl⟩
      rw [hX] at e50 htx hnext
      have hw1 := fun gs h => hw gs rest T [32] h hr (.inl hT) (by simp; omega)
      have hw2 := fun gs h => hw gs rest (T ++ [32]) X h hr (.inl (by simp)) (by simp; omega)
      rw [hnext] at hw2
      simp [gsOk_iff] at hw1 hw2
      simp -implicitDefEqProofs (disch := first | omega | (simp [hg, hn, hlc] <;> fail) | assumption) [hg, hlt, nV, e50, hw1, hw2]
      exact ⟨k + 1, by simp, by omega, by omega⟩
    · obtain rfl : k = l.length := by omega
      simp -implicitDefEqProofs (disch := first | omega | (simp [hg, hn, hlc] <;> fail) | assumption) [hg, nV]
  have e0 : t ++ numsT (l.take 0) = t := by simp [numsT]
  rw [e0] at hin
  exact hin
theorem joinW_snoc (w : List UInt8) : ∀ ws : List (List UInt8), ws ≠ [] → joinW (ws ++ [w]) = joinW ws ++ [32] ++ w
  | [], h => (h rfl).elim
  | [a], _ => by simp [joinW]
  | a :: b :: r, _ => by
    have := joinW_snoc w (b :: r) (by simp)
    simp only [List.cons_append] at this ⊢
    simp only [joinW, this]; simp
theorem joinW_len : ∀ ws : List (List UInt8), (∀ w ∈ ws, w.length ≤ 20) → (joinW ws).length ≤ 21 * ws.length
  | [], _ => by simp [joinW]
  | [a], h => by have := h a (by simp); simp [joinW]; omega
  | a :: b :: r, h => by
    have h1 := h a (by simp)
    have := joinW_len (b :: r) (fun w hw => h w (by simp [hw]))
    simp only [joinW, List.length_append, List.length_cons] at this ⊢; omega
/-- The first loop. -/
theorem line_l2 (Γ : Env) (M : Nat) (hM : 100 < M) (hw : WrC (Γ.pt 79)) (gs : List (Nat × AV)) (rest : List (Nat × Obj)) (hgs : GsOk gs) (hr : RestOk rest) (ws : List (List UInt8)) (L : AV) (hL : (∃ l : List Int, L = nV l) ∨ L = .nil 1) (hl : ws.length ≤ 3) (hI : ∀ w ∈ ws, w.length ≤ 20) (t : List UInt8) (ht : t.length ≤ 800000) (htn : t ≠ [] ∨ ∃ w r, ws = w :: r ∧ w ≠ []) :
    ∀ s0, nrmP [0, 2, 10, 11, 12] 0 0 [] s0 = ⟨(0, .loc kB 0 0) :: (2, L) :: (10, wV ws) :: (11, i64 ws.length) :: (12, i64 (0 : Nat)) :: gs, bOb t rest⟩ →
      lp (exec Γ M show_line_l2) M s0 = some (.ex 0, ⟨(0, .loc kB 0 0) :: (2, L) :: gs, bOb (t ++ joinW ws) rest⟩) := by
  obtain ⟨hg, hn, hlc⟩ := id hgs
  have hL3 : L.names kt_buf = false := by rcases hL with ⟨l, rfl⟩ | rfl <;> simp [nV]
  have hL4 : L.isLoc kt_buf = false := by rcases hL with ⟨l, rfl⟩ | rfl <;> simp [nV]
  obtain ⟨ax, s', ⟨rfl, rfl⟩, hin⟩ : ∃ ax s', (ax = .ex 0 ∧ s' = ⟨(0, .loc kB 0 0) :: (2, L) :: gs, bOb (t ++ joinW ws) rest⟩) ∧ ∀ s0, nrmP [0, 2, 10, 11, 12] 0 0 [] s0 = ⟨(0, .loc kB 0 0) :: (2, L) :: (10, wV ws) :: (11, i64 ws.length) :: (12, i64 (0 : Nat)) :: gs, bOb (t ++ joinW (ws.take 0)) rest⟩ → lp (exec Γ M show_line_l2) M s0 = some (ax, s') := by
    refine lp_allP (fun k : Nat => ⟨(0, .loc kB 0 0) :: (2, L) :: (10, wV ws) :: (11, i64 ws.length) :: (12, i64 k) :: gs, bOb (t ++ joinW (ws.take k)) rest⟩) (fun k => k ≤ ws.length) (fun k => ws.length - k) _ 0 M (by omega) (by omega) ?_
    intro k hk
    by_cases hlt : k < ws.length
    · have hlen := joinW_len (ws.take k) (fun w hw => hI w (List.mem_of_mem_take hw))
      have hlk : (ws.take k).length ≤ 3 := by simp; omega
      have hwk := hI ws[k] (List.getElem_mem hlt)
      obtain ⟨X, hX⟩ : ∃ X, ws[k] = X := ⟨_, rfl⟩
      have hTl : (t ++ joinW (ws.take k)).length ≤ 890000 := by simp; omega
      rcases Nat.eq_zero_or_pos k with rfl | hpos
      · have hne : t ≠ [] ∨ X ≠ [] := by
          rcases htn with h | ⟨w, r, hh, h⟩
          · exact .inl h
          · right; rw [← hX]; subst hh; simpa using h
        have hnext : t ++ X = t ++ joinW (ws.take (0 + 1)) := by
          rw [List.take_succ_eq_append_getElem hlt, hX]; simp [joinW]
        rw [hX] at hwk
        have hw1 := fun gs h => hw gs rest t X h hr hne (by omega)
        rw [hnext] at hw1
        simp [gsOk_iff] at hw1
        have e0 : t ++ joinW (ws.take 0) = t := by simp [joinW]
        rw [e0]
        simp -implicitDefEqProofs (disch := first | omega | (simp [hg, hn, hlc, hL3, hL4] <;> fail) | assumption) [hg, hlt, wV, hX, hw1]
        exact ⟨1, by simp, by omega, by omega⟩
      · have hne : ws.take k ≠ [] := by
          intro h
          rw [List.take_eq_nil_iff] at h
          rcases h with h | h
          · omega
          · subst h; simp at hlt
        have hnext : (t ++ joinW (ws.take k)) ++ [32] ++ X = t ++ joinW (ws.take (k + 1)) := by
          rw [List.take_succ_eq_append_getElem hlt, joinW_snoc _ _ hne, hX]; simp
        obtain ⟨T, hTT⟩ : ∃ T, t ++ joinW (ws.take k) = T := ⟨_, rfl⟩
        rw [hTT] at hTl hnext ⊢
        rw [hX] at hwk
        have hpos' : (0 : Int) < k := by omega
        have hw1 := fun gs h => hw gs rest T [32] h hr (.inr (by simp)) (by simp; omega)
        have hw2 := fun gs h => hw gs rest (T ++ [32]) X h hr (.inl (by simp)) (by simp; omega)
        rw [hnext] at hw2
        simp [gsOk_iff] at hw1 hw2
        simp -implicitDefEqProofs (disch := first | omega | (simp [hg, hn, hlc, hL3, hL4] <;> fail) | assumption) [hg, hlt, wV, hX, hw1, hw2, hpos, hpos']
        exact ⟨k + 1, by simp, by omega, by omega⟩
    · obtain rfl : k = ws.length := by omega
      simp -implicitDefEqProofs (disch := first | omega | (simp [hg, hn, hlc] <;> fail) | assumption) [hg, wV]
  have e0 : t ++ joinW (ws.take 0) = t := by simp [joinW]
  rw [e0] at hin
  exact hin
def LineC (g : St → Option (List AV × List (Nat × Obj))) : Prop := ∀ gs rest ws l L t, GsOk gs → RestOk rest → (L = nV l ∨ (l = [] ∧ L = .nil 1)) → ws.length ≤ 3 → (∀ w ∈ ws, w.length ≤ 20) → l.length ≤ 10 → (∀ n ∈ l, InI64 n) → t.length ≤ 700000 → (∃ w r, ws = w :: r ∧ (t ≠ [] ∨ w ≠ [])) →
  g ⟨(0, .loc kB 0 0) :: (1, wV ws) :: (2, L) :: gs, bOb t rest⟩ = some ([], bOb (t ++ shL ws l) rest)
theorem show_line_run (Γ : Env) (M : Nat) (hM : 100 < M) (hw : WrC (Γ.pt 79)) (hof : Of (Γ 50)) : LineC (runP Γ M show_line_f) := by
  intro gs rest ws l L t hgs hr hL hl hI hll hlI ht hne
  obtain ⟨hg, hn, hlc⟩ := id hgs
  have hLL : (∃ l : List Int, L = nV l) ∨ L = .nil 1 := by rcases hL with h | ⟨_, h⟩; exact .inl ⟨l, h⟩; exact .inr h
  have hne1 : t ≠ [] ∨ ∃ w r, ws = w :: r ∧ w ≠ [] := by
    obtain ⟨w, r, h1, h2⟩ := hne
    rcases h2 with h2 | h2
    · exact .inl h2
    · exact .inr ⟨w, r, h1, h2⟩
  have l2 := line_l2 Γ M hM hw gs rest hgs hr ws L hLL hl hI t (by omega) hne1 ⟨(0, .loc kB 0 0) :: (2, L) :: (10, wV ws) :: (11, i64 ws.length) :: (12, i64 (0 : Nat)) :: gs, bOb t rest⟩ (by simp [hg])
  have hjl := joinW_len ws hI
  have hT : t ++ joinW ws ≠ [] := by
    obtain ⟨w, r, h1, h2⟩ := hne
    rcases h2 with h2 | h2
    · simp [h2]
    · subst h1; cases r <;> simp [joinW, h2]
  have hTl : (t ++ joinW ws).length ≤ 800000 := by simp only [List.length_append]; omega
  obtain ⟨T, hTT⟩ : ∃ T, t ++ joinW ws = T := ⟨_, rfl⟩
  have hfin : t ++ shL ws l = T ++ numsT l ++ [10] := by rw [← hTT]; simp [shL]
  rw [hTT] at l2 hT hTl
  rw [hfin]
  have hnl := numsT_len l
  have hw1 := fun gs h => hw gs rest (T ++ numsT l) [10] h hr (.inr (by simp)) (by simp; omega)
  simp [gsOk_iff] at hw1
  have l1 := line_l1 Γ M hM hw hof gs rest hgs hr l L hL hll hlI T (by omega) hT ⟨(0, .loc kB 0 0) :: (25, L) :: (26, i64 l.length) :: (27, i64 (0 : Nat)) :: gs, bOb T rest⟩ (by simp [hg])
  simp [wV] at l2
  rcases hL with rfl | ⟨rfl, rfl⟩
  · simp [nV] at l1 l2
    simp -implicitDefEqProofs (disch := first | omega | (simp [hg, hn, hlc] <;> fail) | assumption) [hg, wV, nV, l1, l2, hw1]
  · simp at l1 l2
    simp -implicitDefEqProofs (disch := first | omega | (simp [hg, hn, hlc] <;> fail) | assumption) [hg, wV, l1, l2, hw1]
end Go.Am
namespace Go.Am
/-- What lies behind k words. -/
def ob7 (o : Obj) (rest : List (Nat × Obj)) (t : List UInt8) (ws : List (List UInt8)) (k : Nat) : List (Nat × Obj) := if k = 0 then (7, o) :: bOb t rest else bOb (t ++ joinW (ws.take k)) ((7, o) :: rest)
/-- The first loop, an object in front. -/
theorem line_l27 (Γ : Env) (M : Nat) (hM : 100 < M) (hw : WrC (Γ.pt 79)) (hw7 : WrC7 (Γ.pt 79)) (o : Obj) (ho1 : nmRows kt_buf o.rows = true) (ho2 : lcRows kt_buf o.rows = true) (gs : List (Nat × AV)) (rest : List (Nat × Obj)) (hgs : GsOk gs) (hr : RestOk rest) (ws : List (List UInt8)) (L : AV) (hL : (∃ l : List Int, L = nV l) ∨ L = .nil 1) (hl : ws.length ≤ 3) (hI : ∀ w ∈ ws, w.length ≤ 20) (t : List UInt8) (ht : t.length ≤ 800000) (htn : t ≠ []) (hws : ws ≠ []) :
    ∀ s0, nrmP [0, 2, 10, 11, 12] 0 0 [] s0 = ⟨(0, .loc kB 0 0) :: (2, L) :: (10, wV ws) :: (11, i64 ws.length) :: (12, i64 (0 : Nat)) :: gs, (7, o) :: bOb t rest⟩ →
      lp (exec Γ M show_line_l2) M s0 = some (.ex 0, ⟨(0, .loc kB 0 0) :: (2, L) :: gs, bOb (t ++ joinW ws) ((7, o) :: rest)⟩) := by
  obtain ⟨hg, hn, hlc⟩ := id hgs
  have hL3 : L.names kt_buf = false := by rcases hL with ⟨l, rfl⟩ | rfl <;> simp [nV]
  have hL4 : L.isLoc kt_buf = false := by rcases hL with ⟨l, rfl⟩ | rfl <;> simp [nV]
  obtain ⟨ax, s', ⟨rfl, rfl⟩, hin⟩ : ∃ ax s', (ax = .ex 0 ∧ s' = ⟨(0, .loc kB 0 0) :: (2, L) :: gs, bOb (t ++ joinW ws) ((7, o) :: rest)⟩) ∧ ∀ s0, nrmP [0, 2, 10, 11, 12] 0 0 [] s0 = ⟨(0, .loc kB 0 0) :: (2, L) :: (10, wV ws) :: (11, i64 ws.length) :: (12, i64 (0 : Nat)) :: gs, ob7 o rest t ws 0⟩ → lp (exec Γ M show_line_l2) M s0 = some (ax, s') := by
    refine lp_allP (fun k : Nat => ⟨(0, .loc kB 0 0) :: (2, L) :: (10, wV ws) :: (11, i64 ws.length) :: (12, i64 k) :: gs, ob7 o rest t ws k⟩) (fun k => k ≤ ws.length) (fun k => ws.length - k) _ 0 M (by omega) (by omega) ?_
    intro k hk
    by_cases hlt : k < ws.length
    · have hlen := joinW_len (ws.take k) (fun w hw => hI w (List.mem_of_mem_take hw))
      have hlk : (ws.take k).length ≤ 3 := by simp; omega
      have hwk := hI ws[k] (List.getElem_mem hlt)
      obtain ⟨X, hX⟩ : ∃ X, ws[k] = X := ⟨_, rfl⟩
      have hTl : (t ++ joinW (ws.take k)).length ≤ 890000 := by simp; omega
      rcases Nat.eq_zero_or_pos k with rfl | hpos
      · have hnext : t ++ X = t ++ joinW (ws.take (0 + 1)) := by
          rw [List.take_succ_eq_append_getElem hlt, hX]; simp [joinW]
        rw [hX] at hwk
        have hw1 := fun gs h => hw7 gs rest t X o h hr ho1 ho2 htn (by omega)
        rw [hnext] at hw1
        simp [gsOk_iff] at hw1
        simp only [ob7, if_true]
        simp -implicitDefEqProofs (disch := first | omega | (simp [hg, hn, hlc, hL3, hL4] <;> fail) | assumption) [hg, hlt, wV, hX, hw1]
        exact ⟨1, by simp, by omega, by omega⟩
      · have hne : ws.take k ≠ [] := by
          intro h
          rw [List.take_eq_nil_iff] at h
          rcases h with h | h
          · omega
          · subst h; simp at hlt
        have hnext : (t ++ joinW (ws.take k)) ++ [32] ++ X = t ++ joinW (ws.take (k + 1)) := by
          rw [List.take_succ_eq_append_getElem hlt, joinW_snoc _ _ hne, hX]; simp
        obtain ⟨T, hTT⟩ : ∃ T, t ++ joinW (ws.take k) = T := ⟨_, rfl⟩
        have hk0 : ¬ k = 0 := by omega
        simp only [ob7, if_neg hk0]
        rw [hTT] at hTl hnext ⊢
        rw [hX] at hwk
        have hpos' : (0 : Int) < k := by omega
        have hw1 := fun gs h => hw gs ((7, o) :: rest) T [32] h (hr.seven ho1 ho2) (.inr (by simp)) (by simp; omega)
        have hw2 := fun gs h => hw gs ((7, o) :: rest) (T ++ [32]) X h (hr.seven ho1 ho2) (.inl (by simp)) (by simp; omega)
        rw [hnext] at hw2
        simp [gsOk_iff] at hw1 hw2
        simp -implicitDefEqProofs (disch := first | omega | (simp [hg, hn, hlc, hL3, hL4] <;> fail) | assumption) [hg, hlt, wV, hX, hw1, hw2, hpos, hpos']
        exact ⟨k + 1, by simp, by omega, by omega⟩
    · obtain rfl : k = ws.length := by omega
      have hk0 : ¬ ws.length = 0 := by simpa using hws
      simp only [ob7, if_neg hk0]
      simp -implicitDefEqProofs (disch := first | omega | (simp [hg, hn, hlc] <;> fail) | assumption) [hg, wV]
  exact hin
def LineC7 (g : St → Option (List AV × List (Nat × Obj))) : Prop := ∀ gs rest ws l L t (o : Obj), GsOk gs → RestOk rest → nmRows kt_buf o.rows = true → lcRows kt_buf o.rows = true → (L = nV l ∨ (l = [] ∧ L = .nil 1)) → ws.length ≤ 3 → (∀ w ∈ ws, w.length ≤ 20) → l.length ≤ 10 → (∀ n ∈ l, InI64 n) → t.length ≤ 700000 → t ≠ [] → ws ≠ [] →
  g ⟨(0, .loc kB 0 0) :: (1, wV ws) :: (2, L) :: gs, (7, o) :: bOb t rest⟩ = some ([], bOb (t ++ shL ws l) ((7, o) :: rest))
theorem show_line_run7 (Γ : Env) (M : Nat) (hM : 100 < M) (hw : WrC (Γ.pt 79)) (hw7 : WrC7 (Γ.pt 79)) (hof : Of (Γ 50)) : LineC7 (runP Γ M show_line_f) := by
  intro gs rest ws l L t o hgs hr ho1 ho2 hL hl hI hll hlI ht hne hws
  obtain ⟨hg, hn, hlc⟩ := id hgs
  have hLL : (∃ l : List Int, L = nV l) ∨ L = .nil 1 := by rcases hL with h | ⟨_, h⟩; exact .inl ⟨l, h⟩; exact .inr h
  have l2 := line_l27 Γ M hM hw hw7 o ho1 ho2 gs rest hgs hr ws L hLL hl hI t (by omega) hne hws ⟨(0, .loc kB 0 0) :: (2, L) :: (10, wV ws) :: (11, i64 ws.length) :: (12, i64 (0 : Nat)) :: gs, (7, o) :: bOb t rest⟩ (by simp [hg])
  have hjl := joinW_len ws hI
  have hT : t ++ joinW ws ≠ [] := by simp [hne]
  have hTl : (t ++ joinW ws).length ≤ 800000 := by simp only [List.length_append]; omega
  obtain ⟨T, hTT⟩ : ∃ T, t ++ joinW ws = T := ⟨_, rfl⟩
  have hfin : t ++ shL ws l = T ++ numsT l ++ [10] := by rw [← hTT]; simp [shL]
  rw [hTT] at l2 hT hTl
  rw [hfin]
  have hnl := numsT_len l
  have hw1 := fun gs h => hw gs ((7, o) :: rest) (T ++ numsT l) [10] h (hr.seven ho1 ho2) (.inr (by simp)) (by simp; omega)
  simp [gsOk_iff] at hw1
  have l1 := line_l1 Γ M hM hw hof gs ((7, o) :: rest) hgs (hr.seven ho1 ho2) l L hL hll hlI T (by omega) hT ⟨(0, .loc kB 0 0) :: (25, L) :: (26, i64 l.length) :: (27, i64 (0 : Nat)) :: gs, bOb T ((7, o) :: rest)⟩ (by simp [hg])
  simp [wV] at l2
  rcases hL with rfl | ⟨rfl, rfl⟩
  · simp [nV] at l1 l2
    simp -implicitDefEqProofs (disch := first | omega | (simp [hg, hn, hlc] <;> fail) | assumption) [hg, wV, nV, l1, l2, hw1]
  · simp at l1 l2
    simp -implicitDefEqProofs (disch := first | omega | (simp [hg, hn, hlc] <;> fail) | assumption) [hg, wV, l1, l2, hw1]
end Go.Am
namespace Go.Am
def tplW (k : Int) : List UInt8 := if k = 1 then [117, 112, 112, 101, 97, 107] else if k = 2 then [108, 117, 110, 99, 104] else if k = 3 then [100, 111, 119, 110, 112, 101, 97, 107] else if k = 4 then [105, 110, 116, 101, 114, 102, 108, 111, 111, 114] else []
def disW (k : Int) : List UInt8 := if k = 1 then [99, 111, 108, 108, 101, 99, 116, 105, 118, 101] else if k = 2 then [115, 101, 99, 116, 111, 114, 115] else if k = 3 then [115, 111, 111, 110, 101, 115, 116] else if k = 4 then [100, 101, 115, 116, 105, 110, 97, 116, 105, 111, 110] else []
def TplC (g : List AV → Option (List AV)) : Prop := ∀ k : Int, g [i64 k] = some [st (tplW k)]
def DisC (g : List AV → Option (List AV)) : Prop := ∀ k : Int, g [i64 k] = some [st (disW k)]
theorem show_Template_run (Γ : Env) (M : Nat) : TplC (run Γ M show_Template_f) := by
  intro k
  by_cases h1 : k = 1
  · subst h1; simp [tplW]
  by_cases h2 : k = 2
  · subst h2; simp [tplW]
  by_cases h3 : k = 3
  · subst h3; simp [tplW]
  by_cases h4 : k = 4
  · subst h4; simp [tplW]
  simp [tplW, h1, h2, h3, h4]
theorem show_Dispatcher_run (Γ : Env) (M : Nat) : DisC (run Γ M show_Dispatcher_f) := by
  intro k
  by_cases h1 : k = 1
  · subst h1; simp [disW]
  by_cases h2 : k = 2
  · subst h2; simp [disW]
  by_cases h3 : k = 3
  · subst h3; simp [disW]
  by_cases h4 : k = 4
  · subst h4; simp [disW]
  simp [disW, h1, h2, h3, h4]
def whr (c l k : Int) : List UInt8 := if c = 0 then [] else txt l ++ [58] ++ txt k ++ [58, 32, 101, 114, 114, 111, 114, 32] ++ txt c
def WhrC (g : List AV → Option (List AV)) : Prop := ∀ c l k : Int, InI64 c → InI64 l → InI64 k → g [.agg [.int .i64 c, .int .i64 l, .int .i64 k]] = some [st (whr c l k)]
theorem txt_len (n : Int) : (txt n).length ≤ 21 := by
  unfold txt; split
  · have := dig_len (-n); simp; omega
  · have := dig_len n; omega
theorem show_Where_run (Γ : Env) (M : Nat) (h50 : Of (Γ 50)) : WhrC (run Γ M show_Where_f) := by
  intro c l k hc hl hk
  have e1 := h50 c hc
  have e2 := h50 l hl
  have e3 := h50 k hk
  have l1 := txt_len c
  have l2 := txt_len l
  have l3 := txt_len k
  by_cases h0 : c = 0
  · subst h0; simp [whr]
  · have hw : whr c l k = txt l ++ [58] ++ txt k ++ [58, 32, 101, 114, 114, 111, 114, 32] ++ txt c := if_neg h0
    rw [hw]
    generalize txt c = x at *
    generalize txt l = y at *
    generalize txt k = z at *
    simp -implicitDefEqProofs (disch := first | omega | ((try simp only [List.length_append, List.length_cons, List.length_nil, maxStr_eq]); omega) | assumption) [binS_add, h0, e1, e2, e3]
def RLineC (g : List AV → Option (List AV)) : Prop := ∀ (w : List UInt8) (l : List Int) (L : AV), (L = nV l ∨ (l = [] ∧ L = .nil 1)) → w.length ≤ 100 → l.length ≤ 10 → (∀ n ∈ l, InI64 n) → g [st w, L] = some [st (w ++ numsT l ++ [10])]
end Go.Am
namespace Go.Am
abbrev wBuilding : List UInt8 := [98, 117, 105, 108, 100, 105, 110, 103]
abbrev wCars : List UInt8 := [99, 97, 114, 115]
abbrev wDoors : List UInt8 := [100, 111, 111, 114, 115]
abbrev wTraffic : List UInt8 := [116, 114, 97, 102, 102, 105, 99]
abbrev wDispatcher : List UInt8 := [100, 105, 115, 112, 97, 116, 99, 104, 101, 114]
abbrev wHorizon : List UInt8 := [104, 111, 114, 105, 122, 111, 110]
abbrev wBins : List UInt8 := [98, 105, 110, 115]
def segsT : List Seg → List UInt8
  | [] => []
  | g :: r => shL [wTraffic, tplW g.kind] [g.ticks, g.rate] ++ segsT r
def headT (s : Scn) : List UInt8 := shL [wBuilding] [s.floors, s.gap] ++ shL [wCars] [s.cars, s.capacity] ++ shL [wDoors] [s.opn, s.dwell, s.cls, s.transfer]
def txtS (s : Scn) : List UInt8 := headT s ++ segsT s.segs ++ shL [wDispatcher, disW s.disp] [] ++ shL [wHorizon] [s.horizon] ++ shL [wBins] [s.bins, s.width]
theorem segsT_app (a b : List Seg) : segsT (a ++ b) = segsT a ++ segsT b := by
  induction a with
  | nil => rfl
  | cons x a ih => simp [segsT, ih]
theorem tplW_len (k : Int) : (tplW k).length ≤ 20 := by unfold tplW; repeat' split
                                                        all_goals simp
theorem disW_len (k : Int) : (disW k).length ≤ 20 := by unfold disW; repeat' split
                                                        all_goals simp
theorem shL_len (ws : List (List UInt8)) (l : List Int) (h1 : ws.length ≤ 3) (h2 : ∀ w ∈ ws, w.length ≤ 20) (h3 : l.length ≤ 10) : (shL ws l).length ≤ 400 := by
  have := joinW_len ws h2
  have := numsT_len l
  simp [shL]; omega
theorem shL_ne (ws : List (List UInt8)) (l : List Int) : shL ws l ≠ [] := by simp [shL]
theorem segsT_len (l : List Seg) : (segsT l).length ≤ 400 * l.length := by
  induction l with
  | nil => simp [segsT]
  | cons g r ih =>
    have := shL_len [wTraffic, tplW g.kind] [g.ticks, g.rate] (by simp) (by simp [tplW_len]) (by simp)
    simp only [segsT, List.length_append, List.length_cons]; omega
theorem headT_len (s : Scn) : (headT s).length ≤ 1200 := by
  have h1 := shL_len [wBuilding] [s.floors, s.gap] (by simp) (by simp) (by simp)
  have h2 := shL_len [wCars] [s.cars, s.capacity] (by simp) (by simp) (by simp)
  have h3 := shL_len [wDoors] [s.opn, s.dwell, s.cls, s.transfer] (by simp) (by simp) (by simp)
  simp only [headT, List.length_append]; omega
theorem headT_ne (s : Scn) : headT s ≠ [] := by simp [headT, shL_ne]
abbrev rS (s : Scn) : List (Nat × Obj) := [(1, ⟨13, [s.cells.map AV.c]⟩)]
theorem rS_ok (s : Scn) : RestOk (rS s) := ⟨by simp, by simp, by simp, by simp⟩
theorem get_bOb1 (t : List UInt8) (rest : List (Nat × Obj)) : get (bOb t rest) 1 = get rest 1 := by cases t <;> simp [bOb]
theorem del_bOb7 (t : List UInt8) (rest : List (Nat × Obj)) : del (bOb t rest) 7 = bOb t (del rest 7) := by cases t <;> simp [bOb]
theorem keep_bOb1 (t : List UInt8) (rest : List (Nat × Obj)) : keepF 0 1000 [1, kB] (bOb t rest) = bOb t (keepF 0 1000 [1, kB] rest) := by cases t <;> simp [bOb]
theorem keep_bOb7 (t : List UInt8) (rest : List (Nat × Obj)) : keepF 0 1000 [1, kB, 7] (bOb t rest) = bOb t (keepF 0 1000 [1, kB, 7] rest) := by cases t <;> simp [bOb]
theorem keep_bOb0 (t : List UInt8) (rest : List (Nat × Obj)) : keepF 0 1000 [kB] (bOb t rest) = bOb t (keepF 0 1000 [kB] rest) := by cases t <;> simp [bOb]
theorem nmRow_u8 (k : Nat) (b : UInt8) : nmRow k (List.map AV.c (u8row b)) = true := rfl
theorem nm_bOb7 (t : List UInt8) (rest : List (Nat × Obj)) : nmOb 7 (bOb t rest) = nmOb 7 rest := by cases t <;> simp [bOb, bRows, nmRow_u8]
theorem text_l1 (Γ : Env) (M : Nat) (hM : 100 < M) (hl7 : LineC7 (Γ.pt 70)) (h42 : TplC (Γ 42)) (s : Scn) (hs : s.Ok) (hn : s.segs.length ≤ 30) (t : List UInt8) (ht : t.length ≤ 2000) (htn : t ≠ []) :
    ∀ s0, nrmP [1, 5, 39, 40, 41] 0 1000 [1, kB] s0 = ⟨[(1, .loc 1 0 0), (5, .loc kB 0 0), (39, .c (.vs 3 (s.segs.map Seg.cells))), (40, i64 s.segs.length), (41, i64 (0 : Nat))], bOb (t ++ segsT (s.segs.take 0)) (rS s)⟩ →
      lp (exec Γ M show_Text_l1) M s0 = some (.ex 0, ⟨[(1, .loc 1 0 0), (5, .loc kB 0 0)], bOb (t ++ segsT s.segs) (rS s)⟩) := by
  obtain ⟨ax, s', ⟨rfl, rfl⟩, hin⟩ : ∃ ax s', (ax = .ex 0 ∧ s' = ⟨[(1, .loc 1 0 0), (5, .loc kB 0 0)], bOb (t ++ segsT s.segs) (rS s)⟩) ∧ ∀ s0, nrmP [1, 5, 39, 40, 41] 0 1000 [1, kB] s0 = ⟨[(1, .loc 1 0 0), (5, .loc kB 0 0), (39, .c (.vs 3 (s.segs.map Seg.cells))), (40, i64 s.segs.length), (41, i64 (0 : Nat))], bOb (t ++ segsT (s.segs.take 0)) (rS s)⟩ → lp (exec Γ M show_Text_l1) M s0 = some (ax, s') := by
    refine lp_allP (fun k : Nat => ⟨[(1, .loc 1 0 0), (5, .loc kB 0 0), (39, .c (.vs 3 (s.segs.map Seg.cells))), (40, i64 s.segs.length), (41, i64 k)], bOb (t ++ segsT (s.segs.take k)) (rS s)⟩) (fun k => k ≤ s.segs.length) (fun k => s.segs.length - k) _ 0 M (by omega) (by omega) ?_
    intro k hk
    by_cases hlt : k < s.segs.length
    · obtain ⟨g, hg⟩ : ∃ g, s.segs[k]'hlt = g := ⟨_, rfl⟩
      have hgo : g.Ok := hs.segs g (by rw [← hg]; exact List.getElem_mem hlt)
      have hsl := segsT_len (s.segs.take k)
      have hkl : (s.segs.take k).length ≤ 30 := by simp; omega
      have hnext : (t ++ segsT (s.segs.take k)) ++ shL [wTraffic, tplW g.kind] [g.ticks, g.rate] = t ++ segsT (s.segs.take (k + 1)) := by
        rw [List.take_succ_eq_append_getElem hlt, segsT_app, hg]; simp [segsT]
      have hTl : (t ++ segsT (s.segs.take k)).length ≤ 100000 := by simp only [List.length_append]; omega
      have hTn : t ++ segsT (s.segs.take k) ≠ [] := by simp [htn]
      obtain ⟨T, hTT⟩ : ∃ T, t ++ segsT (s.segs.take k) = T := ⟨_, rfl⟩
      rw [hTT] at hnext hTl hTn ⊢
      have e42 := h42 g.kind
      have h7 := fun gs h => hl7 gs (rS s) [wTraffic, tplW g.kind] [g.ticks, g.rate] (nV [g.ticks, g.rate]) T ⟨3, [[i64 g.kind, i64 g.ticks, i64 g.rate]]⟩ h (rS_ok s) (by simp) (by simp) (.inl rfl) (by simp) (by simp [tplW_len]) (by simp) (by simp [hgo.ticks, hgo.rate]) (by omega) hTn (by simp)
      rw [hnext] at h7
      simp [gsOk_iff, wV, nV, rS] at h7
      simp -implicitDefEqProofs (disch := first | omega | (simp <;> fail) | assumption) [rS, hlt, hg, e42, h7, del_bOb7, keep_bOb1, keep_bOb7, get_bOb1, nm_bOb7]
      exact ⟨k + 1, by simp, by omega, by omega⟩
    · obtain rfl : k = s.segs.length := by omega
      simp -implicitDefEqProofs (disch := first | omega | assumption) [rS, keep_bOb1]
  exact hin
theorem bOb_nil (rest : List (Nat × Obj)) : bOb [] rest = (kB, ⟨2, [[.ot .np, .nil 1]]⟩) :: rest := rfl
def TextC (g : List AV → Option (List AV)) : Prop := ∀ s : Scn, s.Ok → s.segs.length ≤ 30 → g [.agg s.cells] = some (if chkS s = 0 then [st (txtS s), i64 0] else [st [], i64 (chkS s)])
theorem show_Text_run (Γ : Env) (M : Nat) (hM : 100 < M) (hC : ChkC (Γ 25)) (h42 : TplC (Γ 42)) (h44 : DisC (Γ 44)) (hl : LineC (Γ.pt 70)) (hl7 : LineC7 (Γ.pt 70)) (hS : StrC (Γ.pt 69)) : TextC (run Γ M show_Text_f) := by
  intro s hs hn
  have e25 := hC s (by have := hs.nsegs; omega)
  have e44 := h44 s.disp
  simp only [Scn.cells] at e25
  by_cases h0 : chkS s = 0
  · rw [if_pos h0]
    rw [h0] at e25
    have n1 := shL_len [wBuilding] [s.floors, s.gap] (by simp) (by simp) (by simp)
    have n2 := shL_len [wCars] [s.cars, s.capacity] (by simp) (by simp) (by simp)
    have n3 := shL_len [wDoors] [s.opn, s.dwell, s.cls, s.transfer] (by simp) (by simp) (by simp)
    have n4 := segsT_len s.segs
    have n5 := shL_len [wDispatcher, disW s.disp] [] (by simp) (by simp [disW_len]) (by simp)
    have n6 := shL_len [wHorizon] [s.horizon] (by simp) (by simp) (by simp)
    have n7 := shL_len [wBins] [s.bins, s.width] (by simp) (by simp) (by simp)
    obtain ⟨T1, hT1⟩ : ∃ T, shL [wBuilding] [s.floors, s.gap] = T := ⟨_, rfl⟩
    obtain ⟨T2, hT2⟩ : ∃ T, T1 ++ shL [wCars] [s.cars, s.capacity] = T := ⟨_, rfl⟩
    obtain ⟨T3, hT3⟩ : ∃ T, T2 ++ shL [wDoors] [s.opn, s.dwell, s.cls, s.transfer] = T := ⟨_, rfl⟩
    obtain ⟨T4, hT4⟩ : ∃ T, T3 ++ segsT s.segs = T := ⟨_, rfl⟩
    obtain ⟨T5, hT5⟩ : ∃ T, T4 ++ shL [wDispatcher, disW s.disp] [] = T := ⟨_, rfl⟩
    obtain ⟨T6, hT6⟩ : ∃ T, T5 ++ shL [wHorizon] [s.horizon] = T := ⟨_, rfl⟩
    obtain ⟨T7, hT7⟩ : ∃ T, T6 ++ shL [wBins] [s.bins, s.width] = T := ⟨_, rfl⟩
    have hfin : txtS s = T7 := by rw [← hT7, ← hT6, ← hT5, ← hT4, ← hT3, ← hT2, ← hT1]; simp [txtS, headT]
    have m1 : T1 ≠ [] := by rw [← hT1]; exact shL_ne _ _
    have m2 : T2 ≠ [] := by rw [← hT2]; simp [m1]
    have m3 : T3 ≠ [] := by rw [← hT3]; simp [m2]
    have m4 : T4 ≠ [] := by rw [← hT4]; simp [m3]
    have m5 : T5 ≠ [] := by rw [← hT5]; simp [m4]
    have m6 : T6 ≠ [] := by rw [← hT6]; simp [m5]
    have m7 : T7 ≠ [] := by rw [← hT7]; simp [m6]
    have k1 : T1.length ≤ 400 := by rw [← hT1]; exact n1
    have k2 : T2.length ≤ 800 := by rw [← hT2]; simp only [List.length_append]; omega
    have k3 : T3.length ≤ 1200 := by rw [← hT3]; simp only [List.length_append]; omega
    have k4 : T4.length ≤ 20000 := by rw [← hT4]; simp only [List.length_append]; omega
    have k5 : T5.length ≤ 21000 := by rw [← hT5]; simp only [List.length_append]; omega
    have k6 : T6.length ≤ 22000 := by rw [← hT6]; simp only [List.length_append]; omega
    have k7 : T7.length ≤ 23000 := by rw [← hT7]; simp only [List.length_append]; omega
    have c1 := fun gs h => hl gs (rS s) [wBuilding] [s.floors, s.gap] (nV [s.floors, s.gap]) [] h (rS_ok s) (.inl rfl) (by simp) (by simp) (by simp) (by simp [hs.floors, hs.gap]) (by simp) ⟨_, _, rfl, .inr (by simp)⟩
    have c2 := fun gs h => hl gs (rS s) [wCars] [s.cars, s.capacity] (nV [s.cars, s.capacity]) T1 h (rS_ok s) (.inl rfl) (by simp) (by simp) (by simp) (by simp [hs.cars, hs.capacity]) (by omega) ⟨_, _, rfl, .inl m1⟩
    have c3 := fun gs h => hl gs (rS s) [wDoors] [s.opn, s.dwell, s.cls, s.transfer] (nV [s.opn, s.dwell, s.cls, s.transfer]) T2 h (rS_ok s) (.inl rfl) (by simp) (by simp) (by simp) (by simp [hs.opn, hs.dwell, hs.cls, hs.transfer]) (by omega) ⟨_, _, rfl, .inl m2⟩
    have c5 := fun gs h => hl gs (rS s) [wDispatcher, disW s.disp] [] (.nil 1) T4 h (rS_ok s) (.inr ⟨rfl, rfl⟩) (by simp) (by simp [disW_len]) (by simp) (by simp) (by omega) ⟨_, _, rfl, .inl m4⟩
    have c6 := fun gs h => hl gs (rS s) [wHorizon] [s.horizon] (nV [s.horizon]) T5 h (rS_ok s) (.inl rfl) (by simp) (by simp) (by simp) (by simp [hs.horizon]) (by omega) ⟨_, _, rfl, .inl m5⟩
    have c7 := fun gs h => hl gs (rS s) [wBins] [s.bins, s.width] (nV [s.bins, s.width]) T6 h (rS_ok s) (.inl rfl) (by simp) (by simp) (by simp) (by simp [hs.bins, hs.width]) (by omega) ⟨_, _, rfl, .inl m6⟩
    have c8 := fun gs h => hS gs [] T7 h ⟨rfl, rfl, rfl, rfl⟩ m7 (by omega)
    rw [List.nil_append, hT1] at c1
    rw [hT2] at c2
    rw [hT3] at c3
    rw [hT5] at c5
    rw [hT6] at c6
    rw [hT7] at c7
    have hlp : lp (exec Γ M show_Text_l1) M ⟨[(1, .loc 1 0 0), (5, .loc kB 0 0), (39, .c (.vs 3 (s.segs.map Seg.cells))), (40, .c (.int .i64 s.segs.length)), (41, .c (.int .i64 0))], bOb T3 (rS s)⟩ = some (.ex 0, ⟨[(1, .loc 1 0 0), (5, .loc kB 0 0)], bOb T4 (rS s)⟩) := by
      have := text_l1 Γ M hM hl7 h42 s hs hn T3 (by omega) m3 ⟨[(1, .loc 1 0 0), (5, .loc kB 0 0), (39, .c (.vs 3 (s.segs.map Seg.cells))), (40, .c (.int .i64 s.segs.length)), (41, .c (.int .i64 0))], bOb T3 (rS s)⟩ (by simp [segsT, keep_bOb1, rS])
      rw [hT4] at this
      exact this
    rw [hfin]
    rw [bOb_nil] at c1
    simp [gsOk_iff, wV, nV, rS] at c1 c2 c3 c5 c6 c7 c8
    simp [rS] at hlp
    simp -implicitDefEqProofs (disch := first | omega | (simp <;> fail) | assumption) [rS, e25, e44, hlp, c1, c2, c3, c5, c6, c7, c8, del_bOb7, keep_bOb1, keep_bOb0, get_bOb1]
  · rw [if_neg h0]
    simp -implicitDefEqProofs (disch := first | omega | (simp <;> fail) | assumption) [e25, h0]
end Go.Am
