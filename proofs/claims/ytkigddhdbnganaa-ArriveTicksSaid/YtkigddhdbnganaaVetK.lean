/- Law 20: what may be, and what is the same. -/
import Derived.Test.YtkigddhdbnganaaGrCode
import Derived.Test.YtkigddhdbnganaaData
set_option linter.unusedVariables false
set_option linter.unusedSimpArgs false
set_option maxRecDepth 10000
set_option maxHeartbeats 1000000
namespace Go.Am
def bnd (s : List UInt8) : Int × Int × Bool :=
  if s = [102, 108, 111, 111, 114, 115] then (2, 128, true) else if s = [103, 97, 112] then (1, 16, true) else if s = [99, 97, 114, 115] then (1, 16, true) else if s = [99, 97, 112, 97, 99, 105, 116, 121] then (1, 64, true) else if s = [111, 112, 101, 110] then (1, 64, true) else if s = [100, 119, 101, 108, 108] then (1, 64, true) else if s = [99, 108, 111, 115, 101] then (1, 64, true) else if s = [116, 114, 97, 110, 115, 102, 101, 114] then (1, 64, true) else if s = [116, 105, 99, 107, 115] then (1, 1048576, true) else if s = [104, 111, 114, 105, 122, 111, 110] then (1, 1048576, true) else if s = [114, 97, 116, 101] then (0, 4000, true) else if s = [98, 105, 110, 115] then (1, 64, true) else if s = [119, 105, 100, 116, 104] then (1, 4096, true) else (0, 0, false)
def Bounds (g : List AV → Option (List AV)) : Prop := ∀ x : List UInt8, g [st x] = some [i64 (bnd x).1, i64 (bnd x).2.1, bo (bnd x).2.2]
theorem vet_Bounds_run (Γ : Env) (M : Nat) : Bounds (run Γ M vet_Bounds_f) := by
  intro x
  by_cases c0 : x = [102, 108, 111, 111, 114, 115]
  · subst c0; simp -implicitDefEqProofs (disch := omega) [bnd]
  by_cases c1 : x = [103, 97, 112]
  · subst c1; simp -implicitDefEqProofs (disch := omega) [bnd]
  by_cases c2 : x = [99, 97, 114, 115]
  · subst c2; simp -implicitDefEqProofs (disch := omega) [bnd]
  by_cases c3 : x = [99, 97, 112, 97, 99, 105, 116, 121]
  · subst c3; simp -implicitDefEqProofs (disch := omega) [bnd]
  by_cases c4 : x = [111, 112, 101, 110]
  · subst c4; simp -implicitDefEqProofs (disch := omega) [bnd]
  by_cases c5 : x = [100, 119, 101, 108, 108]
  · subst c5; simp -implicitDefEqProofs (disch := omega) [bnd]
  by_cases c6 : x = [99, 108, 111, 115, 101]
  · subst c6; simp -implicitDefEqProofs (disch := omega) [bnd]
  by_cases c7 : x = [116, 114, 97, 110, 115, 102, 101, 114]
  · subst c7; simp -implicitDefEqProofs (disch := omega) [bnd]
  by_cases c8 : x = [116, 105, 99, 107, 115]
  · subst c8; simp -implicitDefEqProofs (disch := omega) [bnd]
  by_cases c9 : x = [104, 111, 114, 105, 122, 111, 110]
  · subst c9; simp -implicitDefEqProofs (disch := omega) [bnd]
  by_cases c10 : x = [114, 97, 116, 101]
  · subst c10; simp -implicitDefEqProofs (disch := omega) [bnd]
  by_cases c11 : x = [98, 105, 110, 115]
  · subst c11; simp -implicitDefEqProofs (disch := omega) [bnd]
  by_cases c12 : x = [119, 105, 100, 116, 104]
  · subst c12; simp -implicitDefEqProofs (disch := omega) [bnd]
  simp -implicitDefEqProofs (disch := omega) [bnd, c0, c1, c2, c3, c4, c5, c6, c7, c8, c9, c10, c11, c12]
theorem ref20_Bounds_run (Γ : Env) (M : Nat) : Bounds (run Γ (M + 20) ref20_Bounds_f) := by
  intro x
  by_cases c0 : x = [102, 108, 111, 111, 114, 115]
  · subst c0; simp -implicitDefEqProofs (disch := omega) [bnd, lp_succ, ref20_Bounds_l1_x]
  by_cases c1 : x = [103, 97, 112]
  · subst c1; simp -implicitDefEqProofs (disch := omega) [bnd, lp_succ, ref20_Bounds_l1_x]
  by_cases c2 : x = [99, 97, 114, 115]
  · subst c2; simp -implicitDefEqProofs (disch := omega) [bnd, lp_succ, ref20_Bounds_l1_x]
  by_cases c3 : x = [99, 97, 112, 97, 99, 105, 116, 121]
  · subst c3; simp -implicitDefEqProofs (disch := omega) [bnd, lp_succ, ref20_Bounds_l1_x]
  by_cases c4 : x = [111, 112, 101, 110]
  · subst c4; simp -implicitDefEqProofs (disch := omega) [bnd, lp_succ, ref20_Bounds_l1_x]
  by_cases c5 : x = [100, 119, 101, 108, 108]
  · subst c5; simp -implicitDefEqProofs (disch := omega) [bnd, lp_succ, ref20_Bounds_l1_x]
  by_cases c6 : x = [99, 108, 111, 115, 101]
  · subst c6; simp -implicitDefEqProofs (disch := omega) [bnd, lp_succ, ref20_Bounds_l1_x]
  by_cases c7 : x = [116, 114, 97, 110, 115, 102, 101, 114]
  · subst c7; simp -implicitDefEqProofs (disch := omega) [bnd, lp_succ, ref20_Bounds_l1_x]
  by_cases c8 : x = [116, 105, 99, 107, 115]
  · subst c8; simp -implicitDefEqProofs (disch := omega) [bnd, lp_succ, ref20_Bounds_l1_x]
  by_cases c9 : x = [104, 111, 114, 105, 122, 111, 110]
  · subst c9; simp -implicitDefEqProofs (disch := omega) [bnd, lp_succ, ref20_Bounds_l1_x]
  by_cases c10 : x = [114, 97, 116, 101]
  · subst c10; simp -implicitDefEqProofs (disch := omega) [bnd, lp_succ, ref20_Bounds_l1_x]
  by_cases c11 : x = [98, 105, 110, 115]
  · subst c11; simp -implicitDefEqProofs (disch := omega) [bnd, lp_succ, ref20_Bounds_l1_x]
  by_cases c12 : x = [119, 105, 100, 116, 104]
  · subst c12; simp -implicitDefEqProofs (disch := omega) [bnd, lp_succ, ref20_Bounds_l1_x]
  simp -implicitDefEqProofs (disch := omega) [bnd, lp_succ, ref20_Bounds_l1_x, c0, Ne.symm c0, c1, Ne.symm c1, c2, Ne.symm c2, c3, Ne.symm c3, c4, Ne.symm c4, c5, Ne.symm c5, c6, Ne.symm c6, c7, Ne.symm c7, c8, Ne.symm c8, c9, Ne.symm c9, c10, Ne.symm c10, c11, Ne.symm c11, c12, Ne.symm c12]
def inB (x : List UInt8) (n : Int) : Bool := (bnd x).2.2 && decide ((bnd x).1 ≤ n) && decide (n ≤ (bnd x).2.1)
def InC (g : List AV → Option (List AV)) : Prop := ∀ (x : List UInt8) (n : Int), g [st x, i64 n] = some [bo (inB x n)]
theorem vet_In_run {Γ : Env} {M : Nat} (h : Bounds (Γ 24)) : InC (run Γ M vet_In_f) := by
  intro x n
  have e := h x
  unfold inB
  generalize bnd x = q at e ⊢
  obtain ⟨lo, hi, is⟩ := q
  cases is
  · simp -implicitDefEqProofs (disch := omega) [e]
  by_cases c1 : lo ≤ n
  · simp -implicitDefEqProofs (disch := omega) [e, c1]
  · simp -implicitDefEqProofs (disch := omega) [e, c1]
theorem ref20_In_run {Γ : Env} {M : Nat} (h : Bounds (Γ 23)) : InC (run Γ M ref20_In_f) := by
  intro x n
  have e := h x
  unfold inB
  generalize bnd x = q at e ⊢
  obtain ⟨lo, hi, is⟩ := q
  cases is
  · simp -implicitDefEqProofs (disch := omega) [e]
  by_cases c1 : lo ≤ n
  · simp -implicitDefEqProofs (disch := omega) [e, c1]
  · simp -implicitDefEqProofs (disch := omega) [e, c1]
def numOk (s : Scn) : Bool := inB [102, 108, 111, 111, 114, 115] s.floors && inB [103, 97, 112] s.gap && inB [99, 97, 114, 115] s.cars && inB [99, 97, 112, 97, 99, 105, 116, 121] s.capacity && inB [111, 112, 101, 110] s.opn && inB [100, 119, 101, 108, 108] s.dwell && inB [99, 108, 111, 115, 101] s.cls && inB [116, 114, 97, 110, 115, 102, 101, 114] s.transfer && inB [104, 111, 114, 105, 122, 111, 110] s.horizon && inB [98, 105, 110, 115] s.bins && inB [119, 105, 100, 116, 104] s.width
def Numbers (g : List AV → Option (List AV)) : Prop := ∀ s : Scn, g [.agg s.cells] = some [bo (numOk s)]
theorem vet_numbers_run {Γ : Env} {M : Nat} (h : InC (Γ 20)) : Numbers (run Γ M vet_numbers_f) := by
  intro s
  unfold numOk
  have e0 := h [102, 108, 111, 111, 114, 115] s.floors
  have e1 := h [103, 97, 112] s.gap
  have e2 := h [99, 97, 114, 115] s.cars
  have e3 := h [99, 97, 112, 97, 99, 105, 116, 121] s.capacity
  have e4 := h [111, 112, 101, 110] s.opn
  have e5 := h [100, 119, 101, 108, 108] s.dwell
  have e6 := h [99, 108, 111, 115, 101] s.cls
  have e7 := h [116, 114, 97, 110, 115, 102, 101, 114] s.transfer
  have e8 := h [104, 111, 114, 105, 122, 111, 110] s.horizon
  have e9 := h [98, 105, 110, 115] s.bins
  have e10 := h [119, 105, 100, 116, 104] s.width
  cases c0 : inB [102, 108, 111, 111, 114, 115] s.floors
  · rw [c0] at e0; simp -implicitDefEqProofs (disch := omega) [e0]
  rw [c0] at e0
  cases c1 : inB [103, 97, 112] s.gap
  · rw [c1] at e1; simp -implicitDefEqProofs (disch := omega) [e0, e1]
  rw [c1] at e1
  cases c2 : inB [99, 97, 114, 115] s.cars
  · rw [c2] at e2; simp -implicitDefEqProofs (disch := omega) [e0, e1, e2]
  rw [c2] at e2
  cases c3 : inB [99, 97, 112, 97, 99, 105, 116, 121] s.capacity
  · rw [c3] at e3; simp -implicitDefEqProofs (disch := omega) [e0, e1, e2, e3]
  rw [c3] at e3
  cases c4 : inB [111, 112, 101, 110] s.opn
  · rw [c4] at e4; simp -implicitDefEqProofs (disch := omega) [e0, e1, e2, e3, e4]
  rw [c4] at e4
  cases c5 : inB [100, 119, 101, 108, 108] s.dwell
  · rw [c5] at e5; simp -implicitDefEqProofs (disch := omega) [e0, e1, e2, e3, e4, e5]
  rw [c5] at e5
  cases c6 : inB [99, 108, 111, 115, 101] s.cls
  · rw [c6] at e6; simp -implicitDefEqProofs (disch := omega) [e0, e1, e2, e3, e4, e5, e6]
  rw [c6] at e6
  cases c7 : inB [116, 114, 97, 110, 115, 102, 101, 114] s.transfer
  · rw [c7] at e7; simp -implicitDefEqProofs (disch := omega) [e0, e1, e2, e3, e4, e5, e6, e7]
  rw [c7] at e7
  cases c8 : inB [104, 111, 114, 105, 122, 111, 110] s.horizon
  · rw [c8] at e8; simp -implicitDefEqProofs (disch := omega) [e0, e1, e2, e3, e4, e5, e6, e7, e8]
  rw [c8] at e8
  cases c9 : inB [98, 105, 110, 115] s.bins
  · rw [c9] at e9; simp -implicitDefEqProofs (disch := omega) [e0, e1, e2, e3, e4, e5, e6, e7, e8, e9]
  rw [c9] at e9
  cases c10 : inB [119, 105, 100, 116, 104] s.width
  · rw [c10] at e10; simp -implicitDefEqProofs (disch := omega) [e0, e1, e2, e3, e4, e5, e6, e7, e8, e9, e10]
  rw [c10] at e10
  simp -implicitDefEqProofs (disch := omega) [e0, e1, e2, e3, e4, e5, e6, e7, e8, e9, e10]
def segErr (g : Seg) : Int := if g.kind < 1 ∨ 4 < g.kind then 260 else if inB [116, 105, 99, 107, 115] g.ticks && inB [114, 97, 116, 101] g.rate then 0 else 264
def chkSegs : List Seg → Int
  | [] => 0
  | g :: r => if segErr g = 0 then chkSegs r else segErr g
def SegC (g : List AV → Option (List AV)) : Prop := ∀ x : Seg, g [.agg x.cells] = some [i64 (segErr x)]
theorem vet_segment_run {Γ : Env} {M : Nat} (h : InC (Γ 20)) : SegC (run Γ M vet_segment_f) := by
  intro x
  have e1 := h [116, 105, 99, 107, 115] x.ticks
  have e2 := h [114, 97, 116, 101] x.rate
  unfold segErr
  by_cases c1 : x.kind < 1
  · simp -implicitDefEqProofs (disch := omega) [c1]
  by_cases c2 : 4 < x.kind
  · simp -implicitDefEqProofs (disch := omega) [c1, c2]
  cases c3 : inB [116, 105, 99, 107, 115] x.ticks
  · rw [c3] at e1; simp -implicitDefEqProofs (disch := omega) [c1, c2, e1]
  rw [c3] at e1
  cases c4 : inB [114, 97, 116, 101] x.rate
  · rw [c4] at e2; simp -implicitDefEqProofs (disch := omega) [c1, c2, e1, e2]
  rw [c4] at e2
  simp -implicitDefEqProofs (disch := omega) [c1, c2, e1, e2]
theorem chkSegs_drop {l : List Seg} {i : Nat} (h : i < l.length) : chkSegs (l.drop i) = if segErr l[i] = 0 then chkSegs (l.drop (i + 1)) else segErr l[i] := by
  rw [List.drop_eq_getElem_cons h, chkSegs]
@[simp] def segR (l : List Seg) (ax : AX) (s' : St) (i : Nat) (s : St) : Prop := (ax = .ex i ∧ s' = s ∧ chkSegs l = 0) ∨ (ax = .ret ∧ s' = ⟨[(2, i64 (chkSegs l))], []⟩ ∧ chkSegs l ≠ 0)
theorem vet_Check_segs {Γ : Env} {N M : Nat} {l : List Seg} (hS : SegC (Γ 63)) (hl : l.length ≤ 8) (hM : l.length < M) :
    ∃ ax s', segR l ax s' 1 ⟨[], []⟩ ∧ ∀ s, nrm [30, 31, 32] [] s = ⟨[(30, .c (.vs 3 (l.map Seg.cells))), (31, i64 l.length), (32, i64 (0 : Nat))], []⟩ → lp (exec Γ N vet_Check_l1) M s = some (ax, s') := by
  refine lp_all (fun i : Nat => ⟨[(30, .c (.vs 3 (l.map Seg.cells))), (31, i64 l.length), (32, i64 i)], []⟩) (fun i => i ≤ l.length ∧ chkSegs (l.drop i) = chkSegs l) (fun i => l.length - i)
    (fun ax s' => segR l ax s' 1 ⟨[], []⟩) 0 M (by simp) ⟨by omega, by simp⟩ (by omega) ?_
  rintro i ⟨hi, hc⟩
  by_cases hlt : i < l.length
  · obtain ⟨x, hx⟩ : ∃ x, l[i]'hlt = x := ⟨_, rfl⟩
    have e := hS x
    simp only [Seg.cells] at e
    rw [chkSegs_drop hlt, hx] at hc
    by_cases c : segErr x = 0
    · rw [if_pos c] at hc
      rw [c] at e
      simp -implicitDefEqProofs (disch := omega) [hx, e]
      exact ⟨i + 1, by omega, ⟨by omega, hc⟩, by omega⟩
    · rw [if_neg c] at hc
      rw [hc] at c e
      simp -implicitDefEqProofs (disch := omega) [hx, e, c]
  · obtain rfl : i = l.length := by omega
    have hc : chkSegs l = 0 := by rw [← hc]; simp [chkSegs]
    simp -implicitDefEqProofs (disch := omega) [hc]
def chkS (s : Scn) : Int := if numOk s = false then 264 else if s.disp < 1 ∨ 4 < s.disp then 260 else if s.segs.length = 0 then 263 else if 8 < s.segs.length then 21 else chkSegs s.segs
def ChkC (g : List AV → Option (List AV)) : Prop := ∀ s : Scn, s.segs.length ≤ maxLen → g [.agg s.cells] = some [i64 (chkS s)]
theorem vet_Check_run {Γ : Env} {M : Nat} (hM : 100 ≤ M) (hS : SegC (Γ 63)) (hN : Numbers (Γ 64)) : ChkC (run Γ M vet_Check_f) := by
  intro s hs
  have e := hN s
  have hmax := maxLen_eq
  unfold chkS
  simp only [Scn.cells] at e
  cases c0 : numOk s
  · rw [c0] at e; simp -implicitDefEqProofs (disch := omega) [e]
  rw [c0] at e
  by_cases c1 : s.disp < 1
  · simp -implicitDefEqProofs (disch := omega) [e, c1]
  by_cases c2 : 4 < s.disp
  · simp -implicitDefEqProofs (disch := omega) [e, c1, c2]
  by_cases c3 : s.segs.length = 0
  · simp -implicitDefEqProofs (disch := omega) [e, c1, c2, c3]
  by_cases c4 : 8 < s.segs.length
  · simp -implicitDefEqProofs (disch := omega) [e, c1, c2, c3, c4]
  have c3' : ¬ s.segs = [] := fun h => c3 (by rw [h]; rfl)
  obtain ⟨ax, s', (⟨rfl, rfl, h4⟩ | ⟨rfl, rfl, h4⟩), h3⟩ := vet_Check_segs (Γ := Γ) (N := M) (M := M) (l := s.segs) hS (by omega) (by omega)
  · simp -implicitDefEqProofs (disch := first | omega | (simp <;> fail) | assumption) [e, c1, c2, c3, c3', c4, h3, h4]
  · simp -implicitDefEqProofs (disch := first | omega | (simp <;> fail) | assumption) [e, c1, c2, c3, c3', c4, h3]
theorem ref20_Check_segs {Γ : Env} {N M : Nat} {s : Scn} (hI : InC (Γ 21)) (hl : s.segs.length ≤ 8) (hM : s.segs.length < M) :
    ∃ ax s', segR s.segs ax s' 2 ⟨[], []⟩ ∧ ∀ t, nrm [1, 6] [1] t = ⟨[(1, .loc 1 0 0), (6, i64 (0 : Nat))], [(1, ⟨13, [toAV s.cells]⟩)]⟩ → lp (exec Γ N ref20_Check_l1) M t = some (ax, s') := by
  refine lp_all (fun i : Nat => ⟨[(1, .loc 1 0 0), (6, i64 i)], [(1, ⟨13, [toAV s.cells]⟩)]⟩) (fun i => i ≤ s.segs.length ∧ chkSegs (s.segs.drop i) = chkSegs s.segs) (fun i => s.segs.length - i)
    (fun ax s' => segR s.segs ax s' 2 ⟨[], []⟩) 0 M (by simp) ⟨by omega, by simp⟩ (by omega) ?_
  rintro i ⟨hi, hc⟩
  by_cases hlt : i < s.segs.length
  · obtain ⟨x, hx⟩ : ∃ x, s.segs[i]'hlt = x := ⟨_, rfl⟩
    have e1 := hI [116, 105, 99, 107, 115] x.ticks
    have e2 := hI [114, 97, 116, 101] x.rate
    rw [chkSegs_drop hlt, hx] at hc
    by_cases c1 : x.kind < 1
    · simp only [segErr, c1, true_or, if_true] at hc
      have hc : chkSegs s.segs = 260 := by rw [← hc]; rfl
      simp -implicitDefEqProofs (disch := omega) [hx, c1, hc]
    by_cases c2 : 4 < x.kind
    · simp only [segErr, c2, or_true, if_true] at hc
      have hc : chkSegs s.segs = 260 := by rw [← hc]; rfl
      simp -implicitDefEqProofs (disch := omega) [hx, c1, c2, hc]
    cases c3 : inB [116, 105, 99, 107, 115] x.ticks
    · simp only [segErr, c1, c2, c3, or_self, if_false, Bool.false_and, Bool.false_eq_true] at hc
      have hc : chkSegs s.segs = 264 := by rw [← hc]; rfl
      rw [c3] at e1
      simp -implicitDefEqProofs (disch := omega) [hx, c1, c2, e1, hc]
    rw [c3] at e1
    cases c4 : inB [114, 97, 116, 101] x.rate
    · simp only [segErr, c1, c2, c3, c4, or_self, if_false, Bool.and_false, Bool.false_eq_true] at hc
      have hc : chkSegs s.segs = 264 := by rw [← hc]; rfl
      rw [c4] at e2
      simp -implicitDefEqProofs (disch := omega) [hx, c1, c2, e1, e2, hc]
    rw [c4] at e2
    simp only [segErr, c1, c2, c3, c4, or_self, if_false, Bool.and_true, if_true] at hc
    simp -implicitDefEqProofs (disch := omega) [hx, c1, c2, e1, e2]
    exact ⟨i + 1, by omega, ⟨by omega, hc⟩, by omega⟩
  · obtain rfl : i = s.segs.length := by omega
    have hc : chkSegs s.segs = 0 := by rw [← hc]; simp [chkSegs]
    simp -implicitDefEqProofs (disch := omega) [hc]
theorem ref20_Check_run {Γ : Env} {M : Nat} (hI : InC (Γ 21)) : ChkC (run Γ (M + 100) ref20_Check_f) := by
  intro s hs
  have hmax := maxLen_eq
  unfold chkS numOk
  have e0 := hI [102, 108, 111, 111, 114, 115] s.floors
  have e1 := hI [103, 97, 112] s.gap
  have e2 := hI [99, 97, 114, 115] s.cars
  have e3 := hI [99, 97, 112, 97, 99, 105, 116, 121] s.capacity
  have e4 := hI [111, 112, 101, 110] s.opn
  have e5 := hI [100, 119, 101, 108, 108] s.dwell
  have e6 := hI [99, 108, 111, 115, 101] s.cls
  have e7 := hI [116, 114, 97, 110, 115, 102, 101, 114] s.transfer
  have e8 := hI [104, 111, 114, 105, 122, 111, 110] s.horizon
  have e9 := hI [98, 105, 110, 115] s.bins
  have e10 := hI [119, 105, 100, 116, 104] s.width
  cases c0 : inB [102, 108, 111, 111, 114, 115] s.floors
  · rw [c0] at e0; simp -implicitDefEqProofs (disch := omega) [lp_succ (exec Γ (M + 100) ref20_Check_l2), ref20_Check_l2_x, e0]
  rw [c0] at e0
  cases c1 : inB [103, 97, 112] s.gap
  · rw [c1] at e1; simp -implicitDefEqProofs (disch := omega) [lp_succ (exec Γ (M + 100) ref20_Check_l2), ref20_Check_l2_x, e0, e1]
  rw [c1] at e1
  cases c2 : inB [99, 97, 114, 115] s.cars
  · rw [c2] at e2; simp -implicitDefEqProofs (disch := omega) [lp_succ (exec Γ (M + 100) ref20_Check_l2), ref20_Check_l2_x, e0, e1, e2]
  rw [c2] at e2
  cases c3 : inB [99, 97, 112, 97, 99, 105, 116, 121] s.capacity
  · rw [c3] at e3; simp -implicitDefEqProofs (disch := omega) [lp_succ (exec Γ (M + 100) ref20_Check_l2), ref20_Check_l2_x, e0, e1, e2, e3]
  rw [c3] at e3
  cases c4 : inB [111, 112, 101, 110] s.opn
  · rw [c4] at e4; simp -implicitDefEqProofs (disch := omega) [lp_succ (exec Γ (M + 100) ref20_Check_l2), ref20_Check_l2_x, e0, e1, e2, e3, e4]
  rw [c4] at e4
  cases c5 : inB [100, 119, 101, 108, 108] s.dwell
  · rw [c5] at e5; simp -implicitDefEqProofs (disch := omega) [lp_succ (exec Γ (M + 100) ref20_Check_l2), ref20_Check_l2_x, e0, e1, e2, e3, e4, e5]
  rw [c5] at e5
  cases c6 : inB [99, 108, 111, 115, 101] s.cls
  · rw [c6] at e6; simp -implicitDefEqProofs (disch := omega) [lp_succ (exec Γ (M + 100) ref20_Check_l2), ref20_Check_l2_x, e0, e1, e2, e3, e4, e5, e6]
  rw [c6] at e6
  cases c7 : inB [116, 114, 97, 110, 115, 102, 101, 114] s.transfer
  · rw [c7] at e7; simp -implicitDefEqProofs (disch := omega) [lp_succ (exec Γ (M + 100) ref20_Check_l2), ref20_Check_l2_x, e0, e1, e2, e3, e4, e5, e6, e7]
  rw [c7] at e7
  cases c8 : inB [104, 111, 114, 105, 122, 111, 110] s.horizon
  · rw [c8] at e8; simp -implicitDefEqProofs (disch := omega) [lp_succ (exec Γ (M + 100) ref20_Check_l2), ref20_Check_l2_x, e0, e1, e2, e3, e4, e5, e6, e7, e8]
  rw [c8] at e8
  cases c9 : inB [98, 105, 110, 115] s.bins
  · rw [c9] at e9; simp -implicitDefEqProofs (disch := omega) [lp_succ (exec Γ (M + 100) ref20_Check_l2), ref20_Check_l2_x, e0, e1, e2, e3, e4, e5, e6, e7, e8, e9]
  rw [c9] at e9
  cases c10 : inB [119, 105, 100, 116, 104] s.width
  · rw [c10] at e10; simp -implicitDefEqProofs (disch := omega) [lp_succ (exec Γ (M + 100) ref20_Check_l2), ref20_Check_l2_x, e0, e1, e2, e3, e4, e5, e6, e7, e8, e9, e10]
  rw [c10] at e10
  by_cases c1 : s.disp < 1
  · simp -implicitDefEqProofs (disch := omega) [lp_succ (exec Γ (M + 100) ref20_Check_l2), ref20_Check_l2_x, e0, e1, e2, e3, e4, e5, e6, e7, e8, e9, e10, c1]
  by_cases c2 : 4 < s.disp
  · simp -implicitDefEqProofs (disch := omega) [lp_succ (exec Γ (M + 100) ref20_Check_l2), ref20_Check_l2_x, e0, e1, e2, e3, e4, e5, e6, e7, e8, e9, e10, c1, c2]
  by_cases c3 : s.segs.length = 0
  · simp -implicitDefEqProofs (disch := omega) [lp_succ (exec Γ (M + 100) ref20_Check_l2), ref20_Check_l2_x, e0, e1, e2, e3, e4, e5, e6, e7, e8, e9, e10, c1, c2, c3]
  by_cases c4 : 8 < s.segs.length
  · simp -implicitDefEqProofs (disch := omega) [lp_succ (exec Γ (M + 100) ref20_Check_l2), ref20_Check_l2_x, e0, e1, e2, e3, e4, e5, e6, e7, e8, e9, e10, c1, c2, c3, c4]
  have c3' : ¬ s.segs = [] := fun h => c3 (by rw [h]; rfl)
  obtain ⟨ax, s', (⟨rfl, rfl, h4⟩ | ⟨rfl, rfl, h4⟩), h3⟩ := ref20_Check_segs (Γ := Γ) (N := M + 100) (M := M + 100) (s := s) hI (by omega) (by omega)
  · simp -implicitDefEqProofs (disch := first | omega | (simp <;> fail) | assumption) [lp_succ (exec Γ (M + 100) ref20_Check_l2), ref20_Check_l2_x, e0, e1, e2, e3, e4, e5, e6, e7, e8, e9, e10, c1, c2, c3, c3', c4, h3, h4]
  · simp -implicitDefEqProofs (disch := first | omega | (simp <;> fail) | assumption) [lp_succ (exec Γ (M + 100) ref20_Check_l2), ref20_Check_l2_x, e0, e1, e2, e3, e4, e5, e6, e7, e8, e9, e10, c1, c2, c3, c3', c4, h3]

end Go.Am
