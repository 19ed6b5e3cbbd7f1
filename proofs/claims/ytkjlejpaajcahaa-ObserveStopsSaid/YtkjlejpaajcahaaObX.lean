/- Law 58: the busiest floor, as a function from outside of the table. -/
import Derived.Test.YtkjlejpaajcahaaObW
set_option linter.unusedVariables false
set_option linter.unusedSimpArgs false
set_option maxRecDepth 10000
set_option maxHeartbeats 4000000
namespace Go.Am
open Go.Proofs Go.RowKit
theorem fm_key (L : List P2) {done : List En} (hp : done.Perm (cntE L).2) : (∀ e ∈ (fmE done).2, e.n = ((L.map (·.2)).count e.f : Int)) ∧ (∀ x, x ∈ (fmE done).2.map (·.f) ↔ x ∈ L.map (·.2)) ∧ (fmE done).2.length ≤ (cntE L).2.length := by
  obtain ⟨h1, h2, h3, h4, h5, h6⟩ := fm_fmE done
  have hc := cn_cnt L
  refine ⟨fun e he => by rw [h4 e he, sumF_perm hp, sumF_cnt], fun x => ⟨fun hx => ?_, fun hx => ?_⟩, ?_⟩
  · obtain ⟨e, he, rfl⟩ := List.mem_map.1 hx
    obtain ⟨d, hd, hde⟩ := h6 e he
    have := hc.val d (hp.mem_iff.1 hd)
    have hm : kE d ∈ L := List.count_pos_iff.1 (by omega)
    exact List.mem_map.2 ⟨kE d, hm, hde⟩
  · obtain ⟨k, hk, rfl⟩ := List.mem_map.1 hx
    obtain ⟨d, hd, hdk⟩ := hc.all k hk
    obtain ⟨e, he, hef⟩ := h5 d (hp.mem_iff.2 hd)
    exact List.mem_map.2 ⟨e, he, by rw [hef, ← hdk]; rfl⟩
  · have := nd_le h3 (B := done.map (·.y)) fun x hx => by
      obtain ⟨e, he, rfl⟩ := List.mem_map.1 hx
      obtain ⟨d, hd, hde⟩ := h6 e he
      exact List.mem_map.2 ⟨d, hd, hde⟩
    rw [List.length_map, List.length_map, hp.length_eq] at this
    exact this
theorem busy_walk (Γ : Env) (hS : StopsC (Γ.pt 76)) (M : Nat) (hM : 2000 < M) (l : List Trip) (hl : l.length ≤ 100) :
    execW Γ M observe_Busiest_f.body ⟨args 0 [vT l], []⟩ (EndD observe_Busiest_f [i64 (busyF (flO l)).1, bo (busyF (flO l)).2]) := by
  have hc := cn_cnt (evO l)
  have hlen : (evO l).length ≤ 200 := by have := evO_len l; omega
  have hnn : ∀ e ∈ (cntE (evO l)).2, 0 ≤ e.n ∧ e.n ≤ 1000 := fun e he => ⟨by have := (hc.val e he).2; omega, cnt_small (evO l) (by omega) e he⟩
  have hsum := sum_cnt (evO l)
  have hel := len_cnt (evO l)
  have eS : ∀ gs, Gh gs → nmFr 76005 gs = true → nmFr 1461501637330902918203684832716283019655932618982 gs = true → Γ.pt 76 ⟨(0, vT l) :: gs, [(1461501637330902918203684832716283019655932542987, ⟨0, []⟩)]⟩ = some ([.mp 1461501637330902918203684832716283019655932618982], [(1461501637330902918203684832716283019655932618982, ⟨(cntE (evO l)).1, roE (cntE (evO l)).2⟩), (1461501637330902918203684832716283019655932542987, ⟨0, []⟩)]) := fun gs a b c => hS l gs [(1461501637330902918203684832716283019655932542987, ⟨0, []⟩)] hl ⟨a, fun _ => rfl, b, c, rfl, rfl, rfl, rfl⟩
  have hend : ∀ (bs : Int × Bool) (es : List En) (z : Nat), bs = busyF (flO l) → EndD observe_Busiest_f [i64 (busyF (flO l)).1, bo (busyF (flO l)).2] .ret ⟨[(2, i64 bs.1), (3, bo bs.2)], [(1461501637330902918203684832716283019655932618982, ⟨z, roE es⟩)]⟩ := by
    rintro bs es z rfl
    exact ⟨.inr rfl, [i64 (busyF (flO l)).1, bo (busyF (flO l)).2], by simp [observe_Busiest_f], by simp⟩
  have hfm := fun done hp => fm_key (evO l) (done := done) hp
  have hbi : ∀ (bs : Int × Bool) (S : List Int), (∀ x, x ∈ S ↔ x ∈ (evO l).map (·.2)) → InvB (fun f => ((flO l).count f : Int)) S bs → bs = busyF (flO l) := fun bs S hS hI => invB_uniq hS hI (busyF_inv (flO l))
  obtain ⟨⟨z, es⟩, hq⟩ : ∃ q, cntE (evO l) = q := ⟨_, rfl⟩
  rw [hq] at hc hnn hsum hel eS hfm
  simp only at hc hnn hsum hel eS hfm
  have a5 := fun k => nmRows_roE k es
  generalize hKK : EndD observe_Busiest_f [i64 (busyF (flO l)).1, bo (busyF (flO l)).2] = K at *
  show execW Γ M observe_Busiest_c _ _
  rw [observe_Busiest_c_x]
  simp -implicitDefEqProofs (disch := first | omega | (simp [a5] <;> fail) | assumption) [execW_seq, execW_ac, execW_keepP, execW_own, execW_block, acK_some, seqK_norm, eS, a5, execW_loop]
  refine bz_loop1 Γ M M es z (by omega) hc.born hnn (by rw [hsum]; omega) _ (by omega) (fun done b hp => ?_) _ (by simp [hd1, fmE, roF])
  rw [blkK_ex, if_pos rfl, seqK_norm]
  obtain ⟨f1, f2, f3⟩ := hfm done hp
  have hborn := (fm_fmE done).born
  have a6 := fun k => nmRows_roF k (fmE done).2
  obtain ⟨p, hp⟩ : ∃ p, fmE done = p := ⟨_, rfl⟩
  rw [hp] at f1 f2 f3 hborn a6 ⊢
  have fin : ∀ s, nrmP [4, 7, 8, 27] 0 1000 [1461501637330902918203684832716283019655932542987, 2923003274661805836407369665432566039311865085979] s = hd2 (obW b es z p) p [] (0, false) → lpW (execW Γ M observe_Busiest_l1) M s (blkK 2 (seqK Γ M (.ac (.keepP [7, 8] 0 1000 [] (.seq (.reg observe_Busiest_r12) (.keepP [2, 3] 0 1000 [] (.ret))))) K)) := by
    intro s hs
    refine bz_loop2 Γ M M b es z p (fun f => ((flO l).count f : Int)) (by omega) hborn f1 _ (by omega) (fun bs hI => ?_) s hs
    rw [blkK_ex, if_pos rfl, seqK_norm, execW_ac]
    have hb := hbi bs _ f2 hI
    have hK := hend bs es z hb
    simp -implicitDefEqProofs (disch := first | omega | (simp <;> fail) | assumption) [acK_some]
    exact hK
  cases b <;> simp -implicitDefEqProofs (disch := first | omega | (simp [a5, a6] <;> fail) | assumption) [obW, execW_seq, execW_ac, execW_keepP, execW_own, execW_block, acK_some, seqK_norm, a5, a6, execW_loop] <;> exact fin _ (by simp [hd2, obW])
/-! ### From outside -/
def tripOf : List D → Option Trip
  | [.int .i64 a, .int .i64 b, .int .i64 c, .int .i64 d, .int .i64 e, .int .i64 f, .int .i64 g] => some ⟨a, b, c, d, e, f, g⟩
  | _ => none
def tripsOf : List (List D) → Option (List Trip)
  | [] => some []
  | r :: rs => match tripOf r, tripsOf rs with
    | some t, some l => some (t :: l)
    | _, _ => none
theorem tripsOf_map : ∀ l : List Trip, tripsOf (l.map Trip.cells) = some l
  | [] => rfl
  | t :: l => by simp only [List.map_cons, tripsOf, tripsOf_map l, Trip.cells, tripOf]
theorem tripsOf_some : ∀ {r : List (List D)} {l : List Trip}, tripsOf r = some l → r = l.map Trip.cells
  | [], l, h => by simp only [tripsOf, Option.some.injEq] at h; subst h; rfl
  | x :: r, l, h => by
    unfold tripsOf at h
    split at h
    · rename_i e l' h1 h2
      simp only [Option.some.injEq] at h; subst h
      rw [tripsOf_some h2, List.map_cons]
      congr 1
      unfold tripOf at h1
      split at h1
      · simp only [Option.some.injEq] at h1; subst h1; rfl
      · simp at h1
    · simp at h
def busyS (ds : List AV) : Option (List AV) := match ds with
  | [.c (.vs 7 rows)] => match tripsOf rows with
    | some l => if l.length ≤ 100 then some [i64 (busyF (flO l)).1, bo (busyF (flO l)).2] else none
    | none => none
  | _ => none
theorem busyS_some {ds rs : List AV} (h : busyS ds = some rs) : ∃ l : List Trip, ds = [vT l] ∧ l.length ≤ 100 ∧ rs = [i64 (busyF (flO l)).1, bo (busyF (flO l)).2] := by
  unfold busyS at h
  split at h
  case h_2 => simp at h
  split at h
  case h_2 => simp at h
  rename_i l hl
  split at h
  case isFalse => simp at h
  rename_i hc
  simp only [Option.some.injEq] at h
  rw [tripsOf_some hl]
  exact ⟨l, rfl, hc, h.symm⟩
def BusyC (g : List AV → Option (List AV)) : Prop := ∀ l : List Trip, l.length ≤ 100 → g [vT l] = some [i64 (busyF (flO l)).1, bo (busyF (flO l)).2]
theorem busyS_C : BusyC busyS := by
  intro l hl
  simp only [busyS, vT, tripsOf_map, hl, if_true]
abbrev obsT : Tab := [(76, observe_Stops_f, 1)]
def obsE : Env := env obsT [] noEnv 2001 2
theorem obsE_pt : StopsC (obsE.pt 76) := by
  unfold obsE
  rw [show (env obsT [] noEnv 2001 2).pt 76 = runP (env obsT [] noEnv 2001 1) 2001 observe_Stops_f from funext fun s => env_runP (k := 1) rfl (by decide +kernel)]
  exact observe_Stops_run _ _ (by omega)
theorem busy_spec {nm : Nat → Option Nat} (hT : chkTab Try.prog nm obsT = true) (hc : chkFnWD Try.prog nm 20 observe_Busiest_f 1 = true) (hmix : Try.prog.follows .mixedOrders = true) : Spec Try.prog 20 busyS := by
  refine runWD_sound (nm := nm) (Γ := obsE) (fn := observe_Busiest_f) (M := 2001) (n := 1) (env_ok hmix noEnv_ok hT rfl 2001 2) hmix hc busyS fun ds rs h => ?_
  obtain ⟨l, rfl, h1, rfl⟩ := busyS_some h
  exact ⟨rfl, busy_walk obsE obsE_pt 2001 (by omega) l h1⟩
def obsX : Env := ⟨fun f ds => if f = 458 then busyS ds else none, fun f s => if f = 276 then allPt s else none, fun _ _ => none⟩
theorem obsX_pt : obsX.pt 276 = allPt := by funext s; simp [obsX]
theorem obsX_fn : obsX 458 = busyS := by funext s; simp [obsX]
theorem obsX_ok {nm : Nat → Option Nat} {T : Tab} (h : nm 276 = some 59) (hB : nm 458 = some 20) (hS : Spec Try.prog 20 busyS) : XOk Try.prog nm T obsX where
  fn := fun f g hg _ => by
    by_cases hf : f = 458
    · subst hf
      rw [hB] at hg; simp only [Option.some.injEq] at hg; subst hg
      rw [obsX_fn]; exact hS
    · intro F w ds vs rs _ _ h
      simp [obsX, hf] at h
  pt := fun f g hg _ => by
    by_cases hf : f = 276
    · subst hf
      rw [h] at hg; simp only [Option.some.injEq] at hg; subst hg
      rw [obsX_pt]; exact all_specP
    · have : obsX.pt f = fun _ => none := by funext s; simp [obsX, hf]
      rw [this]; exact SpecP.none
  mono := fun f s rs ob R hR h => by
    by_cases hf : f = 276
    · subst hf
      rw [obsX_pt] at h ⊢
      exact allPt_mono s rs ob R hR h
    · simp [obsX, hf] at h
theorem env_obs276 (T : Tab) (I : List (Nat × Nat)) (M n : Nat) (h : get T 276 = none) : (env T I obsX M n).pt 276 = allPt := by
  funext s
  cases n <;> simp [env, envPt, h, obsX_pt]
theorem env_busy {T : Tab} {V : List (Nat × Nat)} {M n : Nat} (h : get T 458 = none) : BusyC (env T V obsX M n 458) := by
  have : env T V obsX M n 458 = busyS := by
    rw [← obsX_fn]
    funext s
    cases n <;> simp [env, envFn, h]
  rw [this]; exact busyS_C
end Go.Am
