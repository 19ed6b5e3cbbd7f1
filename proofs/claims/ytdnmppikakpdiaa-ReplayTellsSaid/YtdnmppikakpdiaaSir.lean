/- Law 51: replay.Riders. -/
import Derived.Test.YtdnmppikakpdiaaSin
set_option linter.unusedVariables false
set_option linter.unusedSimpArgs false
set_option maxRecDepth 10000
set_option maxHeartbeats 4000000
namespace Go.Am.Si
open Go.Am
def evT (t : Trip) : Ev := ⟨t.board, t.id⟩
def evsR (ts : List Trip) (car tick : Int) : List Ev := (ts.filter (in1 car tick)).map evT
theorem evsR_rows (ts : List Trip) (car tick : Int) : (loadL ts car tick).map (toAV ∘ numD) = evR (evsR ts car tick) := by
  unfold loadL evsR evR
  rw [List.map_map, List.map_map]
  rfl
theorem evsR_len (ts : List Trip) (car tick : Int) : (evsR ts car tick).length = (loadL ts car tick).length := by
  unfold loadL evsR; rw [List.length_map, List.length_map]
theorem evsR_up {ts : List Trip} (h : FewT ts) (car tick : Int) : (evsR ts car tick).Pairwise fun x y => x.i < y.i := by
  have h1 : ts.Pairwise fun a b => a.id < b.id := List.pairwise_iff_getElem.2 fun i j hi hj hij => by rw [h.id i hi, h.id j hj]; omega
  unfold evsR
  rw [List.pairwise_map]
  exact (h1.sublist List.filter_sublist).imp fun h => h
def SrtC (g : St → Option (List AV × List (Nat × Obj))) : Prop := ∀ (ts : List Trip) (L : List Ev) (K n z : Nat) (gs : List (Nat × AV)) (ob : List (Nat × Obj)), FewT ts → Gh gs → get ob K = some ⟨1, evR L⟩ → ¬ K = 8 → ¬ K = 1461501637330902918203684832716283019655932542992 → get ob 8 = some ⟨1, [[.mp 1461501637330902918203684832716283019655932542992]]⟩ → get ob 1461501637330902918203684832716283019655932542992 = some ⟨z, brdR 0 ts⟩ → L.length = n → n ≤ 60 →
  (∀ x ∈ L, ∃ t ∈ ts, x = evT t) → L.Pairwise Tie → (L.map (·.i)).Nodup → g ⟨(0, .sl K n 0 n) :: (1, .clo fv_replay_Riders_1 [.loc 8 0 0]) :: gs, ob⟩ = some ([], (K, ⟨1, evR (srtE L)⟩) :: del ob K)
def bdT (ts : List Trip) (x : Int) : Int := match ts[x.toNat]? with
  | some t => t.board
  | none => 0
theorem srt_front {Γ : Env} {M : Nat} {g : St → Option (List AV × List (Nat × Obj))} (h : ∀ U, SsfC U (runP Γ M replay_Riders_1_f) g) : SrtC (frontPt g) := by
  intro ts L K n z gs ob hF hg hK hK8 hKm h8 hm hL hn hU hT hN
  have hb : ∀ x, -1073741825 ≤ bdT ts x ∧ bdT ts x ≤ 1073741825 := fun x => by
    unfold bdT
    cases hx : ts[x.toNat]? with
    | none => simp
    | some t => have := hF.brd t (List.mem_of_getElem? hx); simp only; omega
  have hd : ∀ k, ¬ K = k → get (del ob K) k = get ob k := fun k hk => by rw [get_del, if_neg (Ne.symm hk)]
  have hc := riders1_run Γ M K 1461501637330902918203684832716283019655932542992 z (brdR 0 ts) (bdT ts) (fun x => 0 ≤ x ∧ x < ts.length) (del ob K) (by rw [hd 8 hK8]; exact h8) (by rw [hd _ hKm]; exact hm) hK8 hKm (fun x hx => by
      have hk : x.toNat < ts.length := by omega
      have hid := hF.id x.toNat hk
      have e := brd_yes (x := x) ts 0 0 x.toNat hk (by rw [hid]; omega) fun j hj hjk => by rw [hF.id j hj]; omega
      refine ⟨0 + x.toNat, ?_⟩
      rw [e]
      unfold bdT
      rw [List.getElem?_eq_getElem hk]) hb
  have e := h (fun e => e.b = bdT ts e.i ∧ (0 ≤ e.i ∧ e.i < ts.length)) K L n gs (del ob K) hg (del_del ob K) hL (by omega) hc (fun x hx => by
      obtain ⟨t, ht, rfl⟩ := hU x hx
      obtain ⟨i, hi, rfl⟩ := List.getElem_of_mem ht
      have hid := hF.id i hi
      simp only [evT, hid, bdT]
      rw [show ((i : Int)).toNat = i by omega, List.getElem?_eq_getElem hi]
      refine ⟨rfl, by omega, by omega⟩) hT hN
  unfold frontPt
  simp only [Go.Am.get, if_true, hK]
  exact e
def RidC (g : List AV → Option (List AV)) : Prop := ∀ (l : Log) (car tick : Int), FewT l.trips → g [.agg l.cells, i64 car, i64 tick] = some [.c (.vs 1 ((srtE (evsR l.trips car tick)).map Ev.cells))]
theorem replay_Riders_run (Γ : Env) (M : Nat) (hM : 100 < M) (hL : LoadO (Γ.pt 739)) (hS : SrtC (Γ.pt 241)) : RidC (run Γ M replay_Riders_f) := by
  rintro ⟨ts, ls, u⟩ car tick hF
  have hfew : ts.length ≤ 60 := hF.few
  dsimp only at hF ⊢
  have e1 := fun gs ob a b c d => hL ts car tick gs ob hfew a b c d
  rw [evsR_rows, ← evsR_len] at e1
  have hup := evsR_up hF car tick
  have hlen : (evsR ts car tick).length ≤ 60 := by have := loadL_le ts car tick; rw [evsR_len]; omega
  have hmem : ∀ x ∈ evsR ts car tick, ∃ t ∈ ts, x = evT t := fun x hx => by
    obtain ⟨t, ht, rfl⟩ := List.mem_map.1 hx
    exact ⟨t, (List.mem_filter.1 ht).1, rfl⟩
  have e2 := fun z gs ob a b c d => hS ts (evsR ts car tick) 739007 (evsR ts car tick).length z gs ob hF a b (by omega) (by omega) c d rfl hlen hmem (hup.imp fun {x y} h (_ : x.b = y.b) => h) (by rw [List.Nodup, List.pairwise_map]; exact hup.imp fun h => by omega)
  have r1 := srtE_len (evsR ts car tick)
  have r2 := evR_len (srtE (evsR ts car tick))
  rw [r1] at r2
  have r3 : allRows (evR (srtE (evsR ts car tick))) = some ((srtE (evsR ts car tick)).map Ev.cells) := allRows_comp Ev.cells _
  have r4 := evR_len (evsR ts car tick)
  have n1 := nmEv 1461501637330902918203684832716283019655932542992 (evsR ts car tick)
  have n2 := nmEv 8 (evsR ts car tick)
  have n3 := nmEv 10 (evsR ts car tick)
  have l3 := lcEv 10 (evsR ts car tick)
  have ht : ((srtE (evsR ts car tick)).map Ev.cells).take (evsR ts car tick).length = (srtE (evsR ts car tick)).map Ev.cells := by rw [List.take_of_length_le]; rw [List.length_map]; omega
  generalize hE : (srtE (evsR ts car tick)).map Ev.cells = E at *
  generalize hW : evR (srtE (evsR ts car tick)) = W at *
  generalize hR : evR (evsR ts car tick) = R at *
  generalize hn : (evsR ts car tick).length = n at *
  let obs : Nat → List (Nat × Obj) := fun k => match k with
    | 0 => [(8, ⟨1, [[.mp 1461501637330902918203684832716283019655932542992]]⟩), (1461501637330902918203684832716283019655932542992, ⟨0, brdR 0 (ts.take 0)⟩), (739007, ⟨1, R⟩)]
    | k + 1 => [(1461501637330902918203684832716283019655932542992, ⟨k + 1, brdR 0 (ts.take (k + 1))⟩), (8, ⟨1, [[.mp 1461501637330902918203684832716283019655932542992]]⟩), (739007, ⟨1, R⟩)]
  obtain ⟨ax, s', ⟨rfl, rfl⟩, hin⟩ : ∃ ax s', (ax = .ex 0 ∧ s' = ⟨[(7, .sl 739007 n 0 n), (8, .loc 8 0 0)], obs ts.length⟩) ∧ ∀ s0, nrmP [7, 8, 18, 19, 20] 0 1000 [8, 1461501637330902918203684832716283019655932542992] s0 = ⟨[(7, .sl 739007 n 0 n), (8, .loc 8 0 0), (18, vT ts), (19, i64 ts.length), (20, i64 (0 : Nat))], obs 0⟩ → lp (exec Γ M replay_Riders_l1) M s0 = some (ax, s') := by
    refine lp_allP (fun q : Nat => ⟨[(7, .sl 739007 n 0 n), (8, .loc 8 0 0), (18, vT ts), (19, i64 ts.length), (20, i64 q)], obs q⟩) (fun q => q ≤ ts.length) (fun q => ts.length - q) _ 0 M (by omega) (by omega) ?_
    intro k hk
    by_cases hlt : k < ts.length
    · have hm := fun s => mupd_brd 1461501637330902918203684832716283019655932542992 hF k hlt s
      obtain ⟨t, ht⟩ : ∃ t, ts[k]'hlt = t := ⟨_, rfl⟩
      rw [ht] at hm
      have q1 := brd_nm 10 0 (ts.take k)
      have q2 := brd_lc 10 0 (ts.take k)
      cases k with
      | zero =>
        dsimp only [obs]
        generalize brdR 0 (ts.take 0) = G at *
        simp -implicitDefEqProofs (disch := first | omega | (simp <;> fail) | assumption) [hlt, ht, hm, q1, q2, n1, n2, n3, l3]
        exact ⟨1, ⟨rfl, rfl⟩, by omega, by omega⟩
      | succ k =>
        dsimp only [obs]
        generalize brdR 0 (ts.take (k + 1)) = G at *
        simp -implicitDefEqProofs (disch := first | omega | (simp <;> fail) | assumption) [hlt, ht, hm, q1, q2, n1, n2, n3, l3]
        exact ⟨k + 1 + 1, ⟨rfl, rfl⟩, by omega, by omega⟩
    · obtain rfl : k = ts.length := by omega
      generalize hOB : obs ts.length = OB
      have hk0 : keepF 0 1000 [8, 1461501637330902918203684832716283019655932542992] OB = OB := by
        subst hOB
        cases ts.length <;> rfl
      simp -implicitDefEqProofs (disch := first | omega | assumption) [hk0]
  have hlp := hin ⟨[(7, .sl 739007 n 0 n), (8, .loc 8 0 0), (18, vT ts), (19, i64 ts.length), (20, i64 (0 : Nat))], obs 0⟩ rfl
  have hfin : ∃ z, obs ts.length = [(8, ⟨1, [[.mp 1461501637330902918203684832716283019655932542992]]⟩), (1461501637330902918203684832716283019655932542992, ⟨z, brdR 0 ts⟩), (739007, ⟨1, R⟩)] ∨ obs ts.length = [(1461501637330902918203684832716283019655932542992, ⟨z, brdR 0 ts⟩), (8, ⟨1, [[.mp 1461501637330902918203684832716283019655932542992]]⟩), (739007, ⟨1, R⟩)] := by
    cases hq : ts.length with
    | zero => exact ⟨0, .inl (by have : ts = [] := List.length_eq_zero_iff.1 hq; subst this; rfl)⟩
    | succ k => exact ⟨k + 1, .inr (by dsimp only [obs]; rw [List.take_of_length_le (by omega)])⟩
  have h0 : obs 0 = [(8, ⟨1, [[.mp 1461501637330902918203684832716283019655932542992]]⟩), (1461501637330902918203684832716283019655932542992, ⟨0, []⟩), (739007, ⟨1, R⟩)] := rfl
  rw [h0] at hlp
  simp at hlp
  have hfa : allRows W = some E := r3
  rcases hfin with ⟨z, hfin | hfin⟩ <;> (rw [hfin] at hlp; have e2 := e2 z; simp only [fv_replay_Riders_1] at e2; simp -implicitDefEqProofs (disch := first | omega | (simp [n1, n2, n3, l3] <;> fail) | assumption) [e1, e2, hlp, hfa, r2, ht, n1, n2, n3, l3])
end Go.Am.Si
