/- Law 51: who rides in a car: a slice of its own, the map of boards, the stable sort. -/
import Derived.Test.YtdnmppikakpdiaaSim
import Derived.Test.YtdnmppikakpdiaaFront
set_option linter.unusedVariables false
set_option linter.unusedSimpArgs false
set_option maxRecDepth 10000
set_option maxHeartbeats 4000000
namespace Go.Am.Si
open Go.Am
/-! ### The slice of who rides -/
def LoadO (g : St → Option (List AV × List (Nat × Obj))) : Prop := ∀ (ts : List Trip) (car tick : Int) (gs : List (Nat × AV)) (ob : List (Nat × Obj)), ts.length ≤ 60 → Gh gs → get ob 739007 = none → nmFr 739007 gs = true → nmOb 739007 ob = true →
  g ⟨(0, vT ts) :: (1, i64 car) :: (2, i64 tick) :: gs, ob⟩ = some ([.sl 739007 (loadL ts car tick).length 0 (loadL ts car tick).length], (739007, ⟨1, (loadL ts car tick).map (toAV ∘ numD)⟩) :: ob)
theorem load_own {g : St → Option (List AV × List (Nat × Obj))} (h : LoadP_C g) : LoadO (ownPt 3 [739007] g) := by
  intro ts car tick gs ob hl hg h1 h2 h3
  have e := h ts car tick hl
  have g3 : get gs 3 = none := Gh.get hg (by omega)
  have hin : (((loadL ts car tick).map (toAV ∘ numD)).all fun r => r.all fun v => v.inn [739007]) = true := by
    rw [List.all_eq_true]; intro r hr
    obtain ⟨z, hz, rfl⟩ := List.mem_map.1 hr
    rfl
  generalize (loadL ts car tick).map (toAV ∘ numD) = G at *
  generalize (loadL ts car tick).length = n at *
  unfold ownPt
  rw [if_pos ⟨by decide, by simp only [Go.Am.get]; rw [if_neg (by omega), if_neg (by omega), if_neg (by omega), g3]; rfl⟩]
  have ha : argsF ((0, vT ts) :: (1, i64 car) :: (2, i64 tick) :: gs) 0 3 = some [vT ts, i64 car, i64 tick] := rfl
  have hf : (⟨(0, vT ts) :: (1, i64 car) :: (2, i64 tick) :: gs, ob⟩ : St).frzs [vT ts, i64 car, i64 tick] = some ([vT ts, i64 car, i64 tick], []) := rfl
  simp only [ha, hf]
  have e' : g ⟨numF 0 [vT ts, i64 car, i64 tick], []⟩ = some ([.sl 739007 n 0 n], [(739007, ⟨1, G⟩)]) := e
  simp only [e', kill]
  refine (if_pos ?_).trans rfl
  · refine ⟨?_, rfl, ?_⟩
    · show ((([(739007, (⟨1, G⟩ : Obj))]).filter fun p => [739007].contains p.1).all fun p => p.2.rows.all fun r => r.all fun v => v.inn [739007]) = true
      have : ([(739007, (⟨1, G⟩ : Obj))]).filter (fun p => [739007].contains p.1) = [(739007, ⟨1, G⟩)] := rfl
      rw [this]; simp only [List.all_cons, List.all_nil, Bool.and_true]; exact hin
    · simp only [List.all_cons, List.all_nil, Bool.and_true, h1, nmFr, h2, h3, Option.isNone]; rfl
/-! ### The map of boards -/
def brdR : Nat → List Trip → Rows
  | _, [] => []
  | n, t :: r => [i64 n, i64 t.id, i64 t.board] :: brdR (n + 1) r
theorem brdR_len : ∀ (n : Nat) (l : List Trip), (brdR n l).length = l.length
  | n, [] => rfl
  | n, t :: r => by simp [brdR, brdR_len (n + 1) r]
theorem brdR_app : ∀ (n : Nat) (l m : List Trip), brdR n (l ++ m) = brdR n l ++ brdR (n + l.length) m
  | n, [], m => by simp [brdR]
  | n, t :: r, m => by simp only [List.cons_append, brdR, brdR_app (n + 1) r m, List.length_cons]; rw [show n + 1 + r.length = n + (r.length + 1) by omega]
abbrev kkI : KK := (false, [.int .i64])
theorem mkeq_i (x y : Int) : mkeq kkI (i64 x) (i64 y) = some (decide (x = y)) := by simp [mkeq, eqKs, eqK]
theorem brd_no {x : Int} : ∀ (l : List Trip) (n i : Nat), (∀ t ∈ l, t.id ≠ x) → mfind kkI (i64 x) (brdR n l) i = some none
  | [], n, i, h => by simp only [brdR, mfind]
  | t :: r, n, i, h => by
    have h1 : ¬ x = t.id := fun e => h t (by simp) e.symm
    simp only [brdR, mfind, mkeq_i, decide_eq_false h1, brd_no r (n + 1) (i + 1) fun t ht => h t (by simp [ht])]
theorem brd_yes {x : Int} : ∀ (l : List Trip) (n i : Nat) (k : Nat) (hk : k < l.length), l[k].id = x → (∀ j (hj : j < l.length), j < k → l[j].id ≠ x) → mfind kkI (i64 x) (brdR n l) i = some (some (i + k, i64 l[k].board))
  | t :: r, n, i, 0, hk, h, h2 => by
    have h1 : x = t.id := h.symm
    subst h1
    simp only [brdR, mfind, mkeq_i, decide_true, Nat.add_zero, List.getElem_cons_zero]
  | t :: r, n, i, k + 1, hk, h, h2 => by
    have h1 : ¬ x = t.id := fun e => h2 0 (by simp) (by omega) e.symm
    simp only [List.getElem_cons_succ] at h ⊢
    simp only [brdR, mfind, mkeq_i, decide_eq_false h1, brd_yes r (n + 1) (i + 1) k (by simpa using hk) h fun j hj hjk => h2 (j + 1) (by simp; omega) (by omega)]
    rw [show i + 1 + k = i + (k + 1) by omega]
theorem brd_nm (key : Nat) : ∀ (n : Nat) (l : List Trip), nmRows key (brdR n l) = true
  | n, [] => rfl
  | n, t :: r => by simp only [brdR, nmRows, nmRow, AV.names, AV.names1, brd_nm key (n + 1) r]; rfl
theorem brd_lc (key : Nat) : ∀ (n : Nat) (l : List Trip), lcRows key (brdR n l) = true
  | n, [] => rfl
  | n, t :: r => by simp only [brdR, lcRows, lcRow, AV.isLoc, AV.isLoc1, brd_lc key (n + 1) r]; rfl
/-- Few, and their numbers are their places. -/
structure FewT (ts : List Trip) : Prop where
  few : ts.length ≤ 60
  id : ∀ i (h : i < ts.length), ts[i].id = i
  brd : ∀ t ∈ ts, -1073741824 ≤ t.board ∧ t.board ≤ 1073741824
theorem mupd_brd (key : Nat) {ts : List Trip} (h : FewT ts) (k : Nat) (hk : k < ts.length) (s : St) : mupd key kkI (i64 ts[k].id) (i64 ts[k].board) ⟨k, brdR 0 (ts.take k)⟩ s = some (s.obj key ⟨k + 1, brdR 0 (ts.take (k + 1))⟩) := by
  have hno : mfind kkI (i64 ts[k].id) (brdR 0 (ts.take k)) 0 = some none := brd_no _ _ _ fun t ht => by
    obtain ⟨j, hj, rfl⟩ := List.getElem_of_mem ht
    rw [List.length_take] at hj
    rw [List.getElem_take, h.id j (by omega), h.id k hk]
    omega
  unfold mupd
  simp only [hno]
  rw [List.take_succ_eq_append_getElem hk, brdR_app]
  simp only [List.length_take, brdR]
  rw [show 0 + min k ts.length = k by omega]
end Go.Am.Si
