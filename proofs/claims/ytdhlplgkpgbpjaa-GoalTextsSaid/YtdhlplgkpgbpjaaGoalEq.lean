/- Law 59: the program's goal of a line is the document's. -/
import Derived.Test.YtdhlplgkpgbpjaaGoalRef
set_option linter.unusedVariables false
set_option linter.unusedSimpArgs false
set_option maxRecDepth 10000
set_option maxHeartbeats 1000000
namespace Go.Am
theorem txt_pos {n : Int} (h : 0 ≤ n) : txt n = dig n := by
  unfold txt; rw [if_neg (by omega)]
theorem kd_of_lit {t : Tk} {w : List UInt8} (h : TkOk t) (hk : t.kd ≠ 3) (ht : t.tx = w) (hw : ∃ b ∈ w, 97 ≤ b.toNat) : t.kd = 1 := by
  rcases h.kind with ⟨h1, _⟩ | ⟨h1, _⟩ | ⟨h1, h2⟩
  · exact (hk h1).elim
  · exact h1
  · obtain ⟨b, hb, hb2⟩ := hw
    rw [← ht, h2] at hb
    have := mem_dig 20 t.n h.num.1 b hb
    omega
theorem kd_of_txt {t : Tk} (h : TkOk t) (hk : t.kd ≠ 3) : t.tx = txt t.n ↔ t.kd = 2 := by
  rw [txt_pos h.num.1]
  rcases h.kind with ⟨h1, _⟩ | ⟨h1, h2, h3, h4⟩ | ⟨h1, h2⟩
  · exact (hk h1).elim
  · refine ⟨fun he => ?_, fun h => by omega⟩
    have hb : ∀ b ∈ t.tx, isLt b = true := h4
    rw [he, h2] at hb
    have : isLt 48 = true := hb 48 (by decide)
    exact absurd this (by decide)
  · exact ⟨fun _ => h1, fun _ => h2⟩
theorem lit_M {t : Tk} (h : TkOk t) (hk : t.kd = 2) : t.tx ≠ gM := fun he => by
  have := kd_of_lit h (by omega) he ⟨109, by simp, by decide⟩
  omega
theorem gp_gl (ts : List Tk) (h : ∀ t ∈ ts, TkOk t ∧ t.kd ≠ 3) : gp ts = gl ts := by
  match ts, h with
  | [], _ => simp [gp, gl]
  | [x], h =>
    have hn : ¬ [x.tx] = lineOf ⟨gOf x.tx, 0, x.n⟩ := fun he => by
      rcases lineOf_len ⟨gOf x.tx, 0, x.n⟩ with h0 | ⟨a, b, h0⟩ | ⟨a, b, c, h0⟩ <;> rw [h0] at he <;> simp at he
    simp [gp, gl, gGuess, hn]
  | [x, z], h =>
    have hx := h x (by simp)
    have hz := h z (by simp)
    have kz := kd_of_txt hz.1 hz.2
    rcases gOf_cases x.tx with ⟨hw, ho⟩ | ⟨hw, ho⟩ | ⟨hw, ho⟩ | ⟨_, _, _, ho⟩
    · have hn : ¬ [x.tx, z.tx] = lineOf ⟨1, 0, z.n⟩ := fun he => by
        simp only [lineOf] at he; split at he <;> simp at he
      simp only [List.map_cons, List.map_nil, gp, gl, gGuess, ho]
      simp [hn]
    · have hn : ¬ [x.tx, z.tx] = lineOf ⟨2, 0, z.n⟩ := fun he => by
        simp only [lineOf] at he; split at he <;> simp at he
      simp only [List.map_cons, List.map_nil, gp, gl, gGuess, ho]
      simp [hn]
    · have kx := kd_of_lit hx.1 hx.2 hw ⟨115, by simp, by decide⟩
      rw [hw] at ho
      simp only [List.map_cons, List.map_nil, gp, gl, gGuess, hw, ho, kx]
      cases hb : rightB 3 0 z.n with
      | false => simp [lineOf, hb]
      | true => simp [lineOf, hb, kz]
    · have hb : rightB 0 0 z.n = false := by simp [rightB]
      simp only [List.map_cons, List.map_nil, gp, gl, gGuess, ho]
      simp [lineOf, hb]
  | [x, y, z], h =>
    have hx := h x (by simp)
    have hy := h y (by simp)
    have hz := h z (by simp)
    have kz := kd_of_txt hz.1 hz.2
    have ky := kd_of_txt hy.1 hy.2
    have main : ∀ (o : Int) (w : List UInt8), (o = 1 ∧ w = gW ∨ o = 2 ∧ w = gT) → x.tx = w → gOf x.tx = o → x.kd = 1 → gp [x, y, z] = gl [x, y, z] := by
      intro o w how hw ho kx
      have h3 : ¬ o = 3 := by omega
      have hlw : (if o = 1 then gW else gT) = w := by rcases how with ⟨rfl, rfl⟩ | ⟨rfl, rfl⟩ <;> simp
      rw [hw] at ho
      simp only [List.map_cons, List.map_nil, gp, gl, gGuess, hw, ho, kx, lineOf, if_neg h3, hlw]
      by_cases k2 : y.kd = 2
      · by_cases hp : 0 < y.n
        · have hyt := ky.2 k2
          cases hb : rightB o y.n z.n with
          | false => simp [k2, hp, hb, h3]
          | true => simp [k2, hp, hb, h3, hyt, kz]
        · have hm := lit_M hy.1 k2
          cases hb : rightB o y.n z.n with
          | false => simp [k2, hp, hb, h3]
          | true => simp [k2, hp, hb, h3, hm]
      · have hn : y.n = 0 := by
          rcases hy.1.kind with ⟨h1, _⟩ | ⟨_, h2, _⟩ | ⟨h1, _⟩
          · exact (hy.2 h1).elim
          · exact h2
          · exact (k2 h1).elim
        cases hb : rightB o 0 z.n with
        | false => simp [k2, hn, hb, h3]
        | true =>
          by_cases hm : y.tx = gM
          · simp [k2, hn, hb, h3, hm, kz]
          · simp [k2, hn, hb, h3, hm]
    rcases gOf_cases x.tx with ⟨hw, ho⟩ | ⟨hw, ho⟩ | ⟨hw, ho⟩ | ⟨_, _, _, ho⟩
    · exact main 1 gW (.inl ⟨rfl, rfl⟩) hw ho (kd_of_lit hx.1 hx.2 hw ⟨119, by simp, by decide⟩)
    · exact main 2 gT (.inr ⟨rfl, rfl⟩) hw ho (kd_of_lit hx.1 hx.2 hw ⟨116, by simp, by decide⟩)
    · have hn : ¬ [x.tx, y.tx, z.tx] = lineOf ⟨3, y.n, z.n⟩ := fun he => by
        simp only [lineOf] at he; split at he <;> simp at he
      simp only [List.map_cons, List.map_nil, gp, gl, gGuess, ho]
      simp [hn]
    · have hb : ∀ p m, rightB 0 p m = false := fun p m => by simp [rightB]
      simp only [List.map_cons, List.map_nil, gp, gl, gGuess, ho]
      simp [lineOf, hb]
  | x :: y :: u :: v :: r, h =>
    have hn : ¬ (x :: y :: u :: v :: r).map Tk.tx = lineOf (gGuess (x :: y :: u :: v :: r)) := fun he => by
      have hl := congrArg List.length he
      rcases lineOf_len (gGuess (x :: y :: u :: v :: r)) with h0 | ⟨a, b, h0⟩ | ⟨a, b, c, h0⟩ <;> rw [h0] at hl <;> simp at hl
    have e1 : gp (x :: y :: u :: v :: r) = none := rfl
    rw [e1]
    unfold gl
    rw [if_neg (fun hh => hn hh.2)]
theorem rdL_congr {α : Type} {ev ev' : List Tk → Option α} {P : Tk → Prop} (h : ∀ l : List Tk, (∀ t ∈ l, P t ∧ t.kd ≠ 3) → ev l = ev' l) : ∀ (ts cur : List Tk) (out : List α), (∀ t ∈ ts, P t) → (∀ t ∈ cur, P t ∧ t.kd ≠ 3) → rdL ev cur ts out = rdL ev' cur ts out
  | [], cur, out, _, _ => rfl
  | t :: r, cur, out, ht, hc => by
    have hr : ∀ t ∈ r, P t := fun x hx => ht x (by simp [hx])
    simp only [rdL]
    split
    · cases cur with
      | nil => exact rdL_congr h r [] out hr (by simp)
      | cons x cr =>
        simp only [h (x :: cr) hc]
        cases ev' (x :: cr) with
        | none => rfl
        | some e => exact rdL_congr h r [] _ hr (by simp)
    · rename_i hk
      exact rdL_congr h r _ out hr fun y hy => by
        simp only [List.mem_append, List.mem_singleton] at hy
        rcases hy with hy | rfl
        · exact hc y hy
        · exact ⟨ht y (by simp), hk⟩
theorem readR_gp_gl (s : List UInt8) (hs : s.length ≤ 65536) : readR gp s = readR gl s := by
  unfold readR
  rw [rdL_congr (ev := gp) (ev' := gl) (P := TkOk) (fun l hl => gp_gl l hl) _ _ _ (scanR_ok s hs).1 (by simp)]
end Go.Am
