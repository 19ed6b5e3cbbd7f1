/- Law 27: a scenario as lines is read as it was. -/
import Derived.Test.YtnjjnokckgjecaaPrsMay
set_option linter.unusedVariables false
set_option linter.unusedSimpArgs false
set_option maxRecDepth 10000
set_option maxHeartbeats 1000000
namespace Go.Am
def restK : List It → Int → Int → List Tk
  | [], l, c => [⟨3, [], 0, l, c⟩]
  | y :: r, l, c => lineK (y :: r) l (c + 1)
theorem lineK_cons (x : It) (its : List It) (l c : Int) : lineK (x :: its) l c = x.tk l c :: restK its l (c + x.tx.length) := by
  cases its <;> rfl
inductive Fit : List (List UInt8) → List It → List Int → Prop where
  | nil : Fit [] [] []
  | w {nm x : List UInt8} {n : Int} {l : List (List UInt8)} {its : List It} {ns : List Int} : isWord nm = true → wordN nm x = n → n ≠ 0 → Fit l its ns → Fit (nm :: l) (.w x :: its) (n :: ns)
  | n {nm : List UInt8} {x : Int} {l : List (List UInt8)} {its : List It} {ns : List Int} : isWord nm = false → inB nm x = true → Fit l its ns → Fit (nm :: l) (.n x :: its) (x :: ns)
theorem numsA_fit {l : List (List UInt8)} {its : List It} {ns : List Int} (h : Fit l its ns) : ∀ (acc : List Int) (ln c : Int) (R : List Tk), ∃ e, e.kd = 3 ∧ numsA acc l (restK its ln c ++ R) = .ok (acc ++ ns) (e :: R) := by
  induction h with
  | nil => intro acc ln c R; exact ⟨⟨3, [], 0, ln, c⟩, rfl, by simp [numsA, restK]⟩
  | @w nm x n l its ns h1 h2 h3 _ ih =>
    intro acc ln c R
    obtain ⟨e, he, h⟩ := ih (acc ++ [n]) ln (c + 1 + x.length) R
    refine ⟨e, he, ?_⟩
    have e0 : partE nm ⟨1, x, 0, ln, c + 1⟩ = 0 := by simp [partE, h1, h2, h3]
    have e1 : partN nm ⟨1, x, 0, ln, c + 1⟩ = n := by simp [partN, h1, h2]
    rw [restK, lineK_cons, List.cons_append, It.tk, numsA, if_pos e0, e1, It.tx, h]
    simp
  | @n nm x l its ns h1 h2 _ ih =>
    intro acc ln c R
    obtain ⟨e, he, h⟩ := ih (acc ++ [x]) ln (c + 1 + (dig x).length) R
    refine ⟨e, he, ?_⟩
    have e0 : partE nm ⟨2, dig x, x, ln, c + 1⟩ = 0 := by simp [partE, h1, h2]
    have e1 : partN nm ⟨2, dig x, x, ln, c + 1⟩ = x := by simp [partN, h1]
    rw [restK, lineK_cons, List.cons_append, It.tk, numsA, if_pos e0, e1, It.tx, h]
    simp
theorem textP_step {last : Tk} {f : Nat} {s : Scn} {seen : List (List UInt8)} {head : List UInt8} {its : List It} {ns : List Int} (hs : shapeW head ≠ []) (hf : Fit (shapeW head) its ns) (h1 : head ∈ seen → head = pTraffic) (h2 : head = pTraffic → s.segs.length ≠ 8) (l : Int) (R : List Tk) :
    textP last (f + 1) s seen (lineK (.w head :: its) l 1 ++ R) = textP last f (putC s head ns) (seen ++ [head]) R := by
  obtain ⟨e, he, h⟩ := numsA_fit hf [] l (1 + head.length) R
  rw [lineK_cons, List.cons_append, It.tk, It.tx]
  simp only [textP]
  rw [if_neg (by decide)]
  unfold lineP
  rw [if_neg (by simp [hs]), if_neg (by rintro ⟨a, b⟩; exact b (h1 a)), if_neg (by rintro ⟨a, b⟩; exact h2 a b), h]
  simp only [endP, List.nil_append, if_pos he]
theorem linesK_app : ∀ (a b : List (List It)) (l : Int), linesK (a ++ b) l = linesK a l ++ linesK b (l + a.length)
  | [], b, l => by simp [linesK]
  | x :: a, b, l => by
    simp only [List.cons_append, linesK, linesK_app a b (l + 1), List.append_assoc, List.length_cons]
    rw [show l + 1 + (a.length : Int) = l + ((a.length + 1 : Nat) : Int) by omega]
theorem linesK_len : ∀ (a : List (List It)) (l : Int), a.length ≤ (linesK a l).length
  | [], l => by simp [linesK]
  | x :: a, l => by
    have := linesK_len a (l + 1)
    have h : 1 ≤ (lineK x l 1).length := by
      cases x with
      | nil => simp [lineK]
      | cons y r => rw [lineK_cons]; simp
    simp only [linesK, List.length_append, List.length_cons]; omega
def tplB (k : Int) : List UInt8 := if k = 1 then t1 else if k = 2 then t2 else if k = 3 then t3 else if k = 4 then t4 else []
def disB (k : Int) : List UInt8 := if k = 1 then d1 else if k = 2 then d2 else if k = 3 then d3 else if k = 4 then d4 else []
theorem tplB_in {k : Int} (h : 1 ≤ k ∧ k ≤ 4) : temW (tplB k) = k ∧ (It.w (tplB k)).ok := by
  have : k = 1 ∨ k = 2 ∨ k = 3 ∨ k = 4 := by omega
  rcases this with rfl | rfl | rfl | rfl <;> exact ⟨by decide, by decide, by decide⟩
theorem disB_in {k : Int} (h : 1 ≤ k ∧ k ≤ 4) : dspW (disB k) = k ∧ (It.w (disB k)).ok := by
  have : k = 1 ∨ k = 2 ∨ k = 3 ∨ k = 4 := by omega
  rcases this with rfl | rfl | rfl | rfl <;> exact ⟨by decide, by decide, by decide⟩
def segIt (g : Seg) : List It := [.w pTraffic, .w (tplB g.kind), .n g.ticks, .n g.rate]
def headIt (s : Scn) : List (List It) := [[.w pBuilding, .n s.floors, .n s.gap], [.w pCars, .n s.cars, .n s.capacity], [.w pDoors, .n s.opn, .n s.dwell, .n s.cls, .n s.transfer]]
def tailIt (s : Scn) : List (List It) := [[.w pDispatcher, .w (disB s.disp)], [.w pHorizon, .n s.horizon], [.w pBins, .n s.bins, .n s.width]]
def itS (s : Scn) : List (List It) := headIt s ++ (s.segs.map segIt ++ tailIt s)
theorem inB_range {nm : List UInt8} {n : Int} (h : inB nm n = true) : 0 ≤ n ∧ n ≤ 1073741824 := by
  simp only [inB, Bool.and_eq_true, decide_eq_true_eq] at h
  obtain ⟨⟨h1, h2⟩, h3⟩ := h
  have hQ : ∀ (c : Prop) [Decidable c] (a b : Int × Int × Bool), (0 ≤ a.1 ∧ a.2.1 ≤ 1048576) → (0 ≤ b.1 ∧ b.2.1 ≤ 1048576) → 0 ≤ (if c then a else b).1 ∧ (if c then a else b).2.1 ≤ 1048576 := by
    intro c _ a b h1 h2; split <;> assumption
  have : 0 ≤ (bnd nm).1 ∧ (bnd nm).2.1 ≤ 1048576 := by
    unfold bnd
    repeat' apply hQ
    all_goals decide
  omega
theorem segErr_zero {g : Seg} (h : segErr g = 0) : (1 ≤ g.kind ∧ g.kind ≤ 4) ∧ inB pTicks g.ticks = true ∧ inB pRate g.rate = true := by
  unfold segErr at h
  split at h
  · simp at h
  · split at h
    · rename_i h1 h2
      simp only [Bool.and_eq_true] at h2
      exact ⟨by omega, h2.1, h2.2⟩
    · simp at h
theorem chkSegs_all : ∀ {l : List Seg}, chkSegs l = 0 → ∀ g ∈ l, segErr g = 0
  | [], _, g, hg => by simp at hg
  | x :: r, h, g, hg => by
    simp only [chkSegs] at h
    split at h
    · rename_i h0
      simp only [List.mem_cons] at hg
      rcases hg with rfl | hg
      · exact h0
      · exact chkSegs_all h g hg
    · rename_i h0; exact (h0 h).elim
structure Fine (s : Scn) : Prop where
  num : numOk s = true
  disp : 1 ≤ s.disp ∧ s.disp ≤ 4
  some : s.segs ≠ []
  few : s.segs.length ≤ 8
  segs : ∀ g ∈ s.segs, segErr g = 0
theorem chk_fine {s : Scn} (h : chkS s = 0) : Fine s := by
  unfold chkS at h
  split at h
  · simp at h
  rename_i h1
  split at h
  · simp at h
  rename_i h2
  split at h
  · simp at h
  rename_i h3
  split at h
  · simp at h
  rename_i h4
  exact ⟨by simpa using h1, by omega, fun hz => h3 (by rw [hz]; rfl), by omega, chkSegs_all h⟩
theorem segs_steps {last : Tk} : ∀ (l : List Seg) (f : Nat) (s : Scn) (seen : List (List UInt8)) (ln : Int) (R : List Tk), (∀ g ∈ l, segErr g = 0) → s.segs.length + l.length ≤ 8 →
    textP last (f + l.length) s seen (linesK (l.map segIt) ln ++ R) = textP last f { s with segs := s.segs ++ l } (seen ++ List.replicate l.length pTraffic) R
  | [], f, s, seen, ln, R, _, _ => by simp [linesK]
  | g :: l, f, s, seen, ln, R, hg, h8 => by
    obtain ⟨hk, ht, hr⟩ := segErr_zero (hg g (by simp))
    simp only [List.length_cons] at h8
    have hfit : Fit (shapeW pTraffic) [.w (tplB g.kind), .n g.ticks, .n g.rate] [g.kind, g.ticks, g.rate] :=
      .w (by decide) (by simp [wordN, (tplB_in hk).1]) (by omega) (.n (by decide) ht (.n (by decide) hr .nil))
    have h := textP_step (last := last) (f := f + l.length) (s := s) (seen := seen) (head := pTraffic) (by decide : shapeW pTraffic ≠ []) hfit (fun _ => rfl) (fun _ => by omega) ln (linesK (l.map segIt) (ln + 1) ++ R)
    simp only [List.map_cons, linesK, segIt, List.length_cons, List.append_assoc]
    rw [show f + (l.length + 1) = f + l.length + 1 by omega, h]
    have hp : putC s pTraffic [g.kind, g.ticks, g.rate] = { s with segs := s.segs ++ [g] } := by simp [putC]
    rw [hp, segs_steps l f _ _ _ R (fun x hx => hg x (by simp [hx])) (by simp; omega)]
    simp [List.replicate_succ]
/-- What was written is read as it was. -/
theorem parseR_back {s : Scn} (h : chkS s = 0) : parseR (linesT (itS s)) = ⟨s, 0, 0, 0⟩ := by
  obtain ⟨hn, hd, hne, h8, hsg⟩ := chk_fine h
  simp only [numOk, Bool.and_eq_true] at hn
  obtain ⟨⟨⟨⟨⟨⟨⟨⟨⟨⟨b1, b2⟩, b3⟩, b4⟩, b5⟩, b6⟩, b7⟩, b8⟩, b9⟩, b10⟩, b11⟩ := hn
  have w1 : (It.w pBuilding).ok ∧ (It.w pCars).ok ∧ (It.w pDoors).ok ∧ (It.w pTraffic).ok ∧ (It.w pDispatcher).ok ∧ (It.w pHorizon).ok ∧ (It.w pBins).ok := by
    refine ⟨⟨?_, ?_⟩, ⟨?_, ?_⟩, ⟨?_, ?_⟩, ⟨?_, ?_⟩, ⟨?_, ?_⟩, ⟨?_, ?_⟩, ⟨?_, ?_⟩⟩ <;> decide
  obtain ⟨w1, w2, w3, w4, w5, w6, w7⟩ := w1
  have hok : ∀ its ∈ itS s, ∀ x ∈ its, x.ok := by
    intro its hi x hx
    simp only [itS, headIt, tailIt, List.mem_append, List.mem_cons, List.not_mem_nil, or_false, List.mem_map] at hi
    rcases hi with (rfl | rfl | rfl) | ⟨g, hg, rfl⟩ | rfl | rfl | rfl
    · simp only [List.mem_cons, List.not_mem_nil, or_false] at hx
      rcases hx with rfl | rfl | rfl
      · exact w1
      · exact inB_range b1
      · exact inB_range b2
    · simp only [List.mem_cons, List.not_mem_nil, or_false] at hx
      rcases hx with rfl | rfl | rfl
      · exact w2
      · exact inB_range b3
      · exact inB_range b4
    · simp only [List.mem_cons, List.not_mem_nil, or_false] at hx
      rcases hx with rfl | rfl | rfl | rfl | rfl
      · exact w3
      · exact inB_range b5
      · exact inB_range b6
      · exact inB_range b7
      · exact inB_range b8
    · obtain ⟨hk, ht, hr⟩ := segErr_zero (hsg g hg)
      simp only [segIt, List.mem_cons, List.not_mem_nil, or_false] at hx
      rcases hx with rfl | rfl | rfl | rfl
      · exact w4
      · exact (tplB_in hk).2
      · exact inB_range ht
      · exact inB_range hr
    · simp only [List.mem_cons, List.not_mem_nil, or_false] at hx
      rcases hx with rfl | rfl
      · exact w5
      · exact (disB_in hd).2
    · simp only [List.mem_cons, List.not_mem_nil, or_false] at hx
      rcases hx with rfl | rfl
      · exact w6
      · exact inB_range b9
    · simp only [List.mem_cons, List.not_mem_nil, or_false] at hx
      rcases hx with rfl | rfl | rfl
      · exact w7
      · exact inB_range b10
      · exact inB_range b11
  have hsc := scanR_lines (itS s) (by simp [itS, headIt]) hok
  unfold parseR
  rw [hsc]
  simp only [if_true, parseT]
  generalize (linesK (itS s) 1).getLastD tk0 = last
  have hlen := linesK_len (itS s) 1
  have hl2 : (itS s).length = s.segs.length + 6 := by simp [itS, headIt, tailIt]
  obtain ⟨x, hx⟩ : ∃ x, (linesK (itS s) 1).length + 1 = x + 1 + 1 + 1 + 1 + s.segs.length + 1 + 1 + 1 := ⟨(linesK (itS s) 1).length - s.segs.length - 6, by omega⟩
  rw [hx]
  unfold itS
  rw [linesK_app, linesK_app]
  simp only [headIt, linesK, List.append_assoc, List.nil_append]
  rw [textP_step (head := pBuilding) (ns := [s.floors, s.gap]) (by decide) (.n (by decide) b1 (.n (by decide) b2 .nil)) (by simp) (fun e => absurd e (by decide))]
  rw [textP_step (head := pCars) (ns := [s.cars, s.capacity]) (by decide) (.n (by decide) b3 (.n (by decide) b4 .nil)) (by decide) (fun e => absurd e (by decide))]
  rw [textP_step (head := pDoors) (ns := [s.opn, s.dwell, s.cls, s.transfer]) (by decide) (.n (by decide) b5 (.n (by decide) b6 (.n (by decide) b7 (.n (by decide) b8 .nil)))) (by decide) (fun e => absurd e (by decide))]
  rw [segs_steps s.segs _ _ _ _ _ hsg (by simpa [putC, scnZ] using h8)]
  simp only [tailIt, linesK, List.append_assoc, List.nil_append]
  rw [textP_step (head := pDispatcher) (ns := [s.disp]) (by decide) (.w (by decide) (by simp [wordN, (disB_in hd).1]) (by omega) .nil) (by simp) (fun e => absurd e (by decide))]
  rw [textP_step (head := pHorizon) (ns := [s.horizon]) (by decide) (.n (by decide) b9 .nil) (by simp) (fun e => absurd e (by decide))]
  rw [textP_step (head := pBins) (ns := [s.bins, s.width]) (by decide) (.n (by decide) b10 (.n (by decide) b11 .nil)) (by simp) (fun e => absurd e (by decide))]
  have hrep : pTraffic ∈ List.replicate s.segs.length pTraffic := by
    rw [List.mem_replicate]; exact ⟨fun h0 => hne (List.eq_nil_of_length_eq_zero h0), rfl⟩
  simp only [textP]
  rw [if_neg]
  · simp [putC, scnZ]
  · simp [lackW, linesW, hrep]
    exact hne
end Go.Am
