/- Law 26: what is read may be. -/
import Derived.Test.YtnjjnokckgjecaaPrs
set_option linter.unusedVariables false
set_option linter.unusedSimpArgs false
set_option maxRecDepth 10000
set_option maxHeartbeats 1000000
namespace Go.Am
theorem partN_in {nm : List UInt8} {t : Tk} {n : Int} (hw : isWord nm = false) (h : partE nm t = 0 ∧ n = partN nm t) : inB nm n = true := by
  obtain ⟨h1, rfl⟩ := h
  simp only [partN, hw, Bool.false_eq_true, if_false]
  simp only [partE, hw, Bool.false_eq_true, if_false] at h1
  split at h1
  · simp at h1
  · split at h1
    · simp at h1
    · split at h1
      · assumption
      · simp at h1
theorem temW_in (w : List UInt8) : temW w = 0 ∨ (1 ≤ temW w ∧ temW w ≤ 4) := by
  unfold temW; (repeat' split) <;> omega
theorem dspW_in (w : List UInt8) : dspW w = 0 ∨ (1 ≤ dspW w ∧ dspW w ≤ 4) := by
  unfold dspW; (repeat' split) <;> omega
theorem partN_word {nm : List UInt8} {t : Tk} {n : Int} (hw : isWord nm = true) (h : partE nm t = 0 ∧ n = partN nm t) : 1 ≤ n ∧ n ≤ 4 := by
  obtain ⟨h1, rfl⟩ := h
  simp only [partN, hw, if_true]
  simp only [partE, hw, if_true] at h1
  have hn : wordN nm t.tx ≠ 0 := by
    split at h1
    · simp at h1
    · split at h1
      · split at h1
        · simp at h1
        · assumption
      · simp at h1
  unfold wordN at hn ⊢
  split
  · rename_i h; rw [if_pos h] at hn; exact (dspW_in _).resolve_left hn
  · rename_i h; rw [if_neg h] at hn; exact (temW_in _).resolve_left hn
structure May (s : Scn) (seen : List (List UInt8)) : Prop where
  bu : pBuilding ∈ seen → inB pFloors s.floors = true ∧ inB pGap s.gap = true
  ca : pCars ∈ seen → inB pCars s.cars = true ∧ inB pCapacity s.capacity = true
  dr : pDoors ∈ seen → inB pOpen s.opn = true ∧ inB pDwell s.dwell = true ∧ inB pClose s.cls = true ∧ inB pTransfer s.transfer = true
  tr : pTraffic ∈ seen → s.segs ≠ []
  di : pDispatcher ∈ seen → 1 ≤ s.disp ∧ s.disp ≤ 4
  ho : pHorizon ∈ seen → inB pHorizon s.horizon = true
  bi : pBins ∈ seen → inB pBins s.bins = true ∧ inB pWidth s.width = true
  n : s.segs.length ≤ 8
  g : ∀ g ∈ s.segs, segErr g = 0
theorem shapeW_mem {w : List UInt8} (h : shapeW w ≠ []) : w ∈ linesW := by
  by_cases h1 : w = pBuilding
  · subst h1; decide
  by_cases h2 : w = pCars
  · subst h2; decide
  by_cases h3 : w = pDoors
  · subst h3; decide
  by_cases h4 : w = pTraffic
  · subst h4; decide
  by_cases h5 : w = pHorizon
  · subst h5; decide
  by_cases h6 : w = pBins
  · subst h6; decide
  by_cases h7 : w = pDispatcher
  · subst h7; decide
  simp [shapeW, namesW, h1, h2, h3, h4, h5, h6, h7] at h
theorem may_line {s : Scn} {seen : List (List UInt8)} {w : List UInt8} {ns : List Int} {P : Tk → Prop} (hm : May s seen) (hne : shapeW w ≠ []) (h8 : w = pTraffic → s.segs.length ≠ 8) (hl : ns.length = (shapeW w).length)
    (h : ∀ (i : Nat) (nm : List UInt8) (n : Int), (shapeW w)[i]? = some nm → ns[i]? = some n → ∃ t, P t ∧ partE nm t = 0 ∧ n = partN nm t) : May (putC s w ns) (seen ++ [w]) := by
  have hin : ∀ (i : Nat) (nm : List UInt8) (n : Int), (shapeW w)[i]? = some nm → ns[i]? = some n → isWord nm = false → inB nm n = true := fun i nm n h1 h2 h3 => by
    obtain ⟨t, _, h4⟩ := h i nm n h1 h2; exact partN_in h3 h4
  have hwd : ∀ (i : Nat) (nm : List UInt8) (n : Int), (shapeW w)[i]? = some nm → ns[i]? = some n → isWord nm = true → 1 ≤ n ∧ n ≤ 4 := fun i nm n h1 h2 h3 => by
    obtain ⟨t, _, h4⟩ := h i nm n h1 h2; exact partN_word h3 h4
  clear h
  have hw := shapeW_mem hne
  simp only [linesW, List.mem_cons, List.not_mem_nil, or_false] at hw
  obtain ⟨m1, m2, m3, m4, m5, m6, m7, m8, m9⟩ := hm
  rcases hw with rfl | rfl | rfl | rfl | rfl | rfl | rfl
  · obtain ⟨a, b, rfl⟩ : ∃ a b, ns = [a, b] := by
      match ns, hl with
      | [a, b], _ => exact ⟨a, b, rfl⟩
    have e0 := hin 0 pFloors a rfl rfl (by decide)
    have e1 := hin 1 pGap b rfl rfl (by decide)
    constructor <;> simp [putC] <;> first | assumption | (constructor <;> assumption)
  · obtain ⟨a, b, rfl⟩ : ∃ a b, ns = [a, b] := by
      match ns, hl with
      | [a, b], _ => exact ⟨a, b, rfl⟩
    have e0 := hin 0 pCars a rfl rfl (by decide)
    have e1 := hin 1 pCapacity b rfl rfl (by decide)
    constructor <;> simp [putC] <;> first | assumption | (constructor <;> assumption)
  · obtain ⟨a, b, c, d, rfl⟩ : ∃ a b c d, ns = [a, b, c, d] := by
      match ns, hl with
      | [a, b, c, d], _ => exact ⟨a, b, c, d, rfl⟩
    have e0 := hin 0 pOpen a rfl rfl (by decide)
    have e1 := hin 1 pDwell b rfl rfl (by decide)
    have e2 := hin 2 pClose c rfl rfl (by decide)
    have e3 := hin 3 pTransfer d rfl rfl (by decide)
    constructor <;> simp [putC] <;> first | assumption | exact ⟨e0, e1, e2, e3⟩
  · obtain ⟨k, a, b, rfl⟩ : ∃ k a b, ns = [k, a, b] := by
      match ns, hl with
      | [a, b, c], _ => exact ⟨a, b, c, rfl⟩
    have e0 := hwd 0 [116] k rfl rfl (by decide)
    have e1 := hin 1 pTicks a rfl rfl (by decide)
    have e2 := hin 2 pRate b rfl rfl (by decide)
    have hs : segErr ⟨k, a, b⟩ = 0 := by
      simp only [segErr]
      rw [if_neg (by omega)]
      simp only [pTicks, pRate] at e1 e2
      simp [e1, e2]
    have := h8 rfl
    constructor <;> simp [putC] <;> first | assumption | omega | skip
    intro g hg
    rcases hg with hg | rfl
    · exact m9 g hg
    · exact hs
  · obtain ⟨a, rfl⟩ : ∃ a, ns = [a] := List.length_eq_one_iff.1 hl
    have e0 := hwd 0 [100] a rfl rfl (by decide)
    constructor <;> simp [putC] <;> first | assumption | (constructor <;> assumption)
  · obtain ⟨a, rfl⟩ : ∃ a, ns = [a] := List.length_eq_one_iff.1 hl
    have e0 := hin 0 pHorizon a rfl rfl (by decide)
    constructor <;> simp [putC] <;> first | assumption | (constructor <;> assumption)
  · obtain ⟨a, b, rfl⟩ : ∃ a b, ns = [a, b] := by
      match ns, hl with
      | [a, b], _ => exact ⟨a, b, rfl⟩
    have e0 := hin 0 pBins a rfl rfl (by decide)
    have e1 := hin 1 pWidth b rfl rfl (by decide)
    constructor <;> simp [putC] <;> first | assumption | (constructor <;> assumption)
theorem chkSegs_zero : ∀ {l : List Seg}, (∀ g ∈ l, segErr g = 0) → chkSegs l = 0
  | [], _ => rfl
  | g :: r, h => by simp only [chkSegs, h g (by simp), if_true]; exact chkSegs_zero fun x hx => h x (by simp [hx])
theorem may_chk {s : Scn} {seen : List (List UInt8)} (h : May s seen) (hl : lackW seen = false) : chkS s = 0 := by
  simp [lackW, linesW] at hl
  obtain ⟨h1, h2, h3, h4, h5, h6, h7⟩ := hl
  have b1 := h.bu h1
  have b2 := h.ca h2
  have b3 := h.dr h3
  have b4 := h.tr h4
  have b5 := h.di h5
  have b6 := h.ho h6
  have b7 := h.bi h7
  have hn : numOk s = true := by
    simp only [numOk, pFloors, pGap, pCars, pCapacity, pOpen, pDwell, pClose, pTransfer, pHorizon, pBins, pWidth] at b1 b2 b3 b6 b7 ⊢
    simp [b1, b2, b3, b6, b7]
  have hlen := h.n
  have hz : s.segs.length ≠ 0 := fun h0 => b4 (List.eq_nil_of_length_eq_zero h0)
  unfold chkS
  rw [if_neg (by simp [hn]), if_neg (by omega), if_neg hz, if_neg (by omega)]
  exact chkSegs_zero h.g
theorem scnZ_may : May scnZ [] := by constructor <;> simp [scnZ]
/-- What a text says may be, or there is something wrong with one of its tokens. -/
theorem textP_spec (P : Tk → Prop) (last : Tk) (hlast : P last) : ∀ (f : Nat) (s : Scn) (seen : List (List UInt8)) (r : List Tk), r.length < f → (r = [] ∨ EndL r) → (∀ t ∈ r, P t) → May s seen →
    (∃ e t, textP last f s seen r = badR e t ∧ e ≠ 0 ∧ P t) ∨ ∃ s', textP last f s seen r = ⟨s', 0, 0, 0⟩ ∧ chkS s' = 0 ∧ s'.segs.length ≤ 8
  | 0, s, seen, r, h, _, _, _ => by omega
  | f + 1, s, seen, [], h, _, _, hm => by
    simp only [textP]
    cases hl : lackW seen with
    | true => exact .inl ⟨263, last, by simp, by decide, hlast⟩
    | false => exact .inr ⟨s, by simp, may_chk hm hl, hm.n⟩
  | f + 1, s, seen, t :: r, h, hE, hP, hm => by
    have hE : EndL (t :: r) := hE.resolve_left (by simp)
    simp only [List.length_cons] at h
    simp only [textP]
    by_cases h3 : t.kd = 3
    · rw [if_pos h3]; exact textP_spec P last hlast f s seen r (by omega) (endL_or hE) (fun x hx => hP x (by simp [hx])) hm
    · rw [if_neg h3]
      rcases lineP_spec P s seen t r hE h3 hP with ⟨e, x, r', h4, h5, h6, _⟩ | ⟨ns, r', h4, _, h5, _, h6, h7, h8, h9, h10, h11⟩
      · rw [h4]; exact .inl ⟨e, x, rfl, h5, h6⟩
      · rw [h4]
        exact textP_spec P last hlast f _ _ r' (by omega) h8 (fun x hx => hP x (by simp [h10 x hx])) (may_line hm h5 h6 h7 h11)
theorem endL_len {r : List Tk} (h : EndL r) : r.getLastD tk0 ∈ r := by
  obtain ⟨t, h1, _⟩ := h
  rw [List.getLastD_eq_getLast?, h1]
  exact List.mem_of_getLast? h1
/-- With what it was that was wrong, and where. -/
theorem parseR_spec (x : List UInt8) (hx : x.length ≤ 65536) :
    ((scanR x).e ≠ 0 ∧ parseR x = ⟨scnZ, (scanR x).e, (scanR x).l, (scanR x).c⟩) ∨ ((scanR x).e = 0 ∧ ((∃ e t, parseR x = badR e t ∧ e ≠ 0 ∧ t ∈ (scanR x).ts) ∨ ∃ s', parseR x = ⟨s', 0, 0, 0⟩ ∧ chkS s' = 0 ∧ s'.segs.length ≤ 8)) := by
  unfold parseR
  by_cases h : (scanR x).e = 0
  · rw [if_pos h]
    have hE : EndL (scanR x).ts := (scanR_ok x hx).2 h
    exact .inr ⟨h, textP_spec (fun t => t ∈ (scanR x).ts) _ (endL_len hE) _ _ _ _ (by omega) (.inr hE) (fun _ h => h) scnZ_may⟩
  · rw [if_neg h]; exact .inl ⟨h, rfl⟩
end Go.Am
