/- Law 26: what the walks of parse.Text and of its reference have in common. -/
import Derived.Test.YtnjjnokckgjecaaLexWith
import Derived.Test.YtnjjnokckgjecaaParG
import Derived.Test.YtnjjnokckgjecaaPrsMay
set_option linter.unusedVariables false
set_option linter.unusedSimpArgs false
set_option maxRecDepth 10000
set_option maxHeartbeats 2000000
namespace Go.Am
def TextC26 (g : List AV → Option (List AV)) : Prop := ∀ x : List UInt8, x.length ≤ 50000 → g [st x] = some [.agg (parseR x).s.cells, .agg [.int .i64 (parseR x).e, .int .i64 (parseR x).l, .int .i64 (parseR x).c]]
abbrev scA (s : Scn) (g : AV) : List AV := [i64 s.floors, i64 s.gap, i64 s.cars, i64 s.capacity, i64 s.opn, i64 s.dwell, i64 s.cls, i64 s.transfer, g, i64 s.disp, i64 s.horizon, i64 s.bins, i64 s.width]
abbrev z13 : Obj := ⟨13, [[i64 0, i64 0, i64 0, i64 0, i64 0, i64 0, i64 0, i64 0, .nil 3, i64 0, i64 0, i64 0, i64 0]]⟩
abbrev y13 : Obj := ⟨13, [[i64 0, i64 0, i64 0, i64 0, i64 0, i64 0, i64 0, i64 0, .c (.vs 3 []), i64 0, i64 0, i64 0, i64 0]]⟩
abbrev z3 : Obj := ⟨3, [[i64 0, i64 0, i64 0]]⟩
abbrev tksV (l : List Tk) : AV := .c (.vs 5 (l.map Tk.cells))
abbrev strsR (l : List (List UInt8)) : Rows := l.map (toAV ∘ strQ)
def retBad (e : Int) (t : Tk) : St := ⟨[(2, .loc 2 0 0), (3, .loc 3 0 0)], [(2, y13), (3, ⟨3, [[i64 e, i64 t.l, i64 t.c]]⟩)]⟩
theorem putC_segs {s : Scn} {w : List UInt8} {ns : List Int} (hne : shapeW w ≠ []) (hl : ns.length = (shapeW w).length) : (putC s w ns).segs.length = s.segs.length + if w = pTraffic then 1 else 0 := by
  have hw := shapeW_mem hne
  simp only [linesW, List.mem_cons, List.not_mem_nil, or_false] at hw
  rcases hw with rfl | rfl | rfl | rfl | rfl | rfl | rfl
  · obtain ⟨a, b, rfl⟩ : ∃ a b, ns = [a, b] := by
      match ns, hl with
      | [a, b], _ => exact ⟨a, b, rfl⟩
    simp [putC]
  · obtain ⟨a, b, rfl⟩ : ∃ a b, ns = [a, b] := by
      match ns, hl with
      | [a, b], _ => exact ⟨a, b, rfl⟩
    simp [putC]
  · obtain ⟨a, b, c, d, rfl⟩ : ∃ a b c d, ns = [a, b, c, d] := by
      match ns, hl with
      | [a, b, c, d], _ => exact ⟨a, b, c, d, rfl⟩
    simp [putC]
  · obtain ⟨k, a, b, rfl⟩ : ∃ k a b, ns = [k, a, b] := by
      match ns, hl with
      | [a, b, c], _ => exact ⟨a, b, c, rfl⟩
    simp [putC]
  · obtain ⟨a, rfl⟩ : ∃ a, ns = [a] := List.length_eq_one_iff.1 hl
    simp [putC]
  · obtain ⟨a, rfl⟩ : ∃ a, ns = [a] := List.length_eq_one_iff.1 hl
    simp [putC]
  · obtain ⟨a, b, rfl⟩ : ∃ a b, ns = [a, b] := by
      match ns, hl with
      | [a, b], _ => exact ⟨a, b, rfl⟩
    simp [putC]
theorem nmRows_strsR (k : Nat) (l : List (List UInt8)) : nmRows k (strsR l) = true := nmRows_comp k _ l
theorem lcRows_strsR (k : Nat) (l : List (List UInt8)) : lcRows k (strsR l) = true := lcRows_comp k _ l
/-- What stands for the segments. -/
def SegV (s : Scn) (g : AV) : Prop := g = .nil 3 ∧ s.segs = [] ∨ g = .c (.vs 3 (s.segs.map Seg.cells))
theorem SegV.names {s : Scn} {g : AV} (h : SegV s g) (k : Nat) : g.names k = false := by
  rcases h with ⟨rfl, _⟩ | rfl <;> rfl
theorem SegV.isLoc {s : Scn} {g : AV} (h : SegV s g) (k : Nat) : g.isLoc k = false := by
  rcases h with ⟨rfl, _⟩ | rfl <;> rfl
theorem SegV.load {s : Scn} {g : AV} (h : SegV s g) : allD (scA s g) = some s.cells := by
  rcases h with ⟨rfl, h⟩ | rfl
  · simp [h]
  · simp
abbrev linA : List AV := [st pBuilding, st pCars, st pDoors, st pTraffic, st pDispatcher, st pHorizon, st pBins]
end Go.Am
