/- The program's types, as data. -/
import Derived.Test.YtdnmppikakpdiaaAs
set_option linter.unusedVariables false
namespace Go.Am
structure Trip where
  id : Int
  arrive : Int
  frm : Int
  to : Int
  car : Int
  board : Int
  alight : Int
def Trip.cells (t : Trip) : List D := [.int .i64 t.id, .int .i64 t.arrive, .int .i64 t.frm, .int .i64 t.to, .int .i64 t.car, .int .i64 t.board, .int .i64 t.alight]
structure Trip.Ok (t : Trip) : Prop where
  id : InI64 t.id
  arrive : InI64 t.arrive
  frm : InI64 t.frm
  to : InI64 t.to
  car : InI64 t.car
  board : InI64 t.board
  alight : InI64 t.alight
abbrev ctI : CT := .int .i64
def ctTrip : List CT := [ctI, ctI, ctI, ctI, ctI, ctI, ctI]
theorem trip_row (r : List D) (h : All2 WT ctTrip r) : ∃ t : Trip, r = t.cells ∧ t.Ok := by
  simp only [ctTrip, all2_cons, all2_nil, wt_i64] at h
  obtain ⟨_, _, rfl, ⟨a, rfl, ha⟩, _, _, rfl, ⟨b, rfl, hb⟩, _, _, rfl, ⟨c, rfl, hc⟩, _, _, rfl, ⟨d, rfl, hd⟩, _, _, rfl, ⟨e, rfl, he⟩, _, _, rfl, ⟨f, rfl, hf⟩, _, _, rfl, ⟨g, rfl, hg⟩, rfl⟩ := h
  exact ⟨⟨a, b, c, d, e, f, g⟩, rfl, ⟨ha, hb, hc, hd, he, hf, hg⟩⟩
structure Leg where
  tick : Int
  pos : Int
  dir : Int
  door : Bool
def Leg.cells (t : Leg) : List D := [.int .i64 t.tick, .int .i64 t.pos, .int .i64 t.dir, .bool t.door]
structure Leg.Ok (t : Leg) : Prop where
  tick : InI64 t.tick
  pos : InI64 t.pos
  dir : InI64 t.dir
def ctLeg : List CT := [ctI, ctI, ctI, .bool]
theorem leg_row (r : List D) (h : All2 WT ctLeg r) : ∃ t : Leg, r = t.cells ∧ t.Ok := by
  simp only [ctLeg, all2_cons, all2_nil, wt_i64, wt_bool] at h
  obtain ⟨_, _, rfl, ⟨a, rfl, ha⟩, _, _, rfl, ⟨b, rfl, hb⟩, _, _, rfl, ⟨c, rfl, hc⟩, _, _, rfl, ⟨d, rfl⟩, rfl⟩ := h
  exact ⟨⟨a, b, c, d⟩, rfl, ⟨ha, hb, hc⟩⟩
def ctLegs : List CT := [.sl ctLeg]
def legsRow (l : List Leg) : List D := [.vs 4 (l.map Leg.cells)]
theorem legs_row (r : List D) (h : All2 WT ctLegs r) : ∃ l : List Leg, r = legsRow l ∧ (l.length ≤ maxLen ∧ ∀ g ∈ l, g.Ok) := by
  simp only [ctLegs, all2_cons, all2_nil, wt_sl] at h
  obtain ⟨_, _, rfl, ⟨rows, rfl, hl, h⟩, rfl⟩ := h
  obtain ⟨ts, rfl, hts⟩ := rows_map leg_row rows h
  exact ⟨ts, rfl, by simpa using hl, hts⟩
structure Log where
  trips : List Trip
  legs : List (List Leg)
  used : Int
def Log.cells (l : Log) : List D := [.vs 7 (l.trips.map Trip.cells), .vs 1 (l.legs.map legsRow), .int .i64 l.used]
structure Log.Ok (l : Log) : Prop where
  ntrips : l.trips.length ≤ maxLen
  trips : ∀ t ∈ l.trips, t.Ok
  nlegs : l.legs.length ≤ maxLen
  legs : ∀ g ∈ l.legs, g.length ≤ maxLen ∧ ∀ x ∈ g, x.Ok
  used : InI64 l.used
def ctLog : List CT := [.sl ctTrip, .sl ctLegs, ctI]
theorem log_row (r : List D) (h : All2 WT ctLog r) : ∃ l : Log, r = l.cells ∧ l.Ok := by
  simp only [ctLog, all2_cons, all2_nil, wt_i64, wt_sl] at h
  obtain ⟨_, _, rfl, ⟨trips, rfl, hl1, h1⟩, _, _, rfl, ⟨legs, rfl, hl2, h2⟩, _, _, rfl, ⟨n, rfl, hn⟩, rfl⟩ := h
  obtain ⟨ts, rfl, hts⟩ := rows_map trip_row trips h1
  obtain ⟨ls, rfl, hls⟩ := rows_map legs_row legs h2
  exact ⟨⟨ts, ls, n⟩, rfl, ⟨by simpa using hl1, hts, by simpa using hl2, hls, hn⟩⟩
structure Seg where
  kind : Int
  ticks : Int
  rate : Int
  deriving DecidableEq
def Seg.cells (g : Seg) : List D := [.int .i64 g.kind, .int .i64 g.ticks, .int .i64 g.rate]
structure Seg.Ok (t : Seg) : Prop where
  kind : InI64 t.kind
  ticks : InI64 t.ticks
  rate : InI64 t.rate
def ctSeg : List CT := [ctI, ctI, ctI]
theorem seg_row (r : List D) (h : All2 WT ctSeg r) : ∃ t : Seg, r = t.cells ∧ t.Ok := by
  simp only [ctSeg, all2_cons, all2_nil, wt_i64] at h
  obtain ⟨_, _, rfl, ⟨a, rfl, ha⟩, _, _, rfl, ⟨b, rfl, hb⟩, _, _, rfl, ⟨c, rfl, hc⟩, rfl⟩ := h
  exact ⟨⟨a, b, c⟩, rfl, ⟨ha, hb, hc⟩⟩
structure Scn where
  floors : Int
  gap : Int
  cars : Int
  capacity : Int
  opn : Int
  dwell : Int
  cls : Int
  transfer : Int
  segs : List Seg
  disp : Int
  horizon : Int
  bins : Int
  width : Int
def Scn.cells (s : Scn) : List D := [.int .i64 s.floors, .int .i64 s.gap, .int .i64 s.cars, .int .i64 s.capacity, .int .i64 s.opn, .int .i64 s.dwell, .int .i64 s.cls, .int .i64 s.transfer, .vs 3 (s.segs.map Seg.cells), .int .i64 s.disp, .int .i64 s.horizon, .int .i64 s.bins, .int .i64 s.width]
structure Scn.Ok (s : Scn) : Prop where
  floors : InI64 s.floors
  gap : InI64 s.gap
  cars : InI64 s.cars
  capacity : InI64 s.capacity
  opn : InI64 s.opn
  dwell : InI64 s.dwell
  cls : InI64 s.cls
  transfer : InI64 s.transfer
  nsegs : s.segs.length ≤ maxLen
  segs : ∀ g ∈ s.segs, g.Ok
  disp : InI64 s.disp
  horizon : InI64 s.horizon
  bins : InI64 s.bins
  width : InI64 s.width
def ctScn : List CT := [ctI, ctI, ctI, ctI, ctI, ctI, ctI, ctI, .sl ctSeg, ctI, ctI, ctI, ctI]
theorem scn_row (r : List D) (h : All2 WT ctScn r) : ∃ t : Scn, r = t.cells ∧ t.Ok := by
  simp only [ctScn, all2_cons, all2_nil, wt_i64, wt_sl] at h
  obtain ⟨_, _, rfl, ⟨a, rfl, ha⟩, _, _, rfl, ⟨b, rfl, hb⟩, _, _, rfl, ⟨c, rfl, hc⟩, _, _, rfl, ⟨d, rfl, hd⟩, _, _, rfl, ⟨e, rfl, he⟩, _, _, rfl, ⟨f, rfl, hf⟩, _, _, rfl, ⟨g, rfl, hg⟩, _, _, rfl, ⟨i, rfl, hi⟩,
    _, _, rfl, ⟨rows, rfl, hl, hrows⟩, _, _, rfl, ⟨j, rfl, hj⟩, _, _, rfl, ⟨k, rfl, hk⟩, _, _, rfl, ⟨m, rfl, hm⟩, _, _, rfl, ⟨n, rfl, hn⟩, rfl⟩ := h
  obtain ⟨ts, rfl, hts⟩ := rows_map seg_row rows hrows
  exact ⟨⟨a, b, c, d, e, f, g, i, ts, j, k, m, n⟩, rfl, ⟨ha, hb, hc, hd, he, hf, hg, hi, by simpa using hl, hts, hj, hk, hm, hn⟩⟩
attribute [simp] Seg.cells Scn.cells Trip.cells Leg.cells legsRow Log.cells
end Go.Am
