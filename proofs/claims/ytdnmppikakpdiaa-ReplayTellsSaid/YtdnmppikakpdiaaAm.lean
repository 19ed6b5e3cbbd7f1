/- An evaluator with value semantics over a compact code: data, states, operations, control. -/
import GoSem.Core.Code
import GoSem.Core.View
import GoSem.Op.String
set_option linter.unusedVariables false
namespace Go.Am

/-- Values that are neither data nor of own objects: a function (by its number in the program), the nil pointer, the nil map, the nil interface, some address. -/
inductive Oth where
  | fn (g : Nat)
  | np
  | nm
  | ni
  | jk
  deriving DecidableEq
/-- One cell of data without references. A slice that is only read is a value: its rows, each the cells of an element. -/
inductive D where
  | int (k : IntKind) (n : Int)
  | bool (b : Bool)
  | str (s : List UInt8)
  | vs (sz : Nat) (rows : List (List D))
  | nil (sz : Nat)
  | ot (x : Oth)

/-- Keys from here on say which type the elements have: (type + 1) * KT + n. -/
def KT : Nat := 18446744073709551616
def tyEq (k key : Nat) : Bool := decide (k < KT) || k / KT == key / KT
/-- Keys from here on are those of own maps; from twice as far on: of iterators. -/
def MK : Nat := 1461501637330902918203684832716283019655932542976
/-- What a slot holds: data of one cell; a struct or array by value; nil slice (no room); a slice of an own object; the address of a cell of an own object; the address of a cell in data; several results; another value; an own map; an iterator over a map; a struct by value that holds references; a function with what it holds. -/
inductive AV where
  | c (d : D)
  | agg (cs : List D)
  | nil (sz : Nat)
  | sl (key ver start len : Nat)
  | loc (key row off : Nat)
  | vp (row : List D) (off : Nat)
  | tup (vs : List AV)
  | ot (x : Oth)
  | mp (key : Nat)
  | itr (key : Nat)
  | ags (cs : List AV)
  | clo (g : Nat) (cs : List AV)

inductive Opd where
  | t (n : Nat)
  | k (v : AV)

abbrev Rows := List (List AV)
/-- An own object: of cells: how many an element has, its elements. A map: its clock; its entries: birth, key, value. -/
structure Obj where
  sz : Nat
  rows : Rows

structure St where
  fr : List (Nat × AV)
  ob : List (Nat × Obj)

def get {α : Type} : List (Nat × α) → Nat → Option α
  | [], _ => none
  | (k, v) :: r, i => if k = i then some v else get r i
def del {α : Type} : List (Nat × α) → Nat → List (Nat × α)
  | [], _ => []
  | (k, v) :: r, i => if k = i then del r i else (k, v) :: del r i
def keepC {α : Type} (k : Nat) : Option α → List (Nat × α) → List (Nat × α)
  | some v, r => (k, v) :: r
  | none, r => r
def keep {α : Type} : List Nat → List (Nat × α) → List (Nat × α)
  | [], _ => []
  | k :: ks, l => keepC k (get l k) (keep ks l)

def St.opd (s : St) : Opd → Option AV
  | .t n => get s.fr n
  | .k v => some v
def St.put (s : St) (d : Option Nat) (v : AV) : St :=
  match d with
  | some i => ⟨(i, v) :: s.fr, s.ob⟩
  | none => s
def St.obj (s : St) (key : Nat) (r : Obj) : St := ⟨s.fr, (key, r) :: del s.ob key⟩

/-! ### Values -/
def allD : List AV → Option (List D)
  | [] => some []
  | .c d :: r => (allD r).map (d :: ·)
  | .nil sz :: r => (allD r).map (.vs sz [] :: ·)
  | _ :: _ => none
def allRows : Rows → Option (List (List D))
  | [] => some []
  | r :: rs => match allD r, allRows rs with
    | some a, some b => some (a :: b)
    | _, _ => none
/-- The rows that a slice shows, as data. -/
def St.view (s : St) : AV → Option (Nat × List (List D))
  | .c (.vs sz rows) => some (sz, rows)
  | .nil sz => some (sz, [])
  | .sl key ver start len => match get s.ob key with
    | some o => if o.rows.length = ver ∧ start + len ≤ ver then (allRows o.rows).map fun r => (o.sz, (r.drop start).take len) else none
    | none => none
  | _ => none
/-- A value as data; the key of an own object that it shows. -/
def St.frz (s : St) : AV → Option (AV × Option Nat)
  | .c d => some (.c d, none)
  | .agg cs => some (.agg cs, none)
  | .nil sz => some (.c (.vs sz []), none)
  | .sl key ver start len => (s.view (.sl key ver start len)).map fun r => (.c (.vs r.1 r.2), some key)
  | _ => none
def kill (s : St) : List Nat → St
  | [] => s
  | k :: ks => kill ⟨s.fr, del s.ob k⟩ ks
def St.frzs (s : St) : List AV → Option (List AV × List Nat)
  | [] => some ([], [])
  | v :: vs => match s.frz v, s.frzs vs with
    | some (d, k), some (ds, ks) => some (d :: ds, k.toList ++ ks)
    | _, _ => none
def St.opds (s : St) : List Opd → Option (List AV)
  | [] => some []
  | x :: xs => match s.opd x, s.opds xs with
    | some v, some vs => some (v :: vs)
    | _, _ => none
def AV.dcells : AV → Option (List D)
  | .c d => some [d]
  | .agg cs => some cs
  | .nil sz => some [.vs sz []]
  | _ => none
/-- Holds a value no slice? -/
def D.flat : D → Bool
  | .vs _ _ => false
  | _ => true
def AV.flat : AV → Bool
  | .c d => d.flat
  | .agg cs => cs.all D.flat
  | _ => false

/-! ### Operations -/
def cmpI (op : BinOp) (x y : Int) : Option Bool :=
  match op with
  | .eql => some (decide (x = y)) | .neq => some (!decide (x = y))
  | .lss => some (decide (x < y)) | .leq => some (decide (x ≤ y)) | .gtr => some (decide (y < x)) | .geq => some (decide (y ≤ x))
  | _ => none
def wrapK (k : IntKind) (n : Int) : Int := k.wrap n
def tdivK (x y : Int) : Int := x.tdiv y
def tmodK (x y : Int) : Int := x.tmod y
/-- Bit by bit. -/
def bitsK (op : BinOp) (k : IntKind) (x y : Int) : Int :=
  let a := BitVec.ofInt k.bits x
  let b := BitVec.ofInt k.bits y
  match op with
  | .and => k.wrap (a &&& b).toNat
  | .or => k.wrap (a ||| b).toNat
  | .xor => k.wrap (a ^^^ b).toNat
  | _ => k.wrap (a &&& ~~~b).toNat
def notK (k : IntKind) (x : Int) : Int := bitsK .xor k (if k.signed then -1 else k.max) x
def binI (op : BinOp) (k : IntKind) (x y : Int) : Option D :=
  match op with
  | .and => some (.int k (bitsK .and k x y)) | .or => some (.int k (bitsK .or k x y)) | .xor => some (.int k (bitsK .xor k x y)) | .andNot => some (.int k (bitsK .andNot k x y))
  | .add => some (.int k (wrapK k (x + y))) | .sub => some (.int k (wrapK k (x - y))) | .mul => some (.int k (wrapK k (x * y)))
  | .quo => if y = 0 then none else some (.int k (wrapK k (tdivK x y)))
  | .rem => if y = 0 then none else some (.int k (tmodK x y))
  | op => (cmpI op x y).map .bool
abbrev strLt := Go.Op.bytesLess
def maxStr : Nat := 9223372036854775807
def binS (op : BinOp) (x y : List UInt8) : Option D :=
  match op with
  | .add => if x.length + y.length ≤ maxStr then some (.str (x ++ y)) else none
  | .eql => some (.bool (decide (x = y))) | .neq => some (.bool (!decide (x = y)))
  | .lss => some (.bool (strLt x y)) | .leq => some (.bool (strLt x y || decide (x = y)))
  | .gtr => some (.bool (!(strLt x y || decide (x = y)))) | .geq => some (.bool (!strLt x y))
  | _ => none
/-- What a cell holds. -/
inductive Kd where
  | int (k : IntKind)
  | bool
  | str
  deriving DecidableEq
/-- Are two cells, of a kind, the same? -/
def eqK : Kd → D → D → Option Bool
  | .int k, .int k1 a, .int k2 b => if k1 = k ∧ k2 = k then some (decide (a = b)) else none
  | .bool, .bool a, .bool b => some (decide (a = b))
  | .str, .str a, .str b => some (decide (a = b))
  | _, _, _ => none
def eqKs : List Kd → List D → List D → Option Bool
  | [], [], [] => some true
  | k :: ks, x :: xs, y :: ys => match eqK k x y, eqKs ks xs ys with
    | some a, some b => some (a && b)
    | _, _ => none
  | _, _, _ => none
def binV (op : BinOp) : AV → AV → Option D
  | .c (.int k x), .c (.int k' y) => if k = k' then binI op k x y else none
  | .c (.str x), .c (.str y) => binS op x y
  | _, _ => none
def unV (op : UnOp) : AV → Option D
  | .c (.int k x) => match op with | .neg => some (.int k (wrapK k (0 - x))) | .xor => some (.int k (notK k x)) | _ => none
  | .c (.bool b) => match op with | .not => some (.bool (!b)) | _ => none
  | _ => none
inductive Cv where
  | int (k : IntKind)
  | same
  | toStr
def isU8 : List D → Bool
  | [.int .u8 _] => true
  | _ => false
def u8of : List D → UInt8
  | [.int .u8 n] => UInt8.ofNat n.toNat
  | _ => 0
def isByte : List D → Bool
  | [.int .u8 n] => decide (0 ≤ n ∧ n ≤ 255)
  | _ => false
def u8row (b : UInt8) : List D := [.int .u8 b.toNat]
def St.conv (s : St) : Cv → AV → Option D
  | .int k, .c (.int _ n) => some (.int k (wrapK k n))
  | .same, .c (.str x) => some (.str x)
  | .toStr, x => match s.view x with
    | some (_, rows) => if rows.all isU8 then some (.str (rows.map u8of)) else none
    | none => none
  | _, _ => none
/-- The cells from 'off' on, as a value. -/
def part (cs : List D) (off sz : Nat) (ag : Bool) : Option AV :=
  if off + sz ≤ cs.length then
    if ag then some (.agg ((cs.drop off).take sz)) else (cs[off]?).map .c
  else none
def asNat : AV → Option Nat
  | .c (.int _ n) => if 0 ≤ n then some n.toNat else none
  | _ => none
/-- In front of what a bound must not pass. -/
def room (n bytes : Nat) : Bool := decide (n * bytes ≤ 140737488355328)
def toAV (cs : List D) : List AV := cs.map .c
def splice {α : Type} (cs : List α) (off : Nat) (xs : List α) : List α := cs.take off ++ xs ++ cs.drop (off + xs.length)
def bounds (n : Nat) (lo hi : Option AV) : Option (Nat × Nat) :=
  match (match hi with | some v => asNat v | none => some n), (match lo with | some v => asNat v | none => some 0) with
  | some h, some l => if l ≤ h ∧ h ≤ n then some (l, h) else none
  | _, _ => none
def St.opdO (s : St) : Option Opd → Option (Option AV)
  | none => some none
  | some x => (s.opd x).map some

inductive Act where
  | mov (x : Opd)
  | frz (x : Opd)
  | pick (c a b : Opd)
  | bin (op : BinOp) (x y : Opd)
  | eqs (neg : Bool) (ks : List Kd) (x y : Opd)
  | beq (neg : Bool) (x y : Opd)
  | un (op : UnOp) (x : Opd)
  | conv (c : Cv) (x : Opd)
  | ext (x : Opd) (i : Nat)
  | fld (x : Opd) (off sz : Nat) (ag : Bool)
  | idx (x i : Opd) (n sz : Nat) (ag : Bool)
  | sidx (x i : Opd)
  | iad (x i : Opd) (sz : Nat)
  | iadA (x i : Opd) (n sz : Nat)
  | fad (x : Opd) (off : Nat)
  | ld (x : Opd) (sz : Nat) (ag : Bool)
  | sto (sz : Nat) (x v : Opd)
  | stoG (sz : Nat) (x v : Opd)
  | stoF (sz : Nat) (x v : Opd)
  | ldF (x : Opd) (sz : Nat)
  | ldA (x : Opd) (sz : Nat)
  | alc (key : Nat) (cs : List AV)
  | box (key : Nat) (x : Opd)
  | bld (zero : List D) (parts : List (Nat × Nat × Opd))
  | bldA (zero : List AV) (parts : List (Nat × Nat × Opd))
  | bsl (sz : Nat) (zero : List D) (len : Nat) (parts : List (Nat × Nat × Opd))
  | bso (key sz : Nat) (zero : List D) (len : Nat) (parts : List (Nat × Nat × Opd))
  | bsoA (key sz : Nat) (zero : List AV) (len : Nat) (parts : List (Nat × Nat × Opd))
  | appR (key sz bytes : Nat) (x y : Opd)
  | appM (key sz bytes : Nat) (x y : Opd)
  | cvb (x : Opd)
  | ssl (x : Opd) (lo hi : Option Opd)
  | lsl (sz : Nat) (x : Opd) (lo hi : Option Opd)
  | len (str : Bool) (x : Opd)
  | app (key sz bytes : Nat) (x y : Opd)
  | mks (key bytes : Nat) (zero : List AV) (n c : Opd)
  | mkf (g : Nat) (xs : List Opd)
  | call (f : Nat) (args : List Opd)
  | callP (f : Nat) (args : List Opd)
  | callQ (f : Nat) (args : List Opd)
  | callV (x : Opd) (args : List Opd)
  | callC (f g n : Nat) (x : Opd) (args : List Opd)
  | mn (x : Opd) (xs : List Opd)
  | mx (x : Opd) (xs : List Opd)
  | nilc (x : Opd)
  | shf (l : Bool) (x y : Opd)
  | idp (ty sz : Nat) (x : Opd)
  | isn (k : Nat) (neg : Bool) (x : Opd)
  | peq (neg : Bool) (x y : Opd)
  | sdat (x : Opd)
  | ustr (ty : Nat) (x n : Opd)
  | mmk (key : Nat)
  | mget (ks : Bool × List Kd) (zero : AV) (ok : Bool) (x i : Opd)
  | mset (ks : Bool × List Kd) (x i v : Opd)
  | ment (ks : Bool × List Kd) (zero : AV) (x i : Opd)
  | mest (x i v : Opd)
  | mdel (ks : Bool × List Kd) (x i : Opd)
  | mlen (x : Opd)
  | rng (key : Nat) (x : Opd)
  | ent (x : Opd)

/-- What the functions that are called answer, by their numbers: data for data; or, of what the caller owns (its slots behind the function's own ones), with what it is then. -/
structure Env where
  fn : Nat → List AV → Option (List AV)
  pt : Nat → St → Option (List AV × List (Nat × Obj))
  fv : Nat → List AV → Option (List AV)
instance : CoeFun Env (fun _ => Nat → List AV → Option (List AV)) := ⟨Env.fn⟩
/-- From here on slots are no function's own: they are what the callers hold. -/
def GB : Nat := 100000
def args : Nat → List AV → List (Nat × AV)
  | _, [] => []
  | i, v :: vs => (i, v) :: args (i + 1) vs
def gho : List (Nat × AV) → List (Nat × AV)
  | [] => []
  | (i, v) :: r => (GB + i, v) :: gho r
def AV.isD : AV → Bool
  | .tup _ => false
  | .ags _ => false
  | .clo _ _ => false
  | _ => true
def retP : List AV → Option AV
  | [v] => some v
  | vs => if vs.all AV.isD then some (.tup vs) else none

def retV : List AV → AV
  | [v] => v
  | vs => .tup vs
def putParts {α : Type} (cells : List α) : List (Nat × List α) → Option (List α)
  | [] => some cells
  | (off, xs) :: r => if off + xs.length ≤ cells.length then putParts (splice cells off xs) r else none
/-- The parts of a literal: where, how many cells, what. -/
def St.parts (s : St) : List (Nat × Nat × Opd) → Option (List (Nat × List D) × List Nat)
  | [] => some ([], [])
  | (off, sz, x) :: r => match s.opd x with
    | none => none
    | some v => match s.frz v with
      | none => none
      | some (d, k) => match d.dcells, s.parts r with
        | some cs, some (ps, ks) => if cs.length = sz then some ((off, cs) :: ps, k.toList ++ ks) else none
        | _, _ => none
def rowsOf (sz : Nat) : Nat → List D → List (List D)
  | 0, _ => []
  | n + 1, cs => cs.take sz :: rowsOf sz n (cs.drop sz)
def repl (zero : List D) : Nat → List D
  | 0 => []
  | n + 1 => zero ++ repl zero n

def St.load (s : St) (x : AV) (sz : Nat) (ag : Bool) : Option AV :=
  match x with
  | .vp row off => part row off sz ag
  | .loc key row off => match get s.ob key with
    | none => none
    | some o => match o.rows[row]? with
      | none => none
      | some r => if off + sz ≤ r.length then
          if ag then (allD ((r.drop off).take sz)).map .agg else r[off]?
        else none
  | _ => none
/-- A struct out of an own object, its slices as data. -/
def St.loadF (s : St) (x : AV) (sz : Nat) : Option (List D × List Nat) :=
  match x with
  | .loc key row off => match get s.ob key with
    | none => none
    | some o => match o.rows[row]? with
      | none => none
      | some r => if off + sz ≤ r.length then match s.frzs ((r.drop off).take sz) with
          | some (ds, ks) => (allD ds).map fun cs => (cs, ks)
          | none => none
        else none
  | _ => none
/-- Data as an object's cells: nil slices have no room. -/
def D.cell : D → AV
  | .nil sz => .nil sz
  | .ot x => .ot x
  | d => .c d
def boxAV (cs : List D) : List AV := cs.map D.cell
/-- One cell's worth. -/
def AV.one : AV → Bool
  | .c _ | .nil _ | .sl .. | .loc .. | .mp _ => true
  | .ot _ => true
  | _ => false

def St.cellsOf (s : St) : AV → Option (List AV)
  | .c d => some [.c d]
  | .agg cs => some (boxAV cs)
  | .nil sz => some [.nil sz]
  | .sl k v a n => match get s.ob k with
    | some o => if o.rows.length = v ∧ a + n ≤ v then some [.sl k v a n] else none
    | none => none
  | .loc k r f => (get s.ob k).map fun _ => [.loc k r f]
  | .mp k => (get s.ob k).map fun _ => [.mp k]
  | .ot x => some [.ot x]
  | .ags cs => if cs.all AV.one then some cs else none
  | _ => none
/-- The parts of a literal that holds references. -/
def St.partsA (s : St) : List (Nat × Nat × Opd) → Option (List (Nat × List AV))
  | [] => some []
  | (off, sz, x) :: r => match s.opd x with
    | none => none
    | some v => match s.cellsOf v, s.partsA r with
      | some cs, some ps => if cs.length = sz then some ((off, cs) :: ps) else none
      | _, _ => none
def setRow (rows : Rows) (i : Nat) (r : List AV) : Rows := rows.take i ++ r :: rows.drop (i + 1)
def St.store (s : St) (sz : Nat) (x v : AV) : Option St :=
  match x with
  | .loc key row off => match get s.ob key, s.cellsOf v with
    | some o, some cs => match o.rows[row]? with
      | some r => if cs.length = sz ∧ off + cs.length ≤ r.length then some (s.obj key ⟨o.sz, setRow o.rows row (splice r off cs)⟩) else none
      | none => none
    | _, _ => none
  | _ => none
/-- Does a value name the own object? -/
def AV.names1 (key : Nat) : AV → Bool
  | .sl k _ _ _ => k == key
  | .loc k _ _ => k == key
  | .mp k => k == key
  | .itr k => k == key
  | _ => false
def AV.names (key : Nat) : AV → Bool
  | .tup vs => vs.any (names1 key)
  | .ags vs => vs.any (names1 key)
  | .clo _ vs => vs.any (names1 key)
  | x => x.names1 key
def St.free (s : St) (key : Nat) : Bool :=
  s.fr.all (fun p => !p.2.names key) && (del s.ob key).all (fun p => p.2.rows.all fun r => r.all fun v => !v.names key)
def AV.isLoc1 (key : Nat) : AV → Bool
  | .loc k _ _ => k == key
  | _ => false
def AV.isLoc (key : Nat) : AV → Bool
  | .tup vs => vs.any (isLoc1 key)
  | .ags vs => vs.any (isLoc1 key)
  | .clo _ vs => vs.any (isLoc1 key)
  | x => x.isLoc1 key
def St.noLoc (s : St) (key : Nat) : Bool :=
  s.fr.all (fun p => !p.2.isLoc key) && s.ob.all (fun p => p.2.rows.all fun r => r.all fun v => !v.isLoc key)
def appendTo (s : St) (key sz bytes : Nat) (x : AV) (ys : List (List D)) : Option (AV × St) :=
  match x with
  | .nil z => if z = sz ∧ (room ys.length bytes && s.free key) = true then some (.sl key ys.length 0 ys.length, s.obj key ⟨sz, ys.map toAV⟩) else none
  | .sl k ver 0 n => match get s.ob k with
    | some o => if o.rows.length = ver ∧ n = ver ∧ o.sz = sz then
        if room (n + ys.length) bytes && s.noLoc k && tyEq k key then some (.sl k (n + ys.length) 0 (n + ys.length), s.obj k ⟨sz, o.rows ++ ys.map toAV⟩) else none
      else none
    | none => none
  | _ => none
/-- Rows that hold references are appended, out of another own object. -/
def appendToZ (s : St) (key sz bytes : Nat) (x : AV) (zs : Rows) : Option (AV × St) :=
  match x with
  | .nil z => if z = sz ∧ (room zs.length bytes && s.free key) = true then some (.sl key zs.length 0 zs.length, s.obj key ⟨sz, zs⟩) else none
  | .sl k ver 0 n => match get s.ob k with
    | some o => if o.rows.length = ver ∧ n = ver ∧ o.sz = sz then
        if room (n + zs.length) bytes && s.noLoc k && tyEq k key then some (.sl k (n + zs.length) 0 (n + zs.length), s.obj k ⟨sz, o.rows ++ zs⟩) else none
      else none
    | none => none
  | _ => none
/-- Rows are appended to an own slice that begins behind the begin of its object (or to nil): what it was is given up, what comes is a new object. -/
def appendM (s : St) (key sz bytes : Nat) (x : AV) (ys : List (List D)) : Option (AV × St) :=
  match x with
  | .nil z => if z = sz ∧ (room ys.length bytes && s.free key) = true then some (.sl key ys.length 0 ys.length, s.obj key ⟨sz, ys.map toAV⟩) else none
  | .sl k ver st n => match get s.ob k with
    | some o => if o.rows.length = ver ∧ st + n = ver ∧ 0 < n ∧ o.sz = sz ∧ k ≠ key ∧ key < KT then
        if room (n + ys.length) bytes && s.free key then some (.sl key (n + ys.length) 0 (n + ys.length), (⟨s.fr, del s.ob k⟩ : St).obj key ⟨sz, o.rows.drop st ++ ys.map toAV⟩) else none
      else none
    | none => none
  | _ => none
/-- A struct with references, out of an own object. -/
def St.loadA (s : St) (x : AV) (sz : Nat) : Option (List AV) :=
  match x with
  | .loc key row off => match get s.ob key with
    | none => none
    | some o => match o.rows[row]? with
      | none => none
      | some r => if off + sz ≤ r.length ∧ (((r.drop off).take sz).all fun y => (s.cellsOf y).isSome) = true then some ((r.drop off).take sz) else none
  | _ => none
def srcA (s : St) (sz : Nat) (x : AV) : AV → Option (Nat × Rows)
  | .sl key ver st n => match get s.ob key with
    | some o => if o.rows.length = ver ∧ st + n ≤ ver ∧ o.sz = sz ∧ x.names key = false ∧ (o.rows.all fun r => r.all fun y => (s.cellsOf y).isSome) = true then some (key, (o.rows.drop st).take n) else none
    | none => none
  | _ => none
def rowsA (sz : Nat) : Nat → List AV → Rows
  | 0, _ => []
  | n + 1, cs => cs.take sz :: rowsA sz n (cs.drop sz)
def replA (zero : List AV) : Nat → List AV
  | 0 => []
  | n + 1 => zero ++ replA zero n
def lenV (s : St) : Bool → AV → Option Int
  | true, .c (.str x) => some x.length
  | false, .c (.vs _ rows) => some rows.length
  | false, .nil _ => some 0
  | false, .sl key ver start n => match get s.ob key with
    | some o => if o.rows.length = ver ∧ start + n ≤ ver then some n else none
    | none => none
  | _, _ => none
def srcRows (s : St) : AV → Option (Nat × List (List D))
  | .c (.str x) => some (1, x.map u8row)
  | v => s.view v

def minL (k : IntKind) (a : Int) : List AV → Option Int
  | [] => some a
  | .c (.int k' b) :: r => if k = k' then minL k (if b < a then b else a) r else none
  | _ :: _ => none
def maxL (k : IntKind) (a : Int) : List AV → Option Int
  | [] => some a
  | .c (.int k' b) :: r => if k = k' then maxL k (if a < b then b else a) r else none
  | _ :: _ => none

/-! ### Shifts; nil; maps -/
def shfI (l : Bool) (k : IntKind) (x y : Int) : Option D :=
  if y < 0 then none else some (.int k (if l then k.wrap (x * 2 ^ (min y.toNat k.bits)) else x.fdiv (2 ^ (min y.toNat k.bits))))
/-- Is a value nil? 'k': an address (0), a map (1), a slice (2). -/
def isNil (s : St) : Nat → AV → Option Bool
  | 0, .ot .np => some true
  | 1, .ot .nm => some true
  | 0, .loc k _ _ => (get s.ob k).map fun _ => false
  | 1, .mp k => (get s.ob k).map fun _ => false
  | 2, .c (.vs _ (_ :: _)) => some false
  | 2, .sl k ver st n => match get s.ob k with
    | some o => if o.rows.length = ver ∧ 0 < n ∧ st + n ≤ ver then some false else none
    | none => none
  | 2, .nil _ => some true
  | 2, .c (.nil _) => some true
  | _, _ => none
def ptrEq (s : St) : AV → AV → Option Bool
  | .ot .np, .ot .np => some true
  | .ot .np, .loc k _ _ => (get s.ob k).map fun _ => false
  | .loc k _ _, .ot .np => (get s.ob k).map fun _ => false
  | .loc k r f, .loc k' r' f' => match get s.ob k, get s.ob k' with
    | some _, some _ => if k = k' then (if r = r' ∧ f = f' then some true else none) else some false
    | _, _ => none
  | _, _ => none
/-- Keys: structs or single cells; of which kinds. -/
abbrev KK := Bool × List Kd
def mkeq (ks : KK) : AV → AV → Option Bool
  | .c x, .c y => if ks.1 then none else eqKs ks.2 [x] [y]
  | .agg x, .agg y => if ks.1 then eqKs ks.2 x y else none
  | _, _ => none
/-- Which entry has a key: the how manieth, its value. -/
def mfind (ks : KK) (k : AV) : Rows → Nat → Option (Option (Nat × AV))
  | [], _ => some none
  | [_, k', v] :: r, i => match mkeq ks k k' with
    | some true => some (some (i, v))
    | some false => mfind ks k r (i + 1)
    | none => none
  | _ :: _, _ => none
def kOk (ks : KK) (k : AV) : Bool := (mkeq ks k k).isSome
def mres (ok b : Bool) (v : AV) : Option AV := if ok then (if v.isD then some (.tup [v, .c (.bool b)]) else none) else some v
def stampAt (rows : Rows) (i : Nat) : AV := match rows[i]? with
  | some (x :: _) => x
  | _ => .tup []
def hasBorn (n : Int) : List AV → Bool
  | .c (.int .i64 m) :: _ => decide (m = n)
  | _ => false
def mupd (key : Nat) (ks : KK) (k v : AV) (o : Obj) (s : St) : Option St :=
  match mfind ks k o.rows 0 with
  | some (some (i, _)) => some (s.obj key ⟨o.sz, setRow o.rows i [stampAt o.rows i, k, v]⟩)
  | some none => some (s.obj key ⟨o.sz + 1, o.rows ++ [[.c (.int .i64 o.sz), k, v]]⟩)
  | none => none

/-! Are two values the same? -/
mutual
def eqD : D → D → Bool
  | .int k a, .int k' b => decide (k = k') && decide (a = b)
  | .bool a, .bool b => decide (a = b)
  | .str a, .str b => decide (a = b)
  | .vs z r, .vs z' r' => decide (z = z') && eqDss r r'
  | .nil z, .nil z' => decide (z = z')
  | .ot x, .ot y => decide (x = y)
  | _, _ => false
def eqDs : List D → List D → Bool
  | [], [] => true
  | a :: l, b :: m => eqD a b && eqDs l m
  | _, _ => false
def eqDss : List (List D) → List (List D) → Bool
  | [], [] => true
  | a :: l, b :: m => eqDs a b && eqDss l m
  | _, _ => false
end
def eqV1 : AV → AV → Bool
  | .c a, .c b => eqD a b
  | .agg a, .agg b => eqDs a b
  | .nil a, .nil b => decide (a = b)
  | .sl a b c d, .sl a' b' c' d' => decide (a = a') && decide (b = b') && decide (c = c') && decide (d = d')
  | .loc a b c, .loc a' b' c' => decide (a = a') && decide (b = b') && decide (c = c')
  | .vp r a, .vp r' a' => eqDs r r' && decide (a = a')
  | .ot a, .ot b => decide (a = b)
  | .mp a, .mp b => decide (a = b)
  | .itr a, .itr b => decide (a = b)
  | _, _ => false
def eqVs : List AV → List AV → Bool
  | [], [] => true
  | a :: l, b :: m => eqV1 a b && eqVs l m
  | _, _ => false
def eqV : AV → AV → Bool
  | .tup a, .tup b => eqVs a b
  | .ags a, .ags b => eqVs a b
  | .clo g a, .clo h b => decide (g = h) && eqVs a b
  | a, b => eqV1 a b
mutual
def eqA : AV → AV → Bool
  | .c a, .c b => eqD a b
  | .agg a, .agg b => eqDs a b
  | .nil a, .nil b => decide (a = b)
  | .sl a b c d, .sl a' b' c' d' => decide (a = a') && decide (b = b') && decide (c = c') && decide (d = d')
  | .loc a b c, .loc a' b' c' => decide (a = a') && decide (b = b') && decide (c = c')
  | .vp r a, .vp r' a' => eqDs r r' && decide (a = a')
  | .ot a, .ot b => decide (a = b)
  | .mp a, .mp b => decide (a = b)
  | .itr a, .itr b => decide (a = b)
  | .tup a, .tup b => eqAs a b
  | .ags a, .ags b => eqAs a b
  | .clo g a, .clo h b => decide (g = h) && eqAs a b
  | _, _ => false
def eqAs : List AV → List AV → Bool
  | [], [] => true
  | a :: l, b :: m => eqA a b && eqAs l m
  | _, _ => false
end
def eqRows : Rows → Rows → Bool
  | [], [] => true
  | a :: l, b :: m => eqAs a b && eqRows l m
  | _, _ => false
/-- Are the own objects the same? -/
def eqOb : List (Nat × Obj) → List (Nat × Obj) → Bool
  | [], [] => true
  | (k, o) :: l, (k', o') :: m => decide (k = k') && decide (o.sz = o'.sz) && eqRows o.rows o'.rows && eqOb l m
  | _, _ => false
def act (Γ : Env) (s : St) : Act → Option (AV × St)
  | .mov x => (s.opd x).map (·, s)
  | .frz x => match s.opd x with
    | some v => (s.frz v).map fun p => (p.1, kill s p.2.toList)
    | none => none
  | .pick c a b => match s.opd c with
    | some (.c (.bool t)) => (s.opd (if t then a else b)).map (·, s)
    | _ => none
  | .bin op x y => match s.opd x, s.opd y with
    | some a, some b => (binV op a b).map fun d => (.c d, s)
    | _, _ => none
  | .eqs neg ks x y => match s.opd x, s.opd y with
    | some (.agg a), some (.agg b) => (eqKs ks a b).map fun e => (.c (.bool (if neg then !e else e)), s)
    | _, _ => none
  | .beq neg x y => match s.opd x, s.opd y with
    | some (.c (.bool a)), some (.c (.bool b)) => some (.c (.bool (if neg then !decide (a = b) else decide (a = b))), s)
    | _, _ => none
  | .un op x => match s.opd x with
    | some a => (unV op a).map fun d => (.c d, s)
    | _ => none
  | .conv c x => match s.opd x with
    | some a => (s.conv c a).map fun d => (.c d, s)
    | _ => none
  | .ext x i => match s.opd x with
    | some (.tup vs) => (vs[i]?).map (·, s)
    | _ => none
  | .fld x off sz ag => match s.opd x with
    | some (.agg cs) => (part cs off sz ag).map (·, s)
    | _ => none
  | .idx x i n sz ag => match s.opd x, s.opd i with
    | some (.agg cs), some v => match asNat v with
      | some j => if j < n then (part cs (j * sz) sz ag).map (·, s) else none
      | none => none
    | _, _ => none
  | .sidx x i => match s.opd x, s.opd i with
    | some (.c (.str l)), some v => match asNat v with
      | some j => (l[j]?).map fun b => (.c (.int .u8 b.toNat), s)
      | none => none
    | _, _ => none
  | .iad x i sz => match s.opd x, s.opd i with
    | some (.c (.vs z rows)), some v => match asNat v with
      | some j => if z = sz then (rows[j]?).map fun r => (.vp r 0, s) else none
      | none => none
    | some (.sl key ver start len), some v => match asNat v, get s.ob key with
      | some j, some o => if o.rows.length = ver ∧ j < len ∧ start + len ≤ ver ∧ o.sz = sz then some (.loc key (start + j) 0, s) else none
      | _, _ => none
    | _, _ => none
  | .iadA x i n sz => match s.opd x, s.opd i with
    | some (.loc key row off), some v => match asNat v, get s.ob key with
      | some j, some _ => if j < n then some (.loc key row (off + j * sz), s) else none
      | _, _ => none
    | _, _ => none
  | .fad x off => match s.opd x with
    | some (.loc key row o) => (get s.ob key).map fun _ => (.loc key row (o + off), s)
    | some (.vp r o) => some (.vp r (o + off), s)
    | _ => none
  | .ld x sz ag => match s.opd x with
    | some a => (s.load a sz ag).map (·, s)
    | none => none
  | .sto sz x v => match s.opd x, s.opd v with
    | some a, some b => (s.store sz a b).map (AV.tup [], ·)
    | _, _ => none
  | .ldF x sz => match s.opd x with
    | some a => (s.loadF a sz).map fun p => (.agg p.1, kill s p.2)
    | none => none
  | .ldA x sz => match s.opd x with
    | some a => (s.loadA a sz).map fun cs => (.ags cs, s)
    | none => none
  | .stoF sz x v => match s.opd x, s.opd v with
    | some a, some b => match s.frz b with
      | some (d, k) => ((kill s k.toList).store sz a d).map (AV.tup [], ·)
      | none => none
    | _, _ => none
  | .stoG sz x v => match s.opd x, s.opd v with
    | some a, some b => (s.store sz a b).map (AV.tup [], ·)
    | _, _ => none
  | .alc key cs => if s.free key then some (.loc key 0 0, s.obj key ⟨cs.length, [cs]⟩) else none
  | .box key x => match s.opd x with
    | some v => match s.cellsOf v with
      | some cs => if s.free key then some (.loc key 0 0, s.obj key ⟨cs.length, [cs]⟩) else none
      | none => none
    | none => none
  | .bld zero ps => match s.parts ps with
    | some (xs, ks) => (putParts zero xs).map fun cs => (.agg cs, kill s ks)
    | none => none
  | .bldA zero ps => match s.partsA ps with
    | some xs => (putParts zero xs).map fun cs => (.ags cs, s)
    | none => none
  | .bsl sz zero len ps => match s.parts ps with
    | some (xs, ks) => (putParts (repl zero len) xs).map fun cs => (.c (.vs sz (rowsOf sz len cs)), kill s ks)
    | none => none
  | .cvb x => match s.opd x with
    | some (.c (.str t)) => some (.c (.vs 1 (t.map u8row)), s)
    | _ => none
  | .bso key sz zero len ps => match s.parts ps with
    | some (xs, ks) => match putParts (repl zero len) xs with
      | some cs => if (kill s ks).free key then some (.sl key len 0 len, (kill s ks).obj key ⟨sz, (rowsOf sz len cs).map toAV⟩) else none
      | none => none
    | none => none
  | .bsoA key sz zero len ps => match s.partsA ps with
    | some xs => match putParts (replA zero len) xs with
      | some cs => if (s.free key && cs.all AV.one && cs.all fun x => !x.names key) = true then some (.sl key len 0 len, s.obj key ⟨sz, rowsA sz len cs⟩) else none
      | none => none
    | none => none
  | .appR key sz bytes x y => match s.opd x, s.opd y with
    | some a, some b => match srcA s sz a b with
      | some (ky, zs) => if ky = key then none else appendToZ s key sz bytes a zs
      | none => none
    | _, _ => none
  | .ssl x lo hi => match s.opd x, s.opdO lo, s.opdO hi with
    | some (.c (.str l)), some lo, some hi => (bounds l.length lo hi).map fun (a, b) => (.c (.str ((l.drop a).take (b - a))), s)
    | _, _, _ => none
  | .lsl sz x lo hi => match s.opd x, s.opdO lo, s.opdO hi with
    | some (.c (.vs z rows)), some lo, some hi => if z = sz then (bounds rows.length lo hi).map fun (a, b) => (.c (.vs z ((rows.drop a).take (b - a))), s) else none
    | some (.sl key ver start len), some lo, some hi => match get s.ob key with
      | some o => if o.rows.length = ver ∧ start + len ≤ ver ∧ o.sz = sz then (bounds len lo hi).map fun (a, b) => (.sl key ver (start + a) (b - a), s) else none
      | none => none
    | some (.nil z), some lo, some hi => (bounds 0 lo hi).map fun _ => (.nil z, s)
    | _, _, _ => none
  | .len b x => match s.opd x with
    | some a => (lenV s b a).map fun n => (.c (.int .i64 n), s)
    | none => none
  | .app key sz bytes x y => match s.opd x, s.opd y with
    | some a, some b => match srcRows s b with
      | some (z, ys) => if z = sz then appendTo s key sz bytes a ys else none
      | none => none
    | _, _ => none
  | .appM key sz bytes x y => match s.opd x, s.opd y with
    | some a, some b => match srcRows s b with
      | some (z, ys) => if z = sz then appendM s key sz bytes a ys else none
      | none => none
    | _, _ => none
  | .mks key bytes zero n c => match s.opd n, s.opd c with
    | some v, some u => match asNat v, asNat u with
      | some m, some k => if m ≤ k ∧ (room k bytes && s.free key) = true then some (.sl key m 0 m, s.obj key ⟨zero.length, List.replicate m zero⟩) else none
      | _, _ => none
    | _, _ => none
  | .mkf g xs => match s.opds xs with
    | some vs => if vs.all AV.isD = true then some (.clo g vs, s) else none
    | none => none
  | .call f args => match s.opds args with
    | none => none
    | some vs => match s.frzs vs with
      | none => none
      | some (ds, ks) => match Γ f ds with
        | none => none
        | some rs => some (retV rs, if rs.all AV.flat then s else kill s ks)
  | .callP f xs => match s.opds xs with
    | none => none
    | some vs => match Γ.pt f ⟨args 0 vs ++ gho s.fr, s.ob⟩ with
      | none => none
      | some (rs, ob') => (retP rs).map fun v => (v, ⟨s.fr, ob'⟩)
  | .callQ f xs => match s.opds xs with
    | none => none
    | some vs => match Γ.pt f ⟨args 0 vs ++ gho s.fr, s.ob⟩ with
      | none => none
      | some (rs, ob') => if eqOb ob' s.ob = true then (retP rs).map fun v => (v, s) else none
  | .callV x xs => match s.opd x, s.opds xs with
    | some (.ot (.fn g)), some vs => match s.frzs vs with
      | none => none
      | some (ds, ks) => match Γ.fv g ds with
        | none => none
        | some rs => some (retV rs, if rs.all AV.flat then s else kill s ks)
    | _, _ => none
  | .callC f g n x xs => match s.opd x, s.opds xs with
    | some (.clo g' cs), some vs => if g' = g ∧ cs.length = n ∧ vs.length + n ≤ GB then (match Γ.pt f ⟨args 0 (vs ++ cs) ++ gho s.fr, s.ob⟩ with
        | none => none
        | some (rs, ob') => (retP rs).map fun v => (v, ⟨s.fr, ob'⟩))
      else none
    | _, _ => none
  | .mn x xs => match s.opd x, s.opds xs with
    | some (.c (.int k a)), some vs => (minL k a vs).map fun n => (.c (.int k n), s)
    | _, _ => none
  | .mx x xs => match s.opd x, s.opds xs with
    | some (.c (.int k a)), some vs => (maxL k a vs).map fun n => (.c (.int k n), s)
    | _, _ => none
  | .nilc x => match s.opd x with
    | some (.loc key row off) => (get s.ob key).map fun _ => (.loc key row off, s)
    | _ => none
  | .shf l x y => match s.opd x, s.opd y with
    | some (.c (.int k a)), some (.c (.int _ b)) => (shfI l k a b).map fun d => (.c d, s)
    | _, _ => none
  | .idp ty sz x => match s.opd x with
    | some (.loc key 0 0) => match get s.ob key with
      | some o => if KT ≤ key ∧ key / KT = ty + 1 ∧ o.rows.length = 1 ∧ o.sz = sz ∧ sz ≠ 0 then some (.loc key 0 0, s) else none
      | none => none
    | some (.ot .np) => some (.ot .np, s)
    | _ => none
  | .isn k neg x => match s.opd x with
    | some v => (isNil s k v).map fun b => (.c (.bool (if neg then !b else b)), s)
    | none => none
  | .peq neg x y => match s.opd x, s.opd y with
    | some u, some v => (ptrEq s u v).map fun b => (.c (.bool (if neg then !b else b)), s)
    | _, _ => none
  | .sdat x => match s.opd x with
    | some (.nil _) => some (.ot .jk, s)
    | some (.sl key ver 0 n) => match get s.ob key with
      | some o => if o.rows.length = ver ∧ n = ver ∧ o.sz = 1 then some (if n = 0 then .ot .jk else .loc key 0 0, s) else none
      | none => none
    | _ => none
  | .ustr ty x n => match s.opd x, s.opd n with
    | some (.ot .jk), some (.c (.int .i64 m)) => if m = 0 then some (.c (.str []), s) else none
    | some (.loc key 0 0), some (.c (.int .i64 m)) => match get s.ob key with
      | some o => match allRows o.rows with
        | some rows => if m = o.rows.length ∧ 0 < o.rows.length ∧ m ≤ 9223372036854775807 ∧ o.sz = 1 ∧ KT ≤ key ∧ key / KT = ty + 1 ∧ rows.all isByte = true then some (.c (.str (rows.map u8of)), ⟨s.fr, del s.ob key⟩) else none
        | none => none
      | none => none
    | _, _ => none
  | .mmk key => if s.free key then some (.mp key, s.obj key ⟨0, []⟩) else none
  | .mget ks zero ok x i => match s.opd x, s.opd i with
    | some (.ot .nm), some k => if kOk ks k then (mres ok false zero).map (·, s) else none
    | some (.mp key), some k => match get s.ob key with
      | some o => if kOk ks k then match mfind ks k o.rows 0 with
          | some (some (_, v)) => (mres ok true v).map (·, s)
          | some none => (mres ok false zero).map (·, s)
          | none => none
        else none
      | none => none
    | _, _ => none
  | .mset ks x i v => match s.opd x, s.opd i, s.opd v with
    | some (.mp key), some k, some v => match get s.ob key with
      | some o => if kOk ks k then (mupd key ks k v o s).map (.tup [], ·) else none
      | none => none
    | _, _, _ => none
  | .ment ks zero x i => match s.opd x, s.opd i with
    | some (.mp key), some k => match get s.ob key with
      | some o => if kOk ks k then match mfind ks k o.rows 0 with
          | some (some (i, v)) => if v.isD then some (.tup [v, stampAt o.rows i], s) else none
          | some none => if zero.isD then some (.tup [zero, .c (.int .i64 o.sz)], s.obj key ⟨o.sz + 1, o.rows ++ [[.c (.int .i64 o.sz), k, zero]]⟩) else none
          | none => none
        else none
      | none => none
    | _, _ => none
  | .mest x i v => match s.opd x, s.opd i, s.opd v with
    | some (.mp key), some (.c (.int .i64 n)), some v => match get s.ob key with
      | some o => match o.rows.findIdx? (hasBorn n) with
        | some i => match o.rows[i]? with
          | some [st, k, _] => some (.tup [], s.obj key ⟨o.sz, setRow o.rows i [st, k, v]⟩)
          | _ => none
        | none => none
      | none => none
    | _, _, _ => none
  | .mdel ks x i => match s.opd x, s.opd i with
    | some (.ot .nm), some k => if kOk ks k then some (.tup [], s) else none
    | some (.mp key), some k => match get s.ob key with
      | some o => if kOk ks k then match mfind ks k o.rows 0 with
          | some (some (i, _)) => some (.tup [], s.obj key ⟨o.sz, o.rows.eraseIdx i⟩)
          | some none => some (.tup [], s)
          | none => none
        else none
      | none => none
    | _, _ => none
  | .rng key x => match s.opd x with
    | some (.ot .nm) => if s.free key then some (.itr key, s.obj key ⟨0, [[.ot .nm]]⟩) else none
    | some (.mp k) => match get s.ob k with
      | some o => if s.free key then some (.itr key, s.obj key ⟨o.sz, [[.mp k, .c (.int .i64 o.sz)]]⟩) else none
      | none => none
    | _ => none
  | .ent x => match s.opd x with
    | some (.itr key) => match get s.ob key with
      | some o => match o.rows with
        | [.mp mk, _] :: seen => match get s.ob mk, seen.getLast? with
          | some om, some [.c (.int .i64 b)] => match om.rows.find? (hasBorn b) with
            | some [_, k, v] => if k.isD && v.isD && decide (om.sz = o.sz) then some (.tup [k, v], s) else none
            | _ => none
          | _, _ => none
        | _ => none
      | none => none
    | _ => none
  | .mlen x => match s.opd x with
    | some (.ot .nm) => some (.c (.int .i64 0), s)
    | some (.mp key) => (get s.ob key).map fun o => (.c (.int .i64 o.rows.length), s)
    | _ => none

/-! ### Statements -/
/-- The operations of a statement; 'sc': those that run only where c is as wanted, and what stands for all (for a test with && or ||). -/
inductive AI where
  | done
  | op (d : Option Nat) (a : Act) (rest : AI)
  | sc (d : Nat) (c : Opd) (want : Bool) (sub : AI) (x : Opd) (rest : AI)
  | scs (d : Nat) (c : Opd) (want : Bool) (sub : AI) (x : Opd) (rest : AI)

/-- The slots that operations write. -/
def AI.dsts : AI → List Nat
  | .done => []
  | .op (some d) _ r => d :: r.dsts
  | .op none _ r => r.dsts
  | .sc d _ _ sub _ r => sub.dsts ++ d :: r.dsts
  | .scs d _ _ sub _ r => sub.dsts ++ d :: r.dsts
def dels {α : Type} : List Nat → List (Nat × α) → List (Nat × α)
  | [], l => l
  | k :: ks, l => dels ks (del l k)
/-- Without what the operations write. -/
def St.drop (s : St) (ai : AI) : St := ⟨dels ai.dsts s.fr, s.ob⟩

def ev (Γ : Env) : AI → St → Option St
  | .done, s => some s
  | .op d a r, s => match act Γ s a with
    | some (v, s') => ev Γ r (s'.put d v)
    | none => none
  | .sc d c want sub x r, s => match s.opd c with
    | some (.c (.bool b)) => if b = want then match ev Γ sub s with
        | some s' => match s'.opd x with
          | some v => ev Γ r (s'.put (some d) v)
          | none => none
        | none => none
      else ev Γ r ((s.drop sub).put (some d) (.c (.bool b)))
    | _ => none
  | .scs d c want sub x r, s => match s.opd c, ev Γ sub s with
    | some (.c (.bool b)), some s' => match s'.opd x with
      | some (.c (.bool y)) => ev Γ r ((s.drop sub).put (some d) (.c (.bool (if want then b && y else b || y))))
      | _ => none
    | _, _ => none

/-- An operation of a statement whose order is open: where to, what, and the test that it stands under. -/
structure DIt where
  d : Option Nat
  a : Act
  g : Option (Nat × Bool)
/-- Operations that leave the own objects as they are. -/
def Act.quiet : Act → Bool
  | .sto .. | .alc .. | .box .. | .app .. | .mks .. | .bso .. | .bsoA .. | .appR .. | .appM .. | .frz .. | .stoF .. | .callP .. | .callQ .. | .callC .. | .ustr .. | .mmk .. | .mset .. | .ment .. | .mest .. | .mdel .. | .rng .. | .ent .. | .bldA .. | .stoG .. | .ldF .. | .ldA .. => false
  | _ => true
/-- Calls of functions that leave the own objects as they are. -/
def Act.isQ : Act → Bool
  | .callQ .. => true
  | _ => false
def Act.quq (A : Act) : Bool := A.quiet || A.isQ
def met (s : St) : Option (Nat × Bool) → Option Bool
  | none => some true
  | some (t, want) => match get s.fr t with
    | some (.c (.bool b)) => some (b == want)
    | some (.tup []) => some false
    | _ => none
/-- The quiet ones. -/
def evq (Γ : Env) : List DIt → St → Option St
  | [], s => some s
  | x :: r, s => match x.a.quq with
    | false => evq Γ r s
    | true => match met s x.g with
      | none => none
      | some false => evq Γ r (s.put x.d (.tup []))
      | some true => match act Γ s x.a with
        | some (v, s') => if s'.ob.length = s.ob.length then evq Γ r (s.put x.d v) else none
        | none => none
/-- New objects, made somewhere in the order: key, where to, what. -/
def evA : List (Nat × Nat × List AV) → St → Option St
  | [], s => some s
  | (key, d, cs) :: r, s => match get s.ob key with
    | some _ => none
    | none => evA r ((s.obj key ⟨cs.length, [cs]⟩).put (some d) (.loc key 0 0))
/-- Which object an operation turns, or makes. -/
def effKey (s : St) : Act → Option Nat
  | .sto _ x _ => match s.opd x with | some (.loc key _ _) => some key | _ => none
  | .app key _ _ x _ => match s.opd x with | some (.nil _) => some key | some (.sl key' _ _ _) => some key' | _ => none
  | .bso key _ _ _ ps => match s.parts ps with | some (_, []) => some key | _ => none
  | .box key _ => some key
  | .mks key _ _ _ _ => some key
  | _ => none
def okA : List (Nat × Nat × List AV) → St → Bool
  | [], _ => true
  | (key, d, _) :: r, s => s.fr.all (fun p => p.1 == d || !p.2.names key) && s.ob.all (fun p => p.2.rows.all fun r => r.all fun v => !v.names key) && okA r s

/-- What an operation reads. -/
def Act.xs : Act → List Opd
  | .mov x => [x] | .frz x => [x] | .pick c a b => [c, a, b] | .bin _ x y => [x, y] | .eqs _ _ x y => [x, y] | .beq _ x y => [x, y] | .un _ x => [x] | .conv _ x => [x] | .ext x _ => [x]
  | .fld x _ _ _ => [x] | .idx x i _ _ _ => [x, i] | .sidx x i => [x, i] | .iad x i _ => [x, i] | .iadA x i _ _ => [x, i] | .fad x _ => [x] | .ld x _ _ => [x]
  | .sto _ x v => [x, v] | .stoG _ x v => [x, v] | .stoF _ x v => [x, v] | .ldF x _ => [x] | .ldA x _ => [x] | .alc _ _ => [] | .box _ x => [x] | .bld _ ps => ps.map (·.2.2) | .bldA _ ps => ps.map (·.2.2) | .cvb x => [x] | .bsl _ _ _ ps => ps.map (·.2.2) | .bso _ _ _ _ ps => ps.map (·.2.2) | .bsoA _ _ _ _ ps => ps.map (·.2.2) | .appR _ _ _ x y => [x, y] | .appM _ _ _ x y => [x, y]
  | .ssl x lo hi => x :: (lo.toList ++ hi.toList) | .lsl _ x lo hi => x :: (lo.toList ++ hi.toList) | .len _ x => [x] | .app _ _ _ x y => [x, y]
  | .mks _ _ _ n c => [n, c] | .mkf _ xs => xs | .call _ args => args | .callP _ args => args | .callQ _ args => args | .callV x args => x :: args | .callC _ _ _ x args => x :: args | .mn x xs => x :: xs | .mx x xs => x :: xs | .nilc x => [x]
  | .shf _ x y => [x, y] | .idp _ _ x => [x] | .isn _ _ x => [x] | .peq _ x y => [x, y] | .sdat x => [x] | .ustr _ x n => [x, n] | .mmk _ => [] | .mget _ _ _ x i => [x, i] | .mset _ x i v => [x, i, v]
  | .ment _ _ x i => [x, i] | .mest x i v => [x, i, v] | .mdel _ x i => [x, i] | .mlen x => [x] | .rng _ x => [x] | .ent x => [x]
def slotsOf : List Opd → List Nat
  | [] => []
  | .t n :: r => n :: slotsOf r
  | .k _ :: r => slotsOf r
/-- Operations that turn something, one behind the other: which one of the statement's, where to, what, the slots that are read when it may be done already, what is done ahead of it. -/
abbrev Eff := Nat × Option Nat × Act × List Nat × List Nat
def effOk (es : List (Nat × Nat × List AV)) (s : St) (k : Nat) (A : Act) (ls : List Nat) (s' : St) : Bool :=
  ls.all (fun i => match get s.fr i with | some u => !u.names k | none => true) && (match get es k with | some (d', _) => (slotsOf A.xs).contains d' | none => true) && okA es s'
/-- Operations that read slots alone. -/
def Act.bare : Act → Bool
  | .mov .. | .pick .. | .bin .. | .eqs .. | .beq .. | .un .. | .ext .. | .fld .. | .idx .. | .sidx .. | .ssl .. | .mn .. | .mx .. | .shf .. => true
  | _ => false
/-- Operations that are not told by the one own object that they turn. -/
def Act.gen : Act → Bool
  | .sto .. | .app .. | .bso .. | .box .. | .mks .. => false
  | _ => true
def okL (t : St) (d : Option Nat) : Option (AV × St) → Bool
  | some (v, t') => decide (t'.ob.length = t.ob.length) && (match d with
    | some i => (match get t.fr i with
      | some u => eqV u v
      | none => false)
    | none => true)
  | none => false
def metL (Γ : Env) (t : St) (d : Option Nat) (A : Act) : Option Bool → Bool
  | some true => okL t d (act Γ t A)
  | some false => true
  | none => false
def lateX (Γ : Env) (t : St) : Option DIt → Bool
  | some x => metL Γ t x.d x.a (met t x.g)
  | none => false
/-- What is read late is as it was. -/
def lateQ (Γ : Env) (q : List DIt) (t : St) : List Nat → Bool
  | [] => true
  | j :: ls => lateX Γ t q[j]? && lateQ Γ q t ls
/-- The test that an operation of the statement stands under. -/
def gmet (q : List DIt) (s : St) (j : Nat) : Option Bool := match q[j]? with
  | some x => met s x.g
  | none => none
/-- An operation that turns something and stands under a test: nothing, where the test is otherwise. -/
def actG (Γ : Env) (q : List DIt) (s : St) (f : Eff) : Option (AV × St) := if f.2.2.1.gen then (match gmet q s f.1 with
    | some true => act Γ s f.2.2.1
    | some false => some (.tup [], s)
    | none => none) else act Γ s f.2.2.1
def evF (Γ : Env) (q : List DIt) (es : List (Nat × Nat × List AV)) : List Eff → St → Option St
  | [], s => some s
  | (j, d, A, ls, o) :: r, s => match effKey s A with
    | none => match actG Γ q s (j, d, A, ls, o) with
      | none => none
      | some (v, s') => if (es.isEmpty && A.gen && lateQ Γ q (s'.put d v) ls) = true then evF Γ q es r (s'.put d v) else none
    | some k => match act Γ s A with
      | none => none
      | some (v, s') => if effOk es s k A ls (s'.put d v) = true then evF Γ q es r (s'.put d v) else none

/-- Calls that leave the own objects as they are answer the same in front of all that the statement has in slots. -/
def late0 (Γ : Env) (s : St) : List DIt → Bool
  | [] => true
  | x :: r => (match x.a.isQ with
    | true => lateX Γ s (some x)
    | false => true) && late0 Γ s r
/-- Effects, by their places. -/
def ordL (fs : List Eff) (p : List Nat) : List Eff := p.filterMap fun i => fs[i]?
/-- What comes of each order: the first one's, the others'. -/
def evN (Γ : Env) (q : List DIt) (es : List (Nat × Nat × List AV)) (fs : List Eff) (t : AI) (s : St) : List (List Nat) → Option (St × List St)
  | [] => none
  | p :: ps => match evF Γ q es (ordL fs p) s with
    | none => none
    | some s3 => match ev Γ t s3 with
      | none => none
      | some s4 => match ps with
        | [] => some (s4, [])
        | _ :: _ => match evN Γ q es fs t s ps with
          | some (s5, r) => some (s4, s5 :: r)
          | none => none
def sameObj : Option Obj → Option Obj → Bool
  | some x, some y => decide (x.sz = y.sz) && eqRows x.rows y.rows
  | none, none => true
  | _, _ => false
/-- Are the own objects the same, in whatever order? -/
def sameOb (a b : List (Nat × Obj)) : Bool := (a ++ b).all fun p => sameObj (get a p.1) (get b p.1)
def sameFr : List (Nat × AV) → List (Nat × AV) → Bool
  | [], [] => true
  | (i, v) :: a, (j, u) :: b => decide (i = j) && eqA v u && sameFr a b
  | _, _ => false
/-- The callers' slots. -/
def ghs : List (Nat × AV) → List (Nat × AV)
  | [] => []
  | (i, v) :: r => if GB ≤ i then (i, v) :: ghs r else ghs r
def sameN (ks : List Nat) (a b : St) : Bool := sameOb a.ob b.ob && sameFr (keep ks a.fr) (keep ks b.fr) && sameFr (ghs a.fr) (ghs b.fr)
inductive AC where
  | skip
  | reg (ops : AI)
  | draw (q : List DIt) (es : List (Nat × Nat × List AV)) (fs : List Eff) (t : AI)
  | drawN (q : List DIt) (es : List (Nat × Nat × List AV)) (fs : List Eff) (ps : List (List Nat)) (t : AI) (ks : List Nat)
  | seq (a b : AC)
  | cond (c : Opd) (a b : AC)
  | block (id : Nat) (a : AC)
  | loop (a : AC)
  | exit (id : Nat)
  | ret
  | keep (ks os : List Nat) (a : AC)
  | own (d key : Nat) (a : AC)
  | keepP (ks : List Nat) (lo hi : Nat) (os : List Nat) (a : AC)
  | after (ks os : List Nat) (a : AC)
  | ren (key : Nat) (a : AC)
  | renA (key : Nat) (a : AC)
  | any

inductive AX where
  | norm
  | ex (id : Nat)
  | ret

def lp (f : St → Option (AX × St)) : Nat → St → Option (AX × St)
  | 0, _ => none
  | n + 1, s => match f s with
    | some (.norm, s') => lp f n s'
    | r => r

/-- Objects with keys of others, and of one's own those that are named. -/
def keepF (lo hi : Nat) (os : List Nat) : List (Nat × Obj) → List (Nat × Obj)
  | [] => []
  | (k, o) :: r => if k % KT < lo ∨ hi ≤ k % KT ∨ k ∈ os then (k, o) :: keepF lo hi os r else keepF lo hi os r

/-! An own object gets a key that is no place's: the next one of a row of keys; an object without memory counts them. -/
def renK (a b k : Nat) : Nat := if k = a then b else k
def AV.ren1 (a b : Nat) : AV → AV
  | .sl k v st n => .sl (renK a b k) v st n
  | .loc k r f => .loc (renK a b k) r f
  | .mp k => .mp (renK a b k)
  | .itr k => .itr (renK a b k)
  | x => x
def AV.ren (a b : Nat) : AV → AV
  | .tup vs => .tup (vs.map (AV.ren1 a b))
  | .ags vs => .ags (vs.map (AV.ren1 a b))
  | .clo g vs => .clo g (vs.map (AV.ren1 a b))
  | x => x.ren1 a b
def renRows (a b : Nat) (rows : Rows) : Rows := rows.map fun r => r.map (AV.ren a b)
def renOb (a b : Nat) : List (Nat × Obj) → List (Nat × Obj)
  | [] => []
  | (k, o) :: r => (renK a b k, ⟨o.sz, renRows a b o.rows⟩) :: renOb a b r
def renFr (a b : Nat) : List (Nat × AV) → List (Nat × AV)
  | [] => []
  | (i, v) :: r => (i, v.ren a b) :: renFr a b r
def CK : Nat := 900000000000000000
def DB : Nat := 1000000000000000000
def cntOf (ob : List (Nat × Obj)) : Nat := match get ob CK with
  | some o => o.sz
  | none => 0
def renKey (key n : Nat) : Nat := if key < KT then DB + n else MK + DB + n
def renOk (s : St) (key n : Nat) : Bool :=
  decide (n < DB) && (decide (key < KT) || decide (MK ≤ key) && decide (key < 2 * MK)) && s.free CK && s.free (renKey key n) && (get s.ob (renKey key n)).isNone && decide (key ≠ CK) && (ghs s.fr).all fun p => !p.2.names key
def renS (s : St) (key n : Nat) : St := ⟨renFr key (renKey key n) s.fr, (CK, ⟨n + 1, []⟩) :: renOb key (renKey key n) (del s.ob CK)⟩
def renT (key : Nat) (s : St) : Option (AX × St) := match get s.ob key with
  | some _ => if renOk s key (cntOf s.ob) = true then some (.norm, renS s key (cntOf s.ob)) else none
  | none => some (.norm, s)
def exec (Γ : Env) (N : Nat) : AC → St → Option (AX × St)
  | .skip, s => some (.norm, s)
  | .reg o, s => (ev Γ o s).map (.norm, ·)
  | .draw q es fs t, s => match evq Γ q s with
    | some s1 => if late0 Γ s1 q = true then match evA es s1 with
      | some s2 => if okA es s2 = true then match evF Γ q es fs s2 with
          | some s3 => (ev Γ t s3).map (.norm, ·)
          | none => none
        else none
      | none => none
      else none
    | none => none
  | .drawN q es fs ps t ks, s => match evq Γ q s with
    | some s1 => if late0 Γ s1 q = true then match evA es s1 with
      | some s2 => if okA es s2 = true then match evN Γ q es fs t s2 ps with
          | some (s3, rs) => if (rs.all (sameN ks s3)) = true then some (.norm, ⟨keep ks s3.fr ++ ghs s3.fr, s3.ob⟩) else none
          | none => none
        else none
      | none => none
      else none
    | none => none
  | .keepP ks lo hi os a, s => exec Γ N a ⟨keep ks s.fr ++ ghs s.fr, keepF lo hi os s.ob⟩
  | .after ks os a, s => match exec Γ N a s with
    | some (.norm, s') => some (.norm, ⟨keep ks s'.fr, keep os s'.ob⟩)
    | r => r
  | .any, _ => none
  | .renA key a, s => match exec Γ N a s with
    | some (.norm, s') => renT key s'
    | r => r
  | .ren key a, s => match get s.ob key with
    | some _ => if renOk s key (cntOf s.ob) = true then exec Γ N a (renS s key (cntOf s.ob)) else none
    | none => exec Γ N a s
  | .seq a b, s => match exec Γ N a s with
    | some (.norm, s') => exec Γ N b s'
    | r => r
  | .cond c a b, s => match s.opd c with
    | some (.c (.bool t)) => if t then exec Γ N a s else exec Γ N b s
    | _ => none
  | .block id a, s => match exec Γ N a s with
    | some (.ex i, s') => if i = id then some (.norm, s') else some (.ex i, s')
    | r => r
  | .loop a, s => lp (exec Γ N a) N s
  | .exit id, s => some (.ex id, s)
  | .ret, s => some (.ret, s)
  | .keep ks os a, s => exec Γ N a ⟨keep ks s.fr, keep os s.ob⟩
  | .own d key a, s => match get s.fr d with
    | some (.nil sz) => if s.free key then exec Γ N a ((s.obj key ⟨sz, []⟩).put (some d) (.sl key 0 0 0)) else none
    | _ => none

/-- Where a result lies: in a slot, or in an own object whose address a slot holds. -/
inductive Rs where
  | t (n : Nat)
  | m (n sz : Nat) (ag : Bool)
structure AFn where
  body : AC
  results : List Rs
  /-- Which own objects are left behind: none of the keys from lo to hi but these. -/
  fin : Nat × Nat × List Nat

def St.slots (s : St) : List Rs → Option (List AV)
  | [] => some []
  | .t i :: is => match get s.fr i, s.slots is with
    | some v, some vs => some (v :: vs)
    | _, _ => none
  | .m i sz ag :: is => match get s.fr i with
    | some a => match s.load a sz ag, s.slots is with
      | some v, some vs => some (v :: vs)
      | _, _ => none
    | none => none
/-- A function's answer, of data. -/
def run (Γ : Env) (N : Nat) (f : AFn) (vs : List AV) : Option (List AV) :=
  match exec Γ N f.body ⟨args 0 vs, []⟩ with
  | some (.norm, s) | some (.ret, s) => match s.slots f.results with
    | some rs => (s.frzs rs).map (·.1)
    | none => none
  | _ => none

/-- A function's answer, of what its caller owns. -/
def runP (Γ : Env) (N : Nat) (f : AFn) (s : St) : Option (List AV × List (Nat × Obj)) :=
  match exec Γ N f.body s with
  | some (.norm, s') | some (.ret, s') => (s'.slots f.results).map (·, keepF f.fin.1 f.fin.2.1 f.fin.2.2 s'.ob)
  | _ => none

/-- What functions answer hangs on none of the callers' slots. -/
def PtMono (Γ : Env) : Prop := ∀ (f : Nat) (s : St) (rs : List AV) (ob : List (Nat × Obj)) (R : List Nat), (∀ r ∈ R, GB ≤ r) → Γ.pt f s = some (rs, ob) → Γ.pt f ⟨dels R s.fr, s.ob⟩ = some (rs, ob)

end Go.Am
