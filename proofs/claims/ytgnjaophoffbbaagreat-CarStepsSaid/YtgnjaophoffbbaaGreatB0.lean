import GoSem.Core.Code
import GoSem.Core.View
import GoSem.Op.String
set_option maxHeartbeats 4000000
set_option maxRecDepth 20000
set_option linter.unusedVariables false
set_option linter.unusedSimpArgs false
namespace Go.Am
theorem B6u:type_of%@Nat.le_refl:=@Nat.le_refl
theorem B6q:type_of%@List.all_eq_true:=@List.all_eq_true
theorem B6t:type_of%@List.mem_of_getElem?:=@List.mem_of_getElem?
theorem B7f:type_of%@Nat.lt_or_ge:=@Nat.lt_or_ge
theorem B6h:type_of%@Bool.and_eq_true:=@Bool.and_eq_true
theorem B6g:type_of%@Option.some.injEq:=@Option.some.injEq
theorem B6p:type_of%@Bool.false_eq_true:=@Bool.false_eq_true
theorem B7h:type_of%@Option.map_some:=@Option.map_some
theorem B8t:type_of%@Option.map_none:=@Option.map_none
theorem B7i:type_of%@List.cons_append:=@List.cons_append
theorem B7x:type_of%@List.getElem?_drop:=@List.getElem?_drop
theorem B66:type_of%@List.eq_nil_of_length_eq_zero:=@List.eq_nil_of_length_eq_zero
theorem B6m:type_of%@Option.map_eq_some_iff:=@Option.map_eq_some_iff
theorem B9e:type_of%@List.length_pos_iff:=@List.length_pos_iff
theorem B7l:type_of%@List.length_take:=@List.length_take
theorem B70:type_of%@List.length_drop:=@List.length_drop
theorem B88:type_of%@List.length_nil:=@List.length_nil
theorem B9n:type_of%@List.flatten_cons:=@List.flatten_cons
theorem B7z:type_of%@Nat.add_mul:=@Nat.add_mul
theorem B8z:type_of%@Nat.one_mul:=@Nat.one_mul
theorem B7b:type_of%@Bool.not_eq_true':=@Bool.not_eq_true'
theorem B7n:type_of%@Bool.or_eq_true:=@Bool.or_eq_true
theorem B6k:type_of%@Prod.mk.injEq:=@Prod.mk.injEq
theorem B77:type_of%@List.getElem?_take:=@List.getElem?_take
theorem B7t:type_of%@List.getElem?_of_mem:=@List.getElem?_of_mem
theorem B8w:type_of%@Array.toList_inj:=@Array.toList_inj
theorem B6n:type_of%@List.getElem?_eq_some_iff:=@List.getElem?_eq_some_iff
theorem B8y:type_of%@Nat.add_zero:=@Nat.add_zero
theorem B9c:type_of%@Nat.add_assoc:=@Nat.add_assoc
theorem B6w:type_of%@List.getElem?_eq_getElem:=@List.getElem?_eq_getElem
theorem B72:type_of%@Array.getElem?_eq_some_iff:=@Array.getElem?_eq_some_iff
theorem B81:type_of%@Nat.zero_le:=@Nat.zero_le
theorem B78:type_of%@Nat.sub_zero:=@Nat.sub_zero
theorem B8n:type_of%@List.getD_eq_getElem?_getD:=@List.getD_eq_getElem?_getD
theorem B64:type_of%@Bool.and_self:=@Bool.and_self
theorem B7g:type_of%@List.mem_cons_of_mem:=@List.mem_cons_of_mem
theorem B6i:type_of%@Ne.symm:=@Ne.symm
theorem B6r:type_of%@List.mem_cons:=@List.mem_cons
theorem B7m:type_of%@List.getElem?_map:=@List.getElem?_map
theorem B6z:type_of%@List.mem_map:=@List.mem_map
theorem B7p:type_of%@List.any_eq_false:=@List.any_eq_false
theorem B79:type_of%@Nat.mul_le_mul_right:=@Nat.mul_le_mul_right
theorem B9a:type_of%@List.size_toArray:=@List.size_toArray
theorem B67:type_of%@List.length_append:=@List.length_append
theorem B8e:type_of%@List.getElem_mem:=@List.getElem_mem
theorem B74:type_of%@Nat.mod_eq_of_lt:=@Nat.mod_eq_of_lt
theorem B65:type_of%@List.mem_append:=@List.mem_append
theorem B8k:type_of%@List.getElem?_append_left:=@List.getElem?_append_left
theorem B73:type_of%@List.getElem?_append_right:=@List.getElem?_append_right
theorem B7u:type_of%@Nat.zero_add:=@Nat.zero_add
theorem B7j:type_of%@List.nil_append:=@List.nil_append
theorem B6s:type_of%@List.length_map:=@List.length_map
theorem B7o:type_of%@Array.getElem?_eq_getElem:=@Array.getElem?_eq_getElem
theorem B8p:type_of%@List.length_cons:=@List.length_cons
theorem B6v:type_of%@List.map_cons:=@List.map_cons
theorem B8h:type_of%@Option.isSome_iff_exists:=@Option.isSome_iff_exists
theorem B8m:type_of%@Bool.and_true:=@Bool.and_true
theorem B76:type_of%@List.cons.injEq:=@List.cons.injEq
theorem B8u:type_of%@List.getElem?_cons_zero:=@List.getElem?_cons_zero
theorem B7r:type_of%@List.all_cons:=@List.all_cons
theorem B9m:type_of%@Bool.true_and:=@Bool.true_and
theorem B60:type_of%@List.map_append:=@List.map_append
theorem B8a:type_of%@List.map_nil:=@List.map_nil
theorem B82:type_of%@List.nodup_append:=@List.nodup_append
theorem B6x:type_of%@List.mem_singleton:=@List.mem_singleton
theorem B61:type_of%@Array.getD_eq_getD_getElem?:=@Array.getD_eq_getD_getElem?
theorem B85:type_of%@Array.getElem?_append_left:=@Array.getElem?_append_left
theorem B9f:type_of%@Array.getElem?_setIfInBounds:=@Array.getElem?_setIfInBounds
theorem B7q:type_of%@Function.comp_def:=@Function.comp_def
theorem B84:type_of%@List.drop_eq_nil_of_le:=@List.drop_eq_nil_of_le
theorem B8q:type_of%@List.drop_eq_getElem_cons:=@List.drop_eq_getElem_cons
theorem B63:type_of%@List.contains_eq_mem:=@List.contains_eq_mem
theorem B9g:type_of%@List.any_eq_true:=@List.any_eq_true
theorem B87:type_of%@List.append_of_mem:=@List.append_of_mem
theorem B9b:type_of%@List.append_assoc:=@List.append_assoc
theorem B8s:type_of%@Bool.not_false:=@Bool.not_false
theorem B71:type_of%@List.append_nil:=@List.append_nil
theorem B8c:type_of%@List.map_map:=@List.map_map
theorem B9o:type_of%@Nat.pow_le_pow_right:=@Nat.pow_le_pow_right
theorem B9p:type_of%@Nat.eq_of_testBit_eq:=@Nat.eq_of_testBit_eq
theorem B75:type_of%@List.take_succ_eq_append_getElem:=@List.take_succ_eq_append_getElem
theorem B7s:type_of%@List.take_length:=@List.take_length
theorem B6y:type_of%@List.take_of_length_le:=@List.take_of_length_le
theorem B8i:type_of%@List.filter_append:=@List.filter_append
theorem B7c:type_of%@List.mem_filter:=@List.mem_filter
theorem B89:type_of%@Int.ediv_nonneg:=@Int.ediv_nonneg
theorem B9h:type_of%@Int.ediv_le_self:=@Int.ediv_le_self
theorem B7a:type_of%@List.not_mem_nil:=@List.not_mem_nil
theorem B8v:type_of%@List.getElem?_cons_succ:=@List.getElem?_cons_succ
theorem B83:type_of%@List.nodup_cons:=@List.nodup_cons
theorem B9i:type_of%@List.set_cons_succ:=@List.set_cons_succ
theorem B8l:type_of%@List.set_eq_take_append_cons_drop:=@List.set_eq_take_append_cons_drop
theorem B9j:type_of%@List.pairwise_cons:=@List.pairwise_cons
theorem B8o:type_of%@List.map_take:=@List.map_take
theorem B86:type_of%@List.map_drop:=@List.map_drop
theorem B80:type_of%@List.filter_congr:=@List.filter_congr
theorem B8j:type_of%@List.filter_cons_of_pos:=@List.filter_cons_of_pos
theorem B8b:type_of%@List.filter_cons_of_neg:=@List.filter_cons_of_neg
theorem B8x:type_of%@List.forall_mem_cons:=@List.forall_mem_cons
theorem B9l:type_of%@List.mem_append_right:=@List.mem_append_right
theorem B69:type_of%@List.filterMap_cons:=@List.filterMap_cons
theorem B7e:type_of%@List.filterMap_nil:=@List.filterMap_nil
theorem B9q:type_of%@Int.mul_nonneg:=@Int.mul_nonneg
theorem B9r:type_of%@Int.mul_le_mul:=@Int.mul_le_mul
theorem B8r:type_of%@List.filter_eq_self:=@List.filter_eq_self
theorem B8g:type_of%@List.filter_eq_nil_iff:=@List.filter_eq_nil_iff
theorem B8f:type_of%@decide_eq_true:=@decide_eq_true
theorem B7y:type_of%@decide_eq_false:=@decide_eq_false
theorem B6o:type_of%@decide_eq_true_eq:=@decide_eq_true_eq
theorem B6j:type_of%@if_neg:=@if_neg
theorem B6l:type_of%@if_pos:=@if_pos
theorem B62:type_of%@beq_iff_eq:=@beq_iff_eq
theorem B68:type_of%@if_true:=@if_true
theorem B7d:type_of%@if_false:=@if_false
theorem B8d:type_of%@beq_eq_false_iff_ne:=@beq_eq_false_iff_ne
theorem B7k:type_of%@decide_eq_false_iff_not:=@decide_eq_false_iff_not
theorem B7v:type_of%@and_true:=@and_true
theorem B7w:type_of%@true_and:=@true_and
theorem B9d:type_of%@false_implies:=@false_implies
theorem B9k:type_of%@implies_true:=@implies_true
inductive Oth where
 |fn (g:Nat)
 |np
 |nm
 |ni
 |jk
 deriving DecidableEq
inductive D where
 |int (k:IntKind)(n:Int)
 |bool (b:Bool)
 |str (s:List UInt8)
 |vs (sz:Nat)(rows:List (List D))
 |nil (sz:Nat)
 |ot (x:Oth)
def KT :Nat:=18446744073709551616
def Bms (k key:Nat):Bool:=decide (k<KT)||k/KT==key/KT
def MK :Nat:=1461501637330902918203684832716283019655932542976
inductive AV where
 |c (d:D)
 |agg (cs:List D)
 |nil (sz:Nat)
 |sl (key ver start len:Nat)
 |loc (key row off:Nat)
 |vp (row:List D)(off:Nat)
 |tup (vs:List AV)
 |ot (x:Oth)
 |mp (key:Nat)
 |itr (key:Nat)
 |ags (cs:List AV)
 |clo (g:Nat)(cs:List AV)
inductive J8 where
 |t (n:Nat)
 |k (v:AV)
abbrev O4 :=List (List AV)
structure Obj where
 sz:Nat
 rows:O4
structure St where
 fr:List (Nat×AV)
 ob:List (Nat×Obj)
def get {α:Type}:List (Nat×α)->Nat->Option α
 |[],_=>none
 |(k,v)::r,i=>if k=i then some v else get r i
def del {α:Type}:List (Nat×α)->Nat->List (Nat×α)
 |[],_=>[]
 |(k,v)::r,i=>if k=i then del r i else(k,v)::del r i
def A17 {α:Type}(k:Nat):Option α->List (Nat×α)->List (Nat×α)
 |some v,r=>(k,v)::r
 |none,r=>r
def keep {α:Type}:List Nat->List (Nat×α)->List (Nat×α)
 |[],_=>[]
 |k::ks,l=>A17 k (get l k) (keep ks l)
def St.opd (s:St):J8->Option AV
 | .t n=>get s.fr n
 | .k v=>some v
def St.put (s:St)(d:Option Nat)(v:AV):St:=
 match d with
 |some i=>⟨(i,v)::s.fr,s.ob⟩
 |none=>s
def St.obj (s:St)(key:Nat)(r:Obj):St:=⟨s.fr,(key,r)::del s.ob key⟩
def Agx :List AV->Option (List D)
 |[]=>some []
 | .c d::r=>(Agx r).map (d:: ·)
 | .nil sz::r=>(Agx r).map (.vs sz []:: ·)
 |_::_=>none
def F7 :O4->Option (List (List D))
 |[]=>some []
 |r::rs=>match Agx r,F7 rs with
  |some a,some b=>some (a::b)
  |_,_=>none
def St.view (s:St):AV->Option (Nat×List (List D))
 | .c (.vs sz rows)=>some (sz,rows)
 | .nil sz=>some (sz,[])
 | .sl key ver start len=>match get s.ob key with
  |some o=>if o.rows.length=ver/\start+len<=ver then(F7 o.rows).map λ r=>(o.sz,(r.drop start).take len)else none
  |none=>none
 |_=>none
def St.frz (s:St):AV->Option (AV×Option Nat)
 | .c d=>some (.c d,none)
 | .agg cs=>some (.agg cs,none)
 | .nil sz=>some (.c (.vs sz []),none)
 | .sl key ver start len=>(s.view (.sl key ver start len)).map λ r=>(.c (.vs r.1 r.2),some key)
 |_=>none
def kill (s:St):List Nat->St
 |[]=>s
 |k::ks=>kill ⟨s.fr,del s.ob k⟩ ks
def St.frzs (s:St):List AV->Option (List AV×List Nat)
 |[]=>some ([],[])
 |v::vs=>match s.frz v,s.frzs vs with
  |some (d,k),some (ds,ks)=>some (d::ds,k.toList++ks)
  |_,_=>none
def St.opds (s:St):List J8->Option (List AV)
 |[]=>some []
 |x::xs=>match s.opd x,s.opds xs with
  |some v,some vs=>some (v::vs)
  |_,_=>none
def AV.dcells :AV->Option (List D)
 | .c d=>some [d]
 | .agg cs=>some cs
 | .nil sz=>some [.vs sz []]
 |_=>none
def D.flat :D->Bool
 | .vs _ _=>false
 |_=>true
def AV.flat :AV->Bool
 | .c d=>d.flat
 | .agg cs=>cs.all D.flat
 |_=>false
def Bfs (op:BinOp)(x y:Int):Option Bool:=
 match op with
 | .eql=>some (decide (x=y))| .neq=>some (!decide (x=y))
 | .lss=>some (decide (x<y))| .leq=>some (decide (x<=y))| .gtr=>some (decide (y<x))| .geq=>some (decide (y<=x))
 |_=>none
def Ac0 (k:IntKind)(n:Int):Int:=k.wrap n
def Bl1 (x y:Int):Int:=x.tdiv y
def Bl2 (x y:Int):Int:=x.tmod y
def Ags (op:BinOp)(k:IntKind)(x y:Int):Int:=
 let a:=BitVec.ofInt k.bits x
 let b:=BitVec.ofInt k.bits y
 match op with
 | .and=>k.wrap (a&&&b).toNat
 | .or=>k.wrap (a|||b).toNat
 | .xor=>k.wrap (a^^^b).toNat
 |_=>k.wrap (a&&& ~~~b).toNat
def B22 (k:IntKind)(x:Int):Int:=Ags .xor k (if k.signed then -1 else k.max) x
def Af7 (op:BinOp)(k:IntKind)(x y:Int):Option D:=
 match op with
 | .and=>some (.int k (Ags .and k x y))| .or=>some (.int k (Ags .or k x y))| .xor=>some (.int k (Ags .xor k x y))| .andNot=>some (.int k (Ags .andNot k x y))
 | .add=>some (.int k (Ac0 k (x+y)))| .sub=>some (.int k (Ac0 k (x-y)))| .mul=>some (.int k (Ac0 k (x*y)))
 | .quo=>if y=0 then none else some (.int k (Ac0 k (Bl1 x y)))
 | .rem=>if y=0 then none else some (.int k (Bl2 x y))
 |op=>(Bfs op x y).map .bool
abbrev Bl3 :=Go.Op.bytesLess
def Bea :Nat:=9223372036854775807
def A5z (op:BinOp)(x y:List UInt8):Option D:=
 match op with
 | .add=>if x.length+y.length<=Bea then some (.str (x++y))else none
 | .eql=>some (.bool (decide (x=y)))| .neq=>some (.bool (!decide (x=y)))
 | .lss=>some (.bool (Bl3 x y))| .leq=>some (.bool (Bl3 x y||decide (x=y)))
 | .gtr=>some (.bool (!(Bl3 x y||decide (x=y))))| .geq=>some (.bool (!Bl3 x y))
 |_=>none
inductive Kd where
 |int (k:IntKind)
 |bool
 |str
 deriving DecidableEq
def eqK :Kd->D->D->Option Bool
 | .int k,.int k1 a,.int k2 b=>if k1=k/\k2=k then some (decide (a=b))else none
 | .bool,.bool a,.bool b=>some (decide (a=b))
 | .str,.str a,.str b=>some (decide (a=b))
 |_,_,_=>none
def L9 :List Kd->List D->List D->Option Bool
 |[],[],[]=>some true
 |k::ks,x::xs,y::ys=>match eqK k x y,L9 ks xs ys with
  |some a,some b=>some (a&&b)
  |_,_=>none
 |_,_,_=>none
def Bx9 (op:BinOp):AV->AV->Option D
 | .c (.int k x),.c (.int k' y)=>if k=k' then Af7 op k x y else none
 | .c (.str x),.c (.str y)=>A5z op x y
 |_,_=>none
def unV (op:UnOp):AV->Option D
 | .c (.int k x)=>match op with| .neg=>some (.int k (Ac0 k (0-x)))| .xor=>some (.int k (B22 k x))|_=>none
 | .c (.bool b)=>match op with| .not=>some (.bool (!b))|_=>none
 |_=>none
inductive Cv where
 |int (k:IntKind)
 |same
 |toStr
def B23 :List D->Bool
 |[.int .u8 _]=>true
 |_=>false
def B24 :List D->UInt8
 |[.int .u8 n]=>UInt8.ofNat n.toNat
 |_=>0
def Bzc :List D->Bool
 |[.int .u8 n]=>decide (0<=n/\n<=255)
 |_=>false
def Bl4 (b:UInt8):List D:=[.int .u8 b.toNat]
def St.conv (s:St):Cv->AV->Option D
 | .int k,.c (.int _ n)=>some (.int k (Ac0 k n))
 | .same,.c (.str x)=>some (.str x)
 | .toStr,x=>match s.view x with
  |some (_,rows)=>if rows.all B23 then some (.str (rows.map B24))else none
  |none=>none
 |_,_=>none
def part (cs:List D)(off sz:Nat)(ag:Bool):Option AV:=
 if off+sz<=cs.length then
  if ag then some (.agg ((cs.drop off).take sz))else(cs[off]?).map .c
 else none
def Adg :AV->Option Nat
 | .c (.int _ n)=>if 0<=n then some n.toNat else none
 |_=>none
def A2m (n bytes:Nat):Bool:=decide (n*bytes<=140737488355328)
def A4 (cs:List D):List AV:=cs.map .c
def O8 {α:Type}(cs:List α)(off:Nat)(xs:List α):List α:=cs.take off++xs++cs.drop (off+xs.length)
def Ajj (n:Nat)(lo hi:Option AV):Option (Nat×Nat):=
 match (match hi with|some v=>Adg v|none=>some n),(match lo with|some v=>Adg v|none=>some 0)with
 |some h,some l=>if l<=h/\h<=n then some (l,h)else none
 |_,_=>none
def St.opdO (s:St):Option J8->Option (Option AV)
 |none=>some none
 |some x=>(s.opd x).map some
inductive Act where
 |mov (x:J8)
 |frz (x:J8)
 |pick (c a b:J8)
 |bin (op:BinOp)(x y:J8)
 |eqs (neg:Bool)(ks:List Kd)(x y:J8)
 |beq (neg:Bool)(x y:J8)
 |un (op:UnOp)(x:J8)
 |ext (x:J8)(i:Nat)
 |fld (x:J8)(off sz:Nat)(ag:Bool)
 |idx (x i:J8)(n sz:Nat)(ag:Bool)
 |iad (x i:J8)(sz:Nat)
 |iadA (x i:J8)(n sz:Nat)
 |fad (x:J8)(off:Nat)
 |ld (x:J8)(sz:Nat)(ag:Bool)
 |sto (sz:Nat)(x v:J8)
 |stoG (sz:Nat)(x v:J8)
 |stoF (sz:Nat)(x v:J8)
 |ldF (x:J8)(sz:Nat)
 |ldA (x:J8)(sz:Nat)
 |alc (key:Nat)(cs:List AV)
 |box (key:Nat)(x:J8)
 |bld (zero:List D)(parts:List (Nat×Nat×J8))
 |bldA (zero:List AV)(parts:List (Nat×Nat×J8))
 |bsl (sz:Nat)(zero:List D)(len:Nat)(parts:List (Nat×Nat×J8))
 |bso (key sz:Nat)(zero:List D)(len:Nat)(parts:List (Nat×Nat×J8))
 |appM (key sz bytes:Nat)(x y:J8)
 |lsl (sz:Nat)(x:J8)(lo hi:Option J8)
 |len (str:Bool)(x:J8)
 |app (key sz bytes:Nat)(x y:J8)
 |mks (key bytes:Nat)(zero:List AV)(n c:J8)
 |mkf (g:Nat)(xs:List J8)
 |call (f:Nat)(args:List J8)
 |callP (f:Nat)(args:List J8)
 |callQ (f:Nat)(args:List J8)
 |mn (x:J8)(xs:List J8)
 |nilc (x:J8)
 |shf (l:Bool)(x y:J8)
 |isn (k:Nat)(neg:Bool)(x:J8)
 |mmk (key:Nat)
 |mget (ks:Bool×List Kd)(zero:AV)(ok:Bool)(x i:J8)
 |mset (ks:Bool×List Kd)(x i v:J8)
 |mdel (ks:Bool×List Kd)(x i:J8)
 |rng (key:Nat)(x:J8)
 |ent (x:J8)
structure H6 where
 fn:Nat->List AV->Option (List AV)
 pt:Nat->St->Option (List AV×List (Nat×Obj))
 fv:Nat->List AV->Option (List AV)
instance : CoeFun H6 (λ _=>Nat->List AV->Option (List AV)):=⟨H6.fn⟩
def GB :Nat:=100000
def args :Nat->List AV->List (Nat×AV)
 |_,[]=>[]
 |i,v::vs=>(i,v)::args (i+1) vs
def gho :List (Nat×AV)->List (Nat×AV)
 |[]=>[]
 |(i,v)::r=>(GB+i,v)::gho r
def AV.isD :AV->Bool
 | .tup _=>false
 | .ags _=>false
 | .clo _ _=>false
 |_=>true
def Buk :List AV->Option AV
 |[v]=>some v
 |vs=>if vs.all AV.isD then some (.tup vs)else none
def Brk :List AV->AV
 |[v]=>v
 |vs=> .tup vs
def H1 {α:Type}(cells:List α):List (Nat×List α)->Option (List α)
 |[]=>some cells
 |(off,xs)::r=>if off+xs.length<=cells.length then H1 (O8 cells off xs) r else none
def St.parts (s:St):List (Nat×Nat×J8)->Option (List (Nat×List D)×List Nat)
 |[]=>some ([],[])
 |(off,sz,x)::r=>match s.opd x with
  |none=>none
  |some v=>match s.frz v with
   |none=>none
   |some (d,k)=>match d.dcells,s.parts r with
    |some cs,some (ps,ks)=>if cs.length=sz then some ((off,cs)::ps,k.toList++ks)else none
    |_,_=>none
def Aas (sz:Nat):Nat->List D->List (List D)
 |0,_=>[]
 |n+1,cs=>cs.take sz::Aas sz n (cs.drop sz)
def A9a (zero:List D):Nat->List D
 |0=>[]
 |n+1=>zero++A9a zero n
def St.load (s:St)(x:AV)(sz:Nat)(ag:Bool):Option AV:=
 match x with
 | .vp row off=>part row off sz ag
 | .loc key row off=>match get s.ob key with
  |none=>none
  |some o=>match o.rows[row]? with
   |none=>none
   |some r=>if off+sz<=r.length then
     if ag then(Agx ((r.drop off).take sz)).map .agg else r[off]?
    else none
 |_=>none
def St.loadF (s:St)(x:AV)(sz:Nat):Option (List D×List Nat):=
 match x with
 | .loc key row off=>match get s.ob key with
  |none=>none
  |some o=>match o.rows[row]? with
   |none=>none
   |some r=>if off+sz<=r.length then match s.frzs ((r.drop off).take sz)with
     |some (ds,ks)=>(Agx ds).map λ cs=>(cs,ks)
     |none=>none
    else none
 |_=>none
def D.cell :D->AV
 | .nil sz=> .nil sz
 | .ot x=> .ot x
 |d=> .c d
def A6u (cs:List D):List AV:=cs.map D.cell
def AV.one :AV->Bool
 | .c _| .nil _| .sl .. | .loc .. | .mp _=>true
 | .ot _=>true
 |_=>false
def St.cellsOf (s:St):AV->Option (List AV)
 | .c d=>some [.c d]
 | .agg cs=>some (A6u cs)
 | .nil sz=>some [.nil sz]
 | .sl k v a n=>match get s.ob k with
  |some o=>if o.rows.length=v/\a+n<=v then some [.sl k v a n]else none
  |none=>none
 | .loc k r f=>(get s.ob k).map λ _=>[.loc k r f]
 | .mp k=>(get s.ob k).map λ _=>[.mp k]
 | .ot x=>some [.ot x]
 | .ags cs=>if cs.all AV.one then some cs else none
 |_=>none
def St.partsA (s:St):List (Nat×Nat×J8)->Option (List (Nat×List AV))
 |[]=>some []
 |(off,sz,x)::r=>match s.opd x with
  |none=>none
  |some v=>match s.cellsOf v,s.partsA r with
   |some cs,some ps=>if cs.length=sz then some ((off,cs)::ps)else none
   |_,_=>none
def setRow (rows:O4)(i:Nat)(r:List AV):O4:=rows.take i++r::rows.drop (i+1)
def St.store (s:St)(sz:Nat)(x v:AV):Option St:=
 match x with
 | .loc key row off=>match get s.ob key,s.cellsOf v with
  |some o,some cs=>match o.rows[row]? with
   |some r=>if cs.length=sz/\off+cs.length<=r.length then some (s.obj key ⟨o.sz,setRow o.rows row (O8 r off cs)⟩)else none
   |none=>none
  |_,_=>none
 |_=>none
def AV.names1 (key:Nat):AV->Bool
 | .sl k _ _ _=>k==key
 | .loc k _ _=>k==key
 | .mp k=>k==key
 | .itr k=>k==key
 |_=>false
def AV.names (key:Nat):AV->Bool
 | .tup vs=>vs.any (names1 key)
 | .ags vs=>vs.any (names1 key)
 | .clo _ vs=>vs.any (names1 key)
 |x=>x.names1 key
def St.free (s:St)(key:Nat):Bool:=
 s.fr.all (λ p=> !p.2.names key)&&(del s.ob key).all (λ p=>p.2.rows.all λ r=>r.all λ v=> !v.names key)
def AV.isLoc1 (key:Nat):AV->Bool
 | .loc k _ _=>k==key
 |_=>false
def AV.isLoc (key:Nat):AV->Bool
 | .tup vs=>vs.any (isLoc1 key)
 | .ags vs=>vs.any (isLoc1 key)
 | .clo _ vs=>vs.any (isLoc1 key)
 |x=>x.isLoc1 key
def St.noLoc (s:St)(key:Nat):Bool:=
 s.fr.all (λ p=> !p.2.isLoc key)&&s.ob.all (λ p=>p.2.rows.all λ r=>r.all λ v=> !v.isLoc key)
def S9 (s:St)(key sz bytes:Nat)(x:AV)(ys:List (List D)):Option (AV×St):=
 match x with
 | .nil z=>if z=sz/\(A2m ys.length bytes&&s.free key)=true then some (.sl key ys.length 0 ys.length,s.obj key ⟨sz,ys.map A4⟩)else none
 | .sl k ver 0 n=>match get s.ob k with
  |some o=>if o.rows.length=ver/\n=ver/\o.sz=sz then
    if A2m (n+ys.length) bytes&&s.noLoc k&&Bms k key then some (.sl k (n+ys.length) 0 (n+ys.length),s.obj k ⟨sz,o.rows++ys.map A4⟩)else none
   else none
  |none=>none
 |_=>none
def Bh0 (s:St)(key sz bytes:Nat)(x:AV)(zs:O4):Option (AV×St):=
 match x with
 | .nil z=>if z=sz/\(A2m zs.length bytes&&s.free key)=true then some (.sl key zs.length 0 zs.length,s.obj key ⟨sz,zs⟩)else none
 | .sl k ver 0 n=>match get s.ob k with
  |some o=>if o.rows.length=ver/\n=ver/\o.sz=sz then
    if A2m (n+zs.length) bytes&&s.noLoc k&&Bms k key then some (.sl k (n+zs.length) 0 (n+zs.length),s.obj k ⟨sz,o.rows++zs⟩)else none
   else none
  |none=>none
 |_=>none
def Aea (s:St)(key sz bytes:Nat)(x:AV)(ys:List (List D)):Option (AV×St):=
 match x with
 | .nil z=>if z=sz/\(A2m ys.length bytes&&s.free key)=true then some (.sl key ys.length 0 ys.length,s.obj key ⟨sz,ys.map A4⟩)else none
 | .sl k ver st n=>match get s.ob k with
  |some o=>if o.rows.length=ver/\st+n=ver/\0<n/\o.sz=sz/\k≠key/\key<KT then
    if A2m (n+ys.length) bytes&&s.free key then some (.sl key (n+ys.length) 0 (n+ys.length),(⟨s.fr,del s.ob k⟩:St).obj key ⟨sz,o.rows.drop st++ys.map A4⟩)else none
   else none
  |none=>none
 |_=>none
def St.loadA (s:St)(x:AV)(sz:Nat):Option (List AV):=
 match x with
 | .loc key row off=>match get s.ob key with
  |none=>none
  |some o=>match o.rows[row]? with
   |none=>none
   |some r=>if off+sz<=r.length/\(((r.drop off).take sz).all λ y=>(s.cellsOf y).isSome)=true then some ((r.drop off).take sz)else none
 |_=>none
def B4s (s:St)(sz:Nat)(x:AV):AV->Option (Nat×O4)
 | .sl key ver st n=>match get s.ob key with
  |some o=>if o.rows.length=ver/\st+n<=ver/\o.sz=sz/\x.names key=false/\(o.rows.all λ r=>r.all λ y=>(s.cellsOf y).isSome)=true then some (key,(o.rows.drop st).take n)else none
  |none=>none
 |_=>none
def Bya (sz:Nat):Nat->List AV->O4
 |0,_=>[]
 |n+1,cs=>cs.take sz::Bya sz n (cs.drop sz)
def Byb (zero:List AV):Nat->List AV
 |0=>[]
 |n+1=>zero++Byb zero n
def A2n (s:St):Bool->AV->Option Int
 |true,.c (.str x)=>some x.length
 |false,.c (.vs _ rows)=>some rows.length
 |false,.nil _=>some 0
 |false,.sl key ver start n=>match get s.ob key with
  |some o=>if o.rows.length=ver/\start+n<=ver then some n else none
  |none=>none
 |_,_=>none
def Y2 (s:St):AV->Option (Nat×List (List D))
 | .c (.str x)=>some (1,x.map Bl4)
 |v=>s.view v
def Amf (k:IntKind)(a:Int):List AV->Option Int
 |[]=>some a
 | .c (.int k' b)::r=>if k=k' then Amf k (if b<a then b else a) r else none
 |_::_=>none
def B25 (k:IntKind)(a:Int):List AV->Option Int
 |[]=>some a
 | .c (.int k' b)::r=>if k=k' then B25 k (if a<b then b else a) r else none
 |_::_=>none
def Byc (l:Bool)(k:IntKind)(x y:Int):Option D:=
 if y<0 then none else some (.int k (if l then k.wrap (x*2^(min y.toNat k.bits))else x.fdiv (2^(min y.toNat k.bits))))
def An3 (s:St):Nat->AV->Option Bool
 |0,.ot .np=>some true
 |1,.ot .nm=>some true
 |0,.loc k _ _=>(get s.ob k).map λ _=>false
 |1,.mp k=>(get s.ob k).map λ _=>false
 |2,.c (.vs _ (_::_))=>some false
 |2,.sl k ver st n=>match get s.ob k with
  |some o=>if o.rows.length=ver/\0<n/\st+n<=ver then some false else none
  |none=>none
 |2,.nil _=>some true
 |2,.c (.nil _)=>some true
 |_,_=>none
def B1w (s:St):AV->AV->Option Bool
 | .ot .np,.ot .np=>some true
 | .ot .np,.loc k _ _=>(get s.ob k).map λ _=>false
 | .loc k _ _,.ot .np=>(get s.ob k).map λ _=>false
 | .loc k r f,.loc k' r' f'=>match get s.ob k,get s.ob k' with
  |some _,some _=>if k=k' then(if r=r'/\f=f' then some true else none)else some false
  |_,_=>none
 |_,_=>none
abbrev KK :=Bool×List Kd
def As5 (ks:KK):AV->AV->Option Bool
 | .c x,.c y=>if ks.1 then none else L9 ks.2 [x] [y]
 | .agg x,.agg y=>if ks.1 then L9 ks.2 x y else none
 |_,_=>none
def Ah5 (ks:KK)(k:AV):O4->Nat->Option (Option (Nat×AV))
 |[],_=>some none
 |[_,k',v]::r,i=>match As5 ks k k' with
  |some true=>some (some (i,v))
  |some false=>Ah5 ks k r (i+1)
  |none=>none
 |_::_,_=>none
def kOk (ks:KK)(k:AV):Bool:=(As5 ks k k).isSome
def Ba5 (ok b:Bool)(v:AV):Option AV:=if ok then(if v.isD then some (.tup [v,.c (.bool b)])else none)else some v
def Ac4 (rows:O4)(i:Nat):AV:=match rows[i]? with
 |some (x::_)=>x
 |_=> .tup []
def Amg (n:Int):List AV->Bool
 | .c (.int .i64 m)::_=>decide (m=n)
 |_=>false
def Aq3 (key:Nat)(ks:KK)(k v:AV)(o:Obj)(s:St):Option St:=
 match Ah5 ks k o.rows 0 with
 |some (some (i,_))=>some (s.obj key ⟨o.sz,setRow o.rows i [Ac4 o.rows i,k,v]⟩)
 |some none=>some (s.obj key ⟨o.sz+1,o.rows++[[.c (.int .i64 o.sz),k,v]]⟩)
 |none=>none
mutual
def eqD :D->D->Bool
 | .int k a,.int k' b=>decide (k=k')&&decide (a=b)
 | .bool a,.bool b=>decide (a=b)
 | .str a,.str b=>decide (a=b)
 | .vs z r,.vs z' r'=>decide (z=z')&&Awi r r'
 | .nil z,.nil z'=>decide (z=z')
 | .ot x,.ot y=>decide (x=y)
 |_,_=>false
def A2o :List D->List D->Bool
 |[],[]=>true
 |a::l,b::m=>eqD a b&&A2o l m
 |_,_=>false
def Awi :List (List D)->List (List D)->Bool
 |[],[]=>true
 |a::l,b::m=>A2o a b&&Awi l m
 |_,_=>false
end
def Aj0 :AV->AV->Bool
 | .c a,.c b=>eqD a b
 | .agg a,.agg b=>A2o a b
 | .nil a,.nil b=>decide (a=b)
 | .sl a b c d,.sl a' b' c' d'=>decide (a=a')&&decide (b=b')&&decide (c=c')&&decide (d=d')
 | .loc a b c,.loc a' b' c'=>decide (a=a')&&decide (b=b')&&decide (c=c')
 | .vp r a,.vp r' a'=>A2o r r'&&decide (a=a')
 | .ot a,.ot b=>decide (a=b)
 | .mp a,.mp b=>decide (a=b)
 | .itr a,.itr b=>decide (a=b)
 |_,_=>false
def Awj :List AV->List AV->Bool
 |[],[]=>true
 |a::l,b::m=>Aj0 a b&&Awj l m
 |_,_=>false
def eqV :AV->AV->Bool
 | .tup a,.tup b=>Awj a b
 | .ags a,.ags b=>Awj a b
 | .clo g a,.clo h b=>decide (g=h)&&Awj a b
 |a,b=>Aj0 a b
mutual
def eqA :AV->AV->Bool
 | .c a,.c b=>eqD a b
 | .agg a,.agg b=>A2o a b
 | .nil a,.nil b=>decide (a=b)
 | .sl a b c d,.sl a' b' c' d'=>decide (a=a')&&decide (b=b')&&decide (c=c')&&decide (d=d')
 | .loc a b c,.loc a' b' c'=>decide (a=a')&&decide (b=b')&&decide (c=c')
 | .vp r a,.vp r' a'=>A2o r r'&&decide (a=a')
 | .ot a,.ot b=>decide (a=b)
 | .mp a,.mp b=>decide (a=b)
 | .itr a,.itr b=>decide (a=b)
 | .tup a,.tup b=>A2p a b
 | .ags a,.ags b=>A2p a b
 | .clo g a,.clo h b=>decide (g=h)&&A2p a b
 |_,_=>false
def A2p :List AV->List AV->Bool
 |[],[]=>true
 |a::l,b::m=>eqA a b&&A2p l m
 |_,_=>false
end
def Ahg :O4->O4->Bool
 |[],[]=>true
 |a::l,b::m=>A2p a b&&Ahg l m
 |_,_=>false
def Ba6 :List (Nat×Obj)->List (Nat×Obj)->Bool
 |[],[]=>true
 |(k,o)::l,(k',o')::m=>decide (k=k')&&decide (o.sz=o'.sz)&&Ahg o.rows o'.rows&&Ba6 l m
 |_,_=>false
def act (Γ:H6)(s:St):Act->Option (AV×St)
 | .mov x=>(s.opd x).map (·,s)
 | .frz x=>match s.opd x with
  |some v=>(s.frz v).map λ p=>(p.1,kill s p.2.toList)
  |none=>none
 | .pick c a b=>match s.opd c with
  |some (.c (.bool t))=>(s.opd (if t then a else b)).map (·,s)
  |_=>none
 | .bin op x y=>match s.opd x,s.opd y with
  |some a,some b=>(Bx9 op a b).map λ d=>(.c d,s)
  |_,_=>none
 | .eqs neg ks x y=>match s.opd x,s.opd y with
  |some (.agg a),some (.agg b)=>(L9 ks a b).map λ e=>(.c (.bool (if neg then !e else e)),s)
  |_,_=>none
 | .beq neg x y=>match s.opd x,s.opd y with
  |some (.c (.bool a)),some (.c (.bool b))=>some (.c (.bool (if neg then !decide (a=b)else decide (a=b))),s)
  |_,_=>none
 | .un op x=>match s.opd x with
  |some a=>(unV op a).map λ d=>(.c d,s)
  |_=>none
 | .ext x i=>match s.opd x with
  |some (.tup vs)=>(vs[i]?).map (·,s)
  |_=>none
 | .fld x off sz ag=>match s.opd x with
  |some (.agg cs)=>(part cs off sz ag).map (·,s)
  |_=>none
 | .idx x i n sz ag=>match s.opd x,s.opd i with
  |some (.agg cs),some v=>match Adg v with
   |some j=>if j<n then(part cs (j*sz) sz ag).map (·,s)else none
   |none=>none
  |_,_=>none
 | .iad x i sz=>match s.opd x,s.opd i with
  |some (.c (.vs z rows)),some v=>match Adg v with
   |some j=>if z=sz then(rows[j]?).map λ r=>(.vp r 0,s)else none
   |none=>none
  |some (.sl key ver start len),some v=>match Adg v,get s.ob key with
   |some j,some o=>if o.rows.length=ver/\j<len/\start+len<=ver/\o.sz=sz then some (.loc key (start+j) 0,s)else none
   |_,_=>none
  |_,_=>none
 | .iadA x i n sz=>match s.opd x,s.opd i with
  |some (.loc key row off),some v=>match Adg v,get s.ob key with
   |some j,some _=>if j<n then some (.loc key row (off+j*sz),s)else none
   |_,_=>none
  |_,_=>none
 | .fad x off=>match s.opd x with
  |some (.loc key row o)=>(get s.ob key).map λ _=>(.loc key row (o+off),s)
  |some (.vp r o)=>some (.vp r (o+off),s)
  |_=>none
 | .ld x sz ag=>match s.opd x with
  |some a=>(s.load a sz ag).map (·,s)
  |none=>none
 | .sto sz x v=>match s.opd x,s.opd v with
  |some a,some b=>(s.store sz a b).map (AV.tup [],·)
  |_,_=>none
 | .ldF x sz=>match s.opd x with
  |some a=>(s.loadF a sz).map λ p=>(.agg p.1,kill s p.2)
  |none=>none
 | .ldA x sz=>match s.opd x with
  |some a=>(s.loadA a sz).map λ cs=>(.ags cs,s)
  |none=>none
 | .stoF sz x v=>match s.opd x,s.opd v with
  |some a,some b=>match s.frz b with
   |some (d,k)=>((kill s k.toList).store sz a d).map (AV.tup [],·)
   |none=>none
  |_,_=>none
 | .stoG sz x v=>match s.opd x,s.opd v with
  |some a,some b=>(s.store sz a b).map (AV.tup [],·)
  |_,_=>none
 | .alc key cs=>if s.free key then some (.loc key 0 0,s.obj key ⟨cs.length,[cs]⟩)else none
 | .box key x=>match s.opd x with
  |some v=>match s.cellsOf v with
   |some cs=>if s.free key then some (.loc key 0 0,s.obj key ⟨cs.length,[cs]⟩)else none
   |none=>none
  |none=>none
 | .bld zero ps=>match s.parts ps with
  |some (xs,ks)=>(H1 zero xs).map λ cs=>(.agg cs,kill s ks)
  |none=>none
 | .bldA zero ps=>match s.partsA ps with
  |some xs=>(H1 zero xs).map λ cs=>(.ags cs,s)
  |none=>none
 | .bsl sz zero len ps=>match s.parts ps with
  |some (xs,ks)=>(H1 (A9a zero len) xs).map λ cs=>(.c (.vs sz (Aas sz len cs)),kill s ks)
  |none=>none
 | .bso key sz zero len ps=>match s.parts ps with
  |some (xs,ks)=>match H1 (A9a zero len) xs with
   |some cs=>if (kill s ks).free key then some (.sl key len 0 len,(kill s ks).obj key ⟨sz,(Aas sz len cs).map A4⟩)else none
   |none=>none
  |none=>none
 | .lsl sz x lo hi=>match s.opd x,s.opdO lo,s.opdO hi with
  |some (.c (.vs z rows)),some lo,some hi=>if z=sz then(Ajj rows.length lo hi).map λ(a,b)=>(.c (.vs z ((rows.drop a).take (b-a))),s)else none
  |some (.sl key ver start len),some lo,some hi=>match get s.ob key with
   |some o=>if o.rows.length=ver/\start+len<=ver/\o.sz=sz then(Ajj len lo hi).map λ(a,b)=>(.sl key ver (start+a) (b-a),s)else none
   |none=>none
  |some (.nil z),some lo,some hi=>(Ajj 0 lo hi).map λ _=>(.nil z,s)
  |_,_,_=>none
 | .len b x=>match s.opd x with
  |some a=>(A2n s b a).map λ n=>(.c (.int .i64 n),s)
  |none=>none
 | .app key sz bytes x y=>match s.opd x,s.opd y with
  |some a,some b=>match Y2 s b with
   |some (z,ys)=>if z=sz then S9 s key sz bytes a ys else none
   |none=>none
  |_,_=>none
 | .appM key sz bytes x y=>match s.opd x,s.opd y with
  |some a,some b=>match Y2 s b with
   |some (z,ys)=>if z=sz then Aea s key sz bytes a ys else none
   |none=>none
  |_,_=>none
 | .mks key bytes zero n c=>match s.opd n,s.opd c with
  |some v,some u=>match Adg v,Adg u with
   |some m,some k=>if m<=k/\(A2m k bytes&&s.free key)=true then some (.sl key m 0 m,s.obj key ⟨zero.length,List.replicate m zero⟩)else none
   |_,_=>none
  |_,_=>none
 | .mkf g xs=>match s.opds xs with
  |some vs=>if vs.all AV.isD=true then some (.clo g vs,s)else none
  |none=>none
 | .call f args=>match s.opds args with
  |none=>none
  |some vs=>match s.frzs vs with
   |none=>none
   |some (ds,ks)=>match Γ f ds with
    |none=>none
    |some rs=>some (Brk rs,if rs.all AV.flat then s else kill s ks)
 | .callP f xs=>match s.opds xs with
  |none=>none
  |some vs=>match Γ.pt f ⟨args 0 vs++gho s.fr,s.ob⟩with
   |none=>none
   |some (rs,aA)=>(Buk rs).map λ v=>(v,⟨s.fr,aA⟩)
 | .callQ f xs=>match s.opds xs with
  |none=>none
  |some vs=>match Γ.pt f ⟨args 0 vs++gho s.fr,s.ob⟩with
   |none=>none
   |some (rs,aA)=>if Ba6 aA s.ob=true then(Buk rs).map λ v=>(v,s)else none
 | .mn x xs=>match s.opd x,s.opds xs with
  |some (.c (.int k a)),some vs=>(Amf k a vs).map λ n=>(.c (.int k n),s)
  |_,_=>none
 | .nilc x=>match s.opd x with
  |some (.loc key row off)=>(get s.ob key).map λ _=>(.loc key row off,s)
  |_=>none
 | .shf l x y=>match s.opd x,s.opd y with
  |some (.c (.int k a)),some (.c (.int _ b))=>(Byc l k a b).map λ d=>(.c d,s)
  |_,_=>none
 | .isn k neg x=>match s.opd x with
  |some v=>(An3 s k v).map λ b=>(.c (.bool (if neg then !b else b)),s)
  |none=>none
 | .mmk key=>if s.free key then some (.mp key,s.obj key ⟨0,[]⟩)else none
 | .mget ks zero ok x i=>match s.opd x,s.opd i with
  |some (.ot .nm),some k=>if kOk ks k then(Ba5 ok false zero).map (·,s)else none
  |some (.mp key),some k=>match get s.ob key with
   |some o=>if kOk ks k then match Ah5 ks k o.rows 0 with
     |some (some (_,v))=>(Ba5 ok true v).map (·,s)
     |some none=>(Ba5 ok false zero).map (·,s)
     |none=>none
    else none
   |none=>none
  |_,_=>none
 | .mset ks x i v=>match s.opd x,s.opd i,s.opd v with
  |some (.mp key),some k,some v=>match get s.ob key with
   |some o=>if kOk ks k then(Aq3 key ks k v o s).map (.tup [],·)else none
   |none=>none
  |_,_,_=>none
 | .mdel ks x i=>match s.opd x,s.opd i with
  |some (.ot .nm),some k=>if kOk ks k then some (.tup [],s)else none
  |some (.mp key),some k=>match get s.ob key with
   |some o=>if kOk ks k then match Ah5 ks k o.rows 0 with
     |some (some (i,_))=>some (.tup [],s.obj key ⟨o.sz,o.rows.eraseIdx i⟩)
     |some none=>some (.tup [],s)
     |none=>none
    else none
   |none=>none
  |_,_=>none
 | .rng key x=>match s.opd x with
  |some (.ot .nm)=>if s.free key then some (.itr key,s.obj key ⟨0,[[.ot .nm]]⟩)else none
  |some (.mp k)=>match get s.ob k with
   |some o=>if s.free key then some (.itr key,s.obj key ⟨o.sz,[[.mp k,.c (.int .i64 o.sz)]]⟩)else none
   |none=>none
  |_=>none
 | .ent x=>match s.opd x with
  |some (.itr key)=>match get s.ob key with
   |some o=>match o.rows with
    |[.mp mk,_]::seen=>match get s.ob mk,seen.getLast? with
     |some om,some [.c (.int .i64 b)]=>match om.rows.find? (Amg b)with
      |some [_,k,v]=>if k.isD&&v.isD&&decide (om.sz=o.sz)then some (.tup [k,v],s)else none
      |_=>none
     |_,_=>none
    |_=>none
   |none=>none
  |_=>none
inductive AI where
 |done
 |op (d:Option Nat)(a:Act)(rest:AI)
 |sc (d:Nat)(c:J8)(want:Bool)(sub:AI)(x:J8)(rest:AI)
 |scs (d:Nat)(c:J8)(want:Bool)(sub:AI)(x:J8)(rest:AI)
def AI.dsts :AI->List Nat
 | .done=>[]
 | .op (some d) _ r=>d::r.dsts
 | .op none _ r=>r.dsts
 | .sc d _ _ sub _ r=>sub.dsts++d::r.dsts
 | .scs d _ _ sub _ r=>sub.dsts++d::r.dsts
def E1 {α:Type}:List Nat->List (Nat×α)->List (Nat×α)
 |[],l=>l
 |k::ks,l=>E1 ks (del l k)
def St.drop (s:St)(ai:AI):St:=⟨E1 ai.dsts s.fr,s.ob⟩
def ev (Γ:H6):AI->St->Option St
 | .done,s=>some s
 | .op d a r,s=>match act Γ s a with
  |some (v,s')=>ev Γ r (s'.put d v)
  |none=>none
 | .sc d c want sub x r,s=>match s.opd c with
  |some (.c (.bool b))=>if b=want then match ev Γ sub s with
    |some s'=>match s'.opd x with
     |some v=>ev Γ r (s'.put (some d) v)
     |none=>none
    |none=>none
   else ev Γ r ((s.drop sub).put (some d) (.c (.bool b)))
  |_=>none
 | .scs d c want sub x r,s=>match s.opd c,ev Γ sub s with
  |some (.c (.bool b)),some s'=>match s'.opd x with
   |some (.c (.bool y))=>ev Γ r ((s.drop sub).put (some d) (.c (.bool (if want then b&&y else b||y))))
   |_=>none
  |_,_=>none
structure I5 where
 d:Option Nat
 a:Act
 g:Option (Nat×Bool)
def Act.quiet :Act->Bool
 | .sto .. | .alc .. | .box .. | .app .. | .mks .. | .bso .. | .appM .. | .frz .. | .stoF .. | .callP .. | .callQ .. | .mmk .. | .mset .. | .mdel .. | .rng .. | .ent .. | .bldA .. | .stoG .. | .ldF .. | .ldA .. =>false
 |_=>true
def Act.isQ :Act->Bool
 | .callQ .. =>true
 |_=>false
def Act.quq (A:Act):Bool:=A.quiet||A.isQ
def met (s:St):Option (Nat×Bool)->Option Bool
 |none=>some true
 |some (t,want)=>match get s.fr t with
  |some (.c (.bool b))=>some (b==want)
  |some (.tup [])=>some false
  |_=>none
def evq (Γ:H6):List I5->St->Option St
 |[],s=>some s
 |x::r,s=>match x.a.quq with
  |false=>evq Γ r s
  |true=>match met s x.g with
   |none=>none
   |some false=>evq Γ r (s.put x.d (.tup []))
   |some true=>match act Γ s x.a with
    |some (v,s')=>if s'.ob.length=s.ob.length then evq Γ r (s.put x.d v)else none
    |none=>none
def evA :List (Nat×Nat×List AV)->St->Option St
 |[],s=>some s
 |(key,d,cs)::r,s=>match get s.ob key with
  |some _=>none
  |none=>evA r ((s.obj key ⟨cs.length,[cs]⟩).put (some d) (.loc key 0 0))
def Ab5 (s:St):Act->Option Nat
 | .sto _ x _=>match s.opd x with|some (.loc key _ _)=>some key|_=>none
 | .app key _ _ x _=>match s.opd x with|some (.nil _)=>some key|some (.sl key' _ _ _)=>some key'|_=>none
 | .bso key _ _ _ ps=>match s.parts ps with|some (_,[])=>some key|_=>none
 | .box key _=>some key
 | .mks key _ _ _ _=>some key
 |_=>none
def okA :List (Nat×Nat×List AV)->St->Bool
 |[],_=>true
 |(key,d,_)::r,s=>s.fr.all (λ p=>p.1==d|| !p.2.names key)&&s.ob.all (λ p=>p.2.rows.all λ r=>r.all λ v=> !v.names key)&&okA r s
def Act.xs :Act->List J8
 | .mov x=>[x]| .frz x=>[x]| .pick c a b=>[c,a,b]| .bin _ x y=>[x,y]| .eqs _ _ x y=>[x,y]| .beq _ x y=>[x,y]| .un _ x=>[x]| .ext x _=>[x]
 | .fld x _ _ _=>[x]| .idx x i _ _ _=>[x,i]| .iad x i _=>[x,i]| .iadA x i _ _=>[x,i]| .fad x _=>[x]| .ld x _ _=>[x]
 | .sto _ x v=>[x,v]| .stoG _ x v=>[x,v]| .stoF _ x v=>[x,v]| .ldF x _=>[x]| .ldA x _=>[x]| .alc _ _=>[]| .box _ x=>[x]| .bld _ ps=>ps.map (·.2.2)| .bldA _ ps=>ps.map (·.2.2)| .bsl _ _ _ ps=>ps.map (·.2.2)| .bso _ _ _ _ ps=>ps.map (·.2.2)| .appM _ _ _ x y=>[x,y]
 | .lsl _ x lo hi=>x::(lo.toList++hi.toList)| .len _ x=>[x]| .app _ _ _ x y=>[x,y]
 | .mks _ _ _ n c=>[n,c]| .mkf _ xs=>xs| .call _ args=>args| .callP _ args=>args| .callQ _ args=>args| .mn x xs=>x::xs| .nilc x=>[x]
 | .shf _ x y=>[x,y]| .isn _ _ x=>[x]| .mmk _=>[]| .mget _ _ _ x i=>[x,i]| .mset _ x i v=>[x,i,v]
 | .mdel _ x i=>[x,i]| .rng _ x=>[x]| .ent x=>[x]
def N1 :List J8->List Nat
 |[]=>[]
 | .t n::r=>n::N1 r
 | .k _::r=>N1 r
abbrev Eff :=Nat×Option Nat×Act×List Nat×List Nat
def Aqf (es:List (Nat×Nat×List AV))(s:St)(k:Nat)(A:Act)(ls:List Nat)(s':St):Bool:=
 ls.all (λ i=>match get s.fr i with|some u=> !u.names k|none=>true)&&(match get es k with|some (d',_)=>(N1 A.xs).contains d'|none=>true)&&okA es s'
def Act.bare :Act->Bool
 | .mov .. | .pick .. | .bin .. | .eqs .. | .beq .. | .un .. | .ext .. | .fld .. | .idx .. | .mn .. | .shf .. =>true
 |_=>false
def Act.gen :Act->Bool
 | .sto .. | .app .. | .bso .. | .box .. | .mks .. =>false
 |_=>true
def okL (t:St)(d:Option Nat):Option (AV×St)->Bool
 |some (v,t')=>decide (t'.ob.length=t.ob.length)&&(match d with
  |some i=>(match get t.fr i with
   |some u=>eqV u v
   |none=>false)
  |none=>true)
 |none=>false
def Ba8 (Γ:H6)(t:St)(d:Option Nat)(A:Act):Option Bool->Bool
 |some true=>okL t d (act Γ t A)
 |some false=>true
 |none=>false
def Ajk (Γ:H6)(t:St):Option I5->Bool
 |some x=>Ba8 Γ t x.d x.a (met t x.g)
 |none=>false
def Adh (Γ:H6)(q:List I5)(t:St):List Nat->Bool
 |[]=>true
 |j::ls=>Ajk Γ t q[j]? &&Adh Γ q t ls
def A50 (q:List I5)(s:St)(j:Nat):Option Bool:=match q[j]? with
 |some x=>met s x.g
 |none=>none
def Awk (Γ:H6)(q:List I5)(s:St)(f:Eff):Option (AV×St):=if f.2.2.1.gen then(match A50 q s f.1 with
  |some true=>act Γ s f.2.2.1
  |some false=>some (.tup [],s)
  |none=>none)else act Γ s f.2.2.1
def evF (Γ:H6)(q:List I5)(es:List (Nat×Nat×List AV)):List Eff->St->Option St
 |[],s=>some s
 |(j,d,A,ls,o)::r,s=>match Ab5 s A with
  |none=>match Awk Γ q s (j,d,A,ls,o)with
   |none=>none
   |some (v,s')=>if (es.isEmpty&&A.gen&&Adh Γ q (s'.put d v) ls)=true then evF Γ q es r (s'.put d v)else none
  |some k=>match act Γ s A with
   |none=>none
   |some (v,s')=>if Aqf es s k A ls (s'.put d v)=true then evF Γ q es r (s'.put d v)else none
def Aak (Γ:H6)(s:St):List I5->Bool
 |[]=>true
 |x::r=>(match x.a.isQ with
  |true=>Ajk Γ s (some x)
  |false=>true)&&Aak Γ s r
def T6 (fs:List Eff)(p:List Nat):List Eff:=p.filterMap λ i=>fs[i]?
def evN (Γ:H6)(q:List I5)(es:List (Nat×Nat×List AV))(fs:List Eff)(t:AI)(s:St):List (List Nat)->Option (St×List St)
 |[]=>none
 |p::ps=>match evF Γ q es (T6 fs p) s with
  |none=>none
  |some s3=>match ev Γ t s3 with
   |none=>none
   |some s4=>match ps with
    |[]=>some (s4,[])
    |_::_=>match evN Γ q es fs t s ps with
     |some (s5,r)=>some (s4,s5::r)
     |none=>none
def Amh :Option Obj->Option Obj->Bool
 |some x,some y=>decide (x.sz=y.sz)&&Ahg x.rows y.rows
 |none,none=>true
 |_,_=>false
def Ajl (a b:List (Nat×Obj)):Bool:=(a++b).all λ p=>Amh (get a p.1) (get b p.1)
def Ajm :List (Nat×AV)->List (Nat×AV)->Bool
 |[],[]=>true
 |(i,v)::a,(j,u)::b=>decide (i=j)&&eqA v u&&Ajm a b
 |_,_=>false
def ghs :List (Nat×AV)->List (Nat×AV)
 |[]=>[]
 |(i,v)::r=>if GB<=i then(i,v)::ghs r else ghs r
def Aln (ks:List Nat)(a b:St):Bool:=Ajl a.ob b.ob&&Ajm (keep ks a.fr) (keep ks b.fr)&&Ajm (ghs a.fr) (ghs b.fr)
inductive AC where
 |skip
 |reg (ops:AI)
 |draw (q:List I5)(es:List (Nat×Nat×List AV))(fs:List Eff)(t:AI)
 |drawN (q:List I5)(es:List (Nat×Nat×List AV))(fs:List Eff)(ps:List (List Nat))(t:AI)(ks:List Nat)
 |seq (a b:AC)
 |cond (c:J8)(a b:AC)
 |block (id:Nat)(a:AC)
 |loop (a:AC)
 |exit (id:Nat)
 |ret
 |keep (ks os:List Nat)(a:AC)
 |own (d key:Nat)(a:AC)
 |keepP (ks:List Nat)(lo hi:Nat)(os:List Nat)(a:AC)
 |after (ks os:List Nat)(a:AC)
 |ren (key:Nat)(a:AC)
 |renA (key:Nat)(a:AC)
 |iceA (t off key:Nat)(a:AC)
 |any
inductive AX where
 |norm
 |ex (id:Nat)
 |ret
def lp (f:St->Option (AX×St)):Nat->St->Option (AX×St)
 |0,_=>none
 |n+1,s=>match f s with
  |some (.norm,s')=>lp f n s'
  |r=>r
def A1 (lo hi:Nat)(os:List Nat):List (Nat×Obj)->List (Nat×Obj)
 |[]=>[]
 |(k,o)::r=>if k%KT<lo\/hi<=k%KT\/k∈os then(k,o)::A1 lo hi os r else A1 lo hi os r
def Avf (a b k:Nat):Nat:=if k=a then b else k
def AV.ren1 (a b:Nat):AV->AV
 | .sl k v st n=> .sl (Avf a b k) v st n
 | .loc k r f=> .loc (Avf a b k) r f
 | .mp k=> .mp (Avf a b k)
 | .itr k=> .itr (Avf a b k)
 |x=>x
def AV.ren (a b:Nat):AV->AV
 | .tup vs=> .tup (vs.map (AV.ren1 a b))
 | .ags vs=> .ags (vs.map (AV.ren1 a b))
 | .clo g vs=> .clo g (vs.map (AV.ren1 a b))
 |x=>x.ren1 a b
def J9 (a b:Nat)(rows:O4):O4:=rows.map λ r=>r.map (AV.ren a b)
def Ab6 (a b:Nat):List (Nat×Obj)->List (Nat×Obj)
 |[]=>[]
 |(k,o)::r=>(Avf a b k,⟨o.sz,J9 a b o.rows⟩)::Ab6 a b r
def Ac1 (a b:Nat):List (Nat×AV)->List (Nat×AV)
 |[]=>[]
 |(i,v)::r=>(i,v.ren a b)::Ac1 a b r
def CK :Nat:=900000000000000000
def DB :Nat:=1000000000000000000
def I7 (ob:List (Nat×Obj)):Nat:=match get ob CK with
 |some o=>o.sz
 |none=>0
def O9 (key n:Nat):Nat:=if key<KT then DB+n else MK+DB+n
def Adi (s:St)(key n:Nat):Bool:=
 decide (n<DB)&&(decide (key<KT)||decide (MK<=key)&&decide (key<2*MK))&&s.free CK&&s.free (O9 key n)&&(get s.ob (O9 key n)).isNone&&decide (key≠CK)&&(ghs s.fr).all λ p=> !p.2.names key
def renS (s:St)(key n:Nat):St:=⟨Ac1 key (O9 key n) s.fr,(CK,⟨n+1,[]⟩)::Ab6 key (O9 key n) (del s.ob CK)⟩
def Bft (key:Nat)(s:St):Option (AX×St):=match get s.ob key with
 |some _=>if Adi s key (I7 s.ob)=true then some (.norm,renS s key (I7 s.ob))else none
 |none=>some (.norm,s)
def Brl (key:Nat)(s:St):AV->Option D
 | .sl k ver st len=>if k=key then(match s.frz (.sl k ver st len)with
  |some (.c d,some _)=>some d
  |_=>none)else none
 |_=>none
def Bum (off key K:Nat)(s:St)(sz:Nat)(r:List AV):Option AV->St
 |some v=>match Brl key s v with
  |some d=>if K≠key/\K<MK then⟨s.fr,del ((K,⟨sz,[r.set off (.c d)]⟩)::del s.ob K) key⟩else s
  |none=>s
 |none=>s
def Bun (off key K:Nat)(s:St):Option Obj->St
 |some ⟨sz,[r]⟩=>Bum off key K s sz r r[off]?
 |_=>s
def Buo (off key:Nat)(s:St):Option AV->St
 |some (.loc K 0 0)=>Bun off key K s (get s.ob K)
 |_=>s
def Avg (t off key:Nat)(s:St):St:=Buo off key s (get s.fr t)
def exec (Γ:H6)(N:Nat):AC->St->Option (AX×St)
 | .skip,s=>some (.norm,s)
 | .reg o,s=>(ev Γ o s).map (.norm,·)
 | .draw q es fs t,s=>match evq Γ q s with
  |some s1=>if Aak Γ s1 q=true then match evA es s1 with
   |some s2=>if okA es s2=true then match evF Γ q es fs s2 with
     |some s3=>(ev Γ t s3).map (.norm,·)
     |none=>none
    else none
   |none=>none
   else none
  |none=>none
 | .drawN q es fs ps t ks,s=>match evq Γ q s with
  |some s1=>if Aak Γ s1 q=true then match evA es s1 with
   |some s2=>if okA es s2=true then match evN Γ q es fs t s2 ps with
     |some (s3,rs)=>if (rs.all (Aln ks s3))=true then some (.norm,⟨keep ks s3.fr++ghs s3.fr,s3.ob⟩)else none
     |none=>none
    else none
   |none=>none
   else none
  |none=>none
 | .keepP ks lo hi os a,s=>exec Γ N a ⟨keep ks s.fr++ghs s.fr,A1 lo hi os s.ob⟩
 | .after ks os a,s=>match exec Γ N a s with
  |some (.norm,s')=>some (.norm,⟨keep ks s'.fr,keep os s'.ob⟩)
  |r=>r
 | .any,_=>none
 | .iceA t off key a,s=>match exec Γ N a s with
  |some (.norm,s')=>some (.norm,Avg t off key s')
  |r=>r
 | .renA key a,s=>match exec Γ N a s with
  |some (.norm,s')=>Bft key s'
  |r=>r
 | .ren key a,s=>match get s.ob key with
  |some _=>if Adi s key (I7 s.ob)=true then exec Γ N a (renS s key (I7 s.ob))else none
  |none=>exec Γ N a s
 | .seq a b,s=>match exec Γ N a s with
  |some (.norm,s')=>exec Γ N b s'
  |r=>r
 | .cond c a b,s=>match s.opd c with
  |some (.c (.bool t))=>if t then exec Γ N a s else exec Γ N b s
  |_=>none
 | .block id a,s=>match exec Γ N a s with
  |some (.ex i,s')=>if i=id then some (.norm,s')else some (.ex i,s')
  |r=>r
 | .loop a,s=>lp (exec Γ N a) N s
 | .exit id,s=>some (.ex id,s)
 | .ret,s=>some (.ret,s)
 | .keep ks os a,s=>exec Γ N a ⟨keep ks s.fr,keep os s.ob⟩
 | .own d key a,s=>match get s.fr d with
  |some (.nil sz)=>if s.free key then exec Γ N a ((s.obj key ⟨sz,[]⟩).put (some d) (.sl key 0 0 0))else none
  |_=>none
inductive Rs where
 |t (n:Nat)
 |m (n sz:Nat)(ag:Bool)
structure AFn where
 body:AC
 results:List Rs
 fin:Nat×Nat×List Nat
def St.slots (s:St):List Rs->Option (List AV)
 |[]=>some []
 | .t i::is=>match get s.fr i,s.slots is with
  |some v,some vs=>some (v::vs)
  |_,_=>none
 | .m i sz ag::is=>match get s.fr i with
  |some a=>match s.load a sz ag,s.slots is with
   |some v,some vs=>some (v::vs)
   |_,_=>none
  |none=>none
def run (Γ:H6)(N:Nat)(f:AFn)(vs:List AV):Option (List AV):=
 match exec Γ N f.body ⟨args 0 vs,[]⟩with
 |some (.norm,s)|some (.ret,s)=>match s.slots f.results with
  |some rs=>(s.frzs rs).map (·.1)
  |none=>none
 |_=>none
def H9 (Γ:H6)(N:Nat)(f:AFn)(s:St):Option (List AV×List (Nat×Obj)):=
 match exec Γ N f.body s with
 |some (.norm,s')|some (.ret,s')=>(s'.slots f.results).map (·,A1 f.fin.1 f.fin.2.1 f.fin.2.2 s'.ob)
 |_=>none
def Aat (Γ:H6):Prop:=∀(f:Nat)(s:St)(rs:List AV)(ob:List (Nat×Obj))(R:List Nat),(∀r∈R,GB<=r)->Γ.pt f s=some (rs,ob)->Γ.pt f ⟨E1 R s.fr,s.ob⟩=some (rs,ob)
abbrev OL:=List (Nat×Obj)
abbrev FL:=List (Nat×AV)
abbrev PG:=St→Option (List AV×List (Nat×Obj))
end Go.Am
