import Derived.Test.YtgnjaophoffbbaaGreatB0
import Derived.Calls
import Derived.Below
import Derived.Laws.Cells
import Derived.Tactics
import Derived.Laws.StructEq
import Derived.ChangeKeysEq
import Derived.Laws.BytesString
import Derived.Laws.IdiomStrings
import Derived.Laws.Slices
import Derived.Deep.AppendSrc
set_option maxHeartbeats 4000000
set_option maxRecDepth 20000
set_option linter.unusedVariables false
set_option linter.unusedSimpArgs false
namespace Go.Am
def Bfu :List Nat:=[]
open Go.RowKit
abbrev Bd :=Nat->Prop
def Big (B:Bd)(n:Nat):Prop:=∀k,B k->k<n
theorem Big.out {B:Bd}{n x:Nat}(h:Big B n)(hx:n<=x):¬B x:=λ hb=>by have:=h x hb;omega
theorem Big.self {B:Bd}{n:Nat}(h:Big B n):¬B n:=h.out (B6u _)
theorem Big.le {B:Bd}{n m:Nat}(h:Big B n)(hm:n<=m):Big B m:=λ k hk=>Nat.lt_of_lt_of_le (h k hk) hm
structure Bel (B:Bd)(w w':World):Prop where
 os:w'.os=w.os
 tape:w'.tape=w.tape
 output:w'.output=w.output
 size:w.heap.size<=w'.heap.size
 block:∀k,B k->w'.heap[k]? =w.heap[k]?
theorem Bel.refl (B:Bd)(w:World):Bel B w w:=⟨rfl,rfl,rfl,B6u _,λ _ _=>rfl⟩
theorem Bel.trans {B:Bd}{a b c:World}(h:Bel B a b)(k:Bel B b c):Bel B a c:=
 ⟨k.os.trans h.os,k.tape.trans h.tape,k.output.trans h.output,Nat.le_trans h.size k.size,λ i hi=>(k.block i hi).trans (h.block i hi)⟩
theorem Bel.sub {B B':Bd}{w w':World}(h:Bel B w w')(hb:∀k,B' k->B k):Bel B' w w':=⟨h.os,h.tape,h.output,h.size,λ k hk=>h.block k (hb k hk)⟩
theorem Bel.drew {B:Bd}{a w:World}(h:Bel B a w):Bel B a w.drew:=⟨h.os,h.tape,h.output,h.size,h.block⟩
theorem Bel.of {B:Bd}{n:Nat}{w w':World}(h:Below n w w')(hb:Big B n):Bel B w w':=⟨h.os,h.tape,h.output,h.size,λ k hk=>h.block k (hb k hk)⟩
theorem Bel.to {n:Nat}{w w':World}(h:Bel (λ k=>k<n) w w'):Below n w w':=⟨h.os,h.tape,h.output,h.size,h.block⟩
theorem Bel.alloc {B:Bd}{a w:World}(h:Bel B a w)(hB:Big B w.heap.size)(o:Go.Obj):Bel B a (w.alloc o):=h.trans (.of ((Below.refl _ w).alloc (B6u _) o) hB)
theorem Big.lt (n:Nat):Big (λ k=>k<n) n:=λ _ h=>h
abbrev A8 :=Addr->Value->Prop
def A8.le (F F':A8):Prop:=∀a u,F a u->F' a u
def GF (F:A8):Prop:=∀b∈Bfu,∃m:Int,F ⟨b,0,none⟩ (.int .i64 m)
theorem GF.mono {F F':A8}(hg:GF F)(h:F.le F'):GF F':=λ b hb=>(hg b hb).imp λ m hm=>h _ _ hm
structure A8.ok (F:A8)(w:World):Prop where
 at_:∀a u,F a u->w.cell? a=some u
 glob:GF F
instance {F :A8}{w:World}:CoeFun (A8.ok F w) λ _=>∀a u,F a u->w.cell? a=some u:=⟨λ h=>h.at_⟩
theorem A8.le.refl (F:A8):F.le F:=λ _ _ h=>h
theorem A8.le.trans {F G H:A8}(h:F.le G)(k:G.le H):F.le H:=λ a u x=>k a u (h a u x)
def Oth.Is :Oth->Value->Prop
 | .fn g,v=>v= .func (.func g) #[] #[]
 | .np,v=>v= .pointer none
 | .nm,v=>v= .map none
 | .ni,v=>v= .nilIface
 | .jk,v=>∃q,v= .pointer q
theorem Oth.one {x:Oth}{v:Value}(h:x.Is v):v.oneCell'=true/\v.cells= #[v]:=by
 cases x<;>simp only [Oth.Is]at h
 case jk=>obtain⟨q,rfl⟩:=h;exact⟨rfl,rfl⟩
 all_goals subst h;exact⟨rfl,rfl⟩
inductive DR (F:A8):D->Value->Prop where
 |int (k:IntKind)(n:Int):DR F (.int k n) (.int k n)
 |bool (b:Bool):DR F (.bool b) (.bool b)
 |str (s:List UInt8):DR F (.str s) (.string ⟨s.toArray⟩)
 |vs (sz:Nat)(rows:List (List D))(a:Option Addr)(cap:Nat)(ad:Addr)(u:Nat->Nat->Value)(bM:rows.length<=cap)(ha:rows≠[]->a=some ad)
   (aL:∀r∈rows,r.length=sz)
   (hf:∀(i:Nat)(r:List D)(j:Nat)(x:D),rows[i]? =some r->r[j]? =some x->F (ad.add (i*sz+j)) (u i j))
   (hd:∀(i:Nat)(r:List D)(j:Nat)(x:D),rows[i]? =some r->r[j]? =some x->DR F x (u i j)):DR F (.vs sz rows) (.slice a rows.length cap)
 |nil (sz:Nat):DR F (.nil sz) (.slice none 0 0)
 |ot (x:Oth)(v:Value)(h:x.Is v):DR F (.ot x) v
theorem DR.mono {F F':A8}(hF:F.le F'){d:D}{v:Value}(h:DR F d v):DR F' d v:=by
 induction h with
 |int k n=>exact .int k n
 |bool b=>exact .bool b
 |str s=>exact .str s
 |vs sz rows a cap ad u bM ha aL hf hd ih=>exact .vs sz rows a cap ad u bM ha aL (λ i r j x h1 h2=>hF _ _ (hf i r j x h1 h2)) ih
 |nil sz=>exact .nil sz
 |ot x v h=>exact .ot x v h
theorem DR.of_flat {F F':A8}{d:D}{v:Value}(h:DR F d v)(hd:d.flat=true):DR F' d v:=by
 cases h with
 |int k n=>exact .int k n
 |bool b=>exact .bool b
 |str s=>exact .str s
 |vs=>simp [D.flat]at hd
 |nil sz=>exact .nil sz
 |ot x v h=>exact .ot x v h
inductive C9 {α β:Type}(R:α->β->Prop):List α->List β->Prop where
 |nil:C9 R [] []
 |cons {a:α}{b:β}{as:List α}{bs:List β}:R a b->C9 R as bs->C9 R (a::as) (b::bs)
section
variable {α β : Type} {R S : α -> β -> Prop} {l : List α} {m : List β}
theorem C9.imp (h:C9 R l m)(f:∀a b,R a b->S a b):C9 S l m:=by
 induction h with
 |nil=>exact .nil
 |cons h _ ih=>exact .cons (f _ _ h) ih
theorem C9.length (h:C9 R l m):l.length=m.length:=by
 induction h with
 |nil=>rfl
 |cons _ _ ih=>simp [ih]
theorem C9.get? (h:C9 R l m):∀(i:Nat)(a:α),l[i]? =some a->∃b,m[i]? =some b/\R a b:=by
 induction h with
 |nil=>intro i a h;simp at h
 | @cons a b as bs eP _ ih=>
  intro i x hx;cases i with
  |zero=>simp at hx;subst hx;exact⟨b,rfl,eP⟩
  |succ i=>exact ih i x (by simpa using hx)
theorem C9.drop (h:C9 R l m)(n:Nat):C9 R (l.drop n) (m.drop n):=by
 induction h generalizing n with
 |nil=>simp;exact .nil
 |cons eP h ih=>cases n with
  |zero=>exact .cons eP h
  |succ n=>exact ih n
theorem C9.take (h:C9 R l m)(n:Nat):C9 R (l.take n) (m.take n):=by
 induction h generalizing n with
 |nil=>simp;exact .nil
 |cons eP h ih=>cases n with
  |zero=>exact .nil
  |succ n=>exact .cons eP (ih n)
theorem C9.append {l':List α}{m':List β}(h:C9 R l m)(h':C9 R l' m'):C9 R (l++l') (m++m'):=by
 induction h with
 |nil=>exact h'
 |cons eP _ ih=>exact .cons eP ih
theorem C9.of_get {R:α->β->Prop}{l:List α}{m:List β}(hl:l.length=m.length)(h:∀(i:Nat)(a:α),l[i]? =some a->∃b,m[i]? =some b/\R a b):C9 R l m:=by
 induction l generalizing m with
 |nil=>cases m with
  |nil=>exact .nil
  |cons b m=>simp at hl
 |cons a l ih=>cases m with
  |nil=>simp at hl
  |cons b m=>
   obtain⟨b',hb,hr⟩:=h 0 a rfl;simp at hb;subst hb;exact .cons hr (ih (by simpa using hl) λ i x hx=>by simpa using h (i+1) x (by simpa using hx))
end
def RR (F:A8):AV->Value->Prop
 | .c d,v=>DR F d v
 | .agg cs,v=>∃vs:List Value,v= .agg vs.toArray/\C9 (DR F) cs vs
 | .ot x,v=>x.Is v
 |_,_=>False
theorem RR.mono {F F':A8}(hF:F.le F'){x:AV}{v:Value}(h:RR F x v):RR F' x v:=by
 cases x<;>simp only [RR]at h ⊢
 ·exact h.mono hF
 ·obtain⟨vs,rfl,h⟩:=h;exact⟨vs,rfl,h.imp λ _ _ h=>h.mono hF⟩
 ·exact h
theorem RR.of_flat {F F':A8}{x:AV}{v:Value}(h:RR F x v)(hx:x.flat=true):RR F' x v:=by
 cases x<;>simp only [RR]at h ⊢
 ·exact h.of_flat (by simpa [AV.flat]using hx)
 ·obtain⟨vs,rfl,h⟩:=h;refine⟨vs,rfl,?_⟩;simp only [AV.flat,B6q]at hx;exact C9.of_get h.length λ i a ha=>by
   obtain⟨b,hb,hr⟩:=h.get? i a ha;exact⟨b,hb,hr.of_flat (hx _ (B6t ha))⟩
 ·exact h
structure N4 where
 g:Nat
 sz:Nat
 cap:Nat
 o:Nat
abbrev Map :=Nat->Option N4
def SlR (ρ:Map)(key start len:Nat)(v:Value):Prop:=
 match ρ key with
 |none=>len=0/\v= .slice none 0 0
 |some p=>start+len<=p.cap/\∃a,v= .slice a len (p.cap-start)/\(0<len\/start=0->a=some ⟨p.g,p.o+start*p.sz,none⟩)
def AR1 (F:A8)(ρ:Map)(ob:OL):AV->Value->Prop
 | .c d,v=>DR F d v
 | .agg cs,v=>∃vs:List Value,v= .agg vs.toArray/\C9 (DR F) cs vs
 | .nil _,v=>v= .slice none 0 0
 | .sl key ver start len,v=>key<MK/\∀o,get ob key=some o->ver<=o.rows.length/\(o.rows.length=ver->start+len<=ver->SlR ρ key start len v)
 | .loc key row off,v=>key<MK/\∀o,get ob key=some o->∃p,ρ key=some p/\v= .pointer (some ⟨p.g,p.o+row*p.sz+off,none⟩)
 | .vp row off,v=>∃(ad:Addr)(u:Nat->Value),v= .pointer (some (ad.add off))/\∀(j:Nat)(x:D),row[j]? =some x->F (ad.add j) (u j)/\DR F x (u j)
 | .ot x,v=>x.Is v
 | .mp key,v=>MK<=key/\key<2*MK/\∀o,get ob key=some o->∃p,ρ key=some p/\v= .map (some p.g)
 | .itr key,v=>2*MK<=key/\∀o,get ob key=some o->∃p,ρ key=some p/\v= .pointer (some ⟨p.g,0,none⟩)
 | .tup _,_=>False
 | .ags _,_=>False
 | .clo _ _,_=>False
def AR (F:A8)(ρ:Map)(ob:OL):AV->Value->Prop
 | .tup vs,v=>∃ws:List Value,v= .tuple ws.toArray/\C9 (AR1 F ρ ob) vs ws
 | .ags cs,v=>∃vs:List Value,v= .agg vs.toArray/\C9 (AR1 F ρ ob) cs vs/\∀u∈vs,u.oneCell'=true
 | .clo g cs,v=>∃vs:List Value,v= .func (.func g) #[] vs.toArray/\C9 (AR1 F ρ ob) cs vs
 |x,v=>AR1 F ρ ob x v
theorem AR.of1 {F:A8}{ρ:Map}{ob:OL}{x:AV}{v:Value}(h:AR1 F ρ ob x v):AR F ρ ob x v:=by
 cases x<;>first|exact h|exact h.elim
theorem AR.to1 {F:A8}{ρ:Map}{ob:OL}{x:AV}{v:Value}(hx:x.isD=true)(h:AR F ρ ob x v):AR1 F ρ ob x v:=by
 cases x<;>first|exact h|simp [AV.isD]at hx
def AV.all1 (q:AV->Prop):AV->Prop
 | .tup vs=>∀y∈vs,q y
 | .ags vs=>∀y∈vs,q y
 | .clo _ vs=>∀y∈vs,q y
 |x=>q x
theorem AR.lift {F F':A8}{ρ ρ':Map}{ob aA:OL}{x:AV}{v:Value}(q:AV->Prop)(hq:x.all1 q)(h1:∀y u,q y->AR1 F ρ ob y u->AR1 F' ρ' aA y u)(h:AR F ρ ob x v):AR F' ρ' aA x v:=by
 have key:∀{vs:List AV}{ws:List Value},(∀y∈vs,q y)->C9 (AR1 F ρ ob) vs ws->C9 (AR1 F' ρ' aA) vs ws:=by
  intro vs ws hv h
  induction h with
  |nil=>exact .nil
  |cons ha hr ih=>exact .cons (h1 _ _ (hv _ (by simp)) ha) (ih λ y hy=>hv y (by simp [hy]))
 cases x
 case tup vs=>
  obtain⟨ws,rfl,h⟩:=h;exact⟨ws,rfl,key hq h⟩
 case ags vs=>
  obtain⟨ws,rfl,h,h2⟩:=h;exact⟨ws,rfl,key hq h,h2⟩
 case clo g vs=>
  obtain⟨ws,rfl,h⟩:=h;exact⟨ws,rfl,key hq h⟩
 all_goals exact h1 _ _ hq h
theorem AV.all1_true (x:AV):x.all1 λ _=>True:=by cases x<;>simp [AV.all1]
theorem AV.all1_names {key:Nat}{x:AV}(h:x.names key=false):x.all1 λ y=>y.names1 key=false:=by
 cases x<;>simpa [AV.all1,AV.names]using h
theorem AV.all1_isLoc {key:Nat}{x:AV}(h:x.isLoc key=false):x.all1 λ y=>y.isLoc1 key=false:=by
 cases x<;>simpa [AV.all1,AV.isLoc]using h
def Brm (F:A8)(ρ:Map)(ob:OL)(b:Option Go.Obj)(o:Obj)(p:N4):Prop:=
 o.rows.length<=p.cap/\p.sz=o.sz/\(∀r∈o.rows,r.length=p.sz)/\
  ∃cs et,b=some (.cells cs et (0,0))/\cs.size=p.o+p.cap*p.sz/\
   ∀(i:Nat)(r:List AV)(j:Nat)(x:AV),o.rows[i]? =some r->r[j]? =some x->x.one=true/\∃u,cs[p.o+i*p.sz+j]? =some u/\AR F ρ ob x u
def Bye (F:A8)(ρ:Map)(ob:OL)(b:Option Go.Obj)(o:Obj):Prop:=
 ∃es:Array MapEntry,b=some (.map es o.sz)/\es.size=o.rows.length/\(es.toList.map (·.born)).Nodup/\(∀e∈es.toList,e.born<o.sz)/\
  ∀(i:Nat)(r:List AV),o.rows[i]? =some r->∃e k v,es[i]? =some e/\r=[.c (.int .i64 e.born),k,v]/\AR F ρ ob k e.key/\AR F ρ ob v e.val
def Byf (F:A8)(ρ:Map)(ob:OL)(b:Option Go.Obj)(o:Obj):Prop:=
 ∃x,b=some x/\((o.rows=[[.ot .nm]]/\x= .mapIter none 0 #[] 0)\/
  ∃(mk since:Nat)(seen:List Nat)(g:Nat),o.rows=[.mp mk,.c (.int .i64 since)]::seen.map (λ b=>[.c (.int .i64 b)])/\AR F ρ ob (.mp mk) (.map (some g))/\x= .mapIter (some g) since seen.toArray o.sz)
def B1x (b:Option Go.Obj)(key:Nat)(p:N4):Prop:=KT<=key->p.o=0/\∀cs et fz,b=some (.cells cs et fz)->et+1=key/KT
def Aph (F:A8)(ρ:Map)(ob:OL)(b:Option Go.Obj)(key:Nat)(o:Obj)(p:N4):Prop:=
 (key<MK->Brm F ρ ob b o p/\B1x b key p)/\(MK<=key->key<2*MK->Bye F ρ ob b o)/\(2*MK<=key->Byf F ρ ob b o)
theorem Aph.imp {F F':A8}{ρ ρ':Map}{ob aA:OL}{b:Option Go.Obj}{key:Nat}{o:Obj}{p:N4}(h:Aph F ρ ob b key o p)(hx:∀r∈o.rows,∀x∈r,∀v,AR F ρ ob x v->AR F' ρ' aA x v):Aph F' ρ' aA b key o p:=by
 refine⟨λ hk=> ?_,λ hk cG=> ?_,λ hk=> ?_⟩
 ·obtain⟨⟨g2,g3,g4,cs,et,hh,g5,g6⟩,dA⟩:=h.1 hk;refine⟨⟨g2,g3,g4,cs,et,hh,g5,λ i r j x hi hj=> ?_⟩,dA⟩
  obtain⟨h1,u,h2,h3⟩:=g6 i r j x hi hj;exact⟨h1,u,h2,hx r (B6t hi) x (B6t hj) u h3⟩
 ·obtain⟨es,hh,g1,g2,g3,g4⟩:=h.2.1 hk cG;refine⟨es,hh,g1,g2,g3,λ i r hi=> ?_⟩
  obtain⟨e,k,v,h1,rfl,h3,h4⟩:=g4 i r hi;exact⟨e,k,v,h1,rfl,hx _ (B6t hi) k (by simp) _ h3,hx _ (B6t hi) v (by simp) _ h4⟩
 ·obtain⟨x,hb,h1|⟨mk,since,seen,g,h1,h2,h3⟩⟩:=h.2.2 hk
  ·exact⟨x,hb,.inl h1⟩
  ·exact⟨x,hb,.inr ⟨mk,since,seen,g,h1,hx _ (by rw [h1];exact List.mem_cons_self) _ (by simp) _ h2,h3⟩⟩
theorem Aph.some {F:A8}{ρ:Map}{ob:OL}{b:Option Go.Obj}{key:Nat}{o:Obj}{p:N4}(h:Aph F ρ ob b key o p):∃x,b=some x:=by
 rcases B7f key MK with hk|hk
 ·obtain⟨⟨_,_,_,cs,et,hh,_⟩,_⟩:=h.1 hk;exact⟨_,hh⟩
 ·rcases B7f key (2*MK)with cG|cG
  ·obtain⟨es,hh,_⟩:=h.2.1 hk cG;exact⟨_,hh⟩
  ·obtain⟨x,hh,_⟩:=h.2.2 cG;exact⟨_,hh⟩
structure T0 (B:Bd)(F:A8)(ρ:Map)(ob:OL)(w:World):Prop where
 facts:F.ok w
 big:Big B w.heap.size
 bare:∀key o,get ob key=some o->ρ key=none->o.rows=[]
 own:∀key o p,get ob key=some o->ρ key=some p->¬B p.g/\Aph F ρ ob w.heap[p.g]? key o p
 apart:∀key o p,get ob key=some o->ρ key=some p->∀a u,F a u->a.block≠p.g
 inj:∀key o p key' o' p',get ob key=some o->ρ key=some p->get ob key'=some o'->ρ key'=some p'->p.g=p'.g->key=key'
theorem T0.cells {B:Bd}{F:A8}{ρ:Map}{ob:OL}{w:World}(hm:T0 B F ρ ob w){key:Nat}{o:Obj}{p:N4}(hk:key<MK)(h1:get ob key=some o)(h2:ρ key=some p):¬B p.g/\Brm F ρ ob w.heap[p.g]? o p:=
 ⟨(hm.own key o p h1 h2).1,((hm.own key o p h1 h2).2.1 hk).1⟩
theorem T0.typed {B:Bd}{F:A8}{ρ:Map}{ob:OL}{w:World}(hm:T0 B F ρ ob w){key:Nat}{o:Obj}{p:N4}(hk:key<MK)(h1:get ob key=some o)(h2:ρ key=some p):KT<=key->∀cs et fz,w.heap[p.g]? =some (.cells cs et fz)->et+1=key/KT:=λ h=>(((hm.own key o p h1 h2).2.1 hk).2 h).2
theorem T0.typed0 {B:Bd}{F:A8}{ρ:Map}{ob:OL}{w:World}(hm:T0 B F ρ ob w){key:Nat}{o:Obj}{p:N4}(hk:key<MK)(h1:get ob key=some o)(h2:ρ key=some p):KT<=key->p.o=0:=λ h=>(((hm.own key o p h1 h2).2.1 hk).2 h).1
def Fr (F:A8)(ρ:Map)(ob:OL)(fr:FL)(a:Go.Act):Prop:=
 ∀i v,get fr i=some v->AR F ρ ob v (a.tmps.getD i undef)
theorem AR1.mono {F F':A8}{ρ:Map}{ob:OL}(hF:F.le F'){x:AV}{v:Value}(h:AR1 F ρ ob x v):AR1 F' ρ ob x v:=by
 cases x<;>simp only [AR1]at h ⊢
 ·exact h.mono hF
 ·obtain⟨vs,rfl,h⟩:=h;exact⟨vs,rfl,h.imp λ _ _ h=>h.mono hF⟩
 ·exact h
 ·exact h
 ·exact h
 ·obtain⟨ad,u,rfl,h⟩:=h;exact⟨ad,u,rfl,λ j x hx=>⟨hF _ _ (h j x hx).1,(h j x hx).2.mono hF⟩⟩
 ·exact h
 ·exact h
 ·exact h
theorem AR.mono {F F':A8}{ρ:Map}{ob:OL}(hF:F.le F'){x:AV}{v:Value}(h:AR F ρ ob x v):AR F' ρ ob x v:=
 h.lift _ x.all1_true λ _ _ _ h=>h.mono hF
theorem AR1.of_RR {F:A8}{ρ:Map}{ob:OL}{x:AV}{v:Value}(h:RR F x v):AR1 F ρ ob x v:=by
 cases x<;>first|exact h|exact h.elim
theorem AR.of_RR {F:A8}{ρ:Map}{ob:OL}{x:AV}{v:Value}(h:RR F x v):AR F ρ ob x v:=by
 cases x<;>first|exact h|exact h.elim
theorem B3 {α:Type}(l:List (Nat×α))(k i:Nat):get (del l k) i=if i=k then none else get l i:=by
 induction l with
 |nil=>simp [del,get]
 |cons p l ih=>
  grind [del,get]
theorem G2 {α:Type}(l:List (Nat×α))(k i:Nat)(v:α):get ((k,v)::l) i=if k=i then some v else get l i:=rfl
theorem Aew {α:Type}(l:List (Nat×α)):∀(ks:List Nat)(i:Nat)(v:α),get (keep ks l) i=some v->get l i=some v
 |[],i,v,h=>by simp [keep,get]at h
 |k::ks,i,v,h=>by
  simp only [keep]at h;cases hk:get l k with
  |none=>rw [hk]at h;exact Aew l ks i v h
  |some x=>
   rw [hk]at h;simp only [A17,get]at h;by_cases zZ:k=i
   ·rw [B6l zZ]at h;subst zZ;rw [hk];exact h
   ·rw [B6j zZ]at h;exact Aew l ks i v h
theorem J2 (s:St)(key:Nat)(r:Obj)(i:Nat):get (s.obj key r).ob i=if key=i then some r else get s.ob i:=by
 grind [St.obj,G2,B3]
end Go.Am
namespace Go.Am
open Go.RowKit
def Byg :Oth->Value->Bool
 | .np,.pointer none=>true
 | .nm,.map none=>true
 | .ni,.nilIface=>true
 |_,_=>false
theorem Awl {x:Oth}{v:Value}(h:Byg x v=true):x.Is v:=by
 unfold Byg at h;split at h<;>first|rfl|simp at h
def Byh :D->Value->Bool
 | .int k n,.int k' n'=>decide (k=k')&&decide (n=n')
 | .bool b,.bool b'=>b==b'
 | .str s,.string t=>decide (t.data.toList=s)
 | .vs _ [],.slice none 0 0=>true
 | .nil _,.slice none 0 0=>true
 | .ot x,v=>Byg x v
 |_,_=>false
def Awm :List D->List Value->Bool
 |[],[]=>true
 |d::ds,v::vs=>Byh d v&&Awm ds vs
 |_,_=>false
def cst :AV->Value->Bool
 | .c d,v=>Byh d v
 | .agg ds,.agg vs=>Awm ds vs.toList
 | .nil _,.slice none 0 0=>true
 | .ot x,v=>Byg x v
 |_,_=>false
theorem Awn {F:A8}{d:D}{v:Value}(h:Byh d v=true):DR F d v:=by
 unfold Byh at h;split at h
 ·simp at h;obtain⟨rfl,rfl⟩:=h;exact .int _ _
 ·simp at h;subst h;exact .bool _
 ·simp at h;subst h;exact .str _
 ·exact .vs _ [] none 0 ⟨0,0,none⟩ (λ _ _=>undef) (by simp) (by simp) (by simp) (by simp) (by simp)
 ·exact .nil _
 ·exact .ot _ _ (Awl h)
 ·simp at h
theorem Afj {F:A8}:∀{ds:List D}{vs:List Value},Awm ds vs=true->C9 (DR F) ds vs
 |[],[],_=> .nil
 |d::ds,v::vs,h=>by
  simp only [Awm,B6h]at h;exact .cons (Awn h.1) (Afj h.2)
 |[],_::_,h=>by simp [Awm]at h
 |_::_,[],h=>by simp [Awm]at h
theorem Asb {F:A8}{ρ:Map}{ob:OL}{x:AV}{v:Value}(h:cst x v=true):AR F ρ ob x v:=by
 unfold cst at h;split at h
 ·exact Awn h
 ·rename_i ds vs;exact⟨vs.toList,by simp,Afj h⟩
 ·rfl
 ·exact Awl h
 ·simp at h
def M3 :Operand->J8->Bool
 | .tmp n,.t m=>n==m
 | .const v,.k d=>cst d v
 | .func f,.k (.ot (.fn g))=>f==g
 |_,_=>false
theorem A2 {F:A8}{ρ:Map}{s:St}{a:Go.Act}(hf:Fr F ρ s.ob s.fr a){x:Operand}{y:J8}(hc:M3 x y=true){v:AV}(h:s.opd y=some v):AR F ρ s.ob v (a.eval x):=by
 unfold M3 at hc;split at hc
 ·simp at hc;subst hc;exact hf _ _ h
 ·simp only [St.opd,B6g]at h;subst h;exact Asb hc
 ·simp only [St.opd,B6g]at h;subst h;simp at hc;subst hc;rfl
 ·simp at hc
def Abr (P:Program)(o:Oper)(a:Go.Act)(w:World)(R:Value->World->Prop):Prop:=
 ∀(next:Go.Act->World->Prop)(Q:Exit->Go.Act->World->Prop),(∀u w',R u w'->next (a.put o.dst u) w')->o.wp P a w next Q
theorem C5 {P:Program}{o:Oper}{a:Go.Act}{w w':World}{u:Value}{R:Value->World->Prop}(h:(execOp a.eval o).run P w= .ok (.value u) w')(hR:R u w'):Abr P o a w R:=by
 intro next Q hn;unfold Oper.wp;rw [h];exact hn _ _ hR
theorem Alo {P:Program}{o:Oper}{a:Go.Act}{w w':World}{R:Value->World->Prop}(h:(execOp a.eval o).run P w= .ok .skip w')(hR:R undef w'):Abr P o a w R:=by
 intro next Q hn;unfold Oper.wp;rw [h];exact hn _ _ hR
theorem A2q {P:Program}{o:Oper}{a:Go.Act}{w w':World}{f:FuncId}{args:Array Value}{R:Value->World->Prop}(h:(execOp a.eval o).run P w= .ok (.enter f args) w')
  (hc:Calls P f args w' λ e w''=>∃v,e= .returned v/\R v w''):Abr P o a w R:=by
 intro next Q hn;unfold Oper.wp;rw [h];refine Calls.mono hc ?_;rintro e w'' ⟨v,rfl,hR⟩;exact hn _ _ hR
def A6v (P:Program)(t:TypeId):Bool:=
 match P.underlying t with
 |some (.struct _)|some (.array _ _)=>false
 |some _=>true
 |none=>false
def Aa0 (P:Program)(t:TypeId):Bool:=
 match P.underlying t with
 |some (.struct _)|some (.array _ _)=>true
 |_=>false
def Abw (P:Program)(t:TypeId)(sz:Nat):Bool:=match P.info? t with|some i=>i.size==sz|none=>false
def Avh (P:Program)(t:TypeId)(ag:Bool):Bool:=if ag then Aa0 P t else A6v P t
def Bl5 (P:Program)(t:TypeId):Bool:=match P.underlying t with|some .string=>true|_=>false
def Byi (P:Program)(t:TypeId):Bool:=match P.underlying t with|some (.slice _)=>true|_=>false
def Bup (P:Program)(t:TypeId)(sz:Nat):Bool:=match P.underlying t with|some (.slice e)=>(match P.info? e with|some i=>i.size==sz|none=>false)|_=>false
theorem Awo {P:Program}{t:TypeId}(h:Bl5 P t=true):P.underlying t=some .string:=by
 grind [Bl5]
theorem A2r {P:Program}{t:TypeId}(h:Byi P t=true):∃e,P.underlying t=some (.slice e):=by
 grind [Byi]
theorem Ad5 {P:Program}{t:TypeId}{sz:Nat}(h:Bup P t sz=true):∃e i,P.underlying t=some (.slice e)/\P.info? e=some i/\i.size=sz:=by
 grind [Bup]
theorem Ah6 {P:Program}{t:TypeId}{sz:Nat}(h:Abw P t sz=true):∃i,P.info? t=some i/\i.size=sz:=by
 grind [Abw]
theorem X7 {P:Program}{t:TypeId}{sz:Nat}(h:Abw P t sz=true)(w:World):(sizeOf t).run P w= .ok sz w:=by
 obtain⟨i,hi,rfl⟩:=Ah6 h;simp [sizeOf,typeInfo,hi]
theorem T1 {P:Program}{t:TypeId}{ag:Bool}(h:Avh P t ag=true)(w:World):(isAgg t).run P w= .ok ag w:=by
 unfold Avh at h;cases ag
 ·simp only [B6p,B7d,A6v]at h;split at h
  ·simp at h
  ·simp at h
  ·rename_i d h1 h2 hu;simp only [isAgg,underlying];simp [hu]
  ·simp at h
 ·simp only [B68,Aa0]at h;split at h
  ·rename_i hu;simp [isAgg,underlying,hu]
  ·rename_i hu;simp [isAgg,underlying,hu]
  ·simp at h
section
variable {P : Program} {F : A8} {ρ : Map} {s : St} {a : Go.Act} {w : World} {o : Oper}
theorem DR.int_ {F:A8}{k:IntKind}{n:Int}{v:Value}(h:DR F (.int k n) v):v= .int k n:=by cases h;rfl
theorem DR.bool_ {F:A8}{b:Bool}{v:Value}(h:DR F (.bool b) v):v= .bool b:=by cases h;rfl
theorem DR.str_ {F:A8}{l:List UInt8}{v:Value}(h:DR F (.str l) v):v= .string ⟨l.toArray⟩:=by cases h;rfl
def Azv (o:Oper)(x:J8):Bool:=match o.op with| .move y| .assign y=>M3 y x|_=>false
theorem A9b {x:J8}{v:AV}(hf:Fr F ρ s.ob s.fr a)(hc:Azv o x=true)(h:s.opd x=some v):Abr P o a w λ u w'=>w'=w/\AR F ρ s.ob v u:=by
 unfold Azv at hc;split at hc
 ·rename_i y aK;exact C5 (w':=w) (u:=a.eval y) (by simp [execOp,aK]) ⟨rfl,A2 hf hc h⟩
 ·rename_i y aK;exact C5 (w':=w) (u:=a.eval y) (by simp [execOp,aK]) ⟨rfl,A2 hf hc h⟩
 ·simp at hc
def A51 (o:Oper)(c x y:J8):Bool:=match o.op with| .pick c' x' y'=>M3 c' c&&M3 x' x&&M3 y' y|_=>false
theorem Bh1 {c x y:J8}{t:Bool}{v:AV}(hf:Fr F ρ s.ob s.fr a)(hc:A51 o c x y=true)(h1:s.opd c=some (.c (.bool t)))(h:s.opd (if t then x else y)=some v):
  Abr P o a w λ u w'=>w'=w/\AR F ρ s.ob v u:=by
 unfold A51 at hc;split at hc
 ·rename_i c' x' y' aK;simp only [B6h]at hc;have hb:=DR.bool_ (A2 hf hc.1.1 h1);cases t
  ·exact C5 (w':=w) (u:=a.eval y') (by simp [execOp,aK,hb,asBool]) ⟨rfl,A2 hf hc.2 h⟩
  ·exact C5 (w':=w) (u:=a.eval x') (by simp [execOp,aK,hb,asBool]) ⟨rfl,A2 hf hc.1.2 h⟩
 ·simp at hc
theorem Bm9 {op:BinOp}{k:IntKind}{x y:Int}{d:D}(t:TypeId)(h:Af7 op k x y=some d):∃u,(Go.binOp op t (.int k x) (.int k y)).run P w= .ok u w/\DR F d u:=by
 cases op<;>simp only [Af7,Bfs,B7h,B8t,B6g,reduceCtorEq]at h
 case and=>subst h;exact⟨_,by simp only [Go.binOp,ne_eq,not_true_eq_false,B7d];rfl,.int _ _⟩
 case or=>subst h;exact⟨_,by simp only [Go.binOp,ne_eq,not_true_eq_false,B7d];rfl,.int _ _⟩
 case xor=>subst h;exact⟨_,by simp only [Go.binOp,ne_eq,not_true_eq_false,B7d];rfl,.int _ _⟩
 case andNot=>subst h;exact⟨_,by simp only [Go.binOp,ne_eq,not_true_eq_false,B7d];rfl,.int _ _⟩
 case quo=>
  split at h
  ·simp at h
  ·rename_i hy;simp only [B6g]at h;subst h;exact⟨_,by simp [Go.binOp,Op.intDiv,hy,Ac0,Bl1],.int _ _⟩
 case rem=>
  split at h
  ·simp at h
  ·rename_i hy;simp only [B6g]at h;subst h;exact⟨_,by simp [Go.binOp,Op.intDiv,hy,Bl2],.int _ _⟩
 all_goals
  subst h
  first
   |exact⟨_,by simp [Go.binOp,Op.intArith,Ac0],.int _ _⟩
   |exact⟨_,by simp only [Go.binOp,ne_eq,not_true_eq_false,B7d];rfl,.bool _⟩
theorem Bna {op:BinOp}{x y:List UInt8}{d:D}(t:TypeId)(h:A5z op x y=some d):∃u,(Go.binOp op t (.string ⟨x.toArray⟩) (.string ⟨y.toArray⟩)).run P w= .ok u w/\DR F d u:=by
 unfold A5z at h;have aL:∀l:List UInt8,(ByteArray.mk l.toArray).size=l.length:=λ l=>by simp [ByteArray.size]
 have happ:(ByteArray.mk x.toArray++ByteArray.mk y.toArray)=⟨(x++y).toArray⟩:=by
  apply ByteArray.ext;simp
 cases op<;>simp only []at h
 case add=>
  split at h
  ·rename_i hl;simp at h;subst h;refine⟨.string ⟨(x++y).toArray⟩,?_,.str _⟩;simp only [Go.binOp,Op.stringOp,aL];rw [B6j (by simp only [IntKind.max,IntKind.signed,IntKind.bits];unfold Bea at hl;simp;omega),happ]
   rfl
  ·simp at h
 all_goals first
  |(simp at h;done)
  |(simp only [B6g]at h;subst h
    have heq:(x==y)=decide (x=y):=by rw [Bool.eq_iff_iff];simp
    exact⟨_,by simp only [Go.binOp,Op.stringOp,ByteArray.toList_mk,heq];rfl,.bool _⟩)
def Abx (P:Program):Nat->TypeId->Option (List Kd)
 |0,_=>none
 |n+1,t=>match P.underlying t with
  |some .bool=>some [.bool]
  |some (.int k)=>some [.int k]
  |some .string=>some [.str]
  |some (.struct fs)=>if P.stoodInHeld t then none else kindsF (λ u=>match Abx P n u with
    |some ks=>if Abw P u ks.length&& !ks.isEmpty then some ks else none
    |none=>none) fs.toList 0
  |some (.array m e)=>match Abx P n e with
   |some ks=>if Abw P e ks.length&& !ks.isEmpty then some (List.replicate m ks).flatten else none
   |none=>none
  |_=>none
where kindsF (g:TypeId->Option (List Kd)):List Field->Nat->Option (List Kd)
 |[],_=>some []
 |f::fs,off=>if f.name != "_" &&f.offset==off then match g f.type with
   |some ks=>(kindsF g fs (off+ks.length)).map (ks++ ·)
   |none=>none
  else none
end
section
variable {P : Program} {F : A8} {ρ : Map} {s : St} {a : Go.Act} {w : World} {o : Oper}
theorem L4 :∀{ks:List Kd}{l m:List D}{b:Bool},L9 ks l m=some b->l.length=ks.length/\m.length=ks.length
 |[],[],[],_,_=>⟨rfl,rfl⟩
 |k::ks,x::xs,y::ys,b,h=>by
  simp only [L9]at h;split at h
  ·rename_i p q hp hq;have:=L4 hq;simp [this.1,this.2]
  ·simp at h
 |[],_::_,_,_,h=>by simp [L9]at h
 |[],[],_::_,_,h=>by simp [L9]at h
 |_::_,[],_,_,h=>by simp [L9]at h
 |_::_,_::_,[],_,h=>by simp [L9]at h
theorem Akj :∀{k1 k2:List Kd}{l m:List D}{b:Bool},L9 (k1++k2) l m=some b->
  ∃e r,L9 k1 (l.take k1.length) (m.take k1.length)=some e/\L9 k2 (l.drop k1.length) (m.drop k1.length)=some r/\b=(e&&r)
 |[],k2,l,m,b,h=>⟨true,b,by simp [L9],by simpa using h,by simp⟩
 |k::k1,k2,x::l,y::m,b,h=>by
  simp only [B7i,L9]at h;split at h
  ·rename_i p q hp hq;obtain⟨e,r,h1,h2,rfl⟩:=Akj hq;grind [L9]
  ·simp at h
 |k::k1,k2,[],m,b,h=>by simp [L9]at h
 |k::k1,k2,_::_,[],b,h=>by simp [L9]at h
def Ac2 (P:Program)(t:TypeId)(vs:List Value):Value:=if Aa0 P t then .agg vs.toArray else vs.getD 0 undef
theorem Ah7 {t:TypeId}{sz off:Nat}(h1:P.underlying t≠none)(h2:Abw P t sz=true)(vs:List Value)(w:World)(hl:off<vs.length):
  (Go.part t vs.toArray off).run P w= .ok (Ac2 P t ((vs.drop off).take (if Aa0 P t then sz else 1))) w:=by
 unfold Go.part Ac2;cases dJ:Aa0 P t
 ·have hs:Avh P t false=true:=by
   simp only [Avh,B6p,B7d,A6v];unfold Aa0 at dJ;split<;>simp_all
  simp only [Sem.run_bind,T1 hs,Result.andThen_ok,B6p,B7d];have:vs.toArray[off]? =some vs[off]:=by simp [hl]
  rw [this];simp [B7x,hl]
 ·have hs:Avh P t true=true:=by simp [Avh,dJ]
  simp only [Sem.run_bind,T1 hs,Result.andThen_ok,B68,X7 h2,Sem.run_pure];simp [List.extract_eq_take_drop]
def B1a (P:Program)(F:A8)(d:Nat)(t:TypeId)(ks:List Kd):Prop:=
 ∀(cs ds:List D)(vs us:List Value)(b:Bool)(w:World),C9 (DR F) cs vs->C9 (DR F) ds us->L9 ks cs ds=some b->(Op.equalIn d t (Ac2 P t vs) (Ac2 P t us)).run P w= .ok b w
theorem Aj1 {d:Nat}{g:TypeId->Option (List Kd)}(hg:∀u ks,g u=some ks->ks≠[]->B1a P F d u ks/\Abw P u ks.length=true/\P.underlying u≠none/\(Aa0 P u=false->ks.length=1)):
  ∀(fs:List Field)(off:Nat)(ks:List Kd),Abx.kindsF g fs off=some ks->(∀f∈fs,g f.type≠some [])->∀(cs ds:List D)(vs us:List Value)(b:Bool)(w:World),C9 (DR F) cs vs->C9 (DR F) ds us->
   L9 ks (cs.drop off) (ds.drop off)=some b->(Op.eqFields d vs.toArray us.toArray fs).run P w= .ok b w
 |[],off,ks,hk,_,cs,ds,vs,us,b,w,hv,hu,hb=>by
  simp only [Abx.kindsF,B6g]at hk;subst hk;have hl:=L4 hb;have e1:cs.drop off=[]:=B66 (by simpa using hl.1)
  have e2:ds.drop off=[]:=B66 (by simpa using hl.2)
  rw [e1,e2]at hb;simp only [L9,B6g]at hb;subst hb;simp [Op.eqFields]
 |f::fs,off,ks,hk,aH,cs,ds,vs,us,b,w,hv,hu,hb=>by
  simp only [Abx.kindsF]at hk;split at hk
  ·rename_i aI;simp only [B6h,bne_iff_ne,ne_eq,B62]at aI;obtain⟨wZ,oY⟩:=aI;split at hk
   ·rename_i k1 bG;simp only [B6m]at hk;obtain⟨k2,cG,rfl⟩:=hk;obtain⟨e,r,h1,h2,rfl⟩:=Akj hb;have tI:k1≠[]:=λ h0=>aH f (by simp) (by rw [bG,h0])
    obtain⟨hEq,aL,wC,cA⟩:=hg _ _ bG tI;have cB:0<k1.length:=B9e.2 tI;have dP:=L4 h1;have hlv:=hv.length;have uI:=hu.length;simp only [B7l,B70]at dP;simp only [Op.eqFields,wZ,ne_eq,not_false_eq_true,B68,Sem.run_bind,oY];rw [Ah7 wC aL vs w (by omega),Result.andThen_ok,Ah7 wC aL us w (by omega),Result.andThen_ok]
    have hn:(if Aa0 P f.type=true then k1.length else 1)=k1.length:=by
     grind [Aa0]
    rw [hn,hEq _ _ _ _ e w ((hv.drop off).take _) ((hu.drop off).take _) h1,Result.andThen_ok];cases e
    ·simp
    ·simp only [Bool.not_true,B6p,B7d];have:=Aj1 hg fs (off+k1.length) k2 cG (λ f hf=>aH f (by simp [hf])) cs ds vs us r w hv hu (by simpa [List.drop_drop]using h2)
     simpa using this
   ·simp at hk
  ·simp at hk
theorem An5 {F:A8}{k:Kd}{cs ds:List D}{vs us:List Value}{b:Bool}(hv:C9 (DR F) cs vs)(hu:C9 (DR F) ds us)(h:L9 [k] cs ds=some b):
  ∃x y v u,cs=[x]/\ds=[y]/\vs=[v]/\us=[u]/\DR F x v/\DR F y u/\eqK k x y=some b:=by
 have hl:=L4 h
 match cs,ds,hl.1,hl.2,hv,hu with
 |[x],[y],_,_,.cons hx .nil,.cons hy .nil=>
  grind [L9]
theorem Asc {P:Program}{n:Nat}{t:TypeId}{ks:List Kd}(h:Abx P n t=some ks):P.underlying t≠none/\(Aa0 P t=false->ks.length=1):=by
 cases n with
 |zero=>simp [Abx]at h
 |succ n=>
  grind [Abx,Aa0]
theorem Ajn {P:Program}(w:World)(d:Nat)(t:TypeId)(fs:Array Field)(xs ys:Array Value)(ht:P.underlying t=some (.struct fs))(hp:P.stoodInHeld t=false):
  (Op.equalIn (d+1) t (.agg xs) (.agg ys)).run P w=(Op.eqFields d xs ys fs.toList).run P w:=by
 have hf:P.fieldsOf t=fs:=by simp [Program.fieldsOf,ht]
 rw [run_equalIn_struct w d t xs ys (by rw [hf];exact ht) hp,hf]
theorem A7t {d:Nat}{e:TypeId}{ks:List Kd}(he:B1a P F d e ks)(aL:Abw P e ks.length=true)(wC:P.underlying e≠none)(cA:Aa0 P e=false->ks.length=1)(cB:0<ks.length):
  ∀(n i:Nat)(cs ds:List D)(vs us:List Value)(b:Bool)(w:World),C9 (DR F) cs vs->C9 (DR F) ds us->L9 (List.replicate n ks).flatten (cs.drop (i*ks.length)) (ds.drop (i*ks.length))=some b->
   (Op.eqItems d e ks.length vs.toArray us.toArray (List.range' i n)).run P w= .ok b w:=by
 intro n
 induction n with
 |zero=>
  intro i cs ds vs us b w hv hu hb;have hl:=L4 hb;simp only [List.replicate_zero,List.flatten_nil,B88]at hl hb;have e1:=B66 hl.1;have e2:=B66 hl.2;rw [e1,e2]at hb;simp only [L9,B6g]at hb;subst hb;simp [Op.eqItems]
 |succ n ih=>
  intro i cs ds vs us b w hv hu hb;rw [List.replicate_succ,B9n]at hb;obtain⟨q,r,h1,h2,rfl⟩:=Akj hb;have dP:=L4 h1;have hlv:=hv.length;have uI:=hu.length;simp only [B7l,B70]at dP;have hn:(if Aa0 P e=true then ks.length else 1)=ks.length:=by
   grind [Aa0]
  simp only [List.range'_succ,Op.eqItems,Sem.run_bind];rw [Ah7 wC aL vs w (by omega),Result.andThen_ok,Ah7 wC aL us w (by omega),Result.andThen_ok,hn,he _ _ _ _ q w ((hv.drop _).take _) ((hu.drop _).take _) h1,Result.andThen_ok]
  cases q
  ·simp
  ·simp only [Bool.not_true,B6p,B7d];have:=ih (i+1) cs ds vs us r w hv hu (by rw [B7z,B8z];simpa [List.drop_drop]using h2)
   simpa using this
theorem As7 (n:Nat):∀(t:TypeId)(ks:List Kd)(d:Nat),Abx P n t=some ks->B1a P F (d+n) t ks:=by
 induction n with
 |zero=>intro t ks d h;simp [Abx]at h
 |succ n ih=>
  intro t ks d h;have hd:d+(n+1)=d+n+1:=rfl;have h0:=h;simp only [Abx]at h;split at h
  ·rename_i ht;simp only [B6g]at h;subst h;have ha:Aa0 P t=false:=by simp [Aa0,ht]
   intro cs ds vs us b w hv hu hb;obtain⟨x,y,v,u,rfl,rfl,rfl,rfl,hx,hy,he⟩:=An5 hv hu hb;cases hx<;>cases hy<;>simp only [eqK,reduceCtorEq]at he;simp only [B6g]at he;subst he;simp only [Ac2,ha,B6p,B7d,List.getD_cons_zero];rw [hd,run_equalIn_bool' w _ t _ _ ht];rfl
  ·rename_i k ht;simp only [B6g]at h;subst h;have ha:Aa0 P t=false:=by simp [Aa0,ht]
   intro cs ds vs us b w hv hu hb;obtain⟨x,y,v,u,rfl,rfl,rfl,rfl,hx,hy,he⟩:=An5 hv hu hb;cases hx<;>cases hy<;>simp only [eqK,reduceCtorEq]at he;split at he
   ·rename_i hk;obtain⟨rfl,rfl⟩:=hk;simp only [B6g]at he;subst he;simp only [Ac2,ha,B6p,B7d,List.getD_cons_zero];rw [hd,run_equalIn_int w _ t _ _ _ _ ht];rfl
   ·simp at he
  ·rename_i ht;simp only [B6g]at h;subst h;have ha:Aa0 P t=false:=by simp [Aa0,ht]
   intro cs ds vs us b w hv hu hb;obtain⟨x,y,v,u,rfl,rfl,rfl,rfl,hx,hy,he⟩:=An5 hv hu hb;cases hx<;>cases hy<;>simp only [eqK,reduceCtorEq]at he;rename_i p q;simp only [B6g]at he;subst he;have heq:(p==q)=decide (p=q):=by rw [Bool.eq_iff_iff];simp
   simp only [Ac2,ha,B6p,B7d,List.getD_cons_zero];rw [hd,run_equalIn_string w _ t _ _ ht,ByteArray.toList_mk,ByteArray.toList_mk,heq]
  ·rename_i fs ht;split at h
   ·simp at h
   ·rename_i dB;have ha:Aa0 P t=true:=by simp [Aa0,ht]
    intro cs ds vs us b w hv hu hb;simp only [Ac2,ha,B68];rw [hd,Ajn w (d+n) t fs _ _ ht (by simpa using dB)]
    refine Aj1 ?_ fs.toList 0 ks h ?_ cs ds vs us b w hv hu (by simpa using hb)
    all_goals grind [Asc]
  ·rename_i m e ht;split at h
   ·rename_i k1 bG;split at h
    ·rename_i hs;simp only [B6g]at h;subst h;have ha:Aa0 P t=true:=by simp [Aa0,ht]
     have hk:=Asc bG;intro cs ds vs us b w hv hu hb;simp only [Ac2,ha,B68];simp only [B6h]at hs;obtain⟨i,hi,hisz⟩:=Ah6 hs.1;rw [hd,run_equalIn_array w (d+n) _ _ ht hi];have hc:P.cellsOf e=k1.length:=by simp [Program.cellsOf,hi,hisz]
     rw [hc,List.range_eq_range'];exact A7t (ih _ _ d bG) hs.1 hk.1 hk.2 (by cases k1<;>simp at hs ⊢) m 0 cs ds vs us b w hv hu (by simpa using hb)
    ·simp at h
   ·simp at h
  ·simp at h
end
end Go.Am
namespace Go.Am
open Go.RowKit
section
variable {P : Program} {B : Bd} {F : A8} {ρ : Map} {s : St} {a : Go.Act} {w : World} {o : Oper}
abbrev Ac5 (P:Program)(o:Oper)(a:Go.Act)(w:World)(F:A8)(ρ:Map)(s:St)(v:AV):Prop:=Abr P o a w λ u w'=>w'=w/\AR F ρ s.ob v u
theorem F4 {v:AV}{u:Value}(h:(execOp a.eval o).run P w= .ok (.value u) w)(hv:AR F ρ s.ob v u):Ac5 P o a w F ρ s v:=C5 h ⟨rfl,hv⟩
def Bed (o:Oper)(op:BinOp)(x y:J8):Bool:=match o.op with
 | .binOp op' t x' y' _=>decide (op'=op)&&M3 x' x&&M3 y' y
 |_=>false
theorem Bnb {op:BinOp}{x y:J8}{p q:AV}{d:D}(hf:Fr F ρ s.ob s.fr a)(hc:Bed o op x y=true)(h1:s.opd x=some p)(h2:s.opd y=some q)(h:Bx9 op p q=some d):Ac5 P o a w F ρ s (.c d):=by
 unfold Bed at hc;split at hc
 ·rename_i op' t x' y' _ aK;simp only [B6h,B6o]at hc;obtain⟨⟨rfl,hx⟩,hy⟩:=hc;have r1:=A2 hf hx h1;have r2:=A2 hf hy h2;unfold Bx9 at h;split at h
  ·rename_i k m k' n;split at h
   ·rename_i hk;subst hk;have e1:=DR.int_ r1;have e2:=DR.int_ r2;obtain⟨u,hr,hd⟩:=Bm9 (P:=P) (w:=w) (F:=F) t h;refine F4 ?_ hd;simp only [execOp,aK,Sem.run_bind,e1,e2];have hg:(eqGuard op' t x' y' (.int k m) (.int k n)).run P w= .ok () w:=by
     unfold eqGuard;split<;>simp
    rw [hg,Result.andThen_ok,hr,Result.andThen_ok,Sem.run_pure]
   ·simp at h
  ·rename_i m n;have e1:=DR.str_ r1;have e2:=DR.str_ r2;obtain⟨u,hr,hd⟩:=Bna (P:=P) (w:=w) (F:=F) t h;refine F4 ?_ hd;simp only [execOp,aK,Sem.run_bind,e1,e2];have hg:(eqGuard op' t x' y' (.string ⟨m.toArray⟩) (.string ⟨n.toArray⟩)).run P w= .ok () w:=by
    unfold eqGuard;split<;>simp
   rw [hg,Result.andThen_ok,hr,Result.andThen_ok,Sem.run_pure]
  ·simp at h
 ·simp at hc
def Brn :BinOp->Bool->Bool
 | .eql,false=>true
 | .neq,true=>true
 |_,_=>false
def Bee (P:Program)(o:Oper)(neg:Bool)(x y:J8):Bool:=match o.op with
 | .binOp op' t x' y' _=>Brn op' neg&&(match P.underlying t with|some .bool=>true|_=>false)&&M3 x' x&&M3 y' y
 |_=>false
theorem Bnc {neg:Bool}{x y:J8}{p q:Bool}(hf:Fr F ρ s.ob s.fr a)(hc:Bee P o neg x y=true)(h1:s.opd x=some (.c (.bool p)))(h2:s.opd y=some (.c (.bool q))):
  Ac5 P o a w F ρ s (.c (.bool (if neg then !decide (p=q)else decide (p=q)))):=by
 unfold Bee at hc;split at hc
 ·rename_i op' t x' y' _ aK;simp only [B6h]at hc;obtain⟨⟨⟨lU,ht⟩,hx⟩,hy⟩:=hc;split at ht
  ·rename_i gE;have e1:=DR.bool_ (A2 hf hx h1);have e2:=DR.bool_ (A2 hf hy h2);refine F4 (u:= .bool (if neg then !decide (p=q)else decide (p=q))) ?_ (.bool _)
   simp only [execOp,aK,Sem.run_bind,e1,e2];have hg:(eqGuard op' t x' y' (.bool p) (.bool q)).run P w= .ok () w:=by
    unfold eqGuard;split<;>simp
   rw [hg,Result.andThen_ok];unfold Brn at lU;split at lU
   ·simp only [Go.binOp,Op.equal,Sem.run_bind];rw [show Op.maxDepth=9999+1 from rfl,run_equalIn_bool' w 9999 t _ _ gE]
    simp;cases p<;>cases q<;>rfl
   ·simp only [Go.binOp,Op.equal,Sem.run_bind];rw [show Op.maxDepth=9999+1 from rfl,run_equalIn_bool' w 9999 t _ _ gE]
    simp;cases p<;>cases q<;>rfl
   ·simp at lU
  ·simp at ht
 ·simp at hc
def Bef (P:Program)(o:Oper)(neg:Bool)(ks:List Kd)(x y:J8):Bool:=match o.op with
 | .binOp op' t x' y' _=>Brn op' neg&&decide (Abx P 8 t=some ks)&&Aa0 P t&& !P.eqGuardType P.depth t&&M3 x' x&&M3 y' y
 |_=>false
theorem Bnd {neg:Bool}{ks:List Kd}{x y:J8}{p q:List D}{e:Bool}(hf:Fr F ρ s.ob s.fr a)(hc:Bef P o neg ks x y=true)(h1:s.opd x=some (.agg p))(h2:s.opd y=some (.agg q))(he:L9 ks p q=some e):
  Ac5 P o a w F ρ s (.c (.bool (if neg then !e else e))):=by
 unfold Bef at hc;split at hc
 ·rename_i op' t x' y' _ aK;simp only [B6h,B6o,B7b]at hc;obtain⟨⟨⟨⟨⟨lU,hk⟩,dJ⟩,hg⟩,hx⟩,hy⟩:=hc;obtain⟨vs,e1,r1⟩:=A2 hf hx h1;obtain⟨us,e2,r2⟩:=A2 hf hy h2;refine F4 (u:= .bool (if neg then !e else e)) ?_ (.bool _)
  have hE:=As7 (F:=F) 8 t ks 9992 hk p q vs us e w r1 r2 he;simp only [Ac2,dJ,B68]at hE;simp only [execOp,aK,Sem.run_bind,e1,e2];rw [run_eqGuard_agg w op' t x' y' _ _ hg,Result.andThen_ok];unfold Brn at lU;split at lU
  ·rw [run_eql_struct,hE];simp
  ·rw [run_neq_struct,hE];simp
  ·simp at lU
 ·simp at hc
def Bts (o:Oper)(op:UnOp)(x:J8):Bool:=match o.op with| .unOp op' _ x'=>decide (op'=op)&&M3 x' x|_=>false
theorem Buq {op:UnOp}{x:J8}{p:AV}{d:D}(hf:Fr F ρ s.ob s.fr a)(hc:Bts o op x=true)(h1:s.opd x=some p)(h:unV op p=some d):Ac5 P o a w F ρ s (.c d):=by
 unfold Bts at hc;split at hc
 ·rename_i op' t x' aK;simp only [B6h,B6o]at hc;obtain⟨rfl,hx⟩:=hc;have r1:=A2 hf hx h1;unfold unV at h;split at h
  ·split at h
   ·simp only [B6g]at h;subst h;refine F4 (u:=_) ?_ (.int _ _);simp [execOp,aK,DR.int_ r1,Op.unary,Op.intArith,Ac0]
   ·simp only [B6g]at h;subst h;refine F4 (u:=_) ?_ (.int _ _);simp [execOp,aK,DR.int_ r1,Op.unary,Op.intBits,B22,Ags]
   ·simp at h
  ·split at h
   ·simp only [B6g]at h;subst h;refine F4 (u:=_) ?_ (.bool _);simp [execOp,aK,DR.bool_ r1,Op.unary]
   ·simp at h
  ·simp at h
 ·simp at hc
def Beg (o:Oper)(x:J8)(i:Nat):Bool:=match o.op with| .extract x' j=>decide (j=i)&&M3 x' x|_=>false
theorem Bne {x:J8}{i:Nat}{vs:List AV}{v:AV}(hf:Fr F ρ s.ob s.fr a)(hc:Beg o x i=true)(h1:s.opd x=some (.tup vs))(h:vs[i]? =some v):Ac5 P o a w F ρ s v:=by
 unfold Beg at hc;split at hc
 ·rename_i x' j aK;simp only [B6h,B6o]at hc;obtain⟨rfl,hx⟩:=hc;obtain⟨ws,e1,r1⟩:=A2 hf hx h1;obtain⟨u,hu,hr⟩:=r1.get? _ _ h;refine F4 (u:=u) ?_ (AR.of1 hr);simp [execOp,aK,e1,Instr.extract,hu]
 ·simp at hc
theorem Awp {cs:List D}{vs:List Value}{off sz:Nat}{ag:Bool}{v:AV}{t:TypeId}(hr:C9 (DR F) cs vs)(dJ:Avh P t ag=true)(aL:Abw P t sz=true)(h:Am.part cs off sz ag=some v)(h1:ag=false->sz=1):
  ∃u,(Go.part t vs.toArray off).run P w= .ok u w/\AR F ρ s.ob v u:=by
 unfold Am.part at h;split at h
 ·rename_i cI;have aF:=hr.length;cases ag
  ·simp only [B6p,B7d,B6m]at h;obtain⟨d,hd,rfl⟩:=h;obtain⟨u,hu,gU⟩:=hr.get? _ _ hd;refine⟨u,?_,gU⟩;simp only [Go.part,Sem.run_bind,T1 dJ,Result.andThen_ok];simp [hu]
  ·simp only [B68,B6g]at h;subst h;refine⟨.agg ((vs.drop off).take sz).toArray,?_,_,rfl,(hr.drop off).take sz⟩;simp only [Go.part,Sem.run_bind,T1 dJ,Result.andThen_ok,B68,X7 aL,Sem.run_pure];simp [List.extract_eq_take_drop]
 ·simp at h
def Beh (P:Program)(o:Oper)(x:J8)(off sz:Nat)(ag:Bool):Bool:=match o.op with
 | .field t x' i=>M3 x' x&&(match P.underlying t with
  |some (.struct fs)=>match fs[i]? with
   |some f=>f.offset==off&&Abw P f.type sz&&Avh P f.type ag&&(ag||sz==1)
   |none=>false
  |_=>false)
 |_=>false
theorem Bnf {x:J8}{off sz:Nat}{ag:Bool}{cs:List D}{v:AV}(hf:Fr F ρ s.ob s.fr a)(hc:Beh P o x off sz ag=true)(h1:s.opd x=some (.agg cs))(h:Am.part cs off sz ag=some v):Ac5 P o a w F ρ s v:=by
 unfold Beh at hc;split at hc
 ·rename_i t x' i aK;simp only [B6h]at hc;obtain⟨hx,hc⟩:=hc;split at hc
  ·rename_i fs ht;split at hc
   ·rename_i f lV;simp only [B6h,B62,B7n]at hc;obtain⟨⟨⟨rfl,aL⟩,dJ⟩,uJ⟩:=hc;obtain⟨vs,e1,r1⟩:=A2 hf hx h1;obtain⟨u,hu,hr⟩:=Awp (w:=w) r1 dJ aL h (λ h0=>by simpa [h0]using uJ)
    refine F4 (u:=u) ?_ hr;simp [execOp,aK,e1,Instr.field,run_underlying ht,lV,asAgg,hu]
   ·simp at hc
  ·simp at hc
 ·simp at hc
theorem R4 {v:AV}{j:Nat}{u:Value}{ob:OL}(h:Adg v=some j)(hr:AR F ρ ob v u):∃k n,u= .int k n/\0<=n/\n.toNat=j:=by
 unfold Adg at h;split at h
 ·rename_i k n;split at h
  ·rename_i hn;simp only [B6g]at h;exact⟨k,n,DR.int_ hr,hn,h⟩
  ·simp at h
 ·simp at h
def Bei (P:Program)(o:Oper)(x i:J8)(n sz:Nat)(ag:Bool):Bool:=match o.op with
 | .index t x' i'=>M3 x' x&&M3 i' i&&(match P.underlying t with
  |some (.array m e)=>m==n&&Abw P e sz&&Avh P e ag&&(ag||sz==1)
  |_=>false)
 |_=>false
theorem Bng {x i:J8}{n sz j:Nat}{ag:Bool}{cs:List D}{p v:AV}(hf:Fr F ρ s.ob s.fr a)(hc:Bei P o x i n sz ag=true)(h1:s.opd x=some (.agg cs))(h2:s.opd i=some p)(hj:Adg p=some j)(hn:j<n)
  (h:Am.part cs (j*sz) sz ag=some v):Ac5 P o a w F ρ s v:=by
 unfold Bei at hc;split at hc
 ·rename_i t x' i' aK;simp only [B6h]at hc;obtain⟨⟨hx,hi⟩,hc⟩:=hc;split at hc
  ·rename_i m e ht;simp only [B6h,B62,B7n]at hc;obtain⟨⟨⟨rfl,aL⟩,dJ⟩,uJ⟩:=hc;obtain⟨vs,e1,r1⟩:=A2 hf hx h1;obtain⟨k,z,e2,hz,rfl⟩:=R4 hj (A2 hf hi h2);obtain⟨u,hu,hr⟩:=Awp (w:=w) r1 dJ aL h (λ h0=>by simpa [h0]using uJ)
   refine F4 (u:=u) ?_ hr;have hzm:z<(m:Int):=by omega
   simp [execOp,aK,e1,e2,Instr.index,run_underlying ht,asIntOf,hz,hzm,X7 aL,hu]
  ·simp at hc
 ·simp at hc
def Btt (F:A8)(w:World)(sz:Nat)(rows:List (List D))(v:Value):Prop:=
 ∃(x:Option Addr)(cap:Nat)(ad:Addr)(u:Nat->Nat->Value),v= .slice x rows.length cap/\rows.length<=cap/\(rows≠[]->x=some ad)/\(∀r∈rows,r.length=sz)/\
  ∀(i:Nat)(r:List D)(j:Nat)(y:D),rows[i]? =some r->r[j]? =some y->w.cell? (ad.add (i*sz+j))=some (u i j)/\DR F y (u i j)
theorem Ahh :∀{l:List AV}{ds:List D},Agx l=some ds->l.length=ds.length/\∀(j:Nat)(d:D),ds[j]? =some d->∃x,l[j]? =some x/\(x= .c d\/∃z,x= .nil z/\d= .vs z [])
 |[],ds,h=>by simp [Agx]at h;subst h;simp
 | .c d::r,ds,h=>by
  simp only [Agx,B6m]at h;obtain⟨ds',h',rfl⟩:=h;obtain⟨h1,h2⟩:=Ahh h';refine⟨by simp [h1],λ j e he=> ?_⟩
  cases j with
  |zero=>simp at he;subst he;exact⟨_,rfl,.inl rfl⟩
  |succ j=>exact h2 j e (by simpa using he)
 | .nil z::r,ds,h=>by
  simp only [Agx,B6m]at h;obtain⟨ds',h',rfl⟩:=h;obtain⟨h1,h2⟩:=Ahh h';refine⟨by simp [h1],λ j e he=> ?_⟩
  cases j with
  |zero=>simp at he;subst he;exact⟨_,rfl,.inr ⟨z,rfl,rfl⟩⟩
  |succ j=>exact h2 j e (by simpa using he)
 | .agg _::_,_,h=>by simp [Agx]at h
 | .sl .. ::_,_,h=>by simp [Agx]at h
 | .loc .. ::_,_,h=>by simp [Agx]at h
 | .vp .. ::_,_,h=>by simp [Agx]at h
 | .tup _::_,_,h=>by simp [Agx]at h
 | .ot _::_,_,h=>by simp [Agx]at h
 | .mp _::_,_,h=>by simp [Agx]at h
 | .itr _::_,_,h=>by simp [Agx]at h
 | .ags _::_,_,h=>by simp [Agx]at h
 | .clo _ _::_,_,h=>by simp [Agx]at h
theorem Akk :∀{l:O4}{ds:List (List D)},F7 l=some ds->l.length=ds.length/\∀(i:Nat)(d:List D),ds[i]? =some d->∃r,l[i]? =some r/\Agx r=some d
 |[],ds,h=>by simp [F7]at h;subst h;simp
 |r::l,ds,h=>by
  simp only [F7]at h;split at h
  ·rename_i x y hx hy;simp only [B6g]at h;subst h;obtain⟨h1,h2⟩:=Akk hy;refine⟨by simp [h1],λ i d hd=> ?_⟩
   cases i with
   |zero=>simp at hd;subst hd;exact⟨_,rfl,hx⟩
   |succ i=>exact h2 i d (by simpa using hd)
  ·simp at h
theorem DR.vs_nil {z:Nat}{a:Option Addr}{c:Nat}:DR F (.vs z []) (.slice a 0 c):=
 .vs z [] a c ⟨0,0,none⟩ (λ _ _=>undef) (by simp) (by simp) (by simp) (by simp) (by simp)
theorem AR.cell_data {ob:OL}{x:AV}{d:D}{u:Value}(hx:x= .c d\/∃z,x= .nil z/\d= .vs z [])(h:AR F ρ ob x u):DR F d u:=by
 rcases hx with rfl|⟨z,rfl,rfl⟩
 ·exact h
 ·obtain rfl:u=_:=h;exact DR.vs_nil
theorem T0.cell {ob:OL}(hm:T0 B F ρ ob w){key:Nat}{o:Obj}{p:N4}(hk:key<MK)(h1:get ob key=some o)(h2:ρ key=some p){i j:Nat}{r:List AV}{x:AV}(hi:o.rows[i]? =some r)(hj:r[j]? =some x):
  ∃u,w.cell? ⟨p.g,p.o+i*p.sz+j,none⟩=some u/\AR F ρ ob x u/\x.one=true:=by
 obtain⟨_,_,_,_,cs,et,hh,_,hc⟩:=hm.cells hk h1 h2;obtain⟨cA,u,hu,hr⟩:=hc i r j x hi hj;exact⟨u,by simp [World.cell?,hh,hu],hr,cA⟩
theorem Addr.add_mk (g off n:Nat):(⟨g,off,none⟩:Addr).add n=⟨g,off+n,none⟩:=by
 unfold Addr.add;split
 ·simp [*]
 ·rfl
theorem Abo (a:Addr)(i j:Nat):(a.add i).add j=a.add (i+j):=by
 unfold Addr.add;grind [Nat.add_assoc]
theorem Awq {x:AV}{sz:Nat}{rows:List (List D)}{v:Value}(hm:T0 B F ρ s.ob w)(h:s.view x=some (sz,rows))(hr:AR F ρ s.ob x v):Btt F w sz rows v:=by
 unfold St.view at h;split at h
 ·simp only [B6g,B6k]at h;obtain⟨rfl,rfl⟩:=h;cases hr with
  |vs sz rows a cap ad u bM ha aL hf hd=>
   exact⟨a,cap,ad,u,rfl,bM,ha,aL,λ i r j y h1 h2=>⟨hm.facts _ _ (hf i r j y h1 h2),hd i r j y h1 h2⟩⟩
 ·simp only [B6g,B6k]at h;obtain⟨rfl,rfl⟩:=h;obtain rfl:v=_:=hr;exact⟨none,0,⟨0,0,none⟩,λ _ _=>undef,rfl,by simp,by simp,by simp,by simp⟩
 ·rename_i key ver start len;split at h
  ·rename_i orows aD;split at h
   ·rename_i hc;obtain⟨iA,cI⟩:=hc;simp only [B6m,B6k]at h;obtain⟨ds,jE,rfl,rfl⟩:=h;obtain⟨hl,aV⟩:=Akk jE;have hs:=(hr.2 orows aD).2 iA cI;have aF:((ds.drop start).take len).length=len:=by simp;omega
    unfold SlR at hs;cases hρ:ρ key with
    |none=>
     rw [hρ]at hs;obtain⟨rfl,rfl⟩:=hs;exact⟨none,0,⟨0,0,none⟩,λ _ _=>undef,by simp,by simp,by simp,by simp,by simp⟩
    |some p=>
     rw [hρ]at hs;obtain⟨bM,a,rfl,ha⟩:=hs;have bV:∀(i:Nat)(r:List D)(j:Nat)(y:D),((ds.drop start).take len)[i]? =some r->r[j]? =some y->∃u,w.cell? ⟨p.g,p.o+(start+i)*p.sz+j,none⟩=some u/\DR F y u:=by
      intro i r j y hi hj;have lQ:ds[start+i]? =some r:=by
       rw [B77]at hi;split at hi
       ·simpa [B7x]using hi
       ·simp at hi
      obtain⟨r',bU,hall⟩:=aV _ _ lQ;obtain⟨x',kN,hd⟩:=(Ahh hall).2 _ _ hj;obtain⟨u,hu,fH,_⟩:=hm.cell hr.1 aD hρ bU kN;exact⟨u,hu,AR.cell_data hd fH⟩
     obtain⟨_,_,rR,eQ,_⟩:=hm.cells hr.1 aD hρ;rw [<-rR];refine⟨a,p.cap-start,⟨p.g,p.o+start*p.sz,none⟩,λ i j=>(w.cell? ⟨p.g,p.o+(start+i)*p.sz+j,none⟩).getD undef,by rw [aF],by rw [aF];omega,?_,?_,?_⟩
     ·intro aH;apply ha;by_cases h0:0<len
      ·exact .inl h0
      ·exfalso;apply aH;apply B66;omega
     ·intro r hrm;obtain⟨i,hi⟩:=B7t hrm;have lQ:ds[start+i]? =some r:=by
       rw [B77]at hi;split at hi
       ·simpa [B7x]using hi
       ·simp at hi
      obtain⟨r',bU,hall⟩:=aV _ _ lQ;have:=eQ r' (B6t bU);rw [<-this,(Ahh hall).1]
     ·intro i r j y hi hj;obtain⟨u,hu,hd⟩:=bV i r j y hi hj;rw [Addr.add_mk,show p.o+start*p.sz+(i*p.sz+j)=p.o+(start+i)*p.sz+j by rw [B7z];omega,hu]
      exact⟨by simp [hu],by simpa [hu]using hd⟩
   ·simp at h
  ·simp at h
 ·simp at h
end
end Go.Am
namespace Go.Am
open Go.RowKit
section
variable {P : Program} {B : Bd} {F : A8} {ρ : Map} {s : St} {a : Go.Act} {w : World} {o : Oper}
def G0 :List Operand->List J8->Bool
 |[],[]=>true
 |x::xs,y::ys=>M3 x y&&G0 xs ys
 |_,_=>false
theorem SlR.form {key start len:Nat}{v:Value}(h:SlR ρ key start len v):∃x cap,v= .slice x len cap/\len<=cap:=by
 grind [SlR]
theorem Bh2 {b:Bool}{x:AV}{n:Int}{v:Value}(h:A2n s b x=some n)(hr:AR F ρ s.ob x v):
  (b=true/\∃l:List UInt8,v= .string ⟨l.toArray⟩/\n=l.length)\/(b=false/\∃a len cap,v= .slice a len cap/\n=(len:Int)):=by
 unfold A2n at h;split at h
 ·simp only [B6g]at h;subst h;exact .inl ⟨rfl,_,DR.str_ hr,rfl⟩
 ·simp only [B6g]at h;subst h;cases hr with
  |vs sz rows a cap ad u bM ha aL hf hd=>exact .inr ⟨rfl,a,_,cap,rfl,rfl⟩
 ·simp only [B6g]at h;subst h;obtain rfl:v=_:=hr;exact .inr ⟨rfl,none,0,0,rfl,rfl⟩
 ·rename_i key ver start len;split at h
  case h_2=>simp at h
  rename_i rows h1;split at h
  case isFalse=>simp at h
  rename_i hc;simp only [B6g]at h;subst h;obtain⟨x,cap,rfl,_⟩:=SlR.form ((hr.2 rows h1).2 hc.1 hc.2);exact .inr ⟨rfl,x,len,cap,rfl,rfl⟩
 ·simp at h
def Bej (P:Program)(o:Oper)(b:Bool)(x:J8):Bool:=match o.op with
 | .call {callee:= .builtin .len,args,argTypes}=>G0 args.toList [x]&&(match argTypes.toList with|[t]=>if b then Bl5 P t else Byi P t|_=>false)
 |_=>false
theorem A7u {args:Array Operand}{x:J8}(h:G0 args.toList [x]=true):∃x',args= #[x']/\M3 x' x=true:=by
 obtain⟨l⟩:=args
 match l,h with
 |[x'],h=>exact⟨x',rfl,by simpa [G0]using h⟩
 |_::_::_,h=>simp [G0]at h
 |[],h=>simp [G0]at h
theorem Bnh {α:Type}{l:Array α}{x:α}(h:l.toList=[x]):l= #[x]:=by rw [<-B8w];exact h
theorem Bni {b:Bool}{x:J8}{p:AV}{n:Int}(hf:Fr F ρ s.ob s.fr a)(hc:Bej P o b x=true)(h1:s.opd x=some p)(h:A2n s b p=some n):Ac5 P o a w F ρ s (.c (.int .i64 n)):=by
 unfold Bej at hc;split at hc
 ·rename_i args ats aK;simp only [B6h]at hc;obtain⟨hx,ht⟩:=hc;obtain⟨x',rfl,uK⟩:=A7u hx;split at ht
  ·rename_i t uL;obtain rfl:=Bnh uL;have hr:=A2 hf uK h1;refine F4 (u:= .int .i64 n) ?_ (.int _ _);rcases Bh2 h hr with ⟨rfl,l,e1,rfl⟩|⟨rfl,y,len,cap,e1,rfl⟩
   ·have gE:=Awo ht;have aL:(ByteArray.mk l.toArray).size=l.length:=by simp [ByteArray.size]
    simp [execOp,aK,resolve,invoke,builtin,Builtin.len_,run_underlying gE,e1,goInt,aL]
   ·obtain⟨e,gE⟩:=A2r (by simpa using ht)
    simp [execOp,aK,resolve,invoke,builtin,Builtin.len_,run_underlying gE,e1,goInt]
  ·simp at ht
 ·simp at hc
def A6w :Option Operand->Option J8->Bool
 |none,none=>true
 |some x,some y=>M3 x y
 |_,_=>false
theorem An6 {isSlice:Bool}{len cap:Nat}{lo hi:Option Operand}{lo' lQ:Option J8}{p q:Option AV}{l h:Nat}(hf:Fr F ρ s.ob s.fr a)(jT:A6w lo lo'=true)(mX:A6w hi lQ=true)(bM:len<=cap)
  (h1:s.opdO lo'=some p)(h2:s.opdO lQ=some q)(hb:Ajj len p q=some (l,h)):(Instr.sliceBounds isSlice len cap (lo.map a.eval) (hi.map a.eval) none).run P w= .ok (l,h,cap) w/\l<=h/\h<=len:=by
 have num:∀{x:Option Operand}{y:Option J8}{r:Option AV},A6w x y=true->s.opdO y=some r->(x=none/\r=none)\/∃x' v,x=some x'/\r=some v/\AR F ρ s.ob v (a.eval x'):=by
  intro x y r hc hs;cases x<;>cases y<;>simp [A6w]at hc
  all_goals grind [St.opdO,Option.map_eq_some_iff,A2]
 unfold Ajj at hb;split at hb
 ·rename_i h0 l0 hh hl;split at hb
  ·rename_i cI;simp only [B6g,B6k]at hb;obtain⟨rfl,rfl⟩:=hb;refine⟨?_,cI.1,cI.2⟩;unfold Instr.sliceBounds;rcases num mX h2 with ⟨rfl,rfl⟩|⟨x',v,rfl,rfl,hr⟩
   ·simp only [B6g]at hh;subst hh;rcases num jT h1 with ⟨rfl,rfl⟩|⟨x',v,rfl,rfl,hr⟩
    ·simp only [B6g]at hl;subst hl;simp
    ·obtain⟨k,n,e1,hn,rfl⟩:=R4 (F:=F) (ρ:=ρ) (ob:=s.ob) hl hr;have xA:n<=(len:Int):=by omega
     simp [e1,run_sliceBound w k n len _ hn xA]
   ·obtain⟨k,n,e1,hn,rfl⟩:=R4 (F:=F) (ρ:=ρ) (ob:=s.ob) hh hr;have lW:n<=(cap:Int):=by omega
    rcases num jT h1 with ⟨rfl,rfl⟩|⟨x2,v2,rfl,rfl,dQ⟩
    ·simp only [B6g]at hl;subst hl;simp [e1,run_sliceBound w k n cap _ hn lW]
    ·obtain⟨k2,n2,e2,iH,rfl⟩:=R4 (F:=F) (ρ:=ρ) (ob:=s.ob) hl dQ;have lX:n2<=(n.toNat:Int):=by omega
     simp [e1,e2,run_sliceBound w k n cap _ hn lW,run_sliceBound w k2 n2 n.toNat _ iH lX]
  ·simp at hb
 ·simp at hb
def Ap3 (P:Program)(o:Oper)(sz:Nat)(x:J8)(lo hi:Option J8):Bool:=match o.op with
 | .slice t x' lo' lQ none=>Bup P t sz&&M3 x' x&&A6w lo' lo&&A6w lQ hi
 |_=>false
theorem Ah0 {t e:TypeId}{i:TypeInfo}{x:Option Addr}{len cap l h:Nat}{lo hi:Option Value}(ht:P.underlying t=some (.slice e))(lQ:P.info? e=some i)
  (hr:(Instr.sliceBounds true len cap lo hi none).run P w= .ok (l,h,cap) w):
  (Instr.sliceAt t (.slice x len cap) lo hi none).run P w= .ok (.slice (if cap=l then x else x.map (·.add (l*i.size))) (h-l) (cap-l)) w:=by
 simp [Instr.sliceAt,Instr.slice,run_underlying ht,hr,sizeOf,typeInfo,lQ]
theorem DR.cut {rows:List (List D)}{x:Option Addr}{len cap l h sz:Nat}(hr:DR F (.vs sz rows) (.slice x len cap))(hl:l<=h)(hh:h<=len):
  DR F (.vs sz ((rows.drop l).take (h-l))) (.slice (if cap=l then x else x.map (·.add (l*sz))) (h-l) (cap-l)):=by
 cases hr with
 |vs _ _ _ _ ad u bM ha aL hf hd=>
  have aF:((rows.drop l).take (h-l)).length=h-l:=by simp;omega
  have aV:∀(i:Nat)(r:List D),((rows.drop l).take (h-l))[i]? =some r->rows[l+i]? =some r:=by
   grind
  have bX:∀r∈(rows.drop l).take (h-l),r∈rows:=λ r hr=>List.mem_of_mem_drop (List.mem_of_mem_take hr)
  have key:=DR.vs (F:=F) sz ((rows.drop l).take (h-l)) (if cap=l then x else x.map (·.add (l*sz))) (cap-l) (ad.add (l*sz)) (λ i j=>u (l+i) j) (by rw [aF];omega)
   (λ aH=>by
    have h0:0<h-l:=by rw [<-aF];exact B9e.2 aH
    have hx:x=some ad:=ha (by intro h1;rw [h1]at aH;simp at aH)
    rw [B6j (by omega),hx];rfl)
   (λ r hr=>aL r (bX r hr))
   (λ i r j y hi hj=>by
    have h1:=aV i r hi;have h2:=hf _ _ _ _ h1 hj;rw [Abo,show l*sz+(i*sz+j)=(l+i)*sz+j by rw [B7z];omega]
    exact h2)
   (λ i r j y hi hj=>hd _ _ _ _ (aV i r hi) hj)
  rwa [aF]at key
theorem N5 (x:Addr):Instr.sureAddr (.pointer (some x))=pure x:=rfl
theorem A7v {sz:Nat}{x:J8}{lo hi:Option J8}{rows:List (List D)}{p q:Option AV}{i j:Nat}(hf:Fr F ρ s.ob s.fr a)(hc:Ap3 P o sz x lo hi=true)(h1:s.opd x=some (.c (.vs sz rows)))(h2:s.opdO lo=some p)(h3:s.opdO hi=some q)
  (hb:Ajj rows.length p q=some (i,j)):Ac5 P o a w F ρ s (.c (.vs sz ((rows.drop i).take (j-i)))):=by
 unfold Ap3 at hc;split at hc
 ·rename_i t x' lo' lQ aK;simp only [B6h]at hc;obtain⟨⟨⟨ht,hx⟩,jT⟩,mX⟩:=hc;obtain⟨e,ti,ht,kC,aL⟩:=Ad5 ht;have hr:=A2 hf hx h1;have bU:DR F (.vs sz rows) (a.eval x'):=hr;obtain⟨y,cap,hv,bM⟩:∃y cap,a.eval x'= .slice y rows.length cap/\rows.length<=cap:=by
   generalize a.eval x'=v at bU;cases bU with
   |vs sz rows y cap ad u bM ha aL hf hd=>exact⟨y,cap,rfl,bM⟩
  rw [hv]at bU;obtain⟨aJ,rS,dT⟩:=An6 (P:=P) (w:=w) (isSlice:=true) hf jT mX bM h2 h3 hb;refine F4 (u:=_) ?_ (DR.cut bU rS dT);simp only [execOp,aK,Sem.run_bind,hv];have:=Ah0 (x:=y) ht kC aJ;simp only [B8t]at*;rw [this,aL];simp
 ·simp at hc
theorem A4d {sz z:Nat}{x:J8}{lo hi:Option J8}{p q:Option AV}{i j:Nat}(hf:Fr F ρ s.ob s.fr a)(hc:Ap3 P o sz x lo hi=true)(h1:s.opd x=some (.nil z))(h2:s.opdO lo=some p)(h3:s.opdO hi=some q)
  (hb:Ajj 0 p q=some (i,j)):Ac5 P o a w F ρ s (.nil z):=by
 unfold Ap3 at hc;split at hc
 ·rename_i t x' lo' lQ aK;simp only [B6h]at hc;obtain⟨⟨⟨ht,hx⟩,jT⟩,mX⟩:=hc;obtain⟨e,ti,ht,kC,aL⟩:=Ad5 ht;have hv:a.eval x'= .slice none 0 0:=A2 hf hx h1;obtain⟨aJ,rS,dT⟩:=An6 (P:=P) (w:=w) (isSlice:=true) hf jT mX (B6u 0) h2 h3 hb;obtain rfl:j=0:=by omega
  obtain rfl:i=0:=by omega
  refine F4 (u:= .slice none 0 0) ?_ rfl;simp only [execOp,aK,Sem.run_bind,hv];have:=Ah0 (x:=none) ht kC aJ;simp only [B8t]at*;rw [this];simp
 ·simp at hc
theorem A7w {sz:Nat}{x:J8}{lo hi:Option J8}{key ver start len:Nat}{ob:Obj}{p q:Option AV}{i j:Nat}(hm:T0 B F ρ s.ob w)(hf:Fr F ρ s.ob s.fr a)(hc:Ap3 P o sz x lo hi=true)(h1:s.opd x=some (.sl key ver start len))
  (aD:get s.ob key=some ob)(iA:ob.rows.length=ver)(cI:start+len<=ver)(hz:ob.sz=sz)(h2:s.opdO lo=some p)(h3:s.opdO hi=some q)(hb:Ajj len p q=some (i,j)):Ac5 P o a w F ρ s (.sl key ver (start+i) (j-i)):=by
 unfold Ap3 at hc;split at hc
 ·rename_i t x' lo' lQ aK;simp only [B6h]at hc;obtain⟨⟨⟨ht,hx⟩,jT⟩,mX⟩:=hc;obtain⟨e,ti,ht,kC,aL⟩:=Ad5 ht;obtain⟨hK,eU⟩:=A2 hf hx h1;have hr:=(eU ob aD).2 iA cI;obtain⟨y,cap,hv,bM⟩:=SlR.form hr;obtain⟨aJ,rS,dT⟩:=An6 (P:=P) (w:=w) (isSlice:=true) hf jT mX bM h2 h3 hb;refine F4 (u:= .slice (if cap=i then y else y.map (·.add (i*ti.size))) (j-i) (cap-i)) ?_ ?_
  ·simp only [execOp,aK,Sem.run_bind,hv];have:=Ah0 (x:=y) ht kC aJ;simp only [B8t]at*;rw [this];simp
  ·refine⟨hK,λ aA hob'=> ?_⟩
   rw [aD]at hob';simp only [B6g]at hob';subst hob';refine⟨by omega,λ _ xA=> ?_⟩
   unfold SlR at hr ⊢;cases hρ:ρ key with
   |none=>
    grind
   |some pl=>
    rw [hρ]at hr;obtain⟨fF,b,rT,ha⟩:=hr;rw [hv]at rT;simp only [Value.slice.injEq]at rT;obtain⟨rfl,_,rfl⟩:=rT;have rR:=(hm.cells hK aD hρ).2.2.1;grind [Nat.sub_sub,Addr.add_mk,Nat.add_mul]
 ·simp at hc
def Azw (P:Program)(o:Oper)(x i:J8)(sz:Nat):Bool:=match o.op with
 | .indexAddr t x' i'=>Bup P t sz&&M3 x' x&&M3 i' i
 |_=>false
theorem A7x {sz j:Nat}{x i:J8}{rows:List (List D)}{r:List D}{p:AV}(hf:Fr F ρ s.ob s.fr a)(hc:Azw P o x i sz=true)(h1:s.opd x=some (.c (.vs sz rows)))(h2:s.opd i=some p)(hj:Adg p=some j)(h:rows[j]? =some r):
  Ac5 P o a w F ρ s (.vp r 0):=by
 unfold Azw at hc;split at hc
 ·rename_i t x' i' aK;simp only [B6h]at hc;obtain⟨⟨ht,hx⟩,hi⟩:=hc;obtain⟨e,ti,ht,kC,aL⟩:=Ad5 ht;obtain⟨k,z,e2,hz,rfl⟩:=R4 hj (A2 hf hi h2);have hr:DR F (.vs sz rows) (a.eval x'):=A2 hf hx h1;have aC:=(B6n.1 h).1;generalize hv:a.eval x'=v at hr;cases hr with
  |vs _ _ y cap ad u bM ha hrsz hfa hd=>
   obtain rfl:=ha (by intro h0;rw [h0]at aC;simp at aC)
   have kP:z<(rows.length:Int):=by omega
   refine F4 (u:= .pointer (some (ad.add (z.toNat*sz)))) ?_ ⟨ad.add (z.toNat*sz),λ j=>u z.toNat j,?_,λ j x hx=> ?_⟩
   ·simp [execOp,aK,hv,e2,Instr.indexAt,run_underlying ht,asIntOf,hz,kP,sizeOf,typeInfo,kC,aL]
   all_goals grind [Abo]
 ·simp at hc
theorem A7y {sz j:Nat}{x i:J8}{key ver start len:Nat}{ob:Obj}{p:AV}(hm:T0 B F ρ s.ob w)(hf:Fr F ρ s.ob s.fr a)(hc:Azw P o x i sz=true)(h1:s.opd x=some (.sl key ver start len))(h2:s.opd i=some p)(hj:Adg p=some j)
  (aD:get s.ob key=some ob)(iA:ob.rows.length=ver)(cI:start+len<=ver)(lR:ob.sz=sz)(hl:j<len):Ac5 P o a w F ρ s (.loc key (start+j) 0):=by
 unfold Azw at hc;split at hc
 ·rename_i t x' i' aK;simp only [B6h]at hc;obtain⟨⟨ht,hx⟩,hi⟩:=hc;obtain⟨e,ti,ht,kC,aL⟩:=Ad5 ht;obtain⟨k,z,e2,hz,rfl⟩:=R4 hj (A2 hf hi h2);obtain⟨hK,eU⟩:=A2 hf hx h1;have hr:=(eU ob aD).2 iA cI;unfold SlR at hr;cases hρ:ρ key with
  |none=>rw [hρ]at hr;omega
  |some pl=>
   rw [hρ]at hr;obtain⟨fF,b,hv,ha⟩:=hr;obtain rfl:=ha (.inl (by omega))
   have rR:=(hm.cells hK aD hρ).2.2.1;have kP:z<(len:Int):=by omega
   refine F4 (u:= .pointer (some ⟨pl.g,pl.o+start*pl.sz+z.toNat*ti.size,none⟩)) ?_ ?_
   ·simp [execOp,aK,hv,e2,Instr.indexAt,run_underlying ht,asIntOf,hz,kP,sizeOf,typeInfo,kC,Addr.add_mk]
   ·exact⟨hK,λ aA hob'=>⟨pl,hρ,by rw [aL,rR,lR,B7z,B8y,B9c]⟩⟩
 ·simp at hc
def A52 (P:Program)(o:Oper)(x i:J8)(n sz:Nat):Bool:=match o.op with
 | .indexAddr t x' i'=>M3 x' x&&M3 i' i&&(match P.underlying t with|some (.array m e)=>m==n&&Abw P e sz|_=>false)
 |_=>false
theorem Bh3 {n sz j:Nat}{x i:J8}{key row off:Nat}{p:AV}(hf:Fr F ρ s.ob s.fr a)(hc:A52 P o x i n sz=true)(h1:s.opd x=some (.loc key row off))(h2:s.opd i=some p)(hj:Adg p=some j)(hn:j<n)(aP:∃ob,get s.ob key=some ob):
  Ac5 P o a w F ρ s (.loc key row (off+j*sz)):=by
 unfold A52 at hc;split at hc
 ·rename_i t x' i' aK;simp only [B6h]at hc;obtain⟨⟨hx,hi⟩,hc⟩:=hc;split at hc
  ·rename_i m e ht;simp only [B6h,B62]at hc;obtain⟨rfl,aL⟩:=hc;obtain⟨k,z,e2,hz,rfl⟩:=R4 hj (A2 hf hi h2);obtain⟨ob,aD⟩:=aP;obtain⟨hK,eU⟩:=A2 hf hx h1;obtain⟨pl,hρ,hv⟩:=eU ob aD;have kP:z<(m:Int):=by omega
   refine F4 (u:= .pointer (some ⟨pl.g,pl.o+row*pl.sz+off+z.toNat*sz,none⟩)) ?_ ?_
   ·simp [execOp,aK,hv,e2,Instr.indexAt,run_underlying ht,asIntOf,N5,hz,kP,X7 aL,Addr.add_mk]
   ·exact⟨hK,λ aA hob'=>⟨pl,hρ,by rw [B9c]⟩⟩
  ·simp at hc
 ·simp at hc
def Azx (P:Program)(o:Oper)(x:J8)(off:Nat):Bool:=match o.op with
 | .fieldAddr t x' i=>M3 x' x&&(match P.underlying t with
  |some (.struct fs)=>match fs[i]? with
   |some f=>f.offset==off&&(match P.info? f.type with|some i=>i.size !=0|none=>false)
   |none=>false
  |_=>false)
 |_=>false
theorem As8 {t:TypeId}{fs:Array Field}{i:Nat}{f:Field}{ti:TypeInfo}{ad:Addr}(ht:P.underlying t=some (.struct fs))(hf:fs[i]? =some f)(kC:P.info? f.type=some ti)(hz:ti.size≠0):
  (Instr.fieldAt t (.pointer (some ad)) i).run P w= .ok (.pointer (some (ad.add f.offset))) w:=by
 simp [Instr.fieldAt,run_underlying ht,hf,N5,fieldPlace,sizeOf,typeInfo,kC,hz]
theorem As9 {x:J8}{off:Nat}(hc:Azx P o x off=true):∃t x' i fs f ti,o.op= .fieldAddr t x' i/\M3 x' x=true/\P.underlying t=some (.struct fs)/\fs[i]? =some f/\P.info? f.type=some ti/\ti.size≠0/\f.offset=off:=by
 unfold Azx at hc;grind
theorem A4e {x:J8}{off key row o':Nat}{ob:Obj}(hf:Fr F ρ s.ob s.fr a)(hc:Azx P o x off=true)(h1:s.opd x=some (.loc key row o'))(aD:get s.ob key=some ob):Ac5 P o a w F ρ s (.loc key row (o'+off)):=by
 obtain⟨t,x',i,fs,f,ti,aK,hx,ht,lV,kC,hz,rfl⟩:=As9 hc;obtain⟨hK,eU⟩:=A2 hf hx h1;obtain⟨pl,hρ,hv⟩:=eU ob aD;refine F4 (u:= .pointer (some ((⟨pl.g,pl.o+row*pl.sz+o',none⟩:Addr).add f.offset))) ?_ ?_
 ·simp only [execOp,aK,Sem.run_bind,hv,As8 ht lV kC hz,Result.andThen_ok,Sem.run_pure]
 ·exact⟨hK,λ aA hob'=>⟨pl,hρ,by rw [Addr.add_mk,B9c]⟩⟩
theorem A7z {x:J8}{off o':Nat}{r:List D}(hf:Fr F ρ s.ob s.fr a)(hc:Azx P o x off=true)(h1:s.opd x=some (.vp r o')):Ac5 P o a w F ρ s (.vp r (o'+off)):=by
 obtain⟨t,x',i,fs,f,ti,aK,hx,ht,lV,kC,hz,rfl⟩:=As9 hc;obtain⟨ad,u,hv,hu⟩:=A2 hf hx h1;refine F4 (u:= .pointer (some ((ad.add o').add f.offset))) ?_ ⟨ad,u,by rw [Abo],hu⟩
 simp only [execOp,aK,Sem.run_bind,hv,As8 ht lV kC hz,Result.andThen_ok,Sem.run_pure]
def Aqg (P:Program)(o:Oper)(x:J8)(sz:Nat)(ag:Bool):Bool:=match o.op with
 | .load t x'=>M3 x' x&&Abw P t sz&&Avh P t ag&&(ag||sz==1)
 |_=>false
theorem Bfv {x:J8}{sz:Nat}{ag:Bool}{p v:AV}(hm:T0 B F ρ s.ob w)(hf:Fr F ρ s.ob s.fr a)(hc:Aqg P o x sz ag=true)(h1:s.opd x=some p)(h:s.load p sz ag=some v):Ac5 P o a w F ρ s v:=by
 unfold Aqg at hc;split at hc
 ·rename_i t x' aK;simp only [B6h,B7n,B62]at hc;obtain⟨⟨⟨hx,aL⟩,dJ⟩,uJ⟩:=hc;have hr:=A2 hf hx h1;have scalar_:∀(ad:Addr)(u:Value),ag=false->a.eval x'= .pointer (some ad)->w.cell? ad=some u->AR F ρ s.ob v u->Ac5 P o a w F ρ s v:=by
   intro ad u iI hv bV hu;subst iI;refine F4 (u:=u) ?_ hu;simp [execOp,aK,hv,Instr.loadAt,N5,loadVar,T1 dJ,bV]
  have agg_:∀(ad:Addr)(ds:List D)(us:List Value),ag=true->a.eval x'= .pointer (some ad)->v= .agg ds->us.length=sz->C9 (DR F) ds us->(∀j u,us[j]? =some u->w.cell? (ad.add j)=some u)->Ac5 P o a w F ρ s v:=by
   intro ad ds us iI hv hvd aF fI iJ;subst iI;subst hvd;refine F4 (u:= .agg us.toArray) ?_ ⟨us,rfl,fI⟩;have hl:=run_loadCells_list (P:=P) w ad us iJ;rw [aF]at hl;simp [execOp,aK,hv,Instr.loadAt,N5,loadVar,T1 dJ,X7 aL,hl]
  unfold St.load at h;split at h
  ·rename_i row off;obtain⟨ad,u,hv,hu⟩:=hr;unfold Am.part at h;split at h
   ·rename_i cI;split at h
    ·rename_i iI;simp only [B6g]at h;subst h;have aF:((row.drop off).take sz).length=sz:=by simp;omega
     refine agg_ (ad.add off) _ ((List.range sz).map λ j=>u (off+j)) iI hv rfl (by simp) ?_ ?_
     ·refine C9.of_get (by rw [aF];simp) λ j d hd=> ?_
      have hj:j<sz:=by rw [<-aF];exact(B6n.1 hd).1
      refine⟨u (off+j),by simp [hj],?_⟩
      rw [B77,B6l hj,B7x]at hd;exact(hu _ _ hd).2
     ·intro j y hj;have oZ:j<sz:=by have:=(B6n.1 hj).1;simpa using this
      simp [oZ]at hj;subst hj;have aM:row[off+j]? =some (row[off+j]'(by omega)):=B6w (by omega)
      rw [Abo];exact hm.facts _ _ (hu _ _ aM).1
    ·rename_i iI;simp only [B6m]at h;obtain⟨d,hd,rfl⟩:=h;exact scalar_ (ad.add off) (u off) (by simpa using iI) hv (hm.facts _ _ (hu _ _ hd).1) (hu _ _ hd).2
   ·simp at h
  ·rename_i key row off;split at h
   ·simp at h
   ·rename_i ob aD;split at h
    ·simp at h
    ·rename_i r aM;split at h
     ·rename_i cI;obtain⟨pl,hρ,hv⟩:=hr.2 ob aD;split at h
      ·rename_i iI;simp only [B6m]at h;obtain⟨ds,jE,rfl⟩:=h;obtain⟨hl,aV⟩:=Ahh jE;have aF:ds.length=sz:=by rw [<-hl];simp;omega
       have bV:∀(j:Nat)(d:D),ds[j]? =some d->∃u,w.cell? ⟨pl.g,pl.o+row*pl.sz+off+j,none⟩=some u/\DR F d u:=by
        intro j d hd;have hj:j<sz:=by rw [<-aF];exact(B6n.1 hd).1
        obtain⟨y,hy,hyd⟩:=aV j d hd;rw [B77,B6l hj,B7x]at hy;obtain⟨u,hu,fH,_⟩:=hm.cell hr.1 aD hρ aM hy;exact⟨u,by rw [B9c];exact hu,AR.cell_data hyd fH⟩
       refine agg_ ⟨pl.g,pl.o+row*pl.sz+off,none⟩ ds ((List.range sz).map λ j=>(w.cell? ⟨pl.g,pl.o+row*pl.sz+off+j,none⟩).getD undef) iI hv rfl (by simp) ?_ ?_
       ·refine C9.of_get (by rw [aF];simp) λ j d hd=> ?_
        have hj:j<sz:=by rw [<-aF];exact(B6n.1 hd).1
        obtain⟨u,hu,gU⟩:=bV j d hd;exact⟨u,by simp [hj,hu],gU⟩
       ·intro j y hj;have oZ:j<sz:=by have:=(B6n.1 hj).1;simpa using this
        simp [oZ]at hj;subst hj;obtain⟨u,hu,gU⟩:=bV j (ds[j]'(by omega)) (B6w (by omega))
        rw [Addr.add_mk,hu];rfl
      ·rename_i iI;obtain⟨u,hu,fH,_⟩:=hm.cell hr.1 aD hρ aM h;exact scalar_ _ u (by simpa using iI) hv hu fH
     ·simp at h
  ·simp at h
 ·simp at hc
def A53 (o:Oper)(x:J8):Bool:=match o.op with| .nilCheck x'=>M3 x' x|_=>false
theorem Bh4 {x:J8}{key row off:Nat}{ob:Obj}(hf:Fr F ρ s.ob s.fr a)(hc:A53 o x=true)(h1:s.opd x=some (.loc key row off))(aD:get s.ob key=some ob):Ac5 P o a w F ρ s (.loc key row off):=by
 unfold A53 at hc;split at hc
 ·rename_i x' aK;have hr:=A2 hf hc h1;obtain⟨pl,hρ,hv⟩:=hr.2 ob aD;exact F4 (u:=a.eval x') (by simp [execOp,aK,hv]) hr
 ·simp at hc
end
end Go.Am
namespace Go.Am
open Go.RowKit
section
variable {P : Program} {B : Bd} {F F' : A8} {ρ ρ' : Map} {s : St} {a : Go.Act} {w w' : World} {o : Oper} {ob aA : OL}
theorem Ayr {w:World}{a:Addr}{u:Value}(h:w.cell? a=some u):a.block<w.heap.size:=by
 grind [World.cell?,Array.getElem?_eq_some_iff]
theorem A8.ok.below (h:F.ok w)(hb:Below w.heap.size w w'):F.ok w':=⟨λ a u hu=>by
 rw [hb.cell (Ayr (h a u hu))];exact h a u hu,h.glob⟩
theorem T0.lt (hm:T0 B F ρ ob w){key:Nat}{o:Obj}{p:N4}(h1:get ob key=some o)(h2:ρ key=some p):p.g<w.heap.size:=by
 obtain⟨x,hh⟩:=(hm.own key o p h1 h2).2.some;exact(B72.1 hh).1
theorem T0.below (hm:T0 B F ρ ob w)(hb:Below w.heap.size w w'):T0 B F ρ ob w' where
 facts:=hm.facts.below hb
 big:=hm.big.le hb.size
 bare:=hm.bare
 own:=λ key o p h1 h2=>by
  rw [hb.block _ (hm.lt h1 h2)];exact hm.own key o p h1 h2
 apart:=hm.apart
 inj:=hm.inj
theorem AR1.sub {x:AV}{v:Value}(hs:∀k o,get aA k=some o->get ob k=some o)(h:AR1 F ρ ob x v):AR1 F ρ aA x v:=by
 cases x<;>simp only [AR1]at h ⊢
 ·exact h
 ·exact h
 ·exact h
 ·grind
 ·grind
 ·exact h
 all_goals grind
theorem AR.sub {x:AV}{v:Value}(hs:∀k o,get aA k=some o->get ob k=some o)(h:AR F ρ ob x v):AR F ρ aA x v:=
 h.lift _ x.all1_true λ _ _ _ h=>h.sub hs
theorem Fr.sub {fr:FL}(hs:∀k o,get aA k=some o->get ob k=some o)(h:Fr F ρ ob fr a):Fr F ρ aA fr a:=λ i v hi=>(h i v hi).sub hs
theorem Fr.mono {fr:FL}(hF:F.le F')(h:Fr F ρ ob fr a):Fr F' ρ ob fr a:=λ i v hi=>(h i v hi).mono hF
theorem AR1.upd {x:AV}{v:Value}{key:Nat}(hn:x.names1 key=false)(hρ:∀k,k≠key->ρ' k=ρ k)(ho:∀k,k≠key->get aA k=get ob k)(h:AR1 F ρ ob x v):AR1 F ρ' aA x v:=by
 cases x<;>simp only [AR1]at h ⊢
 ·exact h
 ·exact h
 ·exact h
 ·grind [AV.names1,SlR]
 ·grind [AV.names1]
 ·exact h
 all_goals grind [AV.names1]
theorem AR.upd {x:AV}{v:Value}{key:Nat}(hn:x.names key=false)(hρ:∀k,k≠key->ρ' k=ρ k)(ho:∀k,k≠key->get aA k=get ob k)(h:AR F ρ ob x v):AR F ρ' aA x v:=
 h.lift _ (AV.all1_names hn) λ _ _ hn h=>h.upd hn hρ ho
theorem AR1.same {x:AV}{v:Value}(hl:∀k o',get aA k=some o'->∃o,get ob k=some o/\(k<MK->o.rows.length=o'.rows.length))(h:AR1 F ρ ob x v):AR1 F ρ aA x v:=by
 cases x<;>simp only [AR1]at h ⊢
 ·exact h
 ·exact h
 ·exact h
 ·grind
 ·grind
 ·exact h
 all_goals grind
theorem AR.same {x:AV}{v:Value}(hl:∀k o',get aA k=some o'->∃o,get ob k=some o/\(k<MK->o.rows.length=o'.rows.length))(h:AR F ρ ob x v):AR F ρ aA x v:=
 h.lift _ x.all1_true λ _ _ _ h=>h.same hl
theorem AR1.more {x:AV}{v:Value}{key:Nat}{o0 o1:Obj}(hK:key<MK)(hn:x.isLoc1 key=false)(hρ:∀k,k≠key->ρ' k=ρ k)(ho:∀k,k≠key->get aA k=get ob k)(h0:get ob key=some o0)(h1:get aA key=some o1)(aC:o0.rows.length<o1.rows.length)
  (h:AR1 F ρ ob x v):AR1 F ρ' aA x v:=by
 by_cases hx:x.names1 key=false
 ·exact h.upd hx hρ ho
 ·cases x<;>simp only [AV.names1,Bool.not_eq_false,B62,reduceCtorEq,not_true_eq_false,B6p]at hx
  ·rename_i k ver start len;subst hx;refine⟨h.1,λ o aT=> ?_⟩
   rw [h1]at aT;simp only [B6g]at aT;subst aT;have:=(h.2 o0 h0).1;exact⟨by omega,λ hl=>by omega⟩
  ·simp [AV.isLoc1,hx]at hn
  ·subst hx;have:=h.1;omega
  ·subst hx;have:=h.1;omega
theorem AR.more {x:AV}{v:Value}{key:Nat}{o0 o1:Obj}(hK:key<MK)(hn:x.isLoc key=false)(hρ:∀k,k≠key->ρ' k=ρ k)(ho:∀k,k≠key->get aA k=get ob k)(h0:get ob key=some o0)(h1:get aA key=some o1)(aC:o0.rows.length<o1.rows.length)
  (h:AR F ρ ob x v):AR F ρ' aA x v:=
 h.lift _ (AV.all1_isLoc hn) λ _ _ hn h=>h.more hK hn hρ ho h0 h1 aC
structure Ext (B:Bd)(F F':A8)(w w':World):Prop where
 le:F.le F'
 below:Bel B w w'
 new:∀a u,F' a u->F a u\/¬B a.block
theorem Ext.refl (B:Bd)(F:A8)(w:World):Ext B F F w w:=⟨.refl F,.refl B w,λ _ _ h=> .inl h⟩
theorem Ext.trans {F'':A8}{w'':World}(h:Ext B F F' w w')(k:Ext B F' F'' w' w''):Ext B F F'' w w'':=
 ⟨h.le.trans k.le,h.below.trans k.below,λ a u hu=>(k.new a u hu).elim (h.new a u) .inr⟩
def Aby (B:Bd)(F:A8)(w:World)(fr:FL)(a:Go.Act)(aA:OL)(v:AV)(u:Value)(w':World):Prop:=
 ∃F' ρ',T0 B F' ρ' aA w'/\Fr F' ρ' aA fr a/\AR F' ρ' aA v u/\Ext B F F' w w'
theorem Ac5.post {v:AV}(h:Ac5 P o a w F ρ s v)(hm:T0 B F ρ s.ob w)(hf:Fr F ρ s.ob s.fr a):Abr P o a w (Aby B F w s.fr a s.ob v):=by
 intro next Q hn;refine h next Q ?_;rintro u w' ⟨rfl,hv⟩;exact hn u _ ⟨F,ρ,hm,hf,hv,.refl B F _⟩
def F5 (F:A8)(ρ:Map)(ob:OL)(ks:List Nat)(w:World):A8:=
 λ a u=>F a u\/∃k∈ks,∃o p,get ob k=some o/\ρ k=some p/\a.block=p.g/\w.cell? a=some u
theorem F5.le {ks:List Nat}:F.le (F5 F ρ ob ks w):=λ _ _ h=> .inl h
theorem F5.mono {ks bE:List Nat}(h:∀k∈ks,k∈bE):(F5 F ρ ob ks w).le (F5 F ρ ob bE w):=by
 rintro a u (hu|⟨k,hk,r⟩)
 ·exact .inl hu
 ·exact .inr ⟨k,h k hk,r⟩
theorem F5.ok {ks:List Nat}(h:F.ok w):(F5 F ρ ob ks w).ok w:=by
 refine⟨?_,h.glob.mono F5.le⟩;rintro a u (hu|⟨k,hk,o,p,h1,h2,h3,h4⟩)
 ·exact h a u hu
 ·exact h4
theorem F5.new {ks:List Nat}(hm:T0 B F ρ ob w){a:Addr}{u:Value}(h:F5 F ρ ob ks w a u):F a u\/¬B a.block:=by
 rcases h with hu|⟨k,hk,o,p,h1,h2,h3,h4⟩
 ·exact .inl hu
 ·exact .inr (by rw [h3];exact(hm.own k o p h1 h2).1)
theorem Akw :∀(ks:List Nat)(s:St)(k:Nat),get (kill s ks).ob k=if k∈ks then none else get s.ob k
 |[],s,k=>by simp [kill]
 |j::ks,s,k=>by
  simp only [kill];rw [Akw ks _ k];grind [B3]
theorem Q3 :∀(ks:List Nat)(s:St),(kill s ks).fr=s.fr
 |[],s=>rfl
 |j::ks,s=>by simp only [kill];rw [Q3 ks]
theorem I3 (ks:List Nat)(s:St):∀k o,get (kill s ks).ob k=some o->get s.ob k=some o:=by
 grind [Akw]
theorem T0.kill {ks:List Nat}(hm:T0 B F ρ s.ob w):T0 B (F5 F ρ s.ob ks w) ρ (Am.kill s ks).ob w where
 facts:=F5.ok hm.facts
 big:=hm.big
 bare:=λ k o h=>hm.bare k o (I3 ks s k o h)
 own:=λ k o p h1 h2=>by
  obtain⟨g1,g2⟩:=hm.own k o p (I3 ks s k o h1) h2;exact⟨g1,g2.imp λ r hr x hx v hv=>(hv.mono F5.le).sub (I3 ks s)⟩
 apart:=λ k o p h1 h2 a u hu=>by
  have h0:=I3 ks s k o h1;rcases hu with hu|⟨k',aN,o',p',h3,h4,h5,h6⟩
  ·exact hm.apart k o p h0 h2 a u hu
  ·intro hg;have:=hm.inj k o p k' o' p' h0 h2 h3 h4 (by rw [<-hg,h5])
   grind [Akw]
 inj:=λ k o p k' o' p' h1 h2 h3 h4=>hm.inj k o p k' o' p' (I3 ks s k o h1) h2 (I3 ks s k' o' h3) h4
theorem Btt.dr {G:A8}{sz:Nat}{rows:List (List D)}{v:Value}(hF:F.le G)(h:Btt F w sz rows v)(hG:rows≠[]->∀a u,w.cell? a=some u->(∃x n c,v= .slice (some x) n c/\a.block=x.block)->G a u):DR G (.vs sz rows) v:=by
 obtain⟨x,cap,ad,u,rfl,bM,ha,aL,hc⟩:=h;refine .vs sz rows x cap ad u bM ha aL (λ i r j y hi hj=> ?_) (λ i r j y hi hj=>(hc i r j y hi hj).2.mono hF)
 have aH:rows≠[]:=by intro h0;rw [h0]at hi;simp at hi
 refine hG aH _ _ (hc i r j y hi hj).1 ⟨ad,_,_,by rw [ha aH],?_⟩
 unfold Addr.add;split<;>rfl
theorem Agy {x y:AV}{k:Option Nat}{v:Value}(hm:T0 B F ρ s.ob w)(h:s.frz x=some (y,k))(hr:AR F ρ s.ob x v):RR (F5 F ρ s.ob k.toList w) y v:=by
 unfold St.frz at h;split at h
 ·simp only [B6g,B6k]at h;obtain⟨rfl,rfl⟩:=h;exact DR.mono F5.le hr
 ·simp only [B6g,B6k]at h;obtain⟨rfl,rfl⟩:=h;exact RR.mono (x:= .agg _) F5.le hr
 ·simp only [B6g,B6k]at h;obtain⟨rfl,rfl⟩:=h;obtain rfl:v=_:=hr;exact DR.vs_nil
 ·rename_i key ver start len;simp only [B6m,B6k]at h;obtain⟨⟨sz,rows⟩,hv,rfl,rfl⟩:=h;have hs:=Awq hm hv hr;refine hs.dr F5.le λ aH ad u hu hx=> ?_
  unfold St.view at hv;simp only at hv;split at hv
  ·rename_i o aD;split at hv
   ·rename_i hc;have dR:=(hr.2 o aD).2 hc.1 hc.2;obtain⟨x,n,c,rfl,hb⟩:=hx;simp only [B6m,B6k]at hv;obtain⟨ds,jE,_,rfl⟩:=hv;have jJ:=(Akk jE).1;have cB:0<len:=by
     rcases Nat.eq_zero_or_pos len with h0|h0
     ·subst h0;simp at aH
     ·exact h0
    unfold SlR at dR;cases hρ:ρ key with
    |none=>rw [hρ]at dR;omega
    |some p=>
     rw [hρ]at dR;obtain⟨bM,x',kN,ha⟩:=dR;simp only [Value.slice.injEq]at kN;have:=ha (.inl cB);rw [this]at kN;obtain⟨kN,_,_⟩:=kN;simp only [B6g]at kN;exact .inr ⟨key,by simp,o,p,aD,hρ,by rw [hb,kN],hu⟩
   ·simp at hv
  ·simp at hv
 ·simp at h
theorem V4 (hm:T0 B F ρ s.ob w):∀{xs ys:List AV}{ks:List Nat}{vs:List Value},s.frzs xs=some (ys,ks)->C9 (AR F ρ s.ob) xs vs->C9 (RR (F5 F ρ s.ob ks w)) ys vs
 |[],ys,ks,vs,h,hr=>by
  simp only [St.frzs,B6g,B6k]at h;obtain⟨rfl,rfl⟩:=h;cases hr;exact .nil
 |x::xs,ys,ks,vs,h,hr=>by
  simp only [St.frzs]at h;split at h
  ·rename_i d k ds bE h1 h2;simp only [B6g,B6k]at h;obtain⟨rfl,rfl⟩:=h;cases hr with
   |cons hx hxs=>
    exact .cons ((Agy hm h1 hx).mono (F5.mono (λ k hk=>by simp at hk;simp [hk]))) ((V4 hm h2 hxs).imp λ _ _ h=>h.mono (F5.mono (λ k hk=>by simp [hk])))
  ·simp at h
theorem Aeb (hf:Fr F ρ s.ob s.fr a):∀{xs:List Operand}{ys:List J8}{vs:List AV},G0 xs ys=true->s.opds ys=some vs->C9 (AR F ρ s.ob) vs (xs.map a.eval)
 |[],[],vs,_,h=>by simp only [St.opds,B6g]at h;subst h;exact .nil
 |x::xs,y::ys,vs,hc,h=>by
  simp only [G0,B6h]at hc;simp only [St.opds]at h;split at h
  ·rename_i v vs' h1 h2;simp only [B6g]at h;subst h;exact .cons (A2 hf hc.1 h1) (Aeb hf hc.2 h2)
  ·simp at h
 |[],_::_,_,hc,_=>by simp [G0]at hc
 |_::_,[],_,hc,_=>by simp [G0]at hc
theorem Bnj {x:J8}{v:AV}{p:AV×Option Nat}(hm:T0 B F ρ s.ob w)(hf:Fr F ρ s.ob s.fr a)(hc:Azv o x=true)(h:s.opd x=some v)(hp:s.frz v=some p):Abr P o a w (Aby B F w s.fr a (kill s p.2.toList).ob p.1):=by
 intro next Q hn;refine A9b hf hc h next Q ?_;rintro u w' ⟨rfl,hv⟩;exact hn u _ ⟨F5 F ρ s.ob p.2.toList w',ρ,hm.kill,(hf.mono F5.le).sub (I3 _ s),AR.of_RR (Agy hm hp hv),F5.le,.refl _ _,λ ad u hu=>F5.new hm hu⟩
def A54 (F:A8)(rs:List AV)(u:Value):Prop:=
 match rs with
 |[r]=>RR F r u
 |rs=>∃us:List Value,u= .tuple us.toArray/\C9 (RR F) rs us
def Api (P:Program)(f:FuncId)(S:List AV->Option (List AV)):Prop:=
 ∀(F:A8)(w:World)(ds:List AV)(vs:List Value)(rs:List AV),F.ok w->C9 (RR F) ds vs->S ds=some rs->
  Calls P f vs.toArray w λ e w'=>∃u,e= .returned u/\∃F':A8,F'.ok w'/\F.le F'/\Below w.heap.size w w'/\(∀a v,F' a v->F a v\/w.heap.size<=a.block)/\A54 F' rs u
def Aq4 (P:Program)(nm:Nat->Option Nat)(o:Oper)(f:Nat)(args:List J8):Bool:=match o.op with
 | .call {callee:= .value (.func g),args:=as,argTypes:=_}=>(match nm f with|some g'=>g'==g|none=>false)&&G0 as.toList args&&(match P.funcs[g]? with|some fn=>fn.body.isSome&&fn.name != "runtime.NumGoroutine" |none=>false)
 |_=>false
theorem A54.ar {rs:List AV}{u:Value}(h:A54 F rs u):AR F ρ ob (Brk rs) u:=by
 unfold A54 at h;split at h
 ·exact AR.of_RR h
 ·rename_i aH;unfold Brk;split
  ·exact(aH _ rfl).elim
  ·obtain⟨us,rfl,h⟩:=h;exact⟨us,rfl,h.imp λ _ _ h=>AR1.of_RR h⟩
theorem A54.flat {rs:List AV}{u:Value}(h:A54 F' rs u)(dM:rs.all AV.flat=true):A54 F rs u:=by
 unfold A54 at h ⊢;split at h
 ·exact h.of_flat (by simpa using dM)
 ·rename_i aH;obtain⟨us,rfl,hr⟩:=h;refine⟨us,rfl,C9.of_get hr.length λ i x hx=> ?_⟩
  obtain⟨b,hb,mY⟩:=hr.get? i x hx;exact⟨b,hb,mY.of_flat (B6q.1 dM x (B6t hx))⟩
theorem Bba {g:FuncId}{S:List AV->Option (List AV)}{us:List Value}{ds rs:List AV}{ks:List Nat}(hm:T0 B F ρ s.ob w)(hf:Fr F ρ s.ob s.fr a)(hS:Api P g S)(aJ:(execOp a.eval o).run P w= .ok (.enter g us.toArray) w)
  (jE:C9 (RR (F5 F ρ s.ob ks w)) ds us)(h3:S ds=some rs):
  Abr P o a w (Aby B F w s.fr a (if rs.all AV.flat then s else kill s ks).ob (Brk rs)):=by
 refine A2q aJ ?_;refine(hS (F5 F ρ s.ob ks w) w ds us rs (F5.ok hm.facts) jE h3).mono ?_;rintro e w' ⟨u,rfl,F2,bB,cI,dE,bT,pA⟩;refine⟨u,rfl,?_⟩;by_cases dM:rs.all AV.flat=true
 ·rw [B6l dM];exact⟨F,ρ,hm.below dE,hf,(pA.flat dM).ar,.refl F,.of dE hm.big,λ _ _ h=> .inl h⟩
 ·rw [B6j dM];have cC:=(hm.kill (ks:=ks)).below dE;have bX:T0 B F2 ρ (kill s ks).ob w':={
   facts:=bB
   big:=cC.big
   bare:=cC.bare
   own:=λ k o p g1 g2=>by
    obtain⟨q1,q2⟩:=cC.own k o p g1 g2;exact⟨q1,q2.imp λ r hr x hx v hv=>hv.mono cI⟩
   apart:=λ k o p g1 g2 ad v hv=>by
    rcases bT ad v hv with hv|hv
    ·exact cC.apart k o p g1 g2 ad v hv
    ·have:=hm.lt (I3 ks s k o g1) g2;omega
   inj:=cC.inj}
  refine⟨F2,ρ,bX,((hf.mono (F5.le.trans cI)).sub (I3 ks s)),pA.ar,F5.le.trans cI,.of dE hm.big,λ ad v hv=> ?_⟩
  rcases bT ad v hv with hv|hv
  ·exact F5.new hm hv
  ·exact .inr (hm.big.out hv)
theorem Bbb {nm:Nat->Option Nat}{Γ:H6}{f:Nat}{args:List J8}{vs ds rs:List AV}{ks:List Nat}(hm:T0 B F ρ s.ob w)(hf:Fr F ρ s.ob s.fr a)(hΓ:∀f g,nm f=some g->Api P g (Γ f))(hc:Aq4 P nm o f args=true)
  (h1:s.opds args=some vs)(h2:s.frzs vs=some (ds,ks))(h3:Γ f ds=some rs):
  Abr P o a w (Aby B F w s.fr a (if rs.all AV.flat then s else kill s ks).ob (Brk rs)):=by
 unfold Aq4 at hc;split at hc
 ·rename_i g as ats aK;simp only [B6h]at hc;obtain⟨⟨hn,dF⟩,jF⟩:=hc;split at hn
  ·rename_i g' tJ;simp only [B62]at hn;subst hn;split at jF
   ·rename_i fn pB;simp only [B6h,bne_iff_ne,ne_eq]at jF;have eV:=Aeb hf dF h1;have jE:=V4 hm h2 eV;have aJ:(execOp a.eval o).run P w= .ok (.enter g' ((as.toList.map a.eval).toArray)) w:=by
     have hb:fn.body.isNone=false:=by
      cases hb:fn.body<;>simp [hb]at jF ⊢
     have pC:∀w:World,(Go.program).run P w= .ok P w:=λ _=>rfl
     have hbn:fn.body≠none:=by intro h0;rw [h0]at hb;simp at hb
     have fJ:Array.map a.eval as=(as.toList.map a.eval).toArray:=by rw [<-B8w];simp
     simp [execOp,aK,resolve,Deferred.ofValue,Go.Act.eval,invoke,callFunc,pC,pB,hbn,jF.2];exact fJ
    exact Bba hm hf (hΓ f g' tJ) aJ jE h3
   ·simp at jF
  ·simp at hn
 ·simp at hc
def A2s (us:List Value):Value:=if h:us.toArray.size=1 then us.toArray[0]else .tuple us.toArray
def D9 (P:Program)(g:FuncId)(S:PG):Prop:=
 ∀(γ:Array Value)(B:Bd)(F:A8)(ρ:Map)(fr:FL)(ob:OL)(w:World)(us:List Value)(rs:List AV)(aA:OL),
  (∀fn,P.funcs[g]? =some fn->us.length<=fn.ntmps)->(∀i,i<us.length->∃v,get fr i=some v)->T0 B F ρ ob w->(∀i v,get fr i=some v->AR F ρ ob v (if i<GB then us.getD i undef else γ.getD (i-GB) undef))->S ⟨fr,ob⟩=some (rs,aA)->
  Calls P g us.toArray w λ e w'=>∃qs,e= .returned (A2s qs)/\∃F' ρ',T0 B F' ρ' aA w'/\(∀i v,GB<=i->get fr i=some v->AR F' ρ' aA v (γ.getD (i-GB) undef))/\C9 (AR F' ρ' aA) rs qs/\Ext B F F' w w'
def Ays (P:Program)(g:FuncId):Bool:=match P.funcs[g]? with|some fn=>fn.body.isSome&&fn.name != "runtime.NumGoroutine" |none=>false
structure Aec (P:Program)(nm:Nat->Option Nat)(Γ:H6):Prop where
 fv:∀g ds rs,Γ.fv g ds=some rs->Ays P g=true
 fvS:∀g,Api P g (Γ.fv g)
 fn:∀f g,nm f=some g->Api P g (Γ f)
 pt:∀f g,nm f=some g->D9 P g (Γ.pt f)
 mono:Aat Γ
theorem E5 {α:Type}:∀(l m:List (Nat×α))(i:Nat),get (l++m) i=match get l i with|some v=>some v|none=>get m i
 |[],m,i=>rfl
 |(k,v)::l,m,i=>by
  simp only [B7i,get];split
  ·rfl
  ·exact E5 l m i
theorem A55 :∀(l:FL)(i:Nat),get (gho l) (GB+i)=get l i
 |[],i=>rfl
 |(k,v)::l,i=>by
  simp only [gho,get];by_cases h:k=i
  ·rw [B6l (by omega),B6l h]
  ·rw [B6j (by omega),B6j h];exact A55 l i
theorem Awr :∀(l:FL)(i:Nat),i<GB->get (gho l) i=none
 |[],i,_=>rfl
 |(k,v)::l,i,h=>by
  simp only [gho,get];rw [B6j (by omega)];exact Awr l i h
theorem Alp :∀(vs:List AV)(k i:Nat),get (args k vs) i=if k<=i then vs[i-k]? else none
 |[],k,i=>by simp [args,get]
 |x::vs,k,i=>by
  simp only [args,get];by_cases h:k=i
  ·subst h;simp
  ·rw [B6j h,Alp vs (k+1) i];grind
def Aqh (P:Program)(nm:Nat->Option Nat)(o:Oper)(f:Nat)(xs:List J8):Bool:=Aq4 P nm o f xs&&decide (xs.length<=GB)&&(match nm f with|some g=>(match P.funcs[g]? with|some fn=>decide (xs.length<=fn.ntmps)|none=>true)|none=>false)
theorem Ata :∀{xs:List J8}{vs:List AV},s.opds xs=some vs->vs.length=xs.length
 |[],vs,h=>by simp only [St.opds,B6g]at h;subst h;rfl
 |x::xs,vs,h=>by
  simp only [St.opds]at h;split at h
  ·rename_i v vs' h1 h2;simp only [B6g]at h;subst h;simp [Ata h2]
  ·simp at h
theorem Aws {nm:Nat->Option Nat}{Γ:H6}{f:Nat}{xs:List J8}{vs rs:List AV}{v:AV}{aA:OL}(hm:T0 B F ρ s.ob w)(hf:Fr F ρ s.ob s.fr a)(hΓ:Aec P nm Γ)(hc:Aqh P nm o f xs=true)
  (h1:s.opds xs=some vs)(h2:Γ.pt f ⟨args 0 vs++gho s.fr,s.ob⟩=some (rs,aA))(h3:Buk rs=some v):
  Abr P o a w (Aby B F w s.fr a aA v):=by
 simp only [Aqh,B6h,B6o]at hc;obtain⟨⟨hc,aF⟩,htm⟩:=hc;unfold Aq4 at hc;split at hc
 ·rename_i g as ats aK;simp only [B6h]at hc;obtain⟨⟨hn,dF⟩,jF⟩:=hc;split at hn
  ·rename_i g' tJ;simp only [B62]at hn;subst hn;rw [tJ]at htm;split at jF
   ·rename_i fn pB;simp only [pB,B6o]at htm;simp only [B6h,bne_iff_ne,ne_eq]at jF;have eV:=Aeb hf dF h1;have hl:=Ata h1;have aJ:(execOp a.eval o).run P w= .ok (.enter g' ((as.toList.map a.eval).toArray)) w:=by
     have hb:fn.body.isNone=false:=by
      cases hb:fn.body<;>simp [hb]at jF ⊢
     have pC:∀w:World,(Go.program).run P w= .ok P w:=λ _=>rfl
     have hbn:fn.body≠none:=by intro h0;rw [h0]at hb;simp at hb
     have fJ:Array.map a.eval as=(as.toList.map a.eval).toArray:=by rw [<-B8w];simp
     simp [execOp,aK,resolve,Deferred.ofValue,Go.Act.eval,invoke,callFunc,pC,pB,hbn,jF.2];exact fJ
    refine A2q aJ ?_;have hul:(as.toList.map a.eval).length=xs.length:=by rw [<-eV.length,hl]
    refine(hΓ.pt f g' tJ a.tmps B F ρ (args 0 vs++gho s.fr) s.ob w _ rs aA (λ fn2 h=> ?_) (λ i hi=> ?_) hm (λ i x hi=> ?_) h2).mono ?_
    ·rw [pB]at h;simp only [B6g]at h;subst h;omega
    ·have dN:i<vs.length:=by omega
     refine⟨vs[i],?_⟩;rw [E5,Alp];simp only [B81,B68,B78,B6w dN]
    ·rw [E5,Alp]at hi;simp only [B81,B68,B78]at hi;cases hx:vs[i]? with
     |some y=>
      rw [hx]at hi;simp only [B6g]at hi;subst hi;obtain⟨u,hu,hr⟩:=eV.get? i _ hx;have dN:i<vs.length:=(B6n.1 hx).1;rw [B6l (by omega),B8n,hu];exact hr
     |none=>
      rw [hx]at hi;simp only at hi;by_cases hG:i<GB
      ·rw [Awr _ _ hG]at hi;simp at hi
      ·rw [B6j hG];rw [show i=GB+(i-GB) by omega,A55]at hi
       exact hf _ _ hi
    ·rintro e w' ⟨qs,rfl,F',ρ',cJ,lY,iK,he⟩;refine⟨_,rfl,F',ρ',cJ,λ i x hi=> ?_,?_,he⟩
     ·have:=lY (GB+i) x (by omega) (by
       rw [E5,Alp];simp only [B81,B68,B78];rw [List.getElem?_eq_none (by omega)]
       simp only;rw [A55];exact hi)
      rwa [show GB+i-GB=i by omega]at this
     ·unfold Buk at h3;split at h3
      ·simp only [B6g]at h3;subst h3;cases iK with
       |cons h4 h5=>cases h5;simpa [A2s]using h4
      ·rename_i aH;split at h3
       ·rename_i hall;simp only [B6g]at h3;subst h3;have hq:qs.length≠1:=by
         intro h0;have aZ:rs.length=1:=by rw [iK.length];exact h0
         match rs,aZ with
         |[r],_=>exact aH r rfl
        refine⟨qs,by simp [A2s,hq],?_⟩
        refine C9.of_get iK.length λ i x hx=> ?_
        obtain⟨u,hu,hr⟩:=iK.get? i x hx;refine⟨u,hu,?_⟩;exact hr.to1 (B6q.1 hall x (B6t hx))
       ·simp at h3
   ·simp at jF
  ·simp at hn
 ·simp at hc
end
section
mutual
theorem Bek :∀(a b:D),eqD a b=true->a=b
 | .int k a,b,h=>by cases b<;>simp_all [eqD]
 | .bool a,b,h=>by cases b<;>simp_all [eqD]
 | .str a,b,h=>by cases b<;>simp_all [eqD]
 | .vs z r,b,h=>by
  cases b<;>simp only [eqD,B6p,B6h,B6o]at h;rw [h.1,A9c _ _ h.2]
 | .nil z,b,h=>by cases b<;>simp_all [eqD]
 | .ot x,b,h=>by cases b<;>simp_all [eqD]
theorem Aq5 :∀(a b:List D),A2o a b=true->a=b
 |[],b,h=>by cases b<;>simp_all [A2o]
 |x::l,b,h=>by
  cases b with
  |nil=>simp [A2o]at h
  |cons y m=>
   simp only [A2o,B6h]at h;rw [Bek _ _ h.1,Aq5 _ _ h.2]
theorem A9c :∀(a b:List (List D)),Awi a b=true->a=b
 |[],b,h=>by cases b<;>simp_all [Awi]
 |x::l,b,h=>by
  cases b with
  |nil=>simp [Awi]at h
  |cons y m=>
   simp only [Awi,B6h]at h;rw [Aq5 _ _ h.1,A9c _ _ h.2]
end
theorem Bfw (a b:AV)(h:Aj0 a b=true):a=b:=by
 cases a<;>cases b<;>simp only [Aj0,B6p,B6h,B6o]at h
 all_goals grind [Bek,Aq5]
theorem Bfx :∀(a b:List AV),Awj a b=true->a=b
 |[],b,h=>by cases b<;>simp_all [Awj]
 |x::l,b,h=>by
  cases b with
  |nil=>simp [Awj]at h
  |cons y m=>
   simp only [Awj,B6h]at h;rw [Bfw _ _ h.1,Bfx _ _ h.2]
theorem Bzd (a b:AV)(h:eqV a b=true):a=b:=by
 unfold eqV at h;grind [Bfx,Bfw]
mutual
theorem Akx :∀a:D,eqD a a=true
 | .int k a=>by simp [eqD]
 | .bool a=>by simp [eqD]
 | .str a=>by simp [eqD]
 | .vs z r=>by simp only [eqD,An7 r,decide_true,B64]
 | .nil z=>by simp [eqD]
 | .ot x=>by simp [eqD]
theorem Aa1 :∀a:List D,A2o a a=true
 |[]=>rfl
 |x::l=>by simp only [A2o,Akx x,Aa1 l,B64]
theorem An7 :∀a:List (List D),Awi a a=true
 |[]=>rfl
 |x::l=>by simp only [Awi,Aa1 x,An7 l,B64]
end
mutual
theorem Bro :∀(a b:AV),eqA a b=true->a=b
 | .c a,b,h=>by
  cases b<;>simp only [eqA,B6p]at h;rw [Bek _ _ h]
 | .agg a,b,h=>by
  cases b<;>simp only [eqA,B6p]at h;rw [Aq5 _ _ h]
 | .nil a,b,h=>by cases b<;>simp_all [eqA]
 | .sl a b c d,e,h=>by cases e<;>simp_all [eqA]
 | .loc a b c,e,h=>by cases e<;>simp_all [eqA]
 | .vp r a,b,h=>by
  cases b<;>simp only [eqA,B6p,B6h,B6o]at h;rw [Aq5 _ _ h.1,h.2]
 | .ot a,b,h=>by cases b<;>simp_all [eqA]
 | .mp a,b,h=>by cases b<;>simp_all [eqA]
 | .itr a,b,h=>by cases b<;>simp_all [eqA]
 | .tup a,b,h=>by
  cases b<;>simp only [eqA,B6p]at h;rw [Aq6 _ _ h]
 | .ags a,b,h=>by
  cases b<;>simp only [eqA,B6p]at h;rw [Aq6 _ _ h]
 | .clo g a,b,h=>by
  cases b<;>simp only [eqA,B6p,B6h,B6o]at h;rw [Aq6 _ _ h.2,h.1]
theorem Aq6 :∀(a b:List AV),A2p a b=true->a=b
 |[],b,h=>by cases b<;>simp_all [A2p]
 |x::l,b,h=>by
  cases b with
  |nil=>simp [A2p]at h
  |cons y m=>
   simp only [A2p,B6h]at h;rw [Bro _ _ h.1,Aq6 _ _ h.2]
end
mutual
theorem A9d :∀a:AV,eqA a a=true
 | .c a=>by simp only [eqA,Akx]
 | .agg a=>by simp only [eqA,Aa1]
 | .nil a=>by simp [eqA]
 | .sl a b c d=>by simp [eqA]
 | .loc a b c=>by simp [eqA]
 | .vp r a=>by simp [eqA,Aa1]
 | .ot a=>by simp [eqA]
 | .mp a=>by simp [eqA]
 | .itr a=>by simp [eqA]
 | .tup a=>by simp only [eqA,Agz a]
 | .ags a=>by simp only [eqA,Agz a]
 | .clo g a=>by simp only [eqA,Agz a,decide_true,B64]
theorem Agz :∀a:List AV,A2p a a=true
 |[]=>by simp only [A2p]
 |x::l=>by simp only [A2p,A9d x,Agz l,B64]
end
theorem Asd :∀(a b:O4),Ahg a b=true->a=b
 |[],b,h=>by cases b<;>simp_all [Ahg]
 |x::l,b,h=>by
  cases b with
  |nil=>simp [Ahg]at h
  |cons y m=>
   simp only [Ahg,B6h]at h;rw [Aq6 _ _ h.1,Asd _ _ h.2]
theorem Afk :∀a:O4,Ahg a a=true
 |[]=>by simp only [Ahg]
 |x::l=>by simp only [Ahg,Agz x,Afk l,B64]
theorem Bfy :∀(a b:OL),Ba6 a b=true->a=b
 |[],b,h=>by cases b<;>simp_all [Ba6]
 |(k,o)::l,b,h=>by
  cases b with
  |nil=>simp [Ba6]at h
  |cons y m=>
   obtain⟨k',o'⟩:=y;simp only [Ba6,B6h,B6o]at h;obtain⟨⟨⟨h1,h2⟩,h3⟩,h4⟩:=h;obtain⟨z,rs⟩:=o;obtain⟨z',uM⟩:=o';simp only at h2 h3;rw [h1,h2,Asd _ _ h3,Bfy _ _ h4]
theorem Ase :∀a:OL,Ba6 a a=true
 |[]=>by simp only [Ba6]
 |(k,o)::l=>by simp only [Ba6,Afk,Ase l,B64,decide_true]
end
end Go.Am
namespace Go.Am
open Go.RowKit
section
variable {P : Program} {B : Bd} {F F' : A8} {ρ ρ' : Map} {s : St} {a : Go.Act} {w w' : World} {o : Oper} {ob aA : OL}
def K0 (ρ:Map)(key:Nat)(p:Option N4):Map:=λ k=>if k=key then p else ρ k
theorem E6 (key:Nat)(p:Option N4):K0 ρ key p key=p:=by simp [K0]
theorem D6 {key k:Nat}(p:Option N4)(h:k≠key):K0 ρ key p k=ρ k:=by simp [K0,h]
theorem B0 {α:Type}:∀{l:List (Nat×α)}{i:Nat}{v:α},get l i=some v->(i,v)∈l
 |[],i,v,h=>by simp [get]at h
 |(k,x)::l,i,v,h=>by
  simp only [get]at h;split at h
  ·rename_i hk;subst hk;simp only [B6g]at h;subst h;simp
  ·exact B7g _ (B0 h)
theorem Ag0 {key:Nat}(h:s.free key=true):(∀i v,get s.fr i=some v->v.names key=false)/\∀k o,k≠key->get s.ob k=some o->∀r∈o.rows,∀x∈r,x.names key=false:=by
 unfold St.free at h;simp only [B6h,B6q,B7b]at h;refine⟨λ i v hi=>h.1 _ (B0 hi),λ k o hk ho r hr x hx=> ?_⟩
 have:get (del s.ob key) k=some o:=by rw [B3,B6j hk];exact ho
 exact h.2 _ (B0 this) r hr x hx
theorem Bbc {key:Nat}(h:s.noLoc key=true):(∀i v,get s.fr i=some v->v.isLoc key=false)/\∀k o,get s.ob k=some o->∀r∈o.rows,∀x∈r,x.isLoc key=false:=by
 unfold St.noLoc at h;simp only [B6h,B6q,B7b]at h;exact⟨λ i v hi=>h.1 _ (B0 hi),λ k o ho r hr x hx=>h.2 _ (B0 ho) r hr x hx⟩
theorem T0.changeG {key:Nat}{o':Obj}{p':N4}(hm:T0 B F ρ s.ob w)(hB:¬B p'.g)
  (jG:∀k o p,key≠k->get s.ob k=some o->ρ k=some p->p.g≠p'.g)(hp2:∀a u,F a u->a.block≠p'.g)
  (iL:w.heap.size<=w'.heap.size)(kW:∀k,k<w.heap.size->k≠p'.g->w'.heap[k]? =w.heap[k]?)
  (hT:∀k o,k≠key->get s.ob k=some o->∀r∈o.rows,∀x∈r,∀v,AR F ρ s.ob x v->AR F (K0 ρ key (some p')) (s.obj key o').ob x v)
  (hc:Aph F (K0 ρ key (some p')) (s.obj key o').ob w'.heap[p'.g]? key o' p'):
  T0 B F (K0 ρ key (some p')) (s.obj key o').ob w' where
 facts:=⟨λ ad u hu=>by
  have h0:=hm.facts ad u hu;have aC:=Ayr h0;have aH:ad.block≠p'.g:=hp2 ad u hu;rw [World.cell?_of_block (kW _ aC aH)];exact h0,hm.facts.glob⟩
 big:=hm.big.le iL
 bare:=λ k o ho hk=>by
  rw [J2]at ho;by_cases h:key=k
  ·subst h;rw [E6]at hk;simp at hk
  ·rw [B6j h]at ho;rw [D6 _ (B6i h)]at hk;exact hm.bare k o ho hk
 own:=λ k o p ho hk=>by
  rw [J2]at ho;by_cases h:key=k
  ·subst h;rw [B6l rfl]at ho;rw [E6]at hk;simp only [B6g]at ho hk;subst ho;subst hk;exact⟨hB,hc⟩
  ·rw [B6j h]at ho;rw [D6 _ (B6i h)]at hk;obtain⟨g1,g2⟩:=hm.own k o p ho hk;have aC:=hm.lt ho hk;have aH:p.g≠p'.g:=jG k o p h ho hk;rw [kW _ aC aH];exact⟨g1,g2.imp λ r hr x hx v hv=>hT k o (B6i h) ho r hr x hx v hv⟩
 apart:=λ k o p ho hk ad u hu=>by
  rw [J2]at ho;by_cases h:key=k
  ·subst h;rw [E6]at hk;simp only [B6g]at hk;subst hk;exact hp2 ad u hu
  ·rw [B6j h]at ho;rw [D6 _ (B6i h)]at hk;exact hm.apart k o p ho hk ad u hu
 inj:=λ k o p k2 o2 p2 ho hk ho2 cG he=>by
  rw [J2]at ho ho2;have key_:=jG;by_cases h:key=k<;>by_cases h2:key=k2
  ·rw [<-h,<-h2]
  ·subst h;rw [B6j h2]at ho2;rw [D6 _ (B6i h2)]at cG;rw [E6]at hk;simp only [B6g]at hk;subst hk;exact absurd he.symm (key_ k2 o2 p2 h2 ho2 cG)
  ·subst h2;rw [B6j h]at ho;rw [D6 _ (B6i h)]at hk;rw [E6]at cG;simp only [B6g]at cG;subst cG;exact absurd he (key_ k o p h ho hk)
  ·rw [B6j h]at ho;rw [B6j h2]at ho2;rw [D6 _ (B6i h)]at hk;rw [D6 _ (B6i h2)]at cG;exact hm.inj k o p k2 o2 p2 ho hk ho2 cG he
theorem T0.changeC {key:Nat}{o':Obj}{p':N4}(hm:T0 B F ρ s.ob w)(hB:¬B p'.g)
  (wD:(∃o p,get s.ob key=some o/\ρ key=some p/\p.g=p'.g)\/w.heap.size<=p'.g)
  (iL:w.heap.size<=w'.heap.size)(kW:∀k,k<w.heap.size->k≠p'.g->w'.heap[k]? =w.heap[k]?)
  (hT:∀k o,k≠key->get s.ob k=some o->∀r∈o.rows,∀x∈r,∀v,AR F ρ s.ob x v->AR F (K0 ρ key (some p')) (s.obj key o').ob x v)
  (hc:Aph F (K0 ρ key (some p')) (s.obj key o').ob w'.heap[p'.g]? key o' p'):
  T0 B F (K0 ρ key (some p')) (s.obj key o').ob w':=by
 refine hm.changeG hB (λ k o p h ho hk=> ?_) (λ ad u hu=> ?_) iL kW hT hc
 ·rcases wD with ⟨o0,p0,q1,q2,q3⟩|rU
  ·intro he;exact h (hm.inj key o0 p0 k o p q1 q2 ho hk (by rw [q3,he]))
  ·have:=hm.lt ho hk;omega
 ·rcases wD with ⟨o,p,g1,g2,g3⟩|rU
  ·rw [<-g3];exact hm.apart key o p g1 g2 ad u hu
  ·have:=Ayr (hm.facts ad u hu);omega
theorem T0.change {key:Nat}{o':Obj}{p':N4}{cs:Array Value}{et:TypeId}(hK:key<MK)(dA:KT<=key->et+1=key/KT)(hto:KT<=key->p'.o=0)(hm:T0 B F ρ s.ob w)(hB:¬B p'.g)
  (wD:(∃o p,get s.ob key=some o/\ρ key=some p/\p.g=p'.g)\/w.heap.size<=p'.g)
  (iL:w.heap.size<=w'.heap.size)(kW:∀k,k<w.heap.size->k≠p'.g->w'.heap[k]? =w.heap[k]?)
  (hh:w'.heap[p'.g]? =some (.cells cs et (0,0)))(aW:cs.size=p'.o+p'.cap*p'.sz)(bM:o'.rows.length<=p'.cap)(aL:p'.sz=o'.sz)(eQ:∀r∈o'.rows,r.length=p'.sz)
  (hT:∀k o,k≠key->get s.ob k=some o->∀r∈o.rows,∀x∈r,∀v,AR F ρ s.ob x v->AR F (K0 ρ key (some p')) (s.obj key o').ob x v)
  (hc:∀(i:Nat)(r:List AV)(j:Nat)(x:AV),o'.rows[i]? =some r->r[j]? =some x->x.one=true/\∃u,cs[p'.o+i*p'.sz+j]? =some u/\AR F (K0 ρ key (some p')) (s.obj key o').ob x u):
  T0 B F (K0 ρ key (some p')) (s.obj key o').ob w':=
 hm.changeC hB wD iL kW hT ⟨λ _=>⟨⟨bM,aL,eQ,cs,et,hh,aW,hc⟩,λ h=>⟨hto h,λ bS et' fz hb=>by
  rw [hh]at hb;simp only [B6g,Go.Obj.cells.injEq]at hb;rw [<-hb.2.1];exact dA h⟩⟩,λ h=>by omega,λ h=>by omega⟩
theorem T0.change0 {key g sz cap:Nat}{o':Obj}{cs:Array Value}{et:TypeId}(hK:key<MK)(dA:KT<=key->et+1=key/KT)(hm:T0 B F ρ s.ob w)(hB:¬B g)
  (wD:(∃o p,get s.ob key=some o/\ρ key=some p/\p.g=g)\/w.heap.size<=g)
  (iL:w.heap.size<=w'.heap.size)(kW:∀k,k<w.heap.size->k≠g->w'.heap[k]? =w.heap[k]?)
  (hh:w'.heap[g]? =some (.cells cs et (0,0)))(aW:cs.size=cap*sz)(bM:o'.rows.length<=cap)(aL:sz=o'.sz)(eQ:∀r∈o'.rows,r.length=sz)
  (hT:∀k o,k≠key->get s.ob k=some o->∀r∈o.rows,∀x∈r,∀v,AR F ρ s.ob x v->AR F (K0 ρ key (some ⟨g,sz,cap,0⟩)) (s.obj key o').ob x v)
  (hc:∀(i:Nat)(r:List AV)(j:Nat)(x:AV),o'.rows[i]? =some r->r[j]? =some x->x.one=true/\∃u,cs[i*sz+j]? =some u/\AR F (K0 ρ key (some ⟨g,sz,cap,0⟩)) (s.obj key o').ob x u):
  T0 B F (K0 ρ key (some ⟨g,sz,cap,0⟩)) (s.obj key o').ob w':=
 T0.change (p':=⟨g,sz,cap,0⟩) hK dA (λ _=>rfl) hm hB wD iL kW hh (by simpa using aW) bM aL eQ hT (λ i r j x h1 h2=>by simpa using hc i r j x h1 h2)
theorem T0.fewer (hm:T0 B F ρ ob w)(hs:∀k o,get aA k=some o->get ob k=some o):T0 B F ρ aA w where
 facts:=hm.facts
 big:=hm.big
 bare:=λ k o h=>hm.bare k o (hs k o h)
 own:=λ k o p h1 h2=>by
  obtain⟨g1,g2⟩:=hm.own k o p (hs k o h1) h2;exact⟨g1,g2.imp λ r hr x hx v hv=>hv.sub hs⟩
 apart:=λ k o p h1 h2=>hm.apart k o p (hs k o h1) h2
 inj:=λ k o p k' o' p' h1 h2 h3 h4=>hm.inj k o p k' o' p' (hs k o h1) h2 (hs k' o' h3) h4
theorem Awt (ob:OL)(k:Nat):∀j o,get (del ob k) j=some o->get ob j=some o:=λ j o h=>by
 grind [B3]
theorem Ayt {α:Type}{p:Nat×α}{k:Nat}:∀{l:List (Nat×α)},p∈del l k->p∈l
 |[],h=>by simp [del]at h
 |(j,v)::l,h=>by
  simp only [del]at h;split at h
  ·exact B7g _ (Ayt h)
  ·rcases B6r.1 h with rfl|h
   ·simp
   ·exact B7g _ (Ayt h)
theorem A2t {α:Type}(k j:Nat):∀l:List (Nat×α),del (del l k) j=del (del l j) k
 |[]=>rfl
 |(i,v)::l=>by
  have ih:=A2t k j l;grind [del]
theorem Bnk {key k:Nat}(h:s.free key=true):St.free ⟨s.fr,del s.ob k⟩ key=true:=by
 simp only [St.free,B6h,B6q,B7b]at h ⊢;refine⟨h.1,λ p hp=>h.2 p ?_⟩
 rw [A2t]at hp;exact Ayt hp
theorem N7 {key k:Nat}{o':Obj}(h:k≠key):get (s.obj key o').ob k=get s.ob k:=by rw [J2,B6j (B6i h)]
theorem N9 {key:Nat}{o':Obj}:get (s.obj key o').ob key=some o':=by rw [J2,B6l rfl]
theorem S5 {key:Nat}{o':Obj}{p':Option N4}(h:s.free key=true):(∀k o,k≠key->get s.ob k=some o->∀r∈o.rows,∀x∈r,∀v,AR F ρ s.ob x v->AR F (K0 ρ key p') (s.obj key o').ob x v)/\
  (Fr F ρ s.ob s.fr a->Fr F (K0 ρ key p') (s.obj key o').ob s.fr a):=by
 obtain⟨h1,h2⟩:=Ag0 h;exact⟨λ k o hk ho r hr x hx v hv=>hv.upd (h2 k o hk ho r hr x hx) (λ k hk=>D6 _ hk) (λ k hk=>N7 hk),
  λ hf i v hi=>(hf i v hi).upd (h1 i v hi) (λ k hk=>D6 _ hk) (λ k hk=>N7 hk)⟩
theorem DR.one {d:D}{v:Value}(h:DR F d v):v.oneCell'=true:=by cases h<;>first|rfl|exact(Oth.one (by assumption)).1
theorem DR.cells {d:D}{v:Value}(h:DR F d v):v.cells= #[v]:=by cases h<;>first|rfl|exact(Oth.one (by assumption)).2
theorem Ab7 {x:AV}{cs:List AV}{v:Value}(h:s.cellsOf x=some cs)(hr:AR F ρ s.ob x v):
  ∃us:List Value,v.cells=us.toArray/\C9 (AR F ρ s.ob) cs us/\(∀u∈us,u.oneCell'=true)/\(∀c∈cs,c.one=true)/\(∀key,x.names key=false->∀c∈cs,c.names key=false):=by
 unfold St.cellsOf at h;split at h
 ·rename_i d;simp only [B6g]at h;subst h;exact⟨[v],DR.cells hr,.cons hr .nil,by simp [DR.one hr],by simp [AV.one],by simp [AV.names,AV.names1]⟩
 ·rename_i ds;simp only [B6g]at h;subst h;obtain⟨us,rfl,fI⟩:=hr;refine⟨us,rfl,?_,?_,?_,?_⟩
  ·refine C9.of_get (by simp [A6u,fI.length]) λ i c hc=> ?_
   simp only [A6u,B7m,B6m]at hc;obtain⟨d,hd,rfl⟩:=hc;obtain⟨u,hu,gU⟩:=fI.get? i d hd;refine⟨u,hu,?_⟩;cases d with
   |nil sz=>cases gU with|nil _=>rfl
   |ot x=>cases gU with|ot _ _ h=>exact h
   |_=>exact gU
  ·intro u hu;obtain⟨i,hi⟩:=B7t hu;have aC:=(B6n.1 hi).1;have hd:ds[i]? =some (ds[i]'(by rw [fI.length];exact aC)):=B6w _
   obtain⟨u',qY,gU⟩:=fI.get? i _ hd;rw [hi]at qY;simp only [B6g]at qY;subst qY;exact DR.one gU
  ·intro c hc;simp only [A6u,B6z]at hc;obtain⟨d,_,rfl⟩:=hc;cases d<;>rfl
  ·intro key _ c hc;simp only [A6u,B6z]at hc;obtain⟨d,_,rfl⟩:=hc;cases d<;>rfl
 ·simp only [B6g]at h;subst h;obtain rfl:v=_:=hr;exact⟨[.slice none 0 0],rfl,.cons rfl .nil,by simp [Value.oneCell'],by simp [AV.one],by simp [AV.names,AV.names1]⟩
 ·rename_i k ver st n;split at h
  ·rename_i o ho;split at h
   ·rename_i hc;simp only [B6g]at h;subst h;obtain⟨y,c,rfl,_⟩:=SlR.form ((hr.2 o ho).2 hc.1 hc.2);exact⟨[.slice y n c],rfl,.cons hr .nil,by simp [Value.oneCell'],by simp [AV.one],λ key hk c hc=>by simp at hc;subst hc;exact hk⟩
   ·simp at h
  ·simp at h
 ·rename_i k r f;simp only [B6m]at h;obtain⟨o,ho,rfl⟩:=h;obtain⟨p,_,hv⟩:=hr.2 o ho;exact⟨[v],by rw [hv];rfl,.cons hr .nil,by rw [hv];simp [Value.oneCell'],by simp [AV.one],λ key hk c hc=>by simp at hc;subst hc;exact hk⟩
 ·rename_i k;simp only [B6m]at h;obtain⟨o,ho,rfl⟩:=h;obtain⟨p,_,hv⟩:=hr.2.2 o ho;exact⟨[v],by rw [hv];rfl,.cons hr .nil,by rw [hv];simp [Value.oneCell'],by simp [AV.one],λ key hk c hc=>by simp at hc;subst hc;exact hk⟩
 ·rename_i y;simp only [B6g]at h;subst h;have hv:=Oth.one (show y.Is v from hr)
  exact⟨[v],hv.2,.cons hr .nil,by simp [hv.1],by simp [AV.one],λ key hk c hc=>by simp at hc;subst hc;exact hk⟩
 ·rename_i cs0;split at h
  ·rename_i cA;simp only [B6g]at h;subst h;obtain⟨vs,rfl,hall,h1⟩:=hr;rw [B6q]at cA;refine⟨vs,rfl,hall.imp λ _ _ h=> .of1 h,h1,cA,λ key hk c hc=> ?_⟩
   simp only [AV.names,B7p]at hk;have h2:=hk c hc;have h3:=cA c hc;cases c<;>simp_all [AV.names,AV.one]
  ·simp at h
 ·simp at h
theorem A2u {x:AV}{v:Value}{key:Nat}(h:cst x v=true):x.names key=false:=by
 unfold cst at h;grind [AV.names,AV.names1]
theorem A2v {x:Operand}{y:J8}{v:AV}{key:Nat}(hc:M3 x y=true)(h:s.opd y=some v)(hf:s.free key=true):v.names key=false:=by
 unfold M3 at hc;split at hc
 ·simp only [St.opd]at h;exact(Ag0 hf).1 _ _ h
 ·simp only [St.opd,B6g]at h;subst h;exact A2u hc
 ·simp only [St.opd,B6g]at h;subst h;rfl
 ·simp at hc
theorem Bfz {key:Nat}{cs:List AV}{us:List Value}{et:TypeId}(hK:key<MK)(dA:KT<=key->et+1=key/KT)(hm:T0 B F ρ s.ob w)(hf:Fr F ρ s.ob s.fr a)(aG:s.free key=true)(aW:C9 (AR F ρ s.ob) cs us)(cA:∀c∈cs,c.one=true)(hn:∀c∈cs,c.names key=false):
  Aby B F w s.fr a (s.obj key ⟨cs.length,[cs]⟩).ob (.loc key 0 0) (.pointer (some ⟨w.heap.size,0,none⟩)) (w.alloc (.cells us.toArray et)):=by
 obtain⟨hT,qZ⟩:=S5 (F:=F) (ρ:=ρ) (a:=a) (o':=⟨cs.length,[cs]⟩) (p':=some ⟨w.heap.size,cs.length,1,0⟩) aG;refine⟨F,K0 ρ key (some ⟨w.heap.size,cs.length,1,0⟩),?_,qZ hf,?_,.refl F,(Bel.refl _ _).alloc hm.big _,λ _ _ h=> .inl h⟩
 ·refine T0.change0 (cs:=us.toArray) (et:=et) hK dA hm hm.big.self (.inr (B6u _)) (by simp) (λ k hk _=>Below.heap_alloc w _ k hk) (heap_alloc_new w _) (by simp [aW.length]) (by simp) rfl (by simp) hT ?_
  intro i r j x hi hj;cases i with
  |zero=>
   simp at hi;subst hi;obtain⟨u,hu,fH⟩:=aW.get? j x hj;have hx:=B6t hj;exact⟨cA x hx,u,by simpa using hu,fH.upd (hn x hx) (λ k hk=>D6 _ hk) (λ k hk=>N7 hk)⟩
  |succ i=>simp at hi
 ·exact⟨hK,λ o ho=>⟨_,E6 _ _,by simp⟩⟩
def Ac3 (P:Program)(o:Oper)(key:Nat):Bool:=decide (key<KT)||match o.op with
 | .alloc t=>t+1==key/KT
 | .box t _=>t+1==key/KT
 | .makeSlice t _ _=>(match P.underlying t with|some (.slice e)=>e+1==key/KT|_=>false)
 | .buildSlice t _ _=>(match P.underlying t with|some (.slice e)=>e+1==key/KT|_=>false)
 | .call {callee:=_,args:=_,argTypes:=ts}=>(match ts.toList with|t::_=>(match P.underlying t with|some (.slice e)=>e+1==key/KT|_=>false)|[]=>false)
 |_=>false
theorem Ahi {o:Oper}{key:Nat}{b:Bool}(h:(decide (key<KT)||b)=true){e:Nat}(he:b=(e+1==key/KT)):KT<=key->e+1=key/KT:=by
 grind
def Bem (o:Oper)(x:J8):Bool:=match o.op with| .box _ x'=>M3 x' x|_=>false
theorem Bnl {key:Nat}{x:J8}{v:AV}{cs:List AV}(hK:key<MK)(hT:Ac3 P o key=true)(hm:T0 B F ρ s.ob w)(hf:Fr F ρ s.ob s.fr a)(hc:Bem o x=true)(h1:s.opd x=some v)(h2:s.cellsOf v=some cs)(aG:s.free key=true):
  Abr P o a w (Aby B F w s.fr a (s.obj key ⟨cs.length,[cs]⟩).ob (.loc key 0 0)):=by
 unfold Bem at hc;split at hc
 ·rename_i t x' aK;have hr:=A2 hf hc h1;obtain⟨us,fI,hall,_,cA,hn⟩:=Ab7 h2 hr;refine C5 (w':=w.alloc (.cells us.toArray t)) (u:= .pointer (some ⟨w.heap.size,0,none⟩)) ?_ (Bfz hK (by simp only [Ac3,aK]at hT;exact Ahi (o:=o) hT rfl) hm hf aG hall cA (hn key (A2v hc h1 aG)))
  simp [execOp,aK,Instr.box,newVar,newRow,fI]
 ·simp at hc
def Bf0 :List AV->List Value->Bool
 |[],[]=>true
 |x::xs,v::vs=>cst x v&&x.one&&Bf0 xs vs
 |_,_=>false
theorem Ah8 :∀{cs:List AV}{vs:List Value},Bf0 cs vs=true->C9 (AR F ρ ob) cs vs/\(∀c∈cs,c.one=true)/\∀key,∀c∈cs,c.names key=false
 |[],[],_=>⟨.nil,by simp,by simp⟩
 |x::xs,v::vs,h=>by
  simp only [Bf0,B6h]at h;obtain⟨⟨h1,h2⟩,h3⟩:=h;obtain⟨g1,g2,g3⟩:=Ah8 h3;exact⟨.cons (Asb h1) g1,by simpa [h2]using g2,λ key=>by simpa [A2u h1]using g3 key⟩
 |[],_::_,h=>by simp [Bf0]at h
 |_::_,[],h=>by simp [Bf0]at h
def Ap4 (P:Program)(t:TypeId)(f:Value->Bool):Bool:=match P.info? t with|some i=>(match i.zero with|some z=>f z|none=>false)|none=>false
theorem Acy {t:TypeId}{f:Value->Bool}(h:Ap4 P t f=true):∃i z,P.info? t=some i/\i.zero=some z/\f z=true:=by
 grind [Ap4]
def Ben (P:Program)(o:Oper)(cs:List AV):Bool:=match o.op with| .alloc t=>Ap4 P t λ z=>Bf0 cs z.cells.toList|_=>false
theorem Bnm {key:Nat}{cs:List AV}(hK:key<MK)(hT:Ac3 P o key=true)(hm:T0 B F ρ s.ob w)(hf:Fr F ρ s.ob s.fr a)(hc:Ben P o cs=true)(aG:s.free key=true):
  Abr P o a w (Aby B F w s.fr a (s.obj key ⟨cs.length,[cs]⟩).ob (.loc key 0 0)):=by
 unfold Ben at hc;split at hc
 ·rename_i t aK;obtain⟨i,z,hi,hz,aW⟩:=Acy hc;obtain⟨g1,g2,g3⟩:=Ah8 (F:=F) (ρ:=ρ) (ob:=s.ob) aW;refine C5 (w':=w.alloc (.cells z.cells.toList.toArray t)) (u:= .pointer (some ⟨w.heap.size,0,none⟩)) ?_ (Bfz hK (by simp only [Ac3,aK]at hT;exact Ahi (o:=o) hT rfl) hm hf aG g1 g2 (g3 key))
  simp [execOp,aK,Instr.alloc,zeroValue,typeInfo,hi,hz,newVar,newRow]
 ·simp at hc
end
end Go.Am
