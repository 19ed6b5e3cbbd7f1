import Derived.Test.YtgnjaophoffbbaaGreatB4
import Derived.Shelf.SlSortCmp.NoneTotal
import Derived.Test.YtgnjaophoffbbaaGreatLayHl
import Derived.Test.YtgnjaophoffbbaaGreatHb
import Derived.LoopN
import Derived.StillTailTactics
import Derived.Test.YtgnjaophoffbbaaGreatHa
set_option maxHeartbeats 4000000
set_option maxRecDepth 20000
set_option linter.unusedVariables false
set_option linter.unusedSimpArgs false
set_option linter.unusedSectionVars false
namespace Go.Am
open Go.Proofs Go.Shelf Go.RowKit Go.Sort
section
variable {α : Type} [BEq α] [LawfulBEq α] [Inhabited α]
def Bmz (lt:α->α->Bool)(x:α):List α->List α
 |[]=>[x]
 |y::l=>if lt y x then y::Bmz lt x l else x::y::l
def Byw (lt:α->α->Bool):List α->List α
 |[]=>[]
 |x::l=>Bmz lt x (Byw lt l)
def Y7 (lt:α->α->Bool)(l:List α):Bool:=l.all λ x=>l.all λ y=>lt x y||lt y x||x==y
def Ai2 (lt:α->α->Bool)(l:List α):List α:=if Y7 lt l then Byw lt l else(pdq lt l.toArray 0 l.length (Lib.bitLen l.length) true true).toList
theorem Asy (lt:α->α->Bool)(x:α):∀l,(Bmz lt x l).Perm (x::l)
 |[]=> .refl _
 |y::l=>by
  unfold Bmz;split
  ·exact((Asy lt x l).cons y).trans (.swap x y l)
  ·exact .refl _
theorem Ag8 (lt:α->α->Bool):∀l,(Byw lt l).Perm l
 |[]=> .refl _
 |x::l=>(Asy lt x _).trans ((Ag8 lt l).cons x)
theorem Bae {lt:α->α->Bool}(h:SWO lt){x y:α}(h1:lt x y=true):lt y x=false:=by
 cases h2:lt y x with
 |false=>rfl
 |true=>have:=h.trans _ _ _ h1 h2;rw [h.irrefl]at this;exact absurd this (by simp)
theorem Atq {lt:α->α->Bool}(h:SWO lt)(x:α):∀{l:List α},l.Pairwise (λ a b=>lt b a=false)->(Bmz lt x l).Pairwise (λ a b=>lt b a=false)
 |[],_=>by simp [Bmz]
 |y::l,hl=>by
  have h':=B9j.1 hl;unfold Bmz;split
  ·rename_i hyx;refine B9j.2 ⟨λ z hz=> ?_,Atq h x h'.2⟩
   have lR:=(Asy lt x l).mem_iff.1 hz;simp only [B6r]at lR;rcases lR with rfl|lR
   ·exact Bae h hyx
   ·exact h'.1 z lR
  ·rename_i hyx;refine B9j.2 ⟨λ z hz=> ?_,hl⟩
   simp only [B6r]at hz;rcases hz with rfl|hz
   ·simpa using hyx
   ·exact h.ntrans _ _ _ (h'.1 z hz) (by simpa using hyx)
theorem Afw {lt:α->α->Bool}(h:SWO lt):∀l,(Byw lt l).Pairwise (λ a b=>lt b a=false)
 |[]=> .nil
 |x::l=>Atq h x (Afw h l)
theorem Abk {lt:α->α->Bool}(h:SWO lt):∀{a b:List α},a.Pairwise (λ a b=>lt b a=false)->b.Pairwise (λ a b=>lt b a=false)->a.Perm b->(∀x∈a,∀y∈a,lt x y=false->lt y x=false->x=y)->a=b
 |[],b,_,_,hp,_=>(List.nil_perm.1 hp).symm
 |x::a,[],_,_,hp,_=>by have:=hp.length_eq;simp at this
 |x::a,y::b,ha,hb,hp,ht=>by
  have ha':=B9j.1 ha;have rT:=B9j.1 hb;have h1:x∈y::b:=hp.mem_iff.1 (by simp)
  have h2:y∈x::a:=hp.mem_iff.2 (by simp)
  have yL:x=y:=by
   grind
  subst yL;rw [Abk h ha'.2 rT.2 ((List.perm_cons x).1 hp) λ u hu v hv=>ht u (by simp [hu]) v (by simp [hv])]
theorem A3u {lt:α->α->Bool}(h:SWO lt)(l:List α):(pdq lt l.toArray 0 l.length (Lib.bitLen l.length) true true).toList.Perm l:=by
 have:=(pdq_sorts lt h l.toArray 0 l.length (Lib.bitLen l.length) true true (B81 _) (by simp) (Or.inl rfl)).1
 obtain⟨h1,_,h3⟩:=this;grind [List.size_toArray,Array.extract_size]
theorem Atr {lt:α->α->Bool}(h:SWO lt)(l:List α):(pdq lt l.toArray 0 l.length (Lib.bitLen l.length) true true).toList.Pairwise (λ a b=>lt b a=false):=by
 have h1:=(pdq_sorts lt h l.toArray 0 l.length (Lib.bitLen l.length) true true (B81 _) (by simp) (Or.inl rfl))
 have hs:(pdq lt l.toArray 0 l.length (Lib.bitLen l.length) true true).size=l.length:=by have:=h1.1.1;simpa using this
 generalize pdq lt l.toArray 0 l.length (Lib.bitLen l.length) true true=d at h1 hs;rw [List.pairwise_iff_getElem];intro i j hi hj rS;have:=h1.2 i j (B81 _) rS (by simp at hj;omega)
 grind [Array.length_toList]
theorem Azf {lt:α->α->Bool}(h:SWO lt)(l:List α):Ai2 lt l=(pdq lt l.toArray 0 l.length (Lib.bitLen l.length) true true).toList:=by
 grind [Ai2,Abk,Afw,Atr,Ag8,A3u,Y7,List.all_eq_true]
theorem Ad8 {lt:α->α->Bool}(h:SWO lt)(l:List α):(Ai2 lt l).Perm l:=by rw [Azf h];exact A3u h l
theorem A8u {lt:α->α->Bool}(h:SWO lt)(l:List α):(Ai2 lt l).Pairwise (λ a b=>lt b a=false):=by rw [Azf h];exact Atr h l
end
def Ai3 (k:Nat)(x:List Int):List Value:=(List.range k).map λ i=> .int .i64 (x.getD i 0)
def Ax7 :List AV->Option (List Int)
 |[]=>some []
 | .c (.int .i64 z)::r=>(Ax7 r).map (z:: ·)
 |_::_=>none
def Ai4 (z:List Int):List AV:=z.map λ n=> .c (.int .i64 n)
def Aum (k:Nat):O4->Option (List (List Int))
 |[]=>some []
 |r::rs=>match Ax7 r,Aum k rs with
  |some z,some l=>if z.length=k then some (z::l)else none
  |_,_=>none
theorem A3v :∀z,Ax7 (Ai4 z)=some z
 |[]=>rfl
 |n::z=>by
  have:=A3v z;grind [Ai4,Ax7]
theorem Ax8 :∀{r:List AV}{z:List Int},Ax7 r=some z->r=Ai4 z
 |[],z,h=>by simp only [Ax7,B6g]at h;subst h;rfl
 |x::r,z,h=>by
  unfold Ax7 at h;split at h
  ·simp at*
  ·rename_i n r' heq;simp only [B76]at heq;obtain⟨rfl,rfl⟩:=heq;cases hr:Ax7 r with
   |none=>rw [hr]at h;simp at h
   |some l'=>
    rw [hr]at h;simp only [B7h,B6g]at h;subst h;rw [Ax8 hr];rfl
  ·simp at h
theorem Asz {β:Type}(k:Nat)(f:β->List Int)(hf:∀b,(f b).length=k):∀l:List β,Aum k (l.map λ b=>Ai4 (f b))=some (l.map f)
 |[]=>rfl
 |b::l=>by
  simp only [B6v,Aum,A3v,Asz k f hf l,hf,B68]
theorem Ax9 {k:Nat}:∀{r:O4}{l:List (List Int)},Aum k r=some l->r=l.map Ai4/\∀z∈l,z.length=k
 |[],l,h=>by simp only [Aum,B6g]at h;subst h;simp
 |x::r,l,h=>by
  unfold Aum at h;split at h
  ·rename_i z l' h1 h2;split at h
   ·rename_i hz;simp only [B6g]at h;subst h;obtain⟨e1,e2⟩:=Ax9 h2;grind [Ax8]
   ·simp at h
  ·simp at h
abbrev CfO :=Nat->AV->OL->Option (List Int->List Int->Int)
def S7 (k:Nat)(cfo:CfO)(s:St):Option (List AV×OL):=
 match get s.fr 0,get s.fr 1,get s.fr 2 with
 |some (.sl key ver start len),some x,none=>match get s.ob key with
  |some o=>if o.sz=k/\o.rows.length=ver/\start=0/\len=ver/\ver<4611686018427387904 then(match cfo key x s.ob,Aum k o.rows with
    |some cf,some l=>some ([],(key,⟨k,(Ai2 (ltOf cf) l).map Ai4⟩)::del s.ob key)
    |_,_=>none)
   else none
  |none=>none
 |_,_,_=>none
def Bt6 (P:Program)(k:Nat)(cfo:CfO):Prop:=∀(B:Bd)(F:A8)(ρ:Map)(ob:OL)(w:World)(key:Nat)(x:AV)(v:Value)(cf:List Int->List Int->Int)(o:Obj),cfo key x ob=some cf->T0 B F ρ ob w->AR F ρ ob x v->get ob key=some o->
 SWO (ltOf cf)/\∃(g':Nat)(cb:Array Value),v= .func (.func g') #[] cb/\(∀args w,(callFunc g' args).run P w= .ok (.enter g' args) w)/\
  ∀W:World,(∀j,j<w.heap.size->(∀p,ρ key=some p->j≠p.g)->W.heap[j]? =w.heap[j]?)->∀a b:List Int,Calls P g' (#[.agg (Ai3 k a).toArray,.agg (Ai3 k b).toArray]++cb) W λ e w'=>e= .returned (.int .i64 (cf a b))/\∃q os',w'=grow (W.drewN q) os'
theorem Baf (k:Nat)(x:List Int)(j:Nat)(hj:j<k):(Ai3 k x)[j]! = .int .i64 (x.getD j 0):=by
 grind [Ai3]
theorem Ats {P:Program}{τ:Ren}(L:SlLaysF0.n6 P τ)(k:Nat)(hk:0<k)(aE:∀w,(isAgg (τ.t 24)).run P w= .ok true w)(zE:∀w,(Go.sizeOf (τ.t 24)).run P w= .ok k w)
  (cfo:CfO)(oF:Bt6 P k cfo):D9 P (τ.f 6) (S7 k cfo):=by
 intro γ B F ρ fr ob w us rs aA hn cM hm hf h;unfold S7 at h;split at h
 case h_2=>simp at h
 rename_i key ver start len xv h0 h1 h2;split at h
 case h_2=>simp at h
 rename_i o ho;simp only at h0 h1 h2 ho;split at h
 case isFalse=>simp at h
 rename_i hc;obtain⟨c1,c2,rfl,rfl,c5⟩:=hc;split at h
 case h_2=>simp at h
 rename_i cf l vN hl;simp only [B6g,B6k]at h;obtain⟨rfl,rfl⟩:=h;obtain⟨aQ,iS⟩:=Ax9 hl;have hG:(0:Nat)<GB:=by decide
 have hG1:(1:Nat)<GB:=by decide
 have hv:=hf 0 _ h0;have sR:=hf 1 _ h1;rw [B6l hG]at hv;rw [B6l hG1]at sR;obtain⟨hK,hv⟩:=hv;obtain⟨_,hv⟩:=hv o ho;have hv:=hv c2 (by omega)
 have aF:l.length=len:=by rw [<-c2,aQ,B6s]
 obtain⟨hO,g',cb,sR,eg,hcmp⟩:=oF B F ρ ob w key xv _ cf o vN hm sR ho;have hu:∃u,us=[u,.func (.func g') #[] cb]/\us.getD 0 undef=u:=by
  match us,cM,sR with
  |[],_,sR=>simp [undef]at sR
  |[u],_,sR=>simp [undef]at sR
  |[u,v],_,sR=>
   grind
  |u::v::x::r,cM,_=>
   grind
 obtain⟨u,rfl,hu⟩:=hu;rw [hu]at hv;unfold SlR at hv;have jZ:=Ad8 hO l;have dR:(Ai2 (ltOf cf) l).length=len:=by rw [jZ.length_eq,aF]
 cases hρ:ρ key with
 |none=>
  rw [hρ]at hv;obtain⟨hz,rfl⟩:=hv;have iE:l=[]:=B66 (by omega)
  subst iE;have eU:Ai2 (ltOf cf) ([]:List (List Int))=[]:=B66 (by rw [dR];exact hz)
  rw [eU];have hg:∀k' o',get ((key,(⟨k,([]:List (List Int)).map Ai4⟩:Obj))::del ob key) k'=some o'->∃o,get ob k'=some o/\(k'<MK->o.rows.length=o'.rows.length):=λ k' o' h=>by
   grind [get,B3]
  have he:∀k',get ((key,(⟨k,([]:List (List Int)).map Ai4⟩:Obj))::del ob key) k'=get ob k':=λ k'=>by
   by_cases hk:key=k'
   ·subst hk;simp only [get,B68,ho];cases o;simp only at c1 aQ;subst c1;subst aQ;rfl
   all_goals grind [get,B3]
  refine(AnyF.slices_SortFunc_none L none 0 _ w).mono ?_;rintro e w' ⟨rfl,rfl⟩;refine⟨[],rfl,F,ρ,hm.congr he,λ i v hi hv=> ?_,.nil,.refl _ _ _⟩
  have:=hf i v hv;rw [B6j (by omega)]at this
  exact this.same hg
 |some p=>
  rw [hρ]at hv;obtain⟨bM,a,rfl,ha⟩:=hv;have ha:=ha (.inr rfl);subst ha;obtain⟨g1,g2,g3,g4,cur,et,hh,g5,g6⟩:=hm.cells hK ho hρ;have jG:p.sz=k:=by rw [g3,c1]
  have yO:p.g<w.heap.size:=by
   grind [Nat.lt_or_ge,Array.getElem?_eq_none]
  have hcur:∀(i j:Nat)(z:List Int),l[i]? =some z->j<k->cur[p.o+(i*k+j)]? =some (.int .i64 (z.getD j 0)):=by
   intro i j z hz hj;have kP:z.length=k:=iS z (B6t hz);have hx:(Ai4 z)[j]? =some (.c (.int .i64 (z.getD j 0))):=by
    grind [Ai4,List.getElem?_eq_getElem]
   obtain⟨_,u,hu,hr⟩:=g6 i (Ai4 z) j _ (by rw [aQ];simp [hz]) hx
   rw [jG,B9c]at hu;rw [hu];cases hr;rfl
  have aV:∀(d:List (List Int))(i:Nat)(hi:i<d.length),d.toArray[i]! =d[i]:=λ d i hi=>by
   grind
  have hH:HoldsK (Ai3 k) k w p.g (p.o+0*p.sz) l.toArray:=by
   intro t ht;simp only [size_flatK,B9a]at ht;have hd:t/k<l.length:=Nat.div_lt_of_lt_mul (by rwa [Nat.mul_comm]at ht)
   have oL:t%k<k:=Nat.mod_lt _ hk;have hc:=hcur (t/k) (t%k) l[t/k] (B6w hd) oL;rw [Nat.mul_comm (t/k) k,Nat.div_add_mod]at hc;rw [get_flatK _ _ _ _ (by simpa using ht),aV l _ hd,Baf k _ _ oL]
   grind [World.cell?,World.frozen?,Option.isSome_none]
  have fP:CmpLays P g' cb (Ai3 k) k cf p.g (p.o+0*p.sz) l.toArray.size w:=λ m os dk _ x y=>by
   refine hcmp _ (λ j hj aH=> ?_) x y
   have aH:=aH p hρ;simp only [sortWorldK,putRowK,grow,putRow,mapBlock,Sort.ahead];grind [Array.getElem?_append_left]
  have hC:=AnyQ.slices_SortFunc_eq L k aE zE (Ai3 k) (λ x=>by simp [Ai3]) (λ x v hv=>by
   simp only [Ai3,B6z]at hv;obtain⟨i,_,rfl⟩:=hv;rfl) cf hO g' cb p.g (p.o+0*p.sz) (p.cap-0) l.toArray w eg fP hH yO (by simp;omega)
  simp only [B9a,aF]at hC;refine hC.mono ?_;rintro e w' ⟨rfl,n,os,rfl⟩;have sS:pdq (ltOf cf) l.toArray 0 len (Lib.bitLen len) true true=(Ai2 (ltOf cf) l).toArray:=by
   rw [Azf hO,aF]
  rw [sS];obtain⟨R,hR⟩:∃R,Ai2 (ltOf cf) l=R:=⟨_,rfl⟩;rw [hR]at dR jZ ⊢;have hRk:∀z∈R,z.length=k:=λ z hz=>iS z (jZ.mem_iff.1 hz)
  have hw':(sortWorldK (Ai3 k) k w p.g (p.o+0*p.sz) n R.toArray os).heap[p.g]? =some (.cells (putCells id (p.o+0*p.sz) (flatK (Ai3 k) k R.toArray) cur) et (0,0)):=by
   simp only [sortWorldK,putRowK,grow,putRow,mapBlock,Sort.ahead];rw [B85 (by simpa using yO),Array.getElem?_modify,B6l rfl,hh]
   rfl
  have vO:∀k',k'<w.heap.size->k'≠p.g->(sortWorldK (Ai3 k) k w p.g (p.o+0*p.sz) n R.toArray os).heap[k']? =w.heap[k']? :=by
   intro k' aN aH;simp only [sortWorldK,putRowK,grow,putRow,mapBlock,Sort.ahead];grind [Array.getElem?_append_left]
  have aL:w.heap.size<=(sortWorldK (Ai3 k) k w p.g (p.o+0*p.sz) n R.toArray os).heap.size:=by
   grind [Array.size_append,Array.size_modify]
  generalize hW:sortWorldK (Ai3 k) k w p.g (p.o+0*p.sz) n R.toArray os=W at hw' vO aL;have bW:∀{x:AV}{v:Value},AR F ρ ob x v->AR F (K0 ρ key (some p)) ((⟨fr,ob⟩:St).obj key ⟨k,R.map Ai4⟩).ob x v:=by
   intro x v hx;have he:K0 ρ key (some p)=ρ:=by
    grind [K0]
   rw [he];refine hx.same λ k' o' aT=> ?_
   grind [N9,List.length_map,N7]
  have dA:KT<=key->et+1=key/KT:=λ h=>hm.typed hK ho hρ h _ _ _ hh
  have vP:=T0.change (s:=⟨fr,ob⟩) (o':=⟨k,R.map Ai4⟩) (p':=p) (et:=et) (w':=W) hK dA (hm.typed0 hK ho hρ) hm g1 (.inl ⟨o,p,ho,hρ,rfl⟩) aL vO hw'
   (by rw [<-g5];simp [putCells]) (by rw [B6s,dR];omega) jG (λ r hr=>by
    simp only [B6z]at hr;obtain⟨z,hz,rfl⟩:=hr;rw [jG,Ai4,B6s];exact hRk z hz) (λ k o hk ho r hr x hx v hv=>bW hv) (λ i r j x hi hj=>by
    simp only [B7m]at hi;cases hz:R[i]? with
    |none=>rw [hz]at hi;simp at hi
    |some z=>
     rw [hz]at hi;simp only [B7h,B6g]at hi;subst hi;have kP:=hRk z (B6t hz);simp only [Ai4,B7m]at hj;cases hzj:z[j]? with
     |none=>rw [hzj]at hj;simp at hj
     |some m=>
      rw [hzj]at hj;simp only [B7h,B6g]at hj;subst hj;have hi:=(B6n.1 hz).1;have mF:j<k:=by rw [<-kP];exact(B6n.1 hzj).1
      refine⟨rfl,.int .i64 m,?_,DR.int _ _⟩;rw [jG];have aC:i*k+j<R.length*k:=by
       have:=B79 k (show i+1<=R.length from hi)
       rw [B7z,B8z]at this;omega
      have hcz:p.o+i*k+j<cur.size:=by
       grind [Nat.mul_le_mul_right]
      simp only [putCells,Array.getElem?_mapIdx,Nat.zero_mul,B7u,size_flatK,B9a,B81,B7w,B78];rw [B7o hcz,B7h,B6l ⟨by omega,by omega⟩,show p.o+i*k+j-(p.o+0)=i*k+j by omega]
      have e1:(i*k+j)/k=i:=by
       grind [Nat.mul_comm,Nat.mul_add_div,Nat.div_eq_of_lt]
      have e2:(i*k+j)%k=j:=by
       rw [Nat.mul_comm,Nat.mul_add_mod,B74 mF]
      rw [id,get_flatK _ _ _ _ (by simpa using aC),e1,e2,aV R i hi,Baf k _ _ mF]
      have:R[i]=z:=by simpa [B6w hi]using hz
      rw [this,B8n,hzj];rfl)
  refine⟨[],rfl,F,K0 ρ key (some p),vP,λ i v hi hv=> ?_,.nil,.refl F,?_,λ _ _ h=> .inl h⟩
  ·have:=hf i v hv;rw [B6j (by omega)]at this
   exact bW this
  ·have hb:=hm.big;exact⟨by rw [<-hW];rfl,by rw [<-hW];rfl,by rw [<-hW];rfl,aL,λ k hk=>vO k (hb k hk) (λ e=>g1 (e▸hk))⟩
theorem Aya (k:Nat)(cfo:CfO)(s:St)(rs:List AV)(ob:OL)(R:List Nat)(hR:∀r∈R,GB<=r)(h:S7 k cfo s=some (rs,ob)):S7 k cfo ⟨E1 R s.fr,s.ob⟩=some (rs,ob):=by
 grind [GB,get,E1,E7,S7]
end Go.Am
namespace Go.Am
open Go.Proofs Go.Shelf Go.RowKit Go.Sort
def Byx (x y:List Int):Int:=Lib.compareInt (x.getD 0 0) (y.getD 0 0)
theorem Ag9 (f:List Int->Int)(x y:List Int):ltOf (λ x y=>Lib.compareInt (f x) (f y)) x y=decide (f x<f y):=by
 unfold ltOf Lib.compareInt;grind [Int.lt_trichotomy]
theorem W3 (f:List Int->Int):SWO (ltOf λ x y=>Lib.compareInt (f x) (f y)) where
 irrefl x:=by rw [Ag9];simp
 trans x y z h1 h2:=by rw [Ag9]at*;simp only [B6o]at*;omega
 ntrans x y z h1 h2:=by rw [Ag9]at*;simp only [B7k]at*;omega
def Bg8 :CfO:=λ _ x _=>match x with
 | .ot (.fn g)=>if g=G8 then some Byx else none
 |_=>none
theorem Bc3 (x y:List Int)(W:World):Calls Tryz.prog G8 #[.agg (Ai3 4 x).toArray,.agg (Ai3 4 y).toArray] W λ e w'=>e= .returned (.int .i64 (Byx x y))/\∃q os',w'=grow (W.drewN q) os':=by
 have ex:(Ai3 4 x).toArray= #[.int .i64 (x.getD 0 0),.int .i64 (x.getD 1 0),.int .i64 (x.getD 2 0),.int .i64 (x.getD 3 0)]:=rfl;have ey:(Ai3 4 y).toArray= #[.int .i64 (y.getD 0 0),.int .i64 (y.getD 1 0),.int .i64 (y.getD 2 0),.int .i64 (y.getD 3 0)]:=rfl;rw [ex,ey];unfold Byx;have lJ:=λ W'=>AnyG.cmp_Compare_int Tryz.cmpInt (x.getD 0 0) (y.getD 0 0) W'
 change ∀W',Calls Tryz.prog 55 _ _ _ at lJ;generalize Lib.compareInt (x.getD 0 0) (y.getD 0 0)=r at lJ ⊢;generalize x.getD 0 0=a at*;generalize x.getD 1 0=b at*;generalize x.getD 2 0=c at*;generalize x.getD 3 0=d at*;generalize y.getD 0 0=a' at*;generalize y.getD 1 0=b' at*;generalize y.getD 2 0=c' at*;generalize y.getD 3 0=d' at*
 go_enter Tryz.func54,Tryz.ntmps54
 go_wp2_with (go_at_call 55;refine(lJ _).mono ?_;rintro e w' ⟨rfl,rfl⟩)
 go_ret
 rw [alloc_eq_grow,alloc_eq_grow,grow_grow];exact⟨rfl,0,_,rfl⟩
theorem Bwn :Bt6 Tryz.prog 4 Bg8:=by
 intro B F ρ ob w key x v cf o hc hm hx ho;unfold Bg8 at hc;split at hc
 case h_2=>simp at hc
 rename_i g;split at hc
 case isFalse=>simp at hc
 rename_i hg;subst hg;simp only [B6g]at hc;subst hc;exact⟨W3 _,_,#[],hx,enters_of Tryz.func54 (by kernel_rfl) rfl,λ W _ a b=>Bc3 a b W⟩
theorem A8v :D9 Tryz.prog 53 (S7 4 Bg8):=
 Ats Tryz.sortWr 4 (by omega) Tryz.isAgg72 Tryz.sizeOf72 Bg8 Bwn
end Go.Am
namespace Go.Am
open Go.Proofs Go.Shelf Go.RowKit Go.Sort
def Bfj (z:AV):Option (Nat×AV)->AV
 |some (_,u)=>u
 |none=>z
theorem Bkk {P:Program}{B:Bd}{F:A8}{ρ:Map}{ob:OL}{w W:World}{t:TypeId}{ks:KK}{zero k:AV}{key:Nat}{o0:Obj}{r:Option (Nat×AV)}{u ku:Value}(hm:T0 B F ρ ob w)(ht:Aqj P t ks=true)(hz:Ahj P t zero=true)(hr:AR F ρ ob (.mp key) u)(jN:AR F ρ ob k ku)(aD:get ob key=some o0)(hk:kOk ks k=true)
  (gV:Ah5 ks k o0.rows 0=some r)(hW:∀p,ρ key=some p->W.heap[p.g]? =w.heap[p.g]?):∃v vu,Bfj zero r=v/\AR F ρ ob v vu/\(Instr.lookup t u ku false).run P W= .ok vu W:=by
 obtain⟨kt,e,d,ht,gC,hd⟩:=Aam ht;obtain⟨z,iQ,iR⟩:=Ab9 (w:=W) (F:=F) (ρ:=ρ) (ob:=ob) ht hz;obtain⟨p,hρ,rfl⟩:=hr.2.2 o0 aD;obtain⟨_,hM⟩:=hm.map hr.1 hr.2.1 aD hρ;obtain⟨es,hb,hl,_,_,aQ⟩:=hM.list;obtain⟨q,q1,q2,q3,q4⟩:=Ad6 hd gC hk jN W o0.rows es.toList 0 r hl aQ gV;have bI:=Q9 gC hk jN es.isEmpty W;have jU:=V3 hd gC q1 q2;have rT:W.heap[p.g]? =some (.map es o0.sz):=by rw [hW p hρ];exact hb
 have hg:(getObj p.g).run P W= .ok (.map es o0.sz) W:=by simp [getObj,Sem.run,rT]
 cases r with
 |none=>
  obtain rfl:=q4 rfl;exact⟨zero,z,rfl,iR,by simp [Instr.lookup,run_underlying ht,hg,bI,jU,iQ]⟩
 |some jv=>
  obtain⟨j,v⟩:=jv;obtain⟨e1,k1,rfl,_,_,fH,_⟩:=q3 j v rfl;exact⟨v,e1.val,rfl,fH,by simp [Instr.lookup,run_underlying ht,hg,bI,jU]⟩
theorem Bc4 {P:Program}{F:A8}{ρ:Map}{ob:OL}{W:World}{t:TypeId}{ks:KK}{zero k:AV}{ku:Value}(ht:Aqj P t ks=true)(hz:Ahj P t zero=true)(jN:AR F ρ ob k ku)(hk:kOk ks k=true):∃vu,AR F ρ ob zero vu/\(Instr.lookup t (.map none) ku false).run P W= .ok vu W:=by
 obtain⟨kt,e,d,ht,gC,hd⟩:=Aam ht;obtain⟨z,iQ,iR⟩:=Ab9 (w:=W) (F:=F) (ρ:=ρ) (ob:=ob) ht hz;have bI:=Q9 gC hk jN true W;have jU:(Instr.findKey kt ku []).run P W= .ok none W:=V3 hd gC (by simp [Instr.findAsking]) λ _=>rfl
 exact⟨z,iR,by simp [Instr.lookup,run_underlying ht,bI,jU,iQ]⟩
def gHC :List AV->Option HC
 |[.c (.int .i64 b),.agg [.int .i64 f,.int .i64 d],.agg [.int .i64 n,.int .i64 c]]=>if 0<=b then some ⟨b.toNat,f,d,n,c⟩else none
 |_=>none
def Bg9 :O4->Option (List HC)
 |[]=>some []
 |r::rs=>match gHC r,Bg9 rs with
  |some e,some l=>some (e::l)
  |_,_=>none
theorem Azg :∀l:List HC,Bg9 (l.map HC.row)=some l
 |[]=>rfl
 |e::l=>by
  have h1:gHC e.row=some e:=by simp only [HC.row,gHC,Int.natCast_nonneg,B68,Int.toNat_natCast]
  simp only [B6v,Bg9,Azg l,h1]
theorem Al5 :∀{r:O4}{l:List HC},Bg9 r=some l->r=l.map HC.row
 |[],l,h=>by simp only [Bg9,B6g]at h;subst h;rfl
 |x::r,l,h=>by
  unfold Bg9 at h;split at h
  ·rename_i e l' h1 h2;simp only [B6g]at h;subst h;rw [Al5 h2,B6v];congr 1;unfold gHC at h1;split at h1
   ·split at h1
    ·rename_i hb;simp only [B6g]at h1;subst h1;simp only [HC.row,Int.toNat_of_nonneg hb]
    ·simp at h1
   ·simp at h1
  ·simp at h
def nOf (cs:List HC)(x:List Int):Int:=match P5 cs (x.getD 0 0) (x.getD 1 0) 0 with|some (_,e)=>e.n|none=>0
def cOf (cs:List HC)(x:List Int):Int:=match P5 cs (x.getD 0 0) (x.getD 1 0) 0 with|some (_,e)=>e.c|none=>0
def cfN (cs:List HC)(x y:List Int):Int:=Lib.compareInt (nOf cs x) (nOf cs y)
def Ahv (key hk:Nat)(ob:OL):Option (List HC):=if hk=key then none else match get ob hk with
 |some ⟨3,[[_,.ot .nm,_]]⟩=>some []
 |some ⟨3,[[_,.mp K,_]]⟩=>match get ob K with
  |some o=>Bg9 o.rows
  |none=>none
 |_=>none
def Bc5 :CfO:=λ key x ob=>match x with
 | .clo g [.loc bk 0 0]=>if g=D7/\bk≠key/\key<MK then(match get ob bk with
  |some ⟨1,[[.loc hk 0 0]]⟩=>(Ahv key hk ob).map cfN
  |_=>none)else none
 |_=>none
theorem Byy :Aqj Tryz.prog 65 kk2=true/\Ahj Tryz.prog 65 (.agg [.int .i64 0,.int .i64 0])=true:=by decide+kernel
theorem dr2 {F:A8}{ρ:Map}{ob:OL}{a b:Int}{v:Value}(h:AR F ρ ob (.agg [.int .i64 a,.int .i64 b]) v):v= .agg #[.int .i64 a,.int .i64 b]:=by
 obtain⟨vs,rfl,h⟩:=h;cases h with
 |cons h1 h2=>cases h2 with
  |cons h3 h4=>
   cases h4;cases h1;cases h3;rfl
theorem Bha {B:Bd}{F:A8}{ρ:Map}{ob:OL}{w W:World}{k:Nat}{o:Obj}{p:N4}{r:List AV}{j:Nat}{x:AV}(hm:T0 B F ρ ob w)(hk:k<MK)(ho:get ob k=some o)(hρ:ρ k=some p)(hr:o.rows[0]? =some r)(hj:r[j]? =some x)(hW:W.heap[p.g]? =w.heap[p.g]?):∃u,W.cell? ⟨p.g,p.o+j,none⟩=some u/\AR F ρ ob x u:=by
 obtain⟨_,_,_,_,cur,et,hh,_,g6⟩:=hm.cells hk ho hρ;grind [World.cell?]
theorem A3w {W:World}{os:Array Go.Obj}{a:Addr}{v:Value}(h:W.cell? a=some v):(World.drew (grow W os)).cell? a=some v:=by
 have aC:a.block<W.heap.size:=by
  grind [Nat.lt_or_ge,World.cell?,Array.getElem?_eq_none]
 have he:(World.drew (grow W os)).heap[a.block]? =W.heap[a.block]? :=by
  show (W.heap++os)[a.block]? =_
  rw [B85 aC]
 simp only [World.cell?,he]at h ⊢;exact h
def Bt7 (P:Program)(t:TypeId)(i:Nat):Bool:=match P.underlying t with
 |some (.struct fs)=>match fs[i]? with
  |some f=>f.offset==0&&Abw P f.type 1&&Avh P f.type false
  |none=>false
 |_=>false
theorem Bkl {P:Program}{t:TypeId}{i:Nat}(h:Bt7 P t i=true)(n c:Int)(W:World):(Instr.field t (.agg #[.int .i64 n,.int .i64 c]) i).run P W= .ok (.int .i64 n) W:=by
 unfold Bt7 at h;split at h
 ·rename_i fs ht;split at h
  ·rename_i f lV;simp only [B6h,B62]at h;obtain⟨⟨h0,aL⟩,dJ⟩:=h;have hp:Go.part f.type #[Value.int .i64 n,.int .i64 c] f.offset=Go.part f.type #[Value.int .i64 n,.int .i64 c] 0:=by rw [h0]
   have hq:(Go.part f.type #[Value.int .i64 n,.int .i64 c] 0).run P W= .ok (.int .i64 n) W:=by
    simp only [Go.part,Sem.run_bind,T1 dJ,Result.andThen_ok];simp
   simp [Instr.field,run_underlying ht,lV,asAgg,hp,hq]
  ·simp at h
 ·simp at h
theorem Bwo :Bt7 Tryz.prog 97 0=true:=by decide+kernel
set_option maxRecDepth 20000 in
set_option maxHeartbeats 4000000 in
theorem Bqd (x y:List Int)(n m:Int)(bb bo' hb aT:Nat)(cm:Value)(W:World)(h0:W.cell? ⟨bb,bo',none⟩=some (.pointer (some ⟨hb,aT,none⟩)))(h1:W.cell? ⟨hb,aT+1,none⟩=some cm)
  (hl:∀os,∃c,(Instr.lookup 65 cm (.agg #[.int .i64 (x.getD 0 0),.int .i64 (x.getD 1 0)]) false).run Tryz.prog (World.drew (grow W os))= .ok (.agg #[.int .i64 n,.int .i64 c]) (World.drew (grow W os)))
  (hr:∀os,∃c,(Instr.lookup 65 cm (.agg #[.int .i64 (y.getD 0 0),.int .i64 (y.getD 1 0)]) false).run Tryz.prog (World.drew (grow W os))= .ok (.agg #[.int .i64 m,.int .i64 c]) (World.drew (grow W os))):
  Calls Tryz.prog D7 #[.agg (Ai3 2 x).toArray,.agg (Ai3 2 y).toArray,.pointer (some ⟨bb,bo',none⟩)] W λ e w'=>e= .returned (.int .i64 (Lib.compareInt n m))/\∃q os',w'=grow (W.drewN q) os':=by
 have ex:(Ai3 2 x).toArray= #[.int .i64 (x.getD 0 0),.int .i64 (x.getD 1 0)]:=rfl;have ey:(Ai3 2 y).toArray= #[.int .i64 (y.getD 0 0),.int .i64 (y.getD 1 0)]:=rfl;rw [ex,ey];generalize x.getD 0 0=a at*;generalize x.getD 1 0=b at*;generalize y.getD 0 0=c at*;generalize y.getD 1 0=d at*;have lJ:=λ W'=>AnyG.cmp_Compare_int Tryz.cmpInt n m W'
 change ∀W',Calls Tryz.prog 55 _ _ _ at lJ;generalize Lib.compareInt n m=r at lJ ⊢
 go_enter Tryz.func57,Tryz.ntmps57
 go_wp2
 refine wp_region_still_lit (by kernel_rfl) (by kernel_rfl) ?_
 have hg:∃os,World.drew ((W.alloc (Obj.cells #[Value.int IntKind.i64 a,Value.int IntKind.i64 b] 100)).alloc (Obj.cells #[Value.int IntKind.i64 c,Value.int IntKind.i64 d] 100))=World.drew (grow W os):=⟨_,by rw [alloc_eq_grow,alloc_eq_grow,grow_grow]⟩
 have c0:(World.drew ((W.alloc (Obj.cells #[Value.int IntKind.i64 a,Value.int IntKind.i64 b] 100)).alloc (Obj.cells #[Value.int IntKind.i64 c,Value.int IntKind.i64 d] 100))).cell? ⟨bb,bo',none⟩=some (.pointer (some ⟨hb,aT,none⟩)):=by rw [alloc_eq_grow,alloc_eq_grow,grow_grow];exact A3w h0
 have c1:(World.drew ((W.alloc (Obj.cells #[Value.int IntKind.i64 a,Value.int IntKind.i64 b] 100)).alloc (Obj.cells #[Value.int IntKind.i64 c,Value.int IntKind.i64 d] 100))).cell? ⟨hb,aT+1,none⟩=some cm:=by rw [alloc_eq_grow,alloc_eq_grow,grow_grow];exact A3w h1
 have c2:(World.drew ((W.alloc (Obj.cells #[Value.int IntKind.i64 a,Value.int IntKind.i64 b] 100)).alloc (Obj.cells #[Value.int IntKind.i64 c,Value.int IntKind.i64 d] 100))).cell? ⟨W.heap.size,0,none⟩=some (.int .i64 a):=by go_cell
 have c3:(World.drew ((W.alloc (Obj.cells #[Value.int IntKind.i64 a,Value.int IntKind.i64 b] 100)).alloc (Obj.cells #[Value.int IntKind.i64 c,Value.int IntKind.i64 d] 100))).cell? ⟨W.heap.size,1,none⟩=some (.int .i64 b):=by go_cell
 have c4:(World.drew ((W.alloc (Obj.cells #[Value.int IntKind.i64 a,Value.int IntKind.i64 b] 100)).alloc (Obj.cells #[Value.int IntKind.i64 c,Value.int IntKind.i64 d] 100))).cell? ⟨W.heap.size+1,0,none⟩=some (.int .i64 c):=by go_cell
 have c5:(World.drew ((W.alloc (Obj.cells #[Value.int IntKind.i64 a,Value.int IntKind.i64 b] 100)).alloc (Obj.cells #[Value.int IntKind.i64 c,Value.int IntKind.i64 d] 100))).cell? ⟨W.heap.size+1,1,none⟩=some (.int .i64 d):=by go_cell
 change wpStill _ _ (World.drew ((W.alloc (Obj.cells #[Value.int IntKind.i64 a,Value.int IntKind.i64 b] 100)).alloc (Obj.cells #[Value.int IntKind.i64 c,Value.int IntKind.i64 d] 100))) _ _ _;change wpStill _ _ _ (λ a'=>_) _ _
 generalize sI:World.drew ((W.alloc (Obj.cells #[Value.int IntKind.i64 a,Value.int IntKind.i64 b] 100)).alloc (Obj.cells #[Value.int IntKind.i64 c,Value.int IntKind.i64 d] 100))=w2 at*;obtain⟨os,tZ⟩:=hg;obtain⟨z1,hl⟩:=hl os;obtain⟨z2,hr⟩:=hr os;have lV:=λ n c W=>Bkl (P:=Tryz.prog) Bwo n c W
 rw [<-tZ]at hl hr;have hg:∃q os',w2=grow (W.drewN q) os':=⟨1,os,by rw [tZ];rfl⟩
 clear tZ
 still_step
 still_step
 still_step
 still_step
 still_step
 still_step
 still_step
 still_step
 still_step
 still_step
 still_step
 still_step
 still_step
 still_step
 still_call (lJ _)
 still_step
 refine wpStill_nil ?_;change Exit.then _ _ _ _ (World.drew ((W.alloc (Obj.cells #[Value.int IntKind.i64 a,Value.int IntKind.i64 b] 100)).alloc (Obj.cells #[Value.int IntKind.i64 c,Value.int IntKind.i64 d] 100)));rw [sI]
 go_wp2
 go_ret
 exact⟨rfl,hg⟩
theorem ar2 (F:A8)(ρ:Map)(ob:OL)(a b:Int):AR F ρ ob (.agg [.int .i64 a,.int .i64 b]) (.agg #[.int .i64 a,.int .i64 b]):=⟨[.int .i64 a,.int .i64 b],rfl,.cons (DR.int _ _) (.cons (DR.int _ _) .nil)⟩
theorem Bc6 {B:Bd}{F:A8}{ρ:Map}{ob:OL}{w W:World}{K:Nat}{o:Obj}{cs:List HC}{u:Value}(hm:T0 B F ρ ob w)(hr:AR F ρ ob (.mp K) u)(aD:get ob K=some o)(aW:Bg9 o.rows=some cs)(hW:∀p,ρ K=some p->W.heap[p.g]? =w.heap[p.g]?)(x:List Int):
  (Instr.lookup 65 u (.agg #[.int .i64 (x.getD 0 0),.int .i64 (x.getD 1 0)]) false).run Tryz.prog W= .ok (.agg #[.int .i64 (nOf cs x),.int .i64 (cOf cs x)]) W:=by
 have aM:=Al5 aW;have mf:=Ajb (x.getD 0 0) (x.getD 1 0) cs 0;rw [<-aM]at mf;obtain⟨v,vu,h1,h2,h3⟩:=Bkk hm Byy.1 Byy.2 hr (ar2 F ρ ob (x.getD 0 0) (x.getD 1 0)) aD rfl mf hW;rw [h3];cases hf:P5 cs (x.getD 0 0) (x.getD 1 0) 0 with
 |none=>
  grind [Bfj,dr2,nOf,cOf]
 |some p=>
  grind [Bfj,dr2,nOf,cOf]
theorem A8w {F:A8}{ρ:Map}{ob:OL}{W:World}(x:List Int):
  (Instr.lookup 65 (.map none) (.agg #[.int .i64 (x.getD 0 0),.int .i64 (x.getD 1 0)]) false).run Tryz.prog W= .ok (.agg #[.int .i64 (nOf [] x),.int .i64 (cOf [] x)]) W:=by
 obtain⟨vu,h2,h3⟩:=Bc4 (F:=F) (ρ:=ρ) (ob:=ob) (W:=W) Byy.1 Byy.2 (ar2 F ρ ob (x.getD 0 0) (x.getD 1 0)) rfl;rw [h3,dr2 h2];rfl
theorem Bwp :Bt6 Tryz.prog 2 Bc5:=by
 intro B F ρ ob w key x v cf o hc hm hx ho;unfold Bc5 at hc;split at hc
 case h_2=>simp at hc
 rename_i g bk;split at hc
 case isFalse=>simp at hc
 rename_i hg;obtain⟨rfl,hbk,sN⟩:=hg;split at hc
 case h_2=>simp at hc
 rename_i hk yP;simp only [B6m]at hc;obtain⟨cs,aW,rfl⟩:=hc;obtain⟨vs,rfl,eV⟩:=hx;obtain⟨v0,rfl,wH⟩:∃v0,vs=[v0]/\AR1 F ρ ob (.loc bk 0 0) v0:=by
  cases eV with
  |cons h1 h2=>cases h2;exact⟨_,rfl,h1⟩
 obtain⟨hbM,wH⟩:=wH;obtain⟨pb,wE,rfl⟩:=wH _ yP;refine⟨W3 (nOf cs),D7,_,rfl,enters_of Tryz.func57 (by kernel_rfl) rfl,λ W hW a b=> ?_⟩
 have aC:∀k' o' p',get ob k'=some o'->ρ k'=some p'->p'.g<w.heap.size:=λ k' o' p' h1 h2=>by
  obtain⟨b,hb⟩:=(hm.own k' o' p' h1 h2).2.some;grind [Nat.lt_or_ge,Array.getElem?_eq_none]
 have hWb:∀k' o' p',get ob k'=some o'->ρ k'=some p'->k'≠key->W.heap[p'.g]? =w.heap[p'.g]? :=λ k' o' p' h1 h2 h3=>by
  refine hW _ (aC k' o' p' h1 h2) λ p hp he=> ?_
  exact h3 (hm.inj k' o' p' key o p h1 h2 ho hp he)
 have hgW:∀(os:Array Go.Obj)(j:Nat),j<W.heap.size->(World.drew (grow W os)).heap[j]? =W.heap[j]? :=λ os j hj=>by
  show (W.heap++os)[j]? =_
  rw [B85 hj]
 obtain⟨u1,fF,hu1⟩:=Bha (r:=[.loc hk 0 0]) (j:=0) hm hbM yP wE rfl rfl (hWb _ _ _ yP wE hbk);unfold Ahv at aW;split at aW
 ·simp at aW
 rename_i fM;have main:∀(wv cmv nv:AV),get ob hk=some ⟨3,[[wv,cmv,nv]]⟩->(∀u,AR F ρ ob cmv u->∀(os:Array Go.Obj)(x:List Int),(Instr.lookup 65 u (.agg #[.int .i64 (x.getD 0 0),.int .i64 (x.getD 1 0)]) false).run Tryz.prog (World.drew (grow W os))= .ok (.agg #[.int .i64 (nOf cs x),.int .i64 (cOf cs x)]) (World.drew (grow W os)))->
   Calls Tryz.prog D7 (#[.agg (Ai3 2 a).toArray,.agg (Ai3 2 b).toArray]++[.pointer (some ⟨pb.g,pb.o+0*pb.sz+0,none⟩)].toArray) W λ e w'=>e= .returned (.int .i64 (cfN cs a b))/\∃q os',w'=grow (W.drewN q) os':=by
  intro wv cmv nv cP hl;obtain⟨hhM,hu1⟩:=hu1;obtain⟨ph,hph,rfl⟩:=hu1 _ cP;obtain⟨u2,dL,hu2⟩:=Bha (r:=[wv,cmv,nv]) (j:=1) hm hhM cP hph rfl rfl (hWb _ _ _ cP hph fM);have hl:=hl u2 hu2;simp only [Nat.zero_mul,B8y]at fF ⊢;exact Bqd a b (nOf cs a) (nOf cs b) pb.g pb.o ph.g ph.o u2 W fF dL (λ os=>⟨_,hl os a⟩) (λ os=>⟨_,hl os b⟩)
 split at aW
 ·rename_i wv nv cP;simp only [B6g]at aW;subst aW;refine main wv (.ot .nm) nv cP λ u hu os x=> ?_
  have hu:u= .map none:=hu;subst hu;exact A8w (F:=F) (ρ:=ρ) (ob:=ob) x
 ·rename_i wv K nv cP;split at aW
  case h_2=>simp at aW
  rename_i oK wP;refine main wv (.mp K) nv cP λ u hu os x=> ?_
  refine Bc6 hm hu wP aW (λ p hp=> ?_) x
  have aH:K≠key:=by have:=hu.1;omega
  grind [Nat.lt_or_ge,Array.getElem?_eq_none]
 ·simp at aW
theorem Bkm :D9 Tryz.prog 56 (S7 2 Bc5):=
 Ats Tryz.sortCe 2 (by omega) Tryz.isAgg100 Tryz.sizeOf100 Bc5 Bwp
end Go.Am
namespace Go.Am
open Go.Proofs Go.Shelf Go.RowKit Go.Sort
section
variable {α : Type} (b : α -> Nat) (kv vv : α -> AV)
def Am5 (e:α):List AV:=[.c (.int .i64 (b e)),kv e,vv e]
def J7 (e:α):List AV:=[.c (.int .i64 (b e))]
theorem Byz (l:List α)(n:Int):came (l.map (J7 b)) n=true↔∃e∈l,(b e:Int)=n:=by
 unfold came;rw [List.any_map,B9g];simp [J7]
theorem Ads (k:Nat)(l:List α):B5 k (l.map (J7 b))=true:=by induction l<;>simp_all [J7]
theorem Adt (k:Nat)(l:List α):P0 k (l.map (J7 b))=true:=by induction l<;>simp_all [J7]
theorem Ai5 {l:List α}(hn:(l.map b).Nodup){e:α}(he:e∈l):(l.map (Am5 b kv vv)).find? (Amg (b e))=some (Am5 b kv vv e):=by
 induction l with
 |nil=>simp at he
 |cons f l ih=>
  grind [List.nodup_cons,Am5,Amg]
theorem Al6 {l done:List α}{s:St}{it key mk z:Nat}{K:St->AV->Prop}(h1:get s.fr it=some (.itr key))(h2:get s.ob key=some ⟨z,[.mp mk,.c (.int .i64 z)]::done.map (J7 b)⟩)(h3:get s.ob mk=some ⟨z,l.map (Am5 b kv vv)⟩)(hD:∀e∈l,(kv e).isD=true/\(vv e).isD=true)
  (dS:(∀e∈l,∃d∈done,b d=b e)->K s (.tup [.c (.bool false)]))(pI:∀e∈l,(∀d∈done,b d≠b e)->K (s.obj key ⟨z,[.mp mk,.c (.int .i64 z)]::(done++[e]).map (J7 b)⟩) (.tup [.c (.bool true),kv e,vv e])):Aqq s it K:=by
 simp only [Aqq,h1,h2];right;refine⟨mk,done.map (J7 b),_,rfl,h3,rfl,λ h=>dS λ e he=> ?_,λ bb kk vv' hm hc=> ?_⟩
 ·obtain⟨d,hd,hb⟩:=(Byz b done _).1 (h (b e) _ _ (B6z.2 ⟨e,he,rfl⟩));exact⟨d,hd,by omega⟩
 ·obtain⟨e,he,hr⟩:=B6z.1 hm;simp only [Am5,B76,AV.c.injEq,D.int.injEq,B7w,B7v]at hr;obtain⟨rfl,rfl,rfl⟩:=hr;obtain⟨d1,d2⟩:=hD e he;refine⟨d1,d2,?_⟩;have:=pI e he λ d hd hb=>by rw [(Byz b done _).2 ⟨d,hd,by omega⟩]at hc;simp at hc
  rw [B60]at this;exact this
theorem Ayb {f:St->(AX->St->Prop)->Prop}{K:AX->St->Prop}(hf:∀s (K K':AX->St->Prop),(∀ax s',K ax s'->K' ax s')->f s K->f s K'){l:List α}(hn:(l.map b).Nodup)(Hs:List α->St->Prop)
  (round:∀done s,Hs done s->(∃rest,(done++rest).Perm l)->f s λ ax s'=>(ax= .norm/\∃e∈l,(∀d∈done,b d≠b e)/\Hs (done++[e]) s')\/(ax≠ .norm/\(∀e∈l,∃d∈done,b d=b e)/\(done.Perm l->K ax s')))
  (M:Nat)(s:St)(hs:Hs [] s)(hM:l.length<M):lpW f M s K:=by
 refine A91 (f:=f) (I:=λ n s=>∃done rest,Hs done s/\(done++rest).Perm l/\rest.length=n) hf ?_ l.length M s ⟨[],l,hs,.refl _,rfl⟩ hM
 rintro n s ⟨done,rest,hs,hp,rfl⟩;have gW:((done++rest).map b).Nodup:=(hp.map b).nodup_iff.2 hn;rw [B60,B82]at gW;refine hf s _ _ (λ ax s' h=> ?_) (round done s hs ⟨rest,hp⟩)
 rcases h with ⟨rfl,e,he,cW,mI⟩|⟨bN,dS,hk⟩
 ·have hm:=hp.mem_iff.2 he;rcases B65.1 hm with hm|hm
  ·exact absurd rfl (cW e hm)
  ·obtain⟨r1,r2,rfl⟩:=B87 hm;refine⟨(r1++r2).length,by simp,done++[e],r1++r2,mI,?_,rfl⟩
   refine List.Perm.trans ?_ hp;rw [B9b];exact List.Perm.append_left _ (by simpa using (List.perm_middle (a:=e) (l₁:=r1) (l₂:=r2)).symm)
 ·have hr:rest=[]:=by
   cases rest with
   |nil=>rfl
   |cons r rest=>
    grind
  subst hr;rw [B71]at hp;cases ax with
  |norm=>exact absurd rfl bN
  |ex i=>exact hk hp
  |ret=>exact hk hp
end
theorem A8x {lt:List Int->List Int->Bool}{a b:List (List Int)}(hp:a.Perm b)(h:Y7 lt b=true):Y7 lt a=true:=by
 grind [Y7,List.all_eq_true]
theorem Aps {lt:List Int->List Int->Bool}(hO:SWO lt){a b:List (List Int)}(hp:a.Perm b)(h:Y7 lt b=true):Ai2 lt a=Ai2 lt b:=by
 have ha:=A8x hp h;unfold Ai2;rw [B6l h,B6l ha];refine Abk hO (Afw hO a) (Afw hO b) ((Ag8 lt a).trans (hp.trans (Ag8 lt b).symm)) λ x hx y hy h1 h2=> ?_
 grind [Y7,List.all_eq_true,Ag8]
theorem Aqt (lo hi:Nat):∀ob:OL,Kf lo hi (A1 lo hi [] ob)
 |[]=>Bry lo hi
 |(k,o)::r=>by
  simp only [A1,B7a,or_false];split
  ·rename_i h;exact(Axt h).2 (Aqt lo hi r)
  ·exact Aqt lo hi r
theorem Aha (lo hi k:Nat)(h1:lo<=k%KT)(h2:k%KT<hi):∀ob:OL,del (A1 lo hi [] ob) k=A1 lo hi [] ob
 |[]=>rfl
 |(j,o)::r=>by
  simp only [A1,B7a,or_false];split
  ·rename_i h;simp only [del];rw [B6j (by rintro rfl;omega),Aha lo hi k h1 h2 r]
  ·exact Aha lo hi k h1 h2 r
theorem A0 {α:Type}{l:List (Nat×α)}{k j:Nat}{o:α}(hd:del l k=l)(h:get l j=some o):¬k=j:=by
 grind [B3]
theorem Ahw (k:Nat):∀l:FL,K4 k l=true->K4 k (ghs l)=true
 |[],_=>rfl
 |(i,v)::r,h=>by
  simp only [K4,B6h]at h;simp only [ghs];split
  ·simp only [K4,h.1,Ahw k r h.2,B64]
  ·exact Ahw k r h.2
theorem Azh (k j:Nat):∀l:FL,K4 k l=true->K4 k (del l j)=true
 |[],_=>rfl
 |(i,v)::r,h=>by
  simp only [K4,B6h]at h;simp only [del];split
  ·exact Azh k j r h.2
  ·simp only [K4,h.1,Azh k j r h.2,B64]
theorem A3x (k:Nat):∀(R:List Nat)(l:FL),K4 k l=true->K4 k (E1 R l)=true
 |[],_,h=>h
 |j::R,l,h=>A3x k R _ (Azh k j l h)
theorem A7f :∀l:FL,Gh (ghs l)
 |[]=>rfl
 |(i,v)::r=>by
  have:=A7f r;grind [Gh,ghs]
def gW4 :List AV->Option W4
 |[.c (.int .i64 a),.c (.int .i64 b),.c (.int .i64 c),.c (.int .i64 d)]=>some (a,b,c,d)
 |_=>none
def Bm0 :O4->Option (List W4)
 |[]=>some []
 |r::rs=>match gW4 r,Bm0 rs with
  |some e,some l=>some (e::l)
  |_,_=>none
theorem Bag :∀l:List W4,Bm0 (l.map w4R)=some l
 |[]=>rfl
 |e::l=>by
  have h1:gW4 (w4R e)=some e:=rfl;simp only [B6v,Bm0,Bag l,h1]
theorem A3y :∀{r:O4}{l:List W4},Bm0 r=some l->r=l.map w4R
 |[],l,h=>by simp only [Bm0,B6g]at h;subst h;rfl
 |x::r,l,h=>by
  unfold Bm0 at h;split at h
  ·rename_i e l' h1 h2;simp only [B6g]at h;subst h;rw [A3y h2,B6v];congr 1;unfold gW4 at h1;split at h1
   ·simp only [B6g]at h1;subst h1;rfl
   ·simp at h1
  ·simp at h
def gHQ (ob:OL):List AV->Option HQ
 |[.c (.int .i64 b),.agg [.int .i64 f,.int .i64 d,.int .i64 c],.sl ky ver st n]=>match get ob ky with
  |some o=>match Bm0 o.rows with
   |some ws=>if 0<=b/\o.sz=4/\ws.length=ver/\st+n=ver then some ⟨b.toNat,(f,d,c),ky,ws.take st,ws.drop st⟩else none
   |none=>none
  |none=>none
 |_=>none
def Bm1 (ob:OL):O4->Option (List HQ)
 |[]=>some []
 |r::rs=>match gHQ ob r,Bm1 ob rs with
  |some e,some l=>some (e::l)
  |_,_=>none
theorem Bah {ob:OL}:∀{l:List HQ},(∀e∈l,get ob e.ky=some e.obj)->Bm1 ob (l.map HQ.row)=some l
 |[],_=>rfl
 |e::l,h=>by
  have h1:gHQ ob e.row=some e:=by
   have h0:=h e (by simp)
   obtain⟨b,⟨k1,k2,k3⟩,ky,gone,l0⟩:=e;grind [HQ.row,HQ.val,U5,gHQ,HQ.obj,Bag,Int.natCast_nonneg,Int.toNat_natCast,List.length_append]
  simp only [B6v,Bm1,Bah λ e he=>h e (B7g _ he),h1]
theorem As0 {ob:OL}:∀{r:O4}{l:List HQ},Bm1 ob r=some l->r=l.map HQ.row/\∀e∈l,get ob e.ky=some e.obj
 |[],l,h=>by simp only [Bm1,B6g]at h;subst h;simp
 |x::r,l,h=>by
  unfold Bm1 at h;split at h
  ·rename_i e l' h1 h2;simp only [B6g]at h;subst h;obtain⟨e1,e2⟩:=As0 h2;rw [e1,B6v];unfold gHQ at h1;split at h1
   ·rename_i b f d c ky ver st n;split at h1
    ·rename_i o ho;split at h1
     ·rename_i ws qK;split at h1
      ·rename_i hc;obtain⟨c1,c2,c3,c4⟩:=hc;simp only [B6g]at h1;subst h1;have hr:=A3y qK;refine⟨?_,λ y hy=> ?_⟩
       ·simp only [HQ.row,HQ.val,U5,B7l,B70,Int.toNat_of_nonneg c1];rw [show min st ws.length=st by omega,show st+(ws.length-st)=ws.length by omega,c3,show ver-st=n by omega]
       ·rcases B6r.1 hy with rfl|hy
        ·simp only [HQ.obj,List.take_append_drop];rw [ho];obtain⟨sz,rows⟩:=o;simp only at c2 hr ⊢;rw [c2,hr]
        ·exact e2 y hy
      ·simp at h1
     ·simp at h1
    ·simp at h1
   ·simp at h1
  ·simp at h
def Aqa (hk:Nat)(ob:OL):Option (Option Nat×List HQ):=match get ob hk with
 |some ⟨3,[[.ot .nm,_,_]]⟩=>some (none,[])
 |some ⟨3,[[.mp K,_,_]]⟩=>match get ob K with
  |some o=>(Bm1 ob o.rows).map (some K,·)
  |none=>none
 |_=>none
def Ajv :List Nat->Bool
 |[]=>true
 |e::l=>l.all (λ f=> !decide (e=f))&&Ajv l
theorem J1 :∀{l:List Nat},Ajv l=true↔l.Nodup
 |[]=>by simp [Ajv]
 |e::l=>by
  simp only [Ajv,B6h,B6q,B7b,B7k,J1 (l:=l),B83];grind
end Go.Am
namespace Go.Am
open Go.Proofs Go.Shelf Go.RowKit Go.Sort
abbrev Avn :List Int->List Int->Bool:=ltOf Byx
def w4L (w:W4):List Int:=[w.1,w.2.1,w.2.2.1,w.2.2.2]
theorem Bqf (l:List W4):l.map w4R=(l.map w4L).map Ai4:=by rw [B8c];rfl
abbrev J3 (qs:List HQ):List W4:=qs.flatMap (·.l)
abbrev obW (s:St):OL:=A1 514000 515000 [] s.ob
def Azi (s:St):Bool:=K4 514003 s.fr&&K4 2923003274661805836407369665432566039311865599962 s.fr&&B8 514003 (obW s)&&B8 2923003274661805836407369665432566039311865599962 (obW s)
def A7g (s:St):Option (List HQ):=match get s.fr 0 with
 |some (.loc hk 0 0)=>(Aqa hk (obW s)).map (·.2)
 |_=>none
def Ajw (s:St):Option (List AV×OL):=
 match A7g s with
 |some qs=>if (Ajv (qs.map (·.b))&&decide ((J3 qs).length<=200000)&&decide (qs.length<=200000)&&Y7 Avn ((J3 qs).map w4L)&&Azi s)=true then some ([.sl 514003 (J3 qs).length 0 (J3 qs).length],(514003,⟨4,(Ai2 Avn ((J3 qs).map w4L)).map Ai4⟩)::obW s)else none
 |none=>none
def Aem :H6:=⟨λ _ _=>none,λ f s=>if f=526 then S7 4 Bg8 s else none,λ _ _=>none⟩
theorem Azj :Aem.pt 526=S7 4 Bg8:=by funext s;simp [Aem]
theorem Bqg {nm:Nat->Option Nat}(h:nm 526=some 53):Aec Tryz.prog nm Aem where
 fv:=λ g ds rs h=>by simp [Aem]at h
 fvS:=λ g F w ds vs rs _ _ h=>by simp [Aem]at h
 fn:=λ f g _ F w ds vs rs _ _ h=>by simp [Aem]at h
 pt:=λ f g hg=>by
  by_cases hf:f=526
  ·subst hf;rw [h]at hg;simp only [B6g]at hg;subst hg;rw [Azj];exact A8v
  ·have:Aem.pt f=λ _=>none:=by funext s;simp [Aem,hf]
   rw [this];exact D9.none
 mono:=λ f s rs ob R hR h=>by
  by_cases hf:f=526
  ·subst hf;rw [Azj]at h ⊢;exact Aya _ _ s rs ob R hR h
  ·simp [Aem,hf]at h
abbrev bQ :HQ->Nat:=(·.b)
abbrev kyQ (e:HQ):AV:= .agg (U5 e.k)
theorem By0 (l:List HQ):l.map HQ.row=l.map (Am5 bQ kyQ HQ.val):=rfl
def hdQ (b:Bool)(done:List HQ)(mk z:Nat)(gs:FL)(ob:OL):St:=
 ⟨(3,.sl 514003 (J3 done).length 0 (J3 done).length)::(10,.itr 2923003274661805836407369665432566039311865599962)::gs,
  if b then(514003,⟨4,(J3 done).map w4R⟩)::(2923003274661805836407369665432566039311865599962,⟨z,[.mp mk,.c (.int .i64 z)]::done.map (J7 bQ)⟩)::ob
  else(2923003274661805836407369665432566039311865599962,⟨z,[.mp mk,.c (.int .i64 z)]::done.map (J7 bQ)⟩)::(514003,⟨4,(J3 done).map w4R⟩)::ob⟩
section
variable {gs : FL} {ob : OL}
structure WaH (gs:FL)(ob:OL):Prop where
 g:Gh gs
 k:Kf 514000 515000 ob
 d3:del ob 514003=ob
 di:del ob 2923003274661805836407369665432566039311865599962=ob
 n3:K4 514003 gs=true
 ni:K4 2923003274661805836407369665432566039311865599962 gs=true
 o3:B8 514003 ob=true
 oi:B8 2923003274661805836407369665432566039311865599962 ob=true
def By1 :AW:= .ac (.keepP [3] 514000 515000 [514003,514017] (.seq (.reg Bfb) (.keepP [3] 514000 515000 [514003,514017] (.seq (.reg Bfa) (.keepP [2] 514000 515000 [514003,514017] (.ret))))))
theorem A3z (M:Nat)(done:List HQ)(hH:WaH gs ob)(hl:(J3 done).length<=200000)(K:AX->St->Prop)
  (hK:K .ret ⟨(2,.sl 514003 (J3 done).length 0 (J3 done).length)::gs,(514003,⟨4,(Ai2 Avn ((J3 done).map w4L)).map Ai4⟩)::ob⟩):
  B7 Aem M By1 ⟨(3,.sl 514003 (J3 done).length 0 (J3 done).length)::gs,(514003,⟨4,(J3 done).map w4R⟩)::ob⟩ K:=by
 obtain⟨g,k,d3,di,n3,ni,o3,oi⟩:=hH;generalize cM:J3 done=al at*;have hs:∀xs:FL,get xs 2=none->S7 4 Bg8 ⟨(0,.sl 514003 al.length 0 al.length)::(1,.ot (.fn G8))::xs,(514003,⟨4,al.map w4R⟩)::ob⟩=some ([],(514003,⟨4,(Ai2 Avn (al.map w4L)).map Ai4⟩)::ob):=by
  intro xs h2;have hr:Aum 4 (al.map w4R)=some (al.map w4L):=Asz 4 w4L (λ _=>rfl) al
  unfold S7;simp [h2,hr,Bg8,d3,show al.length<4611686018427387904 by omega]
 unfold By1;rw [E3];simp only [G8]at hs;simp -implicitDefEqProofs (disch:=first|omega|(simp;done)|assumption) [Azj,hs,g,k,D5];exact hK
theorem Bc7 (M:Nat)(b:Bool)(l done:List HQ)(mk z:Nat)(hH:WaH gs ob)(hl:(J3 done).length<=200000)(hn:(l.map (·.b)).Nodup)(aS:get ob mk=some ⟨z,l.map HQ.row⟩)(hq:∀e∈l,get ob e.ky=some e.obj)(hll:∀e∈l,(J3 done).length+e.l.length<=400000)(K:AX->St->Prop)
  (fN:(∀e∈l,∃f∈done,f.b=e.b)->K (.ex 0) ⟨(3,.sl 514003 (J3 done).length 0 (J3 done).length)::gs,(514003,⟨4,(J3 done).map w4R⟩)::ob⟩)
  (jA:∀e∈l,(∀f∈done,f.b≠e.b)->∀s',U9 [3,10] 514000 515000 [514003,2923003274661805836407369665432566039311865599962,514017] s'=hdQ true (done++[e]) mk z gs ob->K .norm s'):
  B7 Aem M H3 (hdQ b done mk z gs ob) K:=by
 obtain⟨g,k,d3,di,n3,ni,o3,oi⟩:=hH;have q3:=A0 d3 aS;have qi:=A0 di aS;have q3':=B6i q3;have qi':=B6i qi;have a3:=λ k=>Ads bQ k done
 have a4:=λ k=>Adt bQ k done
 rw [Y1,F9];have jP:get (hdQ b done mk z gs ob).fr 10=some (.itr 2923003274661805836407369665432566039311865599962):=rfl;have fQ:get (hdQ b done mk z gs ob).ob 2923003274661805836407369665432566039311865599962=some ⟨z,[.mp mk,.c (.int .i64 z)]::done.map (J7 bQ)⟩:=by cases b<;>rfl
 have nQ:get (hdQ b done mk z gs ob).ob mk=some ⟨z,l.map (Am5 bQ kyQ HQ.val)⟩:=by rw [<-By0];cases b<;>simp [hdQ,Go.Am.get,q3,qi,aS]
 simp only [B7];refine Al6 bQ kyQ HQ.val jP fQ nQ (λ e _=>⟨rfl,rfl⟩) (λ dS=> ?_) (λ e he cW=> ?_)
 ·have hK:=fN dS;refine⟨_,rfl,?_⟩;rw [C7,E3];unfold hdQ;generalize J3 done=al at*;cases b<;>simp -implicitDefEqProofs (disch:=first|omega|(simp;done)|assumption) [g,k,D5,d3,di]<;>exact hK
 ·have hf:=Ai5 bQ kyQ HQ.val hn he;have hK:=jA e he cW;have kU:=hq e he;have y3:=A0 d3 kU;have yi:=A0 di kU;have y3':=B6i y3;have yi':=B6i yi;have cI:=hll e he;have qL:(List.map w4R (J3 done)).length=(J3 done).length:=B6s _;have gX:(List.map w4R (e.gone++e.l)).length=e.gone.length+e.l.length:=by simp
  have gU:List.drop e.gone.length (List.map w4R (e.gone++e.l))=List.map w4R e.l:=by rw [B60,List.drop_left' (by simp)]
  have hall:J3 (done++[e])=J3 done++e.l:=by simp [J3]
  have m1:=λ k=>X9 k (J3 done)
  have m2:=λ k=>X9 k (e.gone++e.l)
  have m3:=λ k=>X9 k e.l
  have hw4:∀l:List W4,F7 (l.map w4R)=some (l.map U8):=λ l=>G7 U8 l
  have ha:F7 (List.map w4R e.gone++List.map w4R e.l)=some (e.gone.map U8++e.l.map U8):=by rw [<-B60,hw4,B60]
  have hdr2:List.take e.l.length (List.drop e.gone.length (e.gone.map U8++e.l.map U8))=e.l.map U8:=by rw [List.drop_left' (by simp),B6y (by simp)]
  have htv:List.map A4 (e.l.map U8)=e.l.map w4R:=by rw [B8c];rfl
  have l3:=W2 n3;have l4:=Acu _ _ (m1 514003);have l5:=O7 o3;refine⟨_,rfl,?_⟩;rw [C7,E3];rw [By0]at aS;simp only [HQ.obj]at kU;simp only [hdQ,hall,B67]at hK;generalize cM:J3 done=al at*;obtain⟨eb,ek,ky,gone,el⟩:=e;simp only at*;cases b<;>simp -implicitDefEqProofs (disch:=first|omega|(simp;done)|assumption) [hdQ,g,k,D5,d3,di,hf,a3,a4,Am5,J7,HQ.val,aS,q3,qi,q3',qi',n3,ni,o3,oi,kU,y3,yi,y3',yi',qL,gX,gU,m1,m2,m3,cM,ha,hdr2,htv,l3,l4,l5]
  all_goals
   refine hK _ ?_;simp -implicitDefEqProofs (disch:=first|omega|(simp;done)|assumption) [g,k,J7];exact B6y (by simp)
end
theorem A8y (M:Nat){gs:FL}{ob:OL}(hH:WaH gs ob)(K:AX->St->Prop)(fN:K (.ex 0) ⟨(3,.sl 514003 0 0 0)::gs,(514003,⟨4,[]⟩)::ob⟩):
  B7 Aem M H3 ⟨(3,.sl 514003 0 0 0)::(10,.itr 2923003274661805836407369665432566039311865599962)::gs,(2923003274661805836407369665432566039311865599962,⟨0,[[.ot .nm]]⟩)::(514003,⟨4,[]⟩)::ob⟩ K:=by
 obtain⟨g,k,d3,di,n3,ni,o3,oi⟩:=hH;rw [Y1,F9];have jP:get ((3,AV.sl 514003 0 0 0)::(10,.itr 2923003274661805836407369665432566039311865599962)::gs) 10=some (.itr 2923003274661805836407369665432566039311865599962):=rfl;have fQ:get ((2923003274661805836407369665432566039311865599962,(⟨0,[[.ot .nm]]⟩:Am.Obj))::(514003,⟨4,[]⟩)::ob) 2923003274661805836407369665432566039311865599962=some ⟨0,[[.ot .nm]]⟩:=rfl;simp only [B7,Aqq,jP,fQ];left;refine⟨trivial,_,rfl,?_⟩;rw [C7,E3];simp -implicitDefEqProofs (disch:=first|omega|(simp;done)|assumption) [g,k,D5,d3,di];exact fN
theorem Bc8 :D9 Tryz.prog 27 Ajw:=by
 refine Aom (nm:=λ f=>if f=526 then some 53 else none) (Γ:=Aem) (fn:=M7) (M:=200001) (Bqg rfl) (by decide+kernel) (by decide+kernel) Ajw ?_
 intro fr ob rs aA h;unfold Ajw at h;split at h
 case h_2=>simp at h
 split at h
 case isFalse=>simp at h
 rename_i qs eY hc;simp only [B6g,B6k]at h;obtain⟨rfl,rfl⟩:=h;simp only [B6h,Azi,B6o]at hc;obtain⟨⟨⟨⟨c1,c2⟩,c2'⟩,c3⟩,⟨⟨c4,c5⟩,c6⟩,c7⟩:=hc;have hH:WaH (ghs fr) (A1 514000 515000 [] ob):=⟨A7f fr,Aqt _ _ ob,Aha _ _ _ (by decide) (by decide) ob,Aha _ _ _ (by decide) (by decide) ob,
  Ahw _ _ c4,Ahw _ _ c5,c6,c7⟩
 unfold A7g at eY;split at eY
 case h_2=>simp at eY
 rename_i hk h0;simp only [obW]at eY ⊢;generalize aD:A1 514000 515000 [] ob=bL at*;have gH:∀i,GB<=i->get (ghs fr) i=get fr i:=λ i hi=>by rw [Aeh,B6l hi]
 generalize nF:ghs fr=gs at*;have iN:∀done:List HQ,done.Perm qs->(J3 done).Perm (J3 qs):=λ done hp=>hp.flatMap_right _
 have dS:∀done:List HQ,done.Perm qs->Bmx M7 fr [.sl 514003 (J3 qs).length 0 (J3 qs).length] ((514003,⟨4,(Ai2 Avn ((J3 qs).map w4L)).map Ai4⟩)::bL) .ret ⟨(2,.sl 514003 (J3 done).length 0 (J3 done).length)::gs,(514003,⟨4,(Ai2 Avn ((J3 done).map w4L)).map Ai4⟩)::bL⟩:=by
  intro done hp;rw [(iN done hp).length_eq,Aps (lt:=Avn) (show SWO Avn from W3 _) ((iN done hp).map w4L) c3]
  generalize (J3 qs).length=n at*;refine⟨.inr rfl,?_,?_,λ i hi=> ?_⟩
  ·simp
  ·simp [hH.k]
  ·have:¬2=i:=by unfold GB at hi;omega
   simp only [Go.Am.get,B6j this];exact gH i hi
 have jB:=hH;obtain⟨g,k,d3,di,n3,ni,o3,oi⟩:=hH;generalize hKK:Bmx M7 fr [.sl 514003 (J3 qs).length 0 (J3 qs).length] ((514003,⟨4,(Ai2 Avn ((J3 qs).map w4L)).map Ai4⟩)::bL)=K at*
 show B7 Aem 200001 U3 _ _
 rw [Ag5];simp only [B6m]at eY;obtain⟨⟨wm,dX⟩,eY,rfl⟩:=eY;simp only at*;unfold Aqa at eY;split at eY
 ·rename_i cmv nv dK;have q3:=A0 d3 dK;have qi:=A0 di dK;have qi':=B6i qi;simp only [B6g,B6k]at eY;obtain⟨rfl,rfl⟩:=eY;simp -implicitDefEqProofs (disch:=first|omega|(simp;done)|assumption) [F9,E3,D0,N8,I2,D5,C7,h0,nF,aD,g,k,dK,q3,qi,qi',d3,di,n3,ni,o3,oi];rw [N8 Aem _ 3 514003 _ _ _ (sz:=4) rfl (by simp -implicitDefEqProofs (disch:=first|omega|(simp;done)|assumption) [n3,o3,d3,q3,B6i q3])]
  simp -implicitDefEqProofs (disch:=first|omega|(simp;done)|assumption) [F9,E3,D0,N8,I2,D5,C7,h0,nF,aD,g,k,dK,q3,qi,qi',d3,di,n3,ni,o3,oi,V5]
  show lpW _ (200000+1) _ _
  rw [lpW];rw [Aae,D0];have hs:U9 [3,10] 514000 515000 [514003,2923003274661805836407369665432566039311865599962,514017] ⟨(3,AV.sl 514003 0 0 0)::(10,.itr 2923003274661805836407369665432566039311865599962)::gs,(2923003274661805836407369665432566039311865599962,⟨0,[[.ot .nm]]⟩)::(514003,⟨4,[]⟩)::bL⟩=⟨(3,AV.sl 514003 0 0 0)::(10,.itr 2923003274661805836407369665432566039311865599962)::gs,(2923003274661805836407369665432566039311865599962,⟨0,[[.ot .nm]]⟩)::(514003,⟨4,[]⟩)::bL⟩:=by simp [g,k]
  rw [hs];refine A8y _ jB _ ?_
  show Br1 0 _ (.ex 0) _
  rw [Agb,B6l rfl,C7];exact A3z _ [] jB (by simp) K (dS [] (.refl _))
 ·rename_i mk cmv nv dK;have q3:=A0 d3 dK;have q5:=A0 di dK;have q5':=B6i q5;split at eY
  ·rename_i om aS;obtain⟨z,rows⟩:=om;simp only [B6m,B6k]at eY;obtain⟨qs2,eY,rfl,rfl⟩:=eY;obtain⟨qM,kU⟩:=As0 eY;have qM:rows=_:=qM;subst qM;have qm:=A0 d3 aS;have qi:=A0 di aS;simp -implicitDefEqProofs (disch:=first|omega|(simp;done)|assumption) [F9,E3,D0,N8,I2,D5,C7,h0,nF,aD,g,k,dK,q3,q5,q5',d3,di,n3,ni,o3,oi,aS];rw [N8 Aem _ 3 514003 _ _ _ (sz:=4) rfl (by simp -implicitDefEqProofs (disch:=first|omega|(simp;done)|assumption) [n3,o3,d3,q3,B6i q3])]
   simp -implicitDefEqProofs (disch:=first|omega|(simp;done)|assumption) [F9,E3,D0,N8,I2,D5,C7,h0,nF,aD,g,k,dK,q3,q5,q5',d3,di,n3,ni,o3,oi,aS,qm,qi,B6i qm,B6i qi,V5];refine Ayb (f:=B7 Aem 200001 L8) (b:=bQ) (λ s K K' h=>Aif _ h) (l:=qs2) (J1.1 c1) (λ done s=>∃b,U9 [3,10] 514000 515000 [514003,2923003274661805836407369665432566039311865599962,514017] s=hdQ b done mk z gs bL) (λ done s hs hp=> ?_) _ _ ?_ ?_
   rotate_left
   ·exact⟨false,by simp [g,k,hdQ,J3]⟩
   ·omega
   obtain⟨b,hs⟩:=hs;obtain⟨rest,hp⟩:=hp;have hpp:(J3 (done++rest)).length=(J3 qs2).length:=(iN _ hp).length_eq;have jJ:(J3 done).length<=200000:=by
    have:(J3 (done++rest))=J3 done++J3 rest:=by simp [J3]
    rw [this,B67]at hpp;omega
   rw [Aae,D0];rw [hs];refine Bc7 200001 b qs2 done mk z jB jJ (J1.1 c1) aS kU (λ e he=> ?_) _ (λ jC=> .inr ⟨by simp,jC,λ sS=> ?_⟩) (λ e he cW s' mI=> .inl ⟨rfl,e,he,cW,true,mI⟩)
   ·have:e.l.length<=(J3 qs2).length:=by
     obtain⟨r1,r2,rfl⟩:=B87 he;simp only [J3,List.flatMap_append,List.flatMap_cons,B67];omega
    omega
   ·rw [Agb,B6l rfl,C7];exact A3z _ done jB jJ K (dS done sS)
  ·simp at eY
 ·simp at eY
end Go.Am
namespace Go.Am
open Go.Proofs Go.Shelf Go.RowKit Go.Sort
def cL (e:HC):List Int:=[e.f,e.d]
def cR (e:HC):List AV:=[i64 e.f,i64 e.d]
def pL (p:Int×Int):List Int:=[p.1,p.2]
def pR (p:Int×Int):List AV:=[i64 p.1,i64 p.2]
def oR (cs:List HC)(p:Int×Int):List AV:=[i64 p.1,i64 p.2,i64 (cOf cs (pL p))]
def By2 :List Nat:=[516001,516003,516004,516005,516007,2923003274661805836407369665432566039311865601964]
structure CaH (gs:FL)(ob:OL):Prop where
 g:Gh gs
 k:Kf 516000 517000 ob
 n:∀k∈By2,K4 k gs=true/\B8 k ob=true/\del ob k=ob
def Aor :H6:=⟨λ _ _=>none,λ f s=>if f=532 then S7 2 Bc5 s else none,λ _ _=>none⟩
theorem A6k :Aor.pt 532=S7 2 Bc5:=by funext s;simp [Aor]
theorem Bwq {nm:Nat->Option Nat}(h:nm 532=some 56):Aec Tryz.prog nm Aor where
 fv:=λ g ds rs h=>by simp [Aor]at h
 fvS:=λ g F w ds vs rs _ _ h=>by simp [Aor]at h
 fn:=λ f g _ F w ds vs rs _ _ h=>by simp [Aor]at h
 pt:=λ f g hg=>by
  by_cases hf:f=532
  ·subst hf;rw [h]at hg;simp only [B6g]at hg;subst hg;rw [A6k];exact Bkm
  ·have:Aor.pt f=λ _=>none:=by funext s;simp [Aor,hf]
   rw [this];exact D9.none
 mono:=λ f s rs ob R hR h=>by
  by_cases hf:f=532
  ·subst hf;rw [A6k]at h ⊢;exact Aya _ _ s rs ob R hR h
  ·simp [Aor,hf]at h
def A7h (hk:Nat)(cs:List HC)(ob:OL):Prop:=∃wv nv,(get ob hk=some ⟨3,[[wv,.ot .nm,nv]]⟩/\cs=[])\/∃mk z,get ob hk=some ⟨3,[[wv,.mp mk,nv]]⟩/\get ob mk=some ⟨z,cs.map HC.row⟩
theorem A30 (k:Nat)(l:List (Int×Int)):B5 k (l.map pR)=true:=by induction l<;>simp_all [pR]
theorem Bkn (k:Nat)(l:List (Int×Int)):P0 k (l.map pR)=true:=by induction l<;>simp_all [pR]
theorem Bko (cs:List HC)(k:Nat)(l:List (Int×Int)):B5 k (l.map (oR cs))=true:=by induction l<;>simp_all [oR]
theorem Bkp (cs:List HC)(k:Nat)(l:List (Int×Int)):P0 k (l.map (oR cs))=true:=by induction l<;>simp_all [oR]
section
variable {gs : FL} {ob : OL}
theorem Bc9 (M:Nat)(hk:Nat)(cs:List HC)(L:List (Int×Int))(hH:CaH gs ob)(hC:A7h hk cs ob)(hl:L.length<=200000)(hM:200000<M):
  ∃ax s',(ax= .ex 2/\s'=⟨(5,.sl 516005 L.length 0 L.length)::gs,(516005,⟨3,L.map (oR cs)⟩)::ob⟩)/\∀s0,U9 [1,5,24,25,26] 516000 517000 [516001,516003,516005,516020,516044] s0=⟨(1,.loc 516001 0 0)::(5,.sl 516005 0 0 0)::(24,.sl 516003 L.length 0 L.length)::(25,i64 L.length)::(26,i64 (0:Nat))::gs,(516005,⟨3,(L.take 0).map (oR cs)⟩)::(516003,⟨2,L.map pR⟩)::(516001,⟨1,[[.loc hk 0 0]]⟩)::ob⟩->lp (exec Aor M K1) M s0=some (ax,s'):=by
 refine I0 (λ q:Nat=>⟨(1,.loc 516001 0 0)::(5,.sl 516005 q 0 q)::(24,.sl 516003 L.length 0 L.length)::(25,i64 L.length)::(26,i64 q)::gs,(516005,⟨3,(L.take q).map (oR cs)⟩)::(516003,⟨2,L.map pR⟩)::(516001,⟨1,[[.loc hk 0 0]]⟩)::ob⟩) (λ q=>q<=L.length) (λ q=>L.length-q) _ 0 M (by omega) (by omega) ?_
 obtain⟨g,k,hn⟩:=hH;obtain⟨n1,o1,d1⟩:=hn 516001 (by decide)
 obtain⟨n3,o3,d3⟩:=hn 516003 (by decide)
 obtain⟨n5,o5,d5⟩:=hn 516005 (by decide)
 obtain⟨n7,o7,d7⟩:=hn 516007 (by decide)
 have l5:=W2 n5;have p5:=O7 o5;have y1:=λ k=>A30 k L
 have y2:=λ k=>Bkn k L
 intro q hq;by_cases aC:q<L.length
 ·obtain⟨⟨a,b⟩,hm⟩:∃m,L[q]=m:=⟨_,rfl⟩;have aM:(L.map pR)[q]? =some [i64 a,i64 b]:=by simp [aC,hm,pR]
  have lA:(L.take q).length=q:=by rw [B7l];omega
  have aY:(L.take (q+1)).map (oR cs)=(L.take q).map (oR cs)++[[i64 a,i64 b,i64 (cOf cs [a,b])]]:=by
   rw [B75 aC,B60,hm];rfl
  have y3:=λ k=>Bko cs k (L.take q)
  have y4:=λ k=>Bkp cs k (L.take q)
  have aP:∃q',(q'=q+1):=⟨_,rfl⟩;have mf:=Ajb a b cs 0;have fO:cOf cs [a,b]=match P5 cs a b 0 with|some (_,e)=>e.c|none=>0:=rfl
  obtain⟨wv,nv,⟨cP,rfl⟩|⟨mk,z,cP,oL⟩⟩:=hC
  ·have w1:=A0 d1 cP;have w3:=A0 d3 cP;have w5:=A0 d5 cP;have w7:=A0 d7 cP;have hcc0:cOf [] [a,b]=0:=rfl;rw [hcc0]at aY;generalize hT:L.take q=T at*;simp -implicitDefEqProofs (disch:=first|omega|(simp [g,y1,y2,y3,y4,n7,o7,l5,p5];done)|assumption) [aC,g,k,aM,y1,y2,y3,y4,n7,o7,l5,p5,d7,d5,hm,lA,cP,w1,w3,w5,w7,B6i w7,B6i w1,B6i w3,B6i w5,pR];exact⟨q+1,by rw [<-B8o,aY];simp,by omega,by omega⟩
  ·have w1:=A0 d1 cP;have w3:=A0 d3 cP;have w5:=A0 d5 cP;have w7:=A0 d7 cP;have v1:=A0 d1 oL;have v3:=A0 d3 oL;have v5:=A0 d5 oL;have v7:=A0 d7 oL;cases hf:P5 cs a b 0 with
   |none=>
    rw [hf]at mf fO;simp only [B8t]at mf fO;rw [fO]at aY;generalize hT:L.take q=T at*;simp -implicitDefEqProofs (disch:=first|omega|(simp [g,y1,y2,y3,y4,n7,o7,l5,p5];done)|assumption) [aC,g,k,aM,y1,y2,y3,y4,n7,o7,l5,p5,d7,d5,hm,lA,cP,w1,w3,w5,w7,B6i w7,B6i w1,B6i w3,B6i w5,pR,oL,v1,v3,v5,v7,B6i v7,B6i v1,B6i v3,B6i v5,mf];grind [List.map_take]
   |some p=>
    obtain⟨i,e⟩:=p;rw [hf]at mf fO;simp only [B7h]at mf fO;rw [fO]at aY;generalize hT:L.take q=T at*;simp -implicitDefEqProofs (disch:=first|omega|(simp [g,y1,y2,y3,y4,n7,o7,l5,p5];done)|assumption) [aC,g,k,aM,y1,y2,y3,y4,n7,o7,l5,p5,d7,d5,hm,lA,cP,w1,w3,w5,w7,B6i w7,B6i w1,B6i w3,B6i w5,pR,oL,v1,v3,v5,v7,B6i v7,B6i v1,B6i v3,B6i v5,mf];grind [List.map_take]
 ·obtain rfl:q=L.length:=by omega
  simp -implicitDefEqProofs (disch:=first|omega|(simp;done)|assumption) [g,k]
end
end Go.Am
namespace Go.Am
open Go.Proofs Go.Shelf Go.RowKit Go.Sort
abbrev ltN (cs:List HC):List Int->List Int->Bool:=ltOf (cfN cs)
theorem Bwr (l:List (Int×Int)):l.map pR=(l.map pL).map Ai4:=by rw [B8c];rfl
def Avo (cs l:List HC):O4:=(Ai2 (ltN cs) (l.map cL)).map λ x=>[i64 (x.getD 0 0),i64 (x.getD 1 0),i64 (cOf cs x)]
theorem Bqh {l:List (List Int)}(h:∀x∈l,∃p:Int×Int,x=pL p):∃L:List (Int×Int),l=L.map pL:=by
 induction l with
 |nil=>exact⟨[],rfl⟩
 |cons x l ih=>
  obtain⟨p,rfl⟩:=h x (by simp)
  obtain⟨L,rfl⟩:=ih λ y hy=>h y (B7g _ hy)
  exact⟨p::L,rfl⟩
abbrev obC (s:St):OL:=A1 516000 517000 [] s.ob
def A0u (lo hi:Nat)(ob:OL):Bool:=ob.all λ p=>decide (p.1%KT<lo)||decide (hi<=p.1%KT)
theorem A31 {lo hi:Nat}{ob:OL}(h:A0u lo hi ob=true):Kf lo hi ob:=Af4.2 λ p hp=>by
 have:=B6q.1 h p hp;grind
def Al7 (s:St):Bool:=A0u 516000 517000 s.ob&&By2.all λ k=>K4 k s.fr&&B8 k (obC s)
def Ayc (s:St):Option (List HC):=match get s.fr 0 with
 |some (.loc hk 0 0)=>Ahv 516003 hk (obC s)
 |_=>none
def Aen (s:St):Option (List AV×OL):=
 match Ayc s with
 |some cs=>if (Ajv (cs.map (·.b))&&decide (cs.length<=200000)&&Y7 (ltN cs) (cs.map cL)&&Al7 s)=true then some ([.sl 516005 cs.length 0 cs.length],(516005,⟨3,Avo cs cs⟩)::obC s)else none
 |none=>none
def hdC (b:Bool)(done:List HC)(hk mk z:Nat)(gs:FL)(ob:OL):St:=
 ⟨(1,.loc 516001 0 0)::(3,.sl 516003 done.length 0 done.length)::(12,.itr 2923003274661805836407369665432566039311865601964)::gs,
  if b then(516003,⟨2,done.map cR⟩)::(2923003274661805836407369665432566039311865601964,⟨z,[.mp mk,.c (.int .i64 z)]::done.map (J7 HC.b)⟩)::(516001,⟨1,[[.loc hk 0 0]]⟩)::ob
  else(2923003274661805836407369665432566039311865601964,⟨z,[.mp mk,.c (.int .i64 z)]::done.map (J7 HC.b)⟩)::(516003,⟨2,done.map cR⟩)::(516001,⟨1,[[.loc hk 0 0]]⟩)::ob⟩
abbrev kyC (e:HC):AV:= .agg [.int .i64 e.f,.int .i64 e.d]
abbrev vlC (e:HC):AV:= .agg [.int .i64 e.n,.int .i64 e.c]
theorem By3 (l:List HC):l.map HC.row=l.map (Am5 HC.b kyC vlC):=rfl
theorem Bkq (k:Nat)(l:List HC):B5 k (l.map cR)=true:=by induction l<;>simp_all [cR]
theorem Bkr (k:Nat)(l:List HC):P0 k (l.map cR)=true:=by induction l<;>simp_all [cR]
section
variable {gs : FL} {ob : OL}
def Bmf :AC:= .keepP [1,3] 516000 517000 [516001,516003,516020] (.seq (.reg A65) (.keepP [1,3] 516000 517000 [516001,516003,516020] (.seq (.reg A64) (.keepP [1,3,5] 516000 517000 [516001,516003,516005,516020,516044] (.own 5 516005 (.seq (.seq (.reg A63) (.keepP [1,5,24,25,26] 516000 517000 [516001,516003,516005,516020,516044] (.block 2 (.loop K1)))) (.keepP [5] 516000 517000 [516005,516044] (.seq (.reg Axu) (.keepP [2] 516000 517000 [516005,516044] (.ret))))))))))
theorem Bks {hk:Nat}{cs:List HC}(aH:¬hk=516003)(hC:A7h hk cs ob):Ahv 516003 hk ob=some cs:=by
 unfold Ahv;rw [B6j aH];obtain⟨wv,nv,⟨cP,rfl⟩|⟨mk,z,cP,oL⟩⟩:=hC
 all_goals grind [Azg]
theorem Ayd {hk:Nat}{cs:List HC}{k0:Nat}{o:Obj}(hn:get ob k0=none)(hC:A7h hk cs ob):A7h hk cs ((k0,o)::ob):=by
 have keep:∀{k:Nat}{u:Obj},get ob k=some u->get ((k0,o)::ob) k=some u:=λ {k u} hk=>by
  grind [Go.Am.get]
 obtain⟨wv,nv,⟨cP,rfl⟩|⟨mk,z,cP,oL⟩⟩:=hC
 ·exact⟨wv,nv,.inl ⟨keep cP,rfl⟩⟩
 ·exact⟨wv,nv,.inr ⟨mk,z,keep cP,keep oL⟩⟩
theorem Bda (M:Nat)(hk:Nat)(cs done:List HC)(hH:CaH gs ob)(hC:A7h hk cs ob)(hl:done.length<=200000)(hM:200000<M):
  exec Aor M Bmf ⟨(1,.loc 516001 0 0)::(3,.sl 516003 done.length 0 done.length)::gs,(516003,⟨2,done.map cR⟩)::(516001,⟨1,[[.loc hk 0 0]]⟩)::ob⟩=some (.ret,⟨(2,.sl 516005 done.length 0 done.length)::gs,(516005,⟨3,Avo cs done⟩)::ob⟩):=by
 have hO:=W3 (nOf cs);have jZ:=Ad8 (lt:=ltN cs) hO (done.map cL);obtain⟨L,hL⟩:=Bqh (l:=Ai2 (ltN cs) (done.map cL)) λ x hx=>by
  obtain⟨e,_,rfl⟩:=B6z.1 (jZ.mem_iff.1 hx);exact⟨(e.f,e.d),rfl⟩
 have hlL:L.length=done.length:=by
  have:=jZ.length_eq;rw [hL]at this;simpa using this
 have jS:Avo cs done=L.map (oR cs):=by
  unfold Avo;rw [hL,B8c];rfl
 obtain⟨ax,s',⟨rfl,rfl⟩,bK⟩:=Bc9 M hk cs L hH hC (by omega) hM
 obtain⟨g,k,hn⟩:=hH;obtain⟨n1,o1,d1⟩:=hn 516001 (by decide)
 obtain⟨n3,o3,d3⟩:=hn 516003 (by decide)
 obtain⟨n5,o5,d5⟩:=hn 516005 (by decide)
 have x1:get ob 516001=none:=by rw [<-d1,B3,B6l rfl]
 have fD:¬hk=516003/\¬hk=516001/\¬hk=516005:=by
  obtain⟨wv,nv,⟨cP,_⟩|⟨mk,z,cP,_⟩⟩:=hC<;>exact⟨B6i (A0 d3 cP),B6i (A0 d1 cP),B6i (A0 d5 cP)⟩
 have oG:=Ayd (k0:=516001) (o:=⟨1,[[.loc hk 0 0]]⟩) x1 hC;have rN:=Ayd (k0:=516003) (o:=⟨2,done.map cR⟩) (by simp only [Go.Am.get];rw [B6j (by omega),<-d3,B3,B6l rfl]) oG
 have oF:=Bks fD.1 rN;have hs:∀xs:FL,get xs 2=none->S7 2 Bc5 ⟨(0,.sl 516003 done.length 0 done.length)::(1,.clo D7 [.loc 516001 0 0])::xs,(516003,⟨2,done.map cR⟩)::(516001,⟨1,[[.loc hk 0 0]]⟩)::ob⟩=some ([],(516003,⟨2,L.map pR⟩)::(516001,⟨1,[[.loc hk 0 0]]⟩)::ob):=by
  intro xs h2;have hr:Aum 2 (done.map cR)=some (done.map cL):=Asz 2 cL (λ _=>rfl) done
  have aS:(516003:Nat)<MK:=by rw [U2];omega
  have hg0:get ((516003,(⟨2,done.map cR⟩:Obj))::(516001,⟨1,[[.loc hk 0 0]]⟩)::ob) 516001=some ⟨1,[[.loc hk 0 0]]⟩:=by simp only [Go.Am.get];rw [B6j (by omega),B6l trivial]
  have vN:Bc5 516003 (.clo D7 [.loc 516001 0 0]) ((516003,⟨2,done.map cR⟩)::(516001,⟨1,[[.loc hk 0 0]]⟩)::ob)=some (cfN cs):=by
   grind [Bc5]
  unfold S7;simp only [Go.Am.get,B68,B6j (show ¬(0:Nat)=1 by omega),B6j (show ¬(0:Nat)=2 by omega),B6j (show ¬(1:Nat)=2 by omega),h2,B6s]
  rw [B6l ⟨trivial,trivial,trivial,trivial,by omega⟩,vN,hr]
  simp only [Am.del,B68,B6j (show ¬(516001:Nat)=516003 by omega),d3,hL,Bwr]
 have aO:=bK ⟨(1,.loc 516001 0 0)::(5,.sl 516005 0 0 0)::(24,.sl 516003 L.length 0 L.length)::(25,i64 L.length)::(26,i64 0)::gs,(516005,⟨3,[]⟩)::(516003,⟨2,L.map pR⟩)::(516001,⟨1,[[.loc hk 0 0]]⟩)::ob⟩ (by
  simp -implicitDefEqProofs (disch:=first|omega|(simp;done)|assumption) [g,k])
 rw [jS];rw [<-hlL]at hs ⊢;simp only [D7]at hs;have aF:(L.map pR).length=L.length:=B6s _;have y1:=λ k=>A30 k L
 have b5:(hk==516005)=false:=beq_false_of_ne fD.2.2;unfold Bmf;simp -implicitDefEqProofs (disch:=first|omega|(simp;done)|assumption) [A6k,hs,g,k,n5,o5,d5,aO,y1,fD.1,fD.2.1,fD.2.2,b5]
theorem A8z (M:Nat)(b:Bool)(l done:List HC)(hk mk z:Nat)(hH:CaH gs ob)(hl:done.length<=200000)(hn:(l.map (·.b)).Nodup)(aS:get ob mk=some ⟨z,l.map HC.row⟩)(fD:¬hk=516001/\¬hk=516003/\¬hk=516004/\¬hk=2923003274661805836407369665432566039311865601964)(K:AX->St->Prop)
  (fN:(∀e∈l,∃f∈done,f.b=e.b)->K (.ex 0) ⟨(1,.loc 516001 0 0)::(3,.sl 516003 done.length 0 done.length)::gs,(516003,⟨2,done.map cR⟩)::(516001,⟨1,[[.loc hk 0 0]]⟩)::ob⟩)
  (jA:∀e∈l,(∀f∈done,f.b≠e.b)->∀s',U9 [1,3,12] 516000 517000 [516001,516003,2923003274661805836407369665432566039311865601964,516020] s'=hdC true (done++[e]) hk mk z gs ob->K .norm s'):
  B7 Aor M I8 (hdC b done hk mk z gs ob) K:=by
 obtain⟨g,k,hN⟩:=hH;obtain⟨n1,o1,d1⟩:=hN 516001 (by decide)
 obtain⟨n3,o3,d3⟩:=hN 516003 (by decide)
 obtain⟨n4,o4,d4⟩:=hN 516004 (by decide)
 obtain⟨ni,oi,di⟩:=hN 2923003274661805836407369665432566039311865601964 (by decide)
 have q1:=A0 d1 aS;have q3:=A0 d3 aS;have q4:=A0 d4 aS;have qi:=A0 di aS;have a1:=λ k=>Bkq k done
 have a2:=λ k=>Bkr k done
 have a3:=λ k=>Ads HC.b k done
 have a4:=λ k=>Adt HC.b k done
 have l3:=W2 n3;have p3:=O7 o3;obtain⟨h1,h3,h4,hi⟩:=fD;rw [Aa7,F9];have jP:get (hdC b done hk mk z gs ob).fr 12=some (.itr 2923003274661805836407369665432566039311865601964):=rfl;have fQ:get (hdC b done hk mk z gs ob).ob 2923003274661805836407369665432566039311865601964=some ⟨z,[.mp mk,.c (.int .i64 z)]::done.map (J7 HC.b)⟩:=by cases b<;>rfl
 have nQ:get (hdC b done hk mk z gs ob).ob mk=some ⟨z,l.map (Am5 HC.b kyC vlC)⟩:=by rw [<-By3];cases b<;>simp [hdC,Go.Am.get,q1,q3,qi,aS]
 simp only [B7];refine Al6 HC.b kyC vlC jP fQ nQ (λ e _=>⟨rfl,rfl⟩) (λ dS=> ?_) (λ e he cW=> ?_)
 ·have hK:=fN dS;refine⟨_,rfl,?_⟩;rw [C7,E3];unfold hdC;cases b<;>simp -implicitDefEqProofs (disch:=first|omega|(simp;done)|assumption) [g,k,D5,d1,d3,di]<;>exact hK
 ·have hf:=Ai5 HC.b kyC vlC hn he;have hK:=jA e he cW;refine⟨_,rfl,?_⟩;rw [C7,E3];rw [By3]at aS;have qL:(List.map cR done).length=done.length:=B6s _;cases b<;>simp -implicitDefEqProofs (disch:=first|omega|(simp;done)|assumption) [hdC,g,k,D5,d1,d3,d4,di,hf,a1,a2,a3,a4,Am5,J7,aS,q1,q3,q4,qi,B6i q1,B6i q3,B6i q4,B6i qi,n1,n3,n4,ni,o1,o3,o4,oi,qL,l3,p3,h1,h3,h4,hi]
  all_goals
   refine hK _ ?_;simp -implicitDefEqProofs (disch:=first|omega|(simp;done)|assumption) [hdC,g,k,J7,cR]
theorem A42 (M:Nat)(hk:Nat)(hH:CaH gs ob)(K:AX->St->Prop)(fN:K (.ex 0) ⟨(1,.loc 516001 0 0)::(3,.sl 516003 0 0 0)::gs,(516003,⟨2,[]⟩)::(516001,⟨1,[[.loc hk 0 0]]⟩)::ob⟩):
  B7 Aor M I8 ⟨(1,.loc 516001 0 0)::(3,.sl 516003 0 0 0)::(12,.itr 2923003274661805836407369665432566039311865601964)::gs,(2923003274661805836407369665432566039311865601964,⟨0,[[.ot .nm]]⟩)::(516003,⟨2,[]⟩)::(516001,⟨1,[[.loc hk 0 0]]⟩)::ob⟩ K:=by
 obtain⟨g,k,hN⟩:=hH;obtain⟨n1,o1,d1⟩:=hN 516001 (by decide)
 obtain⟨n3,o3,d3⟩:=hN 516003 (by decide)
 obtain⟨ni,oi,di⟩:=hN 2923003274661805836407369665432566039311865601964 (by decide)
 rw [Aa7,F9];have jP:get ((1,AV.loc 516001 0 0)::(3,AV.sl 516003 0 0 0)::(12,.itr 2923003274661805836407369665432566039311865601964)::gs) 12=some (.itr 2923003274661805836407369665432566039311865601964):=rfl;have fQ:get ((2923003274661805836407369665432566039311865601964,(⟨0,[[.ot .nm]]⟩:Am.Obj))::(516003,⟨2,[]⟩)::(516001,⟨1,[[.loc hk 0 0]]⟩)::ob) 2923003274661805836407369665432566039311865601964=some ⟨0,[[.ot .nm]]⟩:=rfl;simp only [B7,Aqq,jP,fQ];left;refine⟨trivial,_,rfl,?_⟩;rw [C7,E3];simp -implicitDefEqProofs (disch:=first|omega|(simp;done)|assumption) [g,k,D5,d1,d3,di];exact fN
end
end Go.Am
namespace Go.Am
open Go.Proofs Go.Shelf Go.RowKit Go.Sort
theorem Bkt {cs done:List HC}(hp:done.Perm cs)(h:Y7 (ltN cs) (cs.map cL)=true):Avo cs done=Avo cs cs:=by
 unfold Avo;rw [Aps (lt:=ltN cs) (show SWO (ltN cs)from W3 _) (hp.map cL) h]
theorem A80 :D9 Tryz.prog 28 Aen:=by
 refine Aom (nm:=λ f=>if f=532 then some 56 else none) (Γ:=Aor) (fn:=P9) (M:=200001) (Bwq rfl) (by decide+kernel) (by decide+kernel) Aen ?_
 intro fr ob rs aA h;unfold Aen at h;split at h
 case h_2=>simp at h
 split at h
 case isFalse=>simp at h
 rename_i cs aW hc;simp only [B6g,B6k]at h;obtain⟨rfl,rfl⟩:=h;simp only [B6h,Al7,B6o,B6q]at hc;obtain⟨⟨⟨c1,c2⟩,c3⟩,c5,c4⟩:=hc;have bW:A1 516000 517000 [] ob=ob:=A31 c5 [];have hm:∀k∈By2,516000<=k%KT/\k%KT<517000:=by decide
 have hH:CaH (ghs fr) (A1 516000 517000 [] ob):=⟨A7f fr,Aqt _ _ ob,λ k hk=>⟨Ahw _ _ (c4 k hk).1,(c4 k hk).2,Aha _ _ _ (hm k hk).1 (hm k hk).2 ob⟩⟩
 unfold Ayc at aW;split at aW
 case h_2=>simp at aW
 rename_i hk h0;simp only [obC]at aW ⊢;rw [bW]at aW hH ⊢;have f1:K4 516001 fr=true:=(c4 516001 (by decide)).1
 clear c4 bW c5;have gH:∀i,GB<=i->get (ghs fr) i=get fr i:=λ i hi=>by rw [Aeh,B6l hi]
 generalize nF:ghs fr=gs at*;have jB:=hH;obtain⟨g,k,hN⟩:=hH;obtain⟨n1,o1,d1⟩:=hN 516001 (by decide)
 obtain⟨n3,o3,d3⟩:=hN 516003 (by decide)
 obtain⟨n4,o4,d4⟩:=hN 516004 (by decide)
 obtain⟨n5,o5,d5⟩:=hN 516005 (by decide)
 obtain⟨ni,oi,di⟩:=hN 2923003274661805836407369665432566039311865601964 (by decide)
 have dS:∀done:List HC,done.Perm cs->Bmx P9 fr [.sl 516005 cs.length 0 cs.length] ((516005,⟨3,Avo cs cs⟩)::ob) .ret ⟨(2,.sl 516005 done.length 0 done.length)::gs,(516005,⟨3,Avo cs done⟩)::ob⟩:=by
  intro done hp;rw [hp.length_eq,Bkt hp c3];generalize Avo cs cs=R at*;refine⟨.inr rfl,?_,?_,λ i hi=> ?_⟩
  ·simp
  ·simp [k]
  ·have:¬2=i:=by unfold GB at hi;omega
   simp only [Go.Am.get,B6j this];exact gH i hi
 show B7 Aor 200001 Z9 _ _
 generalize hKK:Bmx P9 fr [.sl 516005 cs.length 0 cs.length] ((516005,⟨3,Avo cs cs⟩)::ob)=K at*;rw [Ajq];have eT:Bmf= .keepP [1,3] 516000 517000 [516001,516003,516020] (.seq (.reg A65) (.keepP [1,3] 516000 517000 [516001,516003,516020] (.seq (.reg A64) (.keepP [1,3,5] 516000 517000 [516001,516003,516005,516020,516044] (.own 5 516005 (.seq (.seq (.reg A63) (.keepP [1,5,24,25,26] 516000 517000 [516001,516003,516005,516020,516044] (.block 2 (.loop K1)))) (.keepP [5] 516000 517000 [516005,516044] (.seq (.reg Axu) (.keepP [2] 516000 517000 [516005,516044] (.ret)))))))))):=rfl
 try simp only [Cx.sr,Cx.pP,Cx.pQ,Cx.p0,Cx.rg,Cx.cd,Nat.reduceMul,Nat.reduceAdd]
 rw [<-eT];have lA:=λ done hC (hp:done.Perm cs)=>Bda (gs:=gs) (ob:=ob) 200001 hk cs done jB hC (by rw [hp.length_eq];exact c2) (by omega)
 generalize Bmf=T at*;unfold Ahv at aW;split at aW
 ·simp at aW
 rename_i fM;have fin:∀done:List HC,A7h hk cs ob->done.Perm cs->B7 Aor 200001 (.ac T) ⟨(1,.loc 516001 0 0)::(3,.sl 516003 done.length 0 done.length)::gs,(516003,⟨2,done.map cR⟩)::(516001,⟨1,[[.loc hk 0 0]]⟩)::ob⟩ K:=λ done hC hp=>by
  rw [E3,lA done hC hp];rw [D5];exact dS done hp
 split at aW
 ·rename_i wv nv dK;have q1:=A0 d1 dK;have q3:=A0 d3 dK;have q4:=A0 d4 dK;have qi:=A0 di dK;simp only [B6g]at aW;subst aW;simp -implicitDefEqProofs (disch:=first|omega|(simp;done)|assumption) [F9,E3,D0,N8,I2,D5,C7,h0,nF,f1,g,k,dK,q1,q3,q4,qi,B6i q1,B6i q3,B6i qi,d1,d3,di,n1,n3,ni,o1,o3,oi];rw [N8 Aor _ 3 516003 _ _ _ (sz:=2) rfl (by simp -implicitDefEqProofs (disch:=first|omega|(simp;done)|assumption) [n3,o3,d3,q3,B6i q3])]
  simp -implicitDefEqProofs (disch:=first|omega|(simp;done)|assumption) [F9,E3,D0,N8,I2,D5,C7,h0,nF,f1,g,k,dK,q1,q3,q4,qi,B6i q1,B6i q3,B6i qi,d1,d3,di,n1,n3,ni,o1,o3,oi,V5]
  show lpW _ (200000+1) _ _
  rw [lpW];rw [Abt,D0];have hs:U9 [1,3,12] 516000 517000 [516001,516003,2923003274661805836407369665432566039311865601964,516020] ⟨(1,.loc 516001 0 0)::(3,AV.sl 516003 0 0 0)::(12,.itr 2923003274661805836407369665432566039311865601964)::gs,(2923003274661805836407369665432566039311865601964,⟨0,[[.ot .nm]]⟩)::(516003,⟨2,[]⟩)::(516001,⟨1,[[.loc hk 0 0]]⟩)::ob⟩=⟨(1,.loc 516001 0 0)::(3,AV.sl 516003 0 0 0)::(12,.itr 2923003274661805836407369665432566039311865601964)::gs,(2923003274661805836407369665432566039311865601964,⟨0,[[.ot .nm]]⟩)::(516003,⟨2,[]⟩)::(516001,⟨1,[[.loc hk 0 0]]⟩)::ob⟩:=by simp [g,k]
  rw [hs];refine A42 _ hk jB _ ?_
  show Br1 0 _ (.ex 0) _
  rw [Agb,B6l rfl,C7];exact fin [] ⟨wv,nv,.inl ⟨dK,rfl⟩⟩ (.refl _)
 ·rename_i wv mk nv dK;have q1:=A0 d1 dK;have q3:=A0 d3 dK;have q4:=A0 d4 dK;have qi:=A0 di dK;split at aW
  case h_2=>simp at aW
  rename_i om aS;obtain⟨z,rows⟩:=om;have qM:rows=_:=Al5 aW;subst qM;have m1:=A0 d1 aS;have m3:=A0 d3 aS;have mi:=A0 di aS;simp -implicitDefEqProofs (disch:=first|omega|(simp;done)|assumption) [F9,E3,D0,N8,I2,D5,C7,h0,nF,f1,g,k,dK,q1,q3,q4,qi,B6i q1,B6i q3,B6i qi,d1,d3,di,n1,n3,ni,o1,o3,oi];rw [N8 Aor _ 3 516003 _ _ _ (sz:=2) rfl (by simp -implicitDefEqProofs (disch:=first|omega|(simp;done)|assumption) [n3,o3,d3,q3,B6i q3])]
  simp -implicitDefEqProofs (disch:=first|omega|(simp;done)|assumption) [F9,E3,D0,N8,I2,D5,C7,h0,nF,f1,g,k,dK,q1,q3,q4,qi,B6i q1,B6i q3,B6i qi,d1,d3,di,n1,n3,ni,o1,o3,oi,aS,m1,m3,mi,B6i m1,B6i m3,B6i mi,V5];refine Ayb (f:=B7 Aor 200001 O0) (b:=HC.b) (λ s K K' h=>Aif _ h) (l:=cs) (J1.1 c1) (λ done s=>∃b,U9 [1,3,12] 516000 517000 [516001,516003,2923003274661805836407369665432566039311865601964,516020] s=hdC b done hk mk z gs ob) (λ done s hs hp=> ?_) _ _ ?_ ?_
  rotate_left
  ·exact⟨false,by simp [g,k,hdC]⟩
  ·omega
  obtain⟨b,hs⟩:=hs;obtain⟨rest,hp⟩:=hp;have iN:=hp.length_eq;rw [B67]at iN;rw [Abt,D0,hs];refine A8z 200001 b cs done hk mk z jB (by omega) (J1.1 c1) aS ⟨B6i q1,B6i q3,B6i q4,B6i qi⟩ _ (λ jC=> .inr ⟨by simp,jC,λ sS=> ?_⟩) (λ e he cW s' mI=> .inl ⟨rfl,e,he,cW,true,mI⟩)
  rw [Agb,B6l rfl,C7];exact fin done ⟨wv,nv,.inr ⟨mk,z,dK,aS⟩⟩ sS
 ·simp at aW
end Go.Am
namespace Go.Am
open Go.Proofs Go.Shelf Go.RowKit Go.Sort
theorem Aye {a b:List Int}(h:a.Perm b):B4 a=B4 b:=by
 grind [B4,List.any_eq_true]
def Aeo (car dir:Int)(l:List HC):List Int:=(l.filter λ e=>decide (e.c=car)&&decide (e.d=dir)).map (·.f)
def Ada (car dir:Int)(l:List HQ):List Int:=(l.filter λ e=>decide (e.k.2.2=car)&&decide (e.k.2.1=dir)&&decide (0<=car)).map (·.k.1)
def Bhb :List Nat:=[518006,518007,518008,518009,518010,2923003274661805836407369665432566039311865603967,2923003274661805836407369665432566039311865603991]
structure LaH (gs:FL)(ob:OL):Prop where
 g:Gh gs
 k:Kf 518000 519000 ob
 n:∀k∈Bhb,K4 k gs=true/\B8 k ob=true/\del ob k=ob
def A32 :H6:=env [(527,Aau,2)] [] Axn 10 1
theorem A33 :A67 (A32 527):=by
 intro p n
 show env _ _ _ _ (0+1) _ _=_
 rw [A9 (F:=Aau) (k:=2) rfl rfl];exact Am0 _ _ p n
def nmL :Nat->Option Nat:=λ f=>if f=527 then some 39 else none
theorem Bws :Aec Tryz.prog nmL A32:=Amr (by kernel_rfl) Azb (by decide+kernel) (by rfl) 10 1
def hdL (b:Bool)(done:List HC)(hk mk z:Nat)(car dir:Int)(gs:FL)(ob:OL):St:=
 ⟨(0,.loc hk 0 0)::(1,i64 car)::(2,i64 dir)::(6,.loc 518006 0 0)::(7,.loc 518007 0 0)::(15,.itr 2923003274661805836407369665432566039311865603967)::gs,
  if b then(518007,⟨2,[Af2 (B4 (Aeo car dir done))]⟩)::(2923003274661805836407369665432566039311865603967,⟨z,[.mp mk,.c (.int .i64 z)]::done.map (J7 HC.b)⟩)::(518006,⟨2,[z2R]⟩)::ob
  else(2923003274661805836407369665432566039311865603967,⟨z,[.mp mk,.c (.int .i64 z)]::done.map (J7 HC.b)⟩)::(518007,⟨2,[Af2 (B4 (Aeo car dir done))]⟩)::(518006,⟨2,[z2R]⟩)::ob⟩
section
variable {gs : FL} {ob : OL}
theorem A81 (M:Nat)(b:Bool)(l done:List HC)(hk mk z:Nat)(car dir:Int)(hH:LaH gs ob)(hn:(l.map (·.b)).Nodup)(aS:get ob mk=some ⟨z,l.map HC.row⟩)(fD:∀k∈Bhb,¬hk=k)(K:AX->St->Prop)
  (fN:(∀e∈l,∃f∈done,f.b=e.b)->K (.ex 0) ⟨(0,.loc hk 0 0)::(1,i64 car)::(2,i64 dir)::(6,.loc 518006 0 0)::(7,.loc 518007 0 0)::gs,(518007,⟨2,[Af2 (B4 (Aeo car dir done))]⟩)::(518006,⟨2,[z2R]⟩)::ob⟩)
  (jA:∀e∈l,(∀f∈done,f.b≠e.b)->∀b s',U9 [0,1,2,6,7,15] 518000 519000 [518006,518007,2923003274661805836407369665432566039311865603967] s'=hdL b (done++[e]) hk mk z car dir gs ob->K .norm s'):
  B7 A32 M J0 (hdL b done hk mk z car dir gs ob) K:=by
 obtain⟨g,k,hN⟩:=hH;obtain⟨n6,o6,d6⟩:=hN 518006 (by decide)
 obtain⟨n7,o7,d7⟩:=hN 518007 (by decide)
 obtain⟨n8,o8,d8⟩:=hN 518008 (by decide)
 obtain⟨n9,o9,d9⟩:=hN 518009 (by decide)
 obtain⟨ni,oi,di⟩:=hN 2923003274661805836407369665432566039311865603967 (by decide)
 have h6:=fD 518006 (by decide)
 have h7:=fD 518007 (by decide)
 have h8:=fD 518008 (by decide)
 have h9:=fD 518009 (by decide)
 have hi:=fD 2923003274661805836407369665432566039311865603967 (by decide)
 have q6:=A0 d6 aS;have q7:=A0 d7 aS;have q8:=A0 d8 aS;have q9:=A0 d9 aS;have qi:=A0 di aS;have a3:=λ k=>Ads HC.b k done
 have a4:=λ k=>Adt HC.b k done
 rw [Aa9,F9];have jP:get (hdL b done hk mk z car dir gs ob).fr 15=some (.itr 2923003274661805836407369665432566039311865603967):=rfl;have fQ:get (hdL b done hk mk z car dir gs ob).ob 2923003274661805836407369665432566039311865603967=some ⟨z,[.mp mk,.c (.int .i64 z)]::done.map (J7 HC.b)⟩:=by cases b<;>rfl
 have nQ:get (hdL b done hk mk z car dir gs ob).ob mk=some ⟨z,l.map (Am5 HC.b kyC vlC)⟩:=by rw [<-By3];cases b<;>simp [hdL,Go.Am.get,q6,q7,qi,aS]
 simp only [B7];refine Al6 HC.b kyC vlC jP fQ nQ (λ e _=>⟨rfl,rfl⟩) (λ dS=> ?_) (λ e he cW=> ?_)
 ·have hK:=fN dS;refine⟨_,rfl,?_⟩;rw [C7,E3];unfold hdL;generalize B4 (Aeo car dir done)=P at*;cases b<;>simp -implicitDefEqProofs (disch:=first|omega|(simp;done)|assumption) [g,k,D5,d6,d7,di]<;>exact hK
 ·have hf:=Ai5 HC.b kyC vlC hn he;have hK:=jA e he cW;have hW:=A33 (B4 (Aeo car dir done)) e.f;rw [Aiv]at hW;have nD:e.c=car->e.d=dir->Aeo car dir (done++[e])=Aeo car dir done++[e.f]:=λ h1 h2=>by simp [Aeo,B8i,h1,h2]
  have nE:¬(e.c=car/\e.d=dir)->Aeo car dir (done++[e])=Aeo car dir done:=λ h=>by
   grind [Aeo]
  refine⟨_,rfl,?_⟩;rw [C7,E3];rw [By3]at aS;obtain⟨eb,ef,ed,en,ec⟩:=e;simp only at hW nD nE;by_cases hc:ec=car
  ·by_cases hd:ed=dir
   ·have hK:=hK true;simp only [hdL,nD hc hd]at hK;unfold hdL;generalize B4 (Aeo car dir done++[ef])=P2 at*;generalize B4 (Aeo car dir done)=P1 at*;simp only [E0,Q7]at hW;cases b<;>simp -implicitDefEqProofs (disch:=first|omega|(simp;done)|assumption) [g,k,D5,d6,d7,d8,d9,di,hf,a3,a4,Am5,J7,aS,q6,q7,q8,q9,qi,B6i q6,B6i q7,B6i q8,B6i q9,B6i qi,n6,n7,n8,n9,ni,o6,o7,o8,o9,oi,h6,h7,h8,h9,hi,hc,hd,hW]
    all_goals
     refine hK _ ?_;simp -implicitDefEqProofs (disch:=first|omega|(simp;done)|assumption) [g,k,J7]
   ·have hK:=hK false;simp only [hdL,nE (λ h=>hd h.2)]at hK
    unfold hdL;generalize B4 (Aeo car dir done)=P1 at*;cases b<;>simp -implicitDefEqProofs (disch:=first|omega|(simp;done)|assumption) [g,k,D5,d6,d7,d8,d9,di,hf,a3,a4,Am5,J7,aS,q6,q7,q8,q9,qi,B6i q6,B6i q7,B6i q8,B6i q9,B6i qi,n6,n7,n8,n9,ni,o6,o7,o8,o9,oi,h6,h7,h8,h9,hi,hc,hd]
    all_goals
     refine hK _ ?_;simp -implicitDefEqProofs (disch:=first|omega|(simp;done)|assumption) [g,k,J7]
  ·have hK:=hK false;simp only [hdL,nE (λ h=>hc h.1)]at hK
   unfold hdL;generalize B4 (Aeo car dir done)=P1 at*;cases b<;>simp -implicitDefEqProofs (disch:=first|omega|(simp;done)|assumption) [g,k,D5,d6,d7,d8,d9,di,hf,a3,a4,Am5,J7,aS,q6,q7,q8,q9,qi,B6i q6,B6i q7,B6i q8,B6i q9,B6i qi,n6,n7,n8,n9,ni,o6,o7,o8,o9,oi,h6,h7,h8,h9,hi,hc]
   all_goals
    refine hK _ ?_;simp -implicitDefEqProofs (disch:=first|omega|(simp;done)|assumption) [g,k,J7]
theorem A43 (M:Nat)(hk:Nat)(car dir:Int)(hH:LaH gs ob)(K:AX->St->Prop)
  (fN:K (.ex 0) ⟨(0,.loc hk 0 0)::(1,i64 car)::(2,i64 dir)::(6,.loc 518006 0 0)::(7,.loc 518007 0 0)::gs,(518007,⟨2,[z2R]⟩)::(518006,⟨2,[z2R]⟩)::ob⟩):
  B7 A32 M J0 ⟨(0,.loc hk 0 0)::(1,i64 car)::(2,i64 dir)::(6,.loc 518006 0 0)::(7,.loc 518007 0 0)::(15,.itr 2923003274661805836407369665432566039311865603967)::gs,(2923003274661805836407369665432566039311865603967,⟨0,[[.ot .nm]]⟩)::(518007,⟨2,[z2R]⟩)::(518006,⟨2,[z2R]⟩)::ob⟩ K:=by
 obtain⟨g,k,hN⟩:=hH;obtain⟨n6,o6,d6⟩:=hN 518006 (by decide)
 obtain⟨n7,o7,d7⟩:=hN 518007 (by decide)
 obtain⟨ni,oi,di⟩:=hN 2923003274661805836407369665432566039311865603967 (by decide)
 rw [Aa9,F9];have jP:get ((0,.loc hk 0 0)::(1,i64 car)::(2,i64 dir)::(6,.loc 518006 0 0)::(7,.loc 518007 0 0)::(15,.itr 2923003274661805836407369665432566039311865603967)::gs) 15=some (.itr 2923003274661805836407369665432566039311865603967):=rfl;have fQ:get ((2923003274661805836407369665432566039311865603967,(⟨0,[[.ot .nm]]⟩:Am.Obj))::(518007,⟨2,[z2R]⟩)::(518006,⟨2,[z2R]⟩)::ob) 2923003274661805836407369665432566039311865603967=some ⟨0,[[.ot .nm]]⟩:=rfl;simp only [B7,Aqq,jP,fQ];left;refine⟨trivial,_,rfl,?_⟩;rw [C7,E3];simp -implicitDefEqProofs (disch:=first|omega|(simp;done)|assumption) [g,k,D5,d6,d7,di];exact fN
def hdM (b:Bool)(F:List Int)(done:List HQ)(mk z:Nat)(car dir:Int)(gs:FL)(ob:OL):St:=
 ⟨(1,i64 car)::(2,i64 dir)::(6,.loc 518006 0 0)::(7,.loc 518007 0 0)::(39,.itr 2923003274661805836407369665432566039311865603991)::gs,
  if b then(518007,⟨2,[Af2 (B4 (F++Ada car dir done))]⟩)::(2923003274661805836407369665432566039311865603991,⟨z,[.mp mk,.c (.int .i64 z)]::done.map (J7 bQ)⟩)::(518006,⟨2,[z2R]⟩)::ob
  else(2923003274661805836407369665432566039311865603991,⟨z,[.mp mk,.c (.int .i64 z)]::done.map (J7 bQ)⟩)::(518007,⟨2,[Af2 (B4 (F++Ada car dir done))]⟩)::(518006,⟨2,[z2R]⟩)::ob⟩
theorem A44 (M:Nat)(b:Bool)(F:List Int)(l done:List HQ)(mk z:Nat)(car dir:Int)(hH:LaH gs ob)(hn:(l.map (·.b)).Nodup)(aS:get ob mk=some ⟨z,l.map HQ.row⟩)(hq:∀e∈l,get ob e.ky=some e.obj)(K:AX->St->Prop)
  (fN:(∀e∈l,∃f∈done,f.b=e.b)->K (.ex 2) ⟨(6,.loc 518006 0 0)::(7,.loc 518007 0 0)::gs,(518007,⟨2,[Af2 (B4 (F++Ada car dir done))]⟩)::(518006,⟨2,[z2R]⟩)::ob⟩)
  (jA:∀e∈l,(∀f∈done,f.b≠e.b)->∀b s',U9 [1,2,6,7,39] 518000 519000 [518006,518007,2923003274661805836407369665432566039311865603991] s'=hdM b F (done++[e]) mk z car dir gs ob->K .norm s'):
  B7 A32 M I9 (hdM b F done mk z car dir gs ob) K:=by
 obtain⟨g,k,hN⟩:=hH;obtain⟨n6,o6,d6⟩:=hN 518006 (by decide)
 obtain⟨n7,o7,d7⟩:=hN 518007 (by decide)
 obtain⟨n0,o0,d0⟩:=hN 518010 (by decide)
 obtain⟨ni,oi,di⟩:=hN 2923003274661805836407369665432566039311865603991 (by decide)
 have q6:=A0 d6 aS;have q7:=A0 d7 aS;have q0:=A0 d0 aS;have qi:=A0 di aS;have a3:=λ k=>Ads bQ k done
 have a4:=λ k=>Adt bQ k done
 rw [Aa8,F9];have jP:get (hdM b F done mk z car dir gs ob).fr 39=some (.itr 2923003274661805836407369665432566039311865603991):=rfl;have fQ:get (hdM b F done mk z car dir gs ob).ob 2923003274661805836407369665432566039311865603991=some ⟨z,[.mp mk,.c (.int .i64 z)]::done.map (J7 bQ)⟩:=by cases b<;>rfl
 have nQ:get (hdM b F done mk z car dir gs ob).ob mk=some ⟨z,l.map (Am5 bQ kyQ HQ.val)⟩:=by rw [<-By0];cases b<;>simp [hdM,Go.Am.get,q6,q7,qi,aS]
 simp only [B7];refine Al6 bQ kyQ HQ.val jP fQ nQ (λ e _=>⟨rfl,rfl⟩) (λ dS=> ?_) (λ e he cW=> ?_)
 ·have hK:=fN dS;refine⟨_,rfl,?_⟩;rw [C7,E3];unfold hdM;generalize B4 (F++Ada car dir done)=P at*;cases b<;>simp -implicitDefEqProofs (disch:=first|omega|(simp;done)|assumption) [g,k,D5,d6,d7,di]<;>exact hK
 ·have hf:=Ai5 bQ kyQ HQ.val hn he;have hK:=jA e he cW;have kU:=hq e he;have y6:=A0 d6 kU;have y7:=A0 d7 kU;have y0:=A0 d0 kU;have yi:=A0 di kU;have hW:=A33 (B4 (F++Ada car dir done)) e.k.1;rw [Aiv,B9b]at hW;have nD:e.k.2.2=car->e.k.2.1=dir->0<=car->Ada car dir (done++[e])=Ada car dir done++[e.k.1]:=λ h1 h2 h3=>by simp [Ada,B8i,h1,h2,h3]
  have nE:¬(e.k.2.2=car/\e.k.2.1=dir/\0<=car)->Ada car dir (done++[e])=Ada car dir done:=λ h=>by
   grind [Ada]
  refine⟨_,rfl,?_⟩;rw [C7,E3];rw [By0]at aS;obtain⟨eb,⟨ef,ed,ec⟩,ky,gone,el⟩:=e;simp only at hW nD nE kU y6 y7 y0 yi;have gX:(List.map w4R (gone++el)).length=gone.length+el.length:=by simp
  by_cases hc:ec=car/\ed=dir/\0<=car
  ·obtain⟨hc,hd,h0⟩:=hc;have hK:=hK true;simp only [hdM,nD hc hd h0]at hK;unfold hdM;generalize B4 (F++(Ada car dir done++[ef]))=P2 at*;generalize B4 (F++Ada car dir done)=P1 at*;simp only [E0,Q7]at hW;cases b<;>simp -implicitDefEqProofs (disch:=first|omega|(simp;done)|assumption) [g,k,D5,d6,d7,d0,di,hf,a3,a4,Am5,J7,U5,aS,q6,q7,q0,qi,B6i q6,B6i q7,B6i q0,B6i qi,n6,n7,n0,ni,o6,o7,o0,oi,hc,hd,h0,hW,HQ.val,kU,y6,y7,y0,yi,B6i y6,B6i y7,B6i y0,B6i yi,kyQ,gX]
   all_goals
    refine hK _ ?_;simp -implicitDefEqProofs (disch:=first|omega|(simp;done)|assumption) [g,k,J7]
  ·have hK:=hK false;simp only [hdM,nE hc]at hK;unfold hdM;generalize B4 (F++Ada car dir done)=P1 at*;by_cases fF:ec=car
   ·by_cases tW:ed=dir
    ·have h01:¬0<=car:=λ h=>hc ⟨fF,tW,h⟩
     cases b<;>simp -implicitDefEqProofs (disch:=first|omega|(simp;done)|assumption) [g,k,D5,d6,d7,d0,di,hf,a3,a4,Am5,J7,U5,aS,q6,q7,q0,qi,B6i q6,B6i q7,B6i q0,B6i qi,n6,n7,n0,ni,o6,o7,o0,oi,fF,tW,h01,HQ.val,kU,y6,y7,y0,yi,B6i y6,B6i y7,B6i y0,B6i yi,kyQ,gX]
     all_goals
      refine hK _ ?_;simp -implicitDefEqProofs (disch:=first|omega|(simp;done)|assumption) [g,k,J7]
    ·cases b<;>simp -implicitDefEqProofs (disch:=first|omega|(simp;done)|assumption) [g,k,D5,d6,d7,d0,di,hf,a3,a4,Am5,J7,U5,aS,q6,q7,q0,qi,B6i q6,B6i q7,B6i q0,B6i qi,n6,n7,n0,ni,o6,o7,o0,oi,fF,tW,HQ.val,kU,y6,y7,y0,yi,B6i y6,B6i y7,B6i y0,B6i yi,kyQ,gX]
     all_goals
      refine hK _ ?_;simp -implicitDefEqProofs (disch:=first|omega|(simp;done)|assumption) [g,k,J7]
   ·cases b<;>simp -implicitDefEqProofs (disch:=first|omega|(simp;done)|assumption) [g,k,D5,d6,d7,d0,di,hf,a3,a4,Am5,J7,U5,aS,q6,q7,q0,qi,B6i q6,B6i q7,B6i q0,B6i qi,n6,n7,n0,ni,o6,o7,o0,oi,fF,HQ.val,kU,y6,y7,y0,yi,B6i y6,B6i y7,B6i y0,B6i yi,kyQ,gX]
    all_goals
     refine hK _ ?_;simp -implicitDefEqProofs (disch:=first|omega|(simp;done)|assumption) [g,k,J7]
theorem A0v (M:Nat)(F:List Int)(car dir:Int)(hH:LaH gs ob)(K:AX->St->Prop)
  (fN:K (.ex 2) ⟨(6,.loc 518006 0 0)::(7,.loc 518007 0 0)::gs,(518007,⟨2,[Af2 (B4 F)]⟩)::(518006,⟨2,[z2R]⟩)::ob⟩):
  B7 A32 M I9 ⟨(1,i64 car)::(2,i64 dir)::(6,.loc 518006 0 0)::(7,.loc 518007 0 0)::(39,.itr 2923003274661805836407369665432566039311865603991)::gs,(2923003274661805836407369665432566039311865603991,⟨0,[[.ot .nm]]⟩)::(518007,⟨2,[Af2 (B4 F)]⟩)::(518006,⟨2,[z2R]⟩)::ob⟩ K:=by
 obtain⟨g,k,hN⟩:=hH;obtain⟨n6,o6,d6⟩:=hN 518006 (by decide)
 obtain⟨n7,o7,d7⟩:=hN 518007 (by decide)
 obtain⟨ni,oi,di⟩:=hN 2923003274661805836407369665432566039311865603991 (by decide)
 rw [Aa8,F9];generalize B4 F=P at*;have jP:get ((1,i64 car)::(2,i64 dir)::(6,.loc 518006 0 0)::(7,.loc 518007 0 0)::(39,.itr 2923003274661805836407369665432566039311865603991)::gs) 39=some (.itr 2923003274661805836407369665432566039311865603991):=rfl;have fQ:get ((2923003274661805836407369665432566039311865603991,(⟨0,[[.ot .nm]]⟩:Am.Obj))::(518007,⟨2,[Af2 P]⟩)::(518006,⟨2,[z2R]⟩)::ob) 2923003274661805836407369665432566039311865603991=some ⟨0,[[.ot .nm]]⟩:=rfl;simp only [B7,Aqq,jP,fQ];left;refine⟨trivial,_,rfl,?_⟩;rw [C7,E3];simp -implicitDefEqProofs (disch:=first|omega|(simp;done)|assumption) [g,k,D5,d6,d7,di];exact fN
end
end Go.Am
namespace Go.Am
open Go.Proofs Go.Shelf Go.RowKit Go.Sort
def Ahb (s:St):Bool:=A0u 518000 519000 s.ob&&Bhb.all λ k=>K4 k s.fr&&B8 k s.ob
def Ars (s:St):Option (Int×Int×List HC×List HQ):=match get s.fr 0,get s.fr 1,get s.fr 2 with
 |some (.loc hk 0 0),some (.c (.int .i64 car)),some (.c (.int .i64 dir))=>match Ahv 518006 hk s.ob,Aqa hk s.ob with
  |some cs,some (_,qs)=>some (car,dir,cs,qs)
  |_,_=>none
 |_,_,_=>none
def Ab2 (s:St):Option (List AV×OL):=
 match Ars s with
 |some (car,dir,cs,qs)=>if (Ajv (cs.map (·.b))&&Ajv (qs.map (·.b))&&decide (cs.length<=200000)&&decide (qs.length<=200000)&&Ahb s)=true then some ([E0 (B4 (Aeo car dir cs++Ada car dir qs))],s.ob)else none
 |none=>none
theorem A45 (s:St)(rs:List AV)(ob:OL)(R:List Nat)(hR:∀r∈R,GB<=r)(h:Ab2 s=some (rs,ob)):Ab2 ⟨E1 R s.fr,s.ob⟩=some (rs,ob):=by
 grind [GB,get,E1,E7,Ars,Ab2,Ahb,List.all_eq_true,A3x]
section
variable {gs : FL} {ob : OL}
def Bmg :AW:= .ac (.keepP [6,7] 518000 519000 [518006,518007] (.seq (.reg Axv) (.keepP [6] 518000 519000 [518006] (.ret))))
def By4 :AW:= .seq (.seq (.ac (.reg A66)) (.keepP [1,2,6,7,39] 518000 519000 [518006,518007,2923003274661805836407369665432566039311865603991] (.block 2 (.loop H7)))) Bmg
theorem Bdb (M:Nat)(P:Nat->Bool)(hH:LaH gs ob)(K:AX->St->Prop)
  (hK:K .ret ⟨(6,.loc 518006 0 0)::gs,(518006,⟨2,[Af2 P]⟩)::ob⟩):
  B7 A32 M Bmg ⟨(6,.loc 518006 0 0)::(7,.loc 518007 0 0)::gs,(518007,⟨2,[Af2 P]⟩)::(518006,⟨2,[z2R]⟩)::ob⟩ K:=by
 obtain⟨g,k,hN⟩:=hH;obtain⟨n6,o6,d6⟩:=hN 518006 (by decide)
 obtain⟨n7,o7,d7⟩:=hN 518007 (by decide)
 unfold Bmg;rw [E3];simp -implicitDefEqProofs (disch:=first|omega|(simp;done)|assumption) [g,k,D5,d6,d7];exact hK
theorem Bku {car dir:Int}{a b:List HQ}(h:a.Perm b):(Ada car dir a).Perm (Ada car dir b):=(h.filter _).map _
theorem Bkv {car dir:Int}{a b:List HC}(h:a.Perm b):(Aeo car dir a).Perm (Aeo car dir b):=(h.filter _).map _
theorem Bkw (hk:Nat)(car dir:Int)(F:List Int)(qs:List HQ)(wm:Option Nat)(hq:Aqa hk ob=some (wm,qs))(hb:Ajv (qs.map (·.b))=true)(hl:qs.length<=200000)(hH:LaH gs ob)(fD:∀k∈Bhb,¬hk=k)(K:AX->St->Prop)
  (hK:K .ret ⟨(6,.loc 518006 0 0)::gs,(518006,⟨2,[Af2 (B4 (F++Ada car dir qs))]⟩)::ob⟩):
  B7 A32 200001 By4 ⟨(0,.loc hk 0 0)::(1,i64 car)::(2,i64 dir)::(6,.loc 518006 0 0)::(7,.loc 518007 0 0)::gs,(518007,⟨2,[Af2 (B4 F)]⟩)::(518006,⟨2,[z2R]⟩)::ob⟩ K:=by
 have jB:=hH;obtain⟨g,k,hN⟩:=hH;obtain⟨n6,o6,d6⟩:=hN 518006 (by decide)
 obtain⟨n7,o7,d7⟩:=hN 518007 (by decide)
 obtain⟨ni,oi,di⟩:=hN 2923003274661805836407369665432566039311865603991 (by decide)
 have h6:=fD 518006 (by decide)
 have h7:=fD 518007 (by decide)
 have hi:=fD 2923003274661805836407369665432566039311865603991 (by decide)
 have uA:∀done:List HQ,done.Perm qs->K .ret ⟨(6,.loc 518006 0 0)::gs,(518006,⟨2,[Af2 (B4 (F++Ada car dir done))]⟩)::ob⟩:=λ done hp=>by
  rw [Aye ((Bku (car:=car) (dir:=dir) hp).append_left F)];exact hK
 unfold By4;have lA:=λ P hK=>Bdb (gs:=gs) (ob:=ob) 200001 P jB K hK
 generalize Bmg=T at*;unfold Aqa at hq;split at hq
 ·rename_i cmv nv dK;simp only [B6g,B6k]at hq;obtain⟨rfl,rfl⟩:=hq;have hS:B4 F=B4 F:=rfl;generalize hP:B4 F=P at*;simp -implicitDefEqProofs (disch:=first|omega|(simp;done)|assumption) [F9,E3,D0,I2,D5,C7,g,k,dK,h6,h7,hi,B6i h6,B6i h7,B6i hi,d6,d7,di,n6,n7,ni,o6,o7,oi,V5]
  show lpW _ (200000+1) _ _
  rw [lpW];rw [Abu,D0];subst hP;have hs:U9 [1,2,6,7,39] 518000 519000 [518006,518007,2923003274661805836407369665432566039311865603991] ⟨(1,i64 car)::(2,i64 dir)::(6,.loc 518006 0 0)::(7,.loc 518007 0 0)::(39,.itr 2923003274661805836407369665432566039311865603991)::gs,(2923003274661805836407369665432566039311865603991,⟨0,[[.ot .nm]]⟩)::(518007,⟨2,[Af2 (B4 F)]⟩)::(518006,⟨2,[z2R]⟩)::ob⟩=⟨(1,i64 car)::(2,i64 dir)::(6,.loc 518006 0 0)::(7,.loc 518007 0 0)::(39,.itr 2923003274661805836407369665432566039311865603991)::gs,(2923003274661805836407369665432566039311865603991,⟨0,[[.ot .nm]]⟩)::(518007,⟨2,[Af2 (B4 F)]⟩)::(518006,⟨2,[z2R]⟩)::ob⟩:=by simp [g,k]
  rw [hs];refine A0v _ F car dir jB _ ?_
  show Br1 2 _ (.ex 2) _
  rw [Agb,B6l rfl,C7];exact lA _ (by have:=uA [] (.refl _);simpa [Ada]using this)
 ·rename_i mk cmv nv dK;split at hq
  case h_2=>simp at hq
  rename_i om aS;obtain⟨z,rows⟩:=om;simp only [B6m,B6k]at hq;obtain⟨qs2,hq,rfl,rfl⟩:=hq;obtain⟨qM,kU⟩:=As0 hq;have qM:rows=_:=qM;subst qM;have m6:=A0 d6 aS;have m7:=A0 d7 aS;have mi:=A0 di aS;have kR:B4 F=B4 (F++Ada car dir []):=by simp [Ada]
  rw [kR];generalize hP:B4 (F++Ada car dir [])=P;simp -implicitDefEqProofs (disch:=first|omega|(simp;done)|assumption) [F9,E3,D0,I2,D5,C7,g,k,dK,h6,h7,hi,B6i h6,B6i h7,B6i hi,d6,d7,di,n6,n7,ni,o6,o7,oi,aS,m6,m7,mi,B6i m6,B6i m7,B6i mi,V5];refine Ayb (f:=B7 A32 200001 H7) (b:=bQ) (λ s K K' h=>Aif _ h) (l:=qs2) (J1.1 hb) (λ done s=>∃b,U9 [1,2,6,7,39] 518000 519000 [518006,518007,2923003274661805836407369665432566039311865603991] s=hdM b F done mk z car dir gs ob) (λ done s hs hp=> ?_) _ _ ?_ ?_
  rotate_left
  ·exact⟨false,by rw [hdM,hP];simp [g,k]⟩
  ·omega
  obtain⟨b,hs⟩:=hs;rw [Abu,D0,hs];refine A44 200001 b F qs2 done mk z car dir jB (J1.1 hb) aS kU _ (λ jC=> .inr ⟨by simp,jC,λ sS=> ?_⟩) (λ e he cW b s' mI=> .inl ⟨rfl,e,he,cW,b,mI⟩)
  rw [Agb,B6l rfl,C7];exact lA _ (uA done sS)
 ·simp at hq
end
end Go.Am
namespace Go.Am
open Go.Proofs Go.Shelf Go.RowKit Go.Sort
theorem Bs3 (a:Nat):∀k,wb (B4 []) a k=0
 |0=>rfl
 |k+1=>by rw [wb,Bs3 a k];simp [B4]
theorem Bai :Af2 (B4 [])=z2R:=by simp only [Af2,Bs3];rfl
theorem A82 :D9 Tryz.prog 22 Ab2:=by
 refine Aom (nm:=nmL) (Γ:=A32) (fn:=Q0) (M:=200001) Bws (by decide+kernel) (by decide+kernel) Ab2 ?_
 intro fr ob rs aA h;unfold Ab2 at h;split at h
 case h_2=>simp at h
 split at h
 case isFalse=>simp at h
 rename_i car dir cs qs aP hc;simp only [B6g,B6k]at h;obtain⟨rfl,rfl⟩:=h;simp only [B6h,Ahb,B6o,B6q]at hc;obtain⟨⟨⟨⟨c1,c2⟩,c3⟩,c4⟩,c5,c6⟩:=hc;have mE:=A31 c5;have hm:∀k∈Bhb,518000<=k%KT/\k%KT<519000:=by decide
 have yQ:∀k∈Bhb,del ob k=ob:=λ k hk=>Bz7 mE (hm k hk).1 (hm k hk).2
 have hH:LaH (ghs fr) ob:=⟨A7f fr,mE,λ k hk=>⟨Ahw _ _ (c6 k hk).1,(c6 k hk).2,yQ k hk⟩⟩
 have f6:=(c6 518006 (by decide)).1
 clear c5 c6;unfold Ars at aP;split at aP
 case h_2=>simp at aP
 rename_i hk car' dir' h0 h1 h2;split at aP
 case h_2=>simp at aP
 rename_i bS wm dX aW eY;simp only [B6g,B6k]at aP;obtain⟨rfl,rfl,rfl,rfl⟩:=aP;simp only at h0 h1 h2;have gH:∀i,GB<=i->get (ghs fr) i=get fr i:=λ i hi=>by rw [Aeh,B6l hi]
 generalize nF:ghs fr=gs at*;have jB:=hH;obtain⟨g,k,hN⟩:=hH;obtain⟨n6,o6,d6⟩:=hN 518006 (by decide)
 obtain⟨n7,o7,d7⟩:=hN 518007 (by decide)
 obtain⟨ni,oi,di⟩:=hN 2923003274661805836407369665432566039311865603967 (by decide)
 have dS:Bmx Q0 fr [E0 (B4 (Aeo car' dir' bS++Ada car' dir' dX))] ob .ret ⟨(6,.loc 518006 0 0)::gs,(518006,⟨2,[Af2 (B4 (Aeo car' dir' bS++Ada car' dir' dX))]⟩)::ob⟩:=by
  generalize B4 (Aeo car' dir' bS++Ada car' dir' dX)=P;refine⟨.inr rfl,?_,?_,λ i hi=> ?_⟩
  ·simp
  ·simp [k]
  all_goals grind [GB,Go.Am.get]
 show B7 A32 200001 Aaa _ _
 generalize hKK:Bmx Q0 fr [E0 (B4 (Aeo car' dir' bS++Ada car' dir' dX))] ob=K at*;rw [Ajr];have eT:By4= .seq (.seq (.ac (.reg A66)) (.keepP [1,2,6,7,39] 518000 519000 [518006,518007,2923003274661805836407369665432566039311865603991] (.block 2 (.loop H7)))) (.ac (.keepP [6,7] 518000 519000 [518006,518007] (.seq (.reg Axv) (.keepP [6] 518000 519000 [518006] (.ret))))):=rfl
 try simp only [Cx.sr,Cx.pP,Cx.pQ,Cx.p0,Cx.rg,Cx.cd,Nat.reduceMul,Nat.reduceAdd]
 rw [<-eT];have fD:∀{o:Am.Obj},get ob hk=some o->∀k∈Bhb,¬hk=k:=λ ho k aN=>B6i (A0 (yQ k aN) ho)
 have lD:=λ F fD hK=>Bkw (gs:=gs) (ob:=ob) hk car' dir' F dX wm eY c2 c4 jB fD K hK
 generalize By4=T at*;unfold Ahv at aW;split at aW
 ·simp at aW
 split at aW
 ·rename_i wv nv dK;have fD:=fD dK;have h6:=fD 518006 (by decide)
  have h7:=fD 518007 (by decide)
  have hi:=fD 2923003274661805836407369665432566039311865603967 (by decide)
  simp only [B6g]at aW;subst aW;simp -implicitDefEqProofs (disch:=first|omega|(simp;done)|assumption) [F9,E3,D0,I2,D5,C7,h0,h1,h2,nF,f6,g,k,dK,h6,h7,hi,B6i h6,B6i h7,B6i hi,d6,d7,di,n6,n7,ni,o6,o7,oi,V5]
  show lpW _ (200000+1) _ _
  rw [lpW];rw [Abv,D0];have hs:U9 [0,1,2,6,7,15] 518000 519000 [518006,518007,2923003274661805836407369665432566039311865603967] ⟨(0,.loc hk 0 0)::(1,i64 car')::(2,i64 dir')::(6,.loc 518006 0 0)::(7,.loc 518007 0 0)::(15,.itr 2923003274661805836407369665432566039311865603967)::gs,(2923003274661805836407369665432566039311865603967,⟨0,[[.ot .nm]]⟩)::(518007,⟨2,[z2R]⟩)::(518006,⟨2,[z2R]⟩)::ob⟩=⟨(0,.loc hk 0 0)::(1,i64 car')::(2,i64 dir')::(6,.loc 518006 0 0)::(7,.loc 518007 0 0)::(15,.itr 2923003274661805836407369665432566039311865603967)::gs,(2923003274661805836407369665432566039311865603967,⟨0,[[.ot .nm]]⟩)::(518007,⟨2,[z2R]⟩)::(518006,⟨2,[z2R]⟩)::ob⟩:=by simp [g,k]
  rw [hs];refine A43 _ hk car' dir' jB _ ?_
  show Br1 0 _ (.ex 0) _
  rw [Agb,B6l rfl,C7,D0];have nE:U9 [0,1,2,6,7] 518000 519000 [518006,518007] ⟨(0,.loc hk 0 0)::(1,i64 car')::(2,i64 dir')::(6,.loc 518006 0 0)::(7,.loc 518007 0 0)::gs,(518007,⟨2,[z2R]⟩)::(518006,⟨2,[z2R]⟩)::ob⟩=⟨(0,.loc hk 0 0)::(1,i64 car')::(2,i64 dir')::(6,.loc 518006 0 0)::(7,.loc 518007 0 0)::gs,(518007,⟨2,[z2R]⟩)::(518006,⟨2,[z2R]⟩)::ob⟩:=by simp [g,k]
  rw [nE];have hz:=Bai;have dV:=lD [] fD dS;rw [hz]at dV;exact dV
 ·rename_i wv mk nv dK;have fD:=fD dK;have h6:=fD 518006 (by decide)
  have h7:=fD 518007 (by decide)
  have hi:=fD 2923003274661805836407369665432566039311865603967 (by decide)
  split at aW
  case h_2=>simp at aW
  rename_i om aS;obtain⟨z,rows⟩:=om;have qM:rows=_:=Al5 aW;subst qM;have m6:=A0 d6 aS;have m7:=A0 d7 aS;have mi:=A0 di aS;have hz:=Bai;simp -implicitDefEqProofs (disch:=first|omega|(simp;done)|assumption) [F9,E3,D0,I2,D5,C7,h0,h1,h2,nF,f6,g,k,dK,h6,h7,hi,B6i h6,B6i h7,B6i hi,d6,d7,di,n6,n7,ni,o6,o7,oi,aS,m6,m7,mi,B6i m6,B6i m7,B6i mi,V5];refine Ayb (f:=B7 A32 200001 O1) (b:=HC.b) (λ s K K' h=>Aif _ h) (l:=bS) (J1.1 c1) (λ done s=>∃b,U9 [0,1,2,6,7,15] 518000 519000 [518006,518007,2923003274661805836407369665432566039311865603967] s=hdL b done hk mk z car' dir' gs ob) (λ done s hs hp=> ?_) _ _ ?_ ?_
  rotate_left
  ·exact⟨false,by rw [hdL,show Aeo car' dir' []=[]from rfl,hz];simp [g,k]⟩
  ·omega
  obtain⟨b,hs⟩:=hs;rw [Abv,D0,hs];refine A81 200001 b bS done hk mk z car' dir' jB (J1.1 c1) aS fD _ (λ jC=> .inr ⟨by simp,jC,λ sS=> ?_⟩) (λ e he cW b s' mI=> .inl ⟨rfl,e,he,cW,b,mI⟩)
  rw [Agb,B6l rfl,C7,D0];have dV:=lD (Aeo car' dir' done) fD (by rw [Aye ((Bkv (car:=car') (dir:=dir') sS).append_right (Ada car' dir' dX))];exact dS)
  generalize B4 (Aeo car' dir' done)=P at*;have nE:U9 [0,1,2,6,7] 518000 519000 [518006,518007] ⟨(0,.loc hk 0 0)::(1,i64 car')::(2,i64 dir')::(6,.loc 518006 0 0)::(7,.loc 518007 0 0)::gs,(518007,⟨2,[Af2 P]⟩)::(518006,⟨2,[z2R]⟩)::ob⟩=⟨(0,.loc hk 0 0)::(1,i64 car')::(2,i64 dir')::(6,.loc 518006 0 0)::(7,.loc 518007 0 0)::gs,(518007,⟨2,[Af2 P]⟩)::(518006,⟨2,[z2R]⟩)::ob⟩:=by simp [g,k]
  rw [nE];exact dV
 ·simp at aW
end Go.Am
namespace Go.Am
open Go.RowKit
def Al8 (S:PG)(s:St):Option (List AV×OL):=
 match S s with
 |some (rs,aA)=>(((⟨[],aA⟩:St).frzs rs).map λ p=>(p.1,(kill ⟨[],aA⟩ p.2).ob))
 |none=>none
theorem D9.frz {P:Program}{f:FuncId}{S:PG}(h:D9 P f S):D9 P f (Al8 S):=by
 intro γ B F ρ fr ob w us rs aA aF cM hm hf hS;unfold Al8 at hS;split at hS
 case h_2=>simp at hS
 rename_i rs0 bL h0;simp only [B6m,B6k]at hS;obtain⟨⟨ds,ks⟩,fT,rfl,rfl⟩:=hS;refine(h γ B F ρ fr ob w us rs0 bL aF cM hm hf h0).mono ?_;rintro e w' ⟨qs,rfl,F',ρ',cJ,rD,bU,hx⟩;have dV:T0 B F' ρ' (⟨[],bL⟩:St).ob w':=cJ;have dQ:C9 (AR F' ρ' (⟨[],bL⟩:St).ob) rs0 qs:=bU;refine⟨qs,rfl,F5 F' ρ' bL ks w',ρ',dV.kill,λ i v hi hv=> ?_,?_,hx.trans ⟨F5.le,.refl _ _,λ ad u hu=>F5.new cJ hu⟩⟩
 ·exact((rD i v hi hv).mono F5.le).sub (I3 ks (⟨[],bL⟩:St))
 ·exact(V4 dV fT dQ).imp λ _ _ h=>AR.of_RR h
end Go.Am
