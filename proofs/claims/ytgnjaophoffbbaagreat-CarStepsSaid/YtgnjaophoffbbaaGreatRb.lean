import Derived.Test.YtgnjaophoffbbaaGreatCa
import Derived.Test.YtgnjaophoffbbaaGreatHa
set_option maxRecDepth 20000
set_option maxHeartbeats 8000000
set_option linter.unusedVariables false
set_option linter.unusedSimpArgs false
namespace Go.Am
def Arw (g:List AV->Option (List AV)):Prop:=∀a b:List Rd,a.length<=100->b.length<=100->g [.c (.vs 2 (a.map Rd.cells)),.c (.vs 2 (b.map Rd.cells))]=some [bo (decide (a=b))]
theorem Arx (Γ:H6)(M:Nat)(hM:200<M):Arw (run Γ M Abi):=by
 intro a b ha hb;by_cases hl:a.length=b.length
 ·have iE:(a.length:Int)=b.length:=by omega
  obtain⟨ax,s',bN,aP⟩:∃ax s',(if a=b then ax= .ex 0/\s'=⟨[],[]⟩else ax= .ret/\s'=⟨[(4,bo false)],[]⟩)/\∀s0,nrm [0,1,5] [] s0=⟨[(0,.c (.vs 2 (a.map Rd.cells))),(1,.c (.vs 2 (b.map Rd.cells))),(5,i64 (0:Nat))],[]⟩->lp (exec Γ M Ait) M s0=some (ax,s'):=by
   refine Add (λ q:Nat=>⟨[(0,.c (.vs 2 (a.map Rd.cells))),(1,.c (.vs 2 (b.map Rd.cells))),(5,i64 q)],[]⟩) (λ q=>q<=a.length/\∀j (h1:j<a.length)(h2:j<b.length),j<q->a[j]=b[j]) (λ q=>a.length-q) _ 0 M (by simp) ⟨by omega,λ j _ _ h=>by omega⟩ (by omega) ?_
   rintro q ⟨hq,hj⟩;by_cases aC:q<a.length
   ·have bO:q<b.length:=by omega
    obtain⟨x,hx⟩:∃x,a[q]'aC=x:=⟨_,rfl⟩;obtain⟨y,hy⟩:∃y,b[q]'bO=y:=⟨_,rfl⟩;by_cases he:x=y
    ·have gZ:(q+1<=a.length/\∀j (h1:j<a.length)(h2:j<b.length),j<q+1->a[j]=b[j]):=⟨by omega,λ j h1 h2 h3=>by
      rcases B7f j q with h|h
      ·exact hj j h1 h2 h
      ·obtain rfl:j=q:=by omega
       rw [hx,hy,he]⟩
     subst he;obtain⟨x1,x2⟩:=x;simp -implicitDefEqProofs (disch:=first|omega|(simp;done)|assumption) [aC,bO,hx,hy];exact⟨q+1,by simp,gZ,by omega⟩
    ·have aH:¬a=b:=by
      rintro rfl;rw [hx]at hy;exact he hy
     obtain⟨x1,x2⟩:=x;obtain⟨y1,y2⟩:=y;simp only [B6j aH];have kS:x1=y1->¬x2=y2:=λ h1 h2=>he (by rw [h1,h2])
     by_cases h1:x1=y1
     ·have h2:=kS h1;subst h1;simp -implicitDefEqProofs (disch:=first|omega|(simp;done)|assumption) [aC,bO,hx,hy,h2]
     ·simp -implicitDefEqProofs (disch:=first|omega|(simp;done)|assumption) [aC,bO,hx,hy,h1]
   ·obtain rfl:q=a.length:=by omega
    have eP:a=b:=List.ext_getElem hl λ j h1 h2=>hj j h1 h2 h1
    simp only [B6l eP];simp -implicitDefEqProofs (disch:=first|omega|(simp;done)|assumption)
  have aO:=aP ⟨[(0,.c (.vs 2 (a.map Rd.cells))),(1,.c (.vs 2 (b.map Rd.cells))),(5,i64 0)],[]⟩ (by simp)
  by_cases eP:a=b
  ·rw [B6l eP]at bN;obtain⟨rfl,rfl⟩:=bN;subst eP;simp -implicitDefEqProofs (disch:=first|omega|(simp;done)|assumption) [aO]
  ·rw [B6j eP]at bN;obtain⟨rfl,rfl⟩:=bN;simp -implicitDefEqProofs (disch:=first|omega|(simp;done)|assumption) [hl,aO,eP]
 ·have eP:¬a=b:=λ h=>hl (by rw [h])
  have iE:¬(a.length:Int)=b.length:=by omega
  simp -implicitDefEqProofs (disch:=first|omega|(simp;done)|assumption) [hl,eP]
def Bde (g:List AV->Option (List AV)):Prop:=∀a b:Cr,a.rid.length<=100->b.rid.length<=100->g [.agg a.cells,.agg b.cells]=some [bo (decide (a=b))]
theorem A0z (Γ:H6)(M:Nat)(hR:Arw (Γ 591)):Bde (run Γ M Afr):=by
 rintro⟨p1,d1,m1,l1,w1,r1⟩ ⟨p2,d2,m2,l2,w2,r2⟩ h1 h2;have e:=hR r1 r2 h1 h2;by_cases c1:p1=p2
 ·by_cases c2:d1=d2
  ·by_cases c3:m1=m2
   ·by_cases c4:l1=l2
    ·by_cases c5:w1=w2
     ·subst c1 c2 c3 c4 c5;simp -implicitDefEqProofs (disch:=first|omega|(simp;done)|assumption) [e]
     ·subst c1 c2 c3 c4;cases w1<;>cases w2<;>simp -implicitDefEqProofs (disch:=first|omega|(simp;done)|assumption) [e]at c5 ⊢
    ·simp -implicitDefEqProofs (disch:=first|omega|(simp;done)|assumption) [e,c1,c2,c3,c4]
   ·simp -implicitDefEqProofs (disch:=first|omega|(simp;done)|assumption) [e,c1,c2,c3]
  ·simp -implicitDefEqProofs (disch:=first|omega|(simp;done)|assumption) [e,c1,c2]
 ·simp -implicitDefEqProofs (disch:=first|omega|(simp;done)|assumption) [e,c1]
def Aqb (g:List AV->Option (List AV)):Prop:=∀a b:List Cr,a.length<=100->b.length<=100->(∀c∈a,c.rid.length<=100)->(∀c∈b,c.rid.length<=100)->g [.c (.vs 6 (a.map Cr.cells)),.c (.vs 6 (b.map Cr.cells))]=some [bo (decide (a=b))]
theorem Av9 (Γ:H6)(M:Nat)(hM:200<M)(hC:Bde (Γ 578)):Aqb (run Γ M Ado):=by
 intro a b ha hb hra hrb;by_cases hl:a.length=b.length
 ·have iE:(a.length:Int)=b.length:=by omega
  obtain⟨ax,s',bN,aP⟩:∃ax s',(if a=b then ax= .ex 0/\s'=⟨[],[]⟩else ax= .ret/\s'=⟨[(4,bo false)],[]⟩)/\∀s0,nrm [0,1,5] [] s0=⟨[(0,.c (.vs 6 (a.map Cr.cells))),(1,.c (.vs 6 (b.map Cr.cells))),(5,i64 (0:Nat))],[]⟩->lp (exec Γ M Amx) M s0=some (ax,s'):=by
   refine Add (λ q:Nat=>⟨[(0,.c (.vs 6 (a.map Cr.cells))),(1,.c (.vs 6 (b.map Cr.cells))),(5,i64 q)],[]⟩) (λ q=>q<=a.length/\∀j (h1:j<a.length)(h2:j<b.length),j<q->a[j]=b[j]) (λ q=>a.length-q) _ 0 M (by simp) ⟨by omega,λ j _ _ h=>by omega⟩ (by omega) ?_
   rintro q ⟨hq,hj⟩;by_cases aC:q<a.length
   ·have bO:q<b.length:=by omega
    obtain⟨x,hx⟩:∃x,a[q]'aC=x:=⟨_,rfl⟩;obtain⟨y,hy⟩:∃y,b[q]'bO=y:=⟨_,rfl⟩;have e:=hC x y (hra x (by rw [<-hx];exact B8e aC)) (hrb y (by rw [<-hy];exact B8e bO))
    by_cases he:x=y
    ·have gZ:(q+1<=a.length/\∀j (h1:j<a.length)(h2:j<b.length),j<q+1->a[j]=b[j]):=⟨by omega,λ j h1 h2 h3=>by
      rcases B7f j q with h|h
      ·exact hj j h1 h2 h
      ·obtain rfl:j=q:=by omega
       rw [hx,hy,he]⟩
     subst he;rw [B8f rfl]at e;obtain⟨x1,x2,x3,x4,x5,x6⟩:=x;simp only [Cr.cells]at e;simp -implicitDefEqProofs (disch:=first|omega|(simp;done)|assumption) [aC,bO,hx,hy,e];exact⟨q+1,by simp,gZ,by omega⟩
    ·have aH:¬a=b:=by
      rintro rfl;rw [hx]at hy;exact he hy
     rw [B7y he]at e;obtain⟨x1,x2,x3,x4,x5,x6⟩:=x;obtain⟨y1,y2,y3,y4,y5,y6⟩:=y;simp only [Cr.cells]at e;simp only [B6j aH];simp -implicitDefEqProofs (disch:=first|omega|(simp;done)|assumption) [aC,bO,hx,hy,e]
   ·obtain rfl:q=a.length:=by omega
    have eP:a=b:=List.ext_getElem hl λ j h1 h2=>hj j h1 h2 h1
    simp only [B6l eP];simp -implicitDefEqProofs (disch:=first|omega|(simp;done)|assumption)
  have aO:=aP ⟨[(0,.c (.vs 6 (a.map Cr.cells))),(1,.c (.vs 6 (b.map Cr.cells))),(5,i64 0)],[]⟩ (by simp)
  by_cases eP:a=b
  ·rw [B6l eP]at bN;obtain⟨rfl,rfl⟩:=bN;subst eP;simp -implicitDefEqProofs (disch:=first|omega|(simp;done)|assumption) [aO]
  ·rw [B6j eP]at bN;obtain⟨rfl,rfl⟩:=bN;simp -implicitDefEqProofs (disch:=first|omega|(simp;done)|assumption) [hl,aO,eP]
 ·have eP:¬a=b:=λ h=>hl (by rw [h])
  have iE:¬(a.length:Int)=b.length:=by omega
  simp -implicitDefEqProofs (disch:=first|omega|(simp;done)|assumption) [hl,eP]
def Apt (floors cars i:Int):Int:=(i*floors+cars-1)/cars
def Abm (floors cars i:Int):Int:=if Apt floors cars i<=floors-1 then Apt floors cars i else floors-1
def Bdf (g:List AV->Option (List AV)):Prop:=∀floors cars i:Int,(1<=floors/\floors<=1000)->(1<=cars/\cars<=1000)->(0<=i/\i<=1000)->g [i64 floors,i64 cars,i64 i]=some [i64 (Apt floors cars i)]
theorem Ary (Γ:H6)(M:Nat):Bdf (run Γ M V1):=by
 intro floors cars i hf hc hi;have h0:0<=i*floors:=B9q hi.1 (by omega)
 have h1:i*floors<=1000*1000:=B9r hi.2 hf.2 (by omega) (by omega)
 have h2:0<=(i*floors+cars-1)/cars:=B89 (by omega) (by omega)
 have h3:(i*floors+cars-1)/cars<=i*floors+cars-1:=B9h _ (by omega)
 unfold Apt;simp -implicitDefEqProofs (disch:=first|omega|(simp;done)|assumption)
def Bdg (g:List AV->Option (List AV)):Prop:=∀floors cars i:Int,(1<=floors/\floors<=1000)->(1<=cars/\cars<=1000)->(0<=i/\i<=1000)->g [i64 floors,i64 cars,i64 i]=some [i64 (Abm floors cars i)]
theorem Aur (Γ:H6)(M:Nat)(hF:Bdf (Γ 49)):Bdg (run Γ M Y4):=by
 intro floors cars i hf hc hi;have e:=hF floors cars i hf hc hi;unfold Abm;generalize Apt floors cars i=q at*;by_cases h:q<=floors-1
 ·rw [B6l h];simp -implicitDefEqProofs (disch:=first|omega|(simp;done)|assumption) [e,h];intro h2;omega
 ·rw [B6j h];simp -implicitDefEqProofs (disch:=first|omega|(simp;done)|assumption) [e,h]
def AtC (g:List AV->Option (List AV)):Prop:=∀f gap:Int,(0<=f/\f<=1000)->(0<=gap/\gap<=1000)->g [i64 f,i64 gap]=some [i64 (f*gap)]
theorem A46 (Γ:H6)(M:Nat):AtC (run Γ M Aei):=by
 intro f gap hf hg;have h0:0<=f*gap:=B9q hf.1 hg.1;have h1:f*gap<=1000*1000:=B9r hf.2 hg.2 hg.1 (by omega)
 simp -implicitDefEqProofs (disch:=first|omega|(simp;done)|assumption)
def B3i (s:S6)(i:Nat):Cr:=⟨Abm s.floors s.cars i*s.gap,0,0,0,false,[]⟩
def Aeq (s:S6)(k:Nat):List Cr:=(List.range k).map (B3i s)
theorem Amb (s:S6)(k:Nat):(Aeq s k).length=k:=by simp [Aeq]
theorem Ayh (s:S6)(k:Nat):Aeq s (k+1)=Aeq s k++[B3i s k]:=by simp [Aeq,List.range_succ]
abbrev Y9 (s:S6):List AV:=[i64 s.floors,i64 s.gap,i64 s.cars,i64 s.capacity,i64 s.opn,i64 s.dwell,i64 s.cls,i64 s.transfer,.c (.vs 3 (s.segs.map Seg.cells)),i64 s.disp,i64 s.horizon,i64 s.bins,i64 s.width]
abbrev nwO (s:S6)(v:AV):Obj:=⟨17,[[i64 s.floors,i64 s.gap,i64 s.cars,i64 s.capacity,i64 s.opn,i64 s.dwell,i64 s.cls,i64 s.transfer,.c (.vs 3 (s.segs.map Seg.cells)),i64 s.disp,i64 s.horizon,i64 s.bins,i64 s.width,.loc 568007 0 0,v,.nil 7,i64 0]]⟩
abbrev h0O :Obj:=⟨3,[[.ot .nm,.ot .nm,i64 0]]⟩
abbrev hcO (s:S6)(k:Nat):Obj:=⟨6,(Aeq s k).map (A4∘Cr.cells)⟩
def Bs8 (g:PG):Prop:=∀s:S6,ScG s->g ⟨[(0,.agg s.cells)],[]⟩=some ([.loc 568009 0 0],[(568009,nwO s (.sl 1000567 s.cars.toNat 0 s.cars.toNat)),(1000567,hcO s s.cars.toNat),(568007,h0O)])
theorem Bk0 (Γ:H6)(M:Nat)(hM:200<M)(hH:Bdg (Γ 3))(hA:AtC (Γ 127)):Bs8 (H9 Γ M Ag6):=by
 intro s hs;have aB:KT=18446744073709551616:=G1;obtain⟨a1,a2⟩:=hs.floors;obtain⟨b1,b2⟩:=hs.gap;obtain⟨c1,c2⟩:=hs.cars;obtain⟨n,hn⟩:∃n:Nat,n=s.cars.toNat:=⟨_,rfl⟩;have hnc:(n:Int)=s.cars:=by omega
 have aP:∃ax s',(ax= .ex 0/\s'=(⟨[(3,.loc 568009 0 0)],[(568009,nwO s (.sl 1000567 n 0 n)),(1000567,hcO s n),(568007,h0O)]⟩:St))/\∀s0,U9 [1,3,11,12] 568000 569000 [568001,568007,568009] s0=⟨(1,.loc 568001 0 0)::(3,.loc 568009 0 0)::(11,i64 s.cars)::(12,i64 (0:Nat))::[],[(568009,nwO s (.nil 6)),(568007,h0O),(568001,⟨13,[Y9 s]⟩)]⟩->lp (exec Γ M Axx) M s0=some (ax,s'):=by
  refine I0 (λ q:Nat=>⟨(1,.loc 568001 0 0)::(3,.loc 568009 0 0)::(11,i64 s.cars)::(12,i64 q)::[],if q=0 then [(568009,nwO s (.nil 6)),(568007,h0O),(568001,⟨13,[Y9 s]⟩)]else [(568009,nwO s (.sl 1000567 q 0 q)),(1000567,hcO s q),(568007,h0O),(568001,⟨13,[Y9 s]⟩)]⟩) (λ q=>q<=n) (λ q=>n-q) _ 0 M (by omega) (by omega) ?_
  intro k hk;by_cases aC:k<n
  ·have bO:(k:Int)<s.cars:=by omega
   have e1:=hH s.floors s.cars k (by omega) (by omega) (by omega)
   have hf0:0<=Abm s.floors s.cars k/\Abm s.floors s.cars k<=1000:=by
    unfold Abm;split
    ·refine⟨B89 ?_ (by omega),by omega⟩
     have:0<=(k:Int)*s.floors:=B9q (by omega) (by omega)
     omega
    ·omega
   have e2:=hA (Abm s.floors s.cars k) s.gap hf0 (by omega)
   have lI:Aeq s (k+1)=Aeq s k++[⟨Abm s.floors s.cars k*s.gap,0,0,0,false,[]⟩]:=Ayh s k;have hl:=Amb s k;by_cases h0:k=0
   ·subst h0;rw [show ((0:Nat):Int)=0 from rfl]at e1 e2 bO lI
    have hz:Aeq s 0=[]:=rfl;simp only [B68];simp -implicitDefEqProofs (disch:=first|omega|(simp [aB];done)|assumption) [bO,e1,e2,aB];refine⟨1,?_,by omega,by omega⟩
    simp [lI,hz]
   ·rw [B6j h0];simp -implicitDefEqProofs (disch:=first|omega|(simp [aB];done)|assumption) [bO,e1,e2,aB,hl];refine⟨k+1,?_,by omega,by omega⟩
    simp [lI]
  ·obtain rfl:k=n:=by omega
   have bO:¬(k:Int)<s.cars:=by omega
   rw [B6j (by omega:¬k=0)]
   simp -implicitDefEqProofs (disch:=first|omega|(simp [aB];done)|assumption) [bO,aB]
 obtain⟨ax,s',⟨rfl,rfl⟩,bK⟩:=aP;have aO:=bK ⟨(1,.loc 568001 0 0)::(3,.loc 568009 0 0)::(11,i64 s.cars)::(12,i64 0)::[],[(568009,nwO s (.nil 6)),(568007,h0O),(568001,⟨13,[Y9 s]⟩)]⟩ (by simp -implicitDefEqProofs (disch:=first|omega|(simp [aB];done)|assumption) [aB])
 rw [<-hn];simp only [S6.cells];simp -implicitDefEqProofs (disch:=first|omega|(simp [aB];done)|assumption) [aO,aB]
theorem Bwy {floors cars i q : Int} (hc : 1 <= cars) : q < Apt floors cars i ↔ q * cars < i * floors := by
 unfold Apt
 obtain ⟨x, hx⟩ : ∃ x, x = i * floors := ⟨_, rfl⟩
 rw [<- hx]
 have h1 := Int.mul_ediv_add_emod (x + cars - 1) cars
 have h2 := Int.emod_nonneg (x + cars - 1) (by omega : cars ≠ 0)
 have h3 := Int.emod_lt_of_pos (x + cars - 1) (by omega : 0 < cars)
 generalize (x + cars - 1) / cars = f at *
 generalize (x + cars - 1) % cars = r at *
 constructor
 ·intro h
  have := Int.mul_le_mul_of_nonneg_right (by omega : q + 1 <= f) (by omega : 0 <= cars)
  rw [Int.add_mul, Int.mul_comm f] at this
  omega
 ·intro h
  rcases Int.lt_or_le q f with g | g
  ·exact g
  ·have := Int.mul_le_mul_of_nonneg_right g (by omega : 0 <= cars)
   rw [Int.mul_comm f] at this
   omega
abbrev nrO (s:S6)(v:AV):Obj:=⟨18,[[i64 s.floors,i64 s.gap,i64 s.cars,i64 s.capacity,i64 s.opn,i64 s.dwell,i64 s.cls,i64 s.transfer,.c (.vs 3 (s.segs.map Seg.cells)),i64 s.disp,i64 s.horizon,i64 s.bins,i64 s.width,.nil 4,.nil 3,v,.nil 7,i64 0]]⟩
def A7m (g:PG):Prop:=∀s:S6,ScG s->g ⟨[(0,.agg s.cells)],[]⟩=some ([.loc 129008 0 0],[(129008,nrO s (.sl 1000240 s.cars.toNat 0 s.cars.toNat)),(1000240,hcO s s.cars.toNat)])
theorem A84 (Γ:H6)(M:Nat)(hM:3000<M):A7m (H9 Γ M Afs):=by
 intro s hs;have aB:KT=18446744073709551616:=G1;obtain⟨a1,a2⟩:=hs.floors;obtain⟨b1,b2⟩:=hs.gap;obtain⟨c1,c2⟩:=hs.cars;obtain⟨n,hn⟩:∃n:Nat,n=s.cars.toNat:=⟨_,rfl⟩;have hnc:(n:Int)=s.cars:=by omega
 have zD:∀k:Nat,k<n->0<=(k:Int)*s.floors/\(k:Int)*s.floors<=2048:=λ k hk=>by
  refine⟨B9q (by omega) (by omega),?_⟩
  have:(k:Int)*s.floors<=16*128:=B9r (by omega) (by omega) (by omega) (by omega)
  omega
 have xV:∀k:Nat,k<n->0<=Apt s.floors s.cars k/\Apt s.floors s.cars k<=2100:=λ k hk=>by
  have h1:=zD k hk;exact⟨B89 (by omega) (by omega),Int.le_trans (B9h _ (by omega)) (by omega)⟩
 have inner:∀(k:Nat)(ob:OL),k<n->Am.get ob 129001=some ⟨13,[Y9 s]⟩->A1 129000 130000 [129001,129008] ob=ob->∃ax s',(ax= .ex 2/\s'=(⟨[(1,.loc 129001 0 0),(3,.loc 129008 0 0),(4,i64 k),(5,i64 (Apt s.floors s.cars k))],ob⟩:St))/\∀s0,U9 [1,3,4,5] 129000 130000 [129001,129008] s0=⟨(1,.loc 129001 0 0)::(3,.loc 129008 0 0)::(4,i64 k)::(5,i64 (0:Nat))::[],ob⟩->lp (exec Γ M App) M s0=some (ax,s'):=by
  intro k ob hk hg mE;have h1:=zD k hk;have h2:=xV k hk;refine I0 (λ q:Nat=>⟨(1,.loc 129001 0 0)::(3,.loc 129008 0 0)::(4,i64 k)::(5,i64 q)::[],ob⟩) (λ q=>(q:Int)<=Apt s.floors s.cars k) (λ q=>2100-q) _ 0 M (by simp;omega) (by omega) ?_
  intro q hq0;have hq:(q:Int)<=Apt s.floors s.cars k:=hq0;have hql:0<=(q:Int)*s.cars/\(q:Int)*s.cars<=2100*16:=⟨B9q (by omega) (by omega),B9r (by omega) (by omega) (by omega) (by omega)⟩
  have aC:=Bwy (floors:=s.floors) (cars:=s.cars) (i:=k) (q:=q) (by omega)
  by_cases hc:(q:Int)*s.cars<k*s.floors
  ·have h3:=aC.2 hc;simp -implicitDefEqProofs (disch:=first|omega|(simp [aB];done)|assumption) [hc,aB,hg,mE];exact⟨q+1,by simp,by omega,by omega⟩
  ·have h3:¬(q:Int)<Apt s.floors s.cars k:=λ h=>hc (aC.1 h)
   have h4:(q:Int)=Apt s.floors s.cars k:=by omega
   simp -implicitDefEqProofs (disch:=first|omega|(simp [aB];done)|assumption) [hc,aB,hg,mE];omega
 have aP:∃ax s',(ax= .ex 0/\s'=(⟨[(3,.loc 129008 0 0)],[(129008,nrO s (.sl 1000240 n 0 n)),(1000240,hcO s n)]⟩:St))/\∀s0,U9 [1,3,4] 129000 130000 [129001,129008] s0=⟨(1,.loc 129001 0 0)::(3,.loc 129008 0 0)::(4,i64 (0:Nat))::[],[(129008,nrO s (.nil 6)),(129001,⟨13,[Y9 s]⟩)]⟩->lp (exec Γ M Apq) M s0=some (ax,s'):=by
  refine I0 (λ q:Nat=>⟨(1,.loc 129001 0 0)::(3,.loc 129008 0 0)::(4,i64 q)::[],if q=0 then [(129008,nrO s (.nil 6)),(129001,⟨13,[Y9 s]⟩)]else [(129008,nrO s (.sl 1000240 q 0 q)),(1000240,hcO s q),(129001,⟨13,[Y9 s]⟩)]⟩) (λ q=>q<=n) (λ q=>n-q) _ 0 M (by omega) (by omega) ?_
  intro k hk;by_cases aC:k<n
  ·have bO:(k:Int)<s.cars:=by omega
   have h2:=xV k aC;have hhm:0<=Abm s.floors s.cars k/\Abm s.floors s.cars k<=1000:=by unfold Abm;split<;>omega
   have lL:0<=Abm s.floors s.cars k*s.gap/\Abm s.floors s.cars k*s.gap<=1000*16:=⟨B9q hhm.1 (by omega),B9r hhm.2 (by omega) (by omega) (by omega)⟩
   have lI:Aeq s (k+1)=Aeq s k++[⟨Abm s.floors s.cars k*s.gap,0,0,0,false,[]⟩]:=Ayh s k;have hl:=Amb s k;by_cases h0:k=0
   ·subst h0;have hz:Aeq s 0=[]:=rfl;obtain⟨ax,s',⟨rfl,rfl⟩,bK⟩:=inner 0 [(129008,nrO s (.nil 6)),(129001,⟨13,[Y9 s]⟩)] aC (by simp [Am.get]) (by simp [aB])
    rw [show ((0:Nat):Int)=0 from rfl]at bO lI bK hhm lL
    simp only [B68];by_cases hc:s.floors-1<Apt s.floors s.cars 0
    ·have he:Abm s.floors s.cars 0=s.floors-1:=by unfold Abm;rw [B6j (by omega)]
     rw [he]at lI lL;simp -implicitDefEqProofs (disch:=first|omega|(simp [aB];done)|assumption) [bO,aB,bK,hc];refine⟨1,?_,by omega,by omega⟩
     simp [lI,hz]
    ·have he:Abm s.floors s.cars 0=Apt s.floors s.cars 0:=by unfold Abm;rw [B6l (by omega)]
     rw [he]at lI lL;simp -implicitDefEqProofs (disch:=first|omega|(simp [aB];done)|assumption) [bO,aB,bK,hc];refine⟨1,?_,by omega,by omega⟩
     simp [lI,hz]
   ·rw [B6j h0];obtain⟨ax,s',⟨rfl,rfl⟩,bK⟩:=inner k [(129008,nrO s (.sl 1000240 k 0 k)),(1000240,hcO s k),(129001,⟨13,[Y9 s]⟩)] aC (by simp [Am.get]) (by simp [aB])
    rw [show ((0:Nat):Int)=0 from rfl]at bK
    by_cases hc:s.floors-1<Apt s.floors s.cars k
    ·have he:Abm s.floors s.cars k=s.floors-1:=by unfold Abm;rw [B6j (by omega)]
     rw [he]at lI lL;simp -implicitDefEqProofs (disch:=first|omega|(simp [aB];done)|assumption) [bO,aB,bK,hc,hl];refine⟨k+1,?_,by omega,by omega⟩
     simp [lI]
    ·have he:Abm s.floors s.cars k=Apt s.floors s.cars k:=by unfold Abm;rw [B6l (by omega)]
     rw [he]at lI lL;simp -implicitDefEqProofs (disch:=first|omega|(simp [aB];done)|assumption) [bO,aB,bK,hc,hl];refine⟨k+1,?_,by omega,by omega⟩
     simp [lI]
  ·obtain rfl:k=n:=by omega
   have bO:¬(k:Int)<s.cars:=by omega
   rw [B6j (by omega:¬k=0)]
   simp -implicitDefEqProofs (disch:=first|omega|(simp [aB];done)|assumption) [bO,aB]
 obtain⟨ax,s',⟨rfl,rfl⟩,bK⟩:=aP;have aO:=bK ⟨(1,.loc 129001 0 0)::(3,.loc 129008 0 0)::(4,i64 0)::[],[(129008,nrO s (.nil 6)),(129001,⟨13,[Y9 s]⟩)]⟩ (by simp -implicitDefEqProofs (disch:=first|omega|(simp [aB];done)|assumption) [aB])
 rw [<-hn];simp only [S6.cells];simp -implicitDefEqProofs (disch:=first|omega|(simp [aB];done)|assumption) [aO,aB]
end Go.Am
