import Derived.Test.YtgnjaophoffbbaaGreatCd
set_option maxRecDepth 20000
set_option maxHeartbeats 8000000
set_option linter.unusedVariables false
set_option linter.unusedSimpArgs false
namespace Go.Am
theorem Am7 (Γ:H6)(M:Nat):Avm (run Γ M Aax):=by
 rintro a b ⟨a1,a2⟩ ⟨b1,b2⟩;unfold A0r;by_cases h1:b-a<0
 ·have h2:b<a:=by omega
  have h3:¬a<b:=by omega
  simp -implicitDefEqProofs (disch:=first|omega|assumption) [h1,h2,h3]
 ·by_cases h2:0<b-a
  ·have h3:a<b:=by omega
   have h4:¬b<a:=by omega
   simp -implicitDefEqProofs (disch:=first|omega|assumption) [h1,h2,h3,h4]
  ·have h3:¬a<b:=by omega
   have h4:¬b<a:=by omega
   simp -implicitDefEqProofs (disch:=first|omega|assumption) [h1,h2,h3,h4]
def SlV (z:Nat)(l:List (List D))(v:AV):Prop:=v= .c (.vs z l)\/(l=[]/\v= .nil z)
def TrV (ts:List D2)(ob:OL)(v:AV):Prop:=v= .c (.vs 7 (ts.map D2.cells))\/∃q,v= .sl q ts.length 0 ts.length/\get ob q=some (trO ts)
abbrev Bap (s:S6)(vw vk vc vt:AV)(tick:Int):List AV:=[i64 s.floors,i64 s.gap,i64 s.cars,i64 s.capacity,i64 s.opn,i64 s.dwell,i64 s.cls,i64 s.transfer,.c (.vs 3 (s.segs.map Seg.cells)),i64 s.disp,i64 s.horizon,i64 s.bins,i64 s.width,vw,vk,vc,vt,i64 tick]
abbrev rfO (s:S6)(vw vk vc vt:AV)(tick:Int):Obj:=⟨18,[Bap s vw vk vc vt tick]⟩
def Acq {α:Type}(p:α->Bool):List α->Nat->Option Nat
 |[],_=>none
 |a::l,i=>if p a then some i else Acq p l (i+1)
theorem Ama {α:Type}(p:α->Bool):∀(l:List α)(i:Nat),match Acq p l i with
  |none=>∀j (h:j<l.length),p l[j]=false
  |some m=>∃j,m=i+j/\∃h:j<l.length,p l[j]=true/\∀k (h:k<l.length),k<j->p l[k]=false
 |[],i=>by simp [Acq]
 |a::l,i=>by
  unfold Acq;cases h:p a with
  |true=>exact⟨0,rfl,by simp,by simpa using h,λ k _ hk=>by omega⟩
  |false=>
   have ih:=Ama p l (i+1);simp only [B6p,B7d];cases hx:Acq p l (i+1)with
   |none=>
    rw [hx]at ih;intro j hj;cases j with
    |zero=>simpa using h
    |succ j=>simpa using ih j (by simpa using hj)
   |some m=>
    rw [hx]at ih;obtain⟨j,rfl,hj,h1,h2⟩:=ih;refine⟨j+1,by omega,by simpa using hj,by simpa using h1,λ k hk hkj=> ?_⟩
    cases k with
    |zero=>simpa using h
    |succ k=>simpa using h2 k (by simpa using hk) (by omega)
def oI :Option Nat->Int
 |none=> -1
 |some k=>k
def B1n (g:PG):Prop:=∀(s:S6)(rk:Nat)(vk vc vw vt:AV)(tick:Int)(ws:List W4)(f d car:Int) gs ob,U7 [589] ob->NoF [589] gs->SlV 4 (ws.map U8) vw->(∀w∈ws,SmW w)->ws.length<=1000->get ob rk=some (rfO s vw vk vc vt tick)->
 g ⟨(0,.loc rk 0 0)::(1,i64 f)::(2,i64 d)::(3,i64 car)::gs,ob⟩=some ([i64 (oI (Acq (isW (f,d,car)) ws 0))],ob)
theorem Ape (Γ:H6)(M:Nat)(hM:2000<M)(hD:Avm (Γ 164)):B1n (H9 Γ M Z5):=by
 intro s rk vk vc vw vt tick ws f d car gs ob hO hF hv gD hl hR;have g:=hF.1;have n10:=hO.nm (k:=589010) (by decide)
 have d10:=hO.del (k:=589010) (by decide)
 have f10:=hF.nm (k:=589010) (by decide)
 have x10:=hO.none (k:=589010) (by decide)
 have k1:=hO.kf (f:=589) (by decide)
 have r10:=A3 hO hR (k:=589010) (by decide)
 have r10':=B6i r10;simp only [rfO]at hR;have bH:=Ama (isW (f,d,car)) ws 0;rcases hv with hv|⟨he,hv⟩
 ·subst hv;have aP:∃ax s',(match Acq (isW (f,d,car)) ws 0 with
    |none=>ax= .ex 0/\s'=⟨gs,ob⟩
    |some k=>ax= .ret/\s'=⟨(8,i64 k)::gs,ob⟩)/\∀s0,U9 [0,1,2,3,9] 589000 590000 [] s0=⟨(0,.loc rk 0 0)::(1,i64 f)::(2,i64 d)::(3,i64 car)::(9,i64 (0:Nat))::gs,ob⟩->lp (exec Γ M Ab0) M s0=some (ax,s'):=by
   refine I0 (λ q:Nat=>⟨(0,.loc rk 0 0)::(1,i64 f)::(2,i64 d)::(3,i64 car)::(9,i64 q)::gs,ob⟩) (λ q=>q<=ws.length/\∀j (h:j<ws.length),j<q->isW (f,d,car) ws[j]=false) (λ q=>ws.length-q) _ 0 M ⟨by omega,λ j _ h=>by omega⟩ (by omega) ?_
   rintro k ⟨bG,hj⟩;by_cases aC:k<ws.length
   ·obtain⟨w,hw⟩:∃w,ws[k]'aC=w:=⟨_,rfl⟩;have eZ:w∈ws:=by rw [<-hw];exact B8e aC
    have e1:=hD w.2.1 w.2.2.1 (gD w eZ).a (gD w eZ).b;obtain⟨w1,w2,w3,w4⟩:=w;dsimp only at e1;cases hp:isW (f,d,car) (w1,w2,w3,w4)with
    |true=>
     have fA:Acq (isW (f,d,car)) ws 0=some k:=by
      cases hx:Acq (isW (f,d,car)) ws 0 with
      |none=>rw [hx]at bH;have:=bH k aC;rw [hw,hp]at this;simp at this
      |some m=>
       rw [hx]at bH;obtain⟨j,rfl,dT,h1,h2⟩:=bH;rcases Nat.lt_trichotomy k j with q|q|q
       ·have:=h2 k aC q;rw [hw,hp]at this;simp at this
       ·rw [q];simp
       ·have:=hj j dT q;rw [h1]at this;simp at this
     rw [fA];have h3:w2=f/\A0r (w3-w2)=d/\w4=car:=by
      simpa [isW,N0,Prod.ext_iff]using hp
     obtain⟨rfl,rfl,rfl⟩:=h3;simp -implicitDefEqProofs (disch:=first|omega|(simp [g];done)|assumption) [g,n10,d10,f10,x10,k1,r10,r10',hR,aC,hw,U8,e1]
    |false=>
     have h3:¬(w2=f/\A0r (w3-w2)=d/\w4=car):=by
      simpa [isW,N0,Prod.ext_iff]using hp
     have gZ:(k+1<=ws.length/\∀j (h:j<ws.length),j<k+1->isW (f,d,car) ws[j]=false):=⟨by omega,λ j eJ fR=>by
      rcases B7f j k with q|q
      ·exact hj j eJ q
      ·obtain rfl:j=k:=by omega
       rw [hw];exact hp⟩
     by_cases q1:w2=f
     ·subst q1;by_cases q2:A0r (w3-w2)=d
      ·have q3:¬w4=car:=λ h=>h3 ⟨rfl,q2,h⟩
       simp -implicitDefEqProofs (disch:=first|omega|(simp [g];done)|assumption) [g,n10,d10,f10,x10,k1,r10,r10',hR,aC,hw,U8,e1,q2,q3];exact⟨k+1,by simp,gZ,by omega⟩
      ·simp -implicitDefEqProofs (disch:=first|omega|(simp [g];done)|assumption) [g,n10,d10,f10,x10,k1,r10,r10',hR,aC,hw,U8,e1,q2];exact⟨k+1,by simp,gZ,by omega⟩
     ·simp -implicitDefEqProofs (disch:=first|omega|(simp [g];done)|assumption) [g,n10,d10,f10,x10,k1,r10,r10',hR,aC,hw,U8,e1,q1];exact⟨k+1,by simp,gZ,by omega⟩
   ·obtain rfl:k=ws.length:=by omega
    have fA:Acq (isW (f,d,car)) ws 0=none:=by
     cases hx:Acq (isW (f,d,car)) ws 0 with
     |none=>rfl
     |some m=>
      rw [hx]at bH;obtain⟨j,rfl,dT,h1,h2⟩:=bH;have:=hj j dT dT;rw [h1]at this;simp at this
    rw [fA];simp -implicitDefEqProofs (disch:=first|omega|(simp [g];done)|assumption) [g,k1,hR]
  obtain⟨ax,s',bN,bK⟩:=aP;have aO:=bK ⟨(0,.loc rk 0 0)::(1,i64 f)::(2,i64 d)::(3,i64 car)::(9,i64 0)::gs,ob⟩ (by simp -implicitDefEqProofs (disch:=first|omega|(simp [g];done)|assumption) [g,k1])
  cases hx:Acq (isW (f,d,car)) ws 0 with
  |none=>
   rw [hx]at bN;obtain⟨rfl,rfl⟩:=bN;simp -implicitDefEqProofs (disch:=first|omega|(simp [g];done)|assumption) [g,k1,hR,aO,oI]
  |some k=>
   rw [hx]at bN;obtain⟨rfl,rfl⟩:=bN;simp -implicitDefEqProofs (disch:=first|omega|(simp [g];done)|assumption) [g,k1,hR,aO,oI]
 ·subst hv;have:ws=[]:=by simpa using he
  subst this;have aP:∃ax s',(ax= .ex 0/\s'=⟨gs,ob⟩)/\∀s0,U9 [0,1,2,3,9] 589000 590000 [] s0=⟨(0,.loc rk 0 0)::(1,i64 f)::(2,i64 d)::(3,i64 car)::(9,i64 0)::gs,ob⟩->lp (exec Γ M Ab0) M s0=some (ax,s'):=by
   refine I0 (λ _:Unit=>⟨(0,.loc rk 0 0)::(1,i64 f)::(2,i64 d)::(3,i64 car)::(9,i64 0)::gs,ob⟩) (λ _=>True) (λ _=>0) _ () M trivial (by omega) ?_
   rintro _ _;simp -implicitDefEqProofs (disch:=first|omega|(simp [g];done)|assumption) [g,k1,hR]
  obtain⟨ax,s',⟨rfl,rfl⟩,bK⟩:=aP;have aO:=bK ⟨(0,.loc rk 0 0)::(1,i64 f)::(2,i64 d)::(3,i64 car)::(9,i64 0)::gs,ob⟩ (by simp -implicitDefEqProofs (disch:=first|omega|(simp [g];done)|assumption) [g,k1])
  simp -implicitDefEqProofs (disch:=first|omega|(simp [g];done)|assumption) [g,k1,hR,aO,oI,Acq]
def Bmi (g:PG):Prop:=∀(s:S6)(rk:Nat)(vk vc vw vt:AV)(tick:Int)(ts:List D2)(id:Int)(t:D2) gs ob,U7 [607] ob->NoF [607] gs->TrV ts ob vt->0<=id->id<ts.length->ts.length<=1000000->rk<1000000000->get ob rk=some (rfO s vw vk vc vt tick)->
 g ⟨(0,.loc rk 0 0)::(1,i64 id)::(2,.agg t.cells)::gs,ob⟩=some ([],(rk,rfO s vw vk vc (.c (.vs 7 ((ts.set id.toNat t).map D2.cells))) tick)::del ob rk)
theorem Aru (Γ:H6)(M:Nat):Bmi (H9 Γ M Abj):=by
 rintro s rk vk vc vw vt tick ts id ⟨ti,ta,tf,tt,tc,tb,tl⟩ gs ob hO hF hv hi1 xX hl hrk0 hR;have wR:rk<1461501637330902918203684832716283019655932542976:=by omega
 have oT:List.take ts.length (List.map (A4∘D2.cells) ts)=List.map (A4∘D2.cells) ts:=B6y (by rw [B6s];exact B6u _)
 have g:=hF.1;have n5:=hO.nm (k:=607005) (by decide)
 have d5:=hO.del (k:=607005) (by decide)
 have f5:=hF.nm (k:=607005) (by decide)
 have x5:=hO.none (k:=607005) (by decide)
 have n7:=hO.nm (k:=607007) (by decide)
 have d7:=hO.del (k:=607007) (by decide)
 have f7:=hF.nm (k:=607007) (by decide)
 have x7:=hO.none (k:=607007) (by decide)
 have n12:=hO.nm (k:=607012) (by decide)
 have d12:=hO.del (k:=607012) (by decide)
 have f12:=hF.nm (k:=607012) (by decide)
 have x12:=hO.none (k:=607012) (by decide)
 have k1:=hO.kf (f:=607) (by decide)
 have r5:=A3 hO hR (k:=607005) (by decide)
 have r7:=A3 hO hR (k:=607007) (by decide)
 have r12:=A3 hO hR (k:=607012) (by decide)
 have r5':=B6i r5;have r7':=B6i r7;have r12':=B6i r12;simp only [rfO]at hR;have kd:=Y6 (k:=rk) k1;have rr:=U7.rng (f:=607) (hO.mono (by decide)) hR
 have hi3:id.toNat<ts.length:=by omega
 have d7r:del (del ob rk) 607007=del ob rk:=by rw [L5,d7]
 have d5r:del (del ob rk) 607005=del ob rk:=by rw [L5,d5]
 have gd:∀k,get (del ob rk) k=if k=rk then none else get ob k:=λ k=>B3 ob rk k
 have l1:=W2 f7;have l2:=O7 n7;have bZ:(ts.set id.toNat ⟨ti,ta,tf,tt,tc,tb,tl⟩).map D2.cells=(ts.map D2.cells).take id.toNat++[D.int .i64 ti,D.int .i64 ta,D.int .i64 tf,D.int .i64 tt,D.int .i64 tc,D.int .i64 tb,D.int .i64 tl]::(ts.map D2.cells).drop (id.toNat+1):=by
  rw [B8l,B6l hi3,B60,B8o,B6v,B86];rfl
 rw [bZ];have cM:F7 (List.take id.toNat (List.map (A4∘D2.cells) ts)++[i64 ti,i64 ta,i64 tf,i64 tt,i64 tc,i64 tb,i64 tl]::List.drop (id.toNat+1) (List.map (A4∘D2.cells) ts))=some ((ts.map D2.cells).take id.toNat++[D.int .i64 ti,D.int .i64 ta,D.int .i64 tf,D.int .i64 tt,D.int .i64 tc,D.int .i64 tb,D.int .i64 tl]::(ts.map D2.cells).drop (id.toNat+1)):=by
  rw [<-G6];congr 1;simp [B8o,B86]
 have aF:(List.take id.toNat (List.map D2.cells ts)++[D.int .i64 ti,D.int .i64 ta,D.int .i64 tf,D.int .i64 tt,D.int .i64 tc,D.int .i64 tb,D.int .i64 tl]::List.drop (id.toNat+1) (List.map D2.cells ts)).length=ts.length:=by
  grind
 have aY:(List.take id.toNat (List.map D2.cells ts)++[D.int .i64 ti,D.int .i64 ta,D.int .i64 tf,D.int .i64 tt,D.int .i64 tc,D.int .i64 tb,D.int .i64 tl]::List.drop (id.toNat+1) (List.map D2.cells ts)).take ts.length=_:=B6y (Nat.le_of_eq aF);have gQ:id.toNat+(ts.length-(id.toNat+1)+1)=ts.length:=by omega
 rcases hv with hv|⟨q,hv,hq⟩
 ·subst hv;simp -implicitDefEqProofs (disch:=first|omega|(simp [g];done)|assumption) [g,n5,d5,f5,x5,n7,d7,f7,x7,n12,d12,f12,x12,k1,r5,r7,r12,r5',r7',r12',hR,kd,rr,hi3,d7r,d5r,gd,l1,l2,cM,aY,gQ,rfO,wR,oT]
 ·subst hv;have q5:=A3 hO hq (k:=607005) (by decide)
  have q7:=A3 hO hq (k:=607007) (by decide)
  have q5':=B6i q5;have q7':=B6i q7;simp only [trO]at hq;simp -implicitDefEqProofs (disch:=first|omega|(simp [g];done)|assumption) [g,n5,d5,f5,x5,n7,d7,f7,x7,n12,d12,f12,x12,k1,r5,r7,r12,r5',r7',r12',hR,kd,rr,hi3,d7r,d5r,gd,l1,l2,q5,q7,q5',q7',hq,cM,aY,gQ,rfO,wR,oT]
theorem Aep {α:Type}(p:α->Bool):∀(l:List α)(i:Nat),match Acq p l i with
  |none=>l.any p=false/\l.eraseP p=l/\l.filter p=[]
  |some m=>∃j,m=i+j/\j<l.length/\l.any p=true/\l.eraseP p=l.take j++l.drop (j+1)
 |[],i=>by simp [Acq]
 |a::l,i=>by
  unfold Acq;cases h:p a with
  |true=>exact⟨0,rfl,by simp,by simp [h],by simp [List.eraseP_cons_of_pos h]⟩
  |false=>
   have ih:=Aep p l (i+1);simp only [B6p,B7d];cases hx:Acq p l (i+1)with
   |none=>
    grind [List.eraseP_cons_of_neg,List.filter_cons_of_neg]
   |some m=>
    rw [hx]at ih;obtain⟨j,rfl,h1,h2,h3⟩:=ih;grind [List.eraseP_cons_of_neg]
def Bs7 (s:S6)(rk:Nat)(vw vk vc vt:AV)(tick:Int)(ks:List K3)(f d:Int)(ob:OL):Option Nat->List AV×OL
 |none=>([bo false],ob)
 |some _=>([bo true],(rk,rfO s vw (.c (.vs 3 ((ks.eraseP (T8 f d)).map U5))) vc vt tick)::del ob rk)
def Bt9 (g:PG):Prop:=∀(s:S6)(rk:Nat)(vw vk vc vt:AV)(tick:Int)(ks:List K3)(f d:Int) gs ob,U7 [590] ob->NoF [590] gs->SlV 3 (ks.map U5) vk->ks.length<=1000->get ob rk=some (rfO s vw vk vc vt tick)->
 g ⟨(0,.loc rk 0 0)::(1,i64 f)::(2,i64 d)::gs,ob⟩=some (Bs7 s rk vw vk vc vt tick ks f d ob (Acq (T8 f d) ks 0))
theorem Apf (Γ:H6)(M:Nat)(hM:2000<M):Bt9 (H9 Γ M Z6):=by
 intro s rk vw vk vc vt tick ks f d gs ob hO hF hv hl hR;have g:=hF.1;have n40:=hO.nm (k:=590040) (by decide)
 have d40:=hO.del (k:=590040) (by decide)
 have f40:=hF.nm (k:=590040) (by decide)
 have x40:=hO.none (k:=590040) (by decide)
 have n47:=hO.nm (k:=590047) (by decide)
 have d47:=hO.del (k:=590047) (by decide)
 have f47:=hF.nm (k:=590047) (by decide)
 have x47:=hO.none (k:=590047) (by decide)
 have n55:=hO.nm (k:=590055) (by decide)
 have d55:=hO.del (k:=590055) (by decide)
 have f55:=hF.nm (k:=590055) (by decide)
 have x55:=hO.none (k:=590055) (by decide)
 have k1:=hO.kf (f:=590) (by decide)
 have r40:=A3 hO hR (k:=590040) (by decide)
 have r47:=A3 hO hR (k:=590047) (by decide)
 have r55:=A3 hO hR (k:=590055) (by decide)
 have r40':=B6i r40;have r47':=B6i r47;have r55':=B6i r55;have hb40:(590040==rk)=false:=by simp [r40']
 have hb47:(590047==rk)=false:=by simp [r47']
 have hb55:(590055==rk)=false:=by simp [r55']
 have ib40:(rk==590040)=false:=by simp [r40]
 have ib47:(rk==590047)=false:=by simp [r47]
 have ib55:(rk==590055)=false:=by simp [r55]
 simp only [rfO]at hR;have kd:=Y6 (k:=rk) k1;have rr:=U7.rng (f:=590) (hO.mono (by decide)) hR
 have d40r:del (del ob rk) 590040=del ob rk:=by rw [L5,d40]
 have d47r:del (del ob rk) 590047=del ob rk:=by rw [L5,d47]
 have d55r:del (del ob rk) 590055=del ob rk:=by rw [L5,d55]
 have gd:∀k,get (del ob rk) k=if k=rk then none else get ob k:=λ k=>B3 ob rk k
 have l1:=W2 f40;have l2:=O7 n40;have l3:=W2 f47;have l4:=O7 n47;have bH:=Ama (T8 f d) ks 0;have oC:=Aep (T8 f d) ks 0;rcases hv with hv|⟨he,hv⟩
 ·subst hv;have aP:∃ax s',(match Acq (T8 f d) ks 0 with
    |none=>ax= .ex 0/\s'=⟨gs,ob⟩
    |some k=>ax= .ret/\s'=⟨(6,bo true)::gs,(rk,rfO s vw (.c (.vs 3 ((ks.eraseP (T8 f d)).map U5))) vc vt tick)::del ob rk⟩)/\∀s0,U9 [0,1,2,7] 590000 591000 [590040,590047,590055] s0=⟨(0,.loc rk 0 0)::(1,i64 f)::(2,i64 d)::(7,i64 (0:Nat))::gs,ob⟩->lp (exec Γ M Ab1) M s0=some (ax,s'):=by
   refine I0 (λ q:Nat=>⟨(0,.loc rk 0 0)::(1,i64 f)::(2,i64 d)::(7,i64 q)::gs,ob⟩) (λ q=>q<=ks.length/\∀j (h:j<ks.length),j<q->T8 f d ks[j]=false) (λ q=>ks.length-q) _ 0 M ⟨by omega,λ j _ h=>by omega⟩ (by omega) ?_
   rintro k ⟨bG,hj⟩;by_cases aC:k<ks.length
   ·obtain⟨e,he⟩:∃e,ks[k]'aC=e:=⟨_,rfl⟩;obtain⟨e1,e2,e3⟩:=e;cases hp:T8 f d (e1,e2,e3)with
    |true=>
     have fA:Acq (T8 f d) ks 0=some k:=by
      cases hx:Acq (T8 f d) ks 0 with
      |none=>rw [hx]at bH;have:=bH k aC;rw [he,hp]at this;simp at this
      |some m=>
       rw [hx]at bH;obtain⟨j,rfl,dT,h1,h2⟩:=bH;rcases Nat.lt_trichotomy k j with q|q|q
       ·have:=h2 k aC q;rw [he,hp]at this;simp at this
       ·rw [q];simp
       ·have:=hj j dT q;rw [h1]at this;simp at this
     rw [fA]at oC ⊢;obtain⟨j,eJ,fR,_,vL⟩:=oC;obtain rfl:k=j:=by omega
     rw [vL];have h3:e1=f/\e2=d:=by simpa [T8]using hp
     obtain⟨rfl,rfl⟩:=h3;have c1:k<=ks.length:=by omega
     have c2:k+1<=ks.length:=by omega
     have hX:(ks.map U5).take k=(ks.take k).map U5:=by rw [B8o]
     have hY:((ks.map U5).drop (k+1)).take (ks.length-(k+1))=(ks.drop (k+1)).map U5:=by rw [<-B86,B6y (by rw [B6s,B70];omega)]
     have nJ:((ks.take k).map U5).length=k:=by rw [B6s,B7l];omega
     have nK:((ks.drop (k+1)).map U5).length=ks.length-(k+1):=by rw [B6s,B70]
     have hW:(ks.take k++ks.drop (k+1)).map U5=(ks.take k).map U5++(ks.drop (k+1)).map U5:=by rw [B60]
     rw [hW];generalize (ks.take k).map U5=X at hX nJ;generalize (ks.drop (k+1)).map U5=Y at hY nK;have mT:F7 (X.map A4++Y.map A4)=some (X++Y):=by rw [<-B60,G6]
     have dC:(X++Y).take (k+(ks.length-(k+1)))=X++Y:=B6y (by rw [B67];omega)
     simp -implicitDefEqProofs (disch:=first|omega|(simp [g];done)|assumption) [g,n40,d40,f40,x40,n47,d47,f47,x47,n55,d55,f55,x55,k1,r40,r47,r55,r40',r47',r55',hb40,hb47,hb55,ib40,ib47,ib55,kd,rr,d40r,d47r,d55r,gd,l1,l2,l3,l4,hR,aC,he,U5,c1,c2,hX,hY,nJ,nK,mT,dC,rfO]
    |false=>
     have gZ:(k+1<=ks.length/\∀j (h:j<ks.length),j<k+1->T8 f d ks[j]=false):=⟨by omega,λ j eJ fR=>by
      rcases B7f j k with q|q
      ·exact hj j eJ q
      ·obtain rfl:j=k:=by omega
       rw [he];exact hp⟩
     by_cases q1:e1=f
     ·subst q1;have q2:¬e2=d:=λ h=>by simp [T8,h]at hp
      simp -implicitDefEqProofs (disch:=first|omega|(simp [g];done)|assumption) [g,k1,hR,aC,he,U5,q2];exact⟨k+1,by simp,gZ,by omega⟩
     ·simp -implicitDefEqProofs (disch:=first|omega|(simp [g];done)|assumption) [g,k1,hR,aC,he,U5,q1];exact⟨k+1,by simp,gZ,by omega⟩
   ·obtain rfl:k=ks.length:=by omega
    have fA:Acq (T8 f d) ks 0=none:=by
     cases hx:Acq (T8 f d) ks 0 with
     |none=>rfl
     |some m=>
      rw [hx]at bH;obtain⟨j,rfl,dT,h1,h2⟩:=bH;have:=hj j dT dT;rw [h1]at this;simp at this
    rw [fA];simp -implicitDefEqProofs (disch:=first|omega|(simp [g];done)|assumption) [g,k1,hR]
  obtain⟨ax,s',bN,bK⟩:=aP;have aO:=bK ⟨(0,.loc rk 0 0)::(1,i64 f)::(2,i64 d)::(7,i64 0)::gs,ob⟩ (by simp -implicitDefEqProofs (disch:=first|omega|(simp [g];done)|assumption) [g,k1])
  cases hx:Acq (T8 f d) ks 0 with
  |none=>
   rw [hx]at bN;obtain⟨rfl,rfl⟩:=bN;simp -implicitDefEqProofs (disch:=first|omega|(simp [g];done)|assumption) [g,k1,hR,aO,Bs7]
  |some k=>
   rw [hx]at bN;obtain⟨rfl,rfl⟩:=bN;simp -implicitDefEqProofs (disch:=first|omega|(simp [g];done)|assumption) [g,k1,hR,aO,Bs7,kd,rr];intro h1 h2;omega
 ·subst hv;have:ks=[]:=by simpa using he
  subst this;have aP:∃ax s',(ax= .ex 0/\s'=⟨gs,ob⟩)/\∀s0,U9 [0,1,2,7] 590000 591000 [590040,590047,590055] s0=⟨(0,.loc rk 0 0)::(1,i64 f)::(2,i64 d)::(7,i64 0)::gs,ob⟩->lp (exec Γ M Ab1) M s0=some (ax,s'):=by
   refine I0 (λ _:Unit=>⟨(0,.loc rk 0 0)::(1,i64 f)::(2,i64 d)::(7,i64 0)::gs,ob⟩) (λ _=>True) (λ _=>0) _ () M trivial (by omega) ?_
   rintro _ _;simp -implicitDefEqProofs (disch:=first|omega|(simp [g];done)|assumption) [g,k1,hR]
  obtain⟨ax,s',⟨rfl,rfl⟩,bK⟩:=aP;have aO:=bK ⟨(0,.loc rk 0 0)::(1,i64 f)::(2,i64 d)::(7,i64 0)::gs,ob⟩ (by simp -implicitDefEqProofs (disch:=first|omega|(simp [g];done)|assumption) [g,k1])
  simp -implicitDefEqProofs (disch:=first|omega|(simp [g];done)|assumption) [g,k1,hR,aO,Bs7,Acq]
def A2j (s:S6)(rk:Nat)(vw vk vc:AV)(tick:Int)(c:Cr)(ts:List D2)(ob:OL):Option Nat->List AV×OL
 |none=>([.agg c.cells,bo false],ob)
 |some k=>([.agg (c.without k).cells,bo true],(rk,rfO s vw vk vc (.c (.vs 7 ((Akg ts (match c.rid[k]? with|some r=>r.id|none=>0) λ t=>t.out tick).map D2.cells))) tick)::del ob rk)
def Bua (g:PG):Prop:=∀(s:S6)(rk:Nat)(vw vk vc vt:AV)(tick f:Int)(c:Cr)(ts:List D2) gs ob,U7 [606,607] ob->NoF [606,607] gs->TrV ts ob vt->c.rid.length<=100->(∀r∈c.rid,0<=r.id/\r.id<ts.length)->ts.length<=1000000->rk<1000000000->get ob rk=some (rfO s vw vk vc vt tick)->
 g ⟨(0,.loc rk 0 0)::(1,.agg c.cells)::(2,i64 f)::gs,ob⟩=some (A2j s rk vw vk vc tick c ts ob (Aar f c.rid 0))
theorem Bhg {ts:List D2}{id:Int}{h:D2->D2}{t:D2}(hl:id.toNat<ts.length)(ht:ts[id.toNat]=t):Akg ts id h=ts.set id.toNat (h t):=by
 unfold Akg;rw [B6w hl,ht]
theorem Aup (Γ:H6)(M:Nat)(hM:200<M)(hT:Bmi (Γ.pt 607)):Bua (H9 Γ M Ack):=by
 rintro s rk vw vk vc vt tick f ⟨ps,di,mo,le,wa,rs⟩ ts gs ob hO hF hv hl iC iH wR hR;dsimp only at hl iC;have g:=hF.1;have hR0:=hR;have n4:=hO.nm (k:=606004) (by decide)
 have d4:=hO.del (k:=606004) (by decide)
 have f4:=hF.nm (k:=606004) (by decide)
 have x4:=hO.none (k:=606004) (by decide)
 have n6:=hO.nm (k:=606006) (by decide)
 have d6:=hO.del (k:=606006) (by decide)
 have f6:=hF.nm (k:=606006) (by decide)
 have x6:=hO.none (k:=606006) (by decide)
 have n9:=hO.nm (k:=606009) (by decide)
 have d9:=hO.del (k:=606009) (by decide)
 have f9:=hF.nm (k:=606009) (by decide)
 have x9:=hO.none (k:=606009) (by decide)
 have n10:=hO.nm (k:=606010) (by decide)
 have d10:=hO.del (k:=606010) (by decide)
 have f10:=hF.nm (k:=606010) (by decide)
 have x10:=hO.none (k:=606010) (by decide)
 have n45:=hO.nm (k:=606045) (by decide)
 have d45:=hO.del (k:=606045) (by decide)
 have f45:=hF.nm (k:=606045) (by decide)
 have x45:=hO.none (k:=606045) (by decide)
 have n50:=hO.nm (k:=606050) (by decide)
 have d50:=hO.del (k:=606050) (by decide)
 have f50:=hF.nm (k:=606050) (by decide)
 have x50:=hO.none (k:=606050) (by decide)
 have n56:=hO.nm (k:=606056) (by decide)
 have d56:=hO.del (k:=606056) (by decide)
 have f56:=hF.nm (k:=606056) (by decide)
 have x56:=hO.none (k:=606056) (by decide)
 have k1:=hO.kf (f:=606) (by decide)
 have r4:=A3 hO hR (k:=606004) (by decide)
 have r6:=A3 hO hR (k:=606006) (by decide)
 have r9:=A3 hO hR (k:=606009) (by decide)
 have r10:=A3 hO hR (k:=606010) (by decide)
 have r45:=A3 hO hR (k:=606045) (by decide)
 have r50:=A3 hO hR (k:=606050) (by decide)
 have r56:=A3 hO hR (k:=606056) (by decide)
 have r4':=B6i r4;have r6':=B6i r6;have r9':=B6i r9;have r10':=B6i r10;have r45':=B6i r45;have r50':=B6i r50;have r56':=B6i r56;have nb10:=Ag7 (d:=10) f10;have ib4:(rk==606004)=false:=by simp [r4]
 have ib6:(rk==606006)=false:=by simp [r6]
 have ib9:(rk==606009)=false:=by simp [r9]
 have ib10:(rk==606010)=false:=by simp [r10]
 have ib45:(rk==606045)=false:=by simp [r45]
 have ib50:(rk==606050)=false:=by simp [r50]
 have ib56:(rk==606056)=false:=by simp [r56]
 have qQ:=(hO _ (B0 hR0)).2 _ (by simp only [rfO];exact List.mem_singleton_self _)
 have mw:∀k,M5 [606,607] k=true->vw.names k=false:=λ k hk=>qQ vw (by simp) k hk
 have mk:∀k,M5 [606,607] k=true->vk.names k=false:=λ k hk=>qQ vk (by simp) k hk
 have mc:∀k,M5 [606,607] k=true->vc.names k=false:=λ k hk=>qQ vc (by simp) k hk
 have mw45:=mw 606045 (by decide)
 have mw50:=mw 606050 (by decide)
 have mw56:=mw 606056 (by decide)
 have mk45:=mk 606045 (by decide)
 have mk50:=mk 606050 (by decide)
 have mk56:=mk 606056 (by decide)
 have mc45:=mc 606045 (by decide)
 have mc50:=mc 606050 (by decide)
 have mc56:=mc 606056 (by decide)
 have Lw45:=J5 _ _ mw45;have Lw50:=J5 _ _ mw50;have Lw56:=J5 _ _ mw56;have Lk45:=J5 _ _ mk45;have Lk50:=J5 _ _ mk50;have Lk56:=J5 _ _ mk56;have Lc45:=J5 _ _ mc45;have Lc50:=J5 _ _ mc50;have Lc56:=J5 _ _ mc56;have kd:=Y6 (k:=rk) k1;have rr:=U7.rng (f:=606) (hO.mono (by decide)) hR
 have gd:∀k,get (del ob rk) k=if k=rk then none else get ob k:=λ k=>B3 ob rk k
 have dr:∀k,del ob k=ob->del (del ob rk) k=del ob rk:=λ k h=>by rw [L5,h]
 have dr4:=dr _ d4;have dr6:=dr _ d6;have dr9:=dr _ d9;have dr10:=dr _ d10;have dr45:=dr _ d45;have dr50:=dr _ d50;have dr56:=dr _ d56;have nd45:=C3 (j:=rk) n45;have nd50:=C3 (j:=rk) n50;have l1:=W2 f45;have l2:=O7 n45;have l3:=W2 f50;have l4:=O7 n50;have l5:=O7 nd45;have l6:=O7 nd50;have bH:=Aos f rs 0;simp only [rfO]at hR;obtain⟨Z,hZ⟩:∃Z:Obj,Z=⟨6,[[i64 0,i64 0,i64 0,i64 0,bo false,.nil 2]]⟩:=⟨_,rfl⟩;have aP:∃ax s',(match Aar f rs 0 with
   |none=>ax= .ex 0/\s'=⟨(4,.loc 606004 0 0)::(6,.loc 606006 0 0)::gs,(606006,Z)::(606004,crO ⟨ps,di,mo,le,wa,rs⟩)::ob⟩
   |some k=>ax= .ret/\s'=⟨(6,.loc 606006 0 0)::(7,bo true)::gs,(606006,crO (Cr.without ⟨ps,di,mo,le,wa,rs⟩ k))::(A2j s rk vw vk vc tick ⟨ps,di,mo,le,wa,rs⟩ ts ob (some k)).2⟩)/\∀s0,U9 [0,2,4,6,8] 606000 607000 [606004,606006,606045,606050,606056] s0=⟨(0,.loc rk 0 0)::(2,i64 f)::(4,.loc 606004 0 0)::(6,.loc 606006 0 0)::(8,i64 (0:Nat))::gs,(606006,Z)::(606004,crO ⟨ps,di,mo,le,wa,rs⟩)::ob⟩->lp (exec Γ M Aj7) M s0=some (ax,s'):=by
  refine I0 (λ q:Nat=>⟨(0,.loc rk 0 0)::(2,i64 f)::(4,.loc 606004 0 0)::(6,.loc 606006 0 0)::(8,i64 q)::gs,(606006,Z)::(606004,crO ⟨ps,di,mo,le,wa,rs⟩)::ob⟩) (λ q=>q<=rs.length/\∀j (h:j<rs.length),j<q->rs[j].to≠f) (λ q=>rs.length-q) _ 0 M ⟨by omega,λ j _ h=>by omega⟩ (by omega) ?_
  rintro k ⟨bG,hj⟩;subst hZ;by_cases aC:k<rs.length
  ·obtain⟨r,hr⟩:∃r,rs[k]'aC=r:=⟨_,rfl⟩;have dH:=iC r (by rw [<-hr];exact B8e aC)
   obtain⟨ri,rt⟩:=r;dsimp only at dH;by_cases hrf:rt=f
   ·have fA:Aar f rs 0=some k:=by
     cases hx:Aar f rs 0 with
     |none=>rw [hx]at bH;exact absurd (by rw [hr];exact hrf) (bH k aC)
     |some m=>
      grind [Nat.lt_trichotomy]
    rw [fA];have eQ:ri.toNat<ts.length:=by omega
    obtain⟨t,ht⟩:∃t,ts[ri.toNat]'eQ=t:=⟨_,rfl⟩;have hsT:=Bhg (h:=λ t=>t.out tick) eQ ht
    have iK:rs[k]? =some ⟨ri,rt⟩:=by rw [B6w aC,hr]
    have hFT:NoF [607] (gho gs):=(hF.mono (by decide)).gho
    have q4:∀o,NmS [607] (.loc 606004 0 o):=λ o=>D3 _ _ _ _ (by decide)
    have q6:∀o,NmS [607] (.loc 606006 0 o):=λ o=>D3 _ _ _ _ (by decide)
    have q9:∀o,NmS [607] (.loc 606009 0 o):=λ o=>D3 _ _ _ _ (by decide)
    have q10:∀o,NmS [607] (.loc 606010 0 o):=λ o=>D3 _ _ _ _ (by decide)
    have qr:∀o,NmS [607] (.loc rk 0 o):=λ o=>D3 _ _ _ _ ((hO.mono (by decide) _ (B0 hR)).1)
    obtain⟨OB,uF⟩:∃OB:OL,OB=(606010,⟨7,[[i64 t.id,i64 t.arrive,i64 t.frm,i64 t.to,i64 t.car,i64 t.board,i64 tick]]⟩)::(606009,⟨2,[[i64 ri,i64 rt]]⟩)::(606006,⟨6,[[i64 0,i64 0,i64 0,i64 0,bo false,.nil 2]]⟩)::(606004,crO ⟨ps,di,mo,le,wa,rs⟩)::ob:=⟨_,rfl⟩;have noT:U7 [607] OB:=by
     rw [uF];exact L3 (by decide) (Abl (by simp [E9])) (L3 (by decide) (Abl (by simp [E9])) (L3 (by decide) (Abl (by simp [E9,N3])) (L3 (by decide) (Abl (by simp [E9])) (hO.mono (by decide)))))
    have gOB:∀k,¬k=606004->¬k=606006->¬k=606009->¬k=606010->get OB k=get ob k:=λ k h1 h2 h3 h4=>by
     rw [uF];simp only [Am.get];rw [B6j (B6i h4),B6j (B6i h3),B6j (B6i h2),B6j (B6i h1)]
    have tvO:TrV ts OB vt:=hv.imp id λ⟨q,h1,h2⟩=>⟨q,h1,by
     rw [gOB q (A3 hO h2 (by decide)) (A3 hO h2 (by decide)) (A3 hO h2 (by decide)) (A3 hO h2 (by decide))];exact h2⟩
    have gRO:get OB rk=some (rfO s vw vk vc vt tick):=by rw [gOB rk r4 r6 r9 r10];exact hR0
    have eT:∀bJ,NoF [607] bJ->_:=λ bJ hg=>hT s rk vk vc vw vt tick ts ri (t.out tick) bJ OB noT hg tvO dH.1 dH.2 iH wR gRO
    have jJ:del OB rk=(606010,⟨7,[[i64 t.id,i64 t.arrive,i64 t.frm,i64 t.to,i64 t.car,i64 t.board,i64 tick]]⟩)::(606009,⟨2,[[i64 ri,i64 rt]]⟩)::(606006,⟨6,[[i64 0,i64 0,i64 0,i64 0,bo false,.nil 2]]⟩)::(606004,crO ⟨ps,di,mo,le,wa,rs⟩)::del ob rk:=by
     rw [uF];simp only [Am.del];rw [B6j r10',B6j r9',B6j r6',B6j r4']
    rw [jJ,<-hsT]at eT;subst uF;simp only [crO,rfO]at eT;obtain⟨VT,qR⟩:∃VT:AV,VT= .c (.vs 7 ((Akg ts ri λ t=>t.out tick).map D2.cells)):=⟨_,rfl⟩
    rw [<-qR]at eT;simp only [D2.out,D2.cells]at eT;simp only [hrf]at eT;simp only [A2j,iK,rfO];rw [<-qR];have mV:∀k,VT.names k=false:=λ k=>by rw [qR];rfl
    have mL:∀k,VT.isLoc k=false:=λ k=>by rw [qR];rfl
    have c1:k<=rs.length:=by omega
    have c2:k+1<=rs.length:=by omega
    have hX:(rs.map Rd.cells).take k=(rs.take k).map Rd.cells:=by rw [B8o]
    have hY:((rs.map Rd.cells).drop (k+1)).take (rs.length-(k+1))=(rs.drop (k+1)).map Rd.cells:=by rw [<-B86,B6y (by rw [B6s,B70];omega)]
    have nJ:((rs.take k).map Rd.cells).length=k:=by rw [B6s,B7l];omega
    have nK:((rs.drop (k+1)).map Rd.cells).length=rs.length-(k+1):=by rw [B6s,B70]
    have hW:(Cr.without ⟨ps,di,mo,le,wa,rs⟩ k).rid.map Rd.cells=(rs.take k).map Rd.cells++(rs.drop (k+1)).map Rd.cells:=by unfold Cr.without;rw [B60]
    have hWo:crO (Cr.without ⟨ps,di,mo,le,wa,rs⟩ k)=⟨6,[[i64 ps,i64 di,i64 mo,i64 le,bo wa,.c (.vs 2 ((rs.take k).map Rd.cells++(rs.drop (k+1)).map Rd.cells))]]⟩:=by
     simp only [crO];rw [hW];rfl
    rw [hWo];generalize (rs.take k).map Rd.cells=X at hX nJ;generalize (rs.drop (k+1)).map Rd.cells=Y at hY nK;have mT:F7 (X.map A4++Y.map A4)=some (X++Y):=by rw [<-B60,G6]
    have dC:(X++Y).take (k+(rs.length-(k+1)))=X++Y:=B6y (by rw [B67];omega)
    rcases hv with hv|⟨q,hv,hq⟩
    ·subst hv;simp -implicitDefEqProofs (disch:=first|omega|(simp [g]<;>fail)|assumption|(simp only [K5,E9,D8,q4,q6,q9,q10,qr,hFT,B7v,B7w]<;>omega)) [g,n4,d4,f4,x4,n6,d6,f6,x6,n9,d9,f9,x9,n10,d10,f10,x10,k1,r4,r6,r9,r10,r45,r50,r56,r4',r6',r9',r10',r45',r50',r56',hR,aC,hr,hrf,n45,d45,f45,x45,n50,d50,f50,x50,n56,d56,f56,x56,kd,rr,gd,dr4,dr6,dr9,dr10,dr45,dr50,dr56,nd45,nd50,l1,l2,l3,l4,l5,l6,eQ,ht,eT,c1,c2,hX,hY,nJ,nK,mT,dC,D2.out,nb10,ib4,ib6,ib9,ib10,ib45,ib50,ib56,mw45,mw50,mw56,mk45,mk50,mk56,mc45,mc50,mc56,mV,mL,Lw45,Lw50,Lw56,Lk45,Lk50,Lk56,Lc45,Lc50,Lc56]
    ·subst hv;have q4n:=A3 hO hq (k:=606004) (by decide)
     have q6n:=A3 hO hq (k:=606006) (by decide)
     have q9n:=A3 hO hq (k:=606009) (by decide)
     have q10n:=A3 hO hq (k:=606010) (by decide)
     have q4':=B6i q4n;have q6':=B6i q6n;have q9':=B6i q9n;have q10':=B6i q10n;have qb10:(q==606010)=false:=by simp [q10n]
     simp only [trO]at hq;simp -implicitDefEqProofs (disch:=first|omega|(simp [g]<;>fail)|assumption|(simp only [K5,E9,D8,q4,q6,q9,q10,qr,hFT,B7v,B7w]<;>omega)) [g,n4,d4,f4,x4,n6,d6,f6,x6,n9,d9,f9,x9,n10,d10,f10,x10,k1,r4,r6,r9,r10,r45,r50,r56,r4',r6',r9',r10',r45',r50',r56',hR,aC,hr,hrf,n45,d45,f45,x45,n50,d50,f50,x50,n56,d56,f56,x56,kd,rr,gd,dr4,dr6,dr9,dr10,dr45,dr50,dr56,nd45,nd50,l1,l2,l3,l4,l5,l6,eQ,ht,eT,c1,c2,hX,hY,nJ,nK,mT,dC,D2.out,nb10,ib4,ib6,ib9,ib10,ib45,ib50,ib56,mw45,mw50,mw56,mk45,mk50,mk56,mc45,mc50,mc56,mV,mL,q4n,q6n,q9n,q10n,q4',q6',q9',q10',qb10,hq,Lw45,Lw50,Lw56,Lk45,Lk50,Lk56,Lc45,Lc50,Lc56]
   ·simp -implicitDefEqProofs (disch:=first|omega|(simp [g];done)|assumption) [g,n4,d4,f4,x4,n6,d6,f6,x6,n9,d9,f9,x9,n10,d10,f10,x10,k1,r4,r6,r9,r10,r45,r50,r56,r4',r6',r9',r10',r45',r50',r56',hR,aC,hr,hrf];refine⟨k+1,by omega,⟨by omega,λ j eJ fR=> ?_⟩,by omega⟩
    rcases B7f j k with q|q
    ·exact hj j eJ q
    ·obtain rfl:j=k:=by omega
     rw [hr];exact hrf
  ·obtain rfl:k=rs.length:=by omega
   have fA:Aar f rs 0=none:=by
    cases hx:Aar f rs 0 with
    |none=>rfl
    |some m=>
     grind
   rw [fA];simp -implicitDefEqProofs (disch:=first|omega|(simp [g];done)|assumption) [g,k1]
 obtain⟨ax,s',bN,bK⟩:=aP;have aO:=bK ⟨(0,.loc rk 0 0)::(2,i64 f)::(4,.loc 606004 0 0)::(6,.loc 606006 0 0)::(8,i64 0)::gs,(606006,Z)::(606004,crO ⟨ps,di,mo,le,wa,rs⟩)::ob⟩ (by simp -implicitDefEqProofs (disch:=first|omega|(simp [g];done)|assumption) [g,k1])
 subst hZ;cases hx:Aar f rs 0 with
 |none=>
  rw [hx]at bN;obtain⟨rfl,rfl⟩:=bN;simp -implicitDefEqProofs (disch:=first|omega|(simp [g];done)|assumption) [g,n4,d4,f4,x4,n6,d6,f6,x6,k1,r4,r6,r4',r6',hR,aO,A2j,crO,Cr.without]
 |some k=>
  rw [hx]at bN;obtain⟨rfl,rfl⟩:=bN;simp -implicitDefEqProofs (disch:=first|omega|(simp [g];done)|assumption) [g,n4,d4,f4,x4,n6,d6,f6,x6,k1,r4,r6,r4',r6',hR,aO,A2j,crO,Cr.without];intro h1 h2;omega
abbrev Z2 :Obj:=⟨2,[[.c (.int .u64 0),.c (.int .u64 0)]]⟩
theorem Bkx (car dir:Int)(ks:List K3){q:Nat}(h:q<ks.length){e:K3}(he:ks[q]=e):S8 car dir (ks.take (q+1))=S8 car dir (ks.take q)++if e.2.2=car/\e.2.1=dir then [e.1]else []:=by
 unfold S8;rw [B75 h,B8i,B60,he];congr 1;by_cases h1:e.2.2=car<;>by_cases h2:e.2.1=dir<;>simp [h1,h2]
theorem Bky (car dir:Int)(ws:List W4){q:Nat}(h:q<ws.length){w:W4}(hw:ws[q]=w):T7 car dir (ws.take (q+1))=T7 car dir (ws.take q)++if w.2.2.2=car/\0<=car/\A0r (w.2.2.1-w.2.1)=dir then [w.2.1]else []:=by
 unfold T7;rw [B75 h,B8i,B60,hw];congr 1;by_cases h1:w.2.2.2=car<;>by_cases h2:0<=car<;>by_cases h3:A0r (w.2.2.1-w.2.1)=dir<;>simp [h1,h2,h3]
theorem Bqm (Γ:H6)(M:Nat)(hM:2000<M){s:S6}{rk:Nat}{vw vk vc vt:AV}{tick:Int}{ks:List K3}{car dir:Int}{gs:FL}{ob:OL}(hO:U7 [575] ob)(hF:NoF [575] gs)(hv:SlV 3 (ks.map U5) vk)(hl:ks.length<=1000)(hR:get ob rk=some (rfO s vw vk vc vt tick)):
  lp (exec Γ M W1) M ⟨(0,.loc rk 0 0)::(1,i64 car)::(2,i64 dir)::(6,.loc 575006 0 0)::(7,.sl 575007 0 0 0)::(8,i64 0)::gs,(575007,⟨1,[]⟩)::(575006,Z2)::ob⟩=some (.ex 0,⟨(0,.loc rk 0 0)::(1,i64 car)::(2,i64 dir)::(6,.loc 575006 0 0)::(7,.sl 575007 (S8 car dir ks).length 0 (S8 car dir ks).length)::gs,(575007,⟨1,(S8 car dir ks).map (A4∘iD)⟩)::(575006,Z2)::ob⟩):=by
 have g:=hF.1
 have n6:=hO.nm (k:=575006) (by decide)
 have d6:=hO.del (k:=575006) (by decide)
 have f6:=hF.nm (k:=575006) (by decide)
 have x6:=hO.none (k:=575006) (by decide)
 have n7:=hO.nm (k:=575007) (by decide)
 have d7:=hO.del (k:=575007) (by decide)
 have f7:=hF.nm (k:=575007) (by decide)
 have x7:=hO.none (k:=575007) (by decide)
 have k1:=hO.kf (f:=575) (by decide)
 have r6:=A3 hO hR (k:=575006) (by decide)
 have r7:=A3 hO hR (k:=575007) (by decide)
 have r6':=B6i r6
 have r7':=B6i r7
 have l1:=W2 f7
 have l2:=O7 n7
 have ib7:(rk==575007)=false:=by simp [r7]
 simp only [rfO]at hR
 rcases hv with hv|⟨he,hv⟩
 ·subst hv
  obtain⟨ax,s',⟨rfl,rfl⟩,aP⟩:∃ax s',(ax= .ex 0/\s'=⟨(0,.loc rk 0 0)::(1,i64 car)::(2,i64 dir)::(6,.loc 575006 0 0)::(7,.sl 575007 (S8 car dir ks).length 0 (S8 car dir ks).length)::gs,(575007,⟨1,(S8 car dir ks).map (A4∘iD)⟩)::(575006,Z2)::ob⟩)/\∀s0,U9 [0,1,2,6,7,8] 575000 576000 [575006,575007,575052,575090] s0=⟨(0,.loc rk 0 0)::(1,i64 car)::(2,i64 dir)::(6,.loc 575006 0 0)::(7,.sl 575007 (S8 car dir (ks.take 0)).length 0 (S8 car dir (ks.take 0)).length)::(8,i64 (0:Nat))::gs,(575007,⟨1,(S8 car dir (ks.take 0)).map (A4∘iD)⟩)::(575006,Z2)::ob⟩->lp (exec Γ M W1) M s0=some (ax,s'):=by
   refine I0 (λ q:Nat=>⟨(0,.loc rk 0 0)::(1,i64 car)::(2,i64 dir)::(6,.loc 575006 0 0)::(7,.sl 575007 (S8 car dir (ks.take q)).length 0 (S8 car dir (ks.take q)).length)::(8,i64 q)::gs,(575007,⟨1,(S8 car dir (ks.take q)).map (A4∘iD)⟩)::(575006,Z2)::ob⟩) (λ q=>q<=ks.length) (λ q=>ks.length-q) _ 0 M (by omega) (by omega) ?_
   intro q hq
   by_cases aC:q<ks.length
   ·obtain⟨e,he⟩:∃e,ks[q]'aC=e:=⟨_,rfl⟩
    have hs:=Bkx car dir ks aC he
    obtain⟨e1,e2,e3⟩:=e
    have cI:=Baj car dir (ks.take q)
    have lX:(ks.take q).length=q:=by rw [B7l];omega
    have rJ:∃q':Nat,q'=q+1/\S8 car dir (ks.take q')=S8 car dir (ks.take q)++if e3=car/\e2=dir then [e1]else []:=⟨q+1,rfl,hs⟩
    obtain⟨q',rJ,s1⟩:=rJ
    clear hs
    rw [lX]at cI
    have v1:=λ k=>J4 k iD (S8 car dir (ks.take q))
    have v2:=λ k=>L6 k iD (S8 car dir (ks.take q))
    have w1:((S8 car dir (ks.take q)).map (A4∘iD)).length=(S8 car dir (ks.take q)).length:=B6s _
    generalize hW:S8 car dir (ks.take q')=W at*
    generalize S8 car dir (ks.take q)=V at*
    by_cases h1:e3=car
    ·subst h1
     by_cases h2:e2=dir
     ·subst h2
      simp only [and_self,B68]at s1
      simp -implicitDefEqProofs (disch:=first|omega|(simp [g];done)|assumption) [g,n6,d6,f6,x6,n7,d7,f7,x7,k1,r6,r7,r6',r7',l1,l2,ib7,hR,aC,he,U5,w1,v1,v2]
      grind (splits:=12) (ematch:=8) (instances:=2000) [iD,A4]
     ·simp only [h2,and_false,B7d,B71]at s1
      simp -implicitDefEqProofs (disch:=first|omega|(simp [g];done)|assumption) [g,n6,d6,f6,x6,n7,d7,f7,x7,k1,r6,r7,r6',r7',l1,l2,ib7,hR,aC,he,U5,w1,v1,v2,h2]
      grind (splits:=12) (ematch:=8) (instances:=2000)
    ·simp only [h1,false_and,B7d,B71]at s1
     simp -implicitDefEqProofs (disch:=first|omega|(simp [g];done)|assumption) [g,n6,d6,f6,x6,n7,d7,f7,x7,k1,r6,r7,r6',r7',l1,l2,ib7,hR,aC,he,U5,w1,v1,v2,h1]
     grind (splits:=12) (ematch:=8) (instances:=2000)
   ·obtain rfl:q=ks.length:=by omega
    rw [B7s]
    simp -implicitDefEqProofs (disch:=first|omega|(simp [g];done)|assumption) [g,n6,d6,f6,x6,n7,d7,f7,x7,k1,r6,r7,r6',r7',hR]
  exact aP _ (by simp -implicitDefEqProofs (disch:=first|omega|(simp [g];done)|assumption) [g,k1,S8])
 ·subst hv
  have:ks=[]:=by simpa using he
  subst this
  obtain⟨ax,s',⟨rfl,rfl⟩,aP⟩:∃ax s',(ax= .ex 0/\s'=⟨(0,.loc rk 0 0)::(1,i64 car)::(2,i64 dir)::(6,.loc 575006 0 0)::(7,.sl 575007 0 0 0)::gs,(575007,⟨1,[]⟩)::(575006,Z2)::ob⟩)/\∀s0,U9 [0,1,2,6,7,8] 575000 576000 [575006,575007,575052,575090] s0=⟨(0,.loc rk 0 0)::(1,i64 car)::(2,i64 dir)::(6,.loc 575006 0 0)::(7,.sl 575007 0 0 0)::(8,i64 0)::gs,(575007,⟨1,[]⟩)::(575006,Z2)::ob⟩->lp (exec Γ M W1) M s0=some (ax,s'):=by
   refine I0 (λ _:Unit=>⟨(0,.loc rk 0 0)::(1,i64 car)::(2,i64 dir)::(6,.loc 575006 0 0)::(7,.sl 575007 0 0 0)::(8,i64 0)::gs,(575007,⟨1,[]⟩)::(575006,Z2)::ob⟩) (λ _=>True) (λ _=>0) _ () M trivial (by omega) ?_
   rintro _ _
   simp -implicitDefEqProofs (disch:=first|omega|(simp [g];done)|assumption) [g,n6,d6,f6,x6,n7,d7,f7,x7,k1,r6,r7,r6',r7',hR]
  exact aP _ (by simp -implicitDefEqProofs (disch:=first|omega|(simp [g];done)|assumption) [g,k1])
theorem Bqn (Γ:H6)(M:Nat)(hM:2000<M)(hD:Avm (Γ 164))(V0:List Int)(hV0:V0.length<=1000){s:S6}{rk:Nat}{vw vk vc vt:AV}{tick:Int}{ws:List W4}{car dir:Int}{gs:FL}{ob:OL}(hO:U7 [575] ob)(hF:NoF [575] gs)(hv:SlV 4 (ws.map U8) vw)(gD:∀w∈ws,SmW w)(hl:ws.length<=1000)(hR:get ob rk=some (rfO s vw vk vc vt tick)):
  lp (exec Γ M W0) M ⟨(0,.loc rk 0 0)::(1,i64 car)::(2,i64 dir)::(6,.loc 575006 0 0)::(7,.sl 575007 V0.length 0 V0.length)::(9,i64 0)::gs,(575007,⟨1,V0.map (A4∘iD)⟩)::(575006,Z2)::ob⟩=some (.ex 2,⟨(6,.loc 575006 0 0)::(7,.sl 575007 (V0++T7 car dir ws).length 0 (V0++T7 car dir ws).length)::gs,(575007,⟨1,(V0++T7 car dir ws).map (A4∘iD)⟩)::(575006,Z2)::ob⟩):=by
 have g:=hF.1;have n6:=hO.nm (k:=575006) (by decide)
 have d6:=hO.del (k:=575006) (by decide)
 have f6:=hF.nm (k:=575006) (by decide)
 have x6:=hO.none (k:=575006) (by decide)
 have n7:=hO.nm (k:=575007) (by decide)
 have d7:=hO.del (k:=575007) (by decide)
 have f7:=hF.nm (k:=575007) (by decide)
 have x7:=hO.none (k:=575007) (by decide)
 have n10:=hO.nm (k:=575010) (by decide)
 have d10:=hO.del (k:=575010) (by decide)
 have f10:=hF.nm (k:=575010) (by decide)
 have x10:=hO.none (k:=575010) (by decide)
 have r10:=A3 hO hR (k:=575010) (by decide)
 have r10':=B6i r10;have ib10:(rk==575010)=false:=by simp [r10]
 have k1:=hO.kf (f:=575) (by decide)
 have r6:=A3 hO hR (k:=575006) (by decide)
 have r7:=A3 hO hR (k:=575007) (by decide)
 have r6':=B6i r6;have r7':=B6i r7;have l1:=W2 f7;have l2:=O7 n7;have ib7:(rk==575007)=false:=by simp [r7]
 simp only [rfO]at hR;rcases hv with hv|⟨he,hv⟩
 ·subst hv;obtain⟨ax,s',⟨rfl,rfl⟩,aP⟩:∃ax s',(ax= .ex 2/\s'=⟨(6,.loc 575006 0 0)::(7,.sl 575007 (V0++T7 car dir ws).length 0 (V0++T7 car dir ws).length)::gs,(575007,⟨1,(V0++T7 car dir ws).map (A4∘iD)⟩)::(575006,Z2)::ob⟩)/\∀s0,U9 [0,1,2,6,7,9] 575000 576000 [575006,575007,575052,575090] s0=⟨(0,.loc rk 0 0)::(1,i64 car)::(2,i64 dir)::(6,.loc 575006 0 0)::(7,.sl 575007 (V0++T7 car dir (ws.take 0)).length 0 (V0++T7 car dir (ws.take 0)).length)::(9,i64 (0:Nat))::gs,(575007,⟨1,(V0++T7 car dir (ws.take 0)).map (A4∘iD)⟩)::(575006,Z2)::ob⟩->lp (exec Γ M W0) M s0=some (ax,s'):=by
   refine I0 (λ q:Nat=>⟨(0,.loc rk 0 0)::(1,i64 car)::(2,i64 dir)::(6,.loc 575006 0 0)::(7,.sl 575007 (V0++T7 car dir (ws.take q)).length 0 (V0++T7 car dir (ws.take q)).length)::(9,i64 q)::gs,(575007,⟨1,(V0++T7 car dir (ws.take q)).map (A4∘iD)⟩)::(575006,Z2)::ob⟩) (λ q=>q<=ws.length) (λ q=>ws.length-q) _ 0 M (by omega) (by omega) ?_
   intro q hq;by_cases aC:q<ws.length
   ·obtain⟨e,he⟩:∃e,ws[q]'aC=e:=⟨_,rfl⟩;have hs:=Bky car dir ws aC he;obtain⟨e1,e2,e3,e4⟩:=e;have eZ:(e1,e2,e3,e4)∈ws:=by rw [<-he];exact B8e aC
    have eD:=hD e2 e3 (gD _ eZ).a (gD _ eZ).b;have cI:=Bak car dir (ws.take q);have lX:(ws.take q).length=q:=by rw [B7l];omega
    have rJ:∃q':Nat,q'=q+1/\V0++T7 car dir (ws.take q')=(V0++T7 car dir (ws.take q))++if e4=car/\0<=car/\A0r (e3-e2)=dir then [e2]else []:=⟨q+1,rfl,by rw [B9b,<-hs]⟩
    obtain⟨q',rJ,s1⟩:=rJ;clear hs;rw [lX]at cI;have hle3:(V0++T7 car dir (ws.take q)).length<=1000+q:=by rw [B67];omega
    clear cI;have v1:=λ k=>J4 k iD (V0++T7 car dir (ws.take q))
    have v2:=λ k=>L6 k iD (V0++T7 car dir (ws.take q))
    have w1:((V0++T7 car dir (ws.take q)).map (A4∘iD)).length=(V0++T7 car dir (ws.take q)).length:=B6s _;generalize hW:V0++T7 car dir (ws.take q')=W at*;generalize V0++T7 car dir (ws.take q)=V at*;by_cases h1:e4=car
    ·by_cases h2:0<=car
     ·by_cases h3:A0r (e3-e2)=dir
      ·simp only [h1,h2,h3,and_self,B68]at s1;simp -implicitDefEqProofs (disch:=first|omega|(simp [g];done)|assumption) [g,n6,d6,f6,x6,n7,d7,f7,x7,n10,d10,f10,x10,k1,r6,r7,r10,r6',r7',r10',l1,l2,ib7,ib10,hR,aC,he,U8,eD,w1,v1,v2,h1,h2,h3];refine⟨q',?_,by omega,by omega⟩
       rw [<-B67,<-B60,hW];simp [s1,iD,A4];omega
      ·simp only [h3,and_false,B7d,B71]at s1;simp -implicitDefEqProofs (disch:=first|omega|(simp [g];done)|assumption) [g,n6,d6,f6,x6,n7,d7,f7,x7,n10,d10,f10,x10,k1,r6,r7,r10,r6',r7',r10',l1,l2,ib7,ib10,hR,aC,he,U8,eD,w1,v1,v2,h1,h2,h3];grind [List.length_append]
     ·simp only [h2,false_and,and_false,B7d,B71]at s1;simp -implicitDefEqProofs (disch:=first|omega|(simp [g];done)|assumption) [g,n6,d6,f6,x6,n7,d7,f7,x7,n10,d10,f10,x10,k1,r6,r7,r10,r6',r7',r10',l1,l2,ib7,ib10,hR,aC,he,U8,eD,w1,v1,v2,h1,h2];grind [List.length_append]
    ·simp only [h1,false_and,B7d,B71]at s1;simp -implicitDefEqProofs (disch:=first|omega|(simp [g];done)|assumption) [g,n6,d6,f6,x6,n7,d7,f7,x7,n10,d10,f10,x10,k1,r6,r7,r10,r6',r7',r10',l1,l2,ib7,ib10,hR,aC,he,U8,eD,w1,v1,v2,h1];grind [List.length_append]
   ·obtain rfl:q=ws.length:=by omega
    rw [B7s];simp -implicitDefEqProofs (disch:=first|omega|(simp [g];done)|assumption) [g,n6,d6,f6,x6,n7,d7,f7,x7,k1,r6,r7,r6',r7',hR]
  exact aP _ (by simp -implicitDefEqProofs (disch:=first|omega|(simp [g];done)|assumption) [g,k1,T7])
 ·subst hv;have:ws=[]:=by simpa using he
  subst this;rw [show V0++T7 car dir []=V0 by simp [T7]]
  obtain⟨ax,s',⟨rfl,rfl⟩,aP⟩:∃ax s',(ax= .ex 2/\s'=⟨(6,.loc 575006 0 0)::(7,.sl 575007 V0.length 0 V0.length)::gs,(575007,⟨1,V0.map (A4∘iD)⟩)::(575006,Z2)::ob⟩)/\∀s0,U9 [0,1,2,6,7,9] 575000 576000 [575006,575007,575052,575090] s0=⟨(0,.loc rk 0 0)::(1,i64 car)::(2,i64 dir)::(6,.loc 575006 0 0)::(7,.sl 575007 V0.length 0 V0.length)::(9,i64 0)::gs,(575007,⟨1,V0.map (A4∘iD)⟩)::(575006,Z2)::ob⟩->lp (exec Γ M W0) M s0=some (ax,s'):=by
   refine I0 (λ _:Unit=>⟨(0,.loc rk 0 0)::(1,i64 car)::(2,i64 dir)::(6,.loc 575006 0 0)::(7,.sl 575007 V0.length 0 V0.length)::(9,i64 0)::gs,(575007,⟨1,V0.map (A4∘iD)⟩)::(575006,Z2)::ob⟩) (λ _=>True) (λ _=>0) _ () M trivial (by omega) ?_
   rintro _ _;simp -implicitDefEqProofs (disch:=first|omega|(simp [g];done)|assumption) [g,n6,d6,f6,x6,n7,d7,f7,x7,k1,r6,r7,r6',r7',hR]
  exact aP _ (by simp -implicitDefEqProofs (disch:=first|omega|(simp [g];done)|assumption) [g,k1])
def Arv (g:PG):Prop:=∀(s:S6)(rk:Nat)(vw vk vc vt:AV)(tick:Int)(ws:List W4)(ks:List K3)(car dir:Int) gs ob,U7 [575] ob->NoF [575] gs->SlV 4 (ws.map U8) vw->SlV 3 (ks.map U5) vk->(∀w∈ws,SmW w)->ws.length<=400->ks.length<=400->get ob rk=some (rfO s vw vk vc vt tick)->
 g ⟨(0,.loc rk 0 0)::(1,i64 car)::(2,i64 dir)::gs,ob⟩=some ([E0 (L2 ws ks car dir)],ob)
theorem Afg (Γ:H6)(M:Nat)(hM:2000<M)(hD:Avm (Γ 164))(qB:Avi (Γ 528)):Arv (H9 Γ M M9):=by
 intro s rk vw vk vc vt tick ws ks car dir gs ob hO hF hvw wS gD wT iS hR;have hX:=Baj car dir ks;have hY:=Bak car dir ws;have e2:=Bqm Γ M hM (car:=car) (dir:=dir) hO hF wS (by omega) hR
 have e1:=Bqn Γ M hM hD (S8 car dir ks) (by omega) (car:=car) (dir:=dir) hO hF hvw gD (by omega) hR
 have eO:=qB (S8 car dir ks++T7 car dir ws) (by rw [B67];omega)
 have g:=hF.1;have n6:=hO.nm (k:=575006) (by decide)
 have d6:=hO.del (k:=575006) (by decide)
 have f6:=hF.nm (k:=575006) (by decide)
 have x6:=hO.none (k:=575006) (by decide)
 have n7:=hO.nm (k:=575007) (by decide)
 have d7:=hO.del (k:=575007) (by decide)
 have f7:=hF.nm (k:=575007) (by decide)
 have x7:=hO.none (k:=575007) (by decide)
 have k1:=hO.kf (f:=575) (by decide)
 have r6:=A3 hO hR (k:=575006) (by decide)
 have r7:=A3 hO hR (k:=575007) (by decide)
 have r6':=B6i r6;have r7':=B6i r7;have l1:=W2 f7;have l2:=O7 n7;have ib7:(rk==575007)=false:=by simp [r7]
 unfold L2;have ha:=G7 iD (S8 car dir ks++T7 car dir ws);have aF:(S8 car dir ks++T7 car dir ws).length<=1000:=by rw [B67];omega
 have w1:((S8 car dir ks++T7 car dir ws).map (A4∘iD)).length=(S8 car dir ks++T7 car dir ws).length:=B6s _;have ht:((S8 car dir ks++T7 car dir ws).map iD).take (S8 car dir ks++T7 car dir ws).length=(S8 car dir ks++T7 car dir ws).map iD:=B6y (by rw [B6s];exact B6u _)
 have v1:=λ k=>J4 k iD (S8 car dir ks)
 have v2:=λ k=>L6 k iD (S8 car dir ks)
 have v3:=λ k=>J4 k iD (S8 car dir ks++T7 car dir ws)
 have v4:=λ k=>L6 k iD (S8 car dir ks++T7 car dir ws)
 simp only [E0,Q7]at eO ⊢;generalize wb (B4 (S8 car dir ks++T7 car dir ws)) 0 64=y0 at*;generalize wb (B4 (S8 car dir ks++T7 car dir ws)) 64 64=y1 at*;generalize S8 car dir ks++T7 car dir ws=W at*;generalize S8 car dir ks=V at*;simp -implicitDefEqProofs (disch:=first|omega|(simp [g];done)|assumption) [g,n6,d6,f6,x6,n7,d7,f7,x7,k1,r6,r7,r6',r7',l1,l2,ib7,e1,e2,eO,ha,w1,ht,v1,v2,v3,v4]
def Bub (g:PG):Prop:=∀(s:S6)(rk:Nat)(vw vk vc vt:AV)(tick:Int)(ws:List W4)(ks:List K3)(c:Cr)(i:Int) gs ob,U7 [605,575] ob->NoF [605,575] gs->SlV 4 (ws.map U8) vw->SlV 3 (ks.map U5) vk->(∀w∈ws,SmW w)->ws.length<=400->ks.length<=400->c.rid.length<=100->get ob rk=some (rfO s vw vk vc vt tick)->
 g ⟨(0,.loc rk 0 0)::(1,.agg c.cells)::(2,i64 i)::gs,ob⟩=some ([.agg (sgD (Alc c s.capacity (L2 ws ks i 1) (L2 ws ks i (-1))))],ob)
theorem Auq (Γ:H6)(M:Nat)(hL:Arv (Γ.pt 575))(hS:Avj (Γ 588)):Bub (H9 Γ M Acj):=by
 rintro s rk vw vk vc vt tick ws ks ⟨ps,di,mo,le,wa,rs⟩ i gs ob hO hF hvw wS gD wT iS hl hR;dsimp only at hl;have g:=hF.1;have hR0:=hR;have n4:=hO.nm (k:=605004) (by decide)
 have d4:=hO.del (k:=605004) (by decide)
 have f4:=hF.nm (k:=605004) (by decide)
 have x4:=hO.none (k:=605004) (by decide)
 have n6:=hO.nm (k:=605006) (by decide)
 have d6:=hO.del (k:=605006) (by decide)
 have f6:=hF.nm (k:=605006) (by decide)
 have x6:=hO.none (k:=605006) (by decide)
 have k1:=hO.kf (f:=605) (by decide)
 have r4:=A3 hO hR (k:=605004) (by decide)
 have r6:=A3 hO hR (k:=605006) (by decide)
 have r4':=B6i r4;have r6':=B6i r6;have eLd:∀fl,fl∈[575]->fl∈[605,575]:=by decide
 obtain⟨OB,uF⟩:∃OB:OL,OB=(605006,⟨6,[[.c (.int .u64 0),.c (.int .u64 0),.c (.int .u64 0),.c (.int .u64 0),.c (.int .u64 0),.c (.int .u64 0)]]⟩)::(605004,⟨6,[[i64 ps,i64 di,i64 mo,i64 le,bo wa,.c (.vs 2 (rs.map Rd.cells))]]⟩)::ob:=⟨_,rfl⟩;have noL:U7 [575] OB:=by
  rw [uF];exact L3 (by decide) (Abl (by simp [E9])) (L3 (by decide) (Abl (by simp [E9])) (hO.mono eLd))
 have gRO:get OB rk=some (rfO s vw vk vc vt tick):=by
  rw [uF];simp only [Am.get];rw [B6j r6',B6j r4'];exact hR
 have hLd:∀(d:Int) bJ,NoF [575] bJ->_:=λ d bJ hg=>hL s rk vw vk vc vt tick ws ks i d bJ OB noL hg hvw wS gD wT iS gRO
 have u1:=hLd 1;have u2:=hLd (-1);obtain⟨pU,sX⟩:∃p,p=L2 ws ks i 1:=⟨_,rfl⟩;obtain⟨pD,sY⟩:∃p,p=L2 ws ks i (-1):=⟨_,rfl⟩;rw [<-sX]at u1;rw [<-sY]at u2;rw [<-sX,<-sY];have e2:=hS ⟨ps,di,mo,le,wa,rs⟩ s.capacity pU pD hl;obtain⟨sg,kV⟩:∃x,x=Alc ⟨ps,di,mo,le,wa,rs⟩ s.capacity pU pD:=⟨_,rfl⟩;rw [<-kV]at e2 ⊢;rw [uF]at u1 u2;simp only [E0,Q7,sgD,Cr.cells]at e2 u1 u2;have kT:=(hF.mono eLd).gho;have m4:∀o,NmS [575] (.loc 605004 0 o):=λ o=>D3 _ _ _ _ (by decide)
 have m6:∀o,NmS [575] (.loc 605006 0 o):=λ o=>D3 _ _ _ _ (by decide)
 have mr:∀o,NmS [575] (.loc rk 0 o):=λ o=>D3 _ _ _ _ ((hO.mono eLd _ (B0 hR0)).1)
 simp only [rfO]at hR;simp -implicitDefEqProofs (disch:=first|omega|(simp [g]<;>fail)|assumption|(simp only [K5,E9,D8,m4,m6,mr,kT,B7v,B7w]<;>omega)) [g,n4,d4,f4,x4,n6,d6,f6,x6,k1,r4,r6,r4',r6',hR,e2,u1,u2]
end Go.Am
