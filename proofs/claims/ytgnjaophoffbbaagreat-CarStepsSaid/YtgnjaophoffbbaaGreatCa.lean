import Derived.Test.YtgnjaophoffbbaaGreatHa
import Derived.Test.YtgnjaophoffbbaaGreatHb
import Derived.Test.YtgnjaophoffbbaaGreatSa
set_option maxRecDepth 20000
set_option maxHeartbeats 4000000
set_option linter.unusedVariables false
set_option linter.unusedSimpArgs false
namespace Go.Am
abbrev I4 (s:S6)(hk tk n:Nat)(i tick:Int):List AV:=[i64 s.floors,i64 s.gap,i64 s.cars,i64 s.capacity,i64 s.opn,i64 s.dwell,i64 s.cls,i64 s.transfer,.c (.vs 3 (s.segs.map Seg.cells)),i64 s.disp,i64 s.horizon,i64 s.bins,i64 s.width,.loc hk 0 0,.sl tk n 0 n,i64 i,i64 tick]
abbrev Aun (s:S6)(hk tk n:Nat)(i tick:Int):AV:= .ags (I4 s hk tk n i tick)
def B1l (g:PG):Prop:=∀(s:S6)(hk tk n:Nat)(i tick f d:Int) gs ob,U7 [598] ob->NoF [598] gs->M5 [598] hk=false->M5 [598] tk=false->
 g ⟨(0,Aun s hk tk n i tick)::(1,i64 f)::(2,i64 d)::gs,ob⟩=some ([.agg (U5 (f,d,if s.disp=4 then i else -1))],ob)
theorem R8 {fs:List Nat}{j k:Nat}(hj:M5 fs j=false)(hk:M5 fs k=true):¬j=k:=by
 rintro rfl;rw [hj]at hk;simp at hk
theorem Any (Γ:H6)(M:Nat):B1l (H9 Γ M V8):=by
 intro s hk tk n i tick f d gs ob hO hF hh ht;have g:=hF.1;have n3:=hO.nm (k:=598003) (by decide)
 have d3:=hO.del (k:=598003) (by decide)
 have f3:=hF.nm (k:=598003) (by decide)
 have x3:=hO.none (k:=598003) (by decide)
 have n6:=hO.nm (k:=598006) (by decide)
 have d6:=hO.del (k:=598006) (by decide)
 have f6:=hF.nm (k:=598006) (by decide)
 have x6:=hO.none (k:=598006) (by decide)
 have n7:=hO.nm (k:=598007) (by decide)
 have d7:=hO.del (k:=598007) (by decide)
 have f7:=hF.nm (k:=598007) (by decide)
 have x7:=hO.none (k:=598007) (by decide)
 have k1:=hO.kf (f:=598) (by simp)
 have a3:=R8 hh (k:=598003) (by decide)
 have a6:=R8 hh (k:=598006) (by decide)
 have a7:=R8 hh (k:=598007) (by decide)
 have b3:=R8 ht (k:=598003) (by decide)
 have b6:=R8 ht (k:=598006) (by decide)
 have b7:=R8 ht (k:=598007) (by decide)
 by_cases h4:s.disp=4
 ·simp -implicitDefEqProofs (disch:=first|omega|(simp [g];done)|assumption) [g,n3,d3,f3,n6,d6,f6,n7,d7,f7,x3,x6,x7,k1,a3,a6,a7,b3,b6,b7,h4,U5]
 ·simp -implicitDefEqProofs (disch:=first|omega|(simp [g];done)|assumption) [g,n3,d3,f3,n6,d6,f6,n7,d7,f7,x3,x6,x7,k1,a3,a6,a7,b3,b6,b7,h4,U5]
def Aar (f:Int):List Rd->Nat->Option Nat
 |[],_=>none
 |r::l,i=>if r.to=f then some i else Aar f l (i+1)
theorem Aos (f:Int):∀(l:List Rd)(i:Nat),match Aar f l i with
  |none=>∀j (h:j<l.length),l[j].to≠f
  |some m=>∃j,m=i+j/\∃h:j<l.length,l[j].to=f/\∀k (h:k<l.length),k<j->l[k].to≠f
 |[],i=>by simp [Aar]
 |r::l,i=>by
  unfold Aar;by_cases h:r.to=f
  ·rw [B6l h];exact⟨0,rfl,by simp,by simpa using h,λ k _ hk=>by omega⟩
  ·rw [B6j h];have ih:=Aos f l (i+1);cases hx:Aar f l (i+1)with
   |none=>
    rw [hx]at ih;intro j hj;cases j with
    |zero=>simpa using h
    |succ j=>simpa using ih j (by simpa using hj)
   |some m=>
    rw [hx]at ih;obtain⟨j,rfl,hj,h1,h2⟩:=ih;refine⟨j+1,by omega,by simpa using hj,by simpa using h1,λ k hk hkj=> ?_⟩
    cases k with
    |zero=>simpa using h
    |succ k=>simpa using h2 k (by simpa using hk) (by omega)
def D2.out (t:D2)(tick:Int):D2:=⟨t.id,t.arrive,t.frm,t.to,t.car,t.board,tick⟩
def Akg (ts:List D2)(id:Int)(h:D2->D2):List D2:=match ts[id.toNat]? with
 |some t=>ts.set id.toNat (h t)
 |none=>ts
abbrev crO (c:Cr):Obj:=⟨6,[[i64 c.pos,i64 c.dir,i64 c.mode,i64 c.left,bo c.waited,.c (.vs 2 (c.rid.map Rd.cells))]]⟩
abbrev trO (ts:List D2):Obj:=⟨7,ts.map (A4∘D2.cells)⟩
def Cr.without (c:Cr)(k:Nat):Cr:=⟨c.pos,c.dir,c.mode,c.left,c.waited,c.rid.take k++c.rid.drop (k+1)⟩
theorem A34 {ts:List D2}{id:Int}{h:D2->D2}{t:D2}(hl:id.toNat<ts.length)(ht:ts[id.toNat]=t):(Akg ts id h).map (A4∘D2.cells)=(ts.map (A4∘D2.cells)).take id.toNat++A4 (h t).cells::(ts.map (A4∘D2.cells)).drop (id.toNat+1):=by
 grind [Akg,List.getElem?_eq_getElem,List.set_eq_take_append_cons_drop,List.map_take,List.map_drop]
theorem Azl (ts:List D2)(id:Int)(h:D2->D2):(Akg ts id h).length=ts.length:=by
 unfold Akg;split<;>simp
def Ayf (tk K:Nat)(c:Cr)(ts:List D2)(tick:Int)(ob:OL):Option Nat->List AV×OL
 |none=>([bo false],ob)
 |some k=>([bo true],(tk,trO (Akg ts (match c.rid[k]? with|some r=>r.id|none=>0) λ t=>t.out tick))::del ((K,crO (c.without k))::del ob K) tk)
def B1m (g:PG):Prop:=∀(s:S6)(hk tk n K:Nat)(i tick f:Int)(c:Cr)(ts:List D2) gs ob,U7 [585] ob->NoF [585] gs->M5 [585] hk=false->c.rid.length<=100->(∀r∈c.rid,0<=r.id/\r.id<n)->ts.length=n->n<=1000000->get ob K=some (crO c)->get ob tk=some (trO ts)->¬K=tk->
 g ⟨(0,Aun s hk tk n i tick)::(1,.loc K 0 0)::(2,i64 f)::gs,ob⟩=some (Ayf tk K c ts tick ob (Aar f c.rid 0))
theorem Am6 {f k:Nat}(h:M5 [f] k=false):k%18446744073709551616<1000*f\/1000*f+1000<=k%18446744073709551616:=by
 grind [KT,G1,M5,List.mem_singleton]
theorem A7i {A B:Prop}(h:A\/B)(p:Prop):(A\/B\/p)=True:=by
 rcases h with h|h<;>simp [h]
theorem U7.rng {f k:Nat}{o:Obj}{ob:OL}(hO:U7 [f] ob)(hk:get ob k=some o):k%18446744073709551616<1000*f\/1000*f+1000<=k%18446744073709551616:=Am6 (hO _ (B0 hk)).1
theorem An0 (Γ:H6)(M:Nat)(hM:200<M):B1m (H9 Γ M V9):=by
 rintro s hk tk n K i tick f ⟨ps,di,mo,le,wa,rs⟩ ts gs ob hO hF hh hl iC hn iH hK aY aH;dsimp only at hl iC;have g:=hF.1;have n3:=hO.nm (k:=585003) (by decide)
 have d3:=hO.del (k:=585003) (by decide)
 have f3:=hF.nm (k:=585003) (by decide)
 have x3:=hO.none (k:=585003) (by decide)
 have n8:=hO.nm (k:=585008) (by decide)
 have d8:=hO.del (k:=585008) (by decide)
 have f8:=hF.nm (k:=585008) (by decide)
 have x8:=hO.none (k:=585008) (by decide)
 have n30:=hO.nm (k:=585030) (by decide)
 have d30:=hO.del (k:=585030) (by decide)
 have f30:=hF.nm (k:=585030) (by decide)
 have x30:=hO.none (k:=585030) (by decide)
 have k1:=hO.kf (f:=585) (by simp)
 have a3:=R8 hh (k:=585003) (by decide)
 have a8:=R8 hh (k:=585008) (by decide)
 have a30:=R8 hh (k:=585030) (by decide)
 have t3:=A3 hO aY (k:=585003) (by decide)
 have t8:=A3 hO aY (k:=585008) (by decide)
 have t30:=A3 hO aY (k:=585030) (by decide)
 have K3:=A3 hO hK (k:=585003) (by decide)
 have K8:=A3 hO hK (k:=585008) (by decide)
 have K30:=A3 hO hK (k:=585030) (by decide)
 have t3':=B6i t3;have t8':=B6i t8;have t30':=B6i t30;have K3':=B6i K3;have K8':=B6i K8;have K30':=B6i K30;have mQ:=B6i aH;have bH:=Aos f rs 0;have kd:Kf 585000 586000 (del ob K):=Y6 k1;have kd2:Kf 585000 586000 (del (del ob K) tk):=Y6 kd;have rK:=A7i (show K%18446744073709551616<585000\/586000<=K%18446744073709551616 from U7.rng hO hK)
 have rt:=A7i (show tk%18446744073709551616<585000\/586000<=tk%18446744073709551616 from U7.rng hO aY)
 have dK3:get (del ob K) tk=some (trO ts):=by rw [B3,B6j (B6i aH)];exact aY
 have gK:∀k,get (del ob K) k=if k=K then none else get ob k:=λ k=>B3 ob K k
 have dd:∀a b:Nat,del (del ob a) b=del (del ob b) a:=λ a b=>L5 a b ob
 simp only [crO]at hK;simp only [trO]at aY;obtain⟨co,rL⟩:∃co:Obj,co=⟨17,[I4 s hk tk n i tick]⟩:=⟨_,rfl⟩;have aP:∃ax s',(match Aar f rs 0 with
   |none=>ax= .ex 0/\s'=⟨gs,ob⟩
   |some k=>ax= .ret/\s'=⟨(6,bo true)::gs,(Ayf tk K ⟨ps,di,mo,le,wa,rs⟩ ts tick ob (some k)).2⟩)/\∀s0,U9 [1,2,3,13,14,15] 585000 586000 [585003,585030,585040] s0=⟨(1,.loc K 0 0)::(2,i64 f)::(3,.loc 585003 0 0)::(13,.c (.vs 2 (rs.map Rd.cells)))::(14,i64 rs.length)::(15,i64 (0:Nat))::gs,(585003,co)::ob⟩->lp (exec Γ M Afd) M s0=some (ax,s'):=by
  refine I0 (λ q:Nat=>⟨(1,.loc K 0 0)::(2,i64 f)::(3,.loc 585003 0 0)::(13,.c (.vs 2 (rs.map Rd.cells)))::(14,i64 rs.length)::(15,i64 q)::gs,(585003,co)::ob⟩) (λ q=>q<=rs.length/\∀j (h:j<rs.length),j<q->rs[j].to≠f) (λ q=>rs.length-q) _ 0 M ⟨by omega,λ j _ h=>by omega⟩ (by omega) ?_
  rintro k ⟨bG,hj⟩;subst rL;by_cases aC:k<rs.length
  ·obtain⟨r,hr⟩:∃r,rs[k]'aC=r:=⟨_,rfl⟩;by_cases hrf:r.to=f
   ·have fA:Aar f rs 0=some k:=by
     cases hx:Aar f rs 0 with
     |none=>rw [hx]at bH;exact absurd (by rw [hr];exact hrf) (bH k aC)
     |some m=>
      grind [Nat.lt_trichotomy]
    rw [fA];have dH:=iC r (by rw [<-hr];exact B8e aC)
    have eQ:r.id.toNat<ts.length:=by omega
    have yR:r.id.toNat<n:=by omega
    obtain⟨t,ht⟩:∃t,ts[r.id.toNat]'eQ=t:=⟨_,rfl⟩;have c1:k<=rs.length:=by omega
    have c2:k+1<=rs.length:=by omega
    have hX:(rs.map Rd.cells).take k=(rs.take k).map Rd.cells:=by rw [B8o]
    have hY:((rs.map Rd.cells).drop (k+1)).take (rs.length-(k+1))=(rs.drop (k+1)).map Rd.cells:=by rw [<-B86,B6y (by rw [B6s,B70];omega)]
    have nJ:((rs.take k).map Rd.cells).length=k:=by rw [B6s,B7l];omega
    have nK:((rs.drop (k+1)).map Rd.cells).length=rs.length-(k+1):=by rw [B6s,B70]
    have hW:(Cr.without ⟨ps,di,mo,le,wa,rs⟩ k).rid.map Rd.cells=(rs.take k).map Rd.cells++(rs.drop (k+1)).map Rd.cells:=by unfold Cr.without;rw [B60]
    generalize (rs.take k).map Rd.cells=X at hX nJ hW;generalize (rs.drop (k+1)).map Rd.cells=Y at hY nK hW;have l1:=W2 f30;have l2:=O7 n30;have mT:F7 (X.map A4++Y.map A4)=some (X++Y):=by rw [<-B60,G6]
    have dC:(X++Y).take (k+(rs.length-(k+1)))=X++Y:=B6y (by rw [B67];omega)
    simp -implicitDefEqProofs (disch:=first|omega|(simp [g];done)|assumption) [g,n3,d3,f3,x3,n8,d8,f8,x8,n30,d30,f30,x30,k1,a3,a8,a30,t3,t8,t30,K3,K8,K30,t3',t8',t30',K3',K8',K30',aH,mQ,kd,kd2,rK,rt,gK,hK,aY,aC,hr,hrf,ht,c1,c2,hX,hY,nJ,nK,l1,l2,mT,dC,hn,dH.2,yR];have hT:=A34 (h:=λ t=>t.out tick) eQ ht
    have iK:rs[k]? =some r:=by rw [B6w aC,hr]
    have fU:del ((K,crO (Cr.without ⟨ps,di,mo,le,wa,rs⟩ k))::del ob K) tk=(K,crO (Cr.without ⟨ps,di,mo,le,wa,rs⟩ k))::del (del ob K) tk:=by simp only [Am.del];rw [B6j aH]
    simp only [Ayf,iK];rw [fU];simp only [trO,hT,crO,hW];rfl
   ·simp -implicitDefEqProofs (disch:=first|omega|(simp [g];done)|assumption) [g,n3,d3,f3,x3,n8,d8,f8,x8,n30,d30,f30,x30,k1,a3,a8,a30,t3,t8,t30,K3,K8,K30,aH,hK,aY,aC,hr,hrf];refine⟨k+1,by omega,⟨by omega,λ j eJ fR=> ?_⟩,by omega⟩
    rcases B7f j k with q|q
    ·exact hj j eJ q
    ·obtain rfl:j=k:=by omega
     rw [hr];exact hrf
  ·obtain rfl:k=rs.length:=by omega
   have fA:Aar f rs 0=none:=by
    cases hx:Aar f rs 0 with
    |none=>rfl
    |some m=>
     grind
   rw [fA];simp -implicitDefEqProofs (disch:=first|omega|(simp [g];done)|assumption) [g,k1]
 obtain⟨ax,s',bN,bK⟩:=aP;have aO:=bK ⟨(1,.loc K 0 0)::(2,i64 f)::(3,.loc 585003 0 0)::(13,.c (.vs 2 (rs.map Rd.cells)))::(14,i64 rs.length)::(15,i64 0)::gs,(585003,co)::ob⟩ (by simp -implicitDefEqProofs (disch:=first|omega|(simp [g];done)|assumption) [g,k1])
 subst rL;cases hx:Aar f rs 0 with
 |none=>
  rw [hx]at bN;obtain⟨rfl,rfl⟩:=bN;simp -implicitDefEqProofs (disch:=first|omega|(simp [g];done)|assumption) [g,n3,d3,f3,x3,k1,a3,t3,t3',K3,K3',hK,aY,aO,Ayf]
 |some k=>
  rw [hx]at bN;obtain⟨rfl,rfl⟩:=bN;have fM:A1 585000 586000 [585030,585040] (Ayf tk K ⟨ps,di,mo,le,wa,rs⟩ ts tick ob (some k)).2=(Ayf tk K ⟨ps,di,mo,le,wa,rs⟩ ts tick ob (some k)).2:=by
   simp only [Ayf,Am.del,B6j aH];simp -implicitDefEqProofs (disch:=first|omega|(simp [g];done)|assumption) [kd2,rK,rt]
  have hoo:(Ayf tk K ⟨ps,di,mo,le,wa,rs⟩ ts tick ob (some k))=([bo true],(Ayf tk K ⟨ps,di,mo,le,wa,rs⟩ ts tick ob (some k)).2):=rfl;rw [hoo];generalize (Ayf tk K ⟨ps,di,mo,le,wa,rs⟩ ts tick ob (some k)).2=OB at*;simp -implicitDefEqProofs (disch:=first|omega|(simp [g];done)|assumption) [g,n3,d3,f3,x3,k1,a3,t3,t3',K3,K3',hK,aY,aO,fM]
open Go.Proofs Go.Shelf Go.RowKit Go.Sort
def S8 (car dir:Int)(l:List K3):List Int:=(l.filter λ e=>decide (e.2.2=car)&&decide (e.2.1=dir)).map (·.1)
def T7 (car dir:Int)(l:List W4):List Int:=(l.filter λ w=>decide (w.2.2.2=car)&&decide (0<=car)&&decide (A0r (w.2.2.1-w.2.1)=dir)).map (·.2.1)
theorem Baj (car dir:Int)(l:List K3):(S8 car dir l).length<=l.length:=by unfold S8;rw [B6s];exact List.length_filter_le _ _
theorem Bak (car dir:Int)(l:List W4):(T7 car dir l).length<=l.length:=by unfold T7;rw [B6s];exact List.length_filter_le _ _
theorem Bwt {c k0:Nat}{o:Obj}{ob:OL}(h:Cn c ob)(h1:k0<CK)(hn:∀k,B5 k o.rows=true):Cn c ((k0,o)::ob):=by
 have fV:DB=1000000000000000000:=rfl;have bI:CK=900000000000000000:=rfl;have aH:∀k,CK<=k->get ((k0,o)::ob) k=get ob k:=λ k hk=>by
  grind [Go.Am.get]
 have cS:∀k,B8 k ob=true->B8 k ((k0,o)::ob)=true:=λ k h=>by simp only [B8,hn,h,B64]
 refine⟨?_,h.le,λ i a b=>⟨?_,cS _ (h.a i a b).2⟩,λ i a b=>⟨?_,cS _ (h.m i a b).2⟩,cS _ h.nck⟩
 ·have:=h.cnt;grind [I7]
 ·rw [aH _ (by omega)];exact(h.a i a b).1
 ·rw [aH _ (by omega)];exact(h.m i a b).1
theorem Bhc {c lo hi:Nat}{os:List Nat}{ob:OL}(h:Cn c ob)(hh:hi<=CK):Cn c (A1 lo hi os ob):=by
 have fV:DB=1000000000000000000:=rfl;have bI:CK=900000000000000000:=rfl;have aB:KT=18446744073709551616:=G1;have h0:∀k,hi<=k%KT->get (A1 lo hi os ob) k=get ob k:=λ k hk=>by rw [C4,B6l (.inr (.inl hk))]
 refine⟨?_,h.le,λ i a b=>⟨?_,H4 (h.a i a b).2⟩,λ i a b=>⟨?_,H4 (h.m i a b).2⟩,H4 h.nck⟩
 ·have:=h.cnt;grind [I7]
 ·rw [h0 _ (by rw [(Afv b).1];omega)];exact(h.a i a b).1
 ·rw [h0 _ (by rw [(Afv b).2];omega)];exact(h.m i a b).1
theorem F6.keep {hk:Nat}{wm cm:Option Nat}{qs:List HQ}{cs:List HC}{n:Int}{c lo hi:Nat}{os:List Nat}{ob:OL}(h:F6 hk wm cm qs cs n c ob)(hh:hk%KT<lo\/hi<=hk%KT\/hk∈os)(mX:hi<=CK)(hc:c<=1000000000):F6 hk wm cm qs cs n c (A1 lo hi os ob):=by
 have fV:DB=1000000000000000000:=rfl;have bI:CK=900000000000000000:=rfl;have hm:∀k,MK+DB<=k->k<MK+DB+c->get (A1 lo hi os ob) k=get ob k:=λ k h1 h2=>by
  obtain⟨i,rfl⟩:∃i,k=MK+DB+i:=⟨k-(MK+DB),by omega⟩
  rw [C4,B6l (.inr (.inl (by rw [(Afv (n:=i) (by omega)).2];omega)))]
 have hd:∀k,DB<=k->k<DB+c->get (A1 lo hi os ob) k=get ob k:=λ k h1 h2=>by
  obtain⟨i,rfl⟩:∃i,k=DB+i:=⟨k-DB,by omega⟩
  rw [C4,B6l (.inr (.inl (by rw [(Afv (n:=i) (by omega)).1];omega)))]
 refine⟨by rw [C4,B6l hh];exact h.hall,?_,?_,h.wk,h.ck,h.wc,λ e he=> ?_,h.qb,h.qy,h.qk,h.cb,h.cd,h.hb⟩
 ·obtain⟨z,h1,h2⟩:=h.wz;refine⟨z,?_,h2⟩;cases hw:wm with
  |none=>rw [hw]at h1;exact h1
  |some k=>rw [hw]at h1;have:=h.wk k hw;simp only [S4]at h1 ⊢;rw [hm k this.1 this.2];exact h1
 ·obtain⟨z,h1,h2⟩:=h.cz;refine⟨z,?_,h2⟩;cases hw:cm with
  |none=>rw [hw]at h1;exact h1
  |some k=>rw [hw]at h1;have:=h.ck k hw;simp only [S4]at h1 ⊢;rw [hm k this.1 this.2];exact h1
 ·obtain⟨h1,h2,h3,h4⟩:=h.q e he;grind
theorem Stp.drop {O O':Nat->Prop}{c c' f k0:Nat}{o:Obj}{os:List Nat}{ob aR:OL}(h:Stp O O' c c' ((k0,o)::ob) aR)(hO:U7 [f] ob)(hf:f<1000000)(hk:1000*f<=k0/\k0<1000*f+1000)(hn:∀k,B5 k o.rows=true)(hO0:∀k,O k->M5 [f] k=false)(hc:c'<=1000000000)(tZ:k0∉os)(hos2:∀k∈os,k<KT):
  Stp O O' c c' ob (A1 (1000*f) (1000*f+1000) os aR)/\Kf (1000*f) (1000*f+1000) (A1 (1000*f) (1000*f+1000) os aR)/\U7 [f] (A1 (1000*f) (1000*f+1000) os aR):=by
 have fV:DB=1000000000000000000:=rfl;have bI:CK=900000000000000000:=rfl;have aB:KT=18446744073709551616:=G1;have aP:∀k,M5 [f] k=true↔1000*f<=k%KT/\k%KT<1000*f+1000:=λ k=>by
  simp only [M5,B63,B6x,B6o];omega
 have rI:k0%KT=k0:=B74 (by omega)
 have bT:∀k,New c c' k->M5 [f] k=false:=λ k hk=>by
  rcases hk with ⟨i,_,h2,rfl⟩|⟨i,_,h2,rfl⟩
  ·exact(Ajc (fs:=[f]) (by simpa using hf) (n:=i) (by omega)).1
  ·exact(Ajc (fs:=[f]) (by simpa using hf) (n:=i) (by omega)).2.1
 have hCK:M5 [f] CK=false:=(Ajc (fs:=[f]) (by simpa using hf) (n:=0) (by omega)).2.2
 have hg:∀k,M5 [f] k=true->k≠k0->get aR k=none:=λ k hk aH=>by
  rw [h.fr k (λ h=>by rw [hO0 k h]at hk;simp at hk) (λ h=>by rw [bT k h]at hk;simp at hk) (by rintro rfl;rw [hCK]at hk;simp at hk)]
  simp only [Go.Am.get];rw [B6j (B6i aH),hO.none hk]
 have cT:∀k,M5 [f] k=true->get (A1 (1000*f) (1000*f+1000) os aR) k=none:=λ k hk=>by
  rw [C4];split
  ·by_cases he:k=k0
   ·subst he;rename_i hc;exfalso;rcases hc with h1|h1|h1
    ·omega
    ·omega
    ·exact tZ h1
   ·exact hg k hk he
  ·rfl
 have memN:∀{l:OL}{p:Nat×Obj},p∈l->get l p.1≠none:=by
  intro l
  induction l with
  |nil=>intro p h;simp at h
  |cons q l ih=>
   intro p h;simp only [Go.Am.get];split
   ·simp
   ·rcases B6r.1 h with rfl|h
    ·rename_i aH;exact absurd rfl aH
    ·exact ih h
 have yS:∀k,¬New c c' k->B8 k ob=true->B8 k (A1 (1000*f) (1000*f+1000) os aR)=true:=λ k hk h1=>H4 (h.nm k hk (by simp only [B8,hn,h1,B64]))
 have sT:U7 [f] (A1 (1000*f) (1000*f+1000) os aR):=λ p hp=>by
  refine⟨?_,λ r hr v hv k hk=> ?_⟩
  ·cases jG:M5 [f] p.1 with
   |false=>rfl
   |true=>exact absurd (cT p.1 jG) (memN hp)
  ·have h1:=yS k (λ h=>by rw [bT k h]at hk;simp at hk) (hO.nm hk)
   exact A5.1 (C8.1 h1 p hp) r hr v hv
 refine⟨⟨λ k a1 a2 a3=> ?_,h.own,λ fs hfs cW=> ?_,yS,λ nV=> ?_⟩,sT.kf (by simp),sT⟩
 ·cases bG:M5 [f] k with
  |true=>rw [cT k bG,hO.none bG]
  |false=>
   have aH:k≠k0:=by
    rintro rfl;have:=(aP k).2 (by rw [rI];exact hk)
    rw [bG]at this;simp at this
   have hc:k%KT<1000*f\/1000*f+1000<=k%KT:=by
    rcases B7f (k%KT) (1000*f)with h1|h1
    ·exact .inl h1
    ·refine .inr (Nat.not_lt.1 λ h2=> ?_)
     have:=(aP k).2 ⟨h1,h2⟩;rw [bG]at this;simp at this
   rw [C4,B6l (hc.imp id .inl),h.fr k a1 a2 a3];simp only [Go.Am.get];rw [B6j (B6i aH)]
 ·
  have lF:U7 (fs.filter (· !=f)) ((k0,o)::ob):=by
   refine Ae0.2 ⟨?_,λ j _=>hn j,cW.mono λ g hg=>(B7c.1 hg).1⟩
   simp only [M5,B63,B7k,B7c,not_and];intro _ aH;have:k0%KT/1000=f:=by omega
   exact absurd this (by simpa using aH)
  have h2:=h.no _ (λ g hg=>hfs g (B7c.1 hg).1) lF
  intro p hp;obtain⟨q1,q2⟩:=h2 p (X8 hp);obtain⟨q3,q4⟩:=sT p hp;have oE:∀k,M5 fs k=true->M5 (fs.filter (· !=f)) k=true\/M5 [f] k=true:=λ k hk=>by
   simp only [M5,B63,B6o,B7c,B6x]at hk ⊢;by_cases he:k%KT/1000=f
   ·exact .inr he
   ·exact .inl ⟨hk,by simpa using he⟩
  refine⟨?_,λ r hr v hv k hk=>(oE k hk).elim (q2 r hr v hv k) (q4 r hr v hv k)⟩
  cases jG:M5 fs p.1 with
  |false=>rfl
  |true=>rcases oE _ jG with h|h<;>simp_all
 ·exact Bhc (h.cn (Bwt nV (by omega) hn)) (by omega)
theorem A35 {lo hi:Nat}{ob:OL}(h:Kf lo hi ob):A1 lo hi [] ob=ob:=h []
theorem A36 {hk:Nat}{wm cm:Option Nat}{qs:List HQ}{cs:List HC}{n:Int}{c:Nat}{ob:OL}(h:F6 hk wm cm qs cs n c ob):Aqa hk ob=some (wm,qs):=by
 have hh:=h.hall;obtain⟨z,hz,_⟩:=h.wz;unfold Aqa;cases hw:wm with
 |none=>
  rw [hw]at hh hz;have:qs=[]:=by simpa [S4]using hz
  simp only [hh,M4,this]
 |some K=>
  rw [hw]at hh hz;have hz:get ob K=some ⟨z,qs.map HQ.row⟩:=hz;simp only [hh,M4,hz,Bah λ e he=>(h.q e he).1,B7h]
theorem Ayg {hk key:Nat}{wm cm:Option Nat}{qs:List HQ}{cs:List HC}{n:Int}{c:Nat}{ob:OL}(h:F6 hk wm cm qs cs n c ob)(aH:¬hk=key):Ahv key hk ob=some cs:=by
 have hh:=h.hall;obtain⟨z,hz,_⟩:=h.cz;unfold Ahv;rw [B6j aH];cases hw:cm with
 |none=>
  rw [hw]at hh hz;have:cs=[]:=by simpa [S4]using hz
  simp only [hh,M4,this]
 |some K=>
  rw [hw]at hh hz;have hz:get ob K=some ⟨z,cs.map HC.row⟩:=hz;simp only [hh,M4,hz,Azg]
theorem Bwu {hk:Nat}{wm cm:Option Nat}{qs:List HQ}{cs:List HC}{n:Int}{c:Nat}{gs:FL}{ob:OL}(h:F6 hk wm cm qs cs n c ob)(hO:U7 [514] ob)(hF:NoF [514] gs)(hl:(J3 qs).length<=200000)(fB:qs.length<=200000)(hn:Y7 Avn ((J3 qs).map w4L)=true){R:List W4}(hR:Ai2 Avn ((J3 qs).map w4L)=R.map w4L):
  Al8 Ajw ⟨(0,.loc hk 0 0)::gs,ob⟩=some ([.c (.vs 4 (R.map U8))],ob):=by
 have bG:=A35 (hO.kf (f:=514) (by simp))
 have aF:R.length=(J3 qs).length:=by
  have:=(Ad8 (lt:=Avn) (W3 _) ((J3 qs).map w4L)).length_eq;rw [hR]at this;simpa using this
 have n3:K4 514003 ((0,.loc hk 0 0)::gs)=true:=by
  have h1:=hF.nm (k:=514003) (by decide)
  have h2:=Aba hO h (k:=514003) (by decide)
  grind [K4,K2]
 have ni:K4 2923003274661805836407369665432566039311865599962 ((0,.loc hk 0 0)::gs)=true:=by
  have h1:=hF.nm (k:=2923003274661805836407369665432566039311865599962) (by decide)
  have h2:=Aba hO h (k:=2923003274661805836407369665432566039311865599962) (by decide)
  grind [K4,K2]
 have hq:A7g ⟨(0,.loc hk 0 0)::gs,ob⟩=some qs:=by
  simp only [A7g,Go.Am.get,B68,obW,bG,A36 h,B7h]
 have hw:Ajw ⟨(0,.loc hk 0 0)::gs,ob⟩=some ([.sl 514003 (J3 qs).length 0 (J3 qs).length],(514003,⟨4,(Ai2 Avn ((J3 qs).map w4L)).map Ai4⟩)::ob):=by
  unfold Ajw;rw [hq];have hb:=J1.2 h.qb;have o3:=hO.nm (k:=514003) (by decide)
  have oi:=hO.nm (k:=2923003274661805836407369665432566039311865599962) (by decide)
  simp only [hb,hl,fB,hn,Azi,obW,bG,n3,ni,o3,oi,decide_true,B64,B68]
 unfold Al8;rw [hw,hR,<-Bqf,<-aF];have hall:F7 (R.map w4R)=some (R.map U8):=G7 U8 R;have d3:=hO.del (k:=514003) (by decide)
 have aY:List.take R.length (R.map U8)=R.map U8:=B6y (by simp)
 simp [St.frzs,St.frz,St.view,Go.Am.get,hall,kill,Am.del,d3,aY]
theorem Bqi {hk:Nat}{wm cm:Option Nat}{qs:List HQ}{cs:List HC}{n:Int}{c:Nat}{gs:FL}{ob:OL}(h:F6 hk wm cm qs cs n c ob)(hO:U7 [516] ob)(hF:NoF [516] gs)(hl:cs.length<=200000)(hn:Y7 (ltN cs) (cs.map cL)=true){R:List K3}(hR:Avo cs cs=R.map λ k=>A4 (U5 k))(oP:R.length=cs.length):
  Al8 Aen ⟨(0,.loc hk 0 0)::gs,ob⟩=some ([.c (.vs 3 (R.map U5))],ob):=by
 have mE:=hO.kf (f:=516) (by simp)
 have bG:=A35 mE;have xT:A0u 516000 517000 ob=true:=B6q.2 λ p hp=>by
  grind [Af4]
 have hq:Ayc ⟨(0,.loc hk 0 0)::gs,ob⟩=some cs:=by
  simp only [Ayc,Go.Am.get,B68,obC,bG,Ayg h (Aba hO h (k:=516003) (by decide))]
 have hs:Al7 ⟨(0,.loc hk 0 0)::gs,ob⟩=true:=by
  simp only [Al7,B6h,xT,B7w,B6q,obC,bG];have aP:∀k∈By2,M5 [516] k=true:=by decide
  intro k hk;refine⟨?_,hO.nm (aP k hk)⟩;have h2:=Aba hO h (aP k hk);simp only [K4,hF.nm (aP k hk),K2,B8m];simp [h2]
 have hw:Aen ⟨(0,.loc hk 0 0)::gs,ob⟩=some ([.sl 516005 cs.length 0 cs.length],(516005,⟨3,Avo cs cs⟩)::ob):=by
  unfold Aen;rw [hq];have hb:=J1.2 h.cb;simp only [hb,hl,hn,hs,obC,bG,decide_true,B64,B68]
 unfold Al8;rw [hw,hR,<-oP];have hall:F7 (R.map λ k=>A4 (U5 k))=some (R.map U5):=G7 U5 R
 have d3:=hO.del (k:=516005) (by decide)
 have aY:List.take R.length (R.map U5)=R.map U5:=B6y (by simp)
 generalize R.map (λ k=>A4 (U5 k))=LR at*
 have hlr:LR.length=R.length:=by
  have:∀{r:O4}{d:List (List D)},F7 r=some d->r.length=d.length:=by
   intro r
   induction r with
   |nil=>intro d h;simp only [F7,B6g]at h;subst h;rfl
   |cons x r ih=>
    grind [F7]
  rw [this hall];simp
 simp [St.frzs,St.frz,St.view,Go.Am.get,hall,kill,Am.del,d3,aY,hlr]
theorem Bqj {hk:Nat}{wm cm:Option Nat}{qs:List HQ}{cs:List HC}{n car dir:Int}{c:Nat}{gs:FL}{ob:OL}(h:F6 hk wm cm qs cs n c ob)(hO:U7 [518] ob)(hF:NoF [518] gs)(hl:cs.length<=200000)(fB:qs.length<=200000):
  Ab2 ⟨(0,.loc hk 0 0)::(1,i64 car)::(2,i64 dir)::gs,ob⟩=some ([E0 (B4 (Aeo car dir cs++Ada car dir qs))],ob):=by
 have mE:=hO.kf (f:=518) (by simp)
 have xT:A0u 518000 519000 ob=true:=B6q.2 λ p hp=>by
  grind [Af4]
 have hq:Ars ⟨(0,.loc hk 0 0)::(1,i64 car)::(2,i64 dir)::gs,ob⟩=some (car,dir,cs,qs):=by
  have e1:=Ayg h (Aba hO h (k:=518006) (by decide))
  have e2:=A36 h;simp [Ars,Go.Am.get,e1,e2]
 have hs:Ahb ⟨(0,.loc hk 0 0)::(1,i64 car)::(2,i64 dir)::gs,ob⟩=true:=by
  simp only [Ahb,B6h,xT,B7w,B6q];have aP:∀k∈Bhb,M5 [518] k=true:=by decide
  intro k hk;refine⟨?_,hO.nm (aP k hk)⟩;have h2:=Aba hO h (aP k hk);simp only [K4,hF.nm (aP k hk),K2,Aa6,B8m];simp [h2]
 unfold Ab2;rw [hq];have hb:=J1.2 h.qb;have iB:=J1.2 h.cb;simp only [hb,iB,hl,fB,hs,decide_true,B64,B68]
def NmS (fs:List Nat)(v:AV):Prop:=∀k,M5 fs k=true->v.names k=false
theorem E9 (fs:List Nat)(d:D):NmS fs (.c d):=Bt3
theorem D8 (fs:List Nat)(ds:List D):NmS fs (.agg ds):=A6j
theorem D3 (fs:List Nat)(j a b:Nat)(h:M5 fs j=false):NmS fs (.loc j a b):=Ajd h
theorem W5 (fs:List Nat):NmS fs (.tup []):=λ k hk=>by simp
theorem N3 (fs:List Nat)(z:Nat):NmS fs (.nil z):=λ k hk=>by simp
theorem B0a (fs:List Nat)(x:Oth):NmS fs (.ot x):=λ k hk=>by simp
theorem K5 {fs:List Nat}{i:Nat}{v:AV}{gs:FL}:NoF fs ((i,v)::gs)↔100000<=i/\NmS fs v/\NoF fs gs:=Aze
structure XS where
 l:List W4
 cs:List K3
 came:Int
def tri (e:HC):K3:=(e.f,e.d,e.c)
structure Rl (x:XS)(qs:List HQ)(cs:List HC)(n:Int):Prop where
 wt:∀k,L7 qs k=x.l.filter λ w=>decide (N0 w=k)
 ids:x.l.Pairwise λ a b=>a.1<b.1
 idl:∀w∈x.l,w.1<x.came
 cl:cs.map tri=x.cs
 ns:cs.Pairwise λ a b=>a.n<b.n
 nl:∀e∈cs,e.n<=n
theorem Bhd {lt:List Int->List Int->Bool}(hO:SWO lt){s l:List (List Int)}(hs:s.Pairwise λ a b=>lt a b=true)(hp:s.Perm l):Y7 lt l=true/\Ai2 lt l=s:=by
 have tot:∀x∈s,∀y∈s,lt x y=true\/lt y x=true\/x=y:=by
  induction s generalizing l with
  |nil=>intro x hx;simp at hx
  |cons a s ih=>
   have h1:=B9j.1 hs;intro x hx y hy;rcases B6r.1 hx with rfl|kN
   ·rcases B6r.1 hy with rfl|uZ
    ·exact .inr (.inr rfl)
    ·exact .inl (h1.1 y uZ)
   ·rcases B6r.1 hy with rfl|uZ
    ·exact .inr (.inl (h1.1 x kN))
    ·exact ih (l:=s) h1.2 (.refl _) x kN y uZ
 have hn:Y7 lt l=true:=by
  unfold Y7;rw [B6q];intro x hx;rw [B6q];intro y hy;rcases tot x (hp.mem_iff.2 hx) y (hp.mem_iff.2 hy)with h|h|h
  ·simp [h]
  ·simp [h]
  ·simp [h]
 refine⟨hn,?_⟩;refine Abk hO (A8u hO l) (hs.imp λ h=>Bae hO h) ((Ad8 hO l).trans hp.symm) λ x hx y hy h1 h2=> ?_
 have kN:=hp.mem_iff.2 ((Ad8 hO l).mem_iff.1 hx);have uZ:=hp.mem_iff.2 ((Ad8 hO l).mem_iff.1 hy);rcases tot x kN y uZ with h|h|h
 ·rw [h1]at h;simp at h
 ·rw [h2]at h;simp at h
 ·exact h
theorem As1 {qs:List HQ}(hk:(qs.map (·.k)).Nodup){e:HQ}(he:e∈qs):L7 qs e.k=e.l:=by
 induction qs with
 |nil=>simp at he
 |cons x qs ih=>
  grind [List.nodup_cons,L7]
theorem Bal {qs:List HQ}{k:K3}(h:L7 qs k≠[]):∃e∈qs,e.k=k:=by
 induction qs with
 |nil=>exact absurd rfl h
 |cons x qs ih=>
  grind [L7]
theorem Bam :∀(qs:List HQ)(l:List W4),(∀w∈l,∃e∈qs,e.k=N0 w)->(∀e∈qs,e.l=l.filter λ w=>decide (N0 w=e.k))->(qs.map (·.k)).Nodup->l.Perm (J3 qs)
 |[],l,h1,_,_=>by
  cases l with
  |nil=>simp [J3]
  |cons w l=>obtain⟨e,he,_⟩:=h1 w (by simp);simp at he
 |e::qs,l,h1,h2,h3=>by
  rw [B6v,B83]at h3;have qN:l.Perm ((l.filter λ w=>decide (N0 w=e.k))++l.filter λ w=> !decide (N0 w=e.k)):=(List.filter_append_perm _ l).symm
  have ih:=Bam qs (l.filter λ w=> !decide (N0 w=e.k)) (λ w hw=>by
   obtain⟨hw,aH⟩:=B7c.1 hw;obtain⟨f,hf,hk⟩:=h1 w hw;rcases B6r.1 hf with rfl|hf
   ·simp [hk]at aH
   ·exact⟨f,hf,hk⟩) (λ f hf=>by
   rw [h2 f (B7g _ hf),List.filter_filter];refine B80 λ w hw=> ?_
   by_cases hk:N0 w=f.k
   ·have:¬N0 w=e.k:=λ he=>h3.1 (B6z.2 ⟨f,hf,by rw [<-hk,he]⟩)
    simp [hk];intro h;exact this (by rw [hk,h])
   ·simp [hk]) h3.2
  grind
theorem Rl.perm {x:XS}{qs:List HQ}{cs:List HC}{n:Int}(h:Rl x qs cs n)(hk:(qs.map (·.k)).Nodup):x.l.Perm (J3 qs):=by
 refine Bam qs x.l (λ w hw=> ?_) (λ e he=> ?_) hk
 ·refine Bal λ h0=> ?_
  rw [h.wt]at h0;grind [List.filter_eq_nil_iff]
 ·rw [<-As1 hk he,h.wt]
theorem Bs4 {qs:List HQ}(h:∀e∈qs,e.l≠[]):qs.length<=(J3 qs).length:=by
 induction qs with
 |nil=>simp
 |cons e qs ih=>
  grind [List.mem_cons_of_mem,List.length_pos_iff,List.length_append,List.length_cons]
theorem Rl.sorted {x:XS}{qs:List HQ}{cs:List HC}{n:Int}(h:Rl x qs cs n)(hk:(qs.map (·.k)).Nodup):Y7 Avn ((J3 qs).map w4L)=true/\Ai2 Avn ((J3 qs).map w4L)=x.l.map w4L:=by
 refine Bhd (W3 _) ?_ ((h.perm hk).map w4L);rw [List.pairwise_map];refine h.ids.imp λ {a b} eP=> ?_
 show ltOf (λ(x y:List Int)=>Lib.compareInt (x.getD 0 0) (y.getD 0 0)) _ _=true
 rw [Ag9];simpa [w4L]using eP
theorem Bdc {cs:List HC}(hd:(cs.map λ e=>(e.f,e.d)).Nodup){e:HC}(he:e∈cs)(i:Nat):∃j,P5 cs e.f e.d i=some (j,e):=by
 induction cs generalizing i with
 |nil=>simp at he
 |cons x cs ih=>
  rw [B6v,B83]at hd;simp only [P5];rcases B6r.1 he with rfl|he
  ·exact⟨i,by rw [B6l ⟨rfl,rfl⟩]⟩
  ·rw [B6j (λ h=>hd.1 (B6z.2 ⟨e,he,by rw [h.1,h.2]⟩))]
   exact ih hd.2 he (i+1)
theorem Azm {cs:List HC}(hd:(cs.map λ e=>(e.f,e.d)).Nodup){e:HC}(he:e∈cs):nOf cs (cL e)=e.n/\cOf cs (cL e)=e.c:=by
 obtain⟨j,hj⟩:=Bdc hd he 0;grind [cL,nOf,cOf]
theorem Rl.calls {x:XS}{qs:List HQ}{cs:List HC}{n:Int}(h:Rl x qs cs n)(hd:(cs.map λ e=>(e.f,e.d)).Nodup):Y7 (ltN cs) (cs.map cL)=true/\Avo cs cs=x.cs.map λ k=>A4 (U5 k):=by
 have hp:(cs.map cL).Pairwise λ a b=>ltN cs a b=true:=by
  rw [List.pairwise_map];refine(List.Pairwise.and_mem.1 h.ns).imp λ {a b} eP=> ?_
  obtain⟨ha,hb,aC⟩:=eP
  show ltOf (λ x y=>Lib.compareInt (nOf cs x) (nOf cs y)) _ _=true
  rw [Ag9,(Azm hd ha).1,(Azm hd hb).1];simpa using aC
 obtain⟨h1,h2⟩:=Bhd (lt:=ltN cs) (W3 _) hp (.refl _);refine⟨h1,?_⟩;unfold Avo;rw [h2,<-h.cl,B8c,B8c];refine List.map_congr_left λ e he=> ?_
 simp only [Function.comp,(Azm hd he).2,tri,U5,A4,B6v,B8a];rfl
theorem Bqk (car dir:Int)(cs:List HC):Aeo car dir cs=S8 car dir (cs.map tri):=by
 unfold Aeo S8;rw [List.filter_map,B8c];rfl
theorem Rl.lands {x:XS}{qs:List HQ}{cs:List HC}{n:Int}(h:Rl x qs cs n)(hk:(qs.map (·.k)).Nodup)(aH:∀e∈qs,e.l≠[])(car dir:Int):B4 (Aeo car dir cs++Ada car dir qs)=B4 (S8 car dir x.cs++T7 car dir x.l):=by
 rw [Bqk,h.cl];have hm:∀m:Int,m∈Ada car dir qs↔m∈T7 car dir x.l:=by
  intro m;unfold Ada T7;simp only [B6z,B7c,B6h,B6o];constructor
  ·rintro⟨e,⟨he,⟨h1,h2⟩,h3⟩,rfl⟩;have hl:=As1 hk he;rw [h.wt]at hl;obtain⟨w,hw⟩:=List.exists_mem_of_ne_nil _ (aH e he);grind [N0]
  ·rintro⟨w,⟨hw,⟨h1,h3⟩,h2⟩,rfl⟩;obtain⟨e,he,lM⟩:=Bal (qs:=qs) (k:=N0 w) λ h0=>by
    rw [h.wt]at h0;grind [List.filter_eq_nil_iff]
   refine⟨e,⟨he,⟨?_,?_⟩,h3⟩,?_⟩
   ·rw [lM];exact h1
   ·rw [lM];exact h2
   ·rw [lM];rfl
 funext m;unfold B4;rw [List.any_append,List.any_append];congr 1;rw [Bool.eq_iff_iff,B9g,B9g];exact⟨λ⟨y,hy,he⟩=>⟨y,(hm y).1 hy,he⟩,λ⟨y,hy,he⟩=>⟨y,(hm y).2 hy,he⟩⟩
theorem F6.congr {hk:Nat}{wm cm:Option Nat}{qs:List HQ}{cs:List HC}{n:Int}{c:Nat}{ob aA:OL}(h:F6 hk wm cm qs cs n c ob)(he:∀k,Ael hk wm cm qs k->get aA k=get ob k):F6 hk wm cm qs cs n c aA:=by
 refine⟨by rw [he hk (.inl rfl)];exact h.hall,?_,?_,h.wk,h.ck,h.wc,λ e hm=> ?_,h.qb,h.qy,h.qk,h.cb,h.cd,h.hb⟩
 ·obtain⟨z,h1,h2⟩:=h.wz;refine⟨z,?_,h2⟩;cases hw:wm with
  |none=>rw [hw]at h1;exact h1
  |some k=>rw [hw]at h1;simp only [S4]at h1 ⊢;rw [he k (.inr (.inl hw))];exact h1
 ·obtain⟨z,h1,h2⟩:=h.cz;refine⟨z,?_,h2⟩;cases hw:cm with
  |none=>rw [hw]at h1;exact h1
  |some k=>rw [hw]at h1;simp only [S4]at h1 ⊢;rw [he k (.inr (.inr (.inl hw)))];exact h1
 ·obtain⟨h1,h2⟩:=h.q e hm;exact⟨by rw [he e.ky (.inr (.inr (.inr ⟨e,hm,rfl⟩)))];exact h1,h2⟩
theorem F6.own_big {hk:Nat}{wm cm:Option Nat}{qs:List HQ}{cs:List HC}{n:Int}{c:Nat}{ob:OL}(h:F6 hk wm cm qs cs n c ob)(hc:c<=1000000000){k:Nat}(aN:Ael hk wm cm qs k):k=hk\/(CK<k%KT/\CK<k):=by
 have fV:DB=1000000000000000000:=rfl;have bI:CK=900000000000000000:=rfl;have hm:∀k,MK+DB<=k->k<MK+DB+c->CK<k%KT/\CK<k:=λ k h1 h2=>by
  obtain⟨i,rfl⟩:∃i,k=MK+DB+i:=⟨k-(MK+DB),by omega⟩
  rw [(Afv (n:=i) (by omega)).2];omega
 rcases aN with h1|h1|h1|⟨e,he,rfl⟩
 ·exact .inl h1
 ·have:=h.wk k h1;exact .inr (hm k this.1 this.2)
 ·have:=h.ck k h1;exact .inr (hm k this.1 this.2)
 ·obtain⟨_,h2,h3,_⟩:=h.q e he;obtain⟨i,hi⟩:∃i,e.ky=DB+i:=⟨e.ky-DB,by omega⟩
  rw [hi,(Afv (n:=i) (by omega)).1]
  exact .inr (by omega)
def HW (hk:Nat)(ws:List W4)(ks:List K3)(b:Nat)(ob:OL):Prop:=∃wm cm qs cs n c came,F6 hk wm cm qs cs n c ob/\Rl ⟨ws,ks,came⟩ qs cs n/\0<=n/\n<=b/\c<=b/\Cn c ob/\∀w∈ws,SmW w
def Sm (k:Nat):Prop:=k%KT<1000000000
structure Fw (S:Nat->Prop)(ob aA:OL):Prop where
 fr:∀k,Sm k->¬S k->get aA k=get ob k
 no:∀fs,(∀f∈fs,f<1000000)->U7 fs ob->U7 fs aA
 nm:∀k,Sm k->¬S k->B8 k ob=true->B8 k aA=true
abbrev Fm (hk:Nat)(ob aA:OL):Prop:=Fw (λ k=>k=hk) ob aA
theorem Fw.refl (S:Nat->Prop)(ob:OL):Fw S ob ob:=⟨λ _ _ _=>rfl,λ _ _ h=>h,λ _ _ _ h=>h⟩
theorem Fw.trans {S:Nat->Prop}{a b c:OL}(h1:Fw S a b)(h2:Fw S b c):Fw S a c:=
 ⟨λ k x y=>(h2.fr k x y).trans (h1.fr k x y),λ fs x y=>h2.no fs x (h1.no fs x y),λ k x y z=>h2.nm k x y (h1.nm k x y z)⟩
theorem Fw.mono {S S':Nat->Prop}{a b:OL}(h:Fw S a b)(hs:∀k,S k->S' k):Fw S' a b:=⟨λ k x y=>h.fr k x λ z=>y (hs k z),h.no,λ k x y=>h.nm k x λ z=>y (hs k z)⟩
theorem Bfk {c c' k:Nat}(h:New c c' k)(hc:c'<=1000000000)(hs:Sm k):False:=by
 have fV:DB=1000000000000000000:=rfl;unfold Sm at hs;rcases h with ⟨i,_,h2,rfl⟩|⟨i,_,h2,rfl⟩
 ·rw [(Afv (n:=i) (by omega)).1]at hs;omega
 ·rw [(Afv (n:=i) (by omega)).2]at hs;omega
theorem F6.own_sm {hk:Nat}{wm cm:Option Nat}{qs:List HQ}{cs:List HC}{n:Int}{c:Nat}{ob:OL}(h:F6 hk wm cm qs cs n c ob)(hc:c<=1000000000){k:Nat}(aN:Ael hk wm cm qs k)(hs:Sm k):k=hk:=by
 have fV:DB=1000000000000000000:=rfl;have key:∀i,i<c->(k=DB+i\/k=MK+DB+i)->False:=λ i hi he=>Bfk (c:=0) (c':=c) (by rcases he with he|he;exact .inl ⟨i,by omega,hi,he⟩;exact .inr ⟨i,by omega,hi,he⟩) hc hs
 rcases aN with h1|h1|h1|⟨e,he,rfl⟩
 ·exact h1
 ·have:=h.wk _ h1;exact(key (k-(MK+DB)) (by omega) (.inr (by omega))).elim
 ·have:=h.ck _ h1;exact(key (k-(MK+DB)) (by omega) (.inr (by omega))).elim
 ·have:=(h.q e he).2;exact(key (e.ky-DB) (by omega) (.inl (by omega))).elim
theorem B2o :¬Sm CK:=by unfold Sm;decide
theorem Bmh {hk c c':Nat}{wm cm:Option Nat}{qs:List HQ}{cs:List HC}{n:Int}{O':Nat->Prop}{ob aA:OL}(h:F6 hk wm cm qs cs n c ob)(hs:Stp (Ael hk wm cm qs) O' c c' ob aA)(hc:c<=1000000000)(yT:c'<=1000000000):Fm hk ob aA:=
 ⟨λ k h1 h2=>hs.fr k (λ ho=>h2 (h.own_sm hc ho h1)) (λ hn=>Bfk hn yT h1) (by rintro rfl;exact B2o h1),hs.no,λ k h1 h2 h3=>hs.nm k (λ hn=>Bfk hn yT h1) h3⟩
def isW (k:K3)(w:W4):Bool:=decide (N0 w=k)
def T8 (f d:Int)(e:K3):Bool:=decide (e.1=f)&&decide (e.2.1=d)
theorem Acp {α:Type}(p:α->Bool):∀l:List α,(l.eraseP p).filter p=(l.filter p).tail
 |[]=>rfl
 |a::l=>by
  cases h:p a with
  |true=>rw [List.eraseP_cons_of_pos h,B8j h];rfl
  |false=>rw [List.eraseP_cons_of_neg (by simp [h]),B8b (by simp [h]),B8b (by simp [h]),Acp p l]
theorem Ah3 {α:Type}(p q:α->Bool)(h:∀a,p a=true->q a=false):∀l:List α,(l.eraseP p).filter q=l.filter q
 |[]=>rfl
 |a::l=>by
  cases hp:p a with
  |true=>rw [List.eraseP_cons_of_pos hp,B8b (by simp [h a hp])]
  |false=>
   rw [List.eraseP_cons_of_neg (by simp [hp])]
   cases hq:q a with
   |true=>rw [B8j hq,B8j hq,Ah3 p q h l]
   |false=>rw [B8b (by simp [hq]),B8b (by simp [hq]),Ah3 p q h l]
def By5 (g:PG):Prop:=∀(hk:Nat)(ws:List W4)(ks:List K3)(b:Nat)(k:K3) gs ob,HW hk ws ks b ob->U7 [521,524] ob->NoF [521,524] gs->
 ∃aA,g ⟨(0,.loc hk 0 0)::(1,.agg (U5 k))::gs,ob⟩=some ([.agg (U8 (lS (ws.filter (isW k)))),bo (decide (ws.filter (isW k)≠[]))],aA)/\HW hk (ws.eraseP (isW k)) ks b aA/\Fm hk ob aA
theorem B0b {g:PG}(h:Bt4 g):By5 g:=by
 rintro hk ws ks b k gs ob ⟨wm,cm,qs,cs,n,c,came,hH,hR,h0,hn,hc,hC,hS⟩ hO hF;obtain⟨dX,aA,e,jB,hw,hs⟩:=h hk wm cm qs cs n c k gs ob hO hF hH hC;have gY:=hR.wt k;refine⟨aA,?_,⟨wm,cm,dX,cs,n,c,came,jB,⟨λ k'=> ?_,hR.ids.sublist List.eraseP_sublist,λ w hw=>hR.idl w (List.eraseP_subset hw),hR.cl,hR.ns,hR.nl⟩,h0,hn,hc,hs.cn hC,λ w hw=>hS w (List.eraseP_subset hw)⟩,Bmh hH hs hC.le (hs.cn hC).le⟩
 ·rw [e,gY];rfl
 ·rw [hw k'];by_cases fM:k'=k
  ·subst fM;rw [B6l rfl,hR.wt];exact(Acp (isW k') ws).symm
  ·rw [B6j fM,hR.wt];grind [Ah3,isW,N0]
def B3g (g:PG):Prop:=∀(hk:Nat)(ws:List W4)(ks:List K3)(b:Nat)(k:K3) gs ob,HW hk ws ks b ob->U7 [525] ob->NoF [525] gs->
 g ⟨(0,.loc hk 0 0)::(1,.agg (U5 k))::gs,ob⟩=some ([i64 (ws.filter (isW k)).length],ob)
theorem B2p {g:PG}(h:B1f g):B3g g:=by
 rintro hk ws ks b k gs ob ⟨wm,cm,qs,cs,n,c,came,hH,hR,_⟩ hO hF;rw [h hk wm cm qs cs n c k gs ob hO hF hH,hR.wt k];rfl
theorem Aot {f d:Int}:∀{cs:List HC}{i:Nat},P5 cs f d i=none->(cs.map tri).any (T8 f d)=false
 |[],i,_=>rfl
 |e::cs,i,h=>by
  unfold P5 at h;split at h
  ·simp at h
  ·rename_i aH;simp only [B6v,List.any_cons,Aot h,Bool.or_false];unfold T8 tri;simp only [Bool.and_eq_false_iff,B7k];by_cases h1:e.f=f
   ·exact .inr λ h2=>aH ⟨h1,h2⟩
   ·exact .inl h1
theorem Aou {f d:Int}:∀{cs:List HC}{i j:Nat}{e:HC},P5 cs f d i=some (j,e)->(cs.map tri).any (T8 f d)=true/\i<=j/\(cs.eraseIdx (j-i)).map tri=(cs.map tri).eraseP (T8 f d)
 |[],i,j,e,h=>by simp [P5]at h
 |a::cs,i,j,e,h=>by
  unfold P5 at h;split at h
  ·rename_i hp;simp only [B6g,B6k]at h;obtain⟨rfl,rfl⟩:=h;grind [T8,tri,List.eraseP_cons_of_pos]
  ·rename_i aH;obtain⟨h1,h2,h3⟩:=Aou h;have hpa:¬T8 f d (tri a)=true:=by
    grind [T8,tri]
   refine⟨by simp [h1],by omega,?_⟩
   rw [show j-i=(j-(i+1))+1 by omega,List.eraseIdx_cons_succ,B6v,B6v,List.eraseP_cons_of_neg hpa,h3]
theorem Bhe (cs:List HC)(f d:Int):isC cs f d=(cs.map tri).any (T8 f d):=by
 unfold isC;cases h:P5 cs f d 0 with
 |none=>rw [Aot h];rfl
 |some p=>obtain⟨j,e⟩:=p;rw [(Aou h).1];rfl
theorem Bql (cs:List HC)(f d:Int):(Bmy cs f d).map tri=(cs.map tri).eraseP (T8 f d):=by
 unfold Bmy;cases h:P5 cs f d 0 with
 |none=>
  have:=Aot h;grind [List.eraseP_of_forall_not,List.any_eq_false]
 |some p=>obtain⟨j,e⟩:=p;exact(Aou h).2.2
theorem Ban (cs:List HC)(f d:Int):(Bmy cs f d).Sublist cs:=by
 grind [Bmy,List.eraseIdx_sublist]
def Bs5 (g:PG):Prop:=∀(hk:Nat)(ws:List W4)(ks:List K3)(b:Nat)(f d:Int) gs ob,HW hk ws ks b ob->U7 [511] ob->NoF [511] gs->
 ∃aA,g ⟨(0,.loc hk 0 0)::(1,i64 f)::(2,i64 d)::gs,ob⟩=some ([bo (ks.any (T8 f d))],aA)/\HW hk ws (ks.eraseP (T8 f d)) b aA/\Fm hk ob aA
theorem Bwv {g:PG}(h:Bfi g):Bs5 g:=by
 rintro hk ws ks b f d gs ob ⟨wm,cm,qs,cs,n,c,came,hH,hR,h0,hn,hc,hC,hS⟩ hO hF;obtain⟨aA,e,jB,hs⟩:=h hk wm cm qs cs n c f d gs ob hO hF hH hC;have fP:cs.map tri=ks:=hR.cl;refine⟨aA,?_,⟨wm,cm,qs,Bmy cs f d,n,c,came,jB,⟨hR.wt,hR.ids,hR.idl,?_,hR.ns.sublist (Ban cs f d),λ x hx=>hR.nl x ((Ban cs f d).subset hx)⟩,h0,hn,hc,hs.cn hC,hS⟩,Bmh hH hs hC.le (hs.cn hC).le⟩
 ·rw [e,Bhe,fP]
 ·rw [Bql,fP]
def SmG (gs:FL):Prop:=∀p∈gs,∀k,CK<=k->p.2.names k=false
theorem SmG.cf {gs:FL}(h:SmG gs)(c:Nat):Cf c gs:=by
 have fV:DB=1000000000000000000:=rfl;have bI:CK=900000000000000000:=rfl;exact⟨λ n _ _=>Alf.2 λ p hp=>h p hp _ (by omega),λ n _ _=>Alf.2 λ p hp=>h p hp _ (by omega),Alf.2 λ p hp=>h p hp _ (B6u _)⟩
def A2h (g:PG):Prop:=∀(hk:Nat)(ws:List W4)(ks:List K3)(b:Nat)(w:W4) gs ob,HW hk ws ks b ob->SmW w->(∀u∈ws,u.1<w.1)->ws.length<1000000->b+2<=1000000000->U7 [508] ob->NoF [508] gs->SmG gs->
 ∃aA,g ⟨(0,.loc hk 0 0)::(1,.agg (U8 w))::gs,ob⟩=some ([],aA)/\HW hk (ws++[w]) ks (b+2) aA/\Fm hk ob aA
theorem B0c {g:PG}(h:Bt1 g):A2h g:=by
 rintro hk ws ks b w gs ob ⟨wm,cm,qs,cs,n,c,came,hH,hR,h0,hn,hc,hC,hS⟩ hw iC hl hb hO hF hG;obtain⟨wm',dX,c',aA,e,hr⟩:=h w hk wm cm qs cs n c gs ob hw hO hF (hG.cf c) hC (by omega) hH λ e he=>by
  have h1:=As1 hH.qk he;rw [hR.wt]at h1;grind [Nat.lt_of_le_of_lt,List.length_filter_le]
 refine⟨aA,e,⟨wm',cm,dX,cs,n,c',w.1+1,hr.hall,⟨λ k=> ?_,?_,λ u hu=> ?_,hR.cl,hR.ns,hR.nl⟩,h0,by omega,by have:=hr.le.2;omega,hr.cn,λ u hu=> ?_⟩,Bmh hH hr.stp hC.le hr.cn.le⟩
 ·rw [hr.wt,hR.wt,B8i];grind [N0]
 ·exact List.pairwise_append.2 ⟨hR.ids,by simp,λ a ha b hb=>by simp only [B6x]at hb;subst hb;exact iC a ha⟩
 all_goals grind [List.mem_singleton]
def A7j (g:PG):Prop:=∀(hk:Nat)(ws:List W4)(ks:List K3)(b:Nat)(f d v:Int) gs ob,HW hk ws ks b ob->b+1<=1000000000->U7 [510] ob->NoF [510] gs->SmG gs->
 ∃aA,g ⟨(0,.loc hk 0 0)::(1,i64 f)::(2,i64 d)::(3,i64 v)::gs,ob⟩=some ([bo (!ks.any (T8 f d))],aA)/\HW hk ws (if ks.any (T8 f d)then ks else ks++[(f,d,v)]) (b+1) aA/\Fm hk ob aA
theorem B0d {g:PG}(h:Bt5 g):A7j g:=by
 rintro hk ws ks b f d v gs ob ⟨wm,cm,qs,cs,n,c,came,hH,hR,h0,hn,hc,hC,hS⟩ hb hO hF hG;obtain⟨cm',bS,n',c',aA,e,jB,l1,l2,hs,yU⟩:=h hk wm cm qs cs n c f d v gs ob hO hF (hG.cf c) hC (by omega) h0 (by omega) hH
 have fP:cs.map tri=ks:=hR.cl;have ha:isC cs f d=ks.any (T8 f d):=by rw [Bhe,fP]
 rw [ha]at e yU;refine⟨aA,e,?_,Bmh hH hs hC.le (hs.cn hC).le⟩;cases hx:ks.any (T8 f d)with
 |true=>
  rw [hx,B6l rfl]at yU;obtain⟨rfl,rfl⟩:=yU;exact⟨wm,cm',qs,bS,n',c',came,jB,hR,h0,by omega,by omega,hs.cn hC,hS⟩
 |false=>
  rw [hx,B6j (by simp)]at yU
  obtain⟨rfl,bb,rfl⟩:=yU;refine⟨wm,cm',qs,_,n+1,c',came,jB,⟨hR.wt,hR.ids,hR.idl,?_,?_,λ x hx=> ?_⟩,by omega,by omega,by omega,hs.cn hC,hS⟩
  ·rw [B60,fP];rfl
  ·exact List.pairwise_append.2 ⟨hR.ns,by simp,λ a ha b hb=>by
    simp only [B6x]at hb;subst hb;have:=hR.nl a ha
    show a.n<n+1
    omega⟩
  ·rcases B65.1 hx with hx|hx
   ·have:=hR.nl x hx;omega
   all_goals grind [List.mem_singleton]
def L2 (ws:List W4)(ks:List K3)(car dir:Int):Nat->Bool:=B4 (S8 car dir ks++T7 car dir ws)
def Bfl (g:PG):Prop:=∀(hk:Nat)(ws:List W4)(ks:List K3)(b:Nat)(car dir:Int) gs ob,HW hk ws ks b ob->ws.length<=1000->ks.length<=1000->U7 [518] ob->NoF [518] gs->
 g ⟨(0,.loc hk 0 0)::(1,i64 car)::(2,i64 dir)::gs,ob⟩=some ([E0 (L2 ws ks car dir)],ob)
theorem Bhf :Bfl Ab2:=by
 rintro hk ws ks b car dir gs ob ⟨wm,cm,qs,cs,n,c,came,hH,hR,_⟩ hw aN hO hF;have h1:=hR.perm hH.qk;have h2:=Bs4 λ e he=>(hH.q e he).2.2.2
 have h3:=h1.length_eq;have h4:cs.length=ks.length:=by have:=congrArg List.length hR.cl;simpa using this
 have h5:ws.length=(J3 qs).length:=h3;rw [Bqj hH hO hF (by omega) (by omega),hR.lands hH.qk (λ e he=>(hH.q e he).2.2.2)];rfl
def Bt8 (g:PG):Prop:=∀(hk:Nat)(ws:List W4)(ks:List K3)(b:Nat) gs ob,HW hk ws ks b ob->ws.length<=1000->U7 [514] ob->NoF [514] gs->
 g ⟨(0,.loc hk 0 0)::gs,ob⟩=some ([.c (.vs 4 (ws.map U8))],ob)
theorem B0e :Bt8 (Al8 Ajw):=by
 rintro hk ws ks b gs ob ⟨wm,cm,qs,cs,n,c,came,hH,hR,_⟩ hw hO hF;have h1:=hR.perm hH.qk;have h2:=Bs4 λ e he=>(hH.q e he).2.2.2
 have h3:ws.length=(J3 qs).length:=h1.length_eq;obtain⟨h4,h5⟩:=hR.sorted hH.qk;grind [Bwu]
def Bfm (g:PG):Prop:=∀(hk:Nat)(ws:List W4)(ks:List K3)(b:Nat) gs ob,HW hk ws ks b ob->ks.length<=1000->U7 [516] ob->NoF [516] gs->
 g ⟨(0,.loc hk 0 0)::gs,ob⟩=some ([.c (.vs 3 (ks.map U5))],ob)
theorem Bww :Bfm (Al8 Aen):=by
 rintro hk ws ks b gs ob ⟨wm,cm,qs,cs,n,c,came,hH,hR,_⟩ aN hO hF;obtain⟨h4,h5⟩:=hR.calls hH.cd;have h6:cs.length=ks.length:=by have:=congrArg List.length hR.cl;simpa using this
 grind [Bqi]
theorem F6.own_ck {hk:Nat}{wm cm:Option Nat}{qs:List HQ}{cs:List HC}{n:Int}{c:Nat}{ob:OL}(h:F6 hk wm cm qs cs n c ob){k:Nat}(aN:Ael hk wm cm qs k)(hs:k<CK):k=hk:=by
 have fV:DB=1000000000000000000:=rfl;have bI:CK=900000000000000000:=rfl;rcases aN with h1|h1|h1|⟨e,he,rfl⟩
 ·exact h1
 ·have:=h.wk _ h1;omega
 ·have:=h.ck _ h1;omega
 ·have:=(h.q e he).2.1;omega
structure Up (hk:Nat)(ob aA:OL):Prop where
 h:get aA hk=get ob hk
 b:∀k,CK<=k->get aA k=get ob k
 n:∀k,CK<=k->B8 k ob=true->B8 k aA=true
theorem Up.trans {hk:Nat}{a b c:OL}(h1:Up hk a b)(h2:Up hk b c):Up hk a c:=
 ⟨h2.h.trans h1.h,λ k hk=>(h2.b k hk).trans (h1.b k hk),λ k hk x=>h2.n k hk (h1.n k hk x)⟩
theorem HW.up {hk:Nat}{ws:List W4}{ks:List K3}{b:Nat}{ob aA:OL}(h:HW hk ws ks b ob)(hu:Up hk ob aA):HW hk ws ks b aA:=by
 obtain⟨wm,cm,qs,cs,n,c,came,hH,hR,h0,hn,hc,hC,hS⟩:=h;have fV:DB=1000000000000000000:=rfl;have bI:CK=900000000000000000:=rfl;refine⟨wm,cm,qs,cs,n,c,came,hH.congr λ k aN=> ?_,hR,h0,hn,hc,⟨?_,hC.le,λ i x y=> ?_,λ i x y=> ?_,hu.n _ (B6u _) hC.nck⟩,hS⟩
 ·rcases B7f k CK with h1|h1
  ·rw [hH.own_ck aN h1];exact hu.h
  ·exact hu.b k h1
 ·have:=hC.cnt;unfold I7 at this ⊢;rw [hu.b _ (B6u _)];exact this
 ·obtain⟨h1,h2⟩:=hC.a i x y;exact⟨by rw [hu.b _ (by omega)];exact h1,hu.n _ (by omega) h2⟩
 ·obtain⟨h1,h2⟩:=hC.m i x y;exact⟨by rw [hu.b _ (by omega)];exact h1,hu.n _ (by omega) h2⟩
def SmR (rows:O4):Prop:=∀k,CK<=k->B5 k rows=true
theorem Y8 {hk k0:Nat}{o:Obj}{ob:OL}(h1:k0≠hk)(h2:k0<CK)(h3:SmR o.rows):Up hk ob ((k0,o)::ob):=
 ⟨by simp only [Go.Am.get];rw [B6j h1],λ k hk=>by simp only [Go.Am.get];rw [B6j (by omega)],λ k hk h=>by simp only [B8,h3 k hk,h,B64]⟩
theorem A0w {hk k0:Nat}{o:Obj}{ob:OL}(h1:k0≠hk)(h2:k0<CK)(h3:SmR o.rows):Up hk ob ((k0,o)::del ob k0):=
 ⟨by simp only [Go.Am.get];rw [B6j h1,B3,B6j (B6i h1)],λ k hk=>by simp only [Go.Am.get];rw [B6j (by omega),B3,B6j (by omega)],λ k hk h=>by simp only [B8,h3 k hk,C3 h,B64]⟩
theorem A0x {k0:Nat}{o o0:Obj}{ob:OL}(hk:get ob k0=some o0){S:Nat->Prop}(hS:S k0)(hn:∀r∈o.rows,∀v∈r,∀j,v.names j=true->S j/\get ob j≠none):Fw S ob ((k0,o)::del ob k0):=by
 refine⟨λ k _ h=>by simp only [Go.Am.get];rw [B6j (by rintro rfl;exact h hS),B3,B6j (by rintro rfl;exact h hS)],λ fs hf hO=>Ae0.2 ⟨(hO _ (B0 hk)).1,λ j hj=>A5.2 λ r hr v hv=> ?_,Bg6 hO _⟩,λ k _ h hm=> ?_⟩
 ·cases hx:v.names j with
  |false=>rfl
  |true=>exact absurd (hO.none hj) (hn r hr v hv j hx).2
 all_goals grind [B8,C3,A5]
theorem Aje {l:OL}{p:Nat×Obj}(h:p∈l):get l p.1≠none:=by
 induction l with
 |nil=>simp at h
 |cons q l ih=>
  grind [Go.Am.get]
theorem Azn {L ob:OL}{k:Nat}(h:∀p∈L,p.1≠k):get (L++ob) k=get ob k:=by
 induction L with
 |nil=>rfl
 |cons p L ih=>
  grind [Go.Am.get,List.mem_cons_of_mem]
theorem A6l {fs:List Nat}{L ob:OL}(h1:U7 fs L)(h2:U7 fs ob):U7 fs (L++ob):=λ p hp=>(B65.1 hp).elim (h1 p) (h2 p)
theorem Aqv {k:Nat}{L ob:OL}(h1:B8 k L=true)(h2:B8 k ob=true):B8 k (L++ob)=true:=C8.2 λ p hp=>(B65.1 hp).elim (C8.1 h1 p) (C8.1 h2 p)
theorem Fw.drop {S:Nat->Prop}{f:Nat}{L ob aR:OL}{os:List Nat}(h:Fw S (L++ob) aR)(hO:U7 [f] ob)(hf:f<1000000)(hL:∀p∈L,1000*f<=p.1/\p.1<1000*f+1000)(hn:∀p∈L,∀r∈p.2.rows,∀v∈r,∀j,v.names j=true->S j/\get ob j≠none)
  (tZ:∀k∈os,∀p∈L,p.1≠k)(hS:∀k,S k->M5 [f] k=false):Fw S ob (A1 (1000*f) (1000*f+1000) os aR)/\U7 [f] (A1 (1000*f) (1000*f+1000) os aR):=by
 have aB:KT=18446744073709551616:=G1;have aP:∀k,M5 [f] k=true↔1000*f<=k%KT/\k%KT<1000*f+1000:=λ k=>by
  simp only [M5,B63,B6x,B6o];omega
 have gD:∀k,M5 [f] k=true->Sm k:=λ k hk=>Nat.lt_of_lt_of_le ((aP k).1 hk).2 (by omega)
 have yV:∀k,M5 [f] k=true->¬S k:=λ k hk hs=>by rw [hS k hs]at hk;simp at hk
 have hLR:∀p∈L,M5 [f] p.1=true:=λ p hp=>(aP _).2 (by have:=hL p hp;rw [aB];omega)
 have hLn:∀k,¬S k->B8 k L=true:=λ k hk=>C8.2 λ p hp=>A5.2 λ r hr v hv=>by
  cases hx:v.names k with
  |false=>rfl
  |true=>exact absurd (hn p hp r hr v hv k hx).1 hk
 have cT:∀k,M5 [f] k=true->get (A1 (1000*f) (1000*f+1000) os aR) k=none:=λ k hk=>by
  rw [C4];split
  ·rename_i hc;have h2:=(aP k).1 hk;rcases hc with h1|h1|h1
   ·omega
   ·omega
   ·rw [h.fr k (gD k hk) (yV k hk),Azn λ p hp=>tZ k h1 p hp,hO.none hk]
  ·rfl
 have cS:∀k,Sm k->¬S k->B8 k ob=true->B8 k (A1 (1000*f) (1000*f+1000) os aR)=true:=λ k h1 h2 h3=>H4 (h.nm k h1 h2 (Aqv (hLn k h2) h3))
 have sT:U7 [f] (A1 (1000*f) (1000*f+1000) os aR):=λ p hp=>by
  refine⟨?_,λ r hr v hv k hk=>A5.1 (C8.1 (cS k (gD k hk) (yV k hk) (hO.nm hk)) p hp) r hr v hv⟩
  cases jG:M5 [f] p.1 with
  |false=>rfl
  |true=>exact absurd (cT p.1 jG) (Aje hp)
 refine⟨⟨λ k a1 a2=> ?_,λ fs hfs cW=> ?_,cS⟩,sT⟩
 ·cases bG:M5 [f] k with
  |true=>rw [cT k bG,hO.none bG]
  |false=>
   have hc:k%KT<1000*f\/1000*f+1000<=k%KT:=by
    rcases B7f (k%KT) (1000*f)with h1|h1
    ·exact .inl h1
    ·refine .inr (Nat.not_lt.1 λ h2=> ?_)
     have:=(aP k).2 ⟨h1,h2⟩;rw [bG]at this;simp at this
   rw [C4,B6l (hc.imp id .inl),h.fr k a1 a2,Azn];rintro p hp rfl;rw [hLR p hp]at bG;simp at bG
 ·have lF:U7 (fs.filter (· !=f)) (L++ob):=by
   refine A6l (λ p hp=>⟨?_,λ r hr v hv k hk=> ?_⟩) (cW.mono λ g hg=>(B7c.1 hg).1)
   ·simp only [M5,B63,B7k,B7c,not_and];intro _ aH;have h1:=hL p hp;have:p.1%KT/1000=f:=by rw [aB,B74 (by omega)];omega
    exact absurd this (by simpa using aH)
   ·cases hx:v.names k with
    |false=>rfl
    |true=>
     have cG:M5 fs k=true:=Ahu (λ g hg=>(B7c.1 hg).1) hk
     exact absurd (cW.none cG) (hn p hp r hr v hv k hx).2
  have h2:=h.no _ (λ g hg=>hfs g (B7c.1 hg).1) lF
  intro p hp;obtain⟨q1,q2⟩:=h2 p (X8 hp);obtain⟨q3,q4⟩:=sT p hp;have oE:∀k,M5 fs k=true->M5 (fs.filter (· !=f)) k=true\/M5 [f] k=true:=λ k hk=>by
   simp only [M5,B63,B6o,B7c,B6x]at hk ⊢;by_cases he:k%KT/1000=f
   ·exact .inr he
   ·exact .inl ⟨hk,by simpa using he⟩
  refine⟨?_,λ r hr v hv k hk=>(oE k hk).elim (q2 r hr v hv k) (q4 r hr v hv k)⟩
  cases jG:M5 fs p.1 with
  |false=>rfl
  |true=>rcases oE _ jG with h|h<;>simp_all
theorem HW.keep {hk lo hi:Nat}{ws:List W4}{ks:List K3}{b:Nat}{os:List Nat}{ob:OL}(h:HW hk ws ks b ob)(h1:hk%KT<lo\/hi<=hk%KT)(h2:hi<=1000000000):HW hk ws ks b (A1 lo hi os ob):=by
 obtain⟨wm,cm,qs,cs,n,c,came,hH,hR,h0,hn,hc,hC,hS⟩:=h;have bI:CK=900000000000000000:=rfl;exact⟨wm,cm,qs,cs,n,c,came,hH.keep (h1.imp id .inl) (by omega) hC.le,hR,h0,hn,hc,Bhc hC (by omega),hS⟩
end Go.Am
