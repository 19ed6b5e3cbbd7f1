import Derived.Test.YtgnjaophoffbbaaGreatRb
set_option maxRecDepth 20000
set_option maxHeartbeats 8000000
set_option linter.unusedVariables false
set_option linter.unusedSimpArgs false
namespace Go.Am
instance : DecidableEq D2:=λ a b=>if h:a.id=b.id/\a.arrive=b.arrive/\a.frm=b.frm/\a.to=b.to/\a.car=b.car/\a.board=b.board/\a.alight=b.alight then isTrue (by obtain⟨h1,h2,h3,h4,h5,h6,h7⟩:=h;cases a;cases b;simp_all)else isFalse (λ e=>h (by rw [e];exact⟨rfl,rfl,rfl,rfl,rfl,rfl,rfl⟩))
abbrev vvW (ws:List W4):AV:= .c (.vs 4 (ws.map U8))
abbrev vvK (ks:List K3):AV:= .c (.vs 3 (ks.map U5))
abbrev vvC (cs:List Cr):AV:= .c (.vs 6 (cs.map Cr.cells))
abbrev vvT (ts:List D2):AV:= .c (.vs 7 (ts.map D2.cells))
abbrev rsR (s:S6)(ws:List W4)(ks:List K3)(cs:List Cr)(ts:List D2)(tick:Int):List AV:=[i64 s.floors,i64 s.gap,i64 s.cars,i64 s.capacity,i64 s.opn,i64 s.dwell,i64 s.cls,i64 s.transfer,.c (.vs 3 (s.segs.map Seg.cells)),i64 s.disp,i64 s.horizon,i64 s.bins,i64 s.width,vvW ws,vvK ks,vvC cs,vvT ts,i64 tick]
abbrev stD (tick:Int)(cs:List Cr)(ws:List W4)(ks:List K3)(ts:List D2):List D:=[.int .i64 tick,.vs 6 (cs.map Cr.cells),.vs 4 (ws.map U8),.vs 3 (ks.map U5),.vs 7 (ts.map D2.cells)]
abbrev stR (tick:Int)(cs:List Cr)(ws:List W4)(ks:List K3)(ts:List D2):List AV:=[i64 tick,vvC cs,vvW ws,vvK ks,vvT ts]
structure StL (cs:List Cr)(ws:List W4)(ks:List K3)(ts:List D2):Prop where
 c:cs.length<=100
 r:∀c∈cs,c.rid.length<=100
 w:ws.length<=1000
 k:ks.length<=1000
 t:ts.length<=1000
def A7n (g:PG):Prop:=∀(s:S6)(rk:Nat)(ws bF:List W4)(ks bE:List K3)(cs bS:List Cr)(ts bP:List D2)(tick cF:Int) gs ob,U7 [561] ob->NoF [561] gs->StL cs ws ks ts->StL bS bF bE bP->get ob rk=some ⟨18,[rsR s ws ks cs ts tick]⟩->
 g ⟨(0,.agg (stD cF bS bF bE bP))::(1,.loc rk 0 0)::gs,ob⟩=some ([bo (decide (cF=tick/\bS=cs/\bF=ws/\bE=ks/\bP=ts))],ob)
theorem Bfo {α:Type}{a b:List α}(hl:a.length=b.length)(h:∀j (h1:j<a.length)(h2:j<b.length),a[j]=b[j]):a=b:=List.ext_getElem hl h
theorem Aus (Γ:H6)(M:Nat)(hM:2000<M)(hC:Aqb (Γ 559)):A7n (H9 Γ M Y5):=by
 intro s rk ws bF ks bE cs bS ts bP tick cF gs ob hO hF hS hS' hR;have aB:KT=18446744073709551616:=G1;have g:=hF.1;have n2:=hO.nm (k:=561002) (by decide)
 have d2:=hO.del (k:=561002) (by decide)
 have f2:=hF.nm (k:=561002) (by decide)
 have z2:=hO.none (k:=561002) (by decide)
 have k1:=hO.kf (f:=561) (by decide)
 have r2:=A3 hO hR (k:=561002) (by decide)
 have r2':=B6i r2;have eC:=hC bS cs hS'.c hS.c hS'.r hS.r;have hin1:bF.length=ws.length->∃ax s',(if bF=ws then ax= .ex 0/\s'=⟨(1,.loc rk 0 0)::(2,.loc 561002 0 0)::gs,(561002,⟨5,[stR cF bS bF bE bP]⟩)::ob⟩else ax= .ret/\s'=⟨(4,bo false)::gs,ob⟩)/\∀s0,U9 [1,2,5] 561000 562000 [561002] s0=⟨(1,.loc rk 0 0)::(2,.loc 561002 0 0)::(5,i64 (0:Nat))::gs,(561002,⟨5,[stR cF bS bF bE bP]⟩)::ob⟩->lp (exec Γ M Akc) M s0=some (ax,s'):=by
  intro hl;refine I0 (λ q:Nat=>⟨(1,.loc rk 0 0)::(2,.loc 561002 0 0)::(5,i64 q)::gs,(561002,⟨5,[stR cF bS bF bE bP]⟩)::ob⟩) (λ q=>q<=ws.length/\∀j (h1:j<bF.length)(h2:j<ws.length),j<q->bF[j]=ws[j]) (λ q=>ws.length-q) _ 0 M ⟨by omega,λ j _ _ h=>by omega⟩ (by have:=hS.w;omega) ?_
  rintro q ⟨hq,hj⟩;have wI:=hS.w;by_cases aC:q<ws.length
  ·have bO:q<bF.length:=by omega
   obtain⟨x,hx⟩:∃x,bF[q]'bO=x:=⟨_,rfl⟩;obtain⟨y,hy⟩:∃y,ws[q]'aC=y:=⟨_,rfl⟩;by_cases he:x=y
   ·have gZ:(q+1<=ws.length/\∀j (h1:j<bF.length)(h2:j<ws.length),j<q+1->bF[j]=ws[j]):=⟨by omega,λ j h1 h2 h3=>by
     rcases B7f j q with h|h
     ·exact hj j h1 h2 h
     ·obtain rfl:j=q:=by omega
      rw [hx,hy,he]⟩
    subst he;obtain⟨u0,u1,u2,u3⟩:=x;simp -implicitDefEqProofs (disch:=first|omega|(simp [g];done)|assumption) [g,n2,d2,f2,z2,k1,r2,r2',hR,aC,bO,hx,hy,U8];exact⟨q+1,by simp,gZ,by omega⟩
   ·have aH:¬bF=ws:=by
     grind
    obtain⟨u0,u1,u2,u3⟩:=x;obtain⟨v0,v1,v2,v3⟩:=y;have kJ:L9 [.int .i64,.int .i64,.int .i64,.int .i64] [.int .i64 u0,.int .i64 u1,.int .i64 u2,.int .i64 u3] [.int .i64 v0,.int .i64 v1,.int .i64 v2,.int .i64 v3]=some false:=by
     have kS:¬(u0=v0/\u1=v1/\u2=v2/\u3=v3):=λ h=>he (by obtain⟨rfl,rfl,rfl,rfl⟩:=h;rfl)
     simp [L9,eqK];simpa using kS
    simp only [B6j aH];simp -implicitDefEqProofs (disch:=first|omega|(simp [g];done)|assumption) [-L9,g,n2,d2,f2,z2,k1,r2,r2',hR,aC,bO,hx,hy,U8,kJ]
  ·obtain rfl:q=ws.length:=by omega
   have he:bF=ws:=Bfo hl λ j h1 h2=>hj j h1 h2 h2
   simp only [B6l he];simp -implicitDefEqProofs (disch:=first|omega|(simp [g];done)|assumption) [g,n2,d2,f2,z2,k1,r2,r2',hR]
 have hin2:bE.length=ks.length->∃ax s',(if bE=ks then ax= .ex 2/\s'=⟨(1,.loc rk 0 0)::(2,.loc 561002 0 0)::gs,(561002,⟨5,[stR cF bS bF bE bP]⟩)::ob⟩else ax= .ret/\s'=⟨(4,bo false)::gs,ob⟩)/\∀s0,U9 [1,2,6] 561000 562000 [561002] s0=⟨(1,.loc rk 0 0)::(2,.loc 561002 0 0)::(6,i64 (0:Nat))::gs,(561002,⟨5,[stR cF bS bF bE bP]⟩)::ob⟩->lp (exec Γ M Akb) M s0=some (ax,s'):=by
  intro hl;refine I0 (λ q:Nat=>⟨(1,.loc rk 0 0)::(2,.loc 561002 0 0)::(6,i64 q)::gs,(561002,⟨5,[stR cF bS bF bE bP]⟩)::ob⟩) (λ q=>q<=ks.length/\∀j (h1:j<bE.length)(h2:j<ks.length),j<q->bE[j]=ks[j]) (λ q=>ks.length-q) _ 0 M ⟨by omega,λ j _ _ h=>by omega⟩ (by have:=hS.k;omega) ?_
  rintro q ⟨hq,hj⟩;have wI:=hS.k;by_cases aC:q<ks.length
  ·have bO:q<bE.length:=by omega
   obtain⟨x,hx⟩:∃x,bE[q]'bO=x:=⟨_,rfl⟩;obtain⟨y,hy⟩:∃y,ks[q]'aC=y:=⟨_,rfl⟩;by_cases he:x=y
   ·have gZ:(q+1<=ks.length/\∀j (h1:j<bE.length)(h2:j<ks.length),j<q+1->bE[j]=ks[j]):=⟨by omega,λ j h1 h2 h3=>by
     rcases B7f j q with h|h
     ·exact hj j h1 h2 h
     ·obtain rfl:j=q:=by omega
      rw [hx,hy,he]⟩
    subst he;obtain⟨u0,u1,u2⟩:=x;simp -implicitDefEqProofs (disch:=first|omega|(simp [g];done)|assumption) [g,n2,d2,f2,z2,k1,r2,r2',hR,aC,bO,hx,hy,U5];exact⟨q+1,by simp,gZ,by omega⟩
   ·have aH:¬bE=ks:=by
     grind
    obtain⟨u0,u1,u2⟩:=x;obtain⟨v0,v1,v2⟩:=y;have kJ:L9 [.int .i64,.int .i64,.int .i64] [.int .i64 u0,.int .i64 u1,.int .i64 u2] [.int .i64 v0,.int .i64 v1,.int .i64 v2]=some false:=by
     have kS:¬(u0=v0/\u1=v1/\u2=v2):=λ h=>he (by obtain⟨rfl,rfl,rfl⟩:=h;rfl)
     simp [L9,eqK];simpa using kS
    simp only [B6j aH];simp -implicitDefEqProofs (disch:=first|omega|(simp [g];done)|assumption) [-L9,g,n2,d2,f2,z2,k1,r2,r2',hR,aC,bO,hx,hy,U5,kJ]
  ·obtain rfl:q=ks.length:=by omega
   have he:bE=ks:=Bfo hl λ j h1 h2=>hj j h1 h2 h2
   simp only [B6l he];simp -implicitDefEqProofs (disch:=first|omega|(simp [g];done)|assumption) [g,n2,d2,f2,z2,k1,r2,r2',hR]
 have hin3:bP.length=ts.length->∃ax s',(if bP=ts then ax= .ex 4/\s'=⟨gs,ob⟩else ax= .ret/\s'=⟨(4,bo false)::gs,ob⟩)/\∀s0,U9 [1,2,7] 561000 562000 [561002] s0=⟨(1,.loc rk 0 0)::(2,.loc 561002 0 0)::(7,i64 (0:Nat))::gs,(561002,⟨5,[stR cF bS bF bE bP]⟩)::ob⟩->lp (exec Γ M Aka) M s0=some (ax,s'):=by
  intro hl;refine I0 (λ q:Nat=>⟨(1,.loc rk 0 0)::(2,.loc 561002 0 0)::(7,i64 q)::gs,(561002,⟨5,[stR cF bS bF bE bP]⟩)::ob⟩) (λ q=>q<=ts.length/\∀j (h1:j<bP.length)(h2:j<ts.length),j<q->bP[j]=ts[j]) (λ q=>ts.length-q) _ 0 M ⟨by omega,λ j _ _ h=>by omega⟩ (by have:=hS.t;omega) ?_
  rintro q ⟨hq,hj⟩;have wI:=hS.t;by_cases aC:q<ts.length
  ·have bO:q<bP.length:=by omega
   obtain⟨x,hx⟩:∃x,bP[q]'bO=x:=⟨_,rfl⟩;obtain⟨y,hy⟩:∃y,ts[q]'aC=y:=⟨_,rfl⟩;by_cases he:x=y
   ·have gZ:(q+1<=ts.length/\∀j (h1:j<bP.length)(h2:j<ts.length),j<q+1->bP[j]=ts[j]):=⟨by omega,λ j h1 h2 h3=>by
     rcases B7f j q with h|h
     ·exact hj j h1 h2 h
     ·obtain rfl:j=q:=by omega
      rw [hx,hy,he]⟩
    subst he;obtain⟨u0,u1,u2,u3,u4,u5,u6⟩:=x;simp -implicitDefEqProofs (disch:=first|omega|(simp [g];done)|assumption) [g,n2,d2,f2,z2,k1,r2,r2',hR,aC,bO,hx,hy,D2.cells];exact⟨q+1,by simp,gZ,by omega⟩
   ·have aH:¬bP=ts:=by
     grind
    obtain⟨u0,u1,u2,u3,u4,u5,u6⟩:=x;obtain⟨v0,v1,v2,v3,v4,v5,v6⟩:=y;have kJ:L9 [.int .i64,.int .i64,.int .i64,.int .i64,.int .i64,.int .i64,.int .i64] [.int .i64 u0,.int .i64 u1,.int .i64 u2,.int .i64 u3,.int .i64 u4,.int .i64 u5,.int .i64 u6] [.int .i64 v0,.int .i64 v1,.int .i64 v2,.int .i64 v3,.int .i64 v4,.int .i64 v5,.int .i64 v6]=some false:=by
     have kS:¬(u0=v0/\u1=v1/\u2=v2/\u3=v3/\u4=v4/\u5=v5/\u6=v6):=λ h=>he (by obtain⟨rfl,rfl,rfl,rfl,rfl,rfl,rfl⟩:=h;rfl)
     simp [L9,eqK];simpa using kS
    simp only [B6j aH];simp -implicitDefEqProofs (disch:=first|omega|(simp [g];done)|assumption) [-L9,g,n2,d2,f2,z2,k1,r2,r2',hR,aC,bO,hx,hy,D2.cells,kJ]
  ·obtain rfl:q=ts.length:=by omega
   have he:bP=ts:=Bfo hl λ j h1 h2=>hj j h1 h2 h2
   simp only [B6l he];simp -implicitDefEqProofs (disch:=first|omega|(simp [g];done)|assumption) [g,n2,d2,f2,z2,k1,r2,r2',hR]
 have lP:∀(b:Bool),b=decide (cF=tick/\bS=cs/\bF=ws/\bE=ks/\bP=ts)->H9 Γ M Y5 ⟨(0,.agg (stD cF bS bF bE bP))::(1,.loc rk 0 0)::gs,ob⟩=some ([bo b],ob):=by
  intro b hb;by_cases h1:cF=tick
  case neg=>
   rw [B7y (λ h=>h1 h.1)]at hb;subst hb
   simp -implicitDefEqProofs (disch:=first|omega|(simp [g];done)|assumption) [g,n2,d2,f2,z2,k1,r2,r2',hR,h1]
  subst h1;by_cases h2:bS=cs
  case neg=>
   rw [B7y (λ h=>h2 h.2.1)]at hb;subst hb
   rw [B7y h2]at eC;simp -implicitDefEqProofs (disch:=first|omega|(simp [g];done)|assumption) [g,n2,d2,f2,z2,k1,r2,r2',hR,eC]
  subst h2;rw [B8f rfl]at eC;by_cases l3:bF.length=ws.length
  case neg=>
   have l3':¬(bF.length:Int)=ws.length:=by omega
   rw [B7y (λ h=>l3 (by rw [h.2.2.1]))]at hb;subst hb
   simp -implicitDefEqProofs (disch:=first|omega|(simp [g];done)|assumption) [g,n2,d2,f2,z2,k1,r2,r2',hR,eC,l3,l3']
  by_cases l4:bE.length=ks.length
  case neg=>
   have l4':¬(bE.length:Int)=ks.length:=by omega
   rw [B7y (λ h=>l4 (by rw [h.2.2.2.1]))]at hb;subst hb
   simp -implicitDefEqProofs (disch:=first|omega|(simp [g];done)|assumption) [g,n2,d2,f2,z2,k1,r2,r2',hR,eC,l3,l4,l4']
  by_cases l5:bP.length=ts.length
  case neg=>
   have l5':¬(bP.length:Int)=ts.length:=by omega
   rw [B7y (λ h=>l5 (by rw [h.2.2.2.2]))]at hb;subst hb
   simp -implicitDefEqProofs (disch:=first|omega|(simp [g];done)|assumption) [g,n2,d2,f2,z2,k1,r2,r2',hR,eC,l3,l4,l5,l5']
  obtain⟨ax,s',h3,bK⟩:=hin1 l3;have tB:=bK ⟨(1,.loc rk 0 0)::(2,.loc 561002 0 0)::(5,i64 0)::gs,(561002,⟨5,[stR cF bS bF bE bP]⟩)::ob⟩ (by simp -implicitDefEqProofs (disch:=first|omega|(simp [g];done)|assumption) [g,k1])
  by_cases e3:bF=ws
  case neg=>
   rw [B6j e3]at h3;obtain⟨rfl,rfl⟩:=h3;rw [B7y (λ h=>e3 h.2.2.1)]at hb;subst hb
   simp -implicitDefEqProofs (disch:=first|omega|(simp [g];done)|assumption) [g,n2,d2,f2,z2,k1,r2,r2',hR,eC,l3,l4,l5,tB]
  rw [B6l e3]at h3;obtain⟨rfl,rfl⟩:=h3;subst e3;obtain⟨ax,s',h4,bK⟩:=hin2 l4;have aO:=bK ⟨(1,.loc rk 0 0)::(2,.loc 561002 0 0)::(6,i64 0)::gs,(561002,⟨5,[stR cF bS bF bE bP]⟩)::ob⟩ (by simp -implicitDefEqProofs (disch:=first|omega|(simp [g];done)|assumption) [g,k1])
  by_cases e4:bE=ks
  case neg=>
   rw [B6j e4]at h4;obtain⟨rfl,rfl⟩:=h4;rw [B7y (λ h=>e4 h.2.2.2.1)]at hb;subst hb
   simp -implicitDefEqProofs (disch:=first|omega|(simp [g];done)|assumption) [g,n2,d2,f2,z2,k1,r2,r2',hR,eC,l3,l4,l5,tB,aO]
  rw [B6l e4]at h4;obtain⟨rfl,rfl⟩:=h4;subst e4;obtain⟨ax,s',h5,bK⟩:=hin3 l5;have zF:=bK ⟨(1,.loc rk 0 0)::(2,.loc 561002 0 0)::(7,i64 0)::gs,(561002,⟨5,[stR cF bS bF bE bP]⟩)::ob⟩ (by simp -implicitDefEqProofs (disch:=first|omega|(simp [g];done)|assumption) [g,k1])
  by_cases e5:bP=ts
  case neg=>
   rw [B6j e5]at h5;obtain⟨rfl,rfl⟩:=h5;rw [B7y (λ h=>e5 h.2.2.2.2)]at hb;subst hb
   simp -implicitDefEqProofs (disch:=first|omega|(simp [g];done)|assumption) [g,n2,d2,f2,z2,k1,r2,r2',hR,eC,l3,l4,l5,tB,aO,zF]
  rw [B6l e5]at h5;obtain⟨rfl,rfl⟩:=h5;subst e5;rw [B8f ⟨rfl,rfl,rfl,rfl,rfl⟩]at hb;subst hb;simp -implicitDefEqProofs (disch:=first|omega|(simp [g];done)|assumption) [g,n2,d2,f2,z2,k1,r2,r2',hR,eC,l3,l4,l5,tB,aO,zF]
 exact lP _ rfl
end Go.Am
