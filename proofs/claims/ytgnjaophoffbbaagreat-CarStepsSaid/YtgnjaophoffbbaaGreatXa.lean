import Derived.Test.YtgnjaophoffbbaaGreatK
import Derived.Test.YtgnjaophoffbbaaGreatB4
import Derived.Test.YtgnjaophoffbbaaGreatVa
import Derived.Test.YtgnjaophoffbbaaGreatHb
import Derived.Test.YtgnjaophoffbbaaGreatHn
import Derived.Test.YtgnjaophoffbbaaGreatSx
import Derived.Test.YtgnjaophoffbbaaGreatRd
import Derived.Test.YtgnjaophoffbbaaGreatFb
set_option maxHeartbeats 4000000
set_option maxRecDepth 20000
set_option linter.unusedVariables false
set_option linter.unusedSimpArgs false
namespace Go.Am
def Ar8 :AC:= .seq (.draw A92 [] [] Bgp) (.keepP [4] 0 1000 [] (.ret))
def Ar9 :AC:= .seq (.draw A93 [] [(3,(some 158),.callP 570 [(.t 155),(.t 157)],[5,6],[0,1,2])] Bgq) (.keepP [8,10,11,12] 0 1000 [] (Ar8))
def Bhs :AC:= .seq (.draw A94 [] [(15,none,.stoG 6 (.t 153) (.t 151),[10,11,13],[0,1,2,3,4,5,6,7,8,9,12,14])] Bgr) (.keepP [3,8,10] 0 1000 [3] (Ar9))
def Bht :AC:= .seq (.draw A95 [] [(8,(some 128),.callP 742 [(.t 127)],[10,11,12,13,14,16,17],[4,5,6,7]),(15,none,.stoG 1 (.t 134) (.t 123),[16,17],[0,3,4,5,6,7,8,9,10,11,12,13,14]),(18,none,.stoG 1 (.t 136) (.t 128),[],[0,1,3,4,5,6,7,8,9,10,11,12,13,14,15,16,17])] Bgs) (.keepP [3,5,8,10] 0 1000 [3,5] (Bhs))
def Bhu :AC:= .seq (.reg Bgt) (.keepP [3,5,7,8,10] 0 1000 [3,5] (Bht))
def Bhv :AC:= .seq (.seq (.draw A96 [] [] Bgv) (.keepP [2,3,5,7,8,10,111] 0 1000 [2,3,5] (.cond (.t 111) (.keepP [] 0 1000 [] (.seq (.reg Bgu) (.keepP [4] 0 1000 [] (.ret)))) (.skip)))) (.keepP [2,3,5,7,8,10] 0 1000 [2,3,5] (Bhu))
def Asa :AC:= .seq (.reg Bgw) (.keepP [2,3,5,7,8,10] 0 1000 [2,3,5] (Bhv))
def Ane :AC:= .seq (.seq (.reg Bgy) (.keepP [2,3,5,7,8,97] 0 1000 [2,3,5] (.cond (.t 97) (.keepP [] 0 1000 [] (.seq (.reg Bgx) (.keepP [4] 0 1000 [] (.ret)))) (.skip)))) (.keepP [2,3,5,7,8] 0 1000 [2,3,5] (Asa))
def Ab4 :AC:= .seq (.iceA 8 14 1000564 (.iceA 8 13 1000565 (.iceA 8 16 566113 (.iceA 5 5 743000 (.reg Bgz))))) (.keepP [2,3,5,7,8,9] 0 1000 [2,3,5] (Ane))
def Acs :AC:= .seq (.reg Bsv) (.keepP [2,3] 0 1000 [2,3] (.seq (.reg Bsu) (.keepP [2,3,5] 0 1000 [2,3,5] (.seq (.seq (.reg Bst) (.keepP [2,3,5,53] 0 1000 [2,3,5] (.cond (.t 53) (.keepP [] 0 1000 [] (.seq (.reg Bss) (.keepP [4] 0 1000 [] (.ret)))) (.skip)))) (.keepP [2,3,5] 0 1000 [2,3,5] (.seq (.reg Bsr) (.keepP [2,3,5] 0 1000 [2,3,5] (.seq (.seq (.reg Bsq) (.keepP [2,3,5,6] 0 1000 [2,3,5] (.block 0 (.loop Abd)))) (.keepP [2,3,5] 0 1000 [2,3,5] (Ab4))))))))))
theorem B0s :O6=⟨Acs,[.t 4],0,0,[]⟩:=rfl
def Bd5 (x:Option (AX×St)):Prop:=∃ob,x=some (.ret,⟨[(4,bo true)],ob⟩)
def Alm (l:List Rd):List Rd:=l.zipIdx.map λ x=>⟨(x.2:Int),x.1.to⟩
theorem Aq2 (l:List Rd):(Alm l).length=l.length:=by simp [Alm]
abbrev c43 (c:Cr)(n:Nat):Obj:=⟨6,[[i64 c.pos,i64 c.dir,i64 c.mode,i64 c.left,bo c.waited,.sl 743000 n 0 n]]⟩
abbrev rdO (l:List Rd):Obj:=⟨2,l.map (A4∘Rd.cells)⟩
def Bza (s:S6)(p:Plc)(q:Nat)(ob:OL):Prop:=
 (q=0/\ob=[(5,c43 p.c p.c.rid.length),(743000,rdO p.c.rid),(3,p39 p),(2,⟨13,[Y9 s]⟩)])\/
 (0<q/\ob=[(743000,rdO (Alm (p.c.rid.take q)++p.c.rid.drop q)),(5,c43 p.c p.c.rid.length),(3,p39 p),(2,⟨13,[Y9 s]⟩)])
theorem Blv (l:List Rd)(r:Rd):Alm (l++[r])=Alm l++[⟨(l.length:Int),r.to⟩]:=by simp [Alm,List.zipIdx_append]
theorem Blw (Γ:H6)(M:Nat)(hM:200<M)(s:S6)(p:Plc)(hl:p.c.rid.length<=8):
  ∃ax s',((ax= .ex 0/\(∀r∈p.c.rid,0<=r.to/\r.to<s.floors)/\∃ob,Bza s p p.c.rid.length ob/\s'=(⟨[(2,.loc 2 0 0),(3,.loc 3 0 0),(5,.loc 5 0 0)],ob⟩:St))\/(ax= .ret/\∃ob,s'=(⟨[(4,bo true)],ob⟩:St)))/\
   ∀s0,U9 [2,3,5,6] 0 1000 [2,3,5] s0=⟨[(2,.loc 2 0 0),(3,.loc 3 0 0),(5,.loc 5 0 0),(6,i64 (0:Nat))],[(5,c43 p.c p.c.rid.length),(743000,rdO p.c.rid),(3,p39 p),(2,⟨13,[Y9 s]⟩)]⟩->lp (exec Γ M Abd) M s0=some (ax,s'):=by
 have aB:KT=18446744073709551616:=G1;refine I0 (λ q:Nat×OL=>⟨[(2,.loc 2 0 0),(3,.loc 3 0 0),(5,.loc 5 0 0),(6,i64 q.1)],q.2⟩) (λ q=>q.1<=p.c.rid.length/\(∀r∈p.c.rid.take q.1,0<=r.to/\r.to<s.floors)/\Bza s p q.1 q.2) (λ q=>p.c.rid.length-q.1) _ (0,_) M ⟨by simp,by simp,.inl ⟨rfl,rfl⟩⟩ (by simp;omega) ?_
 rintro⟨q,ob⟩ ⟨hq,bB,gR⟩;dsimp only at hq bB gR ⊢;have jH:(Alm (p.c.rid.take q)).length=q:=by rw [Aq2,B7l];omega
 by_cases aC:q<p.c.rid.length
 ·obtain⟨r,hr⟩:∃r,p.c.rid[q]'aC=r:=⟨_,rfl⟩;have mN:(q:Int)<p.c.rid.length:=by omega
  have aY:p.c.rid.take (q+1)=p.c.rid.take q++[r]:=by rw [List.take_add_one,B6w aC,hr];rfl
  have gU:p.c.rid.drop q=r::p.c.rid.drop (q+1):=by rw [<-hr];exact B8q aC
  have hnr:Alm (p.c.rid.take (q+1))=Alm (p.c.rid.take q)++[⟨(q:Int),r.to⟩]:=by rw [aY,Blv,B7l,Nat.min_eq_left (by omega)]
  obtain⟨L,hL⟩:∃L,L=Alm (p.c.rid.take q)++p.c.rid.drop q:=⟨_,rfl⟩;have hLl:L.length=p.c.rid.length:=by rw [hL,B67,jH,B70];omega
  have hLq:∀h,L[q]'h=r:=λ h=>by
   have:L[q]? =some r:=by rw [hL,gU,B73 (by omega),jH,Nat.sub_self];rfl
   exact(B6n.1 this).2
  have hLs:L.set q ⟨(q:Int),r.to⟩=Alm (p.c.rid.take (q+1))++p.c.rid.drop (q+1):=by
   rw [hL,gU,hnr,List.set_append_right _ _ (by omega),jH,Nat.sub_self,List.set_cons_zero,B9b];rfl
  have aD:ob=[(5,c43 p.c p.c.rid.length),(743000,rdO L),(3,p39 p),(2,⟨13,[Y9 s]⟩)]\/ob=[(743000,rdO L),(5,c43 p.c p.c.rid.length),(3,p39 p),(2,⟨13,[Y9 s]⟩)]:=by
   rcases gR with ⟨rfl,rfl⟩|⟨h0,rfl⟩
   ·left;rw [hL];rfl
   ·right;rw [hL]
  clear gR hL jH hnr gU;have bZ:List.take q (L.map (A4∘Rd.cells))++[i64 q,i64 r.to]::List.drop (q+1) (L.map (A4∘Rd.cells))=(Alm (p.c.rid.take (q+1))++p.c.rid.drop (q+1)).map (A4∘Rd.cells):=by
   rw [<-hLs,B8l,B6l (by omega),B60,B8o,B6v,B86];rfl
  obtain⟨rid,rto⟩:=r;dsimp only at bZ;by_cases c1:rto<0
  ·rcases aD with rfl|rfl<;>simp -implicitDefEqProofs (disch:=first|omega|(simp [aB];done)|assumption) [aB,aC,hLl,hLq,c1]
  by_cases c2:s.floors<=rto
  ·rcases aD with rfl|rfl<;>simp -implicitDefEqProofs (disch:=first|omega|(simp [aB];done)|assumption) [aB,aC,hLl,hLq,c1,c2]
  have fY:∀r∈p.c.rid.take (q+1),0<=r.to/\r.to<s.floors:=λ r bU=>by
   rw [aY]at bU;rcases B65.1 bU with h|h
   ·exact bB r h
   ·rw [B6x.1 h];dsimp only;omega
  rcases aD with rfl|rfl<;>simp -implicitDefEqProofs (disch:=first|omega|(simp [aB];done)|assumption) [aB,aC,hLl,hLq,c1,c2,bZ]
  all_goals exact⟨q+1,_,⟨by omega,rfl⟩,⟨by omega,fY,.inr ⟨by omega,by simp⟩⟩,by omega⟩
 ·obtain rfl:q=p.c.rid.length:=by omega
  rw [B7s]at bB;have hnl2:=Aq2 p.c.rid;rcases gR with ⟨h0,rfl⟩|⟨h0,rfl⟩
  ·simp -implicitDefEqProofs (disch:=first|omega|(simp [aB];done)|assumption) [aB];exact⟨bB,.inl ⟨h0,rfl⟩⟩
  ·simp -implicitDefEqProofs (disch:=first|omega|(simp [aB];done)|assumption) [aB,hnl2];exact⟨bB,.inr ⟨h0,by simp⟩⟩
theorem B0t (Γ:H6)(M:Nat)(hM:200<M)(hW:Bti (Γ 562))(eC:Γ.pt 743=M6 743000 2)(s:S6)(p:Plc)(dR:s.segs.length<=maxLen)(eQ:p.c.rid.length<=maxLen)
  (hT:s.segs.length<=8->Bdy s=0->CrW s p.c->p.c.rid.length<=8->(1<p.c.mode->1<=p.c.left)->(∀r∈p.c.rid,0<=r.to/\r.to<s.floors)->∀ob,Bza s p p.c.rid.length ob->Bd5 (exec Γ M Ab4 ⟨[(2,.loc 2 0 0),(3,.loc 3 0 0),(5,.loc 5 0 0)],ob⟩)):
  run Γ M O6 [.agg s.cells,.agg p.cells]=some [bo true]:=by
 rw [B0s];have aB:KT=18446744073709551616:=G1;obtain⟨c,ws,ks,i,tick⟩:=p;dsimp only at eQ hT;have e1:=hW s c dR eQ;by_cases hg:s.segs.length<=8/\Bdy s=0/\CrW s c
 case neg=>
  rw [B7y hg]at e1;simp only [S6.cells,Plc.cells,Cr.cells]at e1 ⊢;simp -implicitDefEqProofs (disch:=first|omega|(simp [aB];done)|assumption) [Acs,aB,e1]
 rw [B8f hg]at e1;obtain⟨g1,g2,g3⟩:=hg;have kV:=(A6s g2).1;have wU:=kV.gap;have nQ:=g3;unfold CrW at g3;obtain⟨R,hR⟩:∃R,R=c.rid.map Rd.cells:=⟨_,rfl⟩;have oP:R.length=c.rid.length:=by rw [hR,B6s]
 have hRm:R.map A4=c.rid.map (A4∘Rd.cells):=by rw [hR,B8c]
 have e2:∀gs ob,R.length<=8->Am.get gs 1=none->K4 743000 gs=true->B8 743000 ob=true->Γ.pt 743 ⟨(0,.c (.vs 2 R))::gs,ob⟩=some ([.sl 743000 R.length 0 R.length],(743000,⟨2,R.map A4⟩)::del ob 743000):=λ gs ob h6 h1 h2 h4=>by
  rw [eC];unfold M6;have h3:R.length<=1000000:=by omega
  have h5:=C3 (j:=743000) h4;simp [Am.get,h1,h2,h3,h5]
 simp only [S6.cells,Plc.cells,Cr.cells,<-hR]at e1 ⊢;by_cases b1:8<R.length
 ·simp -implicitDefEqProofs (disch:=first|omega|(simp [aB];done)|assumption) [Acs,aB,e1,b1]
 have b2:R.length<=8:=by omega
 obtain⟨ax,s',hl,bK⟩:=Blw Γ M hM s ⟨c,ws,ks,i,tick⟩ (by rw [<-oP];exact b2)
 have aO:=bK ⟨[(2,.loc 2 0 0),(3,.loc 3 0 0),(5,.loc 5 0 0),(6,i64 (0:Nat))],[(5,c43 c c.rid.length),(743000,rdO c.rid),(3,p39 ⟨c,ws,ks,i,tick⟩),(2,⟨13,[Y9 s]⟩)]⟩ (by simp -implicitDefEqProofs (disch:=first|omega|(simp [aB];done)|assumption) [aB])
 rw [show ((0:Nat):Int)=0 from rfl]at aO
 simp only [rdO,<-hRm,p39,<-hR,c43,<-oP]at aO;have qX:(1<c.mode->1<=c.left)->(ax= .ret/\∃ob,s'=(⟨[(4,bo true)],ob⟩:St))\/∃ob aA,ax= .ex 0/\s'=(⟨[(2,.loc 2 0 0),(3,.loc 3 0 0),(5,.loc 5 0 0)],ob⟩:St)/\exec Γ M Ab4 ⟨[(2,.loc 2 0 0),(3,.loc 3 0 0),(5,.loc 5 0 0)],A1 0 1000 [2,3,5] ob⟩=some (.ret,⟨[(4,bo true)],aA⟩):=λ h=>by
  rcases hl with ⟨h1,hto,ob,gR,h2⟩|⟨h1,ob,h2⟩
  ·have hk:A1 0 1000 [2,3,5] ob=ob:=by rcases gR with ⟨_,rfl⟩|⟨_,rfl⟩<;>simp [aB]
   obtain⟨aA,h3⟩:=hT g1 g2 nQ (by rw [<-oP];exact b2) h hto ob gR
   exact .inr ⟨ob,aA,h1,h2,by rw [hk];exact h3⟩
  ·exact .inl ⟨h1,ob,h2⟩
 by_cases c3:c.pos%s.gap=0
 ·by_cases c1:1<c.mode
  ·by_cases c2:c.left<1
   ·simp -implicitDefEqProofs (disch:=first|omega|(simp [aB];done)|assumption) [Acs,aB,e1,b1,c1,c2]
   rcases qX (λ _=>by omega)with ⟨rfl,ob,rfl⟩|⟨ob,aA,rfl,rfl,h3⟩
   ·simp -implicitDefEqProofs (disch:=first|omega|(simp [aB];done)|assumption) [Acs,aB,e1,b1,c1,c2,c3,e2,b2,aO]
   ·simp -implicitDefEqProofs (disch:=first|omega|(simp [aB];done)|assumption) [Acs,aB,e1,b1,c1,c2,c3,e2,b2,aO,h3]
  ·rcases qX (λ h=>absurd h c1)with ⟨rfl,ob,rfl⟩|⟨ob,aA,rfl,rfl,h3⟩
   ·simp -implicitDefEqProofs (disch:=first|omega|(simp [aB];done)|assumption) [Acs,aB,e1,b1,c1,c3,e2,b2,aO]
   ·simp -implicitDefEqProofs (disch:=first|omega|(simp [aB];done)|assumption) [Acs,aB,e1,b1,c1,c3,e2,b2,aO,h3]
 ·by_cases c1:1<c.mode
  ·have c4:¬c.mode=1:=by omega
   by_cases c2:c.left<1
   ·simp -implicitDefEqProofs (disch:=first|omega|(simp [aB];done)|assumption) [Acs,aB,e1,b1,c1,c2]
   ·simp -implicitDefEqProofs (disch:=first|omega|(simp [aB];done)|assumption) [Acs,aB,e1,b1,c1,c2,c3,c4]
  ·by_cases c4':c.mode=1
   ·have c4:=B8f c4';by_cases c5':c.dir=0
    ·have c5:=B8f c5';simp -implicitDefEqProofs (disch:=first|omega|(simp [aB];done)|assumption) [Acs,aB,e1,b1,c3,c4,c5]
    have c5:=c5';rcases qX (λ h=>absurd h c1)with ⟨rfl,ob,rfl⟩|⟨ob,aA,rfl,rfl,h3⟩
    ·simp -implicitDefEqProofs (disch:=first|omega|(simp [aB];done)|assumption) [Acs,aB,e1,b1,c3,c4,c5,e2,b2,aO]
    ·simp -implicitDefEqProofs (disch:=first|omega|(simp [aB];done)|assumption) [Acs,aB,e1,b1,c3,c4,c5,e2,b2,aO,h3]
   ·have c4:=c4';simp -implicitDefEqProofs (disch:=first|omega|(simp [aB];done)|assumption) [Acs,aB,e1,b1,c1,c3,c4]
def zT (n:Nat):List D2:=List.replicate n ⟨0,0,0,0,0,0,0⟩
def Atw (c:Cr):Cr:=⟨c.pos,c.dir,c.mode,c.left,c.waited,Alm c.rid⟩
abbrev c5O (c:Cr):Obj:=⟨6,[A4 (Atw c).cells]⟩
abbrev w9O (s:S6)(vw vk vc:AV)(n:Nat)(tick:Int):Obj:=⟨18,[[i64 s.floors,i64 s.gap,i64 s.cars,i64 s.capacity,i64 s.opn,i64 s.dwell,i64 s.cls,i64 s.transfer,.c (.vs 3 (s.segs.map Seg.cells)),i64 s.disp,i64 s.horizon,i64 s.bins,i64 s.width,vw,vk,vc,.c (.vs 7 ((zT n).map D2.cells)),i64 tick]]⟩
def VsL (z:Nat)(l:List (List D))(v:AV):Prop:=v= .c (.vs z l)\/(l=[]/\v= .nil z)
theorem B0u (Γ:H6)(M:Nat)(hM:200<M){SH:PG}(eH:Γ.pt 566=Aqe SH)(s:S6)(p:Plc)
  (hH:(p.ws.length<=20/\p.ks.length<=20/\0<=p.i/\p.i<s.cars/\(∀k∈p.ks,Afy s k)/\(∀w∈p.ws,W6 s w)/\Bd0 s p SH)\/Ba0 s p SH)(eQ:p.c.rid.length<=8)
  (hT:∀vW vK H b,VsL 4 ((Acr p.c.rid.length p.ws).map U8) vW->VsL 3 ((F3 p.ks).map U5) vK->HX 566036 (Acr p.c.rid.length p.ws) (F3 p.ks) b H->b<=60->p.ws.length<=20->p.ks.length<=20->0<=p.i->p.i<s.cars->(∀w∈p.ws,W6 s w)->
   Bd5 (exec Γ M Asa ⟨[(2,.loc 2 0 0),(3,.loc 3 0 0),(5,.loc 5 0 0),(7,.loc 566036 0 0),(8,.loc 566041 0 0)],(566041,w9O s vW vK (.nil 6) (p.c.rid.length+p.ws.length) p.tick)::(5,c5O p.c)::(3,p39 p)::(2,⟨13,[Y9 s]⟩)::H⟩))
  (ob:OL)(gR:Bza s p p.c.rid.length ob):Bd5 (exec Γ M Ab4 ⟨[(2,.loc 2 0 0),(3,.loc 3 0 0),(5,.loc 5 0 0)],ob⟩):=by
 have aB:KT=18446744073709551616:=G1;have aD:ob=[(5,c43 p.c p.c.rid.length),(743000,rdO (Alm p.c.rid)),(3,p39 p),(2,⟨13,[Y9 s]⟩)]\/ob=[(743000,rdO (Alm p.c.rid)),(5,c43 p.c p.c.rid.length),(3,p39 p),(2,⟨13,[Y9 s]⟩)]:=by
  rcases gR with ⟨h0,rfl⟩|⟨h0,rfl⟩
  ·left;rw [B66 h0];rfl
  all_goals grind
 clear gR;have jH:=Aq2 p.c.rid;have IK:M2 566036 2=false/\M2 566036 3=false/\M2 566036 5=false/\M2 566036 743000=false:=by decide
 rcases hH with ⟨k1,k2,k3,k4,k5,k6,hY⟩|hN
 rotate_left
 ·have e:=λ gs ob h2 ho=>Bxr (gs:=gs) (ob:=ob) hN h2 ho
  rw [<-eH]at e;simp only [S6.cells,Plc.cells]at e;unfold Bd5;rcases aD with rfl|rfl<;>simp -implicitDefEqProofs (disch:=first|omega|(simp [aB,All,Ar5,Ar6,Ar7,Btk,Ave,A08,A09,A1a,Bd3,IK];done)|assumption) [Ab4,Ane,aB,e,jH]
 obtain⟨H,b,hX,hb,e⟩:=Bq8 hY;rw [<-eH]at e;simp only [S6.cells,Plc.cells,L39]at e;have IK2:M2 566036 566041=false/\M2 566036 1000565=false/\M2 566036 566113=false/\M2 566036 1000564=false:=by decide
 have aX:∀os,A1 0 1000 os H=H:=λ os=>G4 hX (by omega) (.inr (.inl (by decide)))
 obtain⟨N,hN⟩:∃N,N=p.c.rid.length+p.ws.length:=⟨_,rfl⟩;have hZa:F7 (List.replicate N [i64 0,i64 0,i64 0,i64 0,i64 0,i64 0,i64 0])=some ((zT N).map D2.cells):=by
  rw [<-G6];simp [zT,D2.cells,A4]
 have cV:∀j,B5 j (List.replicate N [i64 0,i64 0,i64 0,i64 0,i64 0,i64 0,i64 0])=true:=λ j=>A5.2 λ r hr v hv=>by
  rw [List.eq_of_mem_replicate hr]at hv;simp at hv;rw [hv];rfl
 rw [<-hN]at hT e;have fin:∀vW vK,VsL 4 ((Acr p.c.rid.length p.ws).map U8) vW->VsL 3 ((F3 p.ks).map U5) vK->exec Γ M Ab4 ⟨[(2,.loc 2 0 0),(3,.loc 3 0 0),(5,.loc 5 0 0)],ob⟩=exec Γ M Asa ⟨[(2,.loc 2 0 0),(3,.loc 3 0 0),(5,.loc 5 0 0),(7,.loc 566036 0 0),(8,.loc 566041 0 0)],(566041,w9O s vW vK (.nil 6) N p.tick)::(5,c5O p.c)::(3,p39 p)::(2,⟨13,[Y9 s]⟩)::H⟩->Bd5 (exec Γ M Ab4 ⟨[(2,.loc 2 0 0),(3,.loc 3 0 0),(5,.loc 5 0 0)],ob⟩):=λ vW vK h1 h2 h3=>by
  grind
 have rM:=Ahz p.c.rid.length p.ws;have t1:List.take N ((zT N).map D2.cells)=(zT N).map D2.cells:=B6y (by simp [zT])
 have t2:List.take p.c.rid.length ((Alm p.c.rid).map Rd.cells)=(Alm p.c.rid).map Rd.cells:=B6y (by simp [jH])
 have t3:List.take p.ws.length ((Acr p.c.rid.length p.ws).map U8)=(Acr p.c.rid.length p.ws).map U8:=B6y (by simp [rM])
 have t4:List.take (F3 p.ks).length ((F3 p.ks).map U5)=(F3 p.ks).map U5:=B6y (by simp)
 by_cases qK:p.ws=[]
 ·by_cases eE:p.ks=[]
  ·refine fin (.nil 4) (.nil 3) (.inr ⟨by rw [qK];rfl,rfl⟩) (.inr ⟨by rw [eE];rfl,rfl⟩) ?_
   simp only [B6l qK,B6l eE]at e;rcases aD with rfl|rfl<;>(simp -implicitDefEqProofs (disch:=first|omega|(simp [aB,All,Ar5,Aq1,Ayq,Ar6,Ar7,Btk,Ave,A08,A09,A1a,Bd3,IK,IK2];done)|assumption) [Ab4,Ane,aB,e,jH,rM,T9 hX,aX,hZa,cV,IK,IK2,Atw,t1,t2,t3,t4,A4];rfl)
  ·refine fin (.nil 4) _ (.inr ⟨by rw [qK];rfl,rfl⟩) (.inl rfl) ?_
   simp only [B6l qK,B6j eE]at e;rcases aD with rfl|rfl<;>(simp -implicitDefEqProofs (disch:=first|omega|(simp [aB,All,Ar5,Aq1,Ayq,Ar6,Ar7,Btk,Ave,A08,A09,A1a,Bd3,IK,IK2];done)|assumption) [Ab4,Ane,aB,e,jH,rM,T9 hX,aX,hZa,cV,IK,IK2,Atw,t1,t2,t3,t4,A4];rfl)
 ·by_cases eE:p.ks=[]
  ·refine fin _ (.nil 3) (.inl rfl) (.inr ⟨by rw [eE];rfl,rfl⟩) ?_
   simp only [B6j qK,B6l eE]at e;rcases aD with rfl|rfl<;>(simp -implicitDefEqProofs (disch:=first|omega|(simp [aB,All,Ar5,Aq1,Ayq,Ar6,Ar7,Btk,Ave,A08,A09,A1a,Bd3,IK,IK2];done)|assumption) [Ab4,Ane,aB,e,jH,rM,T9 hX,aX,hZa,cV,IK,IK2,Atw,t1,t2,t3,t4,A4];rfl)
  ·refine fin _ _ (.inl rfl) (.inl rfl) ?_;simp only [B6j qK,B6j eE]at e;rcases aD with rfl|rfl<;>(simp -implicitDefEqProofs (disch:=first|omega|(simp [aB,All,Ar5,Aq1,Ayq,Ar6,Ar7,Btk,Ave,A08,A09,A1a,Bd3,IK,IK2];done)|assumption) [Ab4,Ane,aB,e,jH,rM,T9 hX,aX,hZa,cV,IK,IK2,Atw,t1,t2,t3,t4,A4];rfl)
theorem Bhw {s:St}:∀{vs:List AV},(∀v∈vs,v.dat=true)->s.frzs vs=some (vs,[])
 |[],_=>rfl
 |v::vs,h=>by
  have h1:=h v (by simp)
  have h2:=Bhw (s:=s) λ u hu=>h u (B7g _ hu)
  cases v<;>simp [AV.dat]at h1<;>simp [St.frzs,St.frz,h2]
theorem Bto {n:Nat}{K:List Nat}{S:PG}{fr:FL}{vs rs:List AV}{ob L:OL}(hn:n<GB)(h0:get fr n=none)(h1:Aap fr 0 n=some vs)(hd:∀v∈vs,v.dat=true)(hS:S ⟨X6 0 vs,[]⟩=some (rs,L))(hL:∀p∈L,p.1∈K/\∀r∈p.2.rows,∀v∈r,v.inn K=true)(hr:∀v∈rs,v.inn K=true)(hk:∀k∈K,get ob k=none/\K4 k fr=true/\B8 k ob=true):U4 n K S ⟨fr,ob⟩=some (rs,L++ob):=by
 have hf:L.filter (λ p=>K.contains p.1)=L:=B8r.2 λ p hp=>by simpa using (hL p hp).1
 unfold U4;simp only [h0,h1,Bhw hd,hS,hf,kill];rw [B6l ⟨hn,rfl⟩,B6l];refine⟨B6q.2 λ p hp=>B6q.2 λ r h=>B6q.2 λ v hv=>(hL p hp).2 r h v hv,B6q.2 hr,B6q.2 λ k aN=> ?_⟩
 grind
theorem Ba1 {α:Type}{f:α->List D}{K:List Nat}{l:List α}{r:List AV}{v:AV}(hr:r∈l.map (A4∘f))(hv:v∈r):v.inn K=true:=by
 obtain⟨a,_,rfl⟩:=B6z.1 hr;simp only [Function.comp,A4,B6z]at hv;obtain⟨d,_,rfl⟩:=hv;rfl
def A2k (K:List Nat)(gs:FL)(ob:OL):Prop:=∀k∈K,get ob k=none/\K4 k gs=true/\B8 k ob=true
theorem Bd6 {k:Nat}{K:List Nat}{gs:FL}{ob:OL}:A2k (k::K) gs ob↔(get ob k=none/\K4 k gs=true/\B8 k ob=true)/\A2k K gs ob:=by simp [A2k]
theorem Blx {gs:FL}{ob:OL}:A2k [] gs ob↔True:=by simp [A2k]
theorem Bxt {S:PG}(h:Bs8 S){s:S6}(hs:ScG s){gs:FL}{ob:OL}(h1:get gs 1=none)(hk:A2k [568009,1000567,568007] gs ob):
  U4 1 [568009,1000567,568007] S ⟨(0,.agg s.cells)::gs,ob⟩=some ([.loc 568009 0 0],(568009,nwO s (.sl 1000567 s.cars.toNat 0 s.cars.toNat))::(1000567,hcO s s.cars.toNat)::(568007,h0O)::ob):=
 Bto (vs:=[.agg s.cells]) (by decide) (by simpa [Am.get]using h1) rfl (by simp [AV.dat]) (h s hs) (λ p hp=>by
  simp only [B6r,B7a,or_false]at hp;rcases hp with rfl|rfl|rfl
  ·refine⟨by simp,λ r hr v hv=> ?_⟩
   simp only [B6x]at hr;subst hr;simp only [B6r,B7a,or_false]at hv;rcases hv with rfl|rfl|rfl|rfl|rfl|rfl|rfl|rfl|rfl|rfl|rfl|rfl|rfl|rfl|rfl|rfl|rfl<;>rfl
  ·exact⟨by simp,λ r hr v hv=>Ba1 hr hv⟩
  ·refine⟨by simp,λ r hr v hv=> ?_⟩
   simp only [B6x]at hr;subst hr;simp only [B6r,B7a,or_false]at hv;rcases hv with rfl|rfl|rfl<;>rfl) (by simp [AV.inn,AV.in1]) (λ k aN=>by obtain⟨a,b,c⟩:=hk k aN;exact⟨a,by simp [b],c⟩)
theorem Bxu {S:PG}(h:A7m S){s:S6}(hs:ScG s){gs:FL}{ob:OL}(h1:get gs 1=none)(hk:A2k [129008,1000240] gs ob):
  U4 1 [129008,1000240] S ⟨(0,.agg s.cells)::gs,ob⟩=some ([.loc 129008 0 0],(129008,nrO s (.sl 1000240 s.cars.toNat 0 s.cars.toNat))::(1000240,hcO s s.cars.toNat)::ob):=
 Bto (vs:=[.agg s.cells]) (by decide) (by simpa [Am.get]using h1) rfl (by simp [AV.dat]) (h s hs) (λ p hp=>by
  simp only [B6r,B7a,or_false]at hp;rcases hp with rfl|rfl
  ·refine⟨by simp,λ r hr v hv=> ?_⟩
   simp only [B6x]at hr;subst hr;simp only [B6r,B7a,or_false]at hv;rcases hv with rfl|rfl|rfl|rfl|rfl|rfl|rfl|rfl|rfl|rfl|rfl|rfl|rfl|rfl|rfl|rfl|rfl|rfl<;>rfl
  ·exact⟨by simp,λ r hr v hv=>Ba1 hr hv⟩) (by simp [AV.inn,AV.in1]) (λ k aN=>by obtain⟨a,b,c⟩:=hk k aN;exact⟨a,by simp [b],c⟩)
def Bhx (s:S6)(p:Plc)(j:Nat):List Cr:=(Aeq s s.cars.toNat).set j (Atw p.c)
def ob8 (s:S6)(p:Plc)(j N:Nat)(vW vK:AV)(H:OL):OL:=
 (1000240,csO (Bhx s p j))::(1000567,csO (Bhx s p j))::(568009,wdO s 566036 1000567 s.cars.toNat 742000 N p.tick)::(742000,trO (zT N))::(566041,w9O s vW vK (.sl 1000240 s.cars.toNat 0 s.cars.toNat) N p.tick)::(129008,nrO s (.sl 1000240 s.cars.toNat 0 s.cars.toNat))::(568007,h0O)::(3,p39 p)::H
theorem B0v (Γ:H6)(M:Nat)(hM:200<M){SN SR:PG}(eN:Γ.pt 568=U4 1 [568009,1000567,568007] SN)(hN:Bs8 SN)(eR:Γ.pt 129=U4 1 [129008,1000240] SR)(hR:A7m SR)(eC:Γ.pt 742=M6 742000 7)(s:S6)(hs:ScG s)(p:Plc)(j:Nat)(hj:p.i=j)(fR:(j:Int)<s.cars)(N:Nat)(hN2:N<=100)(vW vK:AV)(H:OL){b:Nat}{ws:List W4}{ks:List K3}(hX:HX 566036 ws ks b H)(rP:∀k,vW.names k=false)(rQ:∀k,vK.names k=false):
  exec Γ M Asa ⟨[(2,.loc 2 0 0),(3,.loc 3 0 0),(5,.loc 5 0 0),(7,.loc 566036 0 0),(8,.loc 566041 0 0)],(566041,w9O s vW vK (.nil 6) N p.tick)::(5,c5O p.c)::(3,p39 p)::(2,⟨13,[Y9 s]⟩)::H⟩=exec Γ M Ar9 ⟨[(3,.loc 3 0 0),(8,.loc 566041 0 0),(10,.loc 568009 0 0)],ob8 s p j N vW vK H⟩:=by
 have aB:KT=18446744073709551616:=G1;have lI:=hs.cars;have i1:M2 566036 2=false/\M2 566036 3=false/\M2 566036 5=false/\M2 566036 566041=false:=by decide
 have i2:M2 566036 568009=false/\M2 566036 1000567=false/\M2 566036 568007=false/\M2 566036 129008=false/\M2 566036 1000240=false/\M2 566036 742000=false:=by decide
 have aX:∀os,A1 0 1000 os H=H:=λ os=>G4 hX (by omega) (.inr (.inl (by decide)))
 obtain⟨n,hn⟩:∃n:Nat,n=s.cars.toNat:=⟨_,rfl⟩;have hnc:s.cars=(n:Int):=by omega
 have hjn:j<n:=by omega
 have mU:(Aeq s n).length=n:=Amb s n;obtain⟨oH,zM,hoH⟩:=A7o hX.w;have e1:=λ gs ob h1 hk=>Bxt (gs:=gs) (ob:=ob) hN hs h1 hk
 have e2:=λ gs ob h1 hk=>Bxu (gs:=gs) (ob:=ob) hR hs h1 hk
 rw [<-eN,<-hn]at e1;rw [<-eR,<-hn]at e2;obtain⟨T,hT⟩:∃T,T=(zT N).map D2.cells:=⟨_,rfl⟩;have uH:T.length=N:=by rw [hT];simp [zT]
 have e3:∀gs ob,Am.get gs 1=none->K4 742000 gs=true->B8 742000 ob=true->Γ.pt 742 ⟨(0,.c (.vs 7 T))::gs,ob⟩=some ([.sl 742000 N 0 N],(742000,⟨7,T.map A4⟩)::del ob 742000):=λ gs ob h1 h2 h4=>by
  rw [eC];unfold M6;have h3:N<=1000000:=by omega
  have h5:=C3 (j:=742000) h4;simp [Am.get,h1,h2,h3,h5,uH]
 simp only [S6.cells]at e1 e2;simp only [w9O,<-hT,p39,hj];simp -implicitDefEqProofs (disch:=first|omega|(simp [aB,Bd6,Blx,T9 hX,i1,i2,rP,rQ];done)|assumption) [Asa,Bhv,Bhu,Bht,Bhs,aB,e1,e2,e3,zM,uH,hnc.symm,hjn,mU,T9 hX,aX,i1,i2,rP,rQ];have aW:=Art (cs:=Aeq s n) (c:=Atw p.c) (by rw [mU];exact hjn)
 have hTt:T.map A4=(zT N).map (A4∘D2.cells):=by rw [hT,B8c]
 simp only [ob8,Bhx,<-hn,csO,aW,wdO,Ahy,trO,p39,hj,w9O,<-hTt,hT];rfl
structure Bzb (r:InS)(c:Cr)(ts:List D2)(ws:List W4)(ks:List K3):Prop where
 c:r.c.rid.length<=c.rid.length+1
 t:r.ts.length=ts.length
 w:r.ws.length<=ws.length
 k:r.ks.length<=ks.length
theorem B20 (s:S6)(i tick f:Int)(c:Cr)(ts:List D2)(ws:List W4)(ks:List K3):Bzb (inS s i tick f c ts ws ks) c ts ws ks:=by
 have h1:∀p:W4->Bool,(ws.eraseP p).length<=ws.length:=λ p=>List.length_eraseP_le
 have h2:∀p:K3->Bool,(ks.eraseP p).length<=ks.length:=λ p=>List.length_eraseP_le
 unfold inS;split
 ·exact⟨by simp,rfl,B6u _,B6u _⟩
 ·split
  ·exact⟨by simp,rfl,B6u _,B6u _⟩
  ·split
   ·exact⟨by simp [Cr.plus],Azl _ _ _,h1 _,h2 _⟩
   ·exact⟨by simp [Cr.plus],Azl _ _ _,h1 _,B6u _⟩
theorem Bhy (s:S6)(i tick:Int)(c:Cr)(ts:List D2)(ws:List W4)(ks:List K3):Bzb (G5 s i tick c ts ws ks) c ts ws ks:=by
 have hm:∀p q,(Auj s c p q).rid=c.rid:=λ p q=>by unfold Auj;split<;>(try split)<;>(try split)<;>rfl
 unfold G5;split
 ·exact⟨by rw [hm];omega,rfl,B6u _,B6u _⟩
 split
 ·exact⟨by simp,rfl,B6u _,B6u _⟩
 split
 ·unfold G9;dsimp only;split
  ·exact⟨by simp [Cr.fin,Cr.without,A0y];omega,Azl _ _ _,B6u _,B6u _⟩
  ·rename_i h0;split
   ·rename_i gone c' bP bF bE h;have hb:=B20 s i tick (c.pos/s.gap) (A0y s i ⟨c.pos,c.dir,c.mode,0,c.waited,c.rid⟩ ws ks) ts ws ks;rw [h]at hb;exact⟨hb.c,hb.t,hb.w,hb.k⟩
   ·split
    ·exact⟨by simp,rfl,B6u _,B6u _⟩
    ·exact⟨by simp [Cr.fin,A0y],rfl,B6u _,B6u _⟩
 ·exact⟨by simp,rfl,B6u _,B6u _⟩
theorem Bhz {k:Nat}{x:AV}(h:x.names k=false):Am9 k x:=by
 have key:∀y:AV,y.names1 k=false->Aov [k] ([k],[]) y=true:=λ y hy=>by
  cases y<;>simp only [AV.names1,B8d,ne_eq]at hy<;>simp [Aov,hy]
 unfold Am9;cases x
 all_goals grind [AV.names,List.any_eq_false,Aow,List.all_eq_true]
theorem Bxv {k:Nat}{ob:OL}(h:B8 k ob=true):A6r k ob:=λ p hp _ r hr x hx=>Bhz (A5.1 (C8.1 h p hp) r hr x hx)
theorem Bly {α:Type}{f:α->List D}{k:Nat}{l:List α}:∀r∈l.map (A4∘f),∀x∈r,Am9 k x:=λ r hr x hx=>Bhz (A5.1 (Btb (f:=f) (l:=l) k) r hr x hx)
def Bmp (k:Nat)(rows:O4):Prop:=∀r∈rows,∀x∈r,Am9 k x
theorem Blz {α:Type}{f:α->List D}{k:Nat}{l:List α}:Bmp k (l.map (A4∘f)):=Bly
theorem Bl0 {k:Nat}{r:List AV}:Bmp k [r]↔∀x∈r,Am9 k x:=by simp [Bmp]
theorem B0w {k j:Nat}{o:Obj}{ob:OL}:A6r k ((j,o)::ob)↔(j≠k->Bmp k o.rows)/\A6r k ob:=Acw
theorem Bd7 {S:PG}(h:Anc S){s:S6}{tick:Int}{cs:List Cr}{c:Cr}{ts:List D2}{ws:List W4}{ks:List K3}{i rk rc:Nat}{vW vK:AV}(hG:SvG s c ts ws ks)(hc:cs[i]? =some c)(fP:cs.length<=100)(dP: -1000<=c.left)(fB:c.left<=1000)(wR:rk<KT)(hrc:rc<KT)(mY:rk≠rc)(rP:VsL 4 (ws.map U8) vW)(rQ:VsL 3 (ks.map U5) vK)
  {gs:FL}{ob:OL}(hg:get ob rk=some ⟨18,[[i64 s.floors,i64 s.gap,i64 s.cars,i64 s.capacity,i64 s.opn,i64 s.dwell,i64 s.cls,i64 s.transfer,.c (.vs 3 (s.segs.map Seg.cells)),i64 s.disp,i64 s.horizon,i64 s.bins,i64 s.width,vW,vK,.sl rc cs.length 0 cs.length,.c (.vs 7 (ts.map D2.cells)),i64 tick]]⟩)
  (hgc:get ob rc=some (csO cs))(h2:get gs 2=none)(gH:Bm2 rk gs)(aD:A6r rk (del ob rc)):
  Amd 2 S ⟨(0,.loc rk 0 0)::(1,i64 i)::gs,ob⟩=some ([bo (G5 s i tick c ts ws ks).gone],(rk,rfO s (vWs (G5 s i tick c ts ws ks).ws) (vKs (G5 s i tick c ts ws ks).ks) (.c (.vs 6 ((cs.set i (G5 s i tick c ts ws ks).c).map Cr.cells))) (vTs (G5 s i tick c ts ws ks).ts) tick)::del (del ob rc) rk):=by
 have e:=h s tick cs c ts ws ks i hG hc fP dP fB;obtain⟨R,hR⟩:∃R,R=G5 s i tick c ts ws ks:=⟨_,rfl⟩;rw [<-hR]at e ⊢;have aS:=Bml;have fW:∀fr,(⟨fr,ob⟩:St).frz vW=some (vWs ws,none):=λ fr=>by
  rcases rP with rfl|⟨h1,rfl⟩
  ·rfl
  ·simp [St.frz,vWs,h1]
 have fK:∀fr,(⟨fr,ob⟩:St).frz vK=some (vKs ks,none):=λ fr=>by
  rcases rQ with rfl|⟨h1,rfl⟩
  ·rfl
  ·simp [St.frz,vKs,h1]
 have fC:∀fr,(⟨fr,ob⟩:St).frz (.sl rc cs.length 0 cs.length)=some (.c (.vs 6 (cs.map Cr.cells)),some rc):=λ fr=>by
  grind [F7,A4,Cr.cells,G7,St.frz,St.view,List.length_map,List.take_of_length_le]
 have fT:∀fr,(⟨fr,ob⟩:St).frzs [i64 s.floors,i64 s.gap,i64 s.cars,i64 s.capacity,i64 s.opn,i64 s.dwell,i64 s.cls,i64 s.transfer,.c (.vs 3 (s.segs.map Seg.cells)),i64 s.disp,i64 s.horizon,i64 s.bins,i64 s.width,vW,vK,.sl rc cs.length 0 cs.length,.c (.vs 7 (ts.map D2.cells)),i64 tick]=some (Bap s (vWs ws) (vKs ks) (.c (.vs 6 (cs.map Cr.cells))) (vTs ts) tick,[rc]):=λ fr=>by
  simp only [St.frzs,fW,fK,fC];rfl
 have hfz2:∀(fr:FL)(OB:OL)(bF:List W4)(bE:List K3)(bP:List D2)(d:D),(⟨fr,OB⟩:St).frzs (Bap s (vWs bF) (vKs bE) (.c d) (vTs bP) tick)=some (Bap s (vWs bF) (vKs bE) (.c d) (vTs bP) tick,[]):=λ fr OB bF bE bP d=>
  Bfr _ [.int .i64 s.floors,.int .i64 s.gap,.int .i64 s.cars,.int .i64 s.capacity,.int .i64 s.opn,.int .i64 s.dwell,.int .i64 s.cls,.int .i64 s.transfer,.vs 3 (s.segs.map Seg.cells),.int .i64 s.disp,.int .i64 s.horizon,.int .i64 s.bins,.int .i64 s.width,.vs 4 (bF.map U8),.vs 3 (bE.map U5),d,.vs 7 (bP.map D2.cells),.int .i64 tick]
 exact Bta (n:=2) (z:=18) (rk:=rk) (vs:=[i64 i]) (ks:=[rc]) (bE:=[]) (js:=[]) (by decide) (by simp only [Go.Am.get];exact h2) rfl (by simp [AV.dat]) wR hg (fT _) (by simpa using mY) e rfl (hfz2 _ _ _ _ _ _) rfl (by simp) (λ p hp hq=>by
  simp only [B6r]at hp;rcases hp with rfl|rfl|hp
  ·have:(100000:Nat)<=0:=hq;omega
  ·have:(100000:Nat)<=1:=hq;omega
  ·exact gH p hp) aD
theorem cjI :type_of%(And.intro @Ar0<|And.intro @Ajg<|And.intro @Bxh<|And.intro @Bay<|And.intro @Azs @Azt):=And.intro @Ar0<|And.intro @Ajg<|And.intro @Bxh<|And.intro @Bay<|And.intro @Azs @Azt
theorem cjW :type_of%(And.intro @Blh<|And.intro @Bli<|And.intro @Blj<|And.intro @Blk<|And.intro @Bll<|And.intro @Bdu<|And.intro @Blm<|And.intro @Bfq<|And.intro @Bln<|And.intro @Blo<|And.intro @Bq3<|And.intro @Bxj<|And.intro @Bho<|And.intro @Bxk<|And.intro @Bhp<|And.intro @Bxl<|And.intro @Bxm<|And.intro @Bq4 @Bxn):=And.intro @Blh<|And.intro @Bli<|And.intro @Blj<|And.intro @Blk<|And.intro @Bll<|And.intro @Bdu<|And.intro @Blm<|And.intro @Bfq<|And.intro @Bln<|And.intro @Blo<|And.intro @Bq3<|And.intro @Bxj<|And.intro @Bho<|And.intro @Bxk<|And.intro @Bhp<|And.intro @Bxl<|And.intro @Bxm<|And.intro @Bq4 @Bxn
variable {hk b : Nat} {ws : List W4} {ks : List K3} {H : OL}
theorem Bxw (h:HX hk ws ks b H):type_of%(And.intro (λ wk ck tk=>By7 (wk:=wk) (ck:=ck) (tk:=tk) h)<|And.intro (λ wk ck tk=>Btf (wk:=wk) (ck:=ck) (tk:=tk) h) (λ wk ck tk cn tn=>Bxi (wk:=wk) (ck:=ck) (tk:=tk) (cn:=cn) (tn:=tn) h)):=And.intro (λ wk ck tk=>By7 (wk:=wk) (ck:=ck) (tk:=tk) h)<|And.intro (λ wk ck tk=>Btf (wk:=wk) (ck:=ck) (tk:=tk) h) (λ wk ck tk cn tn=>Bxi (wk:=wk) (ck:=ck) (tk:=tk) (cn:=cn) (tn:=tn) h)
def ob9 (s:S6)(tick:Int)(cs:List Cr)(ts:List D2)(ws:List W4)(ks:List K3)(H:OL):OL:=
 (566041,rfO s (vWs ws) (vKs ks) (.c (.vs 6 (cs.map Cr.cells))) (vTs ts) tick)::(568009,wdO s 566036 1000567 cs.length 742000 ts.length tick)::(1000567,csO cs)::(742000,trO ts)::(129008,nrO s (.sl 1000240 s.cars.toNat 0 s.cars.toNat))::(568007,h0O)::H
theorem B0x (Γ:H6)(M:Nat)(hM:200<M){SS SD:PG}(eS:Γ.pt 570=Ajy SS)(hS:A2i SS)(eD:Γ.pt 573=Amd 2 SD)(hD:Anc SD)
  (s:S6)(hs:ScG s)(p:Plc)(j N:Nat)(hj:p.i=j)(fR:(j:Int)<s.cars)(hN2:N<=100)(vW vK:AV)(H:OL){b:Nat}(hb:b<=60){ws:List W4}{ks:List K3}(hX:HX 566036 ws ks b H)(rP:VsL 4 (ws.map U8) vW)(rQ:VsL 3 (ks.map U5) vK)(hG:SvG s (Atw p.c) (zT N) ws ks)(dP:0<=p.c.left)(fB:p.c.left<=64)(qK:ws.length<=20)(eE:ks.length<=20)
  (hT:∀R,R=G5 s j p.tick (Atw p.c) (zT N) ws ks->∀H' b',HX 566036 R.ws R.ks b' H'->∀C,C=(Bhx s p j).set j R.c->C.length=s.cars.toNat->
   Bd5 (exec Γ M Ar8 ⟨[(8,.loc 566041 0 0),(10,.loc 568009 0 0),(11,bo R.gone),(12,bo R.gone)],ob9 s p.tick C R.ts R.ws R.ks H'⟩)):
  Bd5 (exec Γ M Ar9 ⟨[(3,.loc 3 0 0),(8,.loc 566041 0 0),(10,.loc 568009 0 0)],ob8 s p j N vW vK H⟩):=by
 have aB:KT=18446744073709551616:=G1;obtain⟨n,hn⟩:∃n:Nat,n=s.cars.toNat:=⟨_,rfl⟩;have lI:=hs.cars;have hjn:j<n:=by omega
 have mU:(Aeq s n).length=n:=Amb s n;obtain⟨C,hC⟩:∃C,C=Bhx s p j:=⟨_,rfl⟩;have jY:C.length=n:=by rw [hC,Bhx,List.length_set,<-hn,mU]
 have hCj:C[j]? =some (Atw p.c):=by rw [hC,Bhx,<-hn,List.getElem?_set_self (by rw [mU];exact hjn)]
 have uH:(zT N).length=N:=by simp [zT]
 have hI:inW 566036 568009 1000567 742000 (ob8 s p j N vW vK H)=(1000567,csO C)::(568009,wdO s 566036 1000567 n 742000 N p.tick)::(742000,trO (zT N))::H:=by
  unfold ob8;rw [<-hC,<-hn,Ajg (by decide),Ar0 (by decide),Ar0 (by decide),Ar0 (by decide),Ajg (by decide),Ajg (by decide),Ajg (by decide),Ajg (by decide),By7 hX]
 have sI:=hX.w;have hO:U7 Avp ((1000567,csO C)::(568009,wdO s 566036 1000567 n 742000 N p.tick)::(742000,trO (zT N))::H):=by
  have h1:=hX.no (fs:=Avp) (by decide) (by decide)
  simp [Afx,Ana,E9,Aet,Auu,h1,M5,aB]
 have hF:NoF Avp (g4 566036 568009 1000567 C.length 742000 N):=by
  simp [g4,K5,Aeu,Aet,Auu,M5,aB]
 have hW:HW 566036 ws ks b ((1000567,csO C)::(568009,wdO s 566036 1000567 n 742000 N p.tick)::(742000,trO (zT N))::H):=by
  have bI:CK=900000000000000000:=rfl;refine A6o (A6o (A6o hX.w (by decide) (by decide) Bhj) (by decide) (by decide) (B2s λ v hv k hk=> ?_)) (by decide) (by decide) Bhj
  simp only [B6r,B7a,or_false]at hv;rcases hv with rfl|rfl|rfl|rfl|rfl|rfl|rfl|rfl|rfl|rfl|rfl|rfl|rfl|rfl|rfl|rfl|rfl<;>first|rfl|(simp only [AV.names,AV.names1,B8d,ne_eq];omega)
 obtain⟨H',bC,e1⟩:=Blg hS s 568009 566036 1000567 742000 N j p.tick C (Atw p.c) (zT N) ws ks b ((1000567,csO C)::(568009,wdO s 566036 1000567 n 742000 N p.tick)::(742000,trO (zT N))::H) hs hG.cr (by show -1000000<=p.c.left;omega) (by show p.c.left<=1000000;omega) hO hF hW hG.lr (by rw [<-uH];exact hG.rid) (by rw [<-uH];exact hG.wid) uH (by omega) (by omega) (by omega) (by omega) hCj (by simp [Am.get,jY]) (by simp [Am.get]) (by simp [Am.get]) (by decide) (by decide) (by decide) (by decide) (by decide) (by decide) (by decide) (by decide) (by decide) (by decide) (by omega)
 rw [<-hI,jY,<-eS]at e1;obtain⟨R,hR⟩:∃R,R=G5 s j p.tick (Atw p.c) (zT N) ws ks:=⟨_,rfl⟩;rw [<-hR]at e1 bC;have e2:=λ gs ob=>Bd7 (gs:=gs) (ob:=ob) hD (rk:=566041) (rc:=1000240) (tick:=p.tick) (i:=j) (vW:=vW) (vK:=vK) hG hCj (by omega) (by show -1000<=p.c.left;omega) (by show p.c.left<=1000;omega) (by decide) (by decide) (by decide) rP rQ
 rw [<-eD,<-hR,jY]at e2;obtain⟨C2,rN⟩:∃C2,C2=C.set j R.c:=⟨_,rfl⟩;rw [<-rN]at e1 e2;have i1:M2 566036 1000240=false/\M2 566036 1000567=false/\M2 566036 568009=false/\M2 566036 742000=false/\M2 566036 566041=false/\M2 566036 129008=false/\M2 566036 568007=false/\M2 566036 3=false:=by decide
 have w0:F8 566036 568009 1000567 742000 1000240=false/\F8 566036 568009 1000567 742000 566041=false/\F8 566036 568009 1000567 742000 129008=false/\F8 566036 568009 1000567 742000 568007=false/\F8 566036 568009 1000567 742000 3=false/\F8 566036 568009 1000567 742000 1000567=true/\F8 566036 568009 1000567 742000 568009=true/\F8 566036 568009 1000567 742000 742000=true:=by decide
 have qE:A6r 566041 H':=Bxv (Bue bC (by decide))
 have aX:∀os,A1 0 1000 os H'=H':=λ os=>G4 bC (by omega) (.inr (.inl (by decide)))
 rw [hI]at e1;have oV:∀z l v,VsL z l v->Alk 566036 568009 1000567 n 742000 N v:=λ z l v h=>by
  rcases h with rfl|⟨_,rfl⟩
  ·exact Bfq _
  ·exact Bho _
 have oW:=oV _ _ _ rP;have oK:=oV _ _ _ rQ;have zX:C2.length=n:=by rw [rN,List.length_set,jY]
 have hRt:R.ts.length=N:=by rw [hR,(Bhy s j p.tick (Atw p.c) (zT N) ws ks).t,uH]
 have h9:=hT R hR H' b bC C2 (by rw [rN,hC]) (by rw [zX,hn])
 have dB:exec Γ M Ar9 ⟨[(3,.loc 3 0 0),(8,.loc 566041 0 0),(10,.loc 568009 0 0)],ob8 s p j N vW vK H⟩=exec Γ M Ar8 ⟨[(8,.loc 566041 0 0),(10,.loc 568009 0 0),(11,bo R.gone),(12,bo R.gone)],ob9 s p.tick C2 R.ts R.ws R.ks H'⟩:=by
  simp only [ob8,<-hC,<-hn,p39,hj,w9O];simp -implicitDefEqProofs (disch:=first|omega|(simp [aB,T9 bC,cjI,cjW,Bxw hX,Bxw bC,w0,oW,oK,i1,Ae1,Acv,Ae2,B0w,Blz,Bl0,Aqc,Ae3,Ae4,Ae5,Ae6,Ajh,Bxo,qE];done)|assumption) [Ar9,aB,e1,e2,T9 hX,T9 bC,aX,i1,w0,cjI,cjW,Bxw hX,Bxw bC];simp only [ob9,zX,hRt,<-hn]
 rw [dB];exact h9
theorem B0y (Γ:H6)(M:Nat)(hM:200<M){SW:PG}(eW:Γ.pt 560=Aji SW)(hW:Btm SW)(hSt:A7n (Γ.pt 561))(hCa:Aqb (Γ 559))(hA:Γ 558 []=some [bo true])
  (s:S6)(tick:Int)(g:Bool)(cs:List Cr)(ts:List D2)(ws:List W4)(ks:List K3)(H:OL){b:Nat}(hX:HX 566036 ws ks b H)(hL:StL cs ws ks ts):
  Bd5 (exec Γ M Ar8 ⟨[(8,.loc 566041 0 0),(10,.loc 568009 0 0),(11,bo g),(12,bo g)],ob9 s tick cs ts ws ks H⟩):=by
 have aB:KT=18446744073709551616:=G1;have e1:=λ gs ob=>Bd4 (gs:=gs) (ob:=ob) hW s 566036 tick cs ts ws ks b H hX (by decide) (by decide) (by decide) (by decide) (by decide) hL (by decide)
 rw [<-eW]at e1;have e2:=λ gs ob h1 h2 h3=>hSt s 566041 ws ws ks ks cs cs ts ts tick tick gs ob h1 h2 hL hL h3
 have e3:=hCa cs cs hL.c hL.c hL.r hL.r;simp only [and_self,decide_true]at e2 e3;have cW:=hX.no (fs:=[561]) (by decide) (by decide)
 have i1:M2 566036 1000240=false/\M2 566036 1000567=false/\M2 566036 568009=false/\M2 566036 742000=false/\M2 566036 566041=false/\M2 566036 129008=false/\M2 566036 568007=false:=by decide
 have w0:F8 566036 568009 1000567 742000 1000240=false/\F8 566036 568009 1000567 742000 566041=false/\F8 566036 568009 1000567 742000 129008=false/\F8 566036 568009 1000567 742000 568007=false/\F8 566036 568009 1000567 742000 1000567=true/\F8 566036 568009 1000567 742000 568009=true/\F8 566036 568009 1000567 742000 742000=true:=by decide
 have aX:∀os,A1 0 1000 os H=H:=λ os=>G4 hX (by omega) (.inr (.inl (by decide)))
 have ht:List.take cs.length (cs.map Cr.cells)=cs.map Cr.cells:=B6y (by simp)
 unfold Bd5;simp only [ob9];simp -implicitDefEqProofs (disch:=first|omega|(simp [aB,T9 hX,cjI,cjW,Bxw hX,w0,i1,Afx,Agv,K5,Aeu,Ana,E9,Aet,Auu,D8,B0a,N3,M5,cW];done)|assumption) [Ar8,aB,e1,e2,e3,hA,T9 hX,aX,i1,w0,ht,Ase]
end Go.Am
namespace Go.Am
theorem Bra {l:List Rd}{r:Rd}(h:r∈Alm l):0<=r.id/\r.id<l.length:=by
 grind [Alm,List.mem_zipIdx]
theorem Brb {n:Nat}{l:List W4}{w:W4}(h:w∈Acr n l):(n:Int)<=w.1/\w.1<n+l.length:=by
 grind [Acr,List.mem_zipIdx]
structure B21 (Γ:H6) where
 W:Bti (Γ 562)
 c1:Γ.pt 743=M6 743000 2
 c2:Γ.pt 742=M6 742000 7
 SH:PG
 eH:Γ.pt 566=Aqe SH
 H:∀s p,ScG s->p.c.rid.length<=100->(p.ws.length<=20/\p.ks.length<=20/\0<=p.i/\p.i<s.cars/\(∀k∈p.ks,Afy s k)/\(∀w∈p.ws,W6 s w)/\Bd0 s p SH)\/Ba0 s p SH
 SN:PG
 eN:Γ.pt 568=U4 1 [568009,1000567,568007] SN
 N:Bs8 SN
 SR:PG
 eR:Γ.pt 129=U4 1 [129008,1000240] SR
 R:A7m SR
 SS:PG
 eS:Γ.pt 570=Ajy SS
 S:A2i SS
 SD:PG
 eD:Γ.pt 573=Amd 2 SD
 D:Anc SD
 SW:PG
 eW:Γ.pt 560=Aji SW
 WS:Btm SW
 St:A7n (Γ.pt 561)
 Ca:Aqb (Γ 559)
 A:Γ 558 []=some [bo true]
theorem An2 (Γ:H6)(M:Nat)(hM:200<M)(X:B21 Γ)(s:S6)(p:Plc)(dR:s.segs.length<=maxLen)(eQ:p.c.rid.length<=maxLen):run Γ M O6 [.agg s.cells,.agg p.cells]=some [bo true]:=by
 refine B0t Γ M hM X.W X.c1 s p dR eQ λ h1 h2 h3 h4 h5 h6 ob gR=> ?_
 have hs:=(A6s h2).1;refine B0u Γ M hM X.eH s p (X.H s p hs (by omega)) h4 (λ vW vK H b rP rQ hX hb k1 k2 k3 k4 k6=> ?_) ob gR
 obtain⟨j,hj⟩:∃j:Nat,p.i=j:=⟨p.i.toNat,by omega⟩
 obtain⟨a1,a2,a3,a4,a5,a6,a7,a8,a9⟩:=h3;have hg:=hs.gap;have hf:=hs.floors;have hc:=hs.cars;have nv:∀z l v,VsL z l v->∀k,v.names k=false:=λ z l v h k=>by rcases h with rfl|⟨_,rfl⟩<;>rfl
 rw [B0v Γ M hM X.eN X.N X.eR X.R X.c2 s hs p j hj (by omega) (p.c.rid.length+p.ws.length) (by omega) vW vK H hX (nv _ _ _ rP) (nv _ _ _ rQ)]
 have hmul:(s.floors-1)*s.gap<=127*16:=B9r (by omega) (by omega) (by omega) (by omega)
 have jH:=Aq2 p.c.rid;have lO:=Ahz p.c.rid.length p.ws;have uH:(zT (p.c.rid.length+p.ws.length)).length=p.c.rid.length+p.ws.length:=by simp [zT]
 have lK:=A4b p.ks;have hG:SvG s (Atw p.c) (zT (p.c.rid.length+p.ws.length)) (Acr p.c.rid.length p.ws) (F3 p.ks):=by
  refine⟨hs,⟨⟨a1,by show p.c.pos<=100000;omega⟩,⟨a3,a4⟩,by show (Alm p.c.rid).length<=100;omega⟩,λ w hw=> ?_,by omega,by omega,by show (Alm p.c.rid).length<100;omega,λ r hr=> ?_,λ w hw=> ?_,by omega⟩
  ·obtain⟨_,_,_,_,_,_,_,_,_,_,_,_,_,gD⟩:=hX.w;exact gD w hw
  ·have:=Bra hr;omega
  ·obtain⟨b1,b2⟩:=Brb hw;omega
 refine B0x Γ M hM X.eS X.S X.eD X.D s hs p j _ hj (by omega) (by omega) vW vK H hb hX rP rQ hG a6 a7 (by omega) (by omega) λ R hR H' b' bC C hC jY=> ?_
 have hB:=Bhy s j p.tick (Atw p.c) (zT (p.c.rid.length+p.ws.length)) (Acr p.c.rid.length p.ws) (F3 p.ks);rw [<-hR]at hB;have hRc:=hB.c;have nV:(Atw p.c).rid.length=p.c.rid.length:=jH;refine B0y Γ M hM X.eW X.WS X.St X.Ca X.A s p.tick R.gone C R.ts R.ws R.ks H' bC ⟨by omega,λ c yT=> ?_,by have:=hB.w;omega,by have:=hB.k;omega,by have:=hB.t;omega⟩
 rw [hC]at yT;rcases List.mem_or_eq_of_mem_set yT with h|rfl
 ·unfold Bhx at h;rcases List.mem_or_eq_of_mem_set h with h|rfl
  ·unfold Aeq at h;obtain⟨i,_,rfl⟩:=B6z.1 h;exact B81 _
  ·omega
 ·omega
end Go.Am
