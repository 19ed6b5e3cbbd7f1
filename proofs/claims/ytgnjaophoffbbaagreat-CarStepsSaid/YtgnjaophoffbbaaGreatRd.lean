import Derived.Test.YtgnjaophoffbbaaGreatRa
import Derived.Test.YtgnjaophoffbbaaGreatFa
import Derived.Test.YtgnjaophoffbbaaGreatFb
set_option maxRecDepth 20000
set_option maxHeartbeats 4000000
set_option linter.unusedVariables false
set_option linter.unusedSimpArgs false
namespace Go.Am
abbrev vWs (ws:List W4):AV:= .c (.vs 4 (ws.map U8))
abbrev vKs (ks:List K3):AV:= .c (.vs 3 (ks.map U5))
abbrev vTs (ts:List D2):AV:= .c (.vs 7 (ts.map D2.cells))
abbrev W7 (s:S6)(ws:List W4)(ks:List K3)(d:D)(ts:List D2)(tick:Int):OL:=[(7,rfO s (vWs ws) (vKs ks) (.c d) (vTs ts) tick)]
abbrev g7 :FL:=[(100000,.loc 7 0 0)]
structure SvG (s:S6)(c:Cr)(ts:List D2)(ws:List W4)(ks:List K3):Prop where
 sc:ScG s
 cr:CrG c
 sm:∀w∈ws,SmW w
 lw:ws.length<=400
 lk:ks.length<=400
 lr:c.rid.length<100
 rid:∀r∈c.rid,0<=r.id/\r.id<ts.length
 wid:∀w∈ws,0<=w.1/\w.1<ts.length
 lt:ts.length<=1000000
def A04 (g:PG):Prop:=∀(s:S6)(d:D)(tick:Int)(c:Cr)(ts:List D2)(ws:List W4)(ks:List K3)(i:Int),SvG s c ts ws ks->0<=i->
 g ⟨(0,.loc 7 0 0)::(1,.agg c.cells)::(2,i64 i)::g7,W7 s ws ks d ts tick⟩=some ([.agg (G9 s i tick c ts ws ks).c.cells,bo (G9 s i tick c ts ws ks).gone],W7 s (G9 s i tick c ts ws ks).ws (G9 s i tick c ts ws ks).ks d (G9 s i tick c ts ws ks).ts tick)
theorem Auy (Γ:H6)(M:Nat)(hM:200<M)(hSe:Bub (Γ.pt 605))(lT:Avl (Γ 586))(hU:Bua (Γ.pt 606))(sP:B1n (Γ.pt 589))(hFu:Agt (Γ 608))(hTr:Bmi (Γ.pt 607))(jY:Bt9 (Γ.pt 590)):A04 (H9 Γ M Z7):=by
 rintro s d tick ⟨ps,di,mo,le,wa,rs⟩ ts ws ks i ⟨hs,eX,gD,wT,iS,hl,dH,iC,iH⟩ hi0;have aB:KT=18446744073709551616:=G1;obtain⟨p1,p2⟩:=eX.pos;obtain⟨q1,q2⟩:=eX.dir;obtain⟨r1,r2⟩:=hs.gap;dsimp only at p1 p2 q1 q2 hl dH;obtain⟨f,hf⟩:∃f,f=ps/s.gap:=⟨_,rfl⟩;have f1:0<=f:=by rw [hf];exact B89 p1 (by omega)
 have f2:f<=ps:=by rw [hf];exact B9h _ p1
 obtain⟨sg,kV⟩:∃x,x=Alc ⟨ps,di,mo,le,wa,rs⟩ s.capacity (L2 ws ks i 1) (L2 ws ks i (-1)):=⟨_,rfl⟩;have e3:=lT sg f di ⟨by omega,by omega⟩ ⟨q1,q2⟩
 obtain⟨fd,gV⟩:∃x,x=Agu sg f di:=⟨_,rfl⟩;rw [<-gV]at e3;have eS:∀bJ OB,U7 [605,575] OB->NoF [605,575] bJ->Am.get OB 7=some (rfO s (vWs ws) (vKs ks) (.c d) (vTs ts) tick)->_:=λ bJ OB h1 h2 h3=>hSe s 7 _ _ _ _ tick ws ks ⟨ps,di,mo,le,wa,rs⟩ i bJ OB h1 h2 (.inl rfl) (.inl rfl) gD wT iS (Nat.le_of_lt hl) h3
 rw [<-kV]at eS;obtain⟨c1,fF⟩:∃x:Cr,x=⟨ps,fd,3,le,wa,rs⟩:=⟨_,rfl⟩;have aK:A0y s i ⟨ps,di,mo,le,wa,rs⟩ ws ks=c1:=by
  grind [A0y]
 have eO:∀bJ OB,U7 [606,607] OB->NoF [606,607] bJ->Am.get OB 7=some (rfO s (vWs ws) (vKs ks) (.c d) (vTs ts) tick)->_:=λ bJ OB h1 h2 h3=>hU s 7 _ _ _ _ tick f c1 ts bJ OB h1 h2 (.inl rfl) (by rw [fF];exact Nat.le_of_lt hl) (by rw [fF];exact dH) iH (by omega) h3
 have hrs1:c1.rid=rs:=by rw [fF]
 rw [hrs1]at eO;have nU:ps/s.gap=f:=hf.symm;cases hx:Aar f rs 0 with
 |some k=>
  obtain⟨z,hz⟩:∃z:Int,(match rs[k]? with|some r=>r.id|none=>0)=z:=⟨_,rfl⟩
  have wV:G9 s i tick ⟨ps,di,mo,le,wa,rs⟩ ts ws ks=⟨true,false,(c1.without k).fin s.transfer false,Akg ts z (λ t=>t.out tick),ws,ks⟩:=by
   grind [G9]
  rw [wV];obtain⟨bP,iT⟩:∃x,x=Akg ts z (λ t=>t.out tick):=⟨_,rfl⟩
  have eO:∀bJ OB,U7 [606,607] OB->NoF [606,607] bJ->Am.get OB 7=some (rfO s (vWs ws) (vKs ks) (.c d) (vTs ts) tick)->Γ.pt 606 ⟨(0,.loc 7 0 0)::(1,.agg c1.cells)::(2,i64 f)::bJ,OB⟩=some ([.agg (c1.without k).cells,bo true],(7,rfO s (vWs ws) (vKs ks) (.c d) (vTs bP) tick)::del OB 7):=λ bJ OB h1 h2 h3=>by
   grind [A2j]
  rw [<-iT];obtain⟨c2,dL⟩:∃x,x=c1.without k:=⟨_,rfl⟩;rw [<-dL]at eO ⊢;obtain⟨p',d',m',l',w',uM⟩:=c2;rw [fF]at eO;simp only [rfO,Cr.cells,sgD]at eO eS e3 ⊢;simp -implicitDefEqProofs (disch:=first|omega|(simp [Afx,Agv,K5,Aeu,E9,D8,Aet,N3,W5,M5,aB];done)|assumption) [eS,e3,eO,nU,Cr.fin]
 |none=>
  rw [hx]at eO;simp only [A2j]at eO;obtain⟨cc,fO⟩:∃cc,cc=(if s.disp=4 then i else -1):=⟨_,rfl⟩
  have fM:A7k s i f fd=(f,fd,cc):=by rw [fO];rfl
  have eF:∀bJ OB,U7 [589] OB->NoF [589] bJ->Am.get OB 7=some (rfO s (vWs ws) (vKs ks) (.c d) (vTs ts) tick)->_:=λ bJ OB h1 h2 h3=>sP s 7 _ _ _ _ tick ws f fd cc bJ OB h1 h2 (.inl rfl) gD (by omega) h3
  have eFu:=hFu c1 s.capacity (by rw [fF];exact Nat.le_of_lt hl)
  have oC:=Aep (isW (f,fd,cc)) ws 0;have vV:A0y s i ⟨ps,di,mo,le,wa,rs⟩ ws ks=⟨ps,fd,3,le,wa,rs⟩:=by rw [aK,fF]
  obtain⟨fi,lV⟩:∃x,x=oI (Acq (isW (f,fd,cc)) ws 0):=⟨_,rfl⟩;rw [<-lV]at eF;rw [fF]at eO;rw [fF]at eFu;simp only [rfO,Cr.cells,sgD]at eO eS e3 eF eFu;by_cases cW:fd=0\/s.capacity<=rs.length\/Acq (isW (f,fd,cc)) ws 0=none
  ·have aP:inS s i tick f ⟨ps,fd,3,le,wa,rs⟩ ts ws ks=⟨false,false,⟨ps,fd,3,le,wa,rs⟩,ts,ws,ks⟩:=by
    grind [inS,Acq,isW]
   have wV:G9 s i tick ⟨ps,di,mo,le,wa,rs⟩ ts ws ks=if wa then⟨true,false,⟨ps,fd,4,s.cls,false,rs⟩,ts,ws,ks⟩else⟨true,false,⟨ps,fd,3,s.dwell,true,rs⟩,ts,ws,ks⟩:=by
    unfold G9;dsimp only;rw [<-hf,hx];dsimp only;rw [vV,aP];rfl
   have hfil:fd=0\/(¬fd=0/\fi<0)\/(¬fd=0/\¬fi<0/\decide (s.capacity<=(rs.length:Int))=true):=by
    grind [oI]
   rw [wV];have vX:(s.disp=4/\cc=i)\/(¬s.disp=4/\cc= -1):=by
    grind
   have hwa:wa=true\/wa=false:=by cases wa<;>simp
   rcases hwa with rfl|rfl<;>rcases vX with ⟨h4,rfl⟩|⟨h4,rfl⟩<;>rcases hfil with h0|⟨h0,h1⟩|⟨h0,h1,h2⟩
   all_goals first
    |subst h0
     simp -implicitDefEqProofs (disch:=first|omega|(simp [Afx,Agv,K5,Aeu,E9,D8,Aet,N3,W5,M5,aB];done)|assumption) [eS,e3,eO,nU,Cr.fin,eF,eFu,h4]
    |have zO:¬0<=fi:=by omega
     simp -implicitDefEqProofs (disch:=first|omega|(simp [Afx,Agv,K5,Aeu,E9,D8,Aet,N3,W5,M5,aB];done)|assumption) [eS,e3,eO,nU,Cr.fin,eF,eFu,h4,h0,h1,zO]
    |have h1c:0<=fi:=by omega
     simp -implicitDefEqProofs (disch:=first|omega|(simp [Afx,Agv,K5,Aeu,E9,D8,Aet,N3,W5,M5,aB];done)|assumption) [eS,e3,eO,nU,Cr.fin,eF,eFu,h4,h0,h1,h1c,h2]
  ·have h0:¬fd=0:=λ h=>cW (.inl h)
   have h2:¬s.capacity<=(rs.length:Int):=λ h=>cW (.inr (.inl h))
   have bH:=Ama (isW (f,fd,cc)) ws 0;cases hfs:Acq (isW (f,fd,cc)) ws 0 with
   |none=>exact absurd (.inr (.inr hfs)) cW
   |some m=>
   rw [hfs]at oC bH lV;simp only [B7u]at oC bH;obtain⟨_,rfl,dT,hany,vL⟩:=oC;obtain⟨_,rfl,hjl2,hpw,hbef⟩:=bH;simp only [oI]at lV;subst lV;obtain⟨w,hw⟩:∃w,ws[m]'dT=w:=⟨_,rfl⟩;rw [hw]at hpw;have eZ:w∈ws:=by rw [<-hw];exact B8e dT
   have vY:=iC w eZ;obtain⟨w1,w2,w3,w4⟩:=w;dsimp only at vY;have lO:w1.toNat<ts.length:=by omega
   obtain⟨t,ht⟩:∃t,ts[w1.toNat]'lO=t:=⟨_,rfl⟩;have hsT:=Bhg (h:=λ t=>t.inn i tick) lO ht
   obtain⟨bF,qU⟩:∃x,x=ws.eraseP (isW (f,fd,cc)):=⟨_,rfl⟩;have dM:ws.filter (isW (f,fd,cc))=(w1,w2,w3,w4)::bF.filter (isW (f,fd,cc)):=by
    have e:=Acp (isW (f,fd,cc)) ws;rw [<-qU]at e;rw [e];have qN:ws=ws.take m++(w1,w2,w3,w4)::ws.drop (m+1):=by
     rw [<-hw,List.getElem_cons_drop,List.take_append_drop]
    have zP:(ws.take m).filter (isW (f,fd,cc))=[]:=B8g.2 λ a ha=>by
     obtain⟨n,uT,iH⟩:=List.getElem_of_mem ha;rw [B7l]at uT;rw [List.getElem_take]at iH;rw [<-iH,hbef n (by omega) (by omega)];simp
    rw [qN,B8i,zP,B7j,B8j hpw];rfl
   have tC:=Aep (isW (f,fd,cc)) bF 0;have hla:bF.length<=400:=by
    have:=List.length_eraseP_le (p:=isW (f,fd,cc)) (l:=ws);rw [<-qU]at this;omega
   have hsm':∀w∈bF,SmW w:=λ w hw=>gD w (by rw [qU]at hw;exact List.mem_of_mem_eraseP hw)
   obtain⟨X,hX⟩:∃X,X=(ws.take m).map U8:=⟨_,rfl⟩;obtain⟨Y,hY⟩:∃Y,Y=(ws.drop (m+1)).map U8:=⟨_,rfl⟩;have hX1:(ws.map U8).take m=X:=by rw [hX,B8o]
   have hY1:((ws.map U8).drop (m+1)).take (ws.length-(m+1))=Y:=by rw [hY,<-B86,B6y (by rw [B6s,B70];omega)]
   have nJ:X.length=m:=by rw [hX,B6s,B7l];omega
   have nK:Y.length=ws.length-(m+1):=by rw [hY,B6s,B70]
   have wW:bF.map U8=X++Y:=by rw [qU,vL,B60,hX,hY]
   have mT:F7 (X.map A4++Y.map A4)=some (X++Y):=by rw [<-B60,G6]
   have dC:(X++Y).take (m+(ws.length-(m+1)))=X++Y:=B6y (by rw [B67];omega)
   obtain⟨R,hR⟩:∃R,R=rs.map Rd.cells:=⟨_,rfl⟩;have oP:R.length=rs.length:=by rw [hR,B6s]
   have tD:F7 (R.map A4++[[i64 w1,i64 w3]])=some (R++[[.int .i64 w1,.int .i64 w3]]):=by
    have:=G6 (R++[[.int .i64 w1,.int .i64 w3]]);rw [B60]at this;exact this
   have tE:(R++[[D.int .i64 w1,D.int .i64 w3]]).take (rs.length+1)=R++[[.int .i64 w1,.int .i64 w3]]:=B6y (by rw [B67,oP];simp)
   have zB:((⟨ps,fd,3,le,wa,rs⟩:Cr).plus ⟨w1,w3⟩).rid.map Rd.cells=R++[[.int .i64 w1,.int .i64 w3]]:=by
    simp only [Cr.plus,B60,<-hR];rfl
   obtain⟨bP,iT⟩:∃x,x=Akg ts w1 (λ t=>t.inn i tick):=⟨_,rfl⟩
   have eT:∀bJ OB,U7 [607] OB->NoF [607] bJ->Am.get OB 7=some (rfO s (.c (.vs 4 (X++Y))) (vKs ks) (.c d) (vTs ts) tick)->_:=λ bJ OB h1 h2 h3=>hTr s 7 _ _ _ _ tick ts w1 (t.inn i tick) bJ OB h1 h2 (.inl rfl) vY.1 vY.2 iH (by omega) h3
   rw [<-hsT,<-iT]at eT;have eF2:∀bJ OB,U7 [589] OB->NoF [589] bJ->Am.get OB 7=some (rfO s (.c (.vs 4 (X++Y))) (vKs ks) (.c d) (vTs bP) tick)->_:=λ bJ OB h1 h2 h3=>sP s 7 _ _ _ _ tick bF f fd cc bJ OB h1 h2 (.inl (by rw [wW])) hsm' (by omega) h3
   have eC:∀bJ OB,U7 [590] OB->NoF [590] bJ->Am.get OB 7=some (rfO s (.c (.vs 4 (X++Y))) (vKs ks) (.c d) (vTs bP) tick)->_:=λ bJ OB h1 h2 h3=>jY s 7 _ _ _ _ tick ks f fd bJ OB h1 h2 (.inl rfl) (by omega) h3
   obtain⟨t1,t2,t3,t4,t5,t6,t7⟩:=t;simp only [D2.inn,D2.cells,rfO,Bap,vTs]at eT eF2 eC;obtain⟨VT,qR⟩:∃VT:D,VT= .vs 7 (bP.map D2.cells):=⟨_,rfl⟩;simp only [<-qR]at eT eF2 eC;have aP:inS s i tick f ⟨ps,fd,3,le,wa,rs⟩ ts ws ks=if cc<0/\bF.filter (isW (f,fd,cc))=[]then⟨true,ks.any (T8 f fd),(⟨ps,fd,3,le,wa,rs⟩:Cr).plus ⟨w1,w3⟩,bP,bF,ks.eraseP (T8 f fd)⟩else⟨true,false,(⟨ps,fd,3,le,wa,rs⟩:Cr).plus ⟨w1,w3⟩,bP,bF,ks⟩:=by
    simp only [inS];rw [B6j (by simp [h0];omega),fM,dM]
    simp only [<-iT,<-qU]
   have wV:G9 s i tick ⟨ps,di,mo,le,wa,rs⟩ ts ws ks=if cc<0/\bF.filter (isW (f,fd,cc))=[]then⟨true,ks.any (T8 f fd),((⟨ps,fd,3,le,wa,rs⟩:Cr).plus ⟨w1,w3⟩).fin s.transfer false,bP,bF,ks.eraseP (T8 f fd)⟩else⟨true,false,((⟨ps,fd,3,le,wa,rs⟩:Cr).plus ⟨w1,w3⟩).fin s.transfer false,bP,bF,ks⟩:=by
    unfold G9;dsimp only;rw [<-hf,hx];dsimp only;rw [vV,aP];by_cases hb:cc<0/\bF.filter (isW (f,fd,cc))=[]
    ·rw [B6l hb,B6l hb]
    ·rw [B6j hb,B6j hb]
   rw [wV];have vX:(s.disp=4/\cc=i)\/(¬s.disp=4/\cc= -1):=by
    by_cases h4:s.disp=4
    ·exact .inl ⟨h4,by rw [fO,B6l h4]⟩
    ·exact .inr ⟨h4,by rw [fO,B6j h4]⟩
   have lK:=Aep (T8 f fd) ks 0;clear fO fM aP wV aK vV dM;have g1:m<=ws.length:=by omega
   have g2:m+1<=ws.length:=by omega
   have g3:¬(m:Int)<0:=by omega
   have toAV_R:rs.map (A4∘Rd.cells)=R.map A4:=by rw [hR,B8c]
   have iJ:∀l' wt',((⟨ps,fd,3,le,wa,rs⟩:Cr).plus ⟨w1,w3⟩).fin l' wt'=⟨ps,fd,3,l',wt',rs++[⟨w1,w3⟩]⟩:=λ _ _=>rfl
   have hRp:(rs++[(⟨w1,w3⟩:Rd)]).map Rd.cells=R++[[.int .i64 w1,.int .i64 w3]]:=by rw [B60,<-hR];rfl
   simp only [iJ];simp only [Cr.cells,hRp,W7,wW,<-qR];simp only [<-hR]at eO eS e3 eF eFu eF2 eT ⊢;rcases vX with ⟨h4,rfl⟩|⟨h4,rfl⟩
   ·have h5:¬cc<0:=by omega
    have zQ:=B8f h4;rw [B6j (λ h=>h5 h.1)]
    simp only [hRp];simp -implicitDefEqProofs (disch:=first|omega|(simp [Afx,Agv,K5,Aeu,E9,D8,Aet,N3,W5,M5,aB];done)|assumption) [eS,e3,eO,nU,Cr.fin,eF,eFu,zQ,h0,h2,eT,eF2,hw,hX1,hY1,nJ,nK,mT,dC,tD,tE,oP,ht,dT,U8,g1,g2,g3,lO,zB,toAV_R,B69,B7e,C0,h5];exact⟨wW.symm,qR⟩
   ·have zQ:=B7y h4;by_cases jH:bF.filter (isW (f,fd,-1))=[]
    ·have dZ:Acq (isW (f,fd,-1)) bF 0=none:=by
      cases uK:Acq (isW (f,fd,-1)) bF 0 with
      |none=>rfl
      |some j=>
       rw [uK]at tC;obtain⟨_,_,_,h7,_⟩:=tC;obtain⟨a,mO,qC⟩:=B9g.1 h7;have:a∈bF.filter (isW (f,fd,-1)):=B7c.2 ⟨mO,qC⟩;rw [jH]at this;simp at this
     rw [B6l ⟨by omega,jH⟩]
     simp only [hRp];simp only [dZ,oI]at eF2;cases jU:Acq (T8 f fd) ks 0 with
     |none=>
      rw [jU]at lK eC;obtain⟨k1,k2,_⟩:=lK;simp only [Bs7]at eC;simp only [k1,k2];simp -implicitDefEqProofs (disch:=first|omega|(simp [Afx,Agv,K5,Aeu,E9,D8,Aet,N3,W5,M5,aB];done)|assumption) [eS,e3,eO,nU,Cr.fin,eF,eFu,zQ,h0,h2,eT,eF2,hw,hX1,hY1,nJ,nK,mT,dC,tD,tE,oP,ht,dT,U8,g1,g2,g3,lO,zB,toAV_R,B69,B7e,C0,eC];exact⟨wW.symm,qR⟩
     |some j=>
      rw [jU]at lK eC;obtain⟨_,_,_,k1,k2⟩:=lK;simp only [Bs7,rfO,Bap]at eC;simp only [k1];simp -implicitDefEqProofs (disch:=first|omega|(simp [Afx,Agv,K5,Aeu,E9,D8,Aet,N3,W5,M5,aB];done)|assumption) [eS,e3,eO,nU,Cr.fin,eF,eFu,zQ,h0,h2,eT,eF2,hw,hX1,hY1,nJ,nK,mT,dC,tD,tE,oP,ht,dT,U8,g1,g2,g3,lO,zB,toAV_R,B69,B7e,C0,eC];exact⟨wW.symm,qR⟩
    ·have dZ:∃j,Acq (isW (f,fd,-1)) bF 0=some j:=by
      cases uK:Acq (isW (f,fd,-1)) bF 0 with
      |none=>rw [uK]at tC;exact absurd tC.2.2 jH
      |some j=>exact⟨j,rfl⟩
     obtain⟨j,dZ⟩:=dZ;rw [B6j (λ h=>jH h.2)]
     simp only [hRp];simp only [dZ,oI]at eF2;have h6:¬(j:Int)<0:=by omega
     simp -implicitDefEqProofs (disch:=first|omega|(simp [Afx,Agv,K5,Aeu,E9,D8,Aet,N3,W5,M5,aB];done)|assumption) [eS,e3,eO,nU,Cr.fin,eF,eFu,zQ,h0,h2,eT,eF2,hw,hX1,hY1,nJ,nK,mT,dC,tD,tE,oP,ht,dT,U8,g1,g2,g3,lO,zB,toAV_R,B69,B7e,C0,h6];exact⟨wW.symm,qR⟩
def Anc (g:PG):Prop:=∀(s:S6)(tick:Int)(cs:List Cr)(c:Cr)(ts:List D2)(ws:List W4)(ks:List K3)(i:Nat),SvG s c ts ws ks->cs[i]? =some c->cs.length<=100-> -1000<=c.left->c.left<=1000->
 g ⟨(0,.loc 7 0 0)::(1,i64 i)::g7,W7 s ws ks (.vs 6 (cs.map Cr.cells)) ts tick⟩=some ([bo (G5 s i tick c ts ws ks).gone],W7 s (G5 s i tick c ts ws ks).ws (G5 s i tick c ts ws ks).ks (.vs 6 ((cs.set i (G5 s i tick c ts ws ks).c).map Cr.cells)) (G5 s i tick c ts ws ks).ts tick)
theorem Bfr (s:St):∀l:List D,s.frzs (l.map .c)=some (l.map .c,[])
 |[]=>rfl
 |d::l=>by simp only [B6v,St.frzs,Bfr s l];rfl
def Bm2 (k:Nat)(gs:FL):Prop:=∀p∈gs,Am9 k p.2
def A6r (k:Nat)(ob:OL):Prop:=∀p∈ob,p.1≠k->∀r∈p.2.rows,∀x∈r,Am9 k x
theorem Ae1 (k:Nat):Bm2 k []↔True:=⟨λ _=>trivial,λ _ p hp=>by simp at hp⟩
theorem Acv {k i:Nat}{v:AV}{gs:FL}:Bm2 k ((i,v)::gs)↔Am9 k v/\Bm2 k gs:=by simp [Bm2]
theorem Ae2 (k:Nat):A6r k []↔True:=⟨λ _=>trivial,λ _ p hp=>by simp at hp⟩
theorem Acw {k j:Nat}{o:Obj}{ob:OL}:A6r k ((j,o)::ob)↔(j≠k->∀r∈o.rows,∀x∈r,Am9 k x)/\A6r k ob:=by simp [A6r]
theorem Blq {S:PG}(h:A04 S){s:S6}{d:D}{tick:Int}{c:Cr}{ts:List D2}{ws:List W4}{ks:List K3}{i:Int}(hG:SvG s c ts ws ks)(hi:0<=i){gs:FL}{ob:OL}(hg:get ob 7=some (rfO s (vWs ws) (vKs ks) (.c d) (vTs ts) tick))
  (h3:get gs 3=none)(gH:Bm2 7 gs)(aD:A6r 7 ob):Amd 3 S ⟨(0,.loc 7 0 0)::(1,.agg c.cells)::(2,i64 i)::gs,ob⟩=some ([.agg (G9 s i tick c ts ws ks).c.cells,bo (G9 s i tick c ts ws ks).gone],(7,rfO s (vWs (G9 s i tick c ts ws ks).ws) (vKs (G9 s i tick c ts ws ks).ks) (.c d) (vTs (G9 s i tick c ts ws ks).ts) tick)::del ob 7):=by
 have e:=h s d tick c ts ws ks i hG hi;obtain⟨R,hR⟩:∃R,R=G9 s i tick c ts ws ks:=⟨_,rfl⟩;rw [<-hR]at e ⊢;have fT:∀(fr:FL)(OB:OL)(bF:List W4)(bE:List K3)(bP:List D2),(⟨fr,OB⟩:St).frzs (Bap s (vWs bF) (vKs bE) (.c d) (vTs bP) tick)=some (Bap s (vWs bF) (vKs bE) (.c d) (vTs bP) tick,[]):=λ fr OB bF bE bP=>
  Bfr _ [.int .i64 s.floors,.int .i64 s.gap,.int .i64 s.cars,.int .i64 s.capacity,.int .i64 s.opn,.int .i64 s.dwell,.int .i64 s.cls,.int .i64 s.transfer,.vs 3 (s.segs.map Seg.cells),.int .i64 s.disp,.int .i64 s.horizon,.int .i64 s.bins,.int .i64 s.width,.vs 4 (bF.map U8),.vs 3 (bE.map U5),d,.vs 7 (bP.map D2.cells),.int .i64 tick]
 exact Bta (n:=3) (z:=18) (rk:=7) (vs:=[.agg c.cells,i64 i]) (ks:=[]) (bE:=[]) (js:=[]) (by decide) (by simp only [Go.Am.get];exact h3) rfl (by simp [AV.dat]) (by decide) hg (fT _ _ _ _ _) (by simp) e rfl (fT _ _ _ _ _) rfl (by simp) (λ p hp hq=>by
  simp only [B6r]at hp;rcases hp with rfl|rfl|rfl|hp
  ·have:(100000:Nat)<=0:=hq;omega
  ·have:(100000:Nat)<=1:=hq;omega
  ·have:(100000:Nat)<=2:=hq;omega
  ·exact gH p hp) aD
theorem Aqc (k:Nat)(d:D):Am9 k (.c d):=rfl
theorem Ae3 (k:Nat)(ds:List D):Am9 k (.agg ds):=rfl
theorem Ae4 (k:Nat)(z:Nat):Am9 k (.nil z):=rfl
theorem Ae5 (k:Nat):Am9 k (.tup []):=rfl
theorem Ae6 (k j r o:Nat):Am9 k (.loc j r o):=by simp [Am9,Aow,Aov]
theorem Ajh (k:Nat)(x:Oth):Am9 k (.ot x):=rfl
theorem Bxo {k j v s n:Nat}(h:j≠k):Am9 k (.sl j v s n):=by simp [Am9,Aow,Aov,h]
theorem A48 (Γ:H6)(M:Nat)(hM:200<M)(h40:Aqs (Γ 574))(hL:Arv (Γ.pt 575)){S:PG}(hS:Γ.pt 576=Amd 3 S)(hX:A04 S):Anc (H9 Γ M Adq):=by
 rintro s tick cs c ts ws ks i hG uD fP dP fB;have aB:KT=18446744073709551616:=G1;have hsv:∀l,SvG s ⟨c.pos,c.dir,c.mode,l,c.waited,c.rid⟩ ts ws ks:=λ l=>⟨hG.sc,⟨hG.cr.pos,hG.cr.dir,hG.cr.rid⟩,hG.sm,hG.lw,hG.lk,hG.lr,hG.rid,hG.wid,hG.lt⟩
 obtain⟨dN,tA⟩:=B6n.1 uD;obtain⟨ps,di,mo,le,wa,rs⟩:=c;dsimp only at dP fB hsv;obtain⟨hs,eX,gD,wT,iS,hl,dH,iC,iH⟩:=hG;have eL:∀(d:Int) bJ OB,U7 [575] OB->NoF [575] bJ->Am.get OB 7=some (rfO s (vWs ws) (vKs ks) (.c (.vs 6 (cs.map Cr.cells))) (vTs ts) tick)->_:=λ d bJ OB h1 h2 h3=>hL s 7 _ _ _ _ tick ws ks i d bJ OB h1 h2 (.inl rfl) (.inl rfl) gD wT iS h3
 have eL1:=eL 1;have eL2:=eL (-1);obtain⟨R,hR⟩:∃R,R=rs.map Rd.cells:=⟨_,rfl⟩;have bZ:∀c':Cr,(cs.set i c').map Cr.cells=(cs.map Cr.cells).take i++c'.cells::(cs.map Cr.cells).drop (i+1):=λ c'=>by
  rw [B8l,B6l dN,B60,B8o,B6v,B86]
 have cM:∀a b m l w (Q:List (List D)),F7 (List.take i (List.map (A4∘Cr.cells) cs)++[i64 a,i64 b,i64 m,i64 l,bo w,.c (.vs 2 Q)]::List.drop (i+1) (List.map (A4∘Cr.cells) cs))=some ((cs.map Cr.cells).take i++[.int .i64 a,.int .i64 b,.int .i64 m,.int .i64 l,.bool w,.vs 2 Q]::(cs.map Cr.cells).drop (i+1)):=λ a b m l w Q=>by
  rw [<-G6];congr 1;simp [B8o,B86]
 have aF:∀x:List D,(List.take i (List.map Cr.cells cs)++x::List.drop (i+1) (List.map Cr.cells cs)).length=cs.length:=λ x=>by
  grind
 have aY:∀x:List D,(List.take i (List.map Cr.cells cs)++x::List.drop (i+1) (List.map Cr.cells cs)).take cs.length=_:=λ x=>B6y (Nat.le_of_eq (aF x))
 have gQ:i+(cs.length-(i+1)+1)=cs.length:=by omega
 have oT:List.take cs.length (List.map (A4∘Cr.cells) cs)=List.map (A4∘Cr.cells) cs:=B6y (by rw [B6s];exact B6u _)
 have fO:(⟨ps,di,mo,le,wa,rs⟩:Cr).cells=[.int .i64 ps,.int .i64 di,.int .i64 mo,.int .i64 le,.bool wa,.vs 2 R]:=by simp only [Cr.cells,<-hR]
 obtain⟨C,hC⟩:∃C,C=cs.map Cr.cells:=⟨_,rfl⟩;have hCg:∀h,C[i]'h=[.int .i64 ps,.int .i64 di,.int .i64 mo,.int .i64 le,.bool wa,.vs 2 R]:=λ h=>by simp only [hC,List.getElem_map,tA,fO]
 have jY:C.length=cs.length:=by rw [hC,B6s]
 have hRs:rs.map Rd.cells=R:=hR.symm;have hRs2:rs.map (A4∘Rd.cells)=R.map A4:=by rw [hR,B8c]
 have hcI2:∀h,(cs[i]'h).cells=[.int .i64 ps,.int .i64 di,.int .i64 mo,.int .i64 le,.bool wa,.vs 2 R]:=λ h=>by rw [tA,fO]
 by_cases hm:mo=0\/mo=1
 ·have e40:=h40 s ⟨ps,di,mo,le,wa,rs⟩ (L2 ws ks i 1) (L2 ws ks i (-1)) hs eX;have dB:G5 s i tick ⟨ps,di,mo,le,wa,rs⟩ ts ws ks=⟨true,false,Auj s ⟨ps,di,mo,le,wa,rs⟩ (L2 ws ks i 1) (L2 ws ks i (-1)),ts,ws,ks⟩:=by
   unfold G5;dsimp only;rw [B6l hm]
  rw [dB];obtain⟨pU,sX⟩:∃p,p=L2 ws ks i 1:=⟨_,rfl⟩;obtain⟨pD,sY⟩:∃p,p=L2 ws ks i (-1):=⟨_,rfl⟩;rw [<-sX]at eL1 e40 ⊢;rw [<-sY]at eL2 e40 ⊢;obtain⟨c2,dL⟩:∃x,x=Auj s ⟨ps,di,mo,le,wa,rs⟩ pU pD:=⟨_,rfl⟩;rw [<-dL]at e40 ⊢;obtain⟨p2,d2,m2,l2,w2,r2⟩:=c2;obtain⟨Q,hQ⟩:∃Q,Q=r2.map Rd.cells:=⟨_,rfl⟩;have kL:(⟨p2,d2,m2,l2,w2,r2⟩:Cr).cells=[.int .i64 p2,.int .i64 d2,.int .i64 m2,.int .i64 l2,.bool w2,.vs 2 Q]:=by simp only [Cr.cells,<-hQ]
  simp only [bZ,kL];simp only [fO,kL,S6.cells,E0,Q7]at e40 eL1 eL2;simp only [rfO,Bap]at eL1 eL2;rcases hm with rfl|rfl
  ·simp -implicitDefEqProofs (disch:=first|omega|(simp [Afx,Agv,K5,Aeu,E9,D8,Aet,N3,W5,Auu,Ana,M5,aB,Aqc,Ae3,Ae4,Ae5,Ae6,Ajh,Ae1,Acv,Ae2,Acw];done)|assumption) [-Cr.cells,cM,aY,gQ,oT,dN,tA,fO,B69,B7e,C0,eL1,eL2,e40,A4]
  ·simp -implicitDefEqProofs (disch:=first|omega|(simp [Afx,Agv,K5,Aeu,E9,D8,Aet,N3,W5,Auu,Ana,M5,aB,Aqc,Ae3,Ae4,Ae5,Ae6,Ajh,Ae1,Acv,Ae2,Acw];done)|assumption) [-Cr.cells,cM,aY,gQ,oT,dN,tA,fO,B69,B7e,C0,eL1,eL2,e40,A4]
 ·have pO:¬mo=0:=λ h=>hm (.inl h)
  have cC:¬mo=1:=λ h=>hm (.inr h)
  by_cases h4:mo=4
  ·subst h4;have dB:G5 s i tick ⟨ps,di,4,le,wa,rs⟩ ts ws ks=⟨true,false,⟨ps,di,if le-1=0 then 0 else 4,le-1,wa,rs⟩,ts,ws,ks⟩:=by
    grind [G5]
   rw [dB];have kL:∀m2:Int,(⟨ps,di,m2,le-1,wa,rs⟩:Cr).cells=[.int .i64 ps,.int .i64 di,.int .i64 m2,.int .i64 (le-1),.bool wa,.vs 2 R]:=λ m2=>by simp only [Cr.cells,<-hR]
   simp only [bZ,kL];by_cases h1:le-1=0
   ·rw [B6l h1];have zO:le=1:=by omega
    subst zO;simp -implicitDefEqProofs (disch:=first|omega|(simp [Afx,Agv,K5,Aeu,E9,D8,Aet,N3,W5,Auu,Ana,M5,aB,Aqc,Ae3,Ae4,Ae5,Ae6,Ajh,Ae1,Acv,Ae2,Acw];done)|assumption) [-Cr.cells,cM,aY,gQ,oT,dN,tA,fO,B69,B7e,C0,pO,cC,A4]
   ·rw [B6j h1];have h1d:=B7y h1;simp -implicitDefEqProofs (disch:=first|omega|(simp [Afx,Agv,K5,Aeu,E9,D8,Aet,N3,W5,Auu,Ana,M5,aB,Aqc,Ae3,Ae4,Ae5,Ae6,Ajh,Ae1,Acv,Ae2,Acw];done)|assumption) [-Cr.cells,cM,aY,gQ,oT,dN,tA,fO,B69,B7e,C0,pO,cC,h1,A4]
  ·by_cases h1:le-1=0
   ·have zO:le=1:=by omega
    subst zO;have dB:G5 s i tick ⟨ps,di,mo,1,wa,rs⟩ ts ws ks=G9 s i tick ⟨ps,di,mo,0,wa,rs⟩ ts ws ks:=by
     grind [G5]
    rw [dB];have hsv0:=hsv 0;have eS:∀gs OB,get OB 7=some (rfO s (vWs ws) (vKs ks) (.c (.vs 6 (cs.map Cr.cells))) (vTs ts) tick)->get gs 3=none->Bm2 7 gs->A6r 7 OB->_:=λ gs OB a1 a2 a3 a4=>Blq hX (i:=i) hsv0 (by omega) a1 a2 a3 a4
    rw [<-hS]at eS;obtain⟨r0,eU⟩:∃x,x=G9 s i tick ⟨ps,di,mo,0,wa,rs⟩ ts ws ks:=⟨_,rfl⟩;rw [<-eU]at eS ⊢;obtain⟨b1,b2,⟨p2,d2,m2,l2,w2,r2⟩,ts2,ws2,ks2⟩:=r0;obtain⟨Q,hQ⟩:∃Q,Q=r2.map Rd.cells:=⟨_,rfl⟩;have kL:(⟨p2,d2,m2,l2,w2,r2⟩:Cr).cells=[.int .i64 p2,.int .i64 d2,.int .i64 m2,.int .i64 l2,.bool w2,.vs 2 Q]:=by simp only [Cr.cells,<-hQ]
    have hcc3:(⟨ps,di,mo,0,wa,rs⟩:Cr).cells=[.int .i64 ps,.int .i64 di,.int .i64 mo,.int .i64 0,.bool wa,.vs 2 R]:=by simp only [Cr.cells,<-hR]
    simp only [bZ,kL];simp only [hcc3,kL,rfO,Bap]at eS;simp -implicitDefEqProofs (disch:=first|omega|(simp [Afx,Agv,K5,Aeu,E9,D8,Aet,N3,W5,Auu,Ana,M5,aB,Aqc,Ae3,Ae4,Ae5,Ae6,Ajh,Ae1,Acv,Ae2,Acw];done)|assumption) [-Cr.cells,cM,aY,gQ,oT,dN,tA,fO,B69,B7e,C0,pO,cC,h4,A4,eS]
   ·have dB:G5 s i tick ⟨ps,di,mo,le,wa,rs⟩ ts ws ks=⟨true,false,⟨ps,di,mo,le-1,wa,rs⟩,ts,ws,ks⟩:=by
     grind [G5]
    rw [dB];have kL:(⟨ps,di,mo,le-1,wa,rs⟩:Cr).cells=[.int .i64 ps,.int .i64 di,.int .i64 mo,.int .i64 (le-1),.bool wa,.vs 2 R]:=by simp only [Cr.cells,<-hR]
    simp only [bZ,kL];simp -implicitDefEqProofs (disch:=first|omega|(simp [Afx,Agv,K5,Aeu,E9,D8,Aet,N3,W5,Auu,Ana,M5,aB,Aqc,Ae3,Ae4,Ae5,Ae6,Ajh,Ae1,Acv,Ae2,Acw];done)|assumption) [-Cr.cells,cM,aY,gQ,oT,dN,tA,fO,B69,B7e,C0,pO,cC,h4,h1,A4]
end Go.Am
