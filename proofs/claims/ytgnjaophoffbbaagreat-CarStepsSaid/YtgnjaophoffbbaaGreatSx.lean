import Derived.Test.YtgnjaophoffbbaaGreatFb
import Derived.Test.YtgnjaophoffbbaaGreatCd
import Derived.Test.YtgnjaophoffbbaaGreatRc
set_option maxRecDepth 20000
set_option maxHeartbeats 4000000
set_option linter.unusedVariables false
set_option linter.unusedSimpArgs false
namespace Go.Am
abbrev M8 (s:S6)(hk:Nat)(cs:List Cr)(ts:List D2)(tick:Int)(H:OL):OL:=(568009,wdO s hk 1000567 cs.length 742000 ts.length tick)::(1000567,csO cs)::(742000,trO ts)::H
def Btm (g:PG):Prop:=∀(s:S6)(hk:Nat)(tick:Int)(cs:List Cr)(ts:List D2)(ws:List W4)(ks:List K3)(b:Nat)(H:OL),HX hk ws ks b H->hk<CK->(∀k∈[568009,1000567,742000,560002,560003,560005,560024,560037,1000577],M2 hk k=false)->M5 [514] hk=false->M5 [516] hk=false->(hk%KT<560000\/561000<=hk%KT)->StL cs ws ks ts->
 g ⟨(0,.loc 568009 0 0)::g4 hk 568009 1000567 cs.length 742000 ts.length,M8 s hk cs ts tick H⟩=some ([.agg (stD tick cs ws ks ts)],M8 s hk cs ts tick H)
theorem Apg (Γ:H6)(M:Nat)(hM:200<M){SW SK:PG}(eW:Γ.pt 514=U6 1 SW)(hW:Bt8 SW)(eK:Γ.pt 516=U6 1 SK)(hK:Bfm SK):Btm (H9 Γ M S1):=by
 intro s hk tick cs ts ws ks b H hX bI hi qF wO hrg hS;have aB:KT=18446744073709551616:=G1;have fP:=hS.c;have eQ:=hS.r;have lA:=hS.t;have i568009:=hi 568009 (by simp)
 have ne568009:=Ad9 i568009;have ne568009':=B6i ne568009;have i1000567:=hi 1000567 (by simp)
 have ne1000567:=Ad9 i1000567;have ne1000567':=B6i ne1000567;have i742000:=hi 742000 (by simp)
 have ne742000:=Ad9 i742000;have ne742000':=B6i ne742000;have i560002:=hi 560002 (by simp)
 have ne560002:=Ad9 i560002;have ne560002':=B6i ne560002;have i560003:=hi 560003 (by simp)
 have ne560003:=Ad9 i560003;have ne560003':=B6i ne560003;have i560005:=hi 560005 (by simp)
 have ne560005:=Ad9 i560005;have ne560005':=B6i ne560005;have i560024:=hi 560024 (by simp)
 have ne560024:=Ad9 i560024;have ne560024':=B6i ne560024;have i560037:=hi 560037 (by simp)
 have ne560037:=Ad9 i560037;have ne560037':=B6i ne560037;have i1000577:=hi 1000577 (by simp)
 have ne1000577:=Ad9 i1000577;have ne1000577':=B6i ne1000577;have IK:=And.intro i568009<|And.intro ne568009<|And.intro ne568009'<|And.intro i1000567<|And.intro ne1000567<|And.intro ne1000567'<|And.intro i742000<|And.intro ne742000<|And.intro ne742000'<|And.intro i560002<|And.intro ne560002<|And.intro ne560002'<|And.intro i560003<|And.intro ne560003<|And.intro ne560003'<|And.intro i560005<|And.intro ne560005<|And.intro ne560005'<|And.intro i560024<|And.intro ne560024<|And.intro ne560024'<|And.intro i560037<|And.intro ne560037<|And.intro ne560037'<|And.intro i1000577<|And.intro ne1000577 ne1000577';have aX:∀os,A1 560000 561000 os H=H:=λ os=>G4 hX (by omega) (hrg.imp id .inl)
 have e1:∀gs ob,Am.get gs 1=none->Ayn hk H gs ob->Γ.pt 514 ⟨(0,.loc hk 0 0)::gs,ob⟩=some ([.c (.vs 4 (ws.map U8))],Afi hk ob++H):=λ gs ob h0 hc=>by rw [eW];exact Bq1 hW hX bI qF hS.w h0 hc
 have e2:∀gs ob,Am.get gs 1=none->Ayn hk H gs ob->Γ.pt 516 ⟨(0,.loc hk 0 0)::gs,ob⟩=some ([.c (.vs 3 (ks.map U5))],Afi hk ob++H):=λ gs ob h0 hc=>by rw [eK];exact Bld hK hX bI wO hS.k h0 hc
 have aP:∃ax s',(ax= .ex 0/\s'=(⟨(2,.loc 560002 0 0)::(3,.loc 560003 0 0)::g4 hk 568009 1000567 cs.length 742000 ts.length,(560003,⟨5,[[i64 tick,if cs.length=0 then .nil 6 else .sl 1000577 cs.length 0 cs.length,.c (.vs 4 (ws.map U8)),.c (.vs 3 (ks.map U5)),.sl 560024 ts.length 0 ts.length]]⟩)::((if cs.length=0 then []else [(1000577,⟨6,cs.map (A4∘Cr.cells)⟩)])++(560024,trO ts)::(560002,⟨5,[[i64 0,.nil 6,.nil 4,.nil 3,.nil 7]]⟩)::M8 s hk cs ts tick H)⟩:St))/\∀s0,U9 [2,3,29,30,31] 560000 561000 [560002,560003,560024] s0=⟨(2,.loc 560002 0 0)::(3,.loc 560003 0 0)::(29,.sl 1000567 cs.length 0 cs.length)::(30,i64 cs.length)::(31,i64 (0:Nat))::g4 hk 568009 1000567 cs.length 742000 ts.length,(560003,⟨5,[[i64 tick,.nil 6,.c (.vs 4 (ws.map U8)),.c (.vs 3 (ks.map U5)),.sl 560024 ts.length 0 ts.length]]⟩)::(560024,trO ts)::(560002,⟨5,[[i64 0,.nil 6,.nil 4,.nil 3,.nil 7]]⟩)::M8 s hk cs ts tick H⟩->lp (exec Γ M Ady) M s0=some (ax,s'):=by
  refine I0 (λ q:Nat=>⟨(2,.loc 560002 0 0)::(3,.loc 560003 0 0)::(29,.sl 1000567 cs.length 0 cs.length)::(30,i64 cs.length)::(31,i64 q)::g4 hk 568009 1000567 cs.length 742000 ts.length,(560003,⟨5,[[i64 tick,if q=0 then .nil 6 else .sl 1000577 q 0 q,.c (.vs 4 (ws.map U8)),.c (.vs 3 (ks.map U5)),.sl 560024 ts.length 0 ts.length]]⟩)::((if q=0 then []else [(1000577,⟨6,(cs.take q).map (A4∘Cr.cells)⟩)])++(560024,trO ts)::(560002,⟨5,[[i64 0,.nil 6,.nil 4,.nil 3,.nil 7]]⟩)::M8 s hk cs ts tick H)⟩) (λ q=>q<=cs.length) (λ q=>cs.length-q) _ 0 M (by omega) (by omega) ?_
  intro k hkq;by_cases aC:k<cs.length
  ·obtain⟨c,hc⟩:∃c,cs[k]'aC=c:=⟨_,rfl⟩;have hcr:=eQ c (by rw [<-hc];exact B8e aC)
   have dC:cs.take (k+1)=cs.take k++[c]:=by rw [List.take_add_one,B6w aC,hc];rfl
   have iS:(cs.take k).length=k:=by rw [B7l];omega
   obtain⟨a1,a2,a3,a4,a5,a6⟩:=c;obtain⟨R,hR⟩:∃R,R=a6.map Rd.cells:=⟨_,rfl⟩;have oP:R.length<=100:=by rw [hR,B6s];exact hcr
   have fO:(⟨a1,a2,a3,a4,a5,a6⟩:Cr).cells=[.int .i64 a1,.int .i64 a2,.int .i64 a3,.int .i64 a4,.bool a5,.vs 2 R]:=by simp only [Cr.cells,<-hR]
   have qW:List.take (k+1) (List.map (A4∘Cr.cells) cs)=List.take k (List.map (A4∘Cr.cells) cs)++[A4 [.int .i64 a1,.int .i64 a2,.int .i64 a3,.int .i64 a4,.bool a5,.vs 2 R]]:=by
    rw [<-B8o,dC,B60,<-B8o,<-fO];rfl
   by_cases h0:k=0
   ·subst h0;simp only [B68,B7j];simp -implicitDefEqProofs (disch:=first|omega|(simp [g4,cjA,T9 hX,wdO,Ahy,trO,csO,aB,IK];done)|assumption) [-Cr.cells,IK,T9 hX,aX,cjA,aC,hc,fO,aB,A4];have h1f:List.take 1 (List.map (A4∘Cr.cells) cs)=[[.c (.int .i64 a1),.c (.int .i64 a2),.c (.int .i64 a3),.c (.int .i64 a4),.c (.bool a5),.c (.vs 2 R)]]:=by simpa [A4]using qW
    grind
   ·obtain⟨P,hP⟩:∃P,P=(cs.take k).map (A4∘Cr.cells):=⟨_,rfl⟩;have hP1:P.length=k:=by rw [hP,B6s,iS]
    have hP2:∀j,B5 j P=true:=λ j=>by rw [hP];exact Btb j
    have hP3:∀j,P0 j P=true:=λ j=>Acu j _ (hP2 j)
    rw [show List.take k (List.map (A4∘Cr.cells) cs)=P by rw [hP,B8o]]at qW
    simp only [B6j h0,B7i,B7j,<-hP];simp -implicitDefEqProofs (disch:=first|omega|(simp [g4,cjA,T9 hX,wdO,Ahy,trO,csO,aB,IK];done)|assumption) [-Cr.cells,IK,T9 hX,aX,cjA,aC,hc,fO,aB,A4,hP1,hP2,hP3];refine⟨k+1,⟨by simp,by simp,?_⟩,by omega,by omega⟩
    simp [qW,A4]
  ·obtain rfl:k=cs.length:=by omega
   by_cases hz:cs=[]
   ·subst hz;simp -implicitDefEqProofs (disch:=first|omega|(simp [g4,cjA,T9 hX,wdO,Ahy,trO,csO,aB,IK];done)|assumption) [-Cr.cells,IK,T9 hX,aX,cjA,aB,A4]
   have iQ:¬cs.length=0:=λ h=>hz (B66 h)
   simp only [B6j iQ];simp -implicitDefEqProofs (disch:=first|omega|(simp [g4,cjA,T9 hX,wdO,Ahy,trO,csO,aB,IK];done)|assumption) [-Cr.cells,IK,T9 hX,aX,cjA,aB,A4]
 obtain⟨ax,s',⟨rfl,rfl⟩,bK⟩:=aP;have aO:=bK ⟨(2,.loc 560002 0 0)::(3,.loc 560003 0 0)::(29,.sl 1000567 cs.length 0 cs.length)::(30,i64 cs.length)::(31,i64 0)::g4 hk 568009 1000567 cs.length 742000 ts.length,(560003,⟨5,[[i64 tick,.nil 6,.c (.vs 4 (ws.map U8)),.c (.vs 3 (ks.map U5)),.sl 560024 ts.length 0 ts.length]]⟩)::(560024,trO ts)::(560002,⟨5,[[i64 0,.nil 6,.nil 4,.nil 3,.nil 7]]⟩)::M8 s hk cs ts tick H⟩ (by simp -implicitDefEqProofs (disch:=first|omega|(simp [g4,cjA,T9 hX,wdO,Ahy,trO,csO,aB,IK];done)|assumption) [IK,T9 hX,aX,cjA,aB])
 have oT:List.take ts.length (List.map (A4∘D2.cells) ts)=List.map (A4∘D2.cells) ts:=B6y (by rw [B6s];exact B6u _)
 have mJ:List.take cs.length (List.map Cr.cells cs)=List.map Cr.cells cs:=B6y (by rw [B6s];exact B6u _)
 have zW:List.take ts.length (List.map D2.cells ts)=List.map D2.cells ts:=B6y (by rw [B6s];exact B6u _)
 by_cases hz:cs=[]
 ·subst hz;simp only [M8,B88,B68,B7j,show ((0:Nat):Int)=0 from rfl]at aO
  simp -implicitDefEqProofs (disch:=first|omega|(simp [g4,cjA,T9 hX,wdO,Ahy,trO,csO,aB,IK];done)|assumption) [-Cr.cells,IK,T9 hX,aX,cjA,e1,e2,aO,g4,aB,A4,B69,B7e,C0,oT,mJ,zW]
 ·have iQ:¬cs.length=0:=λ h=>hz (B66 h)
  simp only [B6j iQ,B7i,B7j]at aO;simp -implicitDefEqProofs (disch:=first|omega|(simp [g4,cjA,T9 hX,wdO,Ahy,trO,csO,aB,IK];done)|assumption) [-Cr.cells,IK,T9 hX,aX,cjA,e1,e2,aO,g4,aB,A4,B69,B7e,C0,oT,mJ,zW,hz,iQ]
def Btn (S:PG)(s:St):Option (List AV×OL):=match S s with
 |some (rs,aA)=>if Ajl aA s.ob=true then some (rs,s.ob)else none
 |none=>none
theorem Bq9 {P:Program}{f:FuncId}{S:PG}(h:D9 P f S):D9 P f (Btn S):=by
 intro γ B F ρ fr ob w us rs aA aF cM hm hf hS;unfold Btn at hS;split at hS
 ·rename_i rs0 bL aJ;split at hS
  ·rename_i hs;simp only [B6g,B6k]at hS;obtain⟨rfl,rfl⟩:=hS;refine(h γ B F ρ fr ob w us rs0 bL aF cM hm hf aJ).mono ?_;rintro e w' ⟨qs,rfl,F',ρ',cJ,hg,hr,hx⟩;have wU:=λ k=>(Axd hs k).symm
   have h2:∀{x:AV}{v:Value},AR F' ρ' bL x v->AR F' ρ' ob x v:=λ ha=>ha.sub λ k o hk=>by rw [<-wU];exact hk
   exact⟨qs,rfl,F',ρ',Bar cJ wU,λ i v hi hv=>h2 (hg i v hi hv),hr.imp λ _ _ h=>h2 h,hx⟩
  ·simp at hS
 ·simp at hS
theorem Blt {S:PG}(h:Aut S):Aut (Btn S):=by
 grind [Btn]
noncomputable def Aji (S:PG):PG:=Btn (Amc 1 stA S)
theorem A86 {P:Program}{f:FuncId}{S:PG}(h:D9 P f S):D9 P f (Aji S):=Bq9 (Ahe h)
theorem A5e {S:PG}:Aut (Aji S):=Blt Aer
theorem Blu {hk wk ck tk:Nat}(ob:OL)(k:Nat):get (inW hk wk ck tk ob++Agr hk wk ck tk ob) k=get ob k:=by
 induction ob with
 |nil=>rfl
 |cons p ob ih=>
  obtain⟨j,o⟩:=p;rw [E5]at ih ⊢;by_cases hj:F8 hk wk ck tk j=true
  ·rw [Ar0 hj,Azs hj];simp only [Go.Am.get];by_cases e:j=k
   ·simp [e]
   ·simpa [e]using ih
  ·rw [Ajg (by simpa using hj),Azt (by simpa using hj)]
   simp only [Go.Am.get];by_cases e:j=k
   ·subst e;have:get (inW hk wk ck tk ob) j=none:=by
     cases hg:get (inW hk wk ck tk ob) j with
     |none=>rfl
     |some o2=>exact absurd (B7c.1 (B0 hg)).2 hj
    simp [this]
   ·simpa [e]using ih
theorem Bd4 {S:PG}(h:Btm S)(s:S6)(hk:Nat)(tick:Int)(cs:List Cr)(ts:List D2)(ws:List W4)(ks:List K3)(b:Nat)(H:OL)(hX:HX hk ws ks b H)(bI:hk<CK)(hi:∀k∈[568009,1000567,742000,560002,560003,560005,560024,560037,1000577],M2 hk k=false)(qF:M5 [514] hk=false)(wO:M5 [516] hk=false)(hrg:hk%KT<560000\/561000<=hk%KT)(hS:StL cs ws ks ts)(z1:hk<1000000000)
  {gs:FL}{ob:OL}(h1:get gs 1=none)(hI:inW hk 568009 1000567 742000 ob=M8 s hk cs ts tick H)(hc:Bdr hk 568009 1000567 cs.length 742000 ts.length gs ob):
  Aji S ⟨(0,.loc 568009 0 0)::gs,ob⟩=some ([.agg (stD tick cs ws ks ts)],ob):=by
 have a1:¬hk=568009:=Ad9 (hi 568009 (by simp))
 have a2:¬hk=1000567:=Ad9 (hi 1000567 (by simp))
 have a3:¬hk=742000:=Ad9 (hi 742000 (by simp))
 have w0:F8 hk 568009 1000567 742000 hk=true:=by simp [F8,M2]
 have w1:F8 hk 568009 1000567 742000 568009=true:=by simp [F8]
 have w2:F8 hk 568009 1000567 742000 1000567=true:=by simp [F8]
 have w3:F8 hk 568009 1000567 742000 742000=true:=by simp [F8]
 have g:∀k,F8 hk 568009 1000567 742000 k=true->get ob k=get (M8 s hk cs ts tick H) k:=λ k aN=>by rw [Ajf ob k aN,hI]
 have gw:get ob 568009=some (wdO s hk 1000567 cs.length 742000 ts.length tick):=by rw [g _ w1];simp [Go.Am.get]
 have gc:get ob 1000567=some (csO cs):=by rw [g _ w2];simp [Go.Am.get]
 have gt:get ob 742000=some (trO ts):=by rw [g _ w3];simp [Go.Am.get]
 have gh:get ob hk=get H hk:=by rw [g _ w0];simp [Go.Am.get,B6i a1,B6i a2,B6i a3]
 obtain⟨o,ho,zN⟩:=A7o hX.w;have hA:stA [.loc 568009 0 0] ob=((Abn ob).filter λ j=>F8 hk 568009 1000567 742000 j,[hk,568009],[(1000567,cs.length),(742000,ts.length)]):=by
  unfold stA;dsimp only;rw [A7p gw]
 have cZ:∀k,k∈((Abn ob).filter λ j=>F8 hk 568009 1000567 742000 j)↔k∈Abn ob/\F8 hk 568009 1000567 742000 k=true:=λ k=>by rw [B7c]
 have hKi:inK ((Abn ob).filter λ j=>F8 hk 568009 1000567 742000 j) ob=inW hk 568009 1000567 742000 ob:=by
  unfold inK inW;refine B80 λ p hp=> ?_
  simp [B63,cZ,D4 hp]
 have wP:Afh ((Abn ob).filter λ j=>F8 hk 568009 1000567 742000 j) ob=Agr hk 568009 1000567 742000 ob:=by
  unfold Afh Agr;refine B80 λ p hp=> ?_
  simp [B63,cZ,D4 hp]
 have rG:=Avb (n:=1) (A:=stA) (S:=S) (s:=⟨(0,.loc 568009 0 0)::gs,ob⟩) (vs:=[.loc 568009 0 0]) (rs:=[.agg (stD tick cs ws ks ts)]) (aU:=M8 s hk cs ts tick H) (by decide) (by simpa [Go.Am.get]using h1) rfl (by rw [hA,hKi,hI];exact h s hk tick cs ts ws ks b H hX bI hi qF wO hrg hS) ?_
 ·unfold Aji Btn;rw [rG];dsimp only;rw [hA,wP,<-hI,B6l (A3a (Blu ob))]
 ·rw [hA];refine Bhn (cs:=cs) (ts:=ts) hX (by simp [AV.dat]) (by rw [gh,ho];simp) (λ o' aT=> ?_) gw gc gt rfl rfl (B6i a3) (B6i a2) (by decide) (B6i a1) (by decide) (by decide) z1 (by decide) (by decide) (by decide) ⟨λ p hp=> ?_,hc.o,hc.s⟩
  ·rw [gh]at aT;refine⟨Bdk hX.w o' aT,?_⟩;rw [ho,B6g]at aT;rw [<-aT];exact zN
  ·rcases B6r.1 hp with rfl|hp
   ·exact Bhp 0 0
   ·exact hc.f p hp
end Go.Am
