import Derived.Test.YtgnjaophoffbbaaGreatCa
import Derived.Test.YtgnjaophoffbbaaGreatB4
import Derived.Shelf.SlicesE.Clone
set_option maxRecDepth 20000
set_option maxHeartbeats 4000000
set_option linter.unusedVariables false
set_option linter.unusedSimpArgs false
namespace Go.Am
def bnd (s:List UInt8):Int×Int×Bool:=
 if s=[102,108,111,111,114,115]then(2,128,true)else if s=[103,97,112]then(1,16,true)else if s=[99,97,114,115]then(1,16,true)else if s=[99,97,112,97,99,105,116,121]then(1,64,true)else if s=[111,112,101,110]then(1,64,true)else if s=[100,119,101,108,108]then(1,64,true)else if s=[99,108,111,115,101]then(1,64,true)else if s=[116,114,97,110,115,102,101,114]then(1,64,true)else if s=[116,105,99,107,115]then(1,1048576,true)else if s=[104,111,114,105,122,111,110]then(1,1048576,true)else if s=[114,97,116,101]then(0,4000,true)else if s=[98,105,110,115]then(1,64,true)else if s=[119,105,100,116,104]then(1,4096,true)else(0,0,false)
def Bdw (g:List AV->Option (List AV)):Prop:=∀x:List UInt8,g [st x]=some [i64 (bnd x).1,i64 (bnd x).2.1,bo (bnd x).2.2]
theorem Ar1 (Γ:H6)(M:Nat):Bdw (run Γ (M+20) Abg):=by
 intro x;by_cases c0:x=[102,108,111,111,114,115]
 ·subst c0;simp -implicitDefEqProofs (disch:=omega) [bnd,E8,C6]
 by_cases c1:x=[103,97,112]
 ·subst c1;simp -implicitDefEqProofs (disch:=omega) [bnd,E8,C6]
 by_cases c2:x=[99,97,114,115]
 ·subst c2;simp -implicitDefEqProofs (disch:=omega) [bnd,E8,C6]
 by_cases c3:x=[99,97,112,97,99,105,116,121]
 ·subst c3;simp -implicitDefEqProofs (disch:=omega) [bnd,E8,C6]
 by_cases c4:x=[111,112,101,110]
 ·subst c4;simp -implicitDefEqProofs (disch:=omega) [bnd,E8,C6]
 by_cases c5:x=[100,119,101,108,108]
 ·subst c5;simp -implicitDefEqProofs (disch:=omega) [bnd,E8,C6]
 by_cases c6:x=[99,108,111,115,101]
 ·subst c6;simp -implicitDefEqProofs (disch:=omega) [bnd,E8,C6]
 by_cases c7:x=[116,114,97,110,115,102,101,114]
 ·subst c7;simp -implicitDefEqProofs (disch:=omega) [bnd,E8,C6]
 by_cases c8:x=[116,105,99,107,115]
 ·subst c8;simp -implicitDefEqProofs (disch:=omega) [bnd,E8,C6]
 by_cases c9:x=[104,111,114,105,122,111,110]
 ·subst c9;simp -implicitDefEqProofs (disch:=omega) [bnd,E8,C6]
 by_cases c10:x=[114,97,116,101]
 ·subst c10;simp -implicitDefEqProofs (disch:=omega) [bnd,E8,C6]
 by_cases c11:x=[98,105,110,115]
 ·subst c11;simp -implicitDefEqProofs (disch:=omega) [bnd,E8,C6]
 by_cases c12:x=[119,105,100,116,104]
 ·subst c12;simp -implicitDefEqProofs (disch:=omega) [bnd,E8,C6]
 simp -implicitDefEqProofs (disch:=omega) [bnd,E8,C6,c0,B6i c0,c1,B6i c1,c2,B6i c2,c3,B6i c3,c4,B6i c4,c5,B6i c5,c6,B6i c6,c7,B6i c7,c8,B6i c8,c9,B6i c9,c10,B6i c10,c11,B6i c11,c12,B6i c12]
def inB (x:List UInt8)(n:Int):Bool:=(bnd x).2.2&&decide ((bnd x).1<=n)&&decide (n<=(bnd x).2.1)
def A7q (g:List AV->Option (List AV)):Prop:=∀(x:List UInt8)(n:Int),g [st x,i64 n]=some [bo (inB x n)]
theorem A49 {Γ:H6}{M:Nat}(h:Bdw (Γ 23)):A7q (run Γ M Aip):=by
 intro x n;have e:=h x;unfold inB;generalize bnd x=q at e ⊢;obtain⟨lo,hi,is⟩:=q;cases is
 ·simp -implicitDefEqProofs (disch:=omega) [e]
 by_cases c1:lo<=n
 ·simp -implicitDefEqProofs (disch:=omega) [e,c1]
 ·simp -implicitDefEqProofs (disch:=omega) [e,c1]
def Bmo (s:S6):Bool:=inB [102,108,111,111,114,115] s.floors&&inB [103,97,112] s.gap&&inB [99,97,114,115] s.cars&&inB [99,97,112,97,99,105,116,121] s.capacity&&inB [111,112,101,110] s.opn&&inB [100,119,101,108,108] s.dwell&&inB [99,108,111,115,101] s.cls&&inB [116,114,97,110,115,102,101,114] s.transfer&&inB [104,111,114,105,122,111,110] s.horizon&&inB [98,105,110,115] s.bins&&inB [119,105,100,116,104] s.width
def Ajz (g:Seg):Int:=if g.kind<1\/4<g.kind then 260 else if inB [116,105,99,107,115] g.ticks&&inB [114,97,116,101] g.rate then 0 else 264
def Q8 :List Seg->Int
 |[]=>0
 |g::r=>if Ajz g=0 then Q8 r else Ajz g
theorem A5a {l:List Seg}{i:Nat}(h:i<l.length):Q8 (l.drop i)=if Ajz l[i]=0 then Q8 (l.drop (i+1))else Ajz l[i]:=by
 rw [B8q h,Q8]
@[simp] def B3l (l:List Seg)(ax:AX)(s':St)(i:Nat)(s:St):Prop:=(ax= .ex i/\s'=s/\Q8 l=0)\/(ax= .ret/\s'=⟨[(2,i64 (Q8 l))],[]⟩/\Q8 l≠0)
def Bdy (s:S6):Int:=if Bmo s=false then 264 else if s.disp<1\/4<s.disp then 260 else if s.segs.length=0 then 263 else if 8<s.segs.length then 21 else Q8 s.segs
def Bxp (g:List AV->Option (List AV)):Prop:=∀s:S6,s.segs.length<=maxLen->g [.agg s.cells]=some [i64 (Bdy s)]
theorem Ar2 {Γ:H6}{N M:Nat}{s:S6}(hI:A7q (Γ 21))(hl:s.segs.length<=8)(hM:s.segs.length<M):
  ∃ax s',B3l s.segs ax s' 2 ⟨[],[]⟩/\∀t,nrm [1,6] [1] t=⟨[(1,.loc 1 0 0),(6,i64 (0:Nat))],[(1,⟨13,[A4 s.cells]⟩)]⟩->lp (exec Γ N Aj6) M t=some (ax,s'):=by
 refine Add (λ i:Nat=>⟨[(1,.loc 1 0 0),(6,i64 i)],[(1,⟨13,[A4 s.cells]⟩)]⟩) (λ i=>i<=s.segs.length/\Q8 (s.segs.drop i)=Q8 s.segs) (λ i=>s.segs.length-i)
  (λ ax s'=>B3l s.segs ax s' 2 ⟨[],[]⟩) 0 M (by simp) ⟨by omega,by simp⟩ (by omega) ?_
 rintro i ⟨hi,hc⟩;by_cases aC:i<s.segs.length
 ·obtain⟨x,hx⟩:∃x,s.segs[i]'aC=x:=⟨_,rfl⟩;have e1:=hI [116,105,99,107,115] x.ticks;have e2:=hI [114,97,116,101] x.rate;rw [A5a aC,hx]at hc;by_cases c1:x.kind<1
  ·simp only [Ajz,c1,true_or,B68]at hc;have hc:Q8 s.segs=260:=by rw [<-hc];rfl
   simp -implicitDefEqProofs (disch:=omega) [hx,c1,hc]
  by_cases c2:4<x.kind
  ·simp only [Ajz,c2,or_true,B68]at hc;have hc:Q8 s.segs=260:=by rw [<-hc];rfl
   simp -implicitDefEqProofs (disch:=omega) [hx,c1,c2,hc]
  cases c3:inB [116,105,99,107,115] x.ticks
  ·simp only [Ajz,c1,c2,c3,or_self,B7d,Bool.false_and,B6p]at hc;have hc:Q8 s.segs=264:=by rw [<-hc];rfl
   rw [c3]at e1;simp -implicitDefEqProofs (disch:=omega) [hx,c1,c2,e1,hc]
  rw [c3]at e1;cases c4:inB [114,97,116,101] x.rate
  ·simp only [Ajz,c1,c2,c3,c4,or_self,B7d,Bool.and_false,B6p]at hc;have hc:Q8 s.segs=264:=by rw [<-hc];rfl
   rw [c4]at e2;simp -implicitDefEqProofs (disch:=omega) [hx,c1,c2,e1,e2,hc]
  rw [c4]at e2;simp only [Ajz,c1,c2,c3,c4,or_self,B7d,B8m,B68]at hc;simp -implicitDefEqProofs (disch:=omega) [hx,c1,c2,e1,e2];exact⟨i+1,by omega,⟨by omega,hc⟩,by omega⟩
 ·obtain rfl:i=s.segs.length:=by omega
  have hc:Q8 s.segs=0:=by rw [<-hc];simp [Q8]
  simp -implicitDefEqProofs (disch:=omega) [hc]
theorem Auz {Γ:H6}{M:Nat}(hI:A7q (Γ 21)):Bxp (run Γ (M+100) Acg):=by
 intro s hs;have hmax:=A3g;unfold Bdy Bmo;have e0:=hI [102,108,111,111,114,115] s.floors;have e1:=hI [103,97,112] s.gap;have e2:=hI [99,97,114,115] s.cars;have e3:=hI [99,97,112,97,99,105,116,121] s.capacity;have e4:=hI [111,112,101,110] s.opn;have e5:=hI [100,119,101,108,108] s.dwell;have e6:=hI [99,108,111,115,101] s.cls;have e7:=hI [116,114,97,110,115,102,101,114] s.transfer;have e8:=hI [104,111,114,105,122,111,110] s.horizon;have e9:=hI [98,105,110,115] s.bins;have e10:=hI [119,105,100,116,104] s.width;cases c0:inB [102,108,111,111,114,115] s.floors
 ·rw [c0]at e0;simp -implicitDefEqProofs (disch:=omega) [E8 (exec Γ (M+100) B9),B6,e0]
 rw [c0]at e0;cases c1:inB [103,97,112] s.gap
 ·rw [c1]at e1;simp -implicitDefEqProofs (disch:=omega) [E8 (exec Γ (M+100) B9),B6,e0,e1]
 rw [c1]at e1;cases c2:inB [99,97,114,115] s.cars
 ·rw [c2]at e2;simp -implicitDefEqProofs (disch:=omega) [E8 (exec Γ (M+100) B9),B6,e0,e1,e2]
 rw [c2]at e2;cases c3:inB [99,97,112,97,99,105,116,121] s.capacity
 ·rw [c3]at e3;simp -implicitDefEqProofs (disch:=omega) [E8 (exec Γ (M+100) B9),B6,e0,e1,e2,e3]
 rw [c3]at e3;cases c4:inB [111,112,101,110] s.opn
 ·rw [c4]at e4;simp -implicitDefEqProofs (disch:=omega) [E8 (exec Γ (M+100) B9),B6,e0,e1,e2,e3,e4]
 rw [c4]at e4;cases c5:inB [100,119,101,108,108] s.dwell
 ·rw [c5]at e5;simp -implicitDefEqProofs (disch:=omega) [E8 (exec Γ (M+100) B9),B6,e0,e1,e2,e3,e4,e5]
 rw [c5]at e5;cases c6:inB [99,108,111,115,101] s.cls
 ·rw [c6]at e6;simp -implicitDefEqProofs (disch:=omega) [E8 (exec Γ (M+100) B9),B6,e0,e1,e2,e3,e4,e5,e6]
 rw [c6]at e6;cases c7:inB [116,114,97,110,115,102,101,114] s.transfer
 ·rw [c7]at e7;simp -implicitDefEqProofs (disch:=omega) [E8 (exec Γ (M+100) B9),B6,e0,e1,e2,e3,e4,e5,e6,e7]
 rw [c7]at e7;cases c8:inB [104,111,114,105,122,111,110] s.horizon
 ·rw [c8]at e8;simp -implicitDefEqProofs (disch:=omega) [E8 (exec Γ (M+100) B9),B6,e0,e1,e2,e3,e4,e5,e6,e7,e8]
 rw [c8]at e8;cases c9:inB [98,105,110,115] s.bins
 ·rw [c9]at e9;simp -implicitDefEqProofs (disch:=omega) [E8 (exec Γ (M+100) B9),B6,e0,e1,e2,e3,e4,e5,e6,e7,e8,e9]
 rw [c9]at e9;cases c10:inB [119,105,100,116,104] s.width
 ·rw [c10]at e10;simp -implicitDefEqProofs (disch:=omega) [E8 (exec Γ (M+100) B9),B6,e0,e1,e2,e3,e4,e5,e6,e7,e8,e9,e10]
 rw [c10]at e10;by_cases c1:s.disp<1
 ·simp -implicitDefEqProofs (disch:=omega) [E8 (exec Γ (M+100) B9),B6,e0,e1,e2,e3,e4,e5,e6,e7,e8,e9,e10,c1]
 by_cases c2:4<s.disp
 ·simp -implicitDefEqProofs (disch:=omega) [E8 (exec Γ (M+100) B9),B6,e0,e1,e2,e3,e4,e5,e6,e7,e8,e9,e10,c1,c2]
 by_cases c3:s.segs.length=0
 ·simp -implicitDefEqProofs (disch:=omega) [E8 (exec Γ (M+100) B9),B6,e0,e1,e2,e3,e4,e5,e6,e7,e8,e9,e10,c1,c2,c3]
 by_cases c4:8<s.segs.length
 ·simp -implicitDefEqProofs (disch:=omega) [E8 (exec Γ (M+100) B9),B6,e0,e1,e2,e3,e4,e5,e6,e7,e8,e9,e10,c1,c2,c3,c4]
 have c3':¬s.segs=[]:=λ h=>c3 (by rw [h];rfl)
 obtain⟨ax,s',(⟨rfl,rfl,h4⟩|⟨rfl,rfl,h4⟩),h3⟩:=Ar2 (Γ:=Γ) (N:=M+100) (M:=M+100) (s:=s) hI (by omega) (by omega)
 ·simp -implicitDefEqProofs (disch:=first|omega|(simp;done)|assumption) [E8 (exec Γ (M+100) B9),B6,e0,e1,e2,e3,e4,e5,e6,e7,e8,e9,e10,c1,c2,c3,c3',c4,h3,h4]
 ·simp -implicitDefEqProofs (disch:=first|omega|(simp;done)|assumption) [E8 (exec Γ (M+100) B9),B6,e0,e1,e2,e3,e4,e5,e6,e7,e8,e9,e10,c1,c2,c3,c3',c4,h3]
theorem A6s {s:S6}(h:Bdy s=0):ScG s/\s.segs.length<=8/\1<=s.disp/\s.disp<=4/\1<=s.horizon:=by
 unfold Bdy at h;split at h
 ·omega
 rename_i h1;split at h
 ·omega
 rename_i h2;split at h
 ·omega
 split at h
 ·omega
 rename_i h3;have h4:Bmo s=true:=by simpa using h1
 simp only [Bmo,inB,bnd,B6h,B6o]at h4;simp at h4;obtain⟨⟨⟨⟨⟨⟨⟨⟨⟨⟨a1,a2⟩,a3⟩,a4⟩,a5⟩,a6⟩,a7⟩,a8⟩,a9⟩,a10⟩,a11⟩:=h4;exact⟨⟨a1,a2,a3,a4,a5,a6,a7,a8⟩,by omega,by omega,by omega,a9.1⟩
def CrW (s:S6)(c:Cr):Prop:=0<=c.pos/\c.pos<=(s.floors-1)*s.gap/\ -1<=c.dir/\c.dir<=1/\c.rid.length<=64/\0<=c.left/\c.left<=64/\0<=c.mode/\c.mode<=4
instance (s :S6)(c:Cr):Decidable (CrW s c):=by unfold CrW;infer_instance
def Bti (g:List AV->Option (List AV)):Prop:=∀(s:S6)(c:Cr),s.segs.length<=maxLen->c.rid.length<=maxLen->g [.agg s.cells,.c (.vs 6 [c.cells])]=some [bo (decide (s.segs.length<=8/\Bdy s=0/\CrW s c))]
theorem Ar3 (Γ:H6)(M:Nat)(hM:100<M)(hK:Bxp (Γ 26)):Bti (run Γ M Abh):=by
 intro s c dR eQ;have hml:=A3g;have e:=hK s dR;simp only [S6.cells]at e;obtain⟨q,hq⟩:∃q,q=Bdy s:=⟨_,rfl⟩;by_cases h1:s.segs.length<=8
 case neg=>
  rw [B7y (λ h=>h1 h.1)]
  have gF:(8:Int)<s.segs.length:=by omega
  simp -implicitDefEqProofs (disch:=first|omega|(simp;done)|assumption) [h1,gF,S6.cells]
 have gF:¬(8:Int)<s.segs.length:=by omega
 have h1n:¬8<s.segs.length:=by omega
 by_cases h2:Bdy s=0
 case neg=>
  rw [B7y (λ h=>h2 h.2.1)]
  simp -implicitDefEqProofs (disch:=first|omega|(simp;done)|assumption) [h1,gF,h1n,e,h2,S6.cells]
 obtain⟨hs,_,_,_,_⟩:=A6s h2;rw [h2]at e;have lL:0<=(s.floors-1)*s.gap/\(s.floors-1)*s.gap<=128*16:=⟨B9q (by have:=hs.floors;omega) (by have:=hs.gap;omega),B9r (by have:=hs.floors;omega) hs.gap.2 (by have:=hs.gap;omega) (by omega)⟩
 have dM:=hs.floors;obtain⟨ps,di,mo,le,wa,rs⟩:=c;dsimp only at eQ;obtain⟨T,hT⟩:∃T,T=(s.floors-1)*s.gap:=⟨_,rfl⟩;have aP:∃ax s',(if CrW s ⟨ps,di,mo,le,wa,rs⟩then ax= .ex 0/\s'=⟨[],[]⟩else ax= .ret/\s'=⟨[(4,bo false)],[]⟩)/\∀s0,nrm [1,2,5] [2] s0=⟨[(1,.c (.vs 6 [(⟨ps,di,mo,le,wa,rs⟩:Cr).cells])),(2,.loc 2 0 0),(5,i64 (0:Nat))],[(2,⟨13,[A4 s.cells]⟩)]⟩->lp (exec Γ M Aiq) M s0=some (ax,s'):=by
  refine Add (λ q:Nat=>⟨[(1,.c (.vs 6 [(⟨ps,di,mo,le,wa,rs⟩:Cr).cells])),(2,.loc 2 0 0),(5,i64 q)],[(2,⟨13,[A4 s.cells]⟩)]⟩) (λ q=>q=0\/(q=1/\CrW s ⟨ps,di,mo,le,wa,rs⟩)) (λ q=>1-q) _ 0 M (by simp) (.inl rfl) (by omega) ?_
  intro q hq;rcases hq with hq|⟨hq,hw⟩
  ·have oU:(q:Int)=0:=by omega
   by_cases c1:ps<0
   ·have hn:¬CrW s ⟨ps,di,mo,le,wa,rs⟩:=λ h=>by have:=h.1;dsimp only at this;omega
    simp only [B6j hn];simp -implicitDefEqProofs (disch:=first|omega|(simp;done)|assumption) [oU,c1,S6.cells]
   by_cases c2:(s.floors-1)*s.gap<ps
   ·have hn:¬CrW s ⟨ps,di,mo,le,wa,rs⟩:=λ h=>by have:=h.2.1;dsimp only at this;omega
    simp only [B6j hn];simp -implicitDefEqProofs (disch:=first|omega|(simp;done)|assumption) [oU,c1,c2,S6.cells]
   by_cases c3:di< -1
   ·have hn:¬CrW s ⟨ps,di,mo,le,wa,rs⟩:=λ h=>by have:=h.2.2.1;dsimp only at this;omega
    simp only [B6j hn];simp -implicitDefEqProofs (disch:=first|omega|(simp;done)|assumption) [oU,c1,c2,c3,S6.cells]
   by_cases c4:1<di
   ·have hn:¬CrW s ⟨ps,di,mo,le,wa,rs⟩:=λ h=>by have:=h.2.2.2.1;dsimp only at this;omega
    simp only [B6j hn];simp -implicitDefEqProofs (disch:=first|omega|(simp;done)|assumption) [oU,c1,c2,c3,c4,S6.cells]
   by_cases c5:64<rs.length
   ·have c5':(64:Int)<rs.length:=by omega
    have hn:¬CrW s ⟨ps,di,mo,le,wa,rs⟩:=λ h=>by have:=h.2.2.2.2.1;dsimp only at this;omega
    simp only [B6j hn];simp -implicitDefEqProofs (disch:=first|omega|(simp;done)|assumption) [oU,c1,c2,c3,c4,c5,c5',S6.cells]
   have c5':¬(64:Int)<rs.length:=by omega
   by_cases c6:le<0
   ·have hn:¬CrW s ⟨ps,di,mo,le,wa,rs⟩:=λ h=>by have:=h.2.2.2.2.2.1;dsimp only at this;omega
    simp only [B6j hn];simp -implicitDefEqProofs (disch:=first|omega|(simp;done)|assumption) [oU,c1,c2,c3,c4,c5,c5',c6,S6.cells]
   by_cases c7:64<le
   ·have hn:¬CrW s ⟨ps,di,mo,le,wa,rs⟩:=λ h=>by have:=h.2.2.2.2.2.2.1;dsimp only at this;omega
    simp only [B6j hn];simp -implicitDefEqProofs (disch:=first|omega|(simp;done)|assumption) [oU,c1,c2,c3,c4,c5,c5',c6,c7,S6.cells]
   by_cases c8:mo<0
   ·have hn:¬CrW s ⟨ps,di,mo,le,wa,rs⟩:=λ h=>by have:=h.2.2.2.2.2.2.2.1;dsimp only at this;omega
    simp only [B6j hn];simp -implicitDefEqProofs (disch:=first|omega|(simp;done)|assumption) [oU,c1,c2,c3,c4,c5,c5',c6,c7,c8,S6.cells]
   by_cases c9:4<mo
   ·have hn:¬CrW s ⟨ps,di,mo,le,wa,rs⟩:=λ h=>by have:=h.2.2.2.2.2.2.2.2;dsimp only at this;omega
    simp only [B6j hn];simp -implicitDefEqProofs (disch:=first|omega|(simp;done)|assumption) [oU,c1,c2,c3,c4,c5,c5',c6,c7,c8,c9,S6.cells]
   have hw:CrW s ⟨ps,di,mo,le,wa,rs⟩:=⟨by dsimp only;omega,by dsimp only;omega,by dsimp only;omega,by dsimp only;omega,by dsimp only;omega,by dsimp only;omega,by dsimp only;omega,by dsimp only;omega,by dsimp only;omega⟩
   simp only [B6l hw];simp -implicitDefEqProofs (disch:=first|omega|(simp;done)|assumption) [oU,c1,c2,c3,c4,c5,c5',c6,c7,c8,c9,S6.cells];grind
  ·have oU:(q:Int)=1:=by omega
   simp only [B6l hw];simp -implicitDefEqProofs (disch:=first|omega|(simp;done)|assumption) [oU,S6.cells]
 obtain⟨ax,s',bN,bK⟩:=aP;have aO:=bK ⟨[(1,.c (.vs 6 [(⟨ps,di,mo,le,wa,rs⟩:Cr).cells])),(2,.loc 2 0 0),(5,i64 0)],[(2,⟨13,[A4 s.cells]⟩)]⟩ (by simp)
 simp only [S6.cells,Cr.cells,A4,B6v,B8a]at aO;by_cases hw:CrW s ⟨ps,di,mo,le,wa,rs⟩
 ·rw [B6l hw]at bN;obtain⟨rfl,rfl⟩:=bN;rw [B8f ⟨h1,h2,hw⟩];simp -implicitDefEqProofs (disch:=first|omega|(simp;done)|assumption) [h1,gF,h1n,e,aO,S6.cells]
 ·rw [B6j hw]at bN;obtain⟨rfl,rfl⟩:=bN;rw [B7y (λ h=>hw h.2.2)]
  simp -implicitDefEqProofs (disch:=first|omega|(simp;done)|assumption) [h1,gF,h1n,e,aO,S6.cells]
open Go.Proofs Go.Shelf Go.RowKit
def M6 (key k:Nat)(s:St):Option (List AV×OL):=
 match get s.fr 0,get s.fr 1 with
 |some (.c (.vs sz rows)),none=>if sz=k/\rows.length<=1000000/\s.free key=true then some ([.sl key rows.length 0 rows.length],(key,⟨k,rows.map A4⟩)::del s.ob key)else none
 |_,_=>none
set_option maxHeartbeats 2000000 in
set_option maxRecDepth 100000 in
theorem Bq6 {P:Program}{τ:Ren}(L:SlLaysE0.n41 P τ)(i0:TypeInfo)(z:Value)(size bytes:Nat)(hi:P.info? (τ.t 23)=some i0)(wF:i0.zero=some z)(iQ:i0.size=size)(iR:i0.bytes=bytes)(mZ:z.cells.size=size)(aL:0<size)
  (z23:∀w,(Go.sizeOf (τ.t 23)).run P w= .ok size w)(ad:Addr)(n c:Nat)(news:List Value)(w:World)(hl:news.length=n*size)(hn:n<=maxLen)(fL:n*bytes<=140737488355328)
  (hc:∀j u,news[j]? =some u->w.cell? (ad.add j)=some u)(h1:∀u∈news,u.oneCell'=true):
  Calls P (τ.f 41) #[.slice (some ad) n c] w λ e w'=>∃v',e= .returned v'/\w'.ownsRow w.heap.size (τ.t 23) size v' n news/\Below w.heap.size w w':=by
 have mixed:=L.mixed;have t4:=L.t4;have a4:=L.a4;have z4:=L.z4;have v4:=L.v4;have t22:=L.t22;have a22:=L.a22;have z22:=L.z22;have v22:=L.v22;have q22:∀(w:World)(a:Option Addr)(n c n' c':Nat),(binOp .eql (τ.t 22) (.slice a n c) (.slice none n' c')).run P w= .ok (.bool a.isNone) w:=λ w a n c n' c'=>Lib.run_eql_slice_nil w _ _ a n c n' c' L.t22
 have u22:∀w,Sem.run P (underlying (τ.t 22)) w= .ok (TypeDesc.slice (τ.t 23)) w:=run_underlying t22;have A:Aside (∀j u,news[j]? =some u->w.cell? (ad.add j)=some u):=hc;clear hc;obtain⟨_,_,FG⟩:=L.f41
 go_enter FG,SlBodyN.n41_ntmps τ
 go_wp2_with (at_builtin;refine wpList_append_own _ rfl _ _ (τ.t 22) rfl w.heap.size (τ.t 23) i0 z size bytes t22 hi wF iQ iR mZ aL _ _ _ rfl (World.ownsRow_made w #[] 0 (B6u _) (B81 _) (by simp)) ad n c news rfl ?qc1 ?qc2 ?qc3 ?qc4 ?qc5 ?qc6 ?_)
 case qc1=>exact hl
 case qc2=>exact λ j u hj=>Lib.cell?_alloc_some _ (A.out j u hj)
 case qc3=>exact h1
 case qc4=>rw [B7u];exact hn
 case qc5=>rw [B7u];exact fL
 case qc6=>simp
 intro v' w1 kD zR zP
 go_wp2
 go_ret
 exact⟨v',rfl,by simpa using kD,((Below.refl _ w).alloc (B6u _) _).grown zR (by simp) (by intro k hk;simp [Value.ownBlock]at hk;omega)⟩
theorem Baz {α:Type}(k:Nat):∀(rows:List (List α)),(∀r∈rows,r.length=k)->rows.flatten.length=rows.length*k/\∀(i:Nat)(r:List α)(j:Nat)(x:α),rows[i]? =some r->r[j]? =some x->rows.flatten[i*k+j]? =some x
 |[],_=>by simp
 |r0::rows,h=>by
  obtain⟨h1,h2⟩:=Baz k rows λ r hr=>h r (by simp [hr])
  have h0:=h r0 (by simp)
  refine⟨by rw [B9n,B67,h1,h0,B8p,B7z,B8z];omega,λ i r j x hi hj=> ?_⟩
  rw [B9n];cases i with
  |zero=>
   simp only [B8u,B6g]at hi;subst hi;have:=(B6n.1 hj).1;rw [B8k (by omega)];simpa using hj
  |succ i=>
   rw [B8v]at hi;have e:(i+1)*k+j=i*k+j+k:=by rw [B7z,B8z];omega
   rw [B73 (by omega),h0,e,Nat.add_sub_cancel]
   exact h2 i r j x hi hj
theorem A39 {α:Type}(k:Nat):∀(rows:List (List α)),(∀r∈rows,r.length=k)->∀(q:Nat)(x:α),rows.flatten[q]? =some x->∃i r j,rows[i]? =some r/\r[j]? =some x/\q=i*k+j
 |[],_,q,x,h=>by simp at h
 |r0::rows,h,q,x,hq=>by
  have h0:=h r0 (by simp)
  rw [B9n]at hq;rcases B7f q r0.length with h1|h1
  ·rw [B8k h1]at hq;exact⟨0,r0,q,rfl,hq,by simp⟩
  ·rw [B73 h1]at hq;obtain⟨i,r,j,h2,h3,h4⟩:=A39 k rows (λ r hr=>h r (by simp [hr])) _ x hq
   exact⟨i+1,r,j,by simpa using h2,h3,by rw [B7z,B8z];omega⟩
theorem Atv {P:Program}{τ:Ren}(L:SlLaysE0.n41 P τ)(i0:TypeInfo)(z:Value)(k bytes:Nat)(hi:P.info? (τ.t 23)=some i0)(wF:i0.zero=some z)(iQ:i0.size=k)(iR:i0.bytes=bytes)(mZ:z.cells.size=k)(hk:0<k)(rW:bytes<=1000)
  (z23:∀w,(Go.sizeOf (τ.t 23)).run P w= .ok k w)(key:Nat)(sN:key<KT):D9 P (τ.f 41) (M6 key k):=by
 intro γ B F ρ fr ob w us rs aA hn cM hm hf h;unfold M6 at h;split at h
 case h_2=>simp at h
 rename_i sz rows h0 h1;simp only at h0 h1;split at h
 case isFalse=>simp at h
 rename_i hc;obtain⟨rfl,aF,aG⟩:=hc;simp only [B6g,B6k]at h;obtain⟨rfl,rfl⟩:=h;have hG:(0:Nat)<GB:=by decide
 have hMK:key<MK:=Nat.lt_trans sN (by decide)
 have hv:=hf 0 _ h0;rw [B6l hG]at hv;have hv:DR F (.vs sz rows) (us.getD 0 undef):=hv;have hu:∃u,us=[u]/\us.getD 0 undef=u:=by
  match us,cM,hv with
  |[],_,hv=>exfalso;have hv:DR F (.vs sz rows) undef:=hv;cases hv
  |[u],_,_=>exact⟨u,rfl,rfl⟩
  |u::v::r,cM,_=>
   obtain⟨v,hv⟩:=cM 1 (by simp)
   rw [h1]at hv;simp at hv
 obtain⟨u,rfl,hu⟩:=hu;rw [hu]at hv;clear hu;have qV:∀{p':Option N4}{o':Obj},∀i v,GB<=i->get fr i=some v->AR F (K0 ρ key p') ((⟨fr,ob⟩:St).obj key o').ob v (γ.getD (i-GB) undef):=by
  intro p' o' i v hi hv;have h2:=hf i v hv;rw [B6j (by omega)]at h2
  exact h2.upd ((Ag0 aG).1 i v hv) (λ k hk=>D6 _ hk) (λ k hk=>N7 hk)
 cases hv with
 |vs _ _ a cap ad uu bM ha aL rO fU=>
  cases a with
  |none=>
   have hr:rows=[]:=by
    cases rows with
    |nil=>rfl
    |cons r l=>have:=ha (by simp);simp at this
   subst hr;refine(AnyE.slices_Clone_nil L _ cap w).mono ?_;rintro e w' ⟨rfl,rfl⟩;refine⟨[.slice none 0 0],rfl,F,K0 ρ key none,hm.newBare (s:=⟨fr,ob⟩) aG,qV,.cons ?_ .nil,.refl _ _ _⟩;refine⟨hMK,λ o ho=> ?_⟩
   have:get ((⟨fr,ob⟩:St).obj key ⟨sz,[]⟩).ob key=some ⟨sz,[]⟩:=N9;have ho:get ((⟨fr,ob⟩:St).obj key ⟨sz,[]⟩).ob key=some o:=ho;rw [this]at ho;simp only [B6g]at ho;subst ho;refine⟨by simp,λ _ _=> ?_⟩
   unfold SlR;rw [E6];exact⟨rfl,rfl⟩
  |some a0=>
   have hadr:rows≠[]->a0=ad:=λ h=>by have:=ha h;simpa using this
   obtain⟨vals,rB,vD⟩:∃vals:List (List Value),vals.length=rows.length/\∀i r,rows[i]? =some r->∃vs,vals[i]? =some vs/\vs.length=sz/\∀j x,r[j]? =some x->vs[j]? =some (uu i j):=by
    refine⟨(List.range rows.length).map λ i=>(List.range sz).map λ j=>uu i j,by simp,λ i r hi=> ?_⟩
    have dN:=(B6n.1 hi).1;refine⟨(List.range sz).map λ j=>uu i j,by simp [dN],by simp,λ j x hj=> ?_⟩
    have:=aL r (B6t hi);have dT:=(B6n.1 hj).1;simp [show j<sz by omega]
   have wS:∀vs∈vals,vs.length=sz:=λ vs eV=>by
    obtain⟨i,hi⟩:=B7t eV;have dN:=(B6n.1 hi).1;obtain⟨vs',h1,h2,_⟩:=vD i rows[i] (B6w (by omega))
    rw [hi]at h1;simp only [B6g]at h1;subst h1;exact h2
   obtain⟨f1,f2⟩:=Baz sz vals wS;have fb:=A39 sz vals wS;have bV:∀q v,vals.flatten[q]? =some v->w.cell? (ad.add q)=some v/\v.oneCell'=true:=by
    intro q v hq;obtain⟨i,vs,j,h1,h2,rfl⟩:=fb q v hq;have dN:=(B6n.1 h1).1;have hr:=B6w (show i<rows.length by omega)
    obtain⟨vs',h3,h4,h5⟩:=vD i _ hr;rw [h1]at h3;simp only [B6g]at h3;subst h3;have dT:=(B6n.1 h2).1;have eQ:=aL rows[i] (B8e _);have hx:=B6w (show j<rows[i].length by omega)
    have h6:=h5 j _ hx;rw [h2]at h6;simp only [B6g]at h6;subst h6;exact⟨hm.facts _ _ (rO i _ j _ hr hx),(fU i _ j _ hr hx).one⟩
   have vZ:∀q v,vals.flatten[q]? =some v->w.cell? (a0.add q)=some v:=by
    intro q v hq;have hr:rows≠[]:=by
     rintro rfl;have:vals=[]:=B66 (by simpa using rB)
     subst this;simp at hq
    rw [hadr hr];exact(bV q v hq).1
   rw [rB]at f1;refine(Bq6 L i0 z sz bytes hi wF iQ iR mZ hk z23 a0 rows.length cap vals.flatten w f1 (by unfold maxLen;omega) (by have:=Nat.mul_le_mul aF rW;omega) vZ (λ u hu=>by
    obtain⟨q,hq⟩:=B7t hu;exact(bV q u hq).2)).mono ?_
   rintro e w' ⟨v',rfl,⟨_,kD⟩,dE⟩;rcases kD with ⟨rfl,jI⟩|⟨g,cap',cur,rfl,hg,hhg,hcap',_,aW,aY⟩
   ·have eU:rows=[]:=B66 jI;subst eU;refine⟨[.slice none 0 0],rfl,F,K0 ρ key none,?_,qV,(.cons ?_ .nil),⟨.refl F,.of dE hm.big,λ _ _ h=> .inl h⟩⟩
    ·exact(hm.below dE).newBare (s:=⟨fr,ob⟩) aG
    ·refine⟨hMK,λ o ho=> ?_⟩
     have:get ((⟨fr,ob⟩:St).obj key ⟨sz,[]⟩).ob key=some ⟨sz,[]⟩:=N9;have ho:get ((⟨fr,ob⟩:St).obj key ⟨sz,[]⟩).ob key=some o:=ho;rw [this]at ho;simp only [B6g]at ho;subst ho;refine⟨by simp,λ _ _=> ?_⟩
     unfold SlR;rw [E6];exact⟨rfl,rfl⟩
   ·have hgB:¬B g:=hm.big.out hg;have zS:(rows.map A4).length=rows.length:=by simp
    have cC:T0 B F ρ (⟨fr,ob⟩:St).ob w:=hm;have hT:∀k o,k≠key->get ob k=some o->∀r∈o.rows,∀x∈r,∀v,AR F ρ ob x v->AR F (K0 ρ key (some ⟨g,sz,cap',0⟩)) ((⟨fr,ob⟩:St).obj key ⟨sz,rows.map A4⟩).ob x v:=λ k o hk ho r hr x hx v hv=>hv.upd ((Ag0 aG).2 k o hk ho r hr x hx) (λ k hk=>D6 _ hk) (λ k hk=>N7 hk)
    have vP:=T0.change0 (s:=⟨fr,ob⟩) (o':=⟨sz,rows.map A4⟩) (g:=g) (sz:=sz) (cap:=cap') (et:=τ.t 23) (w':=w') hMK (λ h=>by omega) cC hgB (.inr hg) dE.size (λ k hk _=>dE.block k hk) hhg aW (by rw [zS];exact hcap') rfl (λ r hr=>by
     obtain⟨r',bU,rfl⟩:=B6z.1 hr;simp [A4,aL r' bU]) hT (λ i r j x hi hj=>by
     simp only [B7m,B6m]at hi;obtain⟨r',bU,rfl⟩:=hi;simp only [A4,B7m,B6m]at hj;obtain⟨d,hd,rfl⟩:=hj;obtain⟨vs,h2,h3,h4⟩:=vD i r' bU;have h5:=f2 i vs j _ h2 (h4 j d hd);refine⟨rfl,uu i j,?_,fU i r' j d bU hd⟩;have aC:=(B6n.1 h5).1;rw [<-aY]at h5;rw [B77]at h5;split at h5
     ·simpa using h5
     ·simp at h5)
    refine⟨[.slice (some ⟨g,0,none⟩) rows.length cap'],rfl,F,K0 ρ key (some ⟨g,sz,cap',0⟩),vP,qV,(.cons ?_ .nil),⟨.refl F,.of dE hm.big,λ _ _ h=> .inl h⟩⟩
    exact A19 (aA:=((⟨fr,ob⟩:St).obj key ⟨sz,rows.map A4⟩).ob) hMK (p:=⟨g,sz,cap',0⟩) zS N9 (E6 _ _) hcap'
theorem Ayp (key k:Nat)(s:St)(rs:List AV)(ob:OL)(R:List Nat)(hR:∀r∈R,GB<=r)(h:M6 key k s=some (rs,ob)):M6 key k ⟨E1 R s.fr,s.ob⟩=some (rs,ob):=by
 have hG:(1:Nat)<GB:=by decide
 have e0:get (E1 R s.fr) 0=get s.fr 0:=by rw [E7,B6j λ h=>by have:=hR _ h;omega]
 have e1:get (E1 R s.fr) 1=get s.fr 1:=by rw [E7,B6j λ h=>by have:=hR _ h;omega]
 unfold M6 at h ⊢;simp only [e0,e1];split at h
 ·rename_i sz rows h0 h1
  (try rw [h0,h1])
  (try simp only)
  split at h
  ·rename_i hc;rw [B6l ⟨hc.1,hc.2.1,I1 R hc.2.2⟩];exact h
  ·simp at h
 ·simp at h
end Go.Am
