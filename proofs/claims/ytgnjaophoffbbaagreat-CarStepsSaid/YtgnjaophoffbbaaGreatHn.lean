import Derived.Test.YtgnjaophoffbbaaGreatFb
import Derived.Test.YtgnjaophoffbbaaGreatRb
import Derived.Test.YtgnjaophoffbbaaGreatRc
set_option maxRecDepth 20000
set_option maxHeartbeats 4000000
set_option linter.unusedVariables false
set_option linter.unusedSimpArgs false
namespace Go.Am
theorem Ar4 {hk:Nat}(h:hk<CK):HX hk [] [] 0 [(hk,h0O)]:=by
 have bI:CK=900000000000000000:=rfl;have fV:DB=1000000000000000000:=rfl;have aS:MK=1461501637330902918203684832716283019655932542976:=U2;have hg:∀k,k≠hk->get [(hk,h0O)] k=none:=λ k aN=>by simp only [Go.Am.get];rw [B6j (B6i aN)]
 have hn:∀k,B8 k [(hk,h0O)]=true:=λ k=>by simp [B8,B5,M0,h0O]
 refine⟨⟨none,none,[],[],0,0,0,⟨by simp [Go.Am.get,M4],⟨0,rfl,by simp⟩,⟨0,rfl,by simp⟩,by simp,by simp,by simp,by simp,by simp,by simp,by simp,by simp,by simp,h⟩,⟨λ k=>by simp [L7],.nil,by simp,rfl,.nil,by simp⟩,by omega,by omega,B6u _,⟨?_,by omega,λ n _ _=>⟨hg _ (by omega),hn _⟩,λ n _ _=>⟨hg _ (by omega),hn _⟩,hn _⟩,by simp⟩,λ k h1 h2=>⟨hg k h2,hn k⟩⟩
 unfold I7;rw [hg CK (by omega)]
structure Plc where
 c:Cr
 ws:List W4
 ks:List K3
 i:Int
 tick:Int
def Plc.cells (p:Plc):List D:=[.int .i64 p.c.pos,.int .i64 p.c.dir,.int .i64 p.c.mode,.int .i64 p.c.left,.bool p.c.waited,.vs 2 (p.c.rid.map Rd.cells),.vs 4 (p.ws.map U8),.vs 3 (p.ks.map U5),.int .i64 p.i,.int .i64 p.tick]
def Afy (s:S6)(k:K3):Prop:=0<=k.1/\k.1<s.floors/\(k.2.1=1\/k.2.1= -1)/\0<=k.2.2/\k.2.2<s.cars
def W6 (s:S6)(w:W4):Prop:=0<=w.2.1/\w.2.1<s.floors/\0<=w.2.2.1/\w.2.2.1<s.floors/\w.2.1≠w.2.2.1/\ -1<=w.2.2.2/\w.2.2.2<s.cars
instance (s :S6)(k:K3):Decidable (Afy s k):=by unfold Afy;infer_instance
instance (s :S6)(w:W4):Decidable (W6 s w):=by unfold W6;infer_instance
def Bdz (a:List K3)(k:K3):List K3:=if a.any (T8 k.1 k.2.1)then a else a++[k]
def F3 (l:List K3):List K3:=l.foldl Bdz []
theorem Blr (l:List K3)(k:K3):F3 (l++[k])=Bdz (F3 l) k:=by simp [F3,List.foldl_append]
theorem Bq7 (a:List K3)(k:K3):(Bdz a k).length<=a.length+1:=by unfold Bdz;split<;>simp
theorem A4a :∀(l a:List K3),(l.foldl Bdz a).length<=a.length+l.length
 |[],a=>by simp
 |k::l,a=>by
  have:=A4a l (Bdz a k);grind [Bq7,List.length_cons]
theorem A4b (l:List K3):(F3 l).length<=l.length:=by have:=A4a l [];simpa [F3]using this
def Acr (n:Nat)(l:List W4):List W4:=(l.zipIdx n).map λ x=>((x.2:Int),x.1.2)
theorem Ahz (n:Nat)(l:List W4):(Acr n l).length=l.length:=by simp [Acr]
theorem A4c (n:Nat)(l:List W4)(w:W4):Acr n (l++[w])=Acr n l++[(((n+l.length:Nat):Int),w.2)]:=by
 unfold Acr;grind
theorem Bhr (n:Nat)(l:List W4):∀u∈Acr n l,u.1<((n+l.length:Nat):Int):=λ u hu=>by
 grind [Acr,List.mem_zipIdx]
abbrev w39 (s:S6)(vw vk vt:AV)(tick:Int):Obj:=⟨18,[[i64 s.floors,i64 s.gap,i64 s.cars,i64 s.capacity,i64 s.opn,i64 s.dwell,i64 s.cls,i64 s.transfer,.c (.vs 3 (s.segs.map Seg.cells)),i64 s.disp,i64 s.horizon,i64 s.bins,i64 s.width,vw,vk,.nil 6,vt,i64 tick]]⟩
abbrev p39 (p:Plc):Obj:=⟨10,[[i64 p.c.pos,i64 p.c.dir,i64 p.c.mode,i64 p.c.left,bo p.c.waited,.c (.vs 2 (p.c.rid.map Rd.cells)),.c (.vs 4 (p.ws.map U8)),.c (.vs 3 (p.ks.map U5)),i64 p.i,i64 p.tick]]⟩
def Bxq (s:S6)(p:Plc)(q:Nat)(ob:OL):Prop:=
 (q=0/\ob=[(566041,w39 s (.nil 4) (.nil 3) (.nil 7) p.tick),(566036,h0O),(566003,p39 p),(566002,⟨13,[Y9 s]⟩)])\/
 (0<q/\∃H b,HX 566036 [] (F3 (p.ks.take q)) b H/\b<=q/\ob=(566041,w39 s (.nil 4) (.sl 1000564 (F3 (p.ks.take q)).length 0 (F3 (p.ks.take q)).length) (.nil 7) p.tick)::(1000564,⟨3,(F3 (p.ks.take q)).map (A4∘U5)⟩)::(566003,p39 p)::(566002,⟨13,[Y9 s]⟩)::H)
theorem A5b (Γ:H6)(M:Nat)(hM:200<M){SS:PG}(eS:Γ.pt 510=U6 4 SS)(oX:A7j SS)(s:S6)(p:Plc)(eE:p.ks.length<=20)(A:Prop)(hA:A↔∀k∈p.ks,Afy s k):
  ∃ax s',((ax= .ex 0/\A/\∃ob,Bxq s p p.ks.length ob/\s'=(⟨[(2,.loc 566002 0 0),(3,.loc 566003 0 0),(7,.loc 566036 0 0),(8,.loc 566041 0 0)],ob⟩:St))\/(ax= .ret/\¬A/\∃ob,s'=(⟨[(4,.ot .np),(5,.ot .np),(6,bo false)],ob⟩:St)))/\
   ∀s0,U9 [2,3,7,8,9] 566000 567000 [566002,566003,566036,566041,566113] s0=⟨[(2,.loc 566002 0 0),(3,.loc 566003 0 0),(7,.loc 566036 0 0),(8,.loc 566041 0 0),(9,i64 (0:Nat))],[(566041,w39 s (.nil 4) (.nil 3) (.nil 7) p.tick),(566036,h0O),(566003,p39 p),(566002,⟨13,[Y9 s]⟩)]⟩->lp (exec Γ M Amw) M s0=some (ax,s'):=by
 have aB:KT=18446744073709551616:=G1;have IK:M2 566036 566002=false/\M2 566036 566003=false/\M2 566036 566010=false/\M2 566036 566012=false/\M2 566036 566041=false/\M2 566036 566113=false/\M2 566036 1000564=false/\M2 566036 1000565=false/\M2 566036 566036=true:=by decide
 refine I0 (λ q:Nat×OL=>⟨[(2,.loc 566002 0 0),(3,.loc 566003 0 0),(7,.loc 566036 0 0),(8,.loc 566041 0 0),(9,i64 q.1)],q.2⟩) (λ q=>q.1<=p.ks.length/\(∀k∈p.ks.take q.1,Afy s k)/\Bxq s p q.1 q.2) (λ q=>p.ks.length-q.1) _ (0,_) M ⟨by simp,by simp,.inl ⟨rfl,rfl⟩⟩ (by simp;omega) ?_
 rintro⟨q,ob⟩ ⟨hq,bB,gR⟩;dsimp only at hq bB gR ⊢;by_cases aC:q<p.ks.length
 ·obtain⟨k,hk⟩:∃k,p.ks[q]'aC=k:=⟨_,rfl⟩;have aY:p.ks.take (q+1)=p.ks.take q++[k]:=by rw [List.take_add_one,B6w aC,hk];rfl
  obtain⟨k1,k2,k3⟩:=k;have hsn:F3 (p.ks.take (q+1))=Bdz (F3 (p.ks.take q)) (k1,k2,k3):=by rw [aY,Blr]
  have zU:¬Afy s (k1,k2,k3)->¬A:=λ h h2=>h (hA.1 h2 _ (by rw [<-hk];exact B8e aC))
  have jD:(Afy s (k1,k2,k3))\/(¬A/\(k1<0\/(¬k1<0/\s.floors<=k1)\/(¬k1<0/\¬s.floors<=k1/\¬k2=1/\¬k2= -1)\/(¬k1<0/\¬s.floors<=k1/\(k2=1\/k2= -1)/\k3<0)\/(¬k1<0/\¬s.floors<=k1/\(k2=1\/k2= -1)/\¬k3<0/\s.cars<=k3))):=by
   by_cases hg:Afy s (k1,k2,k3)
   ·exact .inl hg
   ·refine .inr ⟨zU hg,?_⟩;unfold Afy at hg;dsimp only at hg;by_cases a1:k1<0
    ·exact .inl a1
    by_cases a2:s.floors<=k1
    ·exact .inr (.inl ⟨a1,a2⟩)
    by_cases a3:k2=1\/k2= -1
    ·by_cases a4:k3<0
     ·exact .inr (.inr (.inr (.inl ⟨a1,a2,a3,a4⟩)))
     ·exact .inr (.inr (.inr (.inr ⟨a1,a2,a3,a4,by omega⟩)))
    ·exact .inr (.inr (.inl ⟨a1,a2,λ e=>a3 (.inl e),λ e=>a3 (.inr e)⟩))
  rcases jD with hg|⟨hnA,hbad⟩
  ·unfold Afy at hg;dsimp only at hg;obtain⟨g1,g2,g3,g4,g5⟩:=hg;have c1:¬k1<0:=by omega
   have c2:¬s.floors<=k1:=by omega
   have c4:¬k3<0:=by omega
   have c5:¬s.cars<=k3:=by omega
   have fY:∀k∈p.ks.take (q+1),Afy s k:=λ k aN=>by
    rw [aY]at aN;rcases B65.1 aN with h|h
    ·exact bB k h
    ·rw [B6x.1 h];exact⟨g1,g2,g3,g4,g5⟩
   rcases gR with ⟨h0,rfl⟩|⟨h0,H,b,hX,hb,rfl⟩
   ·have hX:=Ar4 (hk:=566036) (by decide)
    obtain⟨H',bC,eq⟩:=Bau oX hX (by decide) (by decide) (by omega) k1 k2 k3
    rw [<-eS]at eq;have hs0:F3 (p.ks.take (q+1))=[(k1,k2,k3)]:=by rw [hsn,h0];rfl
    have aX:∀os,566036∈os->A1 566000 567000 os H'=H':=λ os h=>G4 bC (by omega) (.inr (.inr h))
    simp only [List.any_nil,B6p,B7d,B7j,B8s]at bC eq;have fin:Bxq s p (q+1) ((566041,w39 s (.nil 4) (.sl 1000564 1 0 1) (.nil 7) p.tick)::(1000564,⟨3,[[i64 k1,i64 k2,i64 k3]]⟩)::(566003,p39 p)::(566002,⟨13,[Y9 s]⟩)::H'):=by
     refine .inr ⟨by omega,H',1,by rw [hs0];exact bC,by omega,?_⟩
     rw [hs0];rfl
    rcases g3 with rfl|rfl
    ·simp -implicitDefEqProofs (disch:=first|omega|(simp [cjA,T9 hX,IK,aB];done)|assumption) [cjA,IK,T9 bC,aX,T9 hX,aB,aC,hk,U5,c1,c2,c4,c5,eq];exact⟨q+1,_,⟨by simp,rfl⟩,⟨by omega,λ a b c h=>fY _ h,fin⟩,by omega⟩
    ·simp -implicitDefEqProofs (disch:=first|omega|(simp [cjA,T9 hX,IK,aB];done)|assumption) [cjA,IK,T9 bC,aX,T9 hX,aB,aC,hk,U5,c1,c2,c4,c5,eq];exact⟨q+1,_,⟨by simp,rfl⟩,⟨by omega,λ a b c h=>fY _ h,fin⟩,by omega⟩
   ·have aX:∀os,566036∈os->A1 566000 567000 os H=H:=λ os h=>G4 hX (by omega) (.inr (.inr h))
    obtain⟨H',bC,eq⟩:=Bau oX hX (by decide) (by decide) (by omega) k1 k2 k3
    rw [<-eS]at eq;have fE:∀os,566036∈os->A1 566000 567000 os H'=H':=λ os h=>G4 bC (by omega) (.inr (.inr h))
    obtain⟨a,ha⟩:∃a,a=F3 (p.ks.take q):=⟨_,rfl⟩;rw [<-ha]at hsn hX bC eq ⊢;have cM:a.length<=20:=by
     have h2:=A4b (p.ks.take q);rw [<-ha,B7l]at h2;omega
    by_cases hd:a.any (T8 k1 k2)=true
    ·have nD:F3 (p.ks.take (q+1))=a:=by rw [hsn];unfold Bdz;rw [B6l hd]
     rw [B6l hd]at bC;rw [hd]at eq;have fin:Bxq s p (q+1) ((566041,w39 s (.nil 4) (.sl 1000564 a.length 0 a.length) (.nil 7) p.tick)::(1000564,⟨3,a.map (A4∘U5)⟩)::(566003,p39 p)::(566002,⟨13,[Y9 s]⟩)::H'):=
      .inr ⟨by omega,H',b+1,by rw [nD];exact bC,by omega,by rw [nD]⟩
     rcases g3 with rfl|rfl
     ·simp -implicitDefEqProofs (disch:=first|omega|(simp [cjA,T9 hX,IK,aB];done)|assumption) [cjA,IK,T9 bC,aX,T9 hX,fE,aB,aC,hk,U5,c1,c2,c4,c5,eq];exact⟨q+1,_,⟨by simp,rfl⟩,⟨by omega,λ a b c h=>fY _ h,fin⟩,by omega⟩
     ·simp -implicitDefEqProofs (disch:=first|omega|(simp [cjA,T9 hX,IK,aB];done)|assumption) [cjA,IK,T9 bC,aX,T9 hX,fE,aB,aC,hk,U5,c1,c2,c4,c5,eq];exact⟨q+1,_,⟨by simp,rfl⟩,⟨by omega,λ a b c h=>fY _ h,fin⟩,by omega⟩
    ·have hd':a.any (T8 k1 k2)=false:=by simpa using hd
     have nD:F3 (p.ks.take (q+1))=a++[(k1,k2,k3)]:=by rw [hsn];unfold Bdz;rw [B6j hd]
     rw [B6j hd]at bC;rw [hd']at eq;have fin:Bxq s p (q+1) ((566041,w39 s (.nil 4) (.sl 1000564 (a.length+1) 0 (a.length+1)) (.nil 7) p.tick)::(1000564,⟨3,a.map (A4∘U5)++[[i64 k1,i64 k2,i64 k3]]⟩)::(566003,p39 p)::(566002,⟨13,[Y9 s]⟩)::H'):=by
      refine .inr ⟨by omega,H',b+1,by rw [nD];exact bC,by omega,?_⟩
      rw [nD,B67,B60];rfl
     rcases g3 with rfl|rfl
     ·simp -implicitDefEqProofs (disch:=first|omega|(simp [cjA,T9 hX,IK,aB];done)|assumption) [cjA,IK,T9 bC,aX,T9 hX,fE,aB,aC,hk,U5,c1,c2,c4,c5,eq];exact⟨q+1,_,⟨by simp,rfl⟩,⟨by omega,λ a b c h=>fY _ h,fin⟩,by omega⟩
     ·simp -implicitDefEqProofs (disch:=first|omega|(simp [cjA,T9 hX,IK,aB];done)|assumption) [cjA,IK,T9 bC,aX,T9 hX,fE,aB,aC,hk,U5,c1,c2,c4,c5,eq];exact⟨q+1,_,⟨by simp,rfl⟩,⟨by omega,λ a b c h=>fY _ h,fin⟩,by omega⟩
  ·rcases gR with ⟨h0,rfl⟩|⟨h0,H,b,hX,hb,rfl⟩
   ·rcases hbad with c|⟨c1,c⟩|⟨c1,c2,c3,c4⟩|⟨c1,c2,c3,c⟩|⟨c1,c2,c3,c4,c⟩
    ·simp -implicitDefEqProofs (disch:=first|omega|(simp;done)|assumption) [aB,aC,hk,U5,c,hnA]
    ·simp -implicitDefEqProofs (disch:=first|omega|(simp;done)|assumption) [aB,aC,hk,U5,c,c1,hnA]
    ·simp -implicitDefEqProofs (disch:=first|omega|(simp;done)|assumption) [aB,aC,hk,U5,c1,c2,c3,c4,hnA]
    ·rcases c3 with rfl|rfl<;>(simp -implicitDefEqProofs (disch:=first|omega|(simp;done)|assumption) [aB,aC,hk,U5,c1,c2,c];exact hnA)
    ·rcases c3 with rfl|rfl<;>(simp -implicitDefEqProofs (disch:=first|omega|(simp;done)|assumption) [aB,aC,hk,U5,c1,c2,c4,c];exact hnA)
   ·have aX:∀os,566036∈os->A1 566000 567000 os H=H:=λ os h=>G4 hX (by omega) (.inr (.inr h))
    rcases hbad with c|⟨c1,c⟩|⟨c1,c2,c3,c4⟩|⟨c1,c2,c3,c⟩|⟨c1,c2,c3,c4,c⟩
    ·simp -implicitDefEqProofs (disch:=first|omega|(simp [cjA,T9 hX,IK,aB];done)|assumption) [cjA,IK,T9 hX,aX,aB,aC,hk,U5,c,hnA]
    ·simp -implicitDefEqProofs (disch:=first|omega|(simp [cjA,T9 hX,IK,aB];done)|assumption) [cjA,IK,T9 hX,aX,aB,aC,hk,U5,c,c1,hnA]
    ·simp -implicitDefEqProofs (disch:=first|omega|(simp [cjA,T9 hX,IK,aB];done)|assumption) [cjA,IK,T9 hX,aX,aB,aC,hk,U5,c1,c2,c3,c4,hnA]
    ·rcases c3 with rfl|rfl<;>(simp -implicitDefEqProofs (disch:=first|omega|(simp [cjA,T9 hX,IK,aB];done)|assumption) [cjA,IK,T9 hX,aX,aB,aC,hk,U5,c1,c2,c];exact hnA)
    ·rcases c3 with rfl|rfl<;>(simp -implicitDefEqProofs (disch:=first|omega|(simp [cjA,T9 hX,IK,aB];done)|assumption) [cjA,IK,T9 hX,aX,aB,aC,hk,U5,c1,c2,c4,c];exact hnA)
 ·obtain rfl:q=p.ks.length:=by omega
  have hall:A:=hA.2 (by rw [B7s]at bB;exact bB)
  rcases gR with ⟨h0,rfl⟩|⟨h0,H,b,hX,hb,rfl⟩
  ·simp -implicitDefEqProofs (disch:=first|omega|(simp;done)|assumption) [aB];exact⟨hall,.inl ⟨h0,rfl⟩⟩
  ·have aX:∀os,566036∈os->A1 566000 567000 os H=H:=λ os h=>G4 hX (by omega) (.inr (.inr h))
   simp -implicitDefEqProofs (disch:=first|omega|(simp [cjA,T9 hX,IK,aB];done)|assumption) [cjA,IK,T9 hX,aX,aB];exact⟨hall,.inr ⟨h0,H,b,hX,hb,by rw [B7s]⟩⟩
def Sha (s:S6)(p:Plc)(N q:Nat)(ob:OL):Prop:=
 (q=0/\ob=(566041,w39 s (.nil 4) (.nil 3) (.sl 566113 N 0 N) p.tick)::(566113,⟨7,List.replicate N [i64 0,i64 0,i64 0,i64 0,i64 0,i64 0,i64 0]⟩)::(566036,h0O)::(566003,p39 p)::(566002,⟨13,[Y9 s]⟩)::[])\/
 (0<q/\∃H b,HX 566036 (Acr p.c.rid.length (p.ws.take q)) [] b H/\b<=20+2*q/\ob=(566041,w39 s (.sl 1000565 q 0 q) (.nil 3) (.sl 566113 N 0 N) p.tick)::(1000565,⟨4,(Acr p.c.rid.length (p.ws.take q)).map (A4∘U8)⟩)::(566113,⟨7,List.replicate N [i64 0,i64 0,i64 0,i64 0,i64 0,i64 0,i64 0]⟩)::(566003,p39 p)::(566002,⟨13,[Y9 s]⟩)::H)
theorem A06 (Γ:H6)(M:Nat)(hM:200<M){SS:PG}(eS:Γ.pt 508=U6 2 SS)(oX:A2h SS)(s:S6)(kV:ScG s)(p:Plc)(N:Nat)(hN:N<=200)(qK:p.ws.length<=20)(dH:p.c.rid.length<=100)(A:Prop)(hA:A↔∀w∈p.ws,W6 s w):
  ∃ax s',((ax= .ex 2/\A/\∃ob,s'=(⟨[(7,.loc 566036 0 0),(8,.loc 566041 0 0)],A1 566000 567000 [566036,566041,566113] ob⟩:St)/\Sha s p N p.ws.length ob)\/(ax= .ret/\¬A/\∃ob,s'=(⟨[(4,.ot .np),(5,.ot .np),(6,bo false)],ob⟩:St)))/\
   ∀s0,U9 [2,3,7,8,11] 566000 567000 [566002,566003,566036,566041,566113] s0=⟨[(2,.loc 566002 0 0),(3,.loc 566003 0 0),(7,.loc 566036 0 0),(8,.loc 566041 0 0),(11,i64 (0:Nat))],(566041,w39 s (.nil 4) (.nil 3) (.sl 566113 N 0 N) p.tick)::(566113,⟨7,List.replicate N [i64 0,i64 0,i64 0,i64 0,i64 0,i64 0,i64 0]⟩)::(566036,h0O)::(566003,p39 p)::(566002,⟨13,[Y9 s]⟩)::[]⟩->lp (exec Γ M Af1) M s0=some (ax,s'):=by
 have aB:KT=18446744073709551616:=G1;have dM:=kV.floors;have wL:=kV.cars;have uG:∀r∈List.replicate N [i64 0,i64 0,i64 0,i64 0,i64 0,i64 0,i64 0],∀v∈r,v=i64 0:=λ r hr v hv=>by
  rw [List.eq_of_mem_replicate hr]at hv;simpa using hv
 have cV:∀j,B5 j (List.replicate N [i64 0,i64 0,i64 0,i64 0,i64 0,i64 0,i64 0])=true:=λ j=>A5.2 λ r hr v hv=>by rw [uG r hr v hv];rfl
 have dI:∀j,P0 j (List.replicate N [i64 0,i64 0,i64 0,i64 0,i64 0,i64 0,i64 0])=true:=λ j=>Acu j _ (cV j)
 have dD:Bhl 566036 (List.replicate N [i64 0,i64 0,i64 0,i64 0,i64 0,i64 0,i64 0]):=λ r hr v hv=>by rw [uG r hr v hv];exact A02 _ _
 have IK:M2 566036 566002=false/\M2 566036 566003=false/\M2 566036 566010=false/\M2 566036 566012=false/\M2 566036 566041=false/\M2 566036 566113=false/\M2 566036 1000564=false/\M2 566036 1000565=false/\M2 566036 566036=true:=by decide
 refine I0 (λ q:Nat×OL=>⟨[(2,.loc 566002 0 0),(3,.loc 566003 0 0),(7,.loc 566036 0 0),(8,.loc 566041 0 0),(11,i64 q.1)],q.2⟩) (λ q=>q.1<=p.ws.length/\(∀w∈p.ws.take q.1,W6 s w)/\Sha s p N q.1 q.2) (λ q=>p.ws.length-q.1) _ (0,_) M ⟨by simp,by simp,.inl ⟨rfl,rfl⟩⟩ (by simp;omega) ?_
 rintro⟨q,ob⟩ ⟨hq,bB,gR⟩;dsimp only at hq bB gR ⊢;by_cases aC:q<p.ws.length
 ·obtain⟨w,hk⟩:∃w,p.ws[q]'aC=w:=⟨_,rfl⟩;have aY:p.ws.take (q+1)=p.ws.take q++[w]:=by rw [List.take_add_one,B6w aC,hk];rfl
  have mU:(p.ws.take q).length=q:=by rw [B7l];omega
  obtain⟨w0,w1,w2,w3⟩:=w;have gZ:Acr p.c.rid.length (p.ws.take (q+1))=Acr p.c.rid.length (p.ws.take q)++[((p.c.rid.length:Int)+q,w1,w2,w3)]:=by
   rw [aY,A4c,mU];simp
  have uI:=Bhr p.c.rid.length (p.ws.take q);rw [mU]at uI;have zU:¬W6 s (w0,w1,w2,w3)->¬A:=λ h h2=>h (hA.1 h2 _ (by rw [<-hk];exact B8e aC))
  have jD:(W6 s (w0,w1,w2,w3))\/(¬A/\(w1<0\/(¬w1<0/\s.floors<=w1)\/(¬w1<0/\¬s.floors<=w1/\w2<0)\/(¬w1<0/\¬s.floors<=w1/\¬w2<0/\s.floors<=w2)\/(¬w1<0/\¬s.floors<=w1/\¬w2<0/\¬s.floors<=w2/\w1=w2)\/(¬w1<0/\¬s.floors<=w1/\¬w2<0/\¬s.floors<=w2/\¬w1=w2/\w3< -1)\/(¬w1<0/\¬s.floors<=w1/\¬w2<0/\¬s.floors<=w2/\¬w1=w2/\¬w3< -1/\s.cars<=w3))):=by
   by_cases hg:W6 s (w0,w1,w2,w3)
   ·exact .inl hg
   ·refine .inr ⟨zU hg,?_⟩;unfold W6 at hg;dsimp only at hg;by_cases a1:w1<0
    ·exact .inl a1
    by_cases a2:s.floors<=w1
    ·exact .inr (.inl ⟨a1,a2⟩)
    by_cases a3:w2<0
    ·exact .inr (.inr (.inl ⟨a1,a2,a3⟩))
    by_cases a4:s.floors<=w2
    ·exact .inr (.inr (.inr (.inl ⟨a1,a2,a3,a4⟩)))
    by_cases a5:w1=w2
    ·exact .inr (.inr (.inr (.inr (.inl ⟨a1,a2,a3,a4,a5⟩))))
    by_cases a6:w3< -1
    ·exact .inr (.inr (.inr (.inr (.inr (.inl ⟨a1,a2,a3,a4,a5,a6⟩)))))
    ·exact .inr (.inr (.inr (.inr (.inr (.inr ⟨a1,a2,a3,a4,a5,a6,by omega⟩)))))
  rcases jD with hg|⟨hnA,hbad⟩
  ·unfold W6 at hg;dsimp only at hg;obtain⟨g1,g2,g3,g4,g5,g6,g7⟩:=hg;have c1:¬w1<0:=by omega
   have c2:¬s.floors<=w1:=by omega
   have c3:¬w2<0:=by omega
   have c4:¬s.floors<=w2:=by omega
   have c6:¬w3< -1:=by omega
   have c7:¬s.cars<=w3:=by omega
   have fY:∀w∈p.ws.take (q+1),W6 s w:=λ w aN=>by
    rw [aY]at aN;rcases B65.1 aN with h|h
    ·exact bB w h
    ·rw [B6x.1 h];exact⟨g1,g2,g3,g4,g5,g6,g7⟩
   have gD:SmW ((p.c.rid.length:Int)+q,w1,w2,w3):=⟨⟨by dsimp only;omega,by dsimp only;omega⟩,⟨by dsimp only;omega,by dsimp only;omega⟩⟩
   rcases gR with ⟨h0,rfl⟩|⟨h0,H,b,hX,hb,rfl⟩
   ·have hX:=Ar4 (hk:=566036) (by decide)
    have aX:∀os,566036∈os->A1 566000 567000 os [(566036,h0O)]=[(566036,h0O)]:=λ os h=>G4 hX (by omega) (.inr (.inr h))
    obtain⟨H',bC,eq⟩:=Aq0 oX hX (by decide) (by decide) (by omega) ((p.c.rid.length:Int)+q,w1,w2,w3) gD (by simp) (by simp)
    rw [<-eS]at eq;simp only [U8,B7j]at eq bC;have jI:Acr p.c.rid.length (p.ws.take (q+1))=[((p.c.rid.length:Int)+q,w1,w2,w3)]:=by rw [gZ,h0];rfl
    have fE:∀os,566036∈os->A1 566000 567000 os H'=H':=λ os h=>G4 bC (by omega) (.inr (.inr h))
    have fin:Sha s p N (q+1) ((566041,w39 s (.sl 1000565 1 0 1) (.nil 3) (.sl 566113 N 0 N) p.tick)::(1000565,⟨4,[[i64 ((p.c.rid.length:Int)+q),i64 w1,i64 w2,i64 w3]]⟩)::(566113,⟨7,List.replicate N [i64 0,i64 0,i64 0,i64 0,i64 0,i64 0,i64 0]⟩)::(566003,p39 p)::(566002,⟨13,[Y9 s]⟩)::H'):=by
     refine .inr ⟨by omega,H',_,by rw [jI];exact bC,by omega,?_⟩
     rw [jI,h0];rfl
    simp -implicitDefEqProofs (disch:=first|omega|(simp [cjA,T9 hX,IK,dD,aB];done)|assumption) [cjA,IK,T9 bC,aX,T9 hX,cV,dI,fE,aB,aC,hk,U8,c1,c2,c3,c4,g5,c6,c7,eq];exact⟨q+1,_,⟨by simp,rfl⟩,⟨by omega,λ a b c d h=>fY _ h,fin⟩,by omega⟩
   ·have aX:∀os,566036∈os->A1 566000 567000 os H=H:=λ os h=>G4 hX (by omega) (.inr (.inr h))
    obtain⟨H',bC,eq⟩:=Aq0 oX hX (by decide) (by decide) (by omega) ((p.c.rid.length:Int)+q,w1,w2,w3) gD (λ u hu=>by have:=uI u hu;dsimp only;omega) (by rw [Ahz,mU];omega)
    rw [<-eS]at eq;simp only [U8]at eq;have fE:∀os,566036∈os->A1 566000 567000 os H'=H':=λ os h=>G4 bC (by omega) (.inr (.inr h))
    obtain⟨a,ha⟩:∃a,a=Acr p.c.rid.length (p.ws.take q):=⟨_,rfl⟩;have cM:a.length=q:=by rw [ha,Ahz,mU]
    rw [<-ha]at gZ hX bC ⊢;have fin:Sha s p N (q+1) ((566041,w39 s (.sl 1000565 (q+1) 0 (q+1)) (.nil 3) (.sl 566113 N 0 N) p.tick)::(1000565,⟨4,a.map (A4∘U8)++[[i64 ((p.c.rid.length:Int)+q),i64 w1,i64 w2,i64 w3]]⟩)::(566113,⟨7,List.replicate N [i64 0,i64 0,i64 0,i64 0,i64 0,i64 0,i64 0]⟩)::(566003,p39 p)::(566002,⟨13,[Y9 s]⟩)::H'):=by
     refine .inr ⟨by omega,H',b+2,by rw [gZ];exact bC,by omega,?_⟩
     rw [gZ,B60];rfl
    simp -implicitDefEqProofs (disch:=first|omega|(simp [cjA,T9 hX,IK,dD,aB];done)|assumption) [cjA,IK,T9 bC,aX,T9 hX,cV,dI,fE,aB,aC,hk,U8,c1,c2,c3,c4,g5,c6,c7,eq,cM];exact⟨q+1,_,⟨by simp,rfl⟩,⟨by omega,λ a b c d h=>fY _ h,fin⟩,by omega⟩
  ·rcases gR with ⟨h0,rfl⟩|⟨h0,H,b,hX,hb,rfl⟩
   ·have hX:=Ar4 (hk:=566036) (by decide)
    have aX:∀os,566036∈os->A1 566000 567000 os [(566036,h0O)]=[(566036,h0O)]:=λ os h=>G4 hX (by omega) (.inr (.inr h))
    rcases hbad with d1|⟨d1,d2⟩|⟨d1,d2,d3⟩|⟨d1,d2,d3,d4⟩|⟨d1,d2,d3,d4,d5⟩|⟨d1,d2,d3,d4,d5,d6⟩|⟨d1,d2,d3,d4,d5,d6,d7⟩
    ·simp -implicitDefEqProofs (disch:=first|omega|(simp [cjA,T9 hX,IK,dD,aB];done)|assumption) [cjA,IK,T9 hX,aX,cV,dI,aB,aC,hk,U8,d1,hnA]
    ·simp -implicitDefEqProofs (disch:=first|omega|(simp [cjA,T9 hX,IK,dD,aB];done)|assumption) [cjA,IK,T9 hX,aX,cV,dI,aB,aC,hk,U8,d1,d2,hnA]
    ·simp -implicitDefEqProofs (disch:=first|omega|(simp [cjA,T9 hX,IK,dD,aB];done)|assumption) [cjA,IK,T9 hX,aX,cV,dI,aB,aC,hk,U8,d1,d2,d3,hnA]
    ·simp -implicitDefEqProofs (disch:=first|omega|(simp [cjA,T9 hX,IK,dD,aB];done)|assumption) [cjA,IK,T9 hX,aX,cV,dI,aB,aC,hk,U8,d1,d2,d3,d4,hnA]
    ·subst d5;simp -implicitDefEqProofs (disch:=first|omega|(simp [cjA,T9 hX,IK,dD,aB];done)|assumption) [cjA,IK,T9 hX,aX,cV,dI,aB,aC,hk,U8,d1,d2,hnA]
    ·simp -implicitDefEqProofs (disch:=first|omega|(simp [cjA,T9 hX,IK,dD,aB];done)|assumption) [cjA,IK,T9 hX,aX,cV,dI,aB,aC,hk,U8,d1,d2,d3,d4,d5,d6,hnA]
    ·simp -implicitDefEqProofs (disch:=first|omega|(simp [cjA,T9 hX,IK,dD,aB];done)|assumption) [cjA,IK,T9 hX,aX,cV,dI,aB,aC,hk,U8,d1,d2,d3,d4,d5,d6,d7,hnA]
   ·have aX:∀os,566036∈os->A1 566000 567000 os H=H:=λ os h=>G4 hX (by omega) (.inr (.inr h))
    rcases hbad with d1|⟨d1,d2⟩|⟨d1,d2,d3⟩|⟨d1,d2,d3,d4⟩|⟨d1,d2,d3,d4,d5⟩|⟨d1,d2,d3,d4,d5,d6⟩|⟨d1,d2,d3,d4,d5,d6,d7⟩
    ·simp -implicitDefEqProofs (disch:=first|omega|(simp [cjA,T9 hX,IK,dD,aB];done)|assumption) [cjA,IK,T9 hX,aX,cV,dI,aB,aC,hk,U8,d1,hnA]
    ·simp -implicitDefEqProofs (disch:=first|omega|(simp [cjA,T9 hX,IK,dD,aB];done)|assumption) [cjA,IK,T9 hX,aX,cV,dI,aB,aC,hk,U8,d1,d2,hnA]
    ·simp -implicitDefEqProofs (disch:=first|omega|(simp [cjA,T9 hX,IK,dD,aB];done)|assumption) [cjA,IK,T9 hX,aX,cV,dI,aB,aC,hk,U8,d1,d2,d3,hnA]
    ·simp -implicitDefEqProofs (disch:=first|omega|(simp [cjA,T9 hX,IK,dD,aB];done)|assumption) [cjA,IK,T9 hX,aX,cV,dI,aB,aC,hk,U8,d1,d2,d3,d4,hnA]
    ·subst d5;simp -implicitDefEqProofs (disch:=first|omega|(simp [cjA,T9 hX,IK,dD,aB];done)|assumption) [cjA,IK,T9 hX,aX,cV,dI,aB,aC,hk,U8,d1,d2,hnA]
    ·simp -implicitDefEqProofs (disch:=first|omega|(simp [cjA,T9 hX,IK,dD,aB];done)|assumption) [cjA,IK,T9 hX,aX,cV,dI,aB,aC,hk,U8,d1,d2,d3,d4,d5,d6,hnA]
    ·simp -implicitDefEqProofs (disch:=first|omega|(simp [cjA,T9 hX,IK,dD,aB];done)|assumption) [cjA,IK,T9 hX,aX,cV,dI,aB,aC,hk,U8,d1,d2,d3,d4,d5,d6,d7,hnA]
 ·obtain rfl:q=p.ws.length:=by omega
  have hall:A:=hA.2 (by rw [B7s]at bB;exact bB)
  rcases gR with ⟨h0,rfl⟩|⟨h0,H,b,hX,hb,rfl⟩
  ·have hX:=Ar4 (hk:=566036) (by decide)
   simp -implicitDefEqProofs (disch:=first|omega|(simp;done)|assumption) [aB];refine⟨hall,_,?_,.inl ⟨h0,rfl⟩⟩;simp [aB]
  ·have aX:∀os,566036∈os->A1 566000 567000 os H=H:=λ os h=>G4 hX (by omega) (.inr (.inr h))
   simp -implicitDefEqProofs (disch:=first|omega|(simp [cjA,T9 hX,IK,dD,aB];done)|assumption) [cjA,IK,T9 hX,aX,cV,dI,aB];refine⟨hall,_,?_,.inr ⟨h0,H,b,hX,hb,rfl⟩⟩;simp [aB,aX,B7s]
def Shb (s:S6)(p:Plc)(N q:Nat)(H0:OL)(ob:OL):Prop:=
 (q=0/\ob=(566041,w39 s (.nil 4) (.sl 1000564 (F3 p.ks).length 0 (F3 p.ks).length) (.sl 566113 N 0 N) p.tick)::(566113,⟨7,List.replicate N [i64 0,i64 0,i64 0,i64 0,i64 0,i64 0,i64 0]⟩)::(1000564,⟨3,(F3 p.ks).map (A4∘U5)⟩)::(566003,p39 p)::(566002,⟨13,[Y9 s]⟩)::H0)\/
 (0<q/\∃H b,HX 566036 (Acr p.c.rid.length (p.ws.take q)) (F3 p.ks) b H/\b<=20+2*q/\ob=(566041,w39 s (.sl 1000565 q 0 q) (.sl 1000564 (F3 p.ks).length 0 (F3 p.ks).length) (.sl 566113 N 0 N) p.tick)::(1000565,⟨4,(Acr p.c.rid.length (p.ws.take q)).map (A4∘U8)⟩)::(566113,⟨7,List.replicate N [i64 0,i64 0,i64 0,i64 0,i64 0,i64 0,i64 0]⟩)::(1000564,⟨3,(F3 p.ks).map (A4∘U5)⟩)::(566003,p39 p)::(566002,⟨13,[Y9 s]⟩)::H)
theorem A07 (Γ:H6)(M:Nat)(hM:200<M){SS:PG}(eS:Γ.pt 508=U6 2 SS)(oX:A2h SS)(s:S6)(kV:ScG s)(p:Plc)(N:Nat)(hN:N<=200)(qK:p.ws.length<=20)(dH:p.c.rid.length<=100)(A:Prop)(hA:A↔∀w∈p.ws,W6 s w){H0:OL}{b0:Nat}(sV:HX 566036 [] (F3 p.ks) b0 H0)(uO:b0<=20):
  ∃ax s',((ax= .ex 2/\A/\∃ob,s'=(⟨[(7,.loc 566036 0 0),(8,.loc 566041 0 0)],A1 566000 567000 [566036,566041,566113] ob⟩:St)/\Shb s p N p.ws.length H0 ob)\/(ax= .ret/\¬A/\∃ob,s'=(⟨[(4,.ot .np),(5,.ot .np),(6,bo false)],ob⟩:St)))/\
   ∀s0,U9 [2,3,7,8,11] 566000 567000 [566002,566003,566036,566041,566113] s0=⟨[(2,.loc 566002 0 0),(3,.loc 566003 0 0),(7,.loc 566036 0 0),(8,.loc 566041 0 0),(11,i64 (0:Nat))],(566041,w39 s (.nil 4) (.sl 1000564 (F3 p.ks).length 0 (F3 p.ks).length) (.sl 566113 N 0 N) p.tick)::(566113,⟨7,List.replicate N [i64 0,i64 0,i64 0,i64 0,i64 0,i64 0,i64 0]⟩)::(1000564,⟨3,(F3 p.ks).map (A4∘U5)⟩)::(566003,p39 p)::(566002,⟨13,[Y9 s]⟩)::H0⟩->lp (exec Γ M Af1) M s0=some (ax,s'):=by
 have aB:KT=18446744073709551616:=G1;have dM:=kV.floors;have wL:=kV.cars;have uG:∀r∈List.replicate N [i64 0,i64 0,i64 0,i64 0,i64 0,i64 0,i64 0],∀v∈r,v=i64 0:=λ r hr v hv=>by
  rw [List.eq_of_mem_replicate hr]at hv;simpa using hv
 have cV:∀j,B5 j (List.replicate N [i64 0,i64 0,i64 0,i64 0,i64 0,i64 0,i64 0])=true:=λ j=>A5.2 λ r hr v hv=>by rw [uG r hr v hv];rfl
 have dI:∀j,P0 j (List.replicate N [i64 0,i64 0,i64 0,i64 0,i64 0,i64 0,i64 0])=true:=λ j=>Acu j _ (cV j)
 have dD:Bhl 566036 (List.replicate N [i64 0,i64 0,i64 0,i64 0,i64 0,i64 0,i64 0]):=λ r hr v hv=>by rw [uG r hr v hv];exact A02 _ _
 have IK:M2 566036 566002=false/\M2 566036 566003=false/\M2 566036 566010=false/\M2 566036 566012=false/\M2 566036 566041=false/\M2 566036 566113=false/\M2 566036 1000564=false/\M2 566036 1000565=false/\M2 566036 566036=true:=by decide
 refine I0 (λ q:Nat×OL=>⟨[(2,.loc 566002 0 0),(3,.loc 566003 0 0),(7,.loc 566036 0 0),(8,.loc 566041 0 0),(11,i64 q.1)],q.2⟩) (λ q=>q.1<=p.ws.length/\(∀w∈p.ws.take q.1,W6 s w)/\Shb s p N q.1 H0 q.2) (λ q=>p.ws.length-q.1) _ (0,_) M ⟨by simp,by simp,.inl ⟨rfl,rfl⟩⟩ (by simp;omega) ?_
 rintro⟨q,ob⟩ ⟨hq,bB,gR⟩;dsimp only at hq bB gR ⊢;by_cases aC:q<p.ws.length
 ·obtain⟨w,hk⟩:∃w,p.ws[q]'aC=w:=⟨_,rfl⟩;have aY:p.ws.take (q+1)=p.ws.take q++[w]:=by rw [List.take_add_one,B6w aC,hk];rfl
  have mU:(p.ws.take q).length=q:=by rw [B7l];omega
  obtain⟨w0,w1,w2,w3⟩:=w;have gZ:Acr p.c.rid.length (p.ws.take (q+1))=Acr p.c.rid.length (p.ws.take q)++[((p.c.rid.length:Int)+q,w1,w2,w3)]:=by
   rw [aY,A4c,mU];simp
  have uI:=Bhr p.c.rid.length (p.ws.take q);rw [mU]at uI;have zU:¬W6 s (w0,w1,w2,w3)->¬A:=λ h h2=>h (hA.1 h2 _ (by rw [<-hk];exact B8e aC))
  have jD:(W6 s (w0,w1,w2,w3))\/(¬A/\(w1<0\/(¬w1<0/\s.floors<=w1)\/(¬w1<0/\¬s.floors<=w1/\w2<0)\/(¬w1<0/\¬s.floors<=w1/\¬w2<0/\s.floors<=w2)\/(¬w1<0/\¬s.floors<=w1/\¬w2<0/\¬s.floors<=w2/\w1=w2)\/(¬w1<0/\¬s.floors<=w1/\¬w2<0/\¬s.floors<=w2/\¬w1=w2/\w3< -1)\/(¬w1<0/\¬s.floors<=w1/\¬w2<0/\¬s.floors<=w2/\¬w1=w2/\¬w3< -1/\s.cars<=w3))):=by
   by_cases hg:W6 s (w0,w1,w2,w3)
   ·exact .inl hg
   ·refine .inr ⟨zU hg,?_⟩;unfold W6 at hg;dsimp only at hg;by_cases a1:w1<0
    ·exact .inl a1
    by_cases a2:s.floors<=w1
    ·exact .inr (.inl ⟨a1,a2⟩)
    by_cases a3:w2<0
    ·exact .inr (.inr (.inl ⟨a1,a2,a3⟩))
    by_cases a4:s.floors<=w2
    ·exact .inr (.inr (.inr (.inl ⟨a1,a2,a3,a4⟩)))
    by_cases a5:w1=w2
    ·exact .inr (.inr (.inr (.inr (.inl ⟨a1,a2,a3,a4,a5⟩))))
    by_cases a6:w3< -1
    ·exact .inr (.inr (.inr (.inr (.inr (.inl ⟨a1,a2,a3,a4,a5,a6⟩)))))
    ·exact .inr (.inr (.inr (.inr (.inr (.inr ⟨a1,a2,a3,a4,a5,a6,by omega⟩)))))
  rcases jD with hg|⟨hnA,hbad⟩
  ·unfold W6 at hg;dsimp only at hg;obtain⟨g1,g2,g3,g4,g5,g6,g7⟩:=hg;have c1:¬w1<0:=by omega
   have c2:¬s.floors<=w1:=by omega
   have c3:¬w2<0:=by omega
   have c4:¬s.floors<=w2:=by omega
   have c6:¬w3< -1:=by omega
   have c7:¬s.cars<=w3:=by omega
   have fY:∀w∈p.ws.take (q+1),W6 s w:=λ w aN=>by
    rw [aY]at aN;rcases B65.1 aN with h|h
    ·exact bB w h
    ·rw [B6x.1 h];exact⟨g1,g2,g3,g4,g5,g6,g7⟩
   have gD:SmW ((p.c.rid.length:Int)+q,w1,w2,w3):=⟨⟨by dsimp only;omega,by dsimp only;omega⟩,⟨by dsimp only;omega,by dsimp only;omega⟩⟩
   rcases gR with ⟨h0,rfl⟩|⟨h0,H,b,hX,hb,rfl⟩
   ·have hX:=sV;have aX:∀os,566036∈os->A1 566000 567000 os H0=H0:=λ os h=>G4 sV (by omega) (.inr (.inr h))
    obtain⟨H',bC,eq⟩:=Aq0 oX hX (by decide) (by decide) (by omega) ((p.c.rid.length:Int)+q,w1,w2,w3) gD (by simp) (by simp)
    rw [<-eS]at eq;simp only [U8,B7j]at eq bC;have jI:Acr p.c.rid.length (p.ws.take (q+1))=[((p.c.rid.length:Int)+q,w1,w2,w3)]:=by rw [gZ,h0];rfl
    have fE:∀os,566036∈os->A1 566000 567000 os H'=H':=λ os h=>G4 bC (by omega) (.inr (.inr h))
    have fin:Shb s p N (q+1) H0 ((566041,w39 s (.sl 1000565 1 0 1) (.sl 1000564 (F3 p.ks).length 0 (F3 p.ks).length) (.sl 566113 N 0 N) p.tick)::(1000565,⟨4,[[i64 ((p.c.rid.length:Int)+q),i64 w1,i64 w2,i64 w3]]⟩)::(566113,⟨7,List.replicate N [i64 0,i64 0,i64 0,i64 0,i64 0,i64 0,i64 0]⟩)::(1000564,⟨3,(F3 p.ks).map (A4∘U5)⟩)::(566003,p39 p)::(566002,⟨13,[Y9 s]⟩)::H'):=by
     refine .inr ⟨by omega,H',_,by rw [jI];exact bC,by omega,?_⟩
     rw [jI,h0];rfl
    simp -implicitDefEqProofs (disch:=first|omega|(simp [cjA,T9 hX,IK,dD,aB];done)|assumption) [cjA,IK,T9 bC,aX,T9 hX,cV,dI,fE,aB,aC,hk,U8,c1,c2,c3,c4,g5,c6,c7,eq];exact⟨q+1,_,⟨by simp,rfl⟩,⟨by omega,λ a b c d h=>fY _ h,fin⟩,by omega⟩
   ·have aX:∀os,566036∈os->A1 566000 567000 os H=H:=λ os h=>G4 hX (by omega) (.inr (.inr h))
    obtain⟨H',bC,eq⟩:=Aq0 oX hX (by decide) (by decide) (by omega) ((p.c.rid.length:Int)+q,w1,w2,w3) gD (λ u hu=>by have:=uI u hu;dsimp only;omega) (by rw [Ahz,mU];omega)
    rw [<-eS]at eq;simp only [U8]at eq;have fE:∀os,566036∈os->A1 566000 567000 os H'=H':=λ os h=>G4 bC (by omega) (.inr (.inr h))
    obtain⟨a,ha⟩:∃a,a=Acr p.c.rid.length (p.ws.take q):=⟨_,rfl⟩;have cM:a.length=q:=by rw [ha,Ahz,mU]
    rw [<-ha]at gZ hX bC ⊢;have fin:Shb s p N (q+1) H0 ((566041,w39 s (.sl 1000565 (q+1) 0 (q+1)) (.sl 1000564 (F3 p.ks).length 0 (F3 p.ks).length) (.sl 566113 N 0 N) p.tick)::(1000565,⟨4,a.map (A4∘U8)++[[i64 ((p.c.rid.length:Int)+q),i64 w1,i64 w2,i64 w3]]⟩)::(566113,⟨7,List.replicate N [i64 0,i64 0,i64 0,i64 0,i64 0,i64 0,i64 0]⟩)::(1000564,⟨3,(F3 p.ks).map (A4∘U5)⟩)::(566003,p39 p)::(566002,⟨13,[Y9 s]⟩)::H'):=by
     refine .inr ⟨by omega,H',b+2,by rw [gZ];exact bC,by omega,?_⟩
     rw [gZ,B60];rfl
    simp -implicitDefEqProofs (disch:=first|omega|(simp [cjA,T9 hX,IK,dD,aB];done)|assumption) [cjA,IK,T9 bC,aX,T9 hX,cV,dI,fE,aB,aC,hk,U8,c1,c2,c3,c4,g5,c6,c7,eq,cM];exact⟨q+1,_,⟨by simp,rfl⟩,⟨by omega,λ a b c d h=>fY _ h,fin⟩,by omega⟩
  ·rcases gR with ⟨h0,rfl⟩|⟨h0,H,b,hX,hb,rfl⟩
   ·have hX:=sV;have aX:∀os,566036∈os->A1 566000 567000 os H0=H0:=λ os h=>G4 sV (by omega) (.inr (.inr h))
    rcases hbad with d1|⟨d1,d2⟩|⟨d1,d2,d3⟩|⟨d1,d2,d3,d4⟩|⟨d1,d2,d3,d4,d5⟩|⟨d1,d2,d3,d4,d5,d6⟩|⟨d1,d2,d3,d4,d5,d6,d7⟩
    ·simp -implicitDefEqProofs (disch:=first|omega|(simp [cjA,T9 hX,IK,dD,aB];done)|assumption) [cjA,IK,T9 hX,aX,cV,dI,aB,aC,hk,U8,d1,hnA]
    ·simp -implicitDefEqProofs (disch:=first|omega|(simp [cjA,T9 hX,IK,dD,aB];done)|assumption) [cjA,IK,T9 hX,aX,cV,dI,aB,aC,hk,U8,d1,d2,hnA]
    ·simp -implicitDefEqProofs (disch:=first|omega|(simp [cjA,T9 hX,IK,dD,aB];done)|assumption) [cjA,IK,T9 hX,aX,cV,dI,aB,aC,hk,U8,d1,d2,d3,hnA]
    ·simp -implicitDefEqProofs (disch:=first|omega|(simp [cjA,T9 hX,IK,dD,aB];done)|assumption) [cjA,IK,T9 hX,aX,cV,dI,aB,aC,hk,U8,d1,d2,d3,d4,hnA]
    ·subst d5;simp -implicitDefEqProofs (disch:=first|omega|(simp [cjA,T9 hX,IK,dD,aB];done)|assumption) [cjA,IK,T9 hX,aX,cV,dI,aB,aC,hk,U8,d1,d2,hnA]
    ·simp -implicitDefEqProofs (disch:=first|omega|(simp [cjA,T9 hX,IK,dD,aB];done)|assumption) [cjA,IK,T9 hX,aX,cV,dI,aB,aC,hk,U8,d1,d2,d3,d4,d5,d6,hnA]
    ·simp -implicitDefEqProofs (disch:=first|omega|(simp [cjA,T9 hX,IK,dD,aB];done)|assumption) [cjA,IK,T9 hX,aX,cV,dI,aB,aC,hk,U8,d1,d2,d3,d4,d5,d6,d7,hnA]
   ·have aX:∀os,566036∈os->A1 566000 567000 os H=H:=λ os h=>G4 hX (by omega) (.inr (.inr h))
    rcases hbad with d1|⟨d1,d2⟩|⟨d1,d2,d3⟩|⟨d1,d2,d3,d4⟩|⟨d1,d2,d3,d4,d5⟩|⟨d1,d2,d3,d4,d5,d6⟩|⟨d1,d2,d3,d4,d5,d6,d7⟩
    ·simp -implicitDefEqProofs (disch:=first|omega|(simp [cjA,T9 hX,IK,dD,aB];done)|assumption) [cjA,IK,T9 hX,aX,cV,dI,aB,aC,hk,U8,d1,hnA]
    ·simp -implicitDefEqProofs (disch:=first|omega|(simp [cjA,T9 hX,IK,dD,aB];done)|assumption) [cjA,IK,T9 hX,aX,cV,dI,aB,aC,hk,U8,d1,d2,hnA]
    ·simp -implicitDefEqProofs (disch:=first|omega|(simp [cjA,T9 hX,IK,dD,aB];done)|assumption) [cjA,IK,T9 hX,aX,cV,dI,aB,aC,hk,U8,d1,d2,d3,hnA]
    ·simp -implicitDefEqProofs (disch:=first|omega|(simp [cjA,T9 hX,IK,dD,aB];done)|assumption) [cjA,IK,T9 hX,aX,cV,dI,aB,aC,hk,U8,d1,d2,d3,d4,hnA]
    ·subst d5;simp -implicitDefEqProofs (disch:=first|omega|(simp [cjA,T9 hX,IK,dD,aB];done)|assumption) [cjA,IK,T9 hX,aX,cV,dI,aB,aC,hk,U8,d1,d2,hnA]
    ·simp -implicitDefEqProofs (disch:=first|omega|(simp [cjA,T9 hX,IK,dD,aB];done)|assumption) [cjA,IK,T9 hX,aX,cV,dI,aB,aC,hk,U8,d1,d2,d3,d4,d5,d6,hnA]
    ·simp -implicitDefEqProofs (disch:=first|omega|(simp [cjA,T9 hX,IK,dD,aB];done)|assumption) [cjA,IK,T9 hX,aX,cV,dI,aB,aC,hk,U8,d1,d2,d3,d4,d5,d6,d7,hnA]
 ·obtain rfl:q=p.ws.length:=by omega
  have hall:A:=hA.2 (by rw [B7s]at bB;exact bB)
  rcases gR with ⟨h0,rfl⟩|⟨h0,H,b,hX,hb,rfl⟩
  ·have hX:=sV;have aX:∀os,566036∈os->A1 566000 567000 os H0=H0:=λ os h=>G4 sV (by omega) (.inr (.inr h))
   simp -implicitDefEqProofs (disch:=first|omega|(simp [cjA,T9 hX,IK,dD,aB];done)|assumption) [cjA,IK,T9 hX,aX,aB];refine⟨hall,_,?_,.inl ⟨h0,rfl⟩⟩;simp [aB,aX]
  ·have aX:∀os,566036∈os->A1 566000 567000 os H=H:=λ os h=>G4 hX (by omega) (.inr (.inr h))
   simp -implicitDefEqProofs (disch:=first|omega|(simp [cjA,T9 hX,IK,dD,aB];done)|assumption) [cjA,IK,T9 hX,aX,cV,dI,aB];refine⟨hall,_,?_,.inr ⟨h0,H,b,hX,hb,rfl⟩⟩;simp [aB,aX,B7s]
theorem N6 {a b:Nat}(x y:Obj)(l:OL)(h:a≠b):Ajl ((a,x)::(b,y)::l) ((b,y)::(a,x)::l)=true:=
 A3a λ k=>by
  grind [G2]
def Ba0 (s:S6)(p:Plc)(g:PG):Prop:=∃ob,g ⟨[(0,.agg s.cells),(1,.agg p.cells)],[]⟩=some ([.ot .np,.ot .np,bo false],ob)
theorem A5c (Γ:H6)(M:Nat)(hM:200<M)(s:S6)(kV:ScG s)(p:Plc)(h:¬(p.ws.length<=20/\p.ks.length<=20/\0<=p.i/\p.i<s.cars)):Ba0 s p (H9 Γ M R3):=by
 have aB:KT=18446744073709551616:=G1;unfold Ba0;simp only [S6.cells,Plc.cells];by_cases a1:20<p.ws.length
 ·have a1':(20:Int)<p.ws.length:=by omega
  simp -implicitDefEqProofs (disch:=first|omega|(simp [aB];done)|assumption) [aB,a1,a1']
 have a1':¬(20:Int)<p.ws.length:=by omega
 by_cases a2:20<p.ks.length
 ·have a2':(20:Int)<p.ks.length:=by omega
  simp -implicitDefEqProofs (disch:=first|omega|(simp [aB];done)|assumption) [aB,a1,a1',a2,a2']
 have a2':¬(20:Int)<p.ks.length:=by omega
 by_cases a3:p.i<0
 ·simp -implicitDefEqProofs (disch:=first|omega|(simp [aB];done)|assumption) [aB,a1,a1',a2,a2',a3]
 have a4:s.cars<=p.i:=by omega
 simp -implicitDefEqProofs (disch:=first|omega|(simp [aB];done)|assumption) [aB,a1,a1',a2,a2',a3,a4]
def B5c (s:S6)(p:Plc)(ob:OL):Prop:=∃H b,HX 566036 (Acr p.c.rid.length p.ws) (F3 p.ks) b H/\b<=60/\ob=(566041,w39 s (if p.ws=[]then .nil 4 else .sl 1000565 p.ws.length 0 p.ws.length) (if p.ks=[]then .nil 3 else .sl 1000564 (F3 p.ks).length 0 (F3 p.ks).length) (.sl 566113 (p.c.rid.length+p.ws.length) 0 (p.c.rid.length+p.ws.length)) p.tick)::((if p.ws=[]then []else [(1000565,(⟨4,(Acr p.c.rid.length p.ws).map (A4∘U8)⟩:Obj))])++(566113,⟨7,List.replicate (p.c.rid.length+p.ws.length) [i64 0,i64 0,i64 0,i64 0,i64 0,i64 0,i64 0]⟩)::((if p.ks=[]then []else [(1000564,(⟨3,(F3 p.ks).map (A4∘U5)⟩:Obj))])++H))
def Bd0 (s:S6)(p:Plc)(g:PG):Prop:=∃ob,B5c s p ob/\g ⟨[(0,.agg s.cells),(1,.agg p.cells)],[]⟩=some ([.loc 566036 0 0,.loc 566041 0 0,bo true],ob)
theorem A5d (Γ:H6)(M:Nat)(hM:200<M){SS SC:PG}(eS:Γ.pt 510=U6 4 SS)(oX:A7j SS)(eC:Γ.pt 508=U6 2 SC)(hCm:A2h SC)(s:S6)(kV:ScG s)(p:Plc)(dH:p.c.rid.length<=100)(hw:p.ws.length<=20)(hk:p.ks.length<=20)(hi:0<=p.i)(hc:p.i<s.cars):
  ((∀k∈p.ks,Afy s k)/\(∀w∈p.ws,W6 s w)/\Bd0 s p (H9 Γ M R3))\/(¬((∀k∈p.ks,Afy s k)/\(∀w∈p.ws,W6 s w))/\Ba0 s p (H9 Γ M R3)):=by
 have aB:KT=18446744073709551616:=G1;have a1:¬20<p.ws.length:=by omega
 have a1':¬(20:Int)<p.ws.length:=by omega
 have a2:¬20<p.ks.length:=by omega
 have a2':¬(20:Int)<p.ks.length:=by omega
 have a3:¬p.i<0:=by omega
 have a4:¬s.cars<=p.i:=by omega
 obtain⟨N,hN⟩:∃N,N=p.c.rid.length+p.ws.length:=⟨_,rfl⟩;have tF:(p.c.rid.length:Int)+(p.ws.length:Int)=(N:Int):=by omega
 have hN1:N<=200:=by omega
 have tG:(((p.c.rid.length:Int)+(p.ws.length:Int)).toNat)=N:=by omega
 have tH:p.c.rid.length+p.ws.length=N:=hN.symm;have uG:∀r∈List.replicate N [i64 0,i64 0,i64 0,i64 0,i64 0,i64 0,i64 0],∀v∈r,v=i64 0:=λ r hr v hv=>by
  grind
 have cV:∀j,B5 j (List.replicate N [i64 0,i64 0,i64 0,i64 0,i64 0,i64 0,i64 0])=true:=λ j=>A5.2 λ r hr v hv=>by rw [uG r hr v hv];rfl
 have dI:∀j,P0 j (List.replicate N [i64 0,i64 0,i64 0,i64 0,i64 0,i64 0,i64 0])=true:=λ j=>Acu j _ (cV j)
 have dD:Bhl 566036 (List.replicate N [i64 0,i64 0,i64 0,i64 0,i64 0,i64 0,i64 0]):=λ r hr v hv=>by rw [uG r hr v hv];exact A02 _ _
 have IK:M2 566036 566002=false/\M2 566036 566003=false/\M2 566036 566010=false/\M2 566036 566012=false/\M2 566036 566041=false/\M2 566036 566113=false/\M2 566036 1000564=false/\M2 566036 1000565=false/\M2 566036 566036=true:=by decide
 obtain⟨ax1,s1,h1,lp1⟩:=A5b Γ M hM eS oX s p hk (∀k∈p.ks,Afy s k) Iff.rfl;have lp1':=lp1 ⟨[(2,.loc 566002 0 0),(3,.loc 566003 0 0),(7,.loc 566036 0 0),(8,.loc 566041 0 0),(9,i64 (0:Nat))],[(566041,w39 s (.nil 4) (.nil 3) (.nil 7) p.tick),(566036,h0O),(566003,p39 p),(566002,⟨13,[Y9 s]⟩)]⟩ (by simp -implicitDefEqProofs (disch:=first|omega|(simp [aB];done)|assumption) [aB])
 rw [show ((0:Nat):Int)=0 from rfl]at lp1'
 rcases h1 with ⟨rfl,hA,ob,hSh,rfl⟩|⟨rfl,hnA,ob,rfl⟩
 rotate_left
 ·refine .inr ⟨λ h=>hnA h.1,?_⟩
  unfold Ba0;simp only [S6.cells,Plc.cells];simp -implicitDefEqProofs (disch:=first|omega|(simp [aB];done)|assumption) [aB,a1,a1',a2,a2',a3,a4,tF,tG,tH,lp1',B69,B7e,C0,N6]
 rcases hSh with ⟨hz,rfl⟩|⟨hz,H0,b,hX,hb,rfl⟩
 ·have eE:p.ks=[]:=B66 hz;obtain⟨ax2,s2,h2,lp2⟩:=A06 Γ M hM eC hCm s kV p N hN1 hw dH (∀w∈p.ws,W6 s w) Iff.rfl;have lp2':=lp2 ⟨[(2,.loc 566002 0 0),(3,.loc 566003 0 0),(7,.loc 566036 0 0),(8,.loc 566041 0 0),(11,i64 (0:Nat))],(566041,w39 s (.nil 4) (.nil 3) (.sl 566113 N 0 N) p.tick)::(566113,⟨7,List.replicate N [i64 0,i64 0,i64 0,i64 0,i64 0,i64 0,i64 0]⟩)::(566036,h0O)::(566003,p39 p)::(566002,⟨13,[Y9 s]⟩)::[]⟩ (by simp -implicitDefEqProofs (disch:=first|omega|(simp [aB];done)|assumption) [aB,a1,a1',a2,a2',a3,a4,tF,tG,tH,B69,B7e,C0,N6])
  rw [show ((0:Nat):Int)=0 from rfl]at lp2'
  rcases h2 with ⟨rfl,zV,aR,rfl,wB⟩|⟨rfl,hnA,aR,rfl⟩
  ·rcases wB with ⟨iR,rfl⟩|⟨iR,H',b',bC,rT,rfl⟩
   ·have gT:p.ws=[]:=B66 iR;refine .inl ⟨hA,zV,(566041,w39 s (.nil 4) (.nil 3) (.sl 566113 N 0 N) p.tick)::(566113,⟨7,List.replicate N [i64 0,i64 0,i64 0,i64 0,i64 0,i64 0,i64 0]⟩)::[(566036,h0O)],⟨[(566036,h0O)],0,?_,by omega,?_⟩,?_⟩
    ·rw [gT,eE];exact Ar4 (by decide)
    ·rw [<-hN,B6l gT,B6l gT,B6l eE,B6l eE];rfl
    ·simp only [S6.cells,Plc.cells];simp -implicitDefEqProofs (disch:=first|omega|(simp [aB];done)|assumption) [aB,a1,a1',a2,a2',a3,a4,tF,tG,tH,lp1',lp2',B69,B7e,C0,N6]
   ·have gT:p.ws≠[]:=λ h=>by rw [h]at iR;simp at iR
    rw [B7s]at bC;have fE:∀os,566036∈os->A1 566000 567000 os H'=H':=λ os h=>G4 bC (by omega) (.inr (.inr h))
    simp only [B7s]at lp2';refine .inl ⟨hA,zV,(566041,w39 s (.sl 1000565 p.ws.length 0 p.ws.length) (.nil 3) (.sl 566113 N 0 N) p.tick)::(1000565,⟨4,(Acr p.c.rid.length p.ws).map (A4∘U8)⟩)::(566113,⟨7,List.replicate N [i64 0,i64 0,i64 0,i64 0,i64 0,i64 0,i64 0]⟩)::H',⟨H',b',by rw [eE];exact bC,by omega,?_⟩,?_⟩
    ·rw [<-hN,B6j gT,B6j gT,B6l eE,B6l eE];rfl
    ·simp only [S6.cells,Plc.cells];simp -implicitDefEqProofs (disch:=first|omega|(simp [cjA,T9 bC,IK,dD,aB];done)|assumption) [aB,a1,a1',a2,a2',a3,a4,tF,tG,tH,lp1',lp2',B69,B7e,C0,N6,T9 bC,fE,cV,dI,cjA,IK]
  ·refine .inr ⟨λ h=>hnA h.2,?_⟩
   unfold Ba0;simp only [S6.cells,Plc.cells];simp -implicitDefEqProofs (disch:=first|omega|(simp [aB];done)|assumption) [aB,a1,a1',a2,a2',a3,a4,tF,tG,tH,lp1',lp2',B69,B7e,C0,N6]
 ·have eE:p.ks≠[]:=λ h=>by rw [h]at hz;simp at hz
  rw [B7s]at hX;have aX:∀os,566036∈os->A1 566000 567000 os H0=H0:=λ os h=>G4 hX (by omega) (.inr (.inr h))
  simp only [B7s]at lp1';obtain⟨ax2,s2,h2,lp2⟩:=A07 Γ M hM eC hCm s kV p N hN1 hw dH (∀w∈p.ws,W6 s w) Iff.rfl hX (by omega)
  have lp2':=lp2 ⟨[(2,.loc 566002 0 0),(3,.loc 566003 0 0),(7,.loc 566036 0 0),(8,.loc 566041 0 0),(11,i64 (0:Nat))],(566041,w39 s (.nil 4) (.sl 1000564 (F3 p.ks).length 0 (F3 p.ks).length) (.sl 566113 N 0 N) p.tick)::(566113,⟨7,List.replicate N [i64 0,i64 0,i64 0,i64 0,i64 0,i64 0,i64 0]⟩)::(1000564,⟨3,(F3 p.ks).map (A4∘U5)⟩)::(566003,p39 p)::(566002,⟨13,[Y9 s]⟩)::H0⟩ (by simp -implicitDefEqProofs (disch:=first|omega|(simp [cjA,T9 hX,IK,dD,aB];done)|assumption) [cjA,IK,T9 hX,aX,cV,dI,aB,a1,a1',a2,a2',a3,a4,tF,tG,tH,B69,B7e,C0,N6])
  rw [show ((0:Nat):Int)=0 from rfl]at lp2'
  rcases h2 with ⟨rfl,zV,aR,rfl,wB⟩|⟨rfl,hnA,aR,rfl⟩
  ·rcases wB with ⟨iR,rfl⟩|⟨iR,H',b',bC,rT,rfl⟩
   ·have gT:p.ws=[]:=B66 iR;refine .inl ⟨hA,zV,(566041,w39 s (.nil 4) (.sl 1000564 (F3 p.ks).length 0 (F3 p.ks).length) (.sl 566113 N 0 N) p.tick)::(566113,⟨7,List.replicate N [i64 0,i64 0,i64 0,i64 0,i64 0,i64 0,i64 0]⟩)::(1000564,⟨3,(F3 p.ks).map (A4∘U5)⟩)::H0,⟨H0,b,?_,by omega,?_⟩,?_⟩
    ·rw [gT];exact hX
    ·rw [<-hN,B6l gT,B6l gT,B6j eE,B6j eE];rfl
    ·simp only [S6.cells,Plc.cells];simp -implicitDefEqProofs (disch:=first|omega|(simp [cjA,T9 hX,IK,dD,aB];done)|assumption) [cjA,IK,T9 hX,aX,cV,dI,aB,a1,a1',a2,a2',a3,a4,tF,tG,tH,lp1',lp2',B69,B7e,C0,N6]
   ·have gT:p.ws≠[]:=λ h=>by rw [h]at iR;simp at iR
    rw [B7s]at bC;have fE:∀os,566036∈os->A1 566000 567000 os H'=H':=λ os h=>G4 bC (by omega) (.inr (.inr h))
    simp only [B7s]at lp2';refine .inl ⟨hA,zV,(566041,w39 s (.sl 1000565 p.ws.length 0 p.ws.length) (.sl 1000564 (F3 p.ks).length 0 (F3 p.ks).length) (.sl 566113 N 0 N) p.tick)::(1000565,⟨4,(Acr p.c.rid.length p.ws).map (A4∘U8)⟩)::(566113,⟨7,List.replicate N [i64 0,i64 0,i64 0,i64 0,i64 0,i64 0,i64 0]⟩)::(1000564,⟨3,(F3 p.ks).map (A4∘U5)⟩)::H',⟨H',b',bC,by omega,?_⟩,?_⟩
    ·rw [<-hN,B6j gT,B6j gT,B6j eE,B6j eE];rfl
    ·simp only [S6.cells,Plc.cells];simp -implicitDefEqProofs (disch:=first|omega|(simp [cjA,T9 hX,IK,dD,aB];done)|assumption) [cjA,IK,T9 hX,aX,cV,dI,aB,a1,a1',a2,a2',a3,a4,tF,tG,tH,lp1',lp2',B69,B7e,C0,N6,T9 bC,fE]
  ·refine .inr ⟨λ h=>hnA h.2,?_⟩
   unfold Ba0;simp only [S6.cells,Plc.cells];simp -implicitDefEqProofs (disch:=first|omega|(simp [cjA,T9 hX,IK,dD,aB];done)|assumption) [cjA,IK,T9 hX,aX,cV,dI,aB,a1,a1',a2,a2',a3,a4,tF,tG,tH,lp1',lp2',B69,B7e,C0,N6]
def Aqd (Q:List AV->Bool)(S:PG)(s:St):Option (List AV×OL):=(S s).map λ p=>(p.1,if Q p.1=true then []else p.2)
theorem Bd1 {P:Program}{f:FuncId}{Q:List AV->Bool}{S:PG}(h:D9 P f S):D9 P f (Aqd Q S):=by
 intro γ B F ρ fr ob w us rs aA aF cM hm hf hS;unfold Aqd at hS;simp only [B6m,B6k]at hS;obtain⟨⟨rs0,bL⟩,aJ,rfl,rfl⟩:=hS;refine(h γ B F ρ fr ob w us rs0 bL aF cM hm hf aJ).mono ?_;rintro e w' ⟨qs,rfl,F',ρ',cJ,hg,hr,hx⟩;have bA:∀k o,get (if Q rs0=true then []else bL) k=some o->get bL k=some o:=λ k o hk=>by
  grind [Go.Am.get]
 exact⟨qs,rfl,F',ρ',cJ.sub bA,λ i v hi hv=>(hg i v hi hv).sub bA,hr.imp λ _ _ h=>h.sub bA,hx⟩
def By9 :List AV->Bool
 |[_,_,.c (.bool false)]=>true
 |_=>false
noncomputable def Aqe (S:PG):PG:=Btg 566036 2 (Aqd By9 S)
theorem Bd2 {P:Program}{f:FuncId}{S:PG}(h:D9 P f S):D9 P f (Aqe S):=Bdv (Bd1 h)
def Nw (hk:Nat)(Ks:List Nat)(x:AV):Prop:=SmV hk x/\∀k∈Ks,x.names k=false
def NwF (hk:Nat)(Ks:List Nat)(gs:FL):Prop:=∀p∈gs,Nw hk Ks p.2
def NwR (hk:Nat)(Ks:List Nat)(rows:O4):Prop:=∀r∈rows,∀x∈r,Nw hk Ks x
def NwO (hk:Nat)(Ks:List Nat)(ob:OL):Prop:=∀p∈ob,M2 hk p.1=false/\p.1∉Ks/\NwR hk Ks p.2.rows
theorem Ayq (hk:Nat)(Ks:List Nat):NwF hk Ks []↔True:=⟨λ _=>trivial,λ _ p hp=>by simp at hp⟩
theorem Aq1 {hk i:Nat}{Ks:List Nat}{v:AV}{gs:FL}:NwF hk Ks ((i,v)::gs)↔Nw hk Ks v/\NwF hk Ks gs:=by simp [NwF]
theorem Ar5 (hk:Nat)(Ks:List Nat):NwO hk Ks []↔True:=⟨λ _=>trivial,λ _ p hp=>by simp at hp⟩
theorem All {hk k:Nat}{Ks:List Nat}{o:Obj}{ob:OL}:NwO hk Ks ((k,o)::ob)↔(M2 hk k=false/\k∉Ks/\NwR hk Ks o.rows)/\NwO hk Ks ob:=by simp [NwO]
theorem Ar6 {hk:Nat}{Ks:List Nat}{r:List AV}:NwR hk Ks [r]↔∀x∈r,Nw hk Ks x:=by simp [NwR]
theorem Btj {hk:Nat}{Ks:List Nat}{x:AV}(h:x.dat=true):Nw hk Ks x:=⟨λ k aN=>by rw [Am8 h]at aN;simp at aN,λ k _=>Am8 h⟩
theorem Btk {hk:Nat}{Ks:List Nat}(d:D):Nw hk Ks (.c d):=Btj rfl
theorem Ave {hk:Nat}{Ks:List Nat}(d:List D):Nw hk Ks (.agg d):=Btj rfl
theorem A08 {hk:Nat}{Ks:List Nat}(z:Nat):Nw hk Ks (.nil z):=⟨λ k h=>by simp [AV.names,AV.names1]at h,λ k _=>rfl⟩
theorem A09 {hk:Nat}{Ks:List Nat}:Nw hk Ks (.tup []):=⟨λ k h=>by simp [AV.names]at h,λ k _=>rfl⟩
theorem A1a {hk j r f:Nat}{Ks:List Nat}(h:M2 hk j=false)(h2:j∉Ks):Nw hk Ks (.loc j r f):=⟨λ k aN=>by simp only [AV.names,AV.names1,B62]at aN;rw [<-aN];exact h,λ k aN=>by simp only [AV.names,AV.names1,B8d];rintro rfl;exact h2 aN⟩
theorem Bd3 {hk j r f n:Nat}{Ks:List Nat}(h:M2 hk j=false)(h2:j∉Ks):Nw hk Ks (.sl j r f n):=⟨λ k aN=>by simp only [AV.names,AV.names1,B62]at aN;rw [<-aN];exact h,λ k aN=>by simp only [AV.names,AV.names1,B8d];rintro rfl;exact h2 aN⟩
theorem Ar7 {α:Type}{f:α->List D}{hk:Nat}{Ks:List Nat}{l:List α}:NwR hk Ks (l.map (A4∘f)):=λ r hr x hx=>by
 grind [A4,Btk]
theorem Bxr {S:PG}{s:S6}{p:Plc}(h:Ba0 s p S){gs:FL}{ob:OL}(h2:get gs 2=none)(ho:NwO 566036 [] ob):Aqe S ⟨(0,.agg s.cells)::(1,.agg p.cells)::gs,ob⟩=some ([.ot .np,.ot .np,bo false],ob):=by
 obtain⟨bL,h⟩:=h;have:=Bth (hk:=566036) (n:=2) (S:=Aqd By9 S) (fr:=(0,.agg s.cells)::(1,.agg p.cells)::gs) (vs:=[.agg s.cells,.agg p.cells]) (rs:=[.ot .np,.ot .np,bo false]) (ob:=ob) (L:=[]) (H:=[]) (by decide) (by simpa [Go.Am.get]using h2) rfl (by unfold Aqd;rw [show X6 0 [(.agg s.cells:AV),.agg p.cells]=[(0,.agg s.cells),(1,.agg p.cells)]from rfl,h];rfl) (by simp) (by simp) (λ p hp=>(ho p hp).1) ⟨by simp [AV.names,AV.names1],by simp,by simp⟩
 simpa [Aqe]using this
abbrev K39 :List Nat:=[566041,1000565,566113,1000564]
def L39 (s:S6)(p:Plc):OL:=(566041,w39 s (if p.ws=[]then .nil 4 else .sl 1000565 p.ws.length 0 p.ws.length) (if p.ks=[]then .nil 3 else .sl 1000564 (F3 p.ks).length 0 (F3 p.ks).length) (.sl 566113 (p.c.rid.length+p.ws.length) 0 (p.c.rid.length+p.ws.length)) p.tick)::((if p.ws=[]then []else [(1000565,(⟨4,(Acr p.c.rid.length p.ws).map (A4∘U8)⟩:Obj))])++(566113,⟨7,List.replicate (p.c.rid.length+p.ws.length) [i64 0,i64 0,i64 0,i64 0,i64 0,i64 0,i64 0]⟩)::(if p.ks=[]then []else [(1000564,(⟨3,(F3 p.ks).map (A4∘U5)⟩:Obj))]))
theorem Bxs {α:Type}{f:α->List D}{l:List α}{r:List AV}{x:AV}{j:Nat}(hr:r∈l.map (A4∘f))(hx:x∈r):x.names j=false:=by
 obtain⟨a,_,rfl⟩:=B6z.1 hr;simp only [Function.comp,A4,B6z]at hx;obtain⟨d,_,rfl⟩:=hx;rfl
theorem Btl {s:S6}{p:Plc}{q:Nat×Obj}(h:q∈L39 s p):q.1∈K39/\∀r∈q.2.rows,∀x∈r,∀j,j∉K39->x.names j=false:=by
 unfold L39 at h;rcases B6r.1 h with rfl|h
 ·refine⟨by simp,λ r hr x hx j hj=> ?_⟩
  simp only [B6x]at hr;subst hr;simp only [K39,B6r,B7a,or_false,not_or]at hj;simp only [B6r,B7a,or_false]at hx;rcases hx with rfl|rfl|rfl|rfl|rfl|rfl|rfl|rfl|rfl|rfl|rfl|rfl|rfl|rfl|rfl|rfl|rfl|rfl<;>first|rfl|(split<;>first|rfl|(simp only [AV.names,AV.names1,B8d,ne_eq];omega))|(simp only [AV.names,AV.names1,B8d,ne_eq];omega)
 ·rcases B65.1 h with h|h
  ·split at h
   ·simp at h
   ·rw [B6x.1 h];exact⟨by simp,λ r hr x hx j _=>Bxs hr hx⟩
  ·rcases B6r.1 h with rfl|h
   ·refine⟨by simp,λ r hr x hx j _=> ?_⟩
    rw [List.eq_of_mem_replicate hr]at hx;simp at hx;rw [hx];rfl
   ·split at h
    ·simp at h
    ·rw [B6x.1 h];exact⟨by simp,λ r hr x hx j _=>Bxs hr hx⟩
theorem Bq8 {S:PG}{s:S6}{p:Plc}(h:Bd0 s p S):∃H b,HX 566036 (Acr p.c.rid.length p.ws) (F3 p.ks) b H/\b<=60/\∀gs ob,get gs 2=none->NwF 566036 K39 gs->NwO 566036 K39 ob->Aqe S ⟨(0,.agg s.cells)::(1,.agg p.cells)::gs,ob⟩=some ([.loc 566036 0 0,.loc 566041 0 0,bo true],L39 s p++ob++H):=by
 obtain⟨bL,⟨H,b,hX,hb,rfl⟩,h⟩:=h;refine⟨H,b,hX,hb,λ gs ob h2 hF hO=> ?_⟩
 have hk9:∀k∈K39,M2 566036 k=false:=by decide
 refine Bth (hk:=566036) (n:=2) (S:=Aqd By9 S) (fr:=(0,.agg s.cells)::(1,.agg p.cells)::gs) (vs:=[.agg s.cells,.agg p.cells]) (L:=L39 s p) (by decide) (by simpa [Go.Am.get]using h2) rfl ?_ (λ q hq=>hk9 _ (Btl hq).1) (λ q hq=>hX.key hq) (λ q hq=>(hO q hq).1) (B0r hX (λ q hq=>(hO q hq).1) (λ q hq=> ?_) (λ q hq r hr x hx=>((hO q hq).2.2 r hr x hx).1) (λ v hv q hq=> ?_) (λ q hq=> ?_) λ q hq=> ?_)
 ·unfold Aqd;rw [show X6 0 [(.agg s.cells:AV),.agg p.cells]=[(0,.agg s.cells),(1,.agg p.cells)]from rfl,h]
  simp only [B7h,By9,B6p,B7d,L39,B9b,B7i]
 ·simp only [B6r]at hq;rcases hq with rfl|rfl|hq
  ·exact(Ave (Ks:=[]) _).1
  ·exact(Ave (Ks:=[]) _).1
  ·exact(hF q hq).1
 ·obtain⟨a1,a2,_⟩:=hO q hq;simp only [B6r,B7a,or_false]at hv;rcases hv with rfl|rfl|rfl
  ·simp only [AV.names,AV.names1,B8d];exact λ e=>by rw [<-e]at a1;exact absurd a1 (by decide)
  ·simp only [AV.names,AV.names1,B8d];exact λ e=>a2 (by rw [<-e];simp)
  ·rfl
 ·have nI:=(Btl hq).1;refine⟨?_,λ r hr=> ?_,C8.2 λ r hr=>A5.2 λ x hx y hy=>((hO r hr).2.2 x hx y hy).2 _ nI⟩
  ·cases hg:get ob q.1 with
   |none=>rfl
   |some o=>exact absurd nI (hO _ (B0 hg)).2.1
  ·simp only [B6r]at hr;rcases hr with rfl|rfl|hr
   ·rfl
   ·rfl
   ·exact(hF r hr).2 _ nI
 ·exact C8.2 λ r hr=>A5.2 λ x hx y hy=>(Btl hr).2 x hx y hy _ (hO q hq).2.1
end Go.Am
