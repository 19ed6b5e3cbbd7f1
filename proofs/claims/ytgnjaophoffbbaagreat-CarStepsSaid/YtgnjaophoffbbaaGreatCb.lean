import Derived.Test.YtgnjaophoffbbaaGreatCa
set_option maxRecDepth 20000
set_option maxHeartbeats 4000000
set_option linter.unusedVariables false
set_option linter.unusedSimpArgs false
namespace Go.Am
def D2.inn (t:D2)(i tick:Int):D2:=⟨t.id,t.arrive,t.frm,t.to,i,tick,t.alight⟩
def Cr.plus (c:Cr)(r:Rd):Cr:=⟨c.pos,c.dir,c.mode,c.left,c.waited,c.rid++[r]⟩
structure InS where
 ok:Bool
 gone:Bool
 c:Cr
 ts:List D2
 ws:List W4
 ks:List K3
def A7k (s:S6)(i f d:Int):K3:=(f,d,if s.disp=4 then i else -1)
def inS (s:S6)(i tick f:Int)(c:Cr)(ts:List D2)(ws:List W4)(ks:List K3):InS:=
 if c.dir=0\/s.capacity<=c.rid.length then⟨false,false,c,ts,ws,ks⟩else
 match ws.filter (isW (A7k s i f c.dir))with
 |[]=>⟨false,false,c,ts,ws,ks⟩
 |w::l=>
  if (A7k s i f c.dir).2.2<0/\l=[]then⟨true,ks.any (T8 f c.dir),c.plus ⟨w.1,w.2.2.1⟩,Akg ts w.1 (λ t=>t.inn i tick),ws.eraseP (isW (A7k s i f c.dir)),ks.eraseP (T8 f c.dir)⟩
  else⟨true,false,c.plus ⟨w.1,w.2.2.1⟩,Akg ts w.1 (λ t=>t.inn i tick),ws.eraseP (isW (A7k s i f c.dir)),ks⟩
abbrev Ahc :List Nat:=[584,598,521,524,525,511]
def S3 (hk K tk:Nat):Nat->Prop:=λ k=>k=hk\/k=K\/k=tk
def InC (g:PG):Prop:=∀(s:S6)(hk tk n K:Nat)(i tick f:Int)(c:Cr)(ts:List D2)(ws:List W4)(ks:List K3)(b:Nat) gs ob,U7 Ahc ob->NoF Ahc gs->HW hk ws ks b ob->c.rid.length<100->(∀w∈ws,0<=w.1/\w.1<n)->ts.length=n->n<=1000000->ws.length<=1000000->get ob K=some (crO c)->get ob tk=some (trO ts)->¬K=tk->¬K=hk->¬tk=hk->hk<1000000000->K<1000000000->tk<1000000000->
 ∃aA,g ⟨(0,Aun s hk tk n i tick)::(1,.loc K 0 0)::(2,i64 f)::gs,ob⟩=some ([bo (inS s i tick f c ts ws ks).ok,bo (inS s i tick f c ts ws ks).gone],aA)/\HW hk (inS s i tick f c ts ws ks).ws (inS s i tick f c ts ws ks).ks b aA/\Fw (S3 hk K tk) ob aA/\get aA K=some (crO (inS s i tick f c ts ws ks).c)/\get aA tk=some (trO (inS s i tick f c ts ws ks).ts)/\(B8 K ob=true->B8 K aA=true)
theorem U7.hallW {fs:List Nat}{hk:Nat}{ws:List W4}{ks:List K3}{b:Nat}{ob:OL}(hO:U7 fs ob)(h:HW hk ws ks b ob):M5 fs hk=false:=by
 obtain⟨wm,cm,qs,cs,n,c,came,hH,_⟩:=h;exact hO.hall hH
theorem HW.some {hk:Nat}{ws:List W4}{ks:List K3}{b:Nat}{ob:OL}(h:HW hk ws ks b ob):∃o,get ob hk= .some o:=by
 obtain⟨wm,cm,qs,cs,n,c,came,hH,_⟩:=h;exact⟨_,hH.hall⟩
theorem C0 (a:OL):Ajl a a=true:=by
 unfold Ajl;rw [B6q];intro p _;cases get a p.1 with
 |none=>rfl
 |some o=>simp only [Amh,Afk,decide_true,B64]
theorem Ahd {lo hi:Nat}{os:List Nat}:∀{ob:OL},(∀p∈ob,p.1%KT<lo\/hi<=p.1%KT\/p.1∈os)->A1 lo hi os ob=ob
 |[],_=>rfl
 |(k,o)::ob,h=>by
  simp only [A1];rw [B6l (h (k,o) (by simp)),Ahd λ p hp=>h p (B7g _ hp)]
theorem K6 {lo hi:Nat}{os os':List Nat}(h:∀k∈os,k∈os'):∀ob:OL,A1 lo hi os (A1 lo hi os' ob)=A1 lo hi os ob
 |[]=>rfl
 |(k,o)::ob=>by
  by_cases h1:k%KT<lo\/hi<=k%KT\/k∈os'
  ·simp only [A1];rw [B6l h1];simp only [A1];rw [K6 h ob]
  ·have h2:¬(k%KT<lo\/hi<=k%KT\/k∈os):=λ x=>h1 (x.imp id (.imp id (h k)))
   simp only [A1];rw [B6j h1,B6j h2,K6 h ob]
theorem K7 (lo hi:Nat)(os:List Nat)(k:Nat):∀ob:OL,A1 lo hi os (del ob k)=del (A1 lo hi os ob) k
 |[]=>rfl
 |(j,o)::ob=>by
  by_cases h1:j=k
  ·by_cases h2:j%KT<lo\/hi<=j%KT\/j∈os
   ·simp only [Am.del,A1];rw [B6l h1,B6l h2];simp only [Am.del];rw [B6l h1];exact K7 lo hi os k ob
   ·simp only [Am.del,A1];rw [B6l h1,B6j h2];exact K7 lo hi os k ob
  ·by_cases h2:j%KT<lo\/hi<=j%KT\/j∈os
   ·simp only [Am.del,A1];rw [B6j h1,B6l h2];simp only [Am.del,A1];rw [B6j h1,B6l h2,K7 lo hi os k ob]
   ·simp only [Am.del,A1];rw [B6j h1,B6j h2];simp only [A1];rw [B6j h2];exact K7 lo hi os k ob
theorem Bs6 (fs:List Nat)(j a b c:Nat)(h:M5 fs j=false):NmS fs (.sl j a b c):=λ k hk=>by
 grind [X5]
theorem Ahx {fs:List Nat}(s:S6){hk tk:Nat}(n:Nat)(i tick:Int)(h1:M5 fs hk=false)(h2:M5 fs tk=false):∀v∈I4 s hk tk n i tick,NmS fs v:=by
 have a:=D3 fs hk 0 0 h1;have b:=Bs6 fs tk n 0 n h2;simp only [I4,B8x,B7a,B9d,B9k,B7v];grind [E9]
theorem Bwx {fs:List Nat}{l:List AV}(h:∀v∈l,NmS fs v)(hc:∀v∈l,∀k,v.names1 k=true->v.names k=true):NmS fs (.ags l):=λ k hk=>by
 rw [A3h,B7p];intro v hv;cases hx:v.names1 k with
 |false=>simp
 |true=>have:=hc v hv k hx;rw [h v hv k hk]at this;simp at this
theorem Al9 {fs:List Nat}(s:S6){hk tk:Nat}(n:Nat)(i tick:Int)(h1:M5 fs hk=false)(h2:M5 fs tk=false):NmS fs (Aun s hk tk n i tick):=Bwx (Ahx s n i tick h1 h2) (by
 simp only [I4,B8x,B7a,B9d,B9k,B7v];simp)
theorem L3 {fs:List Nat}{k:Nat}{o:Obj}{ob:OL}(h1:M5 fs k=false)(h2:∀r∈o.rows,∀v∈r,NmS fs v)(h:U7 fs ob):U7 fs ((k,o)::ob):=Ae0.2 ⟨h1,λ j hj=>A5.2 λ r hr v hv=>h2 r hr v hv j hj,h⟩
theorem Abl {P:List AV->Prop}{r:List AV}(h:P r):∀x∈[r],P x:=λ x hx=>by rw [B6x.1 hx];exact h
theorem Fw.part {S:Nat->Prop}{f:Nat}{L L' ob aR:OL}{os:List Nat}(h:Fw S (L++ob) aR)(hf:f<1000000)(hL:∀p∈L,1000*f<=p.1/\p.1<1000*f+1000)(hn:∀p∈L,∀r∈p.2.rows,∀v∈r,∀j,v.names j=true->S j/\get ob j≠none)
  (aH:∃p∈L',M5 [f] p.1=true)(hg:∀k,get (L'++ob) k=if k%KT<1000*f\/1000*f+1000<=k%KT\/k∈os then get (L++ob) k else none):Fw S (L'++ob) (A1 (1000*f) (1000*f+1000) os aR):=by
 have aB:KT=18446744073709551616:=G1;refine⟨λ k a1 a2=> ?_,λ fs hfs cW=> ?_,λ k a1 a2 a3=> ?_⟩
 ·rw [C4,hg];split
  ·exact h.fr k a1 a2
  ·rfl
 ·have hof:U7 fs ob:=λ p hp=>cW p (B9l _ hp)
  have rO:f∉fs:=λ hm=>by
   obtain⟨p,hp,hpi⟩:=aH;have h1:=(cW p (List.mem_append_left _ hp)).1;grind [Ahu,List.mem_singleton]
  have h2:U7 fs (L++ob):=A6l (λ p hp=>⟨?_,λ r hr v hv k hk=> ?_⟩) hof
  ·exact λ p hp=>h.no fs hfs h2 p (X8 hp)
  ·simp only [M5,B63,B7k];have h1:=hL p hp;have:p.1%KT/1000=f:=by rw [aB,B74 (by omega)];omega
   rw [this];exact rO
  ·cases hx:v.names k with
   |false=>rfl
   |true=>exact absurd (hof.none hk) (hn p hp r hr v hv k hx).2
 ·refine H4 (h.nm k a1 a2 (Aqv (C8.2 λ p hp=>A5.2 λ r hr v hv=> ?_) (C8.2 λ p hp=>C8.1 a3 p (B9l _ hp))))
  cases hx:v.names k with
  |false=>rfl
  |true=>exact absurd (hn p hp r hr v hv k hx).1 a2
theorem A7l {k:Nat}(h:k<1000000000):Sm k:=Nat.lt_of_le_of_lt (Nat.mod_le _ _) h
theorem Bdd {k:Nat}(h:k<1000000000):k<CK:=by
 grind [CK]
theorem Auo {r:List AV}(h:∀v∈r,∀k,CK<=k->v.names k=false):SmR [r]:=λ k hk=>A5.2 (Abl λ v hv=>h v hv k hk)
theorem Apd (Γ:H6)(M:Nat)(hM:200<M)(iX:Agt (Γ 599))(cZ:B1l (Γ.pt 598))(hT1:By5 (Γ.pt 521))(gP:B3g (Γ.pt 525))(oG:Bs5 (Γ.pt 511)):InC (H9 Γ M Z4):=by
 rintro s hk tk n K i tick f ⟨ps,di,mo,le,wa,rs⟩ ts ws ks b gs ob hO hF hH hl iC hn iH lO hK aY oQ vQ uB z1 z2 z3;have s1:=A7l z1;have s2:=A7l z2;have s3:=A7l z3;dsimp only at hl;have g:=hF.1;have n3:=hO.nm (k:=584003) (by decide)
 have d3:=hO.del (k:=584003) (by decide)
 have f3:=hF.nm (k:=584003) (by decide)
 have x3:=hO.none (k:=584003) (by decide)
 have n8:=hO.nm (k:=584008) (by decide)
 have d8:=hO.del (k:=584008) (by decide)
 have f8:=hF.nm (k:=584008) (by decide)
 have x8:=hO.none (k:=584008) (by decide)
 have k1:=hO.kf (f:=584) (by simp)
 have kR:=iX ⟨ps,di,mo,le,wa,rs⟩ s.capacity (Nat.le_of_lt hl);simp only [Cr.cells]at kR;have a3:=R8 (hO.hallW hH) (k:=584003) (by decide)
 have a8:=R8 (hO.hallW hH) (k:=584008) (by decide)
 have K3:=A3 hO hK (k:=584003) (by decide)
 have K8:=A3 hO hK (k:=584008) (by decide)
 have t3:=A3 hO aY (k:=584003) (by decide)
 have t8:=A3 hO aY (k:=584008) (by decide)
 have K3':=B6i K3;have K8':=B6i K8;have t3':=B6i t3;have t8':=B6i t8;have nM:=hK;have cU:=aY;simp only [crO]at hK;simp only [trO]at aY;by_cases cX:di=0\/s.capacity<=rs.length
 ·have hR:inS s i tick f ⟨ps,di,mo,le,wa,rs⟩ ts ws ks=⟨false,false,⟨ps,di,mo,le,wa,rs⟩,ts,ws,ks⟩:=by
   simp only [inS];rw [B6l cX]
  rw [hR];refine⟨ob,?_,hH,Fw.refl _ _,nM,cU,λ h=>h⟩
  by_cases hd:di=0
  ·simp -implicitDefEqProofs (disch:=first|omega|(simp [g];done)|assumption) [g,n3,d3,f3,x3,k1,a3,K3,t3,K3',t3',hK,aY,hd]
  ·have rO:decide (s.capacity<=rs.length)=true:=B8f (by simpa [hd]using cX)
   simp -implicitDefEqProofs (disch:=first|omega|(simp [g];done)|assumption) [g,n3,d3,f3,x3,k1,a3,K3,t3,K3',t3',hK,aY,hd,kR,rO]
 have hd:¬di=0:=λ h=>cX (.inl h)
 have rO:decide (s.capacity<=rs.length)=false:=B7y λ h=>cX (.inr h)
 obtain⟨cc,fO⟩:∃cc,cc=(if s.disp=4 then i else -1):=⟨_,rfl⟩
 have fM:A7k s i f di=(f,di,cc):=by rw [fO];rfl
 obtain⟨ho,cP⟩:=hH.some;have a3':=B6i a3;have a8':=B6i a8;have hKe:∀bJ aA,U7 [598] aA->NoF [598] bJ->Γ.pt 598 ⟨(0,Aun s hk tk n i tick)::(1,i64 f)::(2,i64 di)::bJ,aA⟩=some ([.agg [.int .i64 f,.int .i64 di,.int .i64 cc]],aA):=λ bJ aA h1 h2=>by
  have h3:∀fl,fl∈[598]->fl∈Ahc:=by decide
  have h4:M5 [598] tk=false:=(hO.mono h3 _ (B0 cU)).1;rw [cZ s hk tk n i tick f di bJ aA h1 h2 ((hO.mono h3).hallW hH) h4,fO];rfl
 have inTk:∀{fs:List Nat},(∀fl∈fs,fl∈Ahc)->M5 fs tk=false:=λ h=>(hO.mono h _ (B0 cU)).1
 have inK:∀{fs:List Nat},(∀fl∈fs,fl∈Ahc)->M5 fs K=false:=λ h=>(hO.mono h _ (B0 nM)).1
 have inH:∀{fs:List Nat},(∀fl∈fs,fl∈Ahc)->M5 fs hk=false:=λ h=>(hO.mono h).hallW hH
 have e98:∀fl,fl∈[598]->fl∈Ahc:=by decide
 have nb3:∀{fs:List Nat},(∀fl∈fs,fl∈Ahc)->M5 fs 584003=false->U7 fs ((584003,⟨17,[I4 s hk tk n i tick]⟩)::ob):=λ h h2=>L3 h2 (Abl (Ahx s n i tick (inH h) (inTk h))) (hO.mono h)
 have no3:=nb3 e98 (by decide)
 have no8:U7 [598] ((584008,⟨3,[[i64 0,i64 0,i64 0]]⟩)::(584003,⟨17,[I4 s hk tk n i tick]⟩)::ob):=L3 (by decide) (Abl (by simp [E9])) no3
 have sU:=(hF.mono e98).gho;have m3:=D3 [598] 584003 0 0 (by decide)
 have m8:=D3 [598] 584008 0 0 (by decide)
 have mS:=Al9 s n i tick (inH e98) (inTk e98);have mK:∀o,NmS [598] (.loc K 0 o):=λ o=>D3 _ _ _ _ (inK e98)
 have eTk:∀fl,fl∈[521,524]->fl∈Ahc:=by decide
 have noT:U7 [521,524] ((584008,⟨3,[[i64 f,i64 di,i64 cc]]⟩)::(584003,⟨17,[I4 s hk tk n i tick]⟩)::ob):=L3 (by decide) (Abl (by simp [E9])) (nb3 eTk (by decide))
 have bI:CK=900000000000000000:=rfl;have sm3:SmR [I4 s hk tk n i tick]:=Auo (by
  simp only [I4,B8x,B7a,B9d,B9k,B7v,Aa6,K2,X5,B8d,B7w];exact⟨λ k h=>by omega,λ k h=>by omega⟩)
 have sm8:SmR [[i64 f,i64 di,i64 cc]]:=Auo (by simp)
 have hH1:HW hk ws ks b ((584008,⟨3,[[i64 f,i64 di,i64 cc]]⟩)::(584003,⟨17,[I4 s hk tk n i tick]⟩)::ob):=(hH.up (Y8 a3' (by decide) sm3)).up (Y8 a8' (by decide) sm8)
 have nfT:NoF [521,524] ((100035,.agg [.int .i64 f,.int .i64 di,.int .i64 cc])::(100034,.loc hk 0 0)::(100033,.loc 584003 0 13)::(100001,.loc K 0 0)::(100002,i64 f)::(100003,.loc 584003 0 0)::(100008,.loc 584008 0 0)::gho gs):=by
  have q1:=D3 _ hk 0 0 (inH eTk);have q2:=D3 _ K 0 0 (inK eTk);have q3:∀o,NmS [521,524] (.loc 584003 0 o):=λ o=>D3 _ _ _ _ (by decide)
  have q4:=D3 [521,524] 584008 0 0 (by decide)
  simp only [K5,E9,D8,q1,q2,q3,q4,(hF.mono eTk).gho,B7v,B7w];omega
 obtain⟨aR,eT,qJ,w2⟩:=hT1 hk ws ks b (f,di,cc) _ _ hH1 noT nfT;simp only [U5]at eT;have ne:∀k,M5 Ahc k=true->¬k=hk:=λ k h=>by rintro rfl;have:=hO.hallW hH;rw [this]at h;simp at h
 have a9:=R8 (hO.hallW hH) (k:=584009) (by decide)
 have K9:=A3 hO nM (k:=584009) (by decide)
 have t9:=A3 hO cU (k:=584009) (by decide)
 have a9':=B6i a9;have K9':=B6i K9;have t9':=B6i t9;have a46:=R8 (hO.hallW hH) (k:=584046) (by decide)
 have K46:=A3 hO nM (k:=584046) (by decide)
 have t46:=A3 hO cU (k:=584046) (by decide)
 have a46':=B6i a46;have K46':=B6i K46;have t46':=B6i t46;have a53:=R8 (hO.hallW hH) (k:=584053) (by decide)
 have K53:=A3 hO nM (k:=584053) (by decide)
 have t53:=A3 hO cU (k:=584053) (by decide)
 have a53':=B6i a53;have K53':=B6i K53;have t53':=B6i t53;have aB:KT=18446744073709551616:=G1;have g23:get aR 584003=some ⟨17,[I4 s hk tk n i tick]⟩:=by rw [w2.fr 584003 (by unfold Sm;decide) a3'];simp
 have g28:get aR 584008=some ⟨3,[[i64 f,i64 di,i64 cc]]⟩:=by rw [w2.fr 584008 (by unfold Sm;decide) a8'];simp
 have gK2:get aR K=some (crO ⟨ps,di,mo,le,wa,rs⟩):=by rw [w2.fr K s2 vQ];simp [K3',K8',hK]
 have gt2:get aR tk=some (trO ts):=by rw [w2.fr tk s3 uB];simp [t3',t8',aY]
 have gh2:∃o,get aR hk=some o:=qJ.some;have none2:∀k,M5 Ahc k=true->Sm k->¬k=584003->¬k=584008->get aR k=none:=λ k h1 h2 h3 h4=>by
  rw [w2.fr k h2 (ne k h1)];simp only [Am.get];rw [B6j (B6i h4),B6j (B6i h3)];exact hO.none h1
 have nmk:∀k,M5 Ahc k=true->Sm k->B8 k aR=true:=λ k h1 h2=>w2.nm k h2 (ne k h1) (by
  have q1:=E9 Ahc;refine C8.2 λ p hp=>A5.2 λ r hr v hv=> ?_
  simp only [B6r]at hp;rcases hp with rfl|rfl|hp
  ·rw [B6x.1 hr]at hv;simp only [B6r,B7a,or_false]at hv;rcases hv with rfl|rfl|rfl<;>exact E9 Ahc _ _ h1
  ·rw [B6x.1 hr]at hv;exact Ahx s n i tick (inH λ _ h=>h) (inTk λ _ h=>h) v hv k h1
  ·exact hO.nm h1|>C8.1|>λ h=>A5.1 (h p hp) r hr v hv)
 have x29:=none2 584009 (by decide) (by unfold Sm;decide) (by decide) (by decide)
 have x246:=none2 584046 (by decide) (by unfold Sm;decide) (by decide) (by decide)
 have x253:=none2 584053 (by decide) (by unfold Sm;decide) (by decide) (by decide)
 have n29:=nmk 584009 (by decide) (by unfold Sm;decide)
 have n246:=nmk 584046 (by decide) (by unfold Sm;decide)
 have n253:=nmk 584053 (by decide) (by unfold Sm;decide)
 have f9:=hF.nm (k:=584009) (by decide)
 have f46:=hF.nm (k:=584046) (by decide)
 have f53:=hF.nm (k:=584053) (by decide)
 have d29:=D1 _ _ x29;have d246:=D1 _ _ x246;have d253:=D1 _ _ x253;have kp:∀os,584003∈os->584008∈os->A1 584000 585000 os aR=aR:=λ os h1 h2=>Ahd λ p hp=>by
  rcases B7f (p.1%KT) 584000 with q|q
  ·exact .inl q
  rcases B7f (p.1%KT) 585000 with q2|q2
  ·by_cases e3:p.1=584003
   ·rw [e3];exact .inr (.inr h1)
   by_cases e8:p.1=584008
   ·rw [e8];exact .inr (.inr h2)
   have hi:M5 Ahc p.1=true:=by
    have h7:p.1%KT/1000=584:=by omega
    simp only [M5,h7];decide
   exact absurd (none2 p.1 hi (by unfold Sm;omega) e3 e8) (Aje hp)
  ·exact .inr (.inl q2)
 have kA:=kp [584003,584008,584009,584046,584053] (by simp) (by simp)
 have kB:=kp [584003,584008,584046,584053] (by simp) (by simp)
 have kI:=K6 (lo:=584000) (hi:=585000) (os:=[584046,584053]) (os':=[584046,584053]) (λ _ h=>h)
 simp only [crO]at gK2;simp only [trO]at gt2;have hgo:get ob hk≠none/\get ob tk≠none:=by rw [cP,cU];simp
 have hL4:∀p∈[((584008:Nat),(⟨3,[[i64 f,i64 di,i64 cc]]⟩:Obj)),(584003,⟨17,[I4 s hk tk n i tick]⟩)],1000*584<=p.1/\p.1<1000*584+1000:=by simp
 have hNm:∀p∈[((584008:Nat),(⟨3,[[i64 f,i64 di,i64 cc]]⟩:Obj)),(584003,⟨17,[I4 s hk tk n i tick]⟩)],∀r∈p.2.rows,∀v∈r,∀j,v.names j=true->S3 hk K tk j/\get ob j≠none:=by
  simp only [B8x,B7a,B9d,B9k,B7v,I4,Aa6,K2,X5,B6p,B7w,B62];exact⟨λ j h=>by rw [<-h];exact⟨.inl rfl,hgo.1⟩,λ j h=>by rw [<-h];exact⟨.inr (.inr rfl),hgo.2⟩⟩
 have yN:∀k,S3 hk K tk k->M5 [584] k=false:=by
  rintro k (rfl|rfl|rfl)
  ·exact inH (by decide)
  ·exact inK (by decide)
  ·exact inTk (by decide)
 have nmL:B8 K ob=true->B8 K ((584008,⟨3,[[i64 f,i64 di,i64 cc]]⟩)::(584003,⟨17,[I4 s hk tk n i tick]⟩)::ob)=true:=λ h=>by
  simp only [B8,h,B8m,B5,M0,I4,B7r,List.all_nil,Aa6,K2,X5];simp [B6i vQ,B6i oQ]
 cases dM:ws.filter (isW (f,di,cc))with
 |nil=>
  have hR:inS s i tick f ⟨ps,di,mo,le,wa,rs⟩ ts ws ks=⟨false,false,⟨ps,di,mo,le,wa,rs⟩,ts,ws,ks⟩:=by
   simp only [inS];rw [B6j cX,fM,dM]
  rw [hR];rw [dM]at eT;simp only [lS,U8,ne_eq,not_true_eq_false,decide_false]at eT;refine⟨A1 584000 585000 [584046,584053] aR,?_,?_⟩
  ·simp -implicitDefEqProofs (disch:=first|omega|(simp [g]<;>fail)|assumption|(simp only [K5,E9,D8,m3,m8,mS,mK,sU,B7v,B7w]<;>omega)) [g,n3,d3,f3,x3,n8,d8,f8,x8,k1,a3,a8,K3,t3,K3',t3',K8,t8,K8',t8',hK,aY,hd,kR,rO,hKe,eT,C0,cP,hn,a3',a8',B69,B7e,kA,kB,x29,n29,f9,d29,a9,K9,t9,a9',K9',t9',kI]
  ·have hee:ws.eraseP (isW (f,di,cc))=ws:=List.eraseP_of_forall_not λ w hw h=>by
    have h1:w∈ws.filter (isW (f,di,cc)):=B7c.2 ⟨hw,h⟩;rw [dM]at h1;simp at h1
   have hr4:hk%KT<1000*584\/1000*584+1000<=hk%KT:=Am6 (f:=584) (inH (by decide))
   have rK0:K%18446744073709551616<584000\/585000<=K%18446744073709551616:=U7.rng (f:=584) (hO.mono (by decide)) nM
   have rt0:tk%18446744073709551616<584000\/585000<=tk%18446744073709551616:=U7.rng (f:=584) (hO.mono (by decide)) cU
   rw [hee]at qJ;refine⟨qJ.keep hr4 (by omega),(Fw.drop (L:=[(584008,⟨3,[[i64 f,i64 di,i64 cc]]⟩),(584003,⟨17,[I4 s hk tk n i tick]⟩)]) (w2.mono λ k h=> .inl h) (hO.mono (by decide)) (by omega) hL4 hNm (by simp) yN).1,?_,?_,λ h=>H4 (w2.nm K s2 vQ (nmL h))⟩
   ·rw [C4,B6l (show K%KT<584000\/585000<=K%KT\/_ from rK0.imp id .inl)];exact gK2
   ·rw [C4,B6l (show tk%KT<584000\/585000<=tk%KT\/_ from rt0.imp id .inl)];exact gt2
 |cons w l=>
  obtain⟨w1,w2',w3,w4⟩:=w;have eZ:(w1,w2',w3,w4)∈ws:=(B7c.1 (by rw [dM];simp:(w1,w2',w3,w4)∈ws.filter (isW (f,di,cc)))).1
  obtain⟨b1,b2⟩:=iC _ eZ;dsimp only at b1 b2;rw [dM]at eT;simp only [lS,U8,ne_eq,reduceCtorEq,not_false_eq_true,decide_true]at eT;have lA:w1.toNat<ts.length:=by omega
  have vR:w1.toNat<n:=by omega
  obtain⟨t,ht⟩:∃t,ts[w1.toNat]'lA=t:=⟨_,rfl⟩;have Kb46:(K==584046)=false:=by simp [K46]
  have Kb53:(K==584053)=false:=by simp [K53]
  have rK0:K%18446744073709551616<584000\/585000<=K%18446744073709551616:=U7.rng (f:=584) (hO.mono (by decide)) nM
  have rt0:tk%18446744073709551616<584000\/585000<=tk%18446744073709551616:=U7.rng (f:=584) (hO.mono (by decide)) cU
  have rK:=A7i rK0;have rt:=A7i rt0;have kA1:A1 584000 585000 [584003,584008,584009,584046,584053] (del aR K)=del aR K:=by rw [K7,kA]
  have kA2:A1 584000 585000 [584003,584008,584009,584046,584053] (del (del aR K) tk)=del (del aR K) tk:=by rw [K7,kA1]
  have kB2:A1 584000 585000 [584003,584008,584046,584053] (del (del aR K) tk)=del (del aR K) tk:=by rw [K7,K7,kB]
  have gK:=λ k=>B3 aR K k
  have gK3:=λ k=>B3 (del aR K) tk k
  have vS:=B6i oQ;have tb3:(584003==tk)=false:=by simp [t3']
  have tb9:(584009==tk)=false:=by simp [t9']
  have l1:=W2 f46;have l2:=O7 n246;have mT:F7 (rs.map (A4∘Rd.cells)++[[i64 w1,i64 w3]])=some (rs.map Rd.cells++[[D.int .i64 w1,D.int .i64 w3]]):=by
   have e1:rs.map (A4∘Rd.cells)++[[i64 w1,i64 w3]]=(rs.map Rd.cells++[[D.int .i64 w1,D.int .i64 w3]]).map A4:=by simp
   rw [e1,G6]
  have dC:(rs.map Rd.cells++[[D.int .i64 w1,D.int .i64 w3]]).take (rs.length+1)=rs.map Rd.cells++[[D.int .i64 w1,D.int .i64 w3]]:=B6y (by simp)
  have hAl:(List.take w1.toNat (List.map (A4∘D2.cells) ts)).length=w1.toNat:=by rw [B7l,B6s];omega
  have hI1:∀(r:List AV) D,(List.take w1.toNat (List.map (A4∘D2.cells) ts)++r::D)[w1.toNat]? =some r:=λ r D=>by
   rw [B73 (by omega),hAl,Nat.sub_self];rfl
  have hI2:∀(r:List AV) D,List.take w1.toNat (List.take w1.toNat (List.map (A4∘D2.cells) ts)++r::D)=List.take w1.toNat (List.map (A4∘D2.cells) ts):=λ r D=>List.take_left' hAl
  have hI3:∀(r:List AV) D,List.drop (w1.toNat+1) (List.take w1.toNat (List.map (A4∘D2.cells) ts)++r::D)=D:=λ r D=>by
   rw [List.drop_append,hAl,List.drop_of_length_le (by omega),show w1.toNat+1-w1.toNat=1 by omega];rfl
  have gQ:w1.toNat+(n-(w1.toNat+1)+1)=n:=by omega
  obtain⟨tr1,qO⟩:∃x,x=(⟨7,List.take w1.toNat (List.map (A4∘D2.cells) ts)++[i64 t.id,i64 t.arrive,i64 t.frm,i64 t.to,i64 i,i64 tick,i64 t.alight]::List.drop (w1.toNat+1) (List.map (A4∘D2.cells) ts)⟩:Obj):=⟨_,rfl⟩;obtain⟨cr1,oB⟩:∃x,x=(⟨6,[[i64 ps,i64 di,i64 mo,i64 le,bo wa,.c (.vs 2 (rs.map Rd.cells++[[D.int .i64 w1,D.int .i64 w3]]))]]⟩:Obj):=⟨_,rfl⟩;have vT:tr1=trO (Akg ts w1 λ t=>t.inn i tick):=by
   rw [qO];simp only [trO,A34 (h:=λ t=>t.inn i tick) lA ht];rfl
  have yW:cr1=crO (Cr.plus ⟨ps,di,mo,le,wa,rs⟩ ⟨w1,w3⟩):=by
   rw [oB];simp only [crO,Cr.plus,B60];rfl
  have nw1:∀r∈tr1.rows,∀v∈r,∀j,v.names j=false:=by
   rw [vT];intro r hr v hv j;obtain⟨u,_,rfl⟩:=B6z.1 hr;simp only [Function.comp,A4,B6z]at hv;obtain⟨d,_,rfl⟩:=hv;rfl
  have nw2:∀r∈cr1.rows,∀v∈r,∀j,v.names j=false:=by
   rw [oB];refine Abl ?_;simp
  have sm1:SmR tr1.rows:=λ k _=>A5.2 λ r hr v hv=>nw1 r hr v hv k
  have sm2:SmR cr1.rows:=λ k _=>A5.2 λ r hr v hv=>nw2 r hr v hv k
  have sV:(tk,tr1)::del ((K,cr1)::del aR K) tk=(tk,tr1)::(K,cr1)::del (del aR K) tk:=by simp only [Am.del];rw [B6j oQ]
  have sK:K<CK:=Bdd z2;have hHX:HW hk (ws.eraseP (isW (f,di,cc))) ks b ((tk,tr1)::(K,cr1)::del (del aR K) tk):=by
   rw [<-sV];exact(qJ.up (A0w vQ sK sm2)).up (A0w uB (Bdd z3) sm1)
  have gdk:get ((K,cr1)::del aR K) tk=some (trO ts):=by simp only [Am.get];rw [B6j oQ,B3,B6j (B6i oQ)];exact gt2
  have wX:Fw (S3 hk K tk) ((584008,⟨3,[[i64 f,i64 di,i64 cc]]⟩)::(584003,⟨17,[I4 s hk tk n i tick]⟩)::ob) ((tk,tr1)::(K,cr1)::del (del aR K) tk):=by
   rw [<-sV];refine(w2.mono λ k h=> .inl h).trans ((A0x gK2 (.inr (.inl rfl)) λ r hr v hv j hj=> ?_).trans (A0x gdk (.inr (.inr rfl)) λ r hr v hv j hj=> ?_))
   ·rw [nw2 r hr v hv j]at hj;simp at hj
   ·rw [nw1 r hr v hv j]at hj;simp at hj
  have noL:∀{fs:List Nat},(∀fl∈fs,fl∈Ahc)->M5 fs 584003=false->M5 fs 584008=false->U7 fs ((584008,⟨3,[[i64 f,i64 di,i64 cc]]⟩)::(584003,⟨17,[I4 s hk tk n i tick]⟩)::ob):=λ h h1 h2=>L3 h2 (Abl (by simp [E9])) (nb3 h h1)
  have in6:∀fl∈Ahc,fl<1000000:=by decide
  have noX:∀{fs:List Nat},(∀fl∈fs,fl∈Ahc)->M5 fs 584003=false->M5 fs 584008=false->U7 fs ((tk,tr1)::(K,cr1)::del (del aR K) tk):=λ h h1 h2=>wX.no _ (λ fl dM=>in6 fl (h fl dM)) (noL h h1 h2)
  have kX:∀os,A1 (1000*584) (1000*584+1000) os ((tk,tr1)::(K,cr1)::del (del aR K) tk)=(tk,tr1)::(K,cr1)::A1 584000 585000 os (del (del aR K) tk):=λ os=>by
   simp only [A1];rw [B6l (show tk%KT<1000*584\/1000*584+1000<=tk%KT\/tk∈os from rt0.imp id .inl),B6l (show K%KT<1000*584\/1000*584+1000<=K%KT\/K∈os from rK0.imp id .inl)]
  have nX:B8 K ob=true->B8 K ((tk,tr1)::(K,cr1)::del (del aR K) tk)=true:=λ h=>by
   have h1:B5 K tr1.rows=true:=A5.2 λ r hr v hv=>nw1 r hr v hv K
   have h2:B5 K cr1.rows=true:=A5.2 λ r hr v hv=>nw2 r hr v hv K
   have h3:=C3 (j:=tk) (C3 (j:=K) (w2.nm K s2 vQ (nmL h)));simp only [B8,h1,h2,h3,B64]
  have yX:HW hk (ws.eraseP (isW (f,di,cc))) ks b ((tk,tr1)::(K,cr1)::A1 584000 585000 [584046,584053] (del (del aR K) tk))/\Fw (S3 hk K tk) ob ((tk,tr1)::(K,cr1)::A1 584000 585000 [584046,584053] (del (del aR K) tk))/\get ((tk,tr1)::(K,cr1)::A1 584000 585000 [584046,584053] (del (del aR K) tk)) K=some (crO (Cr.plus ⟨ps,di,mo,le,wa,rs⟩ ⟨w1,w3⟩))/\get ((tk,tr1)::(K,cr1)::A1 584000 585000 [584046,584053] (del (del aR K) tk)) tk=some (trO (Akg ts w1 λ t=>t.inn i tick))/\(B8 K ob=true->B8 K ((tk,tr1)::(K,cr1)::A1 584000 585000 [584046,584053] (del (del aR K) tk))=true):=by
   rw [<-vT,<-yW];refine⟨?_,?_,?_,?_,λ h=>by rw [<-kX];exact H4 (nX h)⟩
   ·rw [<-kX];exact hHX.keep (Am6 (f:=584) (inH (by decide))) (by omega)
   ·rw [<-kX];exact(Fw.drop (L:=[(584008,⟨3,[[i64 f,i64 di,i64 cc]]⟩),(584003,⟨17,[I4 s hk tk n i tick]⟩)]) wX (hO.mono (by decide)) (by omega) hL4 hNm (by simp) yN).1
   ·simp [oQ,B6i oQ]
   ·simp
  have hLe:∀bJ,NoF [525] bJ->Γ.pt 525 ⟨(0,.loc hk 0 0)::(1,.agg [.int .i64 f,.int .i64 di,.int .i64 cc])::bJ,(tk,tr1)::(K,cr1)::del (del aR K) tk⟩=some ([i64 l.length],(tk,tr1)::(K,cr1)::del (del aR K) tk):=λ bJ gH=>by
   have e1:=gP hk _ ks b (f,di,cc) bJ _ hHX (noX (by decide) (by decide) (by decide)) gH
   rw [Acp,dM]at e1;exact e1
  have sW:=hLe;rw [qO,oB]at sW;have e25:∀fl,fl∈[525]->fl∈Ahc:=by decide
  have c3:∀o,NmS [525] (.loc 584003 0 o):=λ o=>D3 _ _ _ _ (by decide)
  have c8:∀o,NmS [525] (.loc 584008 0 o):=λ o=>D3 _ _ _ _ (by decide)
  have cH:∀o,NmS [525] (.loc hk 0 o):=λ o=>D3 _ _ _ _ (inH e25)
  have cK:∀o,NmS [525] (.loc K 0 o):=λ o=>D3 _ _ _ _ (inK e25)
  have yY:=(hF.mono e25).gho;by_cases hc:cc<0
  ·cases l with
   |cons x l=>
    have hR:inS s i tick f ⟨ps,di,mo,le,wa,rs⟩ ts ws ks=⟨true,false,Cr.plus ⟨ps,di,mo,le,wa,rs⟩ ⟨w1,w3⟩,Akg ts w1 (λ t=>t.inn i tick),ws.eraseP (isW (f,di,cc)),ks⟩:=by
     simp only [inS];rw [B6j cX,fM,dM];simp only;rw [B6j λ h=>by simp at h]
    have dP:¬((x::l).length:Int)=0:=by rw [B8p];omega
    rw [hR];refine⟨(tk,tr1)::(K,cr1)::A1 584000 585000 [584046,584053] (del (del aR K) tk),?_,?_⟩
    ·subst qO oB;generalize (x::l).length=ll at dP sW;simp -implicitDefEqProofs (disch:=first|omega|(simp [g]<;>fail)|assumption|(simp only [K5,E9,D8,c3,c8,cH,cK,yY,m3,m8,mS,mK,sU,B7v,B7w]<;>omega)) [g,n3,d3,f3,x3,n8,d8,f8,x8,k1,a3,a8,K3,t3,K3',t3',K8,t8,K8',t8',hK,aY,hd,kR,rO,hKe,eT,C0,cP,hn,a3',a8',B69,B7e,kA,kB,x29,n29,f9,d29,a9,K9,t9,a9',K9',t9',kI,g23,g28,gK2,gt2,x246,x253,n246,n253,f46,f53,d246,d253,a46,a53,K46,K53,t46,t53,a46',a53',K46',K53',t46',t53',vR,ht,Kb46,Kb53,l1,l2,mT,dC,rK,rt,rK0,rt0,kA1,kA2,kB2,gK,gK3,oQ,vS,tb3,tb9,gQ,hc,hI1,hI2,hI3,sW,dP];exact K6 (by simp) _
    ·exact yX
   |nil=>
    have hR:inS s i tick f ⟨ps,di,mo,le,wa,rs⟩ ts ws ks=⟨true,ks.any (T8 f di),Cr.plus ⟨ps,di,mo,le,wa,rs⟩ ⟨w1,w3⟩,Akg ts w1 (λ t=>t.inn i tick),ws.eraseP (isW (f,di,cc)),ks.eraseP (T8 f di)⟩:=by
     simp only [inS];rw [B6j cX,fM,dM];simp [hc]
    rw [hR];have kY:=kX [584003,584046,584053];have hr4:hk%KT<1000*584\/1000*584+1000<=hk%KT:=Am6 (f:=584) (inH (by decide))
    have hHY:HW hk (ws.eraseP (isW (f,di,cc))) ks b ((tk,tr1)::(K,cr1)::A1 584000 585000 [584003,584046,584053] (del (del aR K) tk)):=by
     rw [<-kY];exact hHX.keep hr4 (by omega)
    have noY:U7 [511] ((tk,tr1)::(K,cr1)::A1 584000 585000 [584003,584046,584053] (del (del aR K) tk)):=by
     rw [<-kY];exact λ p hp=>noX (fs:=[511]) (by decide) (by decide) (by decide) p (X8 hp)
    have eCl:∀fl,fl∈[511]->fl∈Ahc:=by decide
    have nfY:NoF [511] ((100088,i64 di)::(100087,.loc K 0 1)::(100086,.loc K 0 0)::(100085,.loc K 0 0)::(100084,i64 f)::(100083,.loc hk 0 0)::(100082,.loc 584003 0 13)::(100001,.loc K 0 0)::(100002,i64 f)::(100003,.loc 584003 0 0)::gho gs):=by
     have q1:=D3 _ hk 0 0 (inH eCl);have q2:∀o,NmS [511] (.loc K 0 o):=λ o=>D3 _ _ _ _ (inK eCl)
     have q3:∀o,NmS [511] (.loc 584003 0 o):=λ o=>D3 _ _ _ _ (by decide)
     simp only [K5,E9,D8,q1,q2,q3,(hF.mono eCl).gho,B7v,B7w];omega
    obtain⟨ob6,eC,uC,w6⟩:=oG hk _ ks b f di _ _ hHY noY nfY;have g33:get (A1 584000 585000 [584003,584046,584053] (del (del aR K) tk)) 584003=some ⟨17,[I4 s hk tk n i tick]⟩:=by
     rw [C4,B6l (.inr (.inr (by simp))),gK3,B6j t3',gK,B6j K3',g23]
    have kY2:=K6 (lo:=584000) (hi:=585000) (os:=[584003,584046,584053]) (os':=[584003,584046,584053]) (λ _ h=>h)
    have wY:Fw (S3 hk K tk) ([((584003:Nat),(⟨17,[I4 s hk tk n i tick]⟩:Obj))]++ob) ((tk,tr1)::(K,cr1)::A1 584000 585000 [584003,584046,584053] (del (del aR K) tk)):=by
     rw [<-kY];refine Fw.part (L:=[(584008,⟨3,[[i64 f,i64 di,i64 cc]]⟩),(584003,⟨17,[I4 s hk tk n i tick]⟩)]) wX (by omega) hL4 hNm ⟨_,List.mem_singleton_self _,(by decide:M5 [584] 584003=true)⟩ λ k=> ?_
     simp only [B7i,B7j,Am.get];by_cases e3:584003=k
     ·subst e3;simp
     ·rw [B6j e3];by_cases e8:584008=k
      ·subst e8;rw [x8];simp [aB]
      ·rw [B6j e8];split
       ·rfl
       ·rename_i nV;refine hO.none ?_;have h7:k%KT/1000=584:=by omega
        simp only [M5,h7];decide
    refine⟨A1 584000 585000 [584046,584053] ob6,?_,uC.keep hr4 (by omega),(Fw.drop (L:=[(584003,⟨17,[I4 s hk tk n i tick]⟩)]) (wY.trans (w6.mono λ k h=> .inl h)) (hO.mono (by decide)) (by omega) (λ p hp=>hL4 p (B7g _ hp)) (λ p hp=>hNm p (B7g _ hp)) (by simp) yN).1,?_,?_,λ h=>H4 (w6.nm K s2 vQ (by rw [<-kY];exact H4 (nX h)))⟩
    ·subst qO oB;simp -implicitDefEqProofs (disch:=first|omega|(simp [g]<;>fail)|assumption|(simp only [K5,E9,D8,c3,c8,cH,cK,yY,m3,m8,mS,mK,sU,B7v,B7w]<;>omega)) [g,n3,d3,f3,x3,n8,d8,f8,x8,k1,a3,a8,K3,t3,K3',t3',K8,t8,K8',t8',hK,aY,hd,kR,rO,hKe,eT,C0,cP,hn,a3',a8',B69,B7e,kA,kB,x29,n29,f9,d29,a9,K9,t9,a9',K9',t9',kI,g23,g28,gK2,gt2,x246,x253,n246,n253,f46,f53,d246,d253,a46,a53,K46,K53,t46,t53,a46',a53',K46',K53',t46',t53',vR,ht,Kb46,Kb53,l1,l2,mT,dC,rK,rt,rK0,rt0,kA1,kA2,kB2,gK,gK3,oQ,vS,tb3,tb9,gQ,hc,hI1,hI2,hI3,sW,eC,g33,kY2]
    ·rw [C4,B6l (show K%KT<584000\/585000<=K%KT\/_ from rK0.imp id .inl),w6.fr K s2 vQ,<-yW];simp [oQ,B6i oQ]
    ·rw [C4,B6l (show tk%KT<584000\/585000<=tk%KT\/_ from rt0.imp id .inl),w6.fr tk s3 uB,<-vT];simp
  ·have hR:inS s i tick f ⟨ps,di,mo,le,wa,rs⟩ ts ws ks=⟨true,false,Cr.plus ⟨ps,di,mo,le,wa,rs⟩ ⟨w1,w3⟩,Akg ts w1 (λ t=>t.inn i tick),ws.eraseP (isW (f,di,cc)),ks⟩:=by
    simp only [inS];rw [B6j cX,fM,dM];simp only;rw [B6j λ h=>hc h.1]
   rw [hR];refine⟨(tk,tr1)::(K,cr1)::A1 584000 585000 [584046,584053] (del (del aR K) tk),?_,?_⟩
   ·subst qO oB;simp -implicitDefEqProofs (disch:=first|omega|(simp [g]<;>fail)|assumption|(simp only [K5,E9,D8,m3,m8,mS,mK,sU,B7v,B7w]<;>omega)) [g,n3,d3,f3,x3,n8,d8,f8,x8,k1,a3,a8,K3,t3,K3',t3',K8,t8,K8',t8',hK,aY,hd,kR,rO,hKe,eT,C0,cP,hn,a3',a8',B69,B7e,kA,kB,x29,n29,f9,d29,a9,K9,t9,a9',K9',t9',kI,g23,g28,gK2,gt2,x246,x253,n246,n253,f46,f53,d246,d253,a46,a53,K46,K53,t46,t53,a46',a53',K46',K53',t46',t53',vR,ht,Kb46,Kb53,l1,l2,mT,dC,rK,rt,rK0,rt0,kA1,kA2,kB2,gK,gK3,oQ,vS,tb3,tb9,gQ,hc,hI1,hI2,hI3];exact K6 (by simp) _
   ·exact yX
end Go.Am
