import Derived.Test.YtgnjaophoffbbaaGreatCb
set_option maxRecDepth 20000
set_option maxHeartbeats 8000000
set_option linter.unusedVariables false
set_option linter.unusedSimpArgs false
namespace Go.Am
def Cr.fin (c:Cr)(left:Int)(waited:Bool):Cr:=⟨c.pos,c.dir,c.mode,left,waited,c.rid⟩
def A0y (s:S6)(i:Int)(c:Cr)(ws:List W4)(ks:List K3):Cr:=⟨c.pos,Agu (Alc c s.capacity (L2 ws ks i 1) (L2 ws ks i (-1))) (c.pos/s.gap) c.dir,3,c.left,c.waited,c.rid⟩
def G9 (s:S6)(i tick:Int)(c:Cr)(ts:List D2)(ws:List W4)(ks:List K3):InS:=
 match Aar (c.pos/s.gap) c.rid 0 with
 |some k=>⟨true,false,((A0y s i c ws ks).without k).fin s.transfer false,Akg ts (match c.rid[k]? with|some r=>r.id|none=>0) (λ t=>t.out tick),ws,ks⟩
 |none=>match inS s i tick (c.pos/s.gap) (A0y s i c ws ks) ts ws ks with
  |⟨true,gone,c',bP,bF,bE⟩=>⟨true,gone,c'.fin s.transfer false,bP,bF,bE⟩
  |⟨false,_,_,_,_,_⟩=>if c.waited then⟨true,false,⟨c.pos,(A0y s i c ws ks).dir,4,s.cls,false,c.rid⟩,ts,ws,ks⟩else⟨true,false,(A0y s i c ws ks).fin s.dwell true,ts,ws,ks⟩
abbrev Atu :List Nat:=[572,585,584,598,521,524,525,511,518]
def S2 (hk tk:Nat):Nat->Prop:=λ k=>k=hk\/k=tk
def Bfn (g:PG):Prop:=∀(s:S6)(hk tk n:Nat)(i tick:Int)(c:Cr)(ts:List D2)(ws:List W4)(ks:List K3)(b:Nat) gs ob,ScG s->CrG c->U7 Atu ob->NoF Atu gs->HW hk ws ks b ob->c.rid.length<100->(∀r∈c.rid,0<=r.id/\r.id<n)->(∀w∈ws,0<=w.1/\w.1<n)->ts.length=n->n<=1000000->ws.length<=1000->ks.length<=1000->get ob tk=some (trO ts)->¬tk=hk->hk<1000000000->tk<1000000000->
 ∃aA,g ⟨(0,Aun s hk tk n i tick)::(1,.agg c.cells)::gs,ob⟩=some ([.agg (G9 s i tick c ts ws ks).c.cells,bo (G9 s i tick c ts ws ks).gone],aA)/\HW hk (G9 s i tick c ts ws ks).ws (G9 s i tick c ts ws ks).ks b aA/\Fw (S2 hk tk) ob aA/\get aA tk=some (trO (G9 s i tick c ts ws ks).ts)
theorem Fw.drop2 {S S':Nat->Prop}{f:Nat}{L ob aR:OL}(h:Fw S (L++ob) aR)(hO:U7 [f] ob)(hf:f<1000000)(hL:∀p∈L,1000*f<=p.1/\p.1<1000*f+1000)(hn:∀p∈L,∀r∈p.2.rows,∀v∈r,∀j,v.names j=true->S' j/\get ob j≠none)
  (hS:∀k,S k->S' k\/(M5 [f] k=true/\B8 k aR=true))(hS':∀k,S' k->M5 [f] k=false):Fw S' ob (A1 (1000*f) (1000*f+1000) [] aR)/\U7 [f] (A1 (1000*f) (1000*f+1000) [] aR):=by
 have aB:KT=18446744073709551616:=G1;have aP:∀k,M5 [f] k=true↔1000*f<=k%KT/\k%KT<1000*f+1000:=λ k=>by
  simp only [M5,B63,B6x,B6o];omega
 have gD:∀k,M5 [f] k=true->Sm k:=λ k hk=>Nat.lt_of_lt_of_le ((aP k).1 hk).2 (by omega)
 have hLR:∀p∈L,M5 [f] p.1=true:=λ p hp=>(aP _).2 (by have:=hL p hp;rw [aB];omega)
 have hLn:∀k,¬S' k->B8 k L=true:=λ k hk=>C8.2 λ p hp=>A5.2 λ r hr v hv=>by
  cases hx:v.names k with
  |false=>rfl
  |true=>exact absurd (hn p hp r hr v hv k hx).1 hk
 have cT:∀k,M5 [f] k=true->get (A1 (1000*f) (1000*f+1000) [] aR) k=none:=λ k hk=>by
  rw [C4,B6j];have h2:=(aP k).1 hk;simp only [B7a,or_false];omega
 have yV:∀k,¬S' k->S k->M5 [f] k=true/\B8 k aR=true:=λ k h1 h2=>(hS k h2).resolve_left h1
 have cS:∀k,Sm k->¬S' k->B8 k ob=true->B8 k (A1 (1000*f) (1000*f+1000) [] aR)=true:=λ k h1 h2 h3=>by
  by_cases hs:S k
  ·exact H4 (yV k h2 hs).2
  ·exact H4 (h.nm k h1 hs (Aqv (hLn k h2) h3))
 have hSf:∀k,M5 [f] k=true->¬S' k:=λ k hk hs=>by rw [hS' k hs]at hk;simp at hk
 have sT:U7 [f] (A1 (1000*f) (1000*f+1000) [] aR):=λ p hp=>by
  refine⟨?_,λ r hr v hv k hk=>A5.1 (C8.1 (cS k (gD k hk) (hSf k hk) (hO.nm hk)) p hp) r hr v hv⟩
  cases jG:M5 [f] p.1 with
  |false=>rfl
  |true=>exact absurd (cT p.1 jG) (Aje hp)
 refine⟨⟨λ k a1 a2=> ?_,λ fs hfs cW=> ?_,cS⟩,sT⟩
 ·cases bG:M5 [f] k with
  |true=>rw [cT k bG,hO.none bG]
  |false=>
   have hc:k%KT<1000*f\/1000*f+1000<=k%KT:=by
    rcases B7f (k%KT) (1000*f)with h1|h1
    ·exact .inl h1
    ·refine .inr (Nat.not_lt.1 λ h2=> ?_)
     have:=(aP k).2 ⟨h1,h2⟩;rw [bG]at this;simp at this
   have hs:¬S k:=λ hs=>by have:=(yV k a2 hs).1;rw [bG]at this;simp at this
   rw [C4,B6l (hc.imp id .inl),h.fr k a1 hs,Azn];rintro p hp rfl;rw [hLR p hp]at bG;simp at bG
 ·have lF:U7 (fs.filter (· !=f)) (L++ob):=by
   refine A6l (λ p hp=>⟨?_,λ r hr v hv k hk=> ?_⟩) (cW.mono λ g hg=>(B7c.1 hg).1)
   ·simp only [M5,B63,B7k,B7c,not_and];intro _ aH;have h1:=hL p hp;have:p.1%KT/1000=f:=by rw [aB,B74 (by omega)];omega
    exact absurd this (by simpa using aH)
   ·cases hx:v.names k with
    |false=>rfl
    |true=>
     have cG:M5 fs k=true:=Ahu (λ g hg=>(B7c.1 hg).1) hk
     exact absurd (cW.none cG) (hn p hp r hr v hv k hx).2
  have h2:=h.no _ (λ g hg=>hfs g (B7c.1 hg).1) lF
  intro p hp;obtain⟨q1,q2⟩:=h2 p (X8 hp);obtain⟨q3,q4⟩:=sT p hp;have oE:∀k,M5 fs k=true->M5 (fs.filter (· !=f)) k=true\/M5 [f] k=true:=λ k hk=>by
   simp only [M5,B63,B6o,B7c,B6x]at hk ⊢;by_cases he:k%KT/1000=f
   ·exact .inr he
   ·exact .inl ⟨hk,by simpa using he⟩
  refine⟨?_,λ r hr v hv k hk=>(oE k hk).elim (q2 r hr v hv k) (q4 r hr v hv k)⟩
  cases jG:M5 fs p.1 with
  |false=>rfl
  |true=>rcases oE _ jG with h|h<;>simp_all
theorem B0f {s:S6}{i tick f:Int}{c:Cr}{ts:List D2}{ws:List W4}{ks:List K3}(h:(inS s i tick f c ts ws ks).ok=false):inS s i tick f c ts ws ks=⟨false,false,c,ts,ws,ks⟩:=by
 grind [inS]
theorem Ajx (Γ:H6)(M:Nat)(hM:200<M)(tY:Bs1 (Γ 583))(hS:Avj (Γ 582))(lT:Avl (Γ 581))(hL:Bfl (Γ.pt 518))(hU:B1m (Γ.pt 585))(hI:InC (Γ.pt 584)):Bfn (H9 Γ M Q1):=by
 rintro s hk tk n i tick ⟨ps,di,mo,le,wa,rs⟩ ts ws ks b gs ob hs eX hO hF hH hl dH iC hn iH lO lK aY uB z1 z3;have bI:CK=900000000000000000:=rfl;have aB:KT=18446744073709551616:=G1;have g:=hF.1;have s1:=A7l z1;have s3:=A7l z3;have cU:=aY;have inTk:∀{fs:List Nat},(∀fl∈fs,fl∈Atu)->M5 fs tk=false:=λ h=>(hO.mono h _ (B0 cU)).1
 have inH:∀{fs:List Nat},(∀fl∈fs,fl∈Atu)->M5 fs hk=false:=λ h=>(hO.mono h).hallW hH
 obtain⟨p1,p2⟩:=eX.pos;obtain⟨q1,q2⟩:=eX.dir;obtain⟨r1,r2⟩:=hs.gap;dsimp only at p1 p2 q1 q2 hl dH;obtain⟨f,hf⟩:∃f,f=ps/s.gap:=⟨_,rfl⟩;have f1:0<=f:=by rw [hf];exact B89 p1 (by omega)
 have f2:f<=ps:=by rw [hf];exact B9h _ p1
 have e1:=tY ps s.gap ⟨p1,by omega⟩ ⟨r1,by omega⟩
 rw [<-hf]at e1;obtain⟨pU,sX⟩:∃p,p=L2 ws ks i 1:=⟨_,rfl⟩;obtain⟨pD,sY⟩:∃p,p=L2 ws ks i (-1):=⟨_,rfl⟩;have e2:=hS ⟨ps,di,mo,le,wa,rs⟩ s.capacity pU pD (Nat.le_of_lt hl);obtain⟨sg,kV⟩:∃x,x=Alc ⟨ps,di,mo,le,wa,rs⟩ s.capacity pU pD:=⟨_,rfl⟩;rw [<-kV]at e2;have e3:=lT sg f di ⟨by omega,by omega⟩ ⟨q1,q2⟩
 obtain⟨fd,gV⟩:∃x,x=Agu sg f di:=⟨_,rfl⟩;rw [<-gV]at e3;have n2:=hO.nm (k:=572002) (by decide)
 have d2:=hO.del (k:=572002) (by decide)
 have f02:=hF.nm (k:=572002) (by decide)
 have x2:=hO.none (k:=572002) (by decide)
 have n3:=hO.nm (k:=572003) (by decide)
 have d3:=hO.del (k:=572003) (by decide)
 have f03:=hF.nm (k:=572003) (by decide)
 have x3:=hO.none (k:=572003) (by decide)
 have n4:=hO.nm (k:=572004) (by decide)
 have d4:=hO.del (k:=572004) (by decide)
 have f04:=hF.nm (k:=572004) (by decide)
 have x4:=hO.none (k:=572004) (by decide)
 have n8:=hO.nm (k:=572008) (by decide)
 have d8:=hO.del (k:=572008) (by decide)
 have f08:=hF.nm (k:=572008) (by decide)
 have x8:=hO.none (k:=572008) (by decide)
 have k1:=hO.kf (f:=572) (by decide)
 have a2:=R8 (hO.hallW hH) (k:=572002) (by decide)
 have a3:=R8 (hO.hallW hH) (k:=572003) (by decide)
 have a4:=R8 (hO.hallW hH) (k:=572004) (by decide)
 have a8:=R8 (hO.hallW hH) (k:=572008) (by decide)
 have t2:=A3 hO cU (k:=572002) (by decide)
 have t3:=A3 hO cU (k:=572003) (by decide)
 have t4:=A3 hO cU (k:=572004) (by decide)
 have t8:=A3 hO cU (k:=572008) (by decide)
 have a2':=B6i a2;have a3':=B6i a3;have a4':=B6i a4;have a8':=B6i a8;have t2':=B6i t2;have t3':=B6i t3;have t4':=B6i t4;have t8':=B6i t8;obtain⟨ho,cP⟩:=hH.some;have sm2:SmR [I4 s hk tk n i tick]:=Auo (by
  simp only [I4,B8x,B7a,B9d,B9k,B7v,Aa6,K2,X5,B8d,B7w];exact⟨λ k h=>by omega,λ k h=>by omega⟩)
 have smC:∀(x:Cr),SmR (crO x).rows:=λ x=>Auo (by simp)
 have smZ:SmR [[i64 0,i64 0,i64 0,i64 0,bo false,.nil 2]]:=Auo (by simp)
 have sm8:SmR [[AV.c (.int .u64 0),.c (.int .u64 0),.c (.int .u64 0),.c (.int .u64 0),.c (.int .u64 0),.c (.int .u64 0)]]:=Auo (by simp)
 have hH4:∀x,HW hk ws ks b ((572004,⟨6,[[i64 0,i64 0,i64 0,i64 0,bo false,.nil 2]]⟩)::(572003,crO x)::(572002,⟨17,[I4 s hk tk n i tick]⟩)::ob):=λ x=>((hH.up (Y8 a2' (by decide) sm2)).up (Y8 a3' (by decide) (smC x))).up (Y8 a4' (by decide) smZ)
 have noS:∀{fs:List Nat},(∀fl∈fs,fl∈Atu)->M5 fs 572002=false->M5 fs 572003=false->M5 fs 572004=false->∀x,U7 fs ((572004,⟨6,[[i64 0,i64 0,i64 0,i64 0,bo false,.nil 2]]⟩)::(572003,crO x)::(572002,⟨17,[I4 s hk tk n i tick]⟩)::ob):=λ h h2 h3 h4 x=>
  L3 h4 (Abl (by simp [E9,N3])) (L3 h3 (Abl (by simp [E9])) (L3 h2 (Abl (Ahx s n i tick (inH h) (inTk h))) (hO.mono h)))
 have eLd:∀fl,fl∈[518]->fl∈Atu:=by decide
 have yZ:∀d bJ,NoF [518] bJ->Γ.pt 518 ⟨(0,.loc hk 0 0)::(1,i64 i)::(2,i64 d)::bJ,(572004,⟨6,[[i64 0,i64 0,i64 0,i64 0,bo false,.nil 2]]⟩)::(572003,⟨6,[[i64 ps,i64 di,i64 mo,i64 le,bo wa,.c (.vs 2 (rs.map Rd.cells))]]⟩)::(572002,⟨17,[I4 s hk tk n i tick]⟩)::ob⟩=some ([E0 (L2 ws ks i d)],(572004,⟨6,[[i64 0,i64 0,i64 0,i64 0,bo false,.nil 2]]⟩)::(572003,⟨6,[[i64 ps,i64 di,i64 mo,i64 le,bo wa,.c (.vs 2 (rs.map Rd.cells))]]⟩)::(572002,⟨17,[I4 s hk tk n i tick]⟩)::ob):=λ d bJ hg=>
  hL hk ws ks b i d bJ _ (hH4 ⟨ps,di,mo,le,wa,rs⟩) lO lK (noS eLd (by decide) (by decide) (by decide) ⟨ps,di,mo,le,wa,rs⟩) hg
 have zA:∀d bJ,NoF [518] bJ->Γ.pt 518 ⟨(0,.loc hk 0 0)::(1,i64 i)::(2,i64 d)::bJ,(572008,⟨6,[[AV.c (.int .u64 0),.c (.int .u64 0),.c (.int .u64 0),.c (.int .u64 0),.c (.int .u64 0),.c (.int .u64 0)]]⟩)::(572004,⟨6,[[i64 0,i64 0,i64 0,i64 0,bo false,.nil 2]]⟩)::(572003,⟨6,[[i64 ps,i64 di,i64 mo,i64 le,bo wa,.c (.vs 2 (rs.map Rd.cells))]]⟩)::(572002,⟨17,[I4 s hk tk n i tick]⟩)::ob⟩=some ([E0 (L2 ws ks i d)],(572008,⟨6,[[AV.c (.int .u64 0),.c (.int .u64 0),.c (.int .u64 0),.c (.int .u64 0),.c (.int .u64 0),.c (.int .u64 0)]]⟩)::(572004,⟨6,[[i64 0,i64 0,i64 0,i64 0,bo false,.nil 2]]⟩)::(572003,⟨6,[[i64 ps,i64 di,i64 mo,i64 le,bo wa,.c (.vs 2 (rs.map Rd.cells))]]⟩)::(572002,⟨17,[I4 s hk tk n i tick]⟩)::ob):=λ d bJ hg=>
  hL hk ws ks b i d bJ _ ((hH4 ⟨ps,di,mo,le,wa,rs⟩).up (Y8 a8' (by decide) sm8)) lO lK (L3 (by decide) (Abl (by simp [E9])) (noS eLd (by decide) (by decide) (by decide) ⟨ps,di,mo,le,wa,rs⟩)) hg
 have u1:=yZ 1;have u2:=yZ (-1);have u3:=zA 1;have u4:=zA (-1);rw [<-sX]at u1 u3;rw [<-sY]at u2 u4;simp only [E0,Q7,sgD,Cr.cells]at e2 e3 u1 u2 u3 u4;have kT:=(hF.mono eLd).gho;have mH:∀o,NmS [518] (.loc hk 0 o):=λ o=>D3 _ _ _ _ (inH eLd)
 have m2:∀o,NmS [518] (.loc 572002 0 o):=λ o=>D3 _ _ _ _ (by decide)
 have m3:∀o,NmS [518] (.loc 572003 0 o):=λ o=>D3 _ _ _ _ (by decide)
 have m4:∀o,NmS [518] (.loc 572004 0 o):=λ o=>D3 _ _ _ _ (by decide)
 have m8:∀o,NmS [518] (.loc 572008 0 o):=λ o=>D3 _ _ _ _ (by decide)
 obtain⟨c1,fF⟩:∃x:Cr,x=⟨ps,fd,3,le,wa,rs⟩:=⟨_,rfl⟩;have aK:A0y s i ⟨ps,di,mo,le,wa,rs⟩ ws ks=c1:=by
  rw [fF];unfold A0y;dsimp only;rw [<-hf,<-sX,<-sY,<-kV,<-gV]
 obtain⟨L1,gP⟩:∃L:OL,L=[(572003,crO c1),(572004,⟨6,[[i64 0,i64 0,i64 0,i64 0,bo false,.nil 2]]⟩),(572002,⟨17,[I4 s hk tk n i tick]⟩)]:=⟨_,rfl⟩;have smC1:=smC c1;have hH5:HW hk ws ks b (L1++ob):=by
  rw [gP];exact((hH.up (Y8 a2' (by decide) sm2)).up (Y8 a4' (by decide) smZ)).up (Y8 a3' (by decide) smC1)
 have noL:∀{fs:List Nat},(∀fl∈fs,fl∈Atu)->M5 fs 572002=false->M5 fs 572003=false->M5 fs 572004=false->U7 fs (L1++ob):=λ h h2 h3 h4=>by
  rw [gP];exact L3 h3 (Abl (by simp [E9])) (L3 h4 (Abl (by simp [E9,N3])) (L3 h2 (Abl (Ahx s n i tick (inH h) (inTk h))) (hO.mono h)))
 have eOu:∀fl,fl∈[585]->fl∈Atu:=by decide
 have gL3:get (L1++ob) 572003=some (crO c1):=by rw [gP];simp
 have gLt:get (L1++ob) tk=some (trO ts):=by rw [gP];simp [t2',t3',t4',aY]
 have fX:∀bJ,NoF [585] bJ->Γ.pt 585 ⟨(0,Aun s hk tk n i tick)::(1,.loc 572003 0 0)::(2,i64 f)::bJ,L1++ob⟩=some (Ayf tk 572003 c1 ts tick (L1++ob) (Aar f rs 0)):=λ bJ hg=>by
  have:=hU s hk tk n 572003 i tick f c1 ts bJ (L1++ob) (noL eOu (by decide) (by decide) (by decide)) hg (inH eOu) (by rw [fF];exact Nat.le_of_lt hl) (by rw [fF];exact dH) hn iH gL3 gLt (by simpa using t3')
  rw [fF]at this ⊢;exact this
 have hFO:=(hF.mono eOu).gho;have o2:∀o,NmS [585] (.loc 572002 0 o):=λ o=>D3 _ _ _ _ (by decide)
 have o3:∀o,NmS [585] (.loc 572003 0 o):=λ o=>D3 _ _ _ _ (by decide)
 have o4:∀o,NmS [585] (.loc 572004 0 o):=λ o=>D3 _ _ _ _ (by decide)
 have oS:=Al9 s n i tick (inH eOu) (inTk eOu);have kd:=Y6 (k:=tk) k1;have rt0:tk%18446744073709551616<572000\/573000<=tk%18446744073709551616:=U7.rng (f:=572) (hO.mono (by decide)) cU
 have gd:∀k,get (del ob tk) k=if k=tk then none else get ob k:=λ k=>B3 ob tk k
 have d2t:del (del ob tk) 572002=del ob tk:=by rw [L5,d2]
 have d3t:del (del ob tk) 572003=del ob tk:=by rw [L5,d3]
 have d4t:del (del ob tk) 572004=del ob tk:=by rw [L5,d4]
 have tb2:(572002==tk)=false:=by simp [t2']
 have tb3:(572003==tk)=false:=by simp [t3']
 have tb4:(572004==tk)=false:=by simp [t4']
 cases hx:Aar f rs 0 with
 |some k=>
  have hR:G9 s i tick ⟨ps,di,mo,le,wa,rs⟩ ts ws ks=⟨true,false,(c1.without k).fin s.transfer false,Akg ts (match rs[k]? with|some r=>r.id|none=>0) (λ t=>t.out tick),ws,ks⟩:=by
   unfold G9;dsimp only;rw [<-hf,hx,aK]
  rw [hR];obtain⟨bP,iT⟩:∃x,x=Akg ts (match rs[k]? with|some r=>r.id|none=>0) (λ t=>t.out tick):=⟨_,rfl⟩
  rw [<-iT];rw [hx]at fX;have hov:Ayf tk 572003 c1 ts tick (L1++ob) (some k)=([bo true],(tk,trO bP)::(572003,crO (c1.without k))::(572004,⟨6,[[i64 0,i64 0,i64 0,i64 0,bo false,.nil 2]]⟩)::(572002,⟨17,[I4 s hk tk n i tick]⟩)::del ob tk):=by
   simp only [Ayf];rw [iT,fF,gP];simp [Am.del,t2',t3',t4',d3];cases rs[k]? <;>rfl
  rw [hov,gP]at fX;refine⟨(tk,trO bP)::del ob tk,?_,?_,?_,?_⟩
  ·obtain⟨c2,dL⟩:∃x,x=c1.without k:=⟨_,rfl⟩;rw [<-dL]at fX ⊢;obtain⟨p',d',m',l',w',uM⟩:=c2;rw [fF]at fX;simp only [crO,B7i,B7j]at fX;obtain⟨trX,htrX⟩:∃x,x=trO bP:=⟨_,rfl⟩;simp only [<-htrX]at fX ⊢;simp -implicitDefEqProofs (disch:=first|omega|(simp [g]<;>fail)|assumption|(simp only [K5,E9,D8,m2,m3,m4,m8,mH,kT,o2,o3,o4,oS,hFO,B7v,B7w]<;>omega)) [g,n2,d2,f02,x2,n3,d3,f03,x3,n4,d4,f04,x4,n8,d8,f08,x8,k1,a2,a3,a4,a8,a2',a3',a4',a8',t2,t3,t4,t8,t2',t3',t4',t8',aY,cP,hn,e1,e2,e3,u1,u2,u3,u4,fX,kd,rt0,gd,d2t,d3t,d4t,tb2,tb3,tb4,Cr.fin]
  ·exact hH.up (A0w uB (Bdd z3) (λ k _=>A5.2 λ r hr v hv=>by
    obtain⟨u,_,rfl⟩:=B6z.1 hr;simp only [Function.comp,A4,B6z]at hv;obtain⟨d,_,rfl⟩:=hv;rfl))
  ·exact A0x cU (.inr rfl) (λ r hr v hv j hj=>by
    obtain⟨u,_,rfl⟩:=B6z.1 hr;simp only [Function.comp,A4,B6z]at hv;obtain⟨d,_,rfl⟩:=hv;simp at hj)
  ·simp
 |none=>
  rw [hx]at fX;simp only [Ayf]at fX;have eIn:∀fl,fl∈Ahc->fl∈Atu:=by decide
  have nfI:NoF Ahc ((100053,i64 f)::(100052,Aun s hk tk n i tick)::(100002,.loc 572002 0 0)::(100003,.loc 572003 0 0)::(100004,.loc 572004 0 0)::(100006,i64 f)::gho gs):=by
   have q2:∀o,NmS Ahc (.loc 572002 0 o):=λ o=>D3 _ _ _ _ (by decide)
   have q3:∀o,NmS Ahc (.loc 572003 0 o):=λ o=>D3 _ _ _ _ (by decide)
   have q4:∀o,NmS Ahc (.loc 572004 0 o):=λ o=>D3 _ _ _ _ (by decide)
   have qS:=Al9 s n i tick (inH eIn) (inTk eIn);simp only [K5,E9,D8,q2,q3,q4,qS,(hF.mono eIn).gho,B7v,B7w];omega
  obtain⟨ob5,eI,uC,w5,g5K,g5t,n5⟩:=hI s hk tk n 572003 i tick f c1 ts ws ks b _ (L1++ob) (noL eIn (by decide) (by decide) (by decide)) nfI hH5 (by rw [fF];exact hl) iC hn iH (by omega) gL3 gLt t3' a3' uB z1 (by omega) z3
  have nK5:B8 572003 ob5=true:=n5 (by
   rw [gP];simp only [B7i,B7j,crO,I4,B8,B5,M0,B7r,List.all_nil,Aa6,K2,X5,Alz,n3];simp [a3,t3])
  have g52:get ob5 572002=some ⟨17,[I4 s hk tk n i tick]⟩:=by
   rw [w5.fr 572002 (by unfold Sm;decide) (by unfold S3;simp [a2',t2'])];rw [gP];simp
  have g54:get ob5 572004=some ⟨6,[[i64 0,i64 0,i64 0,i64 0,bo false,.nil 2]]⟩:=by
   rw [w5.fr 572004 (by unfold Sm;decide) (by unfold S3;simp [a4',t4'])];rw [gP];simp
  have kO:A1 572000 573000 [572002,572003,572004] ob5=ob5:=Ahd λ p hp=>by
   rcases B7f (p.1%KT) 572000 with q|q
   ·exact .inl q
   rcases B7f (p.1%KT) 573000 with q2|q2
   ·by_cases e2:p.1=572002
    ·rw [e2];exact .inr (.inr (by simp))
    by_cases e3:p.1=572003
    ·rw [e3];exact .inr (.inr (by simp))
    by_cases e4:p.1=572004
    ·rw [e4];exact .inr (.inr (by simp))
    have h7:p.1%KT/1000=572:=by omega
    have rV:M5 Atu p.1=true:=by simp only [M5,h7];decide
    have hnh:¬S3 hk 572003 tk p.1:=by
     rintro(h|h|h)
     ·rw [h,inH λ _ h=>h]at rV;simp at rV
     ·exact e3 h
     ·rw [h,inTk λ _ h=>h]at rV;simp at rV
    refine absurd ?_ (Aje hp);rw [w5.fr p.1 (by unfold Sm;omega) hnh,gP]
    simp only [B7i,B7j,Am.get];rw [B6j (B6i e3),B6j (B6i e4),B6j (B6i e2)];exact hO.none rV
   ·exact .inr (.inl q2)
  have dQ:hk%KT<1000*572\/1000*572+1000<=hk%KT:=Am6 (f:=572) (inH (by decide))
  have fin1:HW hk (inS s i tick f c1 ts ws ks).ws (inS s i tick f c1 ts ws ks).ks b (A1 572000 573000 [] ob5)/\Fw (S2 hk tk) ob (A1 572000 573000 [] ob5)/\get (A1 572000 573000 [] ob5) tk=some (trO (inS s i tick f c1 ts ws ks).ts):=by
   refine⟨uC.keep dQ (by omega),(Fw.drop2 (f:=572) (S':=S2 hk tk) w5 (hO.mono (by decide)) (by omega) ?_ ?_ ?_ ?_).1,?_⟩
   ·rw [gP];simp
   ·rw [gP];simp only [B8x,B7a,B9d,B9k,B7v,I4,crO,Aa6,K2,X5,Alz,B6p,B7w,B62];exact⟨λ j h=>by rw [<-h];exact⟨.inl rfl,by rw [cP];simp⟩,λ j h=>by rw [<-h];exact⟨.inr rfl,by rw [cU];simp⟩⟩
   ·rintro k (rfl|rfl|rfl)
    ·exact .inl (.inl rfl)
    ·exact .inr ⟨by decide,nK5⟩
    ·exact .inl (.inr rfl)
   ·rintro k (rfl|rfl)
    ·exact inH (by decide)
    ·exact inTk (by decide)
   ·rw [C4,B6l (show tk%KT<572000\/573000<=tk%KT\/_ from rt0.imp id .inl)];exact g5t
  have j1:=K6 (lo:=572000) (hi:=573000) (os:=[572003,572004]) (os':=[572002,572003,572004]) (by simp)
  have j2:=K6 (lo:=572000) (hi:=573000) (os:=[572004]) (os':=[572003,572004]) (by simp)
  have j3:=K6 (lo:=572000) (hi:=573000) (os:=[]) (os':=[572004]) (by simp)
  have j4:=K6 (lo:=572000) (hi:=573000) (os:=[572004]) (os':=[572004]) (by simp)
  have j5:del (A1 572000 573000 [] ob5) 572003=A1 572000 573000 [] ob5:=D1 _ _ (by rw [C4,B6j (by rw [aB];simp)])
  have j6:del (A1 572000 573000 [] ob5) 572004=A1 572000 573000 [] ob5:=D1 _ _ (by rw [C4,B6j (by rw [aB];simp)])
  have zB:inS s i tick (ps/s.gap) (A0y s i ⟨ps,di,mo,le,wa,rs⟩ ws ks) ts ws ks=inS s i tick f c1 ts ws ks:=by rw [aK,<-hf]
  rw [gP,fF]at fX;rw [gP]at eI;simp only [crO,B7i,B7j]at fX;cases bB:(inS s i tick f c1 ts ws ks).ok with
  |true=>
   obtain⟨r,hr⟩:∃r,r=inS s i tick f c1 ts ws ks:=⟨_,rfl⟩;rw [<-hr]at bB fin1 g5K;rw [<-hr]at eI;obtain⟨ok,gone,c',bP,bF,bE⟩:=r;dsimp only at bB fin1 g5K eI;subst bB;have hR:G9 s i tick ⟨ps,di,mo,le,wa,rs⟩ ts ws ks=⟨true,gone,c'.fin s.transfer false,bP,bF,bE⟩:=by
    unfold G9;dsimp only;rw [<-hf,hx];dsimp only;rw [aK,<-hr]
   rw [hR];refine⟨_,?_,fin1⟩;obtain⟨p',d',m',l',w',uM⟩:=c';rw [fF]at eI;simp only [crO,B7i,B7j]at g5K eI;simp -implicitDefEqProofs (disch:=first|omega|(simp [g]<;>fail)|assumption|(simp only [K5,E9,D8,m2,m3,m4,m8,mH,kT,o2,o3,o4,oS,hFO,B7v,B7w]<;>omega)) [g,n2,d2,f02,x2,n3,d3,f03,x3,n4,d4,f04,x4,n8,d8,f08,x8,k1,a2,a3,a4,a8,a2',a3',a4',a8',t2,t3,t4,t8,t2',t3',t4',t8',aY,cP,hn,e1,e2,e3,u1,u2,u3,u4,fX,kd,rt0,gd,d2t,d3t,d4t,tb2,tb3,tb4,Cr.fin,eI,g5K,g52,g54,kO,C4,K7,B3,j1,j2,j3,j4,j5,j6]
  |false=>
   have cW:=B0f bB;rw [cW]at fin1 g5K eI;dsimp only at fin1 g5K eI;have hR:G9 s i tick ⟨ps,di,mo,le,wa,rs⟩ ts ws ks=if wa then⟨true,false,⟨ps,fd,4,s.cls,false,rs⟩,ts,ws,ks⟩else⟨true,false,c1.fin s.dwell true,ts,ws,ks⟩:=by
    unfold G9;dsimp only;rw [<-hf,hx];dsimp only;rw [aK,cW];dsimp only;rw [fF]
   rw [hR];rw [fF]at eI g5K ⊢;simp only [crO,B7i,B7j]at g5K eI;cases wa with
   |true=>
    simp only [B68];refine⟨_,?_,fin1⟩;simp -implicitDefEqProofs (disch:=first|omega|(simp [g]<;>fail)|assumption|(simp only [K5,E9,D8,m2,m3,m4,m8,mH,kT,o2,o3,o4,oS,hFO,B7v,B7w]<;>omega)) [g,n2,d2,f02,x2,n3,d3,f03,x3,n4,d4,f04,x4,n8,d8,f08,x8,k1,a2,a3,a4,a8,a2',a3',a4',a8',t2,t3,t4,t8,t2',t3',t4',t8',aY,cP,hn,e1,e2,e3,u1,u2,u3,u4,fX,kd,rt0,gd,d2t,d3t,d4t,tb2,tb3,tb4,Cr.fin,eI,g5K,g52,g54,kO,C4,K7,B3,j1,j2,j3,j4,j5,j6]
   |false=>
    simp only [B6p,B7d];refine⟨_,?_,fin1⟩;simp -implicitDefEqProofs (disch:=first|omega|(simp [g]<;>fail)|assumption|(simp only [K5,E9,D8,m2,m3,m4,m8,mH,kT,o2,o3,o4,oS,hFO,B7v,B7w]<;>omega)) [g,n2,d2,f02,x2,n3,d3,f03,x3,n4,d4,f04,x4,n8,d8,f08,x8,k1,a2,a3,a4,a8,a2',a3',a4',a8',t2,t3,t4,t8,t2',t3',t4',t8',aY,cP,hn,e1,e2,e3,u1,u2,u3,u4,fX,kd,rt0,gd,d2t,d3t,d4t,tb2,tb3,tb4,Cr.fin,eI,g5K,g52,g54,kO,C4,K7,B3,j1,j2,j3,j4,j5,j6]
abbrev Ahy (s:S6)(hk ck m tk n:Nat)(tick:Int):List AV:=[i64 s.floors,i64 s.gap,i64 s.cars,i64 s.capacity,i64 s.opn,i64 s.dwell,i64 s.cls,i64 s.transfer,.c (.vs 3 (s.segs.map Seg.cells)),i64 s.disp,i64 s.horizon,i64 s.bins,i64 s.width,.loc hk 0 0,.sl ck m 0 m,.sl tk n 0 n,i64 tick]
abbrev wdO (s:S6)(hk ck m tk n:Nat)(tick:Int):Obj:=⟨17,[Ahy s hk ck m tk n tick]⟩
abbrev csO (cs:List Cr):Obj:=⟨6,cs.map (A4∘Cr.cells)⟩
def G5 (s:S6)(i tick:Int)(c:Cr)(ts:List D2)(ws:List W4)(ks:List K3):InS:=
 if c.mode=0\/c.mode=1 then⟨true,false,Auj s c (L2 ws ks i 1) (L2 ws ks i (-1)),ts,ws,ks⟩
 else if c.mode=4 then⟨true,false,⟨c.pos,c.dir,if c.left-1=0 then 0 else 4,c.left-1,c.waited,c.rid⟩,ts,ws,ks⟩
 else if c.left-1=0 then G9 s i tick ⟨c.pos,c.dir,c.mode,0,c.waited,c.rid⟩ ts ws ks
 else⟨true,false,⟨c.pos,c.dir,c.mode,c.left-1,c.waited,c.rid⟩,ts,ws,ks⟩
abbrev Avp :List Nat:=[570,572,585,584,598,521,524,525,511,518]
def A2i (g:PG):Prop:=∀(s:S6)(wk hk ck tk n:Nat)(i:Nat)(tick:Int)(cs:List Cr)(c:Cr)(ts:List D2)(ws:List W4)(ks:List K3)(b:Nat) gs ob,ScG s->CrG c-> -1000000<=c.left->c.left<=1000000->U7 Avp ob->NoF Avp gs->HW hk ws ks b ob->c.rid.length<100->(∀r∈c.rid,0<=r.id/\r.id<n)->(∀w∈ws,0<=w.1/\w.1<n)->ts.length=n->n<=1000000->ws.length<=1000->ks.length<=1000->cs.length<=1000->cs[i]? =some c->
 get ob wk=some (wdO s hk ck cs.length tk n tick)->get ob ck=some (csO cs)->get ob tk=some (trO ts)->¬tk=hk->¬ck=hk->¬ck=tk->¬wk=hk->¬wk=ck->¬wk=tk->hk<1000000000->tk<1000000000->ck<1000000000->wk<1000000000->
 ∃aA,g ⟨(0,.loc wk 0 0)::(1,i64 i)::gs,ob⟩=some ([bo (G5 s i tick c ts ws ks).gone],aA)/\HW hk (G5 s i tick c ts ws ks).ws (G5 s i tick c ts ws ks).ks b aA/\Fw (S3 hk ck tk) ob aA/\get aA ck=some (csO (cs.set i (G5 s i tick c ts ws ks).c))/\get aA tk=some (trO (G5 s i tick c ts ws ks).ts)
theorem Art {cs:List Cr}{i:Nat}{c:Cr}(h:i<cs.length):(cs.set i c).map (A4∘Cr.cells)=(cs.map (A4∘Cr.cells)).take i++A4 c.cells::(cs.map (A4∘Cr.cells)).drop (i+1):=by
 rw [B8l,B6l h,B60,B8o,B6v,B86];rfl
theorem A6m {r:List D}{v:AV}(h:v∈A4 r)(k:Nat):v.names k=false:=by
 simp only [A4,B6z]at h;obtain⟨d,_,rfl⟩:=h;rfl
theorem An1 (Γ:H6)(M:Nat)(hM:200<M)(hMv:Aqs (Γ 571))(hL:Bfl (Γ.pt 518))(hSv:Bfn (Γ.pt 572)):A2i (H9 Γ M O5):=by
 rintro s wk hk ck tk n i tick cs ⟨ps,di,mo,le,wa,rs⟩ ts ws ks b gs ob hs eX lW lX hO hF hH hl dH iC hn iH lO lK fP uD gY kK aY uB yC mJ hwh uE yJ z1 z3 z4 z5;have bI:CK=900000000000000000:=rfl;have aB:KT=18446744073709551616:=G1;have g:=hF.1;have cU:=aY;have qP:=kK;have sZ:=gY;have inTk:∀{fs:List Nat},(∀fl∈fs,fl∈Avp)->M5 fs tk=false:=λ h=>(hO.mono h _ (B0 cU)).1
 have inCk:∀{fs:List Nat},(∀fl∈fs,fl∈Avp)->M5 fs ck=false:=λ h=>(hO.mono h _ (B0 qP)).1
 have inWk:∀{fs:List Nat},(∀fl∈fs,fl∈Avp)->M5 fs wk=false:=λ h=>(hO.mono h _ (B0 sZ)).1
 have inH:∀{fs:List Nat},(∀fl∈fs,fl∈Avp)->M5 fs hk=false:=λ h=>(hO.mono h).hallW hH
 obtain⟨dN,tA⟩:=B6n.1 uD;dsimp only at lW lX hl dH;have n5:=hO.nm (k:=570005) (by decide)
 have d5:=hO.del (k:=570005) (by decide)
 have f5:=hF.nm (k:=570005) (by decide)
 have x5:=hO.none (k:=570005) (by decide)
 have n7:=hO.nm (k:=570007) (by decide)
 have d7:=hO.del (k:=570007) (by decide)
 have f7:=hF.nm (k:=570007) (by decide)
 have x7:=hO.none (k:=570007) (by decide)
 have k1:=hO.kf (f:=570) (by decide)
 have a5:=R8 (hO.hallW hH) (k:=570005) (by decide)
 have a7:=R8 (hO.hallW hH) (k:=570007) (by decide)
 have t5:=A3 hO cU (k:=570005) (by decide)
 have t7:=A3 hO cU (k:=570007) (by decide)
 have c5:=A3 hO qP (k:=570005) (by decide)
 have c7:=A3 hO qP (k:=570007) (by decide)
 have w5:=A3 hO sZ (k:=570005) (by decide)
 have w7:=A3 hO sZ (k:=570007) (by decide)
 have a5':=B6i a5;have a7':=B6i a7;have t5':=B6i t5;have t7':=B6i t7;have c5':=B6i c5;have c7':=B6i c7;have w5':=B6i w5;have w7':=B6i w7;have cb5:(570005==ck)=false:=by simp [c5']
 have cb7:(570007==ck)=false:=by simp [c7']
 have wb5:(wk==ck)=false:=by simp [uE]
 obtain⟨ho,cP⟩:=hH.some;have rc0:ck%18446744073709551616<570000\/571000<=ck%18446744073709551616:=U7.rng (f:=570) (hO.mono (by decide)) qP
 have kd:=Y6 (k:=ck) k1;have d5c:del (del ob ck) 570005=del ob ck:=by rw [L5,d5]
 have wQ:=B6i uE;have hwl2:cs.length<=cs.length:=B6u _;have aM:(cs.map (A4∘Cr.cells))[i]? =some [i64 ps,i64 di,i64 mo,i64 le,bo wa,.c (.vs 2 (rs.map Rd.cells))]:=by
  rw [B7m,uD];rfl
 have smC:∀(x:Cr),SmR (crO x).rows:=λ x=>Auo (by simp)
 have eLd:∀fl,fl∈[518]->fl∈Avp:=by decide
 have zC:∀(d:Int) bJ,NoF [518] bJ->Γ.pt 518 ⟨(0,.loc hk 0 0)::(1,i64 i)::(2,i64 d)::bJ,(570005,⟨6,[[i64 ps,i64 di,i64 mo,i64 le,bo wa,.c (.vs 2 (rs.map Rd.cells))]]⟩)::ob⟩=some ([E0 (L2 ws ks i d)],(570005,⟨6,[[i64 ps,i64 di,i64 mo,i64 le,bo wa,.c (.vs 2 (rs.map Rd.cells))]]⟩)::ob):=λ d bJ hg=>
  hL hk ws ks b i d bJ _ (hH.up (Y8 a5' (by decide) (smC ⟨ps,di,mo,le,wa,rs⟩))) lO lK (L3 (by decide) (Abl (by simp [E9])) (hO.mono eLd)) hg
 obtain⟨pU,sX⟩:∃p,p=L2 ws ks i 1:=⟨_,rfl⟩;obtain⟨pD,sY⟩:∃p,p=L2 ws ks i (-1):=⟨_,rfl⟩;have u1:=zC 1;have u2:=zC (-1);rw [<-sX]at u1;rw [<-sY]at u2;have e1:=hMv s ⟨ps,di,mo,le,wa,rs⟩ pU pD hs eX;obtain⟨cm,gL⟩:∃x,x=Auj s ⟨ps,di,mo,le,wa,rs⟩ pU pD:=⟨_,rfl⟩;rw [<-gL]at e1;simp only [E0,Q7,Cr.cells,S6.cells]at e1 u1 u2;have kT:=(hF.mono eLd).gho;have mH:∀o,NmS [518] (.loc hk 0 o):=λ o=>D3 _ _ _ _ (inH eLd)
 have mW:∀o,NmS [518] (.loc wk 0 o):=λ o=>D3 _ _ _ _ (inWk eLd)
 have m5:∀o,NmS [518] (.loc 570005 0 o):=λ o=>D3 _ _ _ _ (by decide)
 have fin0:∀c':Cr,HW hk ws ks b ((ck,csO (cs.set i c'))::del ob ck)/\Fw (S3 hk ck tk) ob ((ck,csO (cs.set i c'))::del ob ck)/\get ((ck,csO (cs.set i c'))::del ob ck) ck=some (csO (cs.set i c'))/\get ((ck,csO (cs.set i c'))::del ob ck) tk=some (trO ts):=λ c'=>by
  refine⟨hH.up (A0w yC (Bdd z4) λ k _=>A5.2 λ r hr v hv=> ?_),A0x qP (.inr (.inl rfl)) λ r hr v hv j hj=> ?_,by simp,?_⟩
  ·obtain⟨u,_,rfl⟩:=B6z.1 hr;exact A6m hv k
  ·obtain⟨u,_,rfl⟩:=B6z.1 hr;rw [A6m hv j]at hj;simp at hj
  ·simp only [Am.get];rw [B6j mJ,B3,B6j (B6i mJ)];exact cU
 simp only [wdO]at gY;simp only [csO]at kK;by_cases cC:mo=0\/mo=1
 ·have hR:G5 s i tick ⟨ps,di,mo,le,wa,rs⟩ ts ws ks=⟨true,false,cm,ts,ws,ks⟩:=by
   unfold G5;dsimp only;rw [B6l cC,<-sX,<-sY,<-gL]
  rw [hR];refine⟨_,?_,fin0 cm⟩;obtain⟨p',d',m',l',w',uM⟩:=cm;rw [csO,Art dN];rcases cC with hm|hm<;>subst hm
  ·simp -implicitDefEqProofs (disch:=first|omega|(simp [g]<;>fail)|assumption|(simp only [K5,E9,D8,m5,mH,mW,kT,B7v,B7w]<;>omega)) [g,n5,d5,f5,x5,k1,a5,a5',t5,t5',c5,c5',w5,w5',gY,kK,aY,cP,hn,e1,u1,u2,aM,cb5,wb5,uE,wQ,rc0,kd,d5c,dN]
  ·simp -implicitDefEqProofs (disch:=first|omega|(simp [g]<;>fail)|assumption|(simp only [K5,E9,D8,m5,mH,mW,kT,B7v,B7w]<;>omega)) [g,n5,d5,f5,x5,k1,a5,a5',t5,t5',c5,c5',w5,w5',gY,kK,aY,cP,hn,e1,u1,u2,aM,cb5,wb5,uE,wQ,rc0,kd,d5c,dN]
 have pO:¬mo=0:=λ h=>cC (.inl h)
 have dV:¬mo=1:=λ h=>cC (.inr h)
 by_cases xS:mo=4
 ·have hR:G5 s i tick ⟨ps,di,mo,le,wa,rs⟩ ts ws ks=⟨true,false,⟨ps,di,if le-1=0 then 0 else 4,le-1,wa,rs⟩,ts,ws,ks⟩:=by
   unfold G5;dsimp only;rw [B6j cC,B6l xS]
  rw [hR];refine⟨_,?_,fin0 _⟩;rw [csO,Art dN];subst xS;by_cases hz:le-1=0
  ·simp -implicitDefEqProofs (disch:=first|omega|(simp [g]<;>fail)|assumption|(simp only [K5,E9,D8,m5,mH,mW,kT,B7v,B7w]<;>omega)) [g,n5,d5,f5,x5,k1,a5,a5',t5,t5',c5,c5',w5,w5',gY,kK,aY,cP,hn,e1,u1,u2,aM,cb5,wb5,uE,wQ,rc0,kd,d5c,dN,hz]
  ·simp -implicitDefEqProofs (disch:=first|omega|(simp [g]<;>fail)|assumption|(simp only [K5,E9,D8,m5,mH,mW,kT,B7v,B7w]<;>omega)) [g,n5,d5,f5,x5,k1,a5,a5',t5,t5',c5,c5',w5,w5',gY,kK,aY,cP,hn,e1,u1,u2,aM,cb5,wb5,uE,wQ,rc0,kd,d5c,dN,hz]
 by_cases dP:le-1=0
 ·have eSv:∀fl,fl∈Atu->fl∈Avp:=by decide
  obtain⟨L1,gP⟩:∃L:OL,L=[(570007,⟨17,[I4 s hk tk n i tick]⟩),(570005,crO ⟨ps,di,mo,0,wa,rs⟩)]:=⟨_,rfl⟩;have sm2:SmR [I4 s hk tk n i tick]:=Auo (by
   simp only [I4,B8x,B7a,B9d,B9k,B7v,Aa6,K2,X5,B8d,B7w];exact⟨λ k h=>by omega,λ k h=>by omega⟩)
  have hH5:HW hk ws ks b (L1++ob):=by
   rw [gP];exact(hH.up (Y8 a5' (by decide) (smC ⟨ps,di,mo,0,wa,rs⟩))).up (Y8 a7' (by decide) sm2)
  have noS:U7 Atu (L1++ob):=by
   rw [gP];exact L3 (by decide) (Abl (Ahx s n i tick (inH eSv) (inTk eSv))) (L3 (by decide) (Abl (by simp [E9])) (hO.mono eSv))
  have nfS:NoF Atu ((100044,.agg (Cr.cells ⟨ps,di,mo,0,wa,rs⟩))::(100043,Aun s hk tk n i tick)::(100000,.loc wk 0 0)::(100001,i64 i)::(100005,.loc 570005 0 0)::(100007,.loc 570007 0 0)::gho gs):=by
   have q1:∀o,NmS Atu (.loc wk 0 o):=λ o=>D3 _ _ _ _ (inWk eSv)
   have q2:∀o,NmS Atu (.loc 570005 0 o):=λ o=>D3 _ _ _ _ (by decide)
   have q3:∀o,NmS Atu (.loc 570007 0 o):=λ o=>D3 _ _ _ _ (by decide)
   have qS:=Al9 s n i tick (inH eSv) (inTk eSv);simp only [K5,E9,D8,q1,q2,q3,qS,(hF.mono eSv).gho,B7v,B7w];omega
  have gLt:get (L1++ob) tk=some (trO ts):=by rw [gP];simp [t5',t7',aY]
  obtain⟨ob5,eS,uC,w6,g6t⟩:=hSv s hk tk n i tick ⟨ps,di,mo,0,wa,rs⟩ ts ws ks b _ (L1++ob) hs ⟨eX.pos,eX.dir,eX.rid⟩ noS nfS hH5 hl dH iC hn iH lO lK gLt uB z1 z3;have hR:G5 s i tick ⟨ps,di,mo,le,wa,rs⟩ ts ws ks=G9 s i tick ⟨ps,di,mo,0,wa,rs⟩ ts ws ks:=by
   unfold G5;dsimp only;rw [B6j cC,B6j xS,B6l dP]
  rw [hR];obtain⟨r,hr⟩:∃r,r=G9 s i tick ⟨ps,di,mo,0,wa,rs⟩ ts ws ks:=⟨_,rfl⟩;rw [<-hr]at eS uC g6t ⊢;obtain⟨ok,gone,c',bP,bF,bE⟩:=r;dsimp only at eS uC g6t ⊢;have frK:∀k,k<1000000000->¬k=hk->¬k=tk->get ob5 k=get (L1++ob) k:=λ k h1 h2 h3=>w6.fr k (A7l h1) (by unfold S2;simp [h2,h3])
  have g55:get ob5 570005=some ⟨6,[[i64 ps,i64 di,i64 mo,i64 0,bo wa,.c (.vs 2 (rs.map Rd.cells))]]⟩:=by
   rw [frK 570005 (by omega) a5' t5',gP];simp [crO]
  have g57:get ob5 570007=some ⟨17,[I4 s hk tk n i tick]⟩:=by
   rw [frK 570007 (by omega) a7' t7',gP];simp
  have g5c:get ob5 ck=some ⟨6,cs.map (A4∘Cr.cells)⟩:=by
   rw [frK ck z4 yC mJ,gP];simp [c5',c7',kK]
  have g5w:get ob5 wk=some ⟨17,[Ahy s hk ck cs.length tk n tick]⟩:=by
   rw [frK wk z5 hwh yJ,gP];simp [w5',w7',gY]
  obtain⟨ho5,g5h⟩:=uC.some;have rw0:wk%18446744073709551616<570000\/571000<=wk%18446744073709551616:=U7.rng (f:=570) (hO.mono (by decide)) sZ
  have kO:A1 570000 571000 [570005,570007] ob5=ob5:=Ahd λ p hp=>by
   rcases B7f (p.1%KT) 570000 with q|q
   ·exact .inl q
   rcases B7f (p.1%KT) 571000 with q2|q2
   ·by_cases e5:p.1=570005
    ·rw [e5];exact .inr (.inr (by simp))
    by_cases e7:p.1=570007
    ·rw [e7];exact .inr (.inr (by simp))
    have h7:p.1%KT/1000=570:=by omega
    have rV:M5 Avp p.1=true:=by simp only [M5,h7];decide
    have hnh:¬S2 hk tk p.1:=by
     rintro(h|h)
     ·rw [h,inH λ _ h=>h]at rV;simp at rV
     ·rw [h,inTk λ _ h=>h]at rV;simp at rV
    refine absurd ?_ (Aje hp);rw [w6.fr p.1 (by unfold Sm;omega) hnh,gP]
    simp only [B7i,B7j,Am.get];rw [B6j (B6i e7),B6j (B6i e5)];exact hO.none rV
   ·exact .inr (.inl q2)
  have dQ:hk%KT<1000*570\/1000*570+1000<=hk%KT:=Am6 (f:=570) (inH (by decide))
  have rt0:tk%18446744073709551616<570000\/571000<=tk%18446744073709551616:=U7.rng (f:=570) (hO.mono (by decide)) cU
  have w7k:Fw (S2 hk tk) ob (A1 570000 571000 [] ob5):=by
   refine(Fw.drop (f:=570) (L:=L1) w6 (hO.mono (by decide)) (by omega) ?_ ?_ (by simp) ?_).1
   ·rw [gP];simp
   ·rw [gP];simp only [B8x,B7a,B9d,B9k,B7v,I4,crO,Aa6,K2,X5,Alz,B6p,B7w,B62];exact⟨λ j h=>by rw [<-h];exact⟨.inl rfl,by rw [cP];simp⟩,λ j h=>by rw [<-h];exact⟨.inr rfl,by rw [cU];simp⟩⟩
   ·rintro k (rfl|rfl)
    ·exact inH (by decide)
    ·exact inTk (by decide)
  have g7c:get (A1 570000 571000 [] ob5) ck=some (csO cs):=by
   rw [C4,B6l (show ck%KT<570000\/571000<=ck%KT\/_ from rc0.imp id .inl)];exact g5c
  have fin1:HW hk bF bE b ((ck,csO (cs.set i c'))::del (A1 570000 571000 [] ob5) ck)/\Fw (S3 hk ck tk) ob ((ck,csO (cs.set i c'))::del (A1 570000 571000 [] ob5) ck)/\get ((ck,csO (cs.set i c'))::del (A1 570000 571000 [] ob5) ck) ck=some (csO (cs.set i c'))/\get ((ck,csO (cs.set i c'))::del (A1 570000 571000 [] ob5) ck) tk=some (trO bP):=by
   refine⟨(uC.keep dQ (by omega)).up (A0w yC (Bdd z4) λ k _=>A5.2 λ r hr v hv=> ?_),(w7k.mono λ k h=>h.imp id .inr).trans (A0x g7c (.inr (.inl rfl)) λ r hr v hv j hj=> ?_),by simp,?_⟩
   ·obtain⟨u,_,rfl⟩:=B6z.1 hr;exact A6m hv k
   ·obtain⟨u,_,rfl⟩:=B6z.1 hr;rw [A6m hv j]at hj;simp at hj
   ·simp only [Am.get];rw [B6j mJ,B3,B6j (B6i mJ),C4,B6l (show tk%KT<570000\/571000<=tk%KT\/_ from rt0.imp id .inl)];exact g6t
  have j1:=K6 (lo:=570000) (hi:=571000) (os:=[570005]) (os':=[570005,570007]) (by simp)
  have j2:=K6 (lo:=570000) (hi:=571000) (os:=[570005]) (os':=[570005]) (by simp)
  have j3:=K6 (lo:=570000) (hi:=571000) (os:=[]) (os':=[570005]) (by simp)
  have j5:del (A1 570000 571000 [] ob5) 570005=A1 570000 571000 [] ob5:=D1 _ _ (by rw [C4,B6j (by rw [aB];simp)])
  refine⟨_,?_,fin1⟩;rw [csO,Art dN];obtain⟨p',d',m',l',w',uM⟩:=c';rw [gP]at eS;simp only [crO,Cr.cells,B7i,B7j]at eS;simp -implicitDefEqProofs (disch:=first|omega|(simp [g]<;>fail)|assumption|(simp only [K5,E9,D8,m5,mH,mW,kT,B7v,B7w]<;>omega)) [g,n5,d5,f5,x5,k1,a5,a5',t5,t5',c5,c5',w5,w5',gY,kK,aY,cP,hn,e1,u1,u2,aM,cb5,wb5,uE,wQ,rc0,kd,d5c,dN,pO,dV,xS,dP,n7,d7,f7,x7,a7,a7',t7,t7',c7,c7',w7,w7',eS,g55,g57,g5c,g5w,g5h,kO,C4,K7,B3,j1,j2,j3,j5,rw0,B69,B7e,C0,cb7];have j4:=K6 (lo:=570000) (hi:=571000) (os:=[]) (os':=[]) (by simp)
  rw [j4,j4]
 ·have hR:G5 s i tick ⟨ps,di,mo,le,wa,rs⟩ ts ws ks=⟨true,false,⟨ps,di,mo,le-1,wa,rs⟩,ts,ws,ks⟩:=by
   unfold G5;dsimp only;rw [B6j cC,B6j xS,B6j dP]
  rw [hR];refine⟨_,?_,fin0 _⟩;rw [csO,Art dN];simp -implicitDefEqProofs (disch:=first|omega|(simp [g]<;>fail)|assumption|(simp only [K5,E9,D8,m5,mH,mW,kT,B7v,B7w]<;>omega)) [g,n5,d5,f5,x5,k1,a5,a5',t5,t5',c5,c5',w5,w5',gY,kK,aY,cP,hn,e1,u1,u2,aM,cb5,wb5,uE,wQ,rc0,kd,d5c,dN,pO,dV,xS,dP]
end Go.Am
