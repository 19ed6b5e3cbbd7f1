import Derived.Test.YtgnjaophoffbbaaGreatCb
import Derived.Test.YtgnjaophoffbbaaGreatFa
import Derived.Test.YtgnjaophoffbbaaGreatCd
set_option maxHeartbeats 4000000
set_option maxRecDepth 20000
set_option linter.unusedVariables false
set_option linter.unusedSimpArgs false
set_option linter.unnecessarySimpa false
namespace Go.Am
theorem Aet (fs:List Nat)(j a b:Nat):M5 fs j=false->NmS fs (.loc j a b):=D3 fs j a b
theorem Aeu (fs:List Nat):NoF fs []↔True:=⟨λ _=>trivial,λ _=>⟨Brw,λ p hp=>by simp at hp⟩⟩
theorem Afx {fs:List Nat}{k:Nat}{o:Obj}{ob:OL}:U7 fs ((k,o)::ob)↔M5 fs k=false/\(∀r∈o.rows,∀v∈r,NmS fs v)/\U7 fs ob:=by
 rw [Ae0];refine and_congr_right λ _=>and_congr_left λ _=>⟨λ h r hr v hv j hj=>A5.1 (h j hj) r hr v hv,λ h j hj=>A5.2 λ r hr v hv=>h r hr v hv j hj⟩
theorem Agv (fs:List Nat):U7 fs []↔True:=⟨λ _=>trivial,λ _=>Bwj fs⟩
theorem Auu (fs:List Nat)(j a b c:Nat):M5 fs j=false->NmS fs (.sl j a b c):=Bs6 fs j a b c
theorem Ana {α:Type}{f:α->List D}{l:List α}{fs:List Nat}:(∀r∈l.map (A4∘f),∀v∈r,NmS fs v)↔True:=⟨λ _=>trivial,λ _ r hr v hv=>by
 obtain⟨a,_,rfl⟩:=B6z.1 hr;simp only [Function.comp,A4,B6z]at hv;obtain⟨d,_,rfl⟩:=hv;exact E9 _ _⟩
theorem A6o {hk:Nat}{ws:List W4}{ks:List K3}{b k0:Nat}{o:Obj}{ob:OL}(h:HW hk ws ks b ob)(h1:k0≠hk)(h2:k0<900000000000000000)(h3:SmR o.rows):HW hk ws ks b ((k0,o)::ob):=h.up (Y8 h1 h2 h3)
theorem B2s {r:List AV}:(∀v∈r,∀k,CK<=k->v.names k=false)->SmR [r]:=Auo
theorem Bhj {α:Type}{f:α->List D}{l:List α}:SmR (l.map (A4∘f)):=λ k hk=>A5.2 λ r hr v hv=>by
 obtain⟨a,_,rfl⟩:=B6z.1 hr;simp only [Function.comp,A4,B6z]at hv;obtain⟨d,_,rfl⟩:=hv;rfl
theorem Btb {α:Type}{f:α->List D}{l:List α}(j:Nat):B5 j (l.map (A4∘f))=true:=A5.2 λ r hr v hv=>by
 obtain⟨a,_,rfl⟩:=B6z.1 hr;simp only [Function.comp,A4,B6z]at hv;obtain⟨d,_,rfl⟩:=hv;rfl
open Go.RowKit
instance (k :Nat):Decidable (Sm k):=by unfold Sm;infer_instance
def M2 (hk k:Nat):Bool:=decide (k=hk)|| !decide (Sm k)
structure HX (hk:Nat)(ws:List W4)(ks:List K3)(b:Nat)(H:OL):Prop where
 w:HW hk ws ks b H
 c:∀k,Sm k->k≠hk->get H k=none/\B8 k H=true
theorem A7o {hk:Nat}{ws:List W4}{ks:List K3}{b:Nat}{ob:OL}(h:HW hk ws ks b ob):∃o,get ob hk=some o/\o.rows≠[]:=by
 obtain⟨wm,cm,qs,cs,n,c,came,hH,_⟩:=h;exact⟨_,hH.hall,by simp⟩
theorem HX.key {hk:Nat}{ws:List W4}{ks:List K3}{b:Nat}{H:OL}(h:HX hk ws ks b H){p:Nat×Obj}(hp:p∈H):M2 hk p.1=true:=by
 unfold M2;by_cases h1:p.1=hk
 ·simp [h1]
 ·by_cases h2:Sm p.1
  ·have:=(h.c p.1 h2 h1).1;exact absurd this (Aje hp)
  ·simp [h2]
theorem HX.no {hk:Nat}{ws:List W4}{ks:List K3}{b:Nat}{H:OL}(h:HX hk ws ks b H){fs:List Nat}(hf:∀f∈fs,f<1000000)(hh:M5 fs hk=false):U7 fs H:=λ p hp=>by
 have aB:KT=18446744073709551616:=G1;have sm:∀k,M5 fs k=true->Sm k:=λ k hk=>by
  grind [M5,Sm]
 have ne:∀k,M5 fs k=true->k≠hk:=λ k hk e=>by rw [e,hh]at hk;simp at hk
 refine⟨?_,λ r hr v hv k hk=>A5.1 (C8.1 (h.c k (sm k hk) (ne k hk)).2 p hp) r hr v hv⟩
 cases hx:M5 fs p.1 with
 |false=>rfl
 |true=>exact absurd (h.c p.1 (sm _ hx) (ne _ hx)).1 (Aje hp)
theorem HX.next {hk:Nat}{ws bF:List W4}{ks bE:List K3}{b b':Nat}{H H':OL}(h:HX hk ws ks b H)(hw:HW hk bF bE b' H')(hf:Fm hk H H'):HX hk bF bE b' H':=
 ⟨hw,λ k h1 h2=>⟨by rw [hf.fr k h1 h2];exact(h.c k h1 h2).1,hf.nm k h1 h2 (h.c k h1 h2).2⟩⟩
def inP (hk:Nat)(ob:OL):OL:=ob.filter λ p=>M2 hk p.1
def Afi (hk:Nat)(ob:OL):OL:=ob.filter λ p=> !M2 hk p.1
theorem Bhk (hk:Nat):inP hk []=[]:=rfl
theorem Aqy (hk:Nat):Afi hk []=[]:=rfl
theorem Bqq {hk k:Nat}{o:Obj}{ob:OL}(h:M2 hk k=false):inP hk ((k,o)::ob)=inP hk ob:=by unfold inP;rw [B8b (by simp [h])]
theorem As2 {hk k:Nat}{o:Obj}{ob:OL}(h:M2 hk k=false):Afi hk ((k,o)::ob)=(k,o)::Afi hk ob:=by unfold Afi;rw [B8j (by simp [h])]
theorem B2t {hk:Nat}{ws:List W4}{ks:List K3}{b:Nat}{H L:OL}(h:HX hk ws ks b H):inP hk (H++L)=H++inP hk L:=by
 unfold inP;rw [B8i,B8r.2 λ p hp=>h.key hp]
theorem B0i {hk:Nat}{ws:List W4}{ks:List K3}{b:Nat}{H L:OL}(h:HX hk ws ks b H):Afi hk (H++L)=Afi hk L:=by
 unfold Afi;rw [B8i,B8g.2 λ p hp=>by simp [h.key hp],B7j]
theorem B2u {hk k:Nat}{ws:List W4}{ks:List K3}{b:Nat}{H L:OL}(h:HX hk ws ks b H)(h1:M2 hk k=false):get (H++L) k=get L k:=by
 simp only [M2,Bool.or_eq_false_iff,B7k,Bool.not_eq_false',B6o]at h1;rw [E5,(h.c k h1.2 h1.1).1]
theorem B0j {hk k:Nat}{ws:List W4}{ks:List K3}{b:Nat}{H L:OL}(h:HX hk ws ks b H)(h1:M2 hk k=false):B8 k (H++L)=B8 k L:=by
 simp only [M2,Bool.or_eq_false_iff,B7k,Bool.not_eq_false',B6o]at h1;have h2:=(h.c k h1.2 h1.1).2;cases hx:B8 k L with
 |true=>exact Aqv h2 hx
 |false=>
  cases hy:B8 k (H++L)with
  |false=>rfl
  |true=>
   have:B8 k L=true:=C8.2 λ p hp=>C8.1 hy p (B9l _ hp)
   rw [hx]at this;simp at this
theorem As3 (lo hi:Nat)(os:List Nat):∀A L:OL,A1 lo hi os (A++L)=A1 lo hi os A++A1 lo hi os L
 |[],L=>rfl
 |(j,o)::A,L=>by
  simp only [B7i,A1];split
  ·rw [B7i,As3 lo hi os A L]
  ·exact As3 lo hi os A L
theorem Bw3 {hk lo hi:Nat}{os:List Nat}{ws:List W4}{ks:List K3}{b:Nat}{H L:OL}(h:HX hk ws ks b H)(h1:hi<=1000000000)(h2:hk%KT<lo\/hi<=hk%KT\/hk∈os):A1 lo hi os (H++L)=H++A1 lo hi os L:=by
 rw [As3,Ahd λ p hp=> ?_]
 have:=h.key hp;grind [M2,Sm]
def hA (vs:List AV)(ob:OL):List Nat×List Nat×List (Nat×Nat):=match vs with
 | .loc k _ _::_=>((Abn ob).filter λ j=>M2 k j,[k],[])
 |_=>([],[],[])
def Aox (q:St->Nat->Bool)(S:PG)(s:St):Option (List AV×OL):=
 (S s).map λ p=>(p.1,p.2.filter (λ x=> !q s x.1)++p.2.filter λ x=>q s x.1)
theorem Bqr (q:Nat->Bool)(ob:OL)(k:Nat):get (ob.filter (λ x=> !q x.1)++ob.filter λ x=>q x.1) k=get ob k:=by
 have h1:∀ob:OL,get (ob.filter λ x=>q x.1) k=if q k=true then get ob k else none:=λ ob=>by
  induction ob with
  |nil=>simp [Go.Am.get]
  |cons p ob ih=>
   grind [List.filter_cons_of_pos,Go.Am.get,List.filter_cons_of_neg]
 have h2:∀ob:OL,get (ob.filter λ x=> !q x.1) k=if q k=true then none else get ob k:=λ ob=>by
  induction ob with
  |nil=>simp [Go.Am.get]
  |cons p ob ih=>
   grind [List.filter_cons_of_neg,Go.Am.get,List.filter_cons_of_pos]
 grind [E5,get]
theorem Bar {B:Bd}{F:A8}{ρ:Map}{ob aA:OL}{w:World}(h:T0 B F ρ ob w)(hg:∀k,get aA k=get ob k):T0 B F ρ aA w:=by
 have h2:∀{x:AV}{v:Value},AR F ρ ob x v->AR F ρ aA x v:=λ ha=>ha.sub λ k o hk=>by rw [<-hg];exact hk
 refine⟨h.facts,h.big,λ k o a=>h.bare k o (by rw [<-hg];exact a),λ k o p a c=> ?_,λ k o p a=>h.apart k o p (by rw [<-hg];exact a),λ k o p k' o' p' a c d e=>h.inj k o p k' o' p' (by rw [<-hg];exact a) c (by rw [<-hg];exact d) e⟩
 obtain⟨g1,g2⟩:=h.own k o p (by rw [<-hg];exact a) c
 exact⟨g1,g2.imp λ r hr x hx v hv=>h2 hv⟩
theorem As4 {P:Program}{f:FuncId}{q:St->Nat->Bool}{S:PG}(h:D9 P f S):D9 P f (Aox q S):=by
 intro γ B F ρ fr ob w us rs aA aF cM hm hf hS;unfold Aox at hS;simp only [B6m,B6k]at hS;obtain⟨⟨rs0,bL⟩,aJ,rfl,rfl⟩:=hS;refine(h γ B F ρ fr ob w us rs0 bL aF cM hm hf aJ).mono ?_;rintro e w' ⟨qs,rfl,F',ρ',cJ,hg,hr,hx⟩;have wU:=Bqr (q ⟨fr,ob⟩) bL;have h2:∀{x:AV}{v:Value},AR F' ρ' bL x v->AR F' ρ' (bL.filter (λ x=> !q ⟨fr,ob⟩ x.1)++bL.filter λ x=>q ⟨fr,ob⟩ x.1) x v:=λ ha=>ha.sub λ k o hk=>by rw [<-wU];exact hk
 exact⟨qs,rfl,F',ρ',Bar cJ wU,λ i v hi hv=>h2 (hg i v hi hv),hr.imp λ _ _ h=>h2 h,hx⟩
def hQ (s:St)(k:Nat):Bool:=match get s.fr 0 with
 |some (.loc hk _ _)=>M2 hk k
 |_=>false
noncomputable def U6 (n:Nat)(S:PG):PG:=Aox hQ (Amc n hA S)
theorem Ame {P:Program}{f:FuncId}{n:Nat}{S:PG}(h:D9 P f S):D9 P f (U6 n S):=As4 (Ahe h)
theorem Ai6 {n:Nat}{S:PG}:Aut (U6 n S):=by
 intro s rs ob R hR hs;unfold U6 Aox at hs ⊢;simp only [B6m]at hs ⊢;obtain⟨⟨rs0,bL⟩,h1,h2⟩:=hs;have hq:hQ ⟨E1 R s.fr,s.ob⟩=hQ s:=by
  grind [hQ,E7,GB]
 exact⟨(rs0,bL),Aer s rs0 bL R hR h1,by rw [hq];exact h2⟩
theorem D4 {ob:OL}{p:Nat×Obj}(h:p∈ob):p.1∈Abn ob:=B6z.2 ⟨p,h,rfl⟩
theorem Btc {hk:Nat}{ob:OL}:inK ((Abn ob).filter λ j=>M2 hk j) ob=inP hk ob:=by
 unfold inK inP;refine B80 λ p hp=> ?_
 simp [B63,B7c,D4 hp]
theorem Bw4 {hk:Nat}{ob:OL}:Afh ((Abn ob).filter λ j=>M2 hk j) ob=Afi hk ob:=by
 unfold Afh Afi;refine B80 λ p hp=> ?_
 simp [B63,B7c,D4 hp]
def Anb (hk:Nat)(x:AV):Prop:=x.all1 λ y=>(∀k,y.names1 k=true->M2 hk k=true->∃r f,y= .loc hk r f)
def Auv (hk:Nat)(gs:FL):Prop:=∀p∈gs,Anb hk p.2
def Ai7 (hk:Nat)(ob:OL):Prop:=∀p∈Afi hk ob,∀r∈p.2.rows,∀x∈r,Anb hk x
theorem Bas {hk:Nat}{K:List Nat}(hK:∀k∈K,M2 hk k=true){x:AV}(h:Anb hk x):Aow K ([hk],[]) x=true:=by
 have key:∀y:AV,(∀k,y.names1 k=true->M2 hk k=true->∃r f,y= .loc hk r f)->Aov K ([hk],[]) y=true:=λ y hy=>by
  cases y<;>simp only [Aov,B7n,B7b,B63,B7k,B6o,B6x,B7a,or_false]
  all_goals grind [AV.names1]
 cases x
 case tup vs=>simp only [Aow,B6q];exact λ y hy=>key y (h y hy)
 case ags vs=>simp only [Aow,B6q];exact λ y hy=>key y (h y hy)
 case clo g vs=>simp only [Aow,B6q];exact λ y hy=>key y (h y hy)
 all_goals exact key _ h
theorem B0k {n:Nat}{S:PG}{fr:FL}{ob H H':OL}{hk b:Nat}{ws:List W4}{ks:List K3}{vs rs:List AV}(hX:HX hk ws ks b H)(hH:inP hk ob=H)(hK:hk<CK)(hn:n<GB)(h0:get fr n=none)(h1:Aap fr 0 n=some (.loc hk 0 0::vs))
  (hS:S ⟨X6 0 (.loc hk 0 0::vs)++[(GB,.loc hk 0 0)],H⟩=some (rs,H'))(bC:∃bF bE b',HX hk bF bE b' H')(iK:∀v∈rs,v.dat=true)(aL:∀o o',get H hk=some o->get H' hk=some o'->o.sz=o'.sz)
  (dU:Auv hk fr)(aD:Ai7 hk ob)(bT:∀p∈Afi hk ob,Sm p.1):U6 n S ⟨fr,ob⟩=some (rs,Afi hk ob++H'):=by
 obtain⟨bF,bE,b',bC⟩:=bC;have vU:M2 hk hk=true:=by simp [M2]
 have hm:=Avb (n:=n) (A:=hA) (S:=S) (s:=⟨fr,ob⟩) (vs:= .loc hk 0 0::vs) (rs:=rs) (aU:=H') hn h0 h1 ?_ ?_
 ·simp only [hA]at hm;rw [Bw4]at hm;unfold U6 Aox;rw [hm];have hq:hQ ⟨fr,ob⟩=M2 hk:=by
   have:=(Aaq h1).2 0 (by have:=(Aaq h1).1;simp at this;omega)
   funext k;unfold hQ;rw [show get fr 0=some (.loc hk 0 0) by simpa using this]
  simp only [B7h,hq,B8i];have a1:H'.filter (λ x=> !M2 hk x.1)=[]:=B8g.2 λ p hp=>by simp [bC.key hp]
  have a2:H'.filter (λ x=>M2 hk x.1)=H':=B8r.2 λ p hp=>bC.key hp
  have a3:(Afi hk ob).filter (λ x=> !M2 hk x.1)=Afi hk ob:=B8r.2 λ p hp=>(B7c.1 hp).2
  have a4:(Afi hk ob).filter (λ x=>M2 hk x.1)=[]:=B8g.2 λ p hp=>by have:=(B7c.1 hp).2;simpa using this
  rw [a1,a2,a3,a4,B7j,B71]
 ·simp only [hA];rw [Btc,hH];exact hS
 ·simp only [hA];have cZ:∀k,k∈((Abn ob).filter λ j=>M2 hk j)↔k∈Abn ob/\M2 hk k=true:=λ k=>by rw [B7c]
  have zM:∀k,M2 hk k=true->get ob k=get H k:=λ k aN=>by
   rw [<-hH,<-Btc,Ayi];split
   ·rfl
   ·rename_i hn;cases hg:get ob k with
    |none=>rfl
    |some o=>exact absurd ((cZ k).2 ⟨D4 (B0 hg),aN⟩) hn
  have jS:∀q∈ob,q.1∉((Abn ob).filter λ j=>M2 hk j)->q∈Afi hk ob/\M2 hk q.1=false:=λ q hq hn=>by
   have:M2 hk q.1=false:=by
    cases hx:M2 hk q.1 with
    |false=>rfl
    |true=>exact absurd ((cZ _).2 ⟨D4 hq,hx⟩) hn
   exact⟨B7c.2 ⟨hq,by simp [this]⟩,this⟩
  have nmH:∀{x:AV}{k:Nat},Anb hk x->M2 hk k=true->k∉((Abn ob).filter λ j=>M2 hk j)->x.names k=false:=λ {x k} hx bG cG=>by
   have gC:get H hk≠none:=by obtain⟨o,ho⟩:=hX.w.some;rw [ho];simp
   have aH:k≠hk:=by
    rintro rfl;refine cG ((cZ _).2 ⟨?_,vU⟩);cases hg:get ob k with
    |none=>rw [zM k vU]at hg;exact absurd hg gC
    |some o=>exact D4 (B0 hg)
   have key:∀y:AV,(∀k,y.names1 k=true->M2 hk k=true->∃r f,y= .loc hk r f)->y.names1 k=false:=λ y hy=>by
    cases hz:y.names1 k with
    |false=>rfl
    |true=>
     obtain⟨r,f,e⟩:=hy k hz bG;rw [e]at hz;simp only [AV.names1,B62]at hz;exact absurd hz.symm aH
   cases x
   case tup vs=>simp only [AV.names,B7p];exact λ y hy=>by rw [key y (hx y hy)];simp
   case ags vs=>simp only [AV.names,B7p];exact λ y hy=>by rw [key y (hx y hy)];simp
   case clo g vs=>simp only [AV.names,B7p];exact λ y hy=>by rw [key y (hx y hy)];simp
   all_goals exact key _ hx
  refine⟨λ k cG=> ?_,λ p hp=>absurd hp (by simp),λ p hp hq=>Bas (λ k aN=>((cZ k).1 aN).2) (dU p hp),λ p hp hq r hr x hx=>Bas (λ k aN=>((cZ k).1 aN).2) (aD p (jS p hp hq).1 r hr x hx),λ v hv q _ _=>Am8 (iK v hv),λ p hp r hr x hx q nI kJ=> ?_,λ p hp hq=> ?_,λ k o' aT o ho hq=> ?_⟩
  ·rw [B6x.1 cG];obtain⟨o,ho,zN⟩:=A7o hX.w;have hg:get ob hk=some o:=by rw [zM hk vU];exact ho
   exact⟨(cZ hk).2 ⟨D4 (B0 hg),vU⟩,Nat.lt_of_lt_of_le hK (by decide),o,hg,zN⟩
  ·obtain⟨a1,a2⟩:=jS q nI kJ;have hs:=bT q a1;have aH:q.1≠hk:=by intro e;rw [e,vU]at a2;simp at a2
   exact A5.1 (C8.1 (bC.c q.1 hs aH).2 p hp) r hr x hx
  ·have hx:=bC.key hp;refine⟨?_,λ q nI kJ=>nmH (dU q nI) hx hq,λ q nI kJ r hr x uK=>nmH (aD q (jS q nI kJ).1 r hr x uK) hx hq⟩
   cases hg:get ob p.1 with
   |none=>rfl
   |some o=>exact absurd ((cZ _).2 ⟨D4 (B0 hg),hx⟩) hq
  ·have hq:=(hq.resolve_right (by simp))
   rw [B6x]at hq;subst hq;exact aL o o' (by rw [<-zM k vU];exact ho) aT
theorem Bdk {hk:Nat}{ws:List W4}{ks:List K3}{b:Nat}{ob:OL}(h:HW hk ws ks b ob):∀o,get ob hk=some o->o.sz=3:=λ o ho=>by
 obtain⟨wm,cm,qs,cs,n,c,came,hH,_⟩:=h;rw [hH.hall,B6g]at ho;rw [<-ho]
theorem B2v {hk:Nat}{ws bF:List W4}{ks bE:List K3}{b b':Nat}{H H':OL}(h:HX hk ws ks b H)(h':HX hk bF bE b' H'):∀o o',get H hk=some o->get H' hk=some o'->o.sz=o'.sz:=λ o o' a c=>by rw [Bdk h.w o a,Bdk h'.w o' c]
theorem Ad9 {hk k:Nat}(h:M2 hk k=false):¬hk=k:=by
 grind [M2]
theorem Btd {hk k:Nat}{ws:List W4}{ks:List K3}{b:Nat}{H:OL}(h:HX hk ws ks b H)(h1:M2 hk k=false):get H k=none:=by have:=B2u (L:=[]) h h1;rwa [B71]at this
theorem B0l {hk k:Nat}{ws:List W4}{ks:List K3}{b:Nat}{H:OL}(h:HX hk ws ks b H)(h1:M2 hk k=false):del H k=H:=D1 _ _ (Btd h h1)
theorem Bue {hk k:Nat}{ws:List W4}{ks:List K3}{b:Nat}{H:OL}(h:HX hk ws ks b H)(h1:M2 hk k=false):B8 k H=true:=by have:=B0j (L:=[]) h h1;rw [B71]at this;rw [this];rfl
theorem B2w {hk k:Nat}{ws:List W4}{ks:List K3}{b:Nat}{H:OL}(h:HX hk ws ks b H)(h1:M2 hk k=false):Bmw k H=true:=O7 (Bue h h1)
theorem G4 {hk lo hi:Nat}{os:List Nat}{ws:List W4}{ks:List K3}{b:Nat}{H:OL}(h:HX hk ws ks b H)(h1:hi<=1000000000)(h2:hk%KT<lo\/hi<=hk%KT\/hk∈os):A1 lo hi os H=H:=by have:=Bw3 (L:=[]) h h1 h2;simpa [A1]using this
theorem B2x {hk:Nat}{ws:List W4}{ks:List K3}{b:Nat}{H:OL}(h:HX hk ws ks b H):inP hk H=H:=by have:=B2t (L:=[]) h;rwa [B71,Bhk,B71]at this
theorem Bfp {hk:Nat}{ws:List W4}{ks:List K3}{b:Nat}{H:OL}(h:HX hk ws ks b H):Afi hk H=[]:=by have:=B0i (L:=[]) h;rwa [B71,Aqy]at this
theorem Bw5 {hk k:Nat}{o:Obj}{ob:OL}(h:M2 hk k=true):inP hk ((k,o)::ob)=(k,o)::inP hk ob:=by unfold inP;rw [B8j (by simp [h])]
theorem Azr {hk k:Nat}{o:Obj}{ob:OL}(h:M2 hk k=true):Afi hk ((k,o)::ob)=Afi hk ob:=by unfold Afi;rw [B8b (by simp [h])]
def A6p (hk:Nat)(ob:OL):Prop:=∀p∈Afi hk ob,Sm p.1
theorem Bk4 {hk k:Nat}{o:Obj}{ob:OL}(h:M2 hk k=false):A6p hk ((k,o)::ob)↔A6p hk ob:=by
 grind [Sm,M2,A6p,As2]
theorem Bqs {hk k:Nat}{o:Obj}{ob:OL}(h:M2 hk k=true):A6p hk ((k,o)::ob)↔A6p hk ob:=by unfold A6p;rw [Azr h]
theorem Bqt (hk:Nat):A6p hk []↔True:=⟨λ _=>trivial,λ _ p hp=>by simp [Aqy]at hp⟩
theorem Bk5 {hk k:Nat}{o:Obj}{ob:OL}(h:M2 hk k=true):Ai7 hk ((k,o)::ob)↔Ai7 hk ob:=by unfold Ai7;rw [Azr h]
theorem Bk6 (hk:Nat):Ai7 hk []↔True:=⟨λ _=>trivial,λ _ p hp=>by simp [Aqy]at hp⟩
theorem B0m {hk:Nat}{ws:List W4}{ks:List K3}{b:Nat}{H:OL}(h:HX hk ws ks b H):A6p hk H:=by unfold A6p;rw [Bfp h];simp
theorem Bdl {hk k:Nat}{o:Obj}{ob:OL}(h:M2 hk k=false):Ai7 hk ((k,o)::ob)↔(∀r∈o.rows,∀x∈r,Anb hk x)/\Ai7 hk ob:=by
 unfold Ai7;rw [As2 h];simp
theorem Bw6 {hk:Nat}{ws:List W4}{ks:List K3}{b:Nat}{H:OL}(h:HX hk ws ks b H):Ai7 hk H:=by unfold Ai7;rw [Bfp h];simp
theorem Bk7 (hk:Nat):Auv hk []↔True:=⟨λ _=>trivial,λ _ p hp=>by simp at hp⟩
theorem Bdm {hk i:Nat}{v:AV}{gs:FL}:Auv hk ((i,v)::gs)↔Anb hk v/\Auv hk gs:=by simp [Auv]
theorem A02 (hk:Nat)(d:D):Anb hk (.c d):=λ k h=>by simp [AV.names1]at h
theorem Bqu (hk:Nat)(d:List D):Anb hk (.agg d):=λ k h=>by simp [AV.names1]at h
theorem Bqv (hk:Nat)(z:Nat):Anb hk (.nil z):=λ k h=>by simp [AV.names1]at h
theorem Bw7 (hk:Nat)(x:Oth):Anb hk (.ot x):=λ k h=>by simp [AV.names1]at h
theorem Bw8 (hk:Nat)(x:List D)(o:Nat):Anb hk (.vp x o):=λ k h=>by simp [AV.names1]at h
theorem Bqw (hk:Nat):Anb hk (.tup []):=λ y hy=>by simp at hy
theorem Bw9 {hk j:Nat}(h:M2 hk j=false)(r f:Nat):Anb hk (.loc j r f):=λ k h1 h2=>by
 grind [AV.names1]
theorem Bxa {hk j:Nat}(h:M2 hk j=false)(v s n:Nat):Anb hk (.sl j v s n):=λ k h1 h2=>by
 grind [AV.names1]
def Bdn (hk:Nat)(y:AV):Prop:=∀k,y.names1 k=true->M2 hk k=true->∃r f,y= .loc hk r f
theorem Bxb {hk:Nat}{l:List AV}:Anb hk (.ags l)↔∀y∈l,Bdn hk y:=Iff.rfl
theorem Bxc (hk:Nat)(d:D):Bdn hk (.c d):=λ k h=>by simp [AV.names1]at h
theorem Bk8 (hk:Nat)(z:Nat):Bdn hk (.nil z):=λ k h=>by simp [AV.names1]at h
theorem Bqx {hk j:Nat}(h:M2 hk j=false)(v s n:Nat):Bdn hk (.sl j v s n):=λ k h1 h2=>by
 grind [AV.names1]
theorem Bk9 (hk r f:Nat):Bdn hk (.loc hk r f):=λ k _ _=>⟨r,f,rfl⟩
theorem Bla {α:Type}{f:α->List D}{hk:Nat}{l:List α}:(∀r∈l.map (A4∘f),∀x∈r,Anb hk x):=λ r hr v hv=>by
 grind [A4,A02]
def Bhl (hk:Nat)(rows:O4):Prop:=∀r∈rows,∀x∈r,Anb hk x
theorem Bqy {α:Type}{f:α->List D}{hk:Nat}{l:List α}:Bhl hk (l.map (A4∘f)):=Bla
theorem Bqz (hk:Nat):Bhl hk []↔True:=⟨λ _=>trivial,λ _ r hr=>by simp at hr⟩
theorem Bq0 {hk:Nat}{r:List AV}:Bhl hk [r]↔∀x∈r,Anb hk x:=by simp [Bhl]
theorem Bxd {hk k:Nat}{o:Obj}{ob:OL}(h:M2 hk k=false):Ai7 hk ((k,o)::ob)↔Bhl hk o.rows/\Ai7 hk ob:=Bdl h
structure Ayn (hk:Nat)(H:OL)(gs:FL)(ob:OL):Prop where
 i:inP hk ob=H
 f:Auv hk gs
 o:Ai7 hk ob
 s:A6p hk ob
theorem Blb {hk:Nat}{H:OL}{gs:FL}{ob:OL}:Ayn hk H gs ob↔inP hk ob=H/\Auv hk gs/\Ai7 hk ob/\A6p hk ob:=⟨λ h=>⟨h.i,h.f,h.o,h.s⟩,λ⟨a,b,c,d⟩=>⟨a,b,c,d⟩⟩
theorem By6 {hk:Nat}(h:hk<CK):SmG [(100000,.loc hk 0 0)]:=λ p hp k aN=>by
 grind [List.mem_singleton,AV.names,AV.names1]
theorem Bmm {hk:Nat}{fs:List Nat}(h:M5 fs hk=false):NoF fs [(100000,.loc hk 0 0)]:=by
 grind [K5,D3,Aeu]
theorem Bxe {hk:Nat}{vs:List AV}(hv:∀v∈vs,v.dat=true){gs:FL}(hg:Auv hk gs):∀i,Auv hk (X6 i vs++gs):=by
 have hd:∀v,v.dat=true->Anb hk v:=λ v h=>by cases v<;>simp [AV.dat]at h<;>exact λ k hk=>by simp [AV.names1]at hk
 induction vs with
 |nil=>intro i;exact hg
 |cons v vs ih=>
  intro i p hp;rcases B6r.1 hp with rfl|hp
  ·exact hd v (hv v (by simp))
  ·exact ih (λ u hu=>hv u (by simp [hu])) (i+1) p hp
theorem Bat (hk r f:Nat):Anb hk (.loc hk r f):=λ k aN _=>⟨r,f,rfl⟩
theorem Blc {vs:List AV}{gs:FL}:∀{i:Nat}{fr:FL},(∀j v,vs[j]? =some v->get fr (i+j)=some v)->Aap fr i vs.length=some vs:=by
 induction vs with
 |nil=>intro i fr _;rfl
 |cons v vs ih=>
  intro i fr h;simp only [B8p,Aap];rw [show get fr i=some v from h 0 v rfl,ih (i:=i+1) λ j u hu=>by have:=h (j+1) u (by simpa using hu);rw [show i+1+j=i+(j+1) by omega];exact this]
theorem Aqz {n:Nat}{S:PG}{hk b b':Nat}{ws bF:List W4}{ks bE:List K3}{H H':OL}{vs rs:List AV}(hX:HX hk ws ks b H)(bC:HX hk bF bE b' H')(hK:hk<CK)(hn:n=vs.length+1)(iH:n<100000)(hv:∀v∈vs,v.dat=true)(iK:∀v∈rs,v.dat=true)
  (hS:S ⟨(0,.loc hk 0 0)::(X6 1 vs++[(100000,.loc hk 0 0)]),H⟩=some (rs,H')){gs:FL}{ob:OL}(h0:get gs n=none)(hc:Ayn hk H gs ob):U6 n S ⟨(0,.loc hk 0 0)::(X6 1 vs++gs),ob⟩=some (rs,Afi hk ob++H'):=by
 have rH:∀(gs:FL) i,i<n->get ((0,(.loc hk 0 0:AV))::(X6 1 vs++gs)) i=(AV.loc hk 0 0::vs)[i]? :=λ gs i hi=>by
  grind [Go.Am.get,E5,Aaj,List.getElem?_eq_getElem]
 have h1:Aap ((0,(.loc hk 0 0:AV))::(X6 1 vs++gs)) 0 n=some (.loc hk 0 0::vs):=by
  rw [show n=(AV.loc hk 0 0::vs).length by simp [hn]]
  refine Blc (gs:=gs) λ j v hj=> ?_
  grind [List.getElem?_eq_some_iff]
 have uW:get ((0,(.loc hk 0 0:AV))::(X6 1 vs++gs)) n=none:=by
  grind [Go.Am.get,E5,Aaj,List.getElem?_eq_none]
 refine B0k hX hc.i hK iH uW h1 ?_ ⟨bF,bE,b',bC⟩ iK (B2v hX bC) ?_ hc.o hc.s
 ·exact hS
 ·intro p hp;rcases B6r.1 hp with rfl|hp
  ·exact Bat hk 0 0
  ·exact Bxe hv hc.f 1 p hp
theorem Bau {S:PG}(h:A7j S){hk b:Nat}{ws:List W4}{ks:List K3}{H:OL}(hX:HX hk ws ks b H)(hK:hk<CK)(hh:M5 [510] hk=false)(hb:b+1<=1000000000)(f d v:Int):
  ∃H',HX hk ws (if ks.any (T8 f d)then ks else ks++[(f,d,v)]) (b+1) H'/\∀gs ob,get gs 4=none->Ayn hk H gs ob->U6 4 S ⟨(0,.loc hk 0 0)::(1,i64 f)::(2,i64 d)::(3,i64 v)::gs,ob⟩=some ([bo (!ks.any (T8 f d))],Afi hk ob++H'):=by
 obtain⟨H',e,hw,hf⟩:=h hk ws ks b f d v [(100000,.loc hk 0 0)] H hX.w hb (hX.no (by simp) hh) (Bmm hh) (By6 hK)
 have bC:=hX.next hw hf;exact⟨H',bC,λ gs ob h0 hc=>Aqz (vs:=[i64 f,i64 d,i64 v]) hX bC hK rfl (by simp) (by simp [AV.dat]) (by simp [AV.dat]) e h0 hc⟩
theorem Aq0 {S:PG}(h:A2h S){hk b:Nat}{ws:List W4}{ks:List K3}{H:OL}(hX:HX hk ws ks b H)(hK:hk<CK)(hh:M5 [508] hk=false)(hb:b+2<=1000000000)(w:W4)(hw:SmW w)(iC:∀u∈ws,u.1<w.1)(hl:ws.length<1000000):
  ∃H',HX hk (ws++[w]) ks (b+2) H'/\∀gs ob,get gs 2=none->Ayn hk H gs ob->U6 2 S ⟨(0,.loc hk 0 0)::(1,.agg (U8 w))::gs,ob⟩=some ([],Afi hk ob++H'):=by
 obtain⟨H',e,hw,hf⟩:=h hk ws ks b w [(100000,.loc hk 0 0)] H hX.w hw iC hl hb (hX.no (by simp) hh) (Bmm hh) (By6 hK)
 have bC:=hX.next hw hf;exact⟨H',bC,λ gs ob h0 hc=>Aqz (vs:=[.agg (U8 w)]) hX bC hK rfl (by simp) (by simp [AV.dat]) (by simp [AV.dat]) e h0 hc⟩
theorem Bq1 {S:PG}(h:Bt8 S){hk b:Nat}{ws:List W4}{ks:List K3}{H:OL}(hX:HX hk ws ks b H)(hK:hk<CK)(hh:M5 [514] hk=false)(hl:ws.length<=1000){gs:FL}{ob:OL}(h0:get gs 1=none)(hc:Ayn hk H gs ob):
  U6 1 S ⟨(0,.loc hk 0 0)::gs,ob⟩=some ([.c (.vs 4 (ws.map U8))],Afi hk ob++H):=
 Aqz (vs:=[]) hX hX hK rfl (by simp) (by simp) (by simp [AV.dat]) (h hk ws ks b [(100000,.loc hk 0 0)] H hX.w hl (hX.no (by simp) hh) (Bmm hh)) h0 hc
theorem Bld {S:PG}(h:Bfm S){hk b:Nat}{ws:List W4}{ks:List K3}{H:OL}(hX:HX hk ws ks b H)(hK:hk<CK)(hh:M5 [516] hk=false)(hl:ks.length<=1000){gs:FL}{ob:OL}(h0:get gs 1=none)(hc:Ayn hk H gs ob):
  U6 1 S ⟨(0,.loc hk 0 0)::gs,ob⟩=some ([.c (.vs 3 (ks.map U5))],Afi hk ob++H):=
 Aqz (vs:=[]) hX hX hK rfl (by simp) (by simp) (by simp [AV.dat]) (h hk ws ks b [(100000,.loc hk 0 0)] H hX.w hl (hX.no (by simp) hh) (Bmm hh)) h0 hc
theorem cjA :type_of%(And.intro @Blb<|And.intro @Bk4<|And.intro @Bxd<|And.intro @Bqs<|And.intro @Bqt<|And.intro @Bk5<|And.intro @Bk6<|And.intro @Bw5<|And.intro @Bhk<|And.intro @Azr<|And.intro @Aqy<|And.intro @Bk7<|And.intro @Bdm<|And.intro @A02<|And.intro @Bqu<|And.intro @Bqv<|And.intro @Bw7<|And.intro @Bw8<|And.intro @Bqw<|And.intro @Bat<|And.intro @Bw9<|And.intro @Bxa<|And.intro @Bxb<|And.intro @Bxc<|And.intro @Bk8<|And.intro @Bqx<|And.intro @Bk9<|And.intro @Bqy<|And.intro @Bq0<|And.intro @Bqz<|And.intro @Bqq @As2):=And.intro @Blb<|And.intro @Bk4<|And.intro @Bxd<|And.intro @Bqs<|And.intro @Bqt<|And.intro @Bk5<|And.intro @Bk6<|And.intro @Bw5<|And.intro @Bhk<|And.intro @Azr<|And.intro @Aqy<|And.intro @Bk7<|And.intro @Bdm<|And.intro @A02<|And.intro @Bqu<|And.intro @Bqv<|And.intro @Bw7<|And.intro @Bw8<|And.intro @Bqw<|And.intro @Bat<|And.intro @Bw9<|And.intro @Bxa<|And.intro @Bxb<|And.intro @Bxc<|And.intro @Bk8<|And.intro @Bqx<|And.intro @Bk9<|And.intro @Bqy<|And.intro @Bq0<|And.intro @Bqz<|And.intro @Bqq @As2
theorem T9 {hk:Nat}{ws:List W4}{ks:List K3}{b:Nat}{H:OL}(h:HX hk ws ks b H):type_of%(And.intro (@Btd hk · ws ks b H h)<|And.intro (@B0l hk · ws ks b H h)<|And.intro (@Bue hk · ws ks b H h)<|And.intro (@B2w hk · ws ks b H h)<|And.intro (B2x h)<|And.intro (Bfp h)<|And.intro (B0m h) (Bw6 h)):=And.intro (@Btd hk · ws ks b H h)<|And.intro (@B0l hk · ws ks b H h)<|And.intro (@Bue hk · ws ks b H h)<|And.intro (@B2w hk · ws ks b H h)<|And.intro (B2x h)<|And.intro (Bfp h)<|And.intro (B0m h) (Bw6 h)
open Classical in
noncomputable def Ayo (T:St->OL->OL)(S:PG)(s:St):Option (List AV×OL):=
 (S s).map λ p=>(p.1,if ∀k o,get (T s p.2) k=some o->get p.2 k=some o then T s p.2 else [])
open Classical in
theorem B0n {T:St->OL->OL}{S:PG}{s:St}{rs:List AV}{ob:OL}(h:S s=some (rs,ob))(h2:∀k o,get (T s ob) k=some o->get ob k=some o):Ayo T S s=some (rs,T s ob):=by
 grind [Ayo]
open Classical in
theorem Ble {P:Program}{f:FuncId}{T:St->OL->OL}{S:PG}(h:D9 P f S):D9 P f (Ayo T S):=by
 intro γ B F ρ fr ob w us rs aA aF cM hm hf hS;unfold Ayo at hS;simp only [B6m,B6k]at hS;obtain⟨⟨rs0,bL⟩,aJ,rfl,rfl⟩:=hS;refine(h γ B F ρ fr ob w us rs0 bL aF cM hm hf aJ).mono ?_;rintro e w' ⟨qs,rfl,F',ρ',cJ,hg,hr,hx⟩;have bA:∀k o,get (if ∀k o,get (T ⟨fr,ob⟩ bL) k=some o->get bL k=some o then T ⟨fr,ob⟩ bL else []) k=some o->get bL k=some o:=λ k o hk=>by
  grind [Go.Am.get]
 exact⟨qs,rfl,F',ρ',cJ.sub bA,λ i v hi hv=>(hg i v hi hv).sub bA,hr.imp λ _ _ h=>h.sub bA,hx⟩
open Classical in
def Bmn (s:St)(rs:List AV)(aU:OL):Prop:=(∀p∈s.fr,GB<=p.1->p.2.names CK=false)/\(∀v∈rs,v.names CK=false)/\St.free ⟨[],aU⟩ CK=true
open Classical in
noncomputable def Auw (S:PG)(s:St):Option (List AV×OL):=match S s with
 |some (rs,aU)=>if Bmn s rs aU then some (rs,(CK,⟨I7 aU,[]⟩)::del aU CK)else none
 |none=>none
open Classical in
theorem B0o {S:PG}{s:St}{rs:List AV}{ob:OL}(h:S s=some (rs,ob))(h2:Bmn s rs ob):Auw S s=some (rs,(CK,⟨I7 ob,[]⟩)::del ob CK):=by
 grind [Auw]
open Classical in
theorem Bdo {S:PG}{s:St}{rs:List AV}{ob:OL}(h:Auw S s=some (rs,ob)):∃aU,S s=some (rs,aU)/\Bmn s rs aU/\ob=(CK,⟨I7 aU,[]⟩)::del aU CK:=by
 grind [Auw]
theorem Blf {P:Program}{f:FuncId}{S:PG}(h:D9 P f S):D9 P f (Auw S):=by
 intro γ B F ρ fr ob w us rs aA aF cM hm hf hS;obtain⟨bL,aJ,⟨k1,k2,k3⟩,rfl⟩:=Bdo hS;refine(h γ B F ρ fr ob w us rs bL aF cM hm hf aJ).mono ?_;rintro e w' ⟨qs,rfl,F',ρ',cJ,hg,hr,hx⟩;have aV:∀k,k≠CK->get ((CK,(⟨I7 bL,[]⟩:Obj))::del bL CK) k=get bL k:=λ k hk=>by
  grind [G2,B3]
 refine⟨qs,rfl,F',K0 ρ' CK none,T0.newBare (s:=⟨[],bL⟩) cJ k3,λ i v hi hv=>(hg i v hi hv).upd (k1 (i,v) (B0 hv) hi) (λ k hk=>D6 _ hk) aV,?_,hx⟩
 refine C9.of_get hr.length λ i a hi=> ?_
 obtain⟨b,h1,h2⟩:=hr.get? i a hi;exact⟨b,h1,h2.upd (k2 a (B6t hi)) (λ k hk=>D6 _ hk) aV⟩
def A03 (K:List Nat)(ob:OL):OL:=K.filterMap λ k=>(get ob k).map λ o=>(k,o)
theorem Alj {ob:OL}:∀(K:List Nat)(k:Nat),get (A03 K ob) k=if k∈K then get ob k else none
 |[],k=>by simp [A03,Go.Am.get]
 |j::K,k=>by
  have ih:=Alj (ob:=ob) K k;unfold A03 at ih ⊢;cases hj:get ob j with
  |none=>
   grind [List.filterMap_cons_none]
  |some o=>
   grind [List.filterMap_cons_some,G2]
theorem Bav {ob:OL}{K:List Nat}{p:Nat×Obj}(h:p∈A03 K ob):p.1∈K/\get ob p.1=some p.2:=by
 grind [A03,Option.map_eq_some_iff]
theorem Aev {k:Nat}:∀{ob:OL},(∀p∈ob,B5 k p.2.rows=true)->B8 k ob=true
 |[],_=>rfl
 |(j,o)::ob,h=>by
  simp only [B8,B6h];exact⟨h (j,o) (by simp),Aev λ p hp=>h p (by simp [hp])⟩
theorem Baw {k j:Nat}{o:Obj}:∀{ob:OL},B8 k ob=true->get ob j=some o->B5 k o.rows=true
 |[],_,h=>by simp [Go.Am.get]at h
 |(i,o')::ob,h,h2=>by
  simp only [B8,B6h]at h;rw [G2]at h2;split at h2
  ·simp only [B6g]at h2;subst h2;exact h.1
  ·exact Baw h.2 h2
theorem Bdp {hk c j k:Nat}{wm cm:Option Nat}{qs:List HQ}{cs:List HC}{n:Int}{ob:OL}{o:Obj}(hH:F6 hk wm cm qs cs n c ob)(hc9:c<=1000000000)(hc:∀o,get ob CK=some o->o.rows=[])(m1:Ael hk wm cm qs j\/j=CK)(m2:get ob j=some o)(h1:Sm k)(h2:k≠hk):B5 k o.rows=true:=by
 have bI:CK=900000000000000000:=rfl;have aB:KT=18446744073709551616:=G1;have fL:∀j,Ael hk wm cm qs j->j≠hk->j≠k:=λ j hj aH e=>aH (hH.own_sm hc9 hj (by rw [e];exact h1))
 have fV:DB=1000000000000000000:=rfl;have hhb:=hH.hb;have hw:∀j,wm=some j->j≠k:=λ j hj=>fL j (.inr (.inl hj)) (by have:=(hH.wk j hj).1;omega)
 have hm:∀j,cm=some j->j≠k:=λ j hj=>fL j (.inr (.inr (.inl hj))) (by have:=(hH.ck j hj).1;omega)
 have hq:∀e∈qs,e.ky≠k:=λ e he=>fL e.ky (.inr (.inr (.inr ⟨e,he,rfl⟩))) (by have:=(hH.q e he).2.1;omega)
 rcases m1 with (a|a|a|⟨e,he,a⟩)|a
 ·rw [a,hH.hall]at m2;simp only [B6g]at m2;rw [<-m2];refine A5.2 λ r hr v hv=> ?_
  simp only [B6x]at hr;subst hr;simp only [B6r,B7a,or_false]at hv;rcases hv with rfl|rfl|rfl
  ·exact Ai1 hw
  ·exact Ai1 hm
  ·rfl
 ·obtain⟨z,h3,_⟩:=hH.wz;rw [a]at h3;simp only [S4]at h3;rw [h3]at m2;simp only [B6g]at m2;rw [<-m2];refine A5.2 λ r hr v hv=> ?_
  obtain⟨e,he,rfl⟩:=B6z.1 hr;have:=hq e he;simp only [HQ.row,B6r,B7a,or_false]at hv;rcases hv with rfl|rfl|rfl
  ·rfl
  ·rfl
  ·simpa [HQ.val,AV.names,AV.names1]using this
 ·obtain⟨z,h3,_⟩:=hH.cz;rw [a]at h3;simp only [S4]at h3;rw [h3]at m2;simp only [B6g]at m2;rw [<-m2];refine A5.2 λ r hr v hv=> ?_
  obtain⟨e,he,rfl⟩:=B6z.1 hr;simp only [HC.row,B6r,B7a,or_false]at hv;rcases hv with rfl|rfl|rfl<;>rfl
 ·rw [<-a,(hH.q e he).1]at m2;simp only [B6g]at m2;rw [<-m2];refine A5.2 λ r hr v hv=> ?_
  simp only [HQ.obj]at hr;obtain⟨w,_,rfl⟩:=B6z.1 hr;simp only [w4R,A4,B6z]at hv;obtain⟨d,_,rfl⟩:=hv;rfl
 ·rw [a]at m2;rw [hc _ m2];rfl
open Classical in
noncomputable def clK (hk:Nat)(ob:OL):List Nat:=(Abn ob).filter λ j=>M2 hk j&&decide (∀o,get ob j=some o->∀k,Sm k->k≠hk->B5 k o.rows=true)
open Classical in
theorem A6q {hk j:Nat}{ob:OL}:j∈clK hk ob↔j∈Abn ob/\M2 hk j=true/\∀o,get ob j=some o->∀k,Sm k->k≠hk->B5 k o.rows=true:=by
 grind [clK]
theorem B0p {hk b:Nat}{ws:List W4}{ks:List K3}{ob:OL}(h:HW hk ws ks b ob)(hb:b<=1000000000)(hc:∀o,get ob CK=some o->o.rows=[]):HX hk ws ks b (A03 (clK hk ob) ob):=by
 obtain⟨wm,cm,qs,cs,n,c,came,hH,hR,h0,hn,hcb,hC,hs⟩:=h;have bI:CK=900000000000000000:=rfl;have aB:KT=18446744073709551616:=G1;have hc9:c<=1000000000:=by omega
 have hgO:∀k,Ael hk wm cm qs k\/k=CK->get (A03 (clK hk ob) ob) k=get ob k:=λ k aN=>by
  rw [Alj];split
  ·rfl
  ·rename_i wN;cases hg:get ob k with
   |none=>rfl
   |some o=>
    refine absurd (A6q.2 ⟨B6z.2 ⟨_,B0 hg,rfl⟩,?_,λ o' aT j h1 h2=>Bdp hH hc9 hc aN aT h1 h2⟩) wN
    unfold M2;by_cases e:k=hk
    ·simp [e]
    ·simp only [B7n,B6o,B7b,B7k];refine .inr λ mI=> ?_
     rcases aN with a|a
     ·exact e (hH.own_sm hc9 a mI)
     ·subst a;unfold Sm at mI;rw [B74 (by omega)]at mI;omega
 have bA:∀k,B8 k ob=true->B8 k (A03 (clK hk ob) ob)=true:=λ k aN=>Aev λ p hp=>Baw aN (Bav hp).2
 have cT:∀k,get ob k=none->get (A03 (clK hk ob) ob) k=none:=λ k aN=>by rw [Alj,aN];simp
 refine⟨⟨wm,cm,qs,cs,n,c,came,hH.congr λ k aN=>hgO k (.inl aN),hR,h0,hn,hcb,⟨?_,hC.le,λ m h1 h2=>⟨cT _ (hC.a m h1 h2).1,bA _ (hC.a m h1 h2).2⟩,λ m h1 h2=>⟨cT _ (hC.m m h1 h2).1,bA _ (hC.m m h1 h2).2⟩,bA _ hC.nck⟩,hs⟩,λ k h1 h2=>⟨?_,Aev λ p hp=> ?_⟩⟩
 ·have:=hC.cnt;unfold I7 at this ⊢;rw [hgO CK (.inr rfl)];exact this
 ·rw [Alj,B6j];intro aN;have:=(A6q.1 aN).2.1;simp only [M2,B7n,B6o,B7b,B7k]at this;rcases this with a|a
  ·exact h2 a
  ·exact a h1
 ·obtain⟨m1,m2⟩:=Bav hp;exact(A6q.1 m1).2.2 _ m2 k h1 h2
theorem B0q {hk b:Nat}{ws:List W4}{ks:List K3}{ob:OL}(h:HW hk ws ks b ob)(hb:b<=1000000000):HW hk ws ks b ((CK,⟨I7 ob,[]⟩)::del ob CK)/\B8 CK ob=true:=by
 obtain⟨wm,cm,qs,cs,n,c,came,hH,hR,h0,hn,hcb,hC,hs⟩:=h;have bI:CK=900000000000000000:=rfl;have fV:DB=1000000000000000000:=rfl;have aS:MK=1461501637330902918203684832716283019655932542976:=U2;have hg:∀k,k≠CK->get ((CK,(⟨I7 ob,[]⟩:Obj))::del ob CK) k=get ob k:=λ k hk=>by
  grind [G2,B3]
 have cS:∀k,B8 k ob=true->B8 k ((CK,(⟨I7 ob,[]⟩:Obj))::del ob CK)=true:=λ k hk=>by
  simp only [B8,B5,B9m];refine Aev λ p hp=> ?_
  have:=Ak5 k ob;grind [List.all_eq_true,Aef,A5]
 refine⟨⟨wm,cm,qs,cs,n,c,came,hH.congr λ k aN=>hg k ?_,hR,h0,hn,hcb,⟨?_,hC.le,λ m h1 h2=>⟨by rw [hg _ (by omega)];exact(hC.a m h1 h2).1,cS _ (hC.a m h1 h2).2⟩,λ m h1 h2=>⟨by rw [hg _ (by omega)];exact(hC.m m h1 h2).1,cS _ (hC.m m h1 h2).2⟩,cS _ hC.nck⟩,hs⟩,hC.nck⟩
 ·intro e;subst e;rcases hH.own_big (by omega) aN with a|a
  ·have:=hH.hb;omega
  ·omega
 ·rw [<-hC.cnt];unfold I7;rw [G2,B6l rfl]
def wdK (wk:Nat)(ob:OL):Option (Nat×Nat×Nat×Nat×Nat):=match get ob wk with
 |some ⟨_,[[_,_,_,_,_,_,_,_,_,_,_,_,_,.loc hk _ _,.sl ck _ _ cn,.sl tk _ _ tn,_]]⟩=>some (hk,ck,cn,tk,tn)
 |_=>none
theorem A7p {wk hk ck m tk n:Nat}{s:S6}{tick:Int}{ob:OL}(h:get ob wk=some (wdO s hk ck m tk n tick)):wdK wk ob=some (hk,ck,m,tk,n):=by unfold wdK;rw [h]
def F8 (hk wk ck tk k:Nat):Bool:=M2 hk k||(decide (k=wk)||(decide (k=ck)||decide (k=tk)))
def stA (vs:List AV)(ob:OL):List Nat×List Nat×List (Nat×Nat):=match vs with
 | .loc wk _ _::_=>match wdK wk ob with
  |some (hk,ck,cn,tk,tn)=>((Abn ob).filter λ j=>F8 hk wk ck tk j,[hk,wk],[(ck,cn),(tk,tn)])
  |none=>([],[],[])
 |_=>([],[],[])
def wkO (s:St):Option Nat:=match get s.fr 0 with
 |some (.loc wk _ _)=>some wk
 |_=>none
open Classical in
noncomputable def stT (s:St)(aU:OL):OL:=match wkO s with
 |some wk=>match wdK wk aU with
  |some (hk,ck,_,tk,_)=>A03 [wk,ck,tk] aU++A03 (clK hk aU) aU
  |none=>[]
 |none=>[]
def stQ (s:St)(k:Nat):Bool:=match wkO s with
 |some wk=>match wdK wk s.ob with
  |some (hk,_)=>M2 hk k
  |none=>false
 |none=>false
noncomputable def Ajy (S:PG):PG:=Aox stQ (Amc 2 stA (Ayo stT (Auw S)))
theorem Bdq {P:Program}{f:FuncId}{S:PG}(h:D9 P f S):D9 P f (Ajy S):=As4 (Ahe (Ble (Blf h)))
theorem Bq2 {s:St}{R:List Nat}(hR:∀r∈R,GB<=r):wkO ⟨E1 R s.fr,s.ob⟩=wkO s:=by
 grind [wkO,E7,GB]
theorem A85 {S:PG}:Aut (Ajy S):=by
 intro s rs ob R hR hs;unfold Ajy Aox at hs ⊢;simp only [B6m]at hs ⊢;obtain⟨⟨rs0,bL⟩,h1,h2⟩:=hs;have hq:stQ ⟨E1 R s.fr,s.ob⟩=stQ s:=by
  funext k;unfold stQ;rw [Bq2 hR]
 exact⟨(rs0,bL),Aer s rs0 bL R hR h1,by rw [hq];exact h2⟩
abbrev g4 (hk wk ck cn tk tn:Nat):FL:=[(100000,.loc hk 0 0),(100001,.loc wk 0 0),(100002,.sl ck cn 0 cn),(100003,.sl tk tn 0 tn)]
theorem Bxf {S:PG}(h:A2i S)(s:S6)(wk hk ck tk n:Nat)(i:Nat)(tick:Int)(cs:List Cr)(c:Cr)(ts:List D2)(ws:List W4)(ks:List K3)(b:Nat)(I:OL)(hs:ScG s)(eX:CrG c)(dP: -1000000<=c.left)(fB:c.left<=1000000)(hO:U7 Avp I)(hF:NoF Avp (g4 hk wk ck cs.length tk n))(hH:HW hk ws ks b I)(hr:c.rid.length<100)(iC:∀r∈c.rid,0<=r.id/\r.id<n)(hwn:∀w∈ws,0<=w.1/\w.1<n)(hn:ts.length=n)(iH:n<=1000000)(lO:ws.length<=1000)(lK:ks.length<=1000)(fP:cs.length<=1000)(uD:cs[i]? =some c)
  (gY:get I wk=some (wdO s hk ck cs.length tk n tick))(bI:get I ck=some (csO cs))(aY:get I tk=some (trO ts))(d1:¬tk=hk)(d2:¬ck=hk)(d3:¬ck=tk)(d4:¬wk=hk)(d5:¬wk=ck)(d6:¬wk=tk)(z1:hk<1000000000)(z2:tk<1000000000)(z3:ck<1000000000)(z4:wk<1000000000)(hb:b<=1000000000):
  ∃H',HX hk (G5 s i tick c ts ws ks).ws (G5 s i tick c ts ws ks).ks b H'/\Ayo stT (Auw S) ⟨(0,.loc wk 0 0)::(1,i64 i)::g4 hk wk ck cs.length tk n,I⟩=some ([bo (G5 s i tick c ts ws ks).gone],(wk,wdO s hk ck cs.length tk n tick)::(ck,csO (cs.set i (G5 s i tick c ts ws ks).c))::(tk,trO (G5 s i tick c ts ws ks).ts)::H'):=by
 obtain⟨aA,e,hw,hf,g1,g2⟩:=h s wk hk ck tk n i tick cs c ts ws ks b (g4 hk wk ck cs.length tk n) I hs eX dP fB hO hF hH hr iC hwn hn iH lO lK fP uD gY bI aY d1 d2 d3 d4 d5 d6 z1 z2 z3 z4;have nY:CK=900000000000000000:=rfl;have aB:KT=18446744073709551616:=G1;have sm:∀k,k<1000000000->Sm k:=λ k hk=>by unfold Sm;rw [B74 (by omega)];exact hk
 have g0:get aA wk=some (wdO s hk ck cs.length tk n tick):=by
  rw [hf.fr wk (sm wk z4) (by rintro(a|a|a)<;>omega)];exact gY
 obtain⟨sI,hnc⟩:=B0q hw hb;have yP:Bmn ⟨(0,.loc wk 0 0)::(1,i64 i)::g4 hk wk ck cs.length tk n,I⟩ [bo (G5 s i tick c ts ws ks).gone] aA:=by
  refine⟨λ p hp _=> ?_,λ v hv=> ?_,?_⟩
  ·simp only [g4,B6r,B7a,or_false]at hp;rcases hp with rfl|rfl|rfl|rfl|rfl|rfl<;>simp [AV.names,AV.names1]<;>omega
  ·rw [B6x.1 hv];rfl
  ·unfold St.free;simp only [List.all_nil,B9m];rw [Ak5];refine Aev λ p hp=> ?_
   have h3:=Ak5 CK aA;rw [hnc,B6q]at h3;have h4:=h3 p (Aef hp).1;refine A5.2 λ r hr v hv=> ?_
   have h5:=B6q.1 (B6q.1 h4 r hr) v hv;simpa using h5
 have e2:=B0o e yP;obtain⟨aR,gJ⟩:∃aR,aR=(CK,(⟨I7 aA,[]⟩:Obj))::del aA CK:=⟨_,rfl⟩;have fQ:∀k,k<1000000000->get aR k=get aA k:=λ k hk=>by
  rw [gJ,G2,B6j (by omega),B3,B6j (by omega)]
 rw [<-gJ]at e2 sI;have hX:=B0p sI hb λ o ho=>by
  rw [gJ,G2,B6l rfl]at ho;simp only [B6g]at ho;rw [<-ho]
 have hT:stT ⟨(0,.loc wk 0 0)::(1,i64 i)::g4 hk wk ck cs.length tk n,I⟩ aR=(wk,wdO s hk ck cs.length tk n tick)::(ck,csO (cs.set i (G5 s i tick c ts ws ks).c))::(tk,trO (G5 s i tick c ts ws ks).ts)::A03 (clK hk aR) aR:=by
  unfold stT;rw [show wkO ⟨(0,.loc wk 0 0)::(1,i64 i)::g4 hk wk ck cs.length tk n,I⟩=some wk from rfl]
  dsimp only;rw [A7p (by rw [fQ wk z4];exact g0)]
  dsimp only;simp only [A03,B69,B7e,fQ wk z4,fQ ck z3,fQ tk z2,g0,g1,g2,B7h];rfl
 refine⟨_,hX,?_⟩;rw [<-hT];refine B0n e2 λ k o aN=> ?_
 rw [hT]at aN;simp only [G2]at aN;split at aN
 ·rename_i a;subst a;rw [fQ wk z4,g0];exact aN
 ·split at aN
  ·rename_i a;subst a;rw [fQ ck z3,g1];exact aN
  ·split at aN
   ·rename_i a;subst a;rw [fQ tk z2,g2];exact aN
   ·rw [Alj]at aN;split at aN
    ·exact aN
    ·simp at aN
def Alk (hk wk ck cn tk tn:Nat)(x:AV):Prop:=x.all1 λ y=>∀k,y.names1 k=true->F8 hk wk ck tk k=true->(∃r f,y= .loc hk r f)\/(∃r f,y= .loc wk r f)\/(∃a b,y= .sl ck cn a b)\/∃a b,y= .sl tk tn a b
def inW (hk wk ck tk:Nat)(ob:OL):OL:=ob.filter λ p=>F8 hk wk ck tk p.1
def Agr (hk wk ck tk:Nat)(ob:OL):OL:=ob.filter λ p=> !F8 hk wk ck tk p.1
structure Bdr (hk wk ck cn tk tn:Nat)(gs:FL)(ob:OL):Prop where
 f:∀p∈gs,Alk hk wk ck cn tk tn p.2
 o:∀p∈Agr hk wk ck tk ob,∀r∈p.2.rows,∀x∈r,Alk hk wk ck cn tk tn x
 s:∀p∈Agr hk wk ck tk ob,Sm p.1
theorem Bax {hk wk ck cn tk tn:Nat}{K:List Nat}(hK:∀k∈K,F8 hk wk ck tk k=true){x:AV}(h:Alk hk wk ck cn tk tn x):Aow K ([hk,wk],[(ck,cn),(tk,tn)]) x=true:=by
 have key:∀y:AV,(∀k,y.names1 k=true->F8 hk wk ck tk k=true->(∃r f,y= .loc hk r f)\/(∃r f,y= .loc wk r f)\/(∃a b,y= .sl ck cn a b)\/∃a b,y= .sl tk tn a b)->Aov K ([hk,wk],[(ck,cn),(tk,tn)]) y=true:=λ y hy=>by
  by_cases hn:∃k,y.names1 k=true/\k∈K
  ·obtain⟨k,h1,h2⟩:=hn;rcases hy k h1 (hK k h2)with ⟨r,f,rfl⟩|⟨r,f,rfl⟩|⟨r,f,rfl⟩|⟨r,f,rfl⟩<;>simp [Aov]
  ·cases y<;>simp only [Aov,B7n,B7b,B63,B7k]
   ·exact .inl λ h1=>hn ⟨_,by simp [AV.names1],h1⟩
   ·exact .inl λ h1=>hn ⟨_,by simp [AV.names1],h1⟩
   ·exact λ h1=>hn ⟨_,by simp [AV.names1],h1⟩
   ·exact λ h1=>hn ⟨_,by simp [AV.names1],h1⟩
 cases x
 case tup vs=>simp only [Aow,B6q];exact λ y hy=>key y (h y hy)
 case ags vs=>simp only [Aow,B6q];exact λ y hy=>key y (h y hy)
 case clo g vs=>simp only [Aow,B6q];exact λ y hy=>key y (h y hy)
 all_goals exact key _ h
theorem Bhm {hk wk ck cn tk tn k:Nat}{x:AV}(h:Alk hk wk ck cn tk tn x)(h0:F8 hk wk ck tk k=true)(h1:k≠hk)(h2:k≠wk)(h3:k≠ck)(h4:k≠tk):x.names k=false:=by
 have key:∀y:AV,(∀k,y.names1 k=true->F8 hk wk ck tk k=true->(∃r f,y= .loc hk r f)\/(∃r f,y= .loc wk r f)\/(∃a b,y= .sl ck cn a b)\/∃a b,y= .sl tk tn a b)->y.names1 k=false:=λ y hy=>by
  cases hz:y.names1 k with
  |false=>rfl
  |true=>
   grind [AV.names1]
 cases x
 case tup vs=>simp only [AV.names,B7p];exact λ y hy=>by rw [key y (h y hy)];simp
 case ags vs=>simp only [AV.names,B7p];exact λ y hy=>by rw [key y (h y hy)];simp
 case clo g vs=>simp only [AV.names,B7p];exact λ y hy=>by rw [key y (h y hy)];simp
 all_goals exact key _ h
theorem Bhn {hk wk ck tk n m b:Nat}{s:S6}{tick:Int}{cs bS:List Cr}{ts bP:List D2}{bF:List W4}{bE:List K3}{fr:FL}{rs:List AV}{ob H':OL}(bC:HX hk bF bE b H')(iK:∀v∈rs,v.dat=true)
  (lY:get ob hk≠none)(hgz:∀o,get ob hk=some o->o.sz=3/\o.rows≠[])(gY:get ob wk=some (wdO s hk ck m tk n tick))(bI:get ob ck=some (csO cs))(aY:get ob tk=some (trO ts))(hm:cs.length=m)(hn:ts.length=n)
  (d1:¬tk=hk)(d2:¬ck=hk)(d3:¬ck=tk)(d4:¬wk=hk)(d5:¬wk=ck)(d6:¬wk=tk)(z1:hk<1000000000)(z2:tk<1000000000)(z3:ck<1000000000)(z4:wk<1000000000)(hc:Bdr hk wk ck m tk n fr ob):
  Bmj ((Abn ob).filter λ j=>F8 hk wk ck tk j) ([hk,wk],[(ck,m),(tk,n)]) ⟨fr,ob⟩ rs ((wk,wdO s hk ck m tk n tick)::(ck,csO bS)::(tk,trO bP)::H'):=by
 have nY:CK=900000000000000000:=rfl;have aB:KT=18446744073709551616:=G1;have aS:MK=1461501637330902918203684832716283019655932542976:=U2;have sm:∀k,k<1000000000->Sm k:=λ k hk=>by unfold Sm;rw [B74 (by omega)];exact hk
 have w0:F8 hk wk ck tk hk=true:=by simp [F8,M2]
 have w1:F8 hk wk ck tk wk=true:=by simp [F8]
 have w2:F8 hk wk ck tk ck=true:=by simp [F8]
 have w3:F8 hk wk ck tk tk=true:=by simp [F8]
 have i1:M2 hk wk=false:=by simp [M2,d4,sm wk z4]
 have i2:M2 hk ck=false:=by simp [M2,d2,sm ck z3]
 have i3:M2 hk tk=false:=by simp [M2,d1,sm tk z2]
 have hHW:∀k,M2 hk k=true->F8 hk wk ck tk k=true:=λ k h=>by simp [F8,h]
 obtain⟨K,hK⟩:∃K,K=(Abn ob).filter λ j=>F8 hk wk ck tk j:=⟨_,rfl⟩
 have cZ:∀k,k∈K↔k∈Abn ob/\F8 hk wk ck tk k=true:=λ k=>by rw [hK,B7c]
 have hKi:inK K ob=inW hk wk ck tk ob:=by
  unfold inK inW;refine B80 λ p hp=> ?_
  simp [B63,cZ,D4 hp]
 have wP:Afh K ob=Agr hk wk ck tk ob:=by
  unfold Afh Agr;refine B80 λ p hp=> ?_
  simp [B63,cZ,D4 hp]
 have rI:hk∈K:=by
  cases h:get ob hk with
  |none=>exact absurd h lY
  |some o=>exact(cZ hk).2 ⟨D4 (B0 h),w0⟩
 have bG:wk∈K:=(cZ wk).2 ⟨D4 (B0 gY),w1⟩;have cG:ck∈K:=(cZ ck).2 ⟨D4 (B0 bI),w2⟩;have nZ:tk∈K:=(cZ tk).2 ⟨D4 (B0 aY),w3⟩;have jS:∀q∈ob,q.1∉K->q∈Agr hk wk ck tk ob/\F8 hk wk ck tk q.1=false:=λ q hq hn=>by
  have:F8 hk wk ck tk q.1=false:=by
   cases hx:F8 hk wk ck tk q.1 with
   |false=>rfl
   |true=>exact absurd ((cZ _).2 ⟨D4 hq,hx⟩) hn
  exact⟨B7c.2 ⟨hq,by simp [this]⟩,this⟩
 rw [<-hK];have vU:M2 hk hk=true:=by simp [M2]
 have aH:∀j,F8 hk wk ck tk j=false->j≠hk/\j≠wk/\j≠ck/\j≠tk:=λ j hj=>by
  refine⟨?_,?_,?_,?_⟩<;>rintro rfl
  ·rw [w0]at hj;simp at hj
  ·rw [w1]at hj;simp at hj
  ·rw [w2]at hj;simp at hj
  ·rw [w3]at hj;simp at hj
 have toN:∀{l:List (List D)}{r:List AV}{x:AV}{j:Nat},r∈l.map A4->x∈r->x.names j=false:=λ {l r x j} hr hx=>by
  obtain⟨d,_,rfl⟩:=B6z.1 hr;exact A6m hx j
 have fresh:∀p∈(wk,wdO s hk ck m tk n tick)::(ck,csO bS)::(tk,trO bP)::H',p.1∉K->M2 hk p.1=true/\p.1≠hk/\p.1≠wk/\p.1≠ck/\p.1≠tk:=λ p hp hq=>by
  have e0:p.1≠hk:=λ e=>hq (e▸rI)
  have e1:p.1≠wk:=λ e=>hq (e▸bG)
  have e2:p.1≠ck:=λ e=>hq (e▸cG)
  have e3:p.1≠tk:=λ e=>hq (e▸nZ)
  simp only [B6r]at hp;rcases hp with rfl|rfl|rfl|hp
  ·exact absurd rfl e1
  ·exact absurd rfl e2
  ·exact absurd rfl e3
  ·exact⟨bC.key hp,e0,e1,e2,e3⟩
 refine⟨λ k aN=> ?_,λ p hp=> ?_,λ p hp hq=>Bax (λ k aN=>((cZ k).1 aN).2) (hc.f p hp),λ p hp hq r hr x hx=>Bax (λ k aN=>((cZ k).1 aN).2) (hc.o p (jS p hp hq).1 r hr x hx),λ v hv q _ _=>Am8 (iK v hv),λ p hp r hr x hx q nI kJ=> ?_,λ p hp hq=> ?_,λ k o' aT o ho hq=> ?_⟩
 ·simp only [B6r,B7a,or_false]at aN;rcases aN with rfl|rfl
  ·refine⟨rI,by omega,?_⟩
   cases h:get ob k with
   |none=>exact absurd h lY
   |some o=>exact⟨o,rfl,(hgz o h).2⟩
  ·exact⟨bG,by omega,_,gY,by simp⟩
 ·simp only [B6r,B7a,or_false]at hp;rcases hp with rfl|rfl
  ·exact⟨cG,by dsimp only;omega,_,bI,by simp [hm]⟩
  ·exact⟨nZ,by dsimp only;omega,_,aY,by simp [hn]⟩
 ·obtain⟨q1,q2⟩:=jS q nI kJ;obtain⟨n1,n2,n3,n4⟩:=aH _ q2;simp only [B6r]at hp;rcases hp with rfl|rfl|rfl|hp
  ·simp only [B6x]at hr;subst hr;simp only [B6r,B7a,or_false]at hx;rcases hx with rfl|rfl|rfl|rfl|rfl|rfl|rfl|rfl|rfl|rfl|rfl|rfl|rfl|rfl|rfl|rfl|rfl<;>first|rfl|(simp only [AV.names,AV.names1,B8d,ne_eq];omega)
  ·have dQ:r∈(bS.map Cr.cells).map A4:=by rw [B8c];exact hr
   exact toN dQ hx
  ·have dQ:r∈(bP.map D2.cells).map A4:=by rw [B8c];exact hr
   exact toN dQ hx
  ·exact A5.1 (C8.1 (bC.c q.1 (hc.s q q1) n1).2 p hp) r hr x hx
 ·obtain⟨f1,f2,f3,f4,f5⟩:=fresh p hp hq;have f0:=hHW _ f1;refine⟨?_,λ q nI kJ=>Bhm (hc.f q nI) f0 f2 f3 f4 f5,λ q nI kJ r hr x hx=>Bhm (hc.o q (jS q nI kJ).1 r hr x hx) f0 f2 f3 f4 f5⟩
  cases hg:get ob p.1 with
  |none=>rfl
  |some o=>exact absurd ((cZ _).2 ⟨D4 (B0 hg),f0⟩) hq
 ·dsimp only at ho;simp only [G2]at aT;have pT:k=hk\/k=wk\/k=ck\/k=tk:=by
   rcases hq with h|⟨v,h⟩
   ·simp only [B6r,B7a,or_false]at h;exact h.elim .inl λ h=> .inr (.inl h)
   ·simp only [B6r,B6k,B7a,or_false]at h;exact h.elim (λ h=> .inr (.inr (.inl h.1))) λ h=> .inr (.inr (.inr h.1))
  rcases pT with rfl|rfl|rfl|rfl
  ·rw [B6j d4,B6j d2,B6j d1]at aT;rw [(hgz o ho).1,Bdk bC.w o' aT]
  ·rw [B6l rfl]at aT;rw [gY]at ho;simp only [B6g]at ho aT;rw [<-ho,<-aT]
  ·rw [B6j d5,B6l rfl]at aT;rw [bI]at ho;simp only [B6g]at ho aT;rw [<-ho,<-aT]
  ·rw [B6j d6,B6j d3,B6l rfl]at aT;rw [aY]at ho;simp only [B6g]at ho aT;rw [<-ho,<-aT]
theorem Bxg {S:PG}{hk wk ck tk n m i b:Nat}{s:S6}{tick:Int}{cs bS:List Cr}{ts bP:List D2}{ws bF:List W4}{ks bE:List K3}{g:Bool}{gs:FL}{ob H':OL}
  (bC:HX hk bF bE b H')(aP:Ayo stT (Auw S) ⟨(0,.loc wk 0 0)::(1,i64 i)::g4 hk wk ck m tk n,inW hk wk ck tk ob⟩=some ([bo g],(wk,wdO s hk ck m tk n tick)::(ck,csO bS)::(tk,trO bP)::H'))
  (lY:get ob hk≠none)(hgz:∀o,get ob hk=some o->o.sz=3/\o.rows≠[])(gY:get ob wk=some (wdO s hk ck m tk n tick))(bI:get ob ck=some (csO cs))(aY:get ob tk=some (trO ts))(hm:cs.length=m)(hn:ts.length=n)
  (d1:¬tk=hk)(d2:¬ck=hk)(d3:¬ck=tk)(d4:¬wk=hk)(d5:¬wk=ck)(d6:¬wk=tk)(z1:hk<1000000000)(z2:tk<1000000000)(z3:ck<1000000000)(z4:wk<1000000000)(h2:get gs 2=none)(hc:Bdr hk wk ck m tk n gs ob):
  Ajy S ⟨(0,.loc wk 0 0)::(1,i64 i)::gs,ob⟩=some ([bo g],(wk,wdO s hk ck m tk n tick)::(ck,csO bS)::(tk,trO bP)::(Agr hk wk ck tk ob++H')):=by
 have nY:CK=900000000000000000:=rfl;have aB:KT=18446744073709551616:=G1;have aS:MK=1461501637330902918203684832716283019655932542976:=U2;have sm:∀k,k<1000000000->Sm k:=λ k hk=>by unfold Sm;rw [B74 (by omega)];exact hk
 have hA:stA [.loc wk 0 0,i64 i] ob=((Abn ob).filter λ j=>F8 hk wk ck tk j,[hk,wk],[(ck,m),(tk,n)]):=by
  unfold stA;dsimp only;rw [A7p gY]
 have w0:F8 hk wk ck tk hk=true:=by simp [F8,M2]
 have w1:F8 hk wk ck tk wk=true:=by simp [F8]
 have w2:F8 hk wk ck tk ck=true:=by simp [F8]
 have w3:F8 hk wk ck tk tk=true:=by simp [F8]
 have i1:M2 hk wk=false:=by simp [M2,d4,sm wk z4]
 have i2:M2 hk ck=false:=by simp [M2,d2,sm ck z3]
 have i3:M2 hk tk=false:=by simp [M2,d1,sm tk z2]
 have hHW:∀k,M2 hk k=true->F8 hk wk ck tk k=true:=λ k h=>by simp [F8,h]
 obtain⟨K,hK⟩:∃K,K=(Abn ob).filter λ j=>F8 hk wk ck tk j:=⟨_,rfl⟩
 rw [<-hK]at hA;have cZ:∀k,k∈K↔k∈Abn ob/\F8 hk wk ck tk k=true:=λ k=>by rw [hK,B7c]
 have hKi:inK K ob=inW hk wk ck tk ob:=by
  unfold inK inW;refine B80 λ p hp=> ?_
  simp [B63,cZ,D4 hp]
 have wP:Afh K ob=Agr hk wk ck tk ob:=by
  unfold Afh Agr;refine B80 λ p hp=> ?_
  simp [B63,cZ,D4 hp]
 have rI:hk∈K:=by
  cases h:get ob hk with
  |none=>exact absurd h lY
  |some o=>exact(cZ hk).2 ⟨D4 (B0 h),w0⟩
 have bG:wk∈K:=(cZ wk).2 ⟨D4 (B0 gY),w1⟩;have cG:ck∈K:=(cZ ck).2 ⟨D4 (B0 bI),w2⟩;have nZ:tk∈K:=(cZ tk).2 ⟨D4 (B0 aY),w3⟩;have jS:∀q∈ob,q.1∉K->q∈Agr hk wk ck tk ob/\F8 hk wk ck tk q.1=false:=λ q hq hn=>by
  have:F8 hk wk ck tk q.1=false:=by
   cases hx:F8 hk wk ck tk q.1 with
   |false=>rfl
   |true=>exact absurd ((cZ _).2 ⟨D4 hq,hx⟩) hn
  exact⟨B7c.2 ⟨hq,by simp [this]⟩,this⟩
 have dU:∀p∈((0,(.loc wk 0 0:AV))::(1,i64 i)::gs),Alk hk wk ck m tk n p.2:=λ p hp=>by
  rcases B6r.1 hp with rfl|hp
  ·intro k bG cG;exact .inr (.inl ⟨0,0,rfl⟩)
  ·rcases B6r.1 hp with rfl|hp
   ·intro k bG cG;simp [AV.names1]at bG
   ·exact hc.f p hp
 have rG:=Avb (n:=2) (A:=stA) (S:=Ayo stT (Auw S)) (s:=⟨(0,.loc wk 0 0)::(1,i64 i)::gs,ob⟩) (vs:=[.loc wk 0 0,i64 i]) (rs:=[bo g]) (aU:=(wk,wdO s hk ck m tk n tick)::(ck,csO bS)::(tk,trO bP)::H') (by decide) (by simpa [Go.Am.get]using h2) rfl ?_ ?_
 ·unfold Ajy Aox;rw [rG];have hq:stQ ⟨(0,.loc wk 0 0)::(1,i64 i)::gs,ob⟩=M2 hk:=by
   funext k;unfold stQ;rw [show wkO ⟨(0,.loc wk 0 0)::(1,i64 i)::gs,ob⟩=some wk from rfl]
   dsimp only;rw [A7p gY]
  simp only [B7h,hq,B8i,hA,wP];have a1:H'.filter (λ x=> !M2 hk x.1)=[]:=B8g.2 λ p hp=>by simp [bC.key hp]
  have a2:H'.filter (λ x=>M2 hk x.1)=H':=B8r.2 λ p hp=>bC.key hp
  have hnh:∀p∈Agr hk wk ck tk ob,M2 hk p.1=false:=λ p hp=>by
   have:=(B7c.1 hp).2;cases h:M2 hk p.1 with
   |false=>rfl
   |true=>rw [hHW _ h]at this;simp at this
  have a3:(Agr hk wk ck tk ob).filter (λ x=> !M2 hk x.1)=Agr hk wk ck tk ob:=B8r.2 λ p hp=>by rw [hnh p hp];rfl
  have a4:(Agr hk wk ck tk ob).filter (λ x=>M2 hk x.1)=[]:=B8g.2 λ p hp=>by rw [hnh p hp];simp
  simp [List.filter_cons,i1,i2,i3,a1,a2,a3,a4]
 ·rw [hA,hKi];exact aP
 ·rw [hA,hK];exact Bhn (cs:=cs) (ts:=ts) bC (by simp [AV.dat]) lY hgz gY bI aY hm hn d1 d2 d3 d4 d5 d6 z1 z2 z3 z4 ⟨dU,hc.o,hc.s⟩
theorem Ajf {hk wk ck tk:Nat}:∀(ob:OL)(k:Nat),F8 hk wk ck tk k=true->get ob k=get (inW hk wk ck tk ob) k
 |[],k,_=>rfl
 |(j,o)::ob,k,h=>by
  have ih:=Ajf (hk:=hk) (wk:=wk) (ck:=ck) (tk:=tk) ob k h;grind [inW,F8,List.filter_cons_of_pos,G2,List.filter_cons_of_neg]
theorem Blg {S:PG}(h:A2i S)(s:S6)(wk hk ck tk n:Nat)(i:Nat)(tick:Int)(cs:List Cr)(c:Cr)(ts:List D2)(ws:List W4)(ks:List K3)(b:Nat)(I:OL)(hs:ScG s)(eX:CrG c)(dP: -1000000<=c.left)(fB:c.left<=1000000)(hO:U7 Avp I)(hF:NoF Avp (g4 hk wk ck cs.length tk n))(hH:HW hk ws ks b I)(hr:c.rid.length<100)(iC:∀r∈c.rid,0<=r.id/\r.id<n)(hwn:∀w∈ws,0<=w.1/\w.1<n)(hn:ts.length=n)(iH:n<=1000000)(lO:ws.length<=1000)(lK:ks.length<=1000)(fP:cs.length<=1000)(uD:cs[i]? =some c)
  (gY:get I wk=some (wdO s hk ck cs.length tk n tick))(bI:get I ck=some (csO cs))(aY:get I tk=some (trO ts))(d1:¬tk=hk)(d2:¬ck=hk)(d3:¬ck=tk)(d4:¬wk=hk)(d5:¬wk=ck)(d6:¬wk=tk)(z1:hk<1000000000)(z2:tk<1000000000)(z3:ck<1000000000)(z4:wk<1000000000)(hb:b<=1000000000):
  ∃H',HX hk (G5 s i tick c ts ws ks).ws (G5 s i tick c ts ws ks).ks b H'/\∀gs ob,get gs 2=none->inW hk wk ck tk ob=I->Bdr hk wk ck cs.length tk n gs ob->
   Ajy S ⟨(0,.loc wk 0 0)::(1,i64 i)::gs,ob⟩=some ([bo (G5 s i tick c ts ws ks).gone],(wk,wdO s hk ck cs.length tk n tick)::(ck,csO (cs.set i (G5 s i tick c ts ws ks).c))::(tk,trO (G5 s i tick c ts ws ks).ts)::(Agr hk wk ck tk ob++H')):=by
 obtain⟨H',bC,e⟩:=Bxf h s wk hk ck tk n i tick cs c ts ws ks b I hs eX dP fB hO hF hH hr iC hwn hn iH lO lK fP uD gY bI aY d1 d2 d3 d4 d5 d6 z1 z2 z3 z4 hb;refine⟨H',bC,λ gs ob h2 hi hc=> ?_⟩
 have w0:F8 hk wk ck tk hk=true:=by simp [F8,M2]
 have w1:F8 hk wk ck tk wk=true:=by simp [F8]
 have w2:F8 hk wk ck tk ck=true:=by simp [F8]
 have w3:F8 hk wk ck tk tk=true:=by simp [F8]
 obtain⟨o,ho,zN⟩:=A7o hH;refine Bxg (cs:=cs) (ts:=ts) (ws:=ws) (ks:=ks) bC (by rw [hi];exact e) (by rw [Ajf ob hk w0,hi,ho];simp) (λ o' aT=> ?_) (by rw [Ajf ob wk w1,hi];exact gY) (by rw [Ajf ob ck w2,hi];exact bI) (by rw [Ajf ob tk w3,hi];exact aY) rfl hn d1 d2 d3 d4 d5 d6 z1 z2 z3 z4 h2 hc
 rw [Ajf ob hk w0,hi]at aT;refine⟨Bdk hH o' aT,?_⟩;rw [ho]at aT;simp only [B6g]at aT;rw [<-aT];exact zN
variable {hk wk ck cn tk tn : Nat}
def Bds (hk wk ck cn tk tn:Nat)(gs:FL):Prop:=∀p∈gs,Alk hk wk ck cn tk tn p.2
def Aux (hk wk ck cn tk tn:Nat)(ob:OL):Prop:=∀p∈Agr hk wk ck tk ob,Sm p.1/\∀r∈p.2.rows,∀x∈r,Alk hk wk ck cn tk tn x
def Bdt (hk wk ck cn tk tn:Nat)(rows:O4):Prop:=∀r∈rows,∀x∈r,Alk hk wk ck cn tk tn x
theorem Blh {gs:FL}{ob:OL}:Bdr hk wk ck cn tk tn gs ob↔Bds hk wk ck cn tk tn gs/\Aux hk wk ck cn tk tn ob:=
 ⟨λ h=>⟨h.f,λ p hp=>⟨h.s p hp,h.o p hp⟩⟩,λ h=>⟨h.1,λ p hp=>(h.2 p hp).2,λ p hp=>(h.2 p hp).1⟩⟩
theorem Bxh :inW hk wk ck tk []=[]:=rfl
theorem Bay :Agr hk wk ck tk []=[]:=rfl
theorem Ar0 {k:Nat}{o:Obj}{ob:OL}(h:F8 hk wk ck tk k=true):inW hk wk ck tk ((k,o)::ob)=(k,o)::inW hk wk ck tk ob:=by unfold inW;rw [B8j (by simp [h])]
theorem Ajg {k:Nat}{o:Obj}{ob:OL}(h:F8 hk wk ck tk k=false):inW hk wk ck tk ((k,o)::ob)=inW hk wk ck tk ob:=by unfold inW;rw [B8b (by simp [h])]
theorem Azs {k:Nat}{o:Obj}{ob:OL}(h:F8 hk wk ck tk k=true):Agr hk wk ck tk ((k,o)::ob)=Agr hk wk ck tk ob:=by unfold Agr;rw [B8b (by simp [h])]
theorem Azt {k:Nat}{o:Obj}{ob:OL}(h:F8 hk wk ck tk k=false):Agr hk wk ck tk ((k,o)::ob)=(k,o)::Agr hk wk ck tk ob:=by unfold Agr;rw [B8j (by simp [h])]
theorem Bte {k:Nat}(h:M2 hk k=true):F8 hk wk ck tk k=true:=by simp [F8,h]
theorem By7 {ws:List W4}{ks:List K3}{b:Nat}{H:OL}(h:HX hk ws ks b H):inW hk wk ck tk H=H:=B8r.2 λ p hp=>Bte (h.key hp)
theorem Btf {ws:List W4}{ks:List K3}{b:Nat}{H:OL}(h:HX hk ws ks b H):Agr hk wk ck tk H=[]:=B8g.2 λ p hp=>by simp [Bte (h.key hp)]
theorem Bli :Aux hk wk ck cn tk tn []:=λ p hp=>by simp [Bay]at hp
theorem Bxi {ws:List W4}{ks:List K3}{b:Nat}{H:OL}(h:HX hk ws ks b H):Aux hk wk ck cn tk tn H:=λ p hp=>by rw [Btf h]at hp;simp at hp
theorem Blj {k:Nat}{o:Obj}{ob:OL}(h:F8 hk wk ck tk k=true):Aux hk wk ck cn tk tn ((k,o)::ob)↔Aux hk wk ck cn tk tn ob:=by unfold Aux;rw [Azs h]
theorem Blk {k:Nat}{o:Obj}{ob:OL}(h:F8 hk wk ck tk k=false):Aux hk wk ck cn tk tn ((k,o)::ob)↔Bdt hk wk ck cn tk tn o.rows/\Aux hk wk ck cn tk tn ob:=by
 have hs:Sm k:=by
  grind [F8,M2]
 unfold Aux;rw [Azt h];simp only [B6r,forall_eq_or_imp];exact⟨λ⟨a,b⟩=>⟨a.2,b⟩,λ⟨a,b⟩=>⟨⟨hs,a⟩,b⟩⟩
theorem Bll :Bds hk wk ck cn tk tn []:=λ p hp=>by simp at hp
theorem Bdu {k:Nat}{v:AV}{gs:FL}:Bds hk wk ck cn tk tn ((k,v)::gs)↔Alk hk wk ck cn tk tn v/\Bds hk wk ck cn tk tn gs:=by
 unfold Bds;simp only [B6r,forall_eq_or_imp]
theorem Blm :Bdt hk wk ck cn tk tn []:=λ p hp=>by simp at hp
theorem Bfq (d:D):Alk hk wk ck cn tk tn (.c d):=λ k h=>by simp [AV.names1]at h
theorem Bln {α:Type}{f:α->List D}{l:List α}:Bdt hk wk ck cn tk tn (l.map (A4∘f)):=λ r hr x hx=>by
 grind [A4,Bfq]
theorem Blo {r:List AV}:Bdt hk wk ck cn tk tn [r]↔∀x∈r,Alk hk wk ck cn tk tn x:=by simp [Bdt]
theorem Bq3 (d:List D):Alk hk wk ck cn tk tn (.agg d):=λ k h=>by simp [AV.names1]at h
theorem Bxj (x:Oth):Alk hk wk ck cn tk tn (.ot x):=λ k h=>by simp [AV.names1]at h
theorem Bho (e:Nat):Alk hk wk ck cn tk tn (.nil e):=λ k h=>by simp [AV.names1]at h
theorem Bxk (r f:Nat):Alk hk wk ck cn tk tn (.loc hk r f):=λ k _ _=> .inl ⟨r,f,rfl⟩
theorem Bhp (r f:Nat):Alk hk wk ck cn tk tn (.loc wk r f):=λ k _ _=> .inr (.inl ⟨r,f,rfl⟩)
theorem Bxl (r f:Nat):Alk hk wk ck cn tk tn (.sl ck cn r f):=λ k _ _=> .inr (.inr (.inl ⟨r,f,rfl⟩))
theorem Bxm (r f:Nat):Alk hk wk ck cn tk tn (.sl tk tn r f):=λ k _ _=> .inr (.inr (.inr ⟨r,f,rfl⟩))
theorem Bq4 {j r f:Nat}(h:F8 hk wk ck tk j=false):Alk hk wk ck cn tk tn (.loc j r f):=λ k h1 h2=>by
 grind [AV.names1]
theorem Bxn {j v r f:Nat}(h:F8 hk wk ck tk j=false):Alk hk wk ck cn tk tn (.sl j v r f):=λ k h1 h2=>by
 grind [AV.names1]
end Go.Am
namespace Go.Am
def noA (vs:List AV)(ob:OL):List Nat×List Nat×List (Nat×Nat):=([],[],[])
noncomputable def Btg (hk n:Nat)(S:PG):PG:=Aox (λ _=>M2 hk) (Amc n noA S)
theorem Bdv {P:Program}{f:FuncId}{hk n:Nat}{S:PG}(h:D9 P f S):D9 P f (Btg hk n S):=As4 (Ahe h)
theorem Blp {hk n:Nat}{S:PG}:Aut (Btg hk n S):=by
 intro s rs ob R hR hs;unfold Btg Aox at hs ⊢;grind [Option.map_eq_some_iff,Aer]
theorem Bhq (x:AV):Aow [] ([],[]) x=true:=by
 have key:∀y:AV,Aov [] ([],[]) y=true:=λ y=>by cases y<;>simp [Aov]
 cases x
 all_goals grind [Aow,List.all_eq_true]
structure By8 (fr:FL)(ob:OL)(rs:List AV)(aU:OL):Prop where
 rs:∀v∈rs,∀q∈ob,AV.names q.1 v=false
 new:∀p∈aU,∀r∈p.2.rows,∀x∈r,∀q∈ob,AV.names q.1 x=false
 fresh:∀p∈aU,get ob p.1=none/\(∀q∈fr,q.2.names p.1=false)/\∀q∈ob,∀r∈q.2.rows,∀x∈r,AV.names p.1 x=false
theorem Bth {hk n:Nat}{S:PG}{fr:FL}{vs rs:List AV}{ob L H:OL}(hn:n<GB)(h0:get fr n=none)(h1:Aap fr 0 n=some vs)(hS:S ⟨X6 0 vs,[]⟩=some (rs,L++H))(hL:∀p∈L,M2 hk p.1=false)(hH:∀p∈H,M2 hk p.1=true)(aD:∀p∈ob,M2 hk p.1=false)(bB:By8 fr ob rs (L++H)):Btg hk n S ⟨fr,ob⟩=some (rs,L++ob++H):=by
 have rG:=Avb (n:=n) (A:=noA) (S:=S) (s:=⟨fr,ob⟩) (vs:=vs) (rs:=rs) (aU:=L++H) hn h0 h1 (by rw [show inK (noA vs ob).1 ob=[]from B8g.2 λ p hp=>by simp [noA]];simp only [noA,Arz,B8a,B71,X6];exact hS) ⟨λ k aN=>absurd aN (by simp [noA]),λ p hp=>absurd hp (by simp [noA]),λ p _ _=>Bhq _,λ p _ _ r _ x _=>Bhq _,λ v hv q hq _=>bB.rs v hv q hq,λ p hp r hr x hx q hq _=>bB.new p hp r hr x hx q hq,λ p hp _=>⟨(bB.fresh p hp).1,λ q hq _=>(bB.fresh p hp).2.1 q hq,λ q hq _=>(bB.fresh p hp).2.2 q hq⟩,λ k o' _ o _ hq=>absurd hq (by simp [noA])⟩
 unfold Btg Aox;rw [rG];have a0:Afh (noA vs ob).1 ob=ob:=by simp [Afh,noA]
 have f1:∀l:OL,(∀p∈l,M2 hk p.1=false)->l.filter (λ x=> !M2 hk x.1)=l/\l.filter (λ x=>M2 hk x.1)=[]:=λ l hl=>⟨B8r.2 λ p hp=>by rw [hl p hp];rfl,B8g.2 λ p hp=>by rw [hl p hp];simp⟩
 have a1:H.filter (λ x=> !M2 hk x.1)=[]:=B8g.2 λ p hp=>by simp [hH p hp]
 have a2:H.filter (λ x=>M2 hk x.1)=H:=B8r.2 λ p hp=>hH p hp
 simp only [B7h,a0,B8i,(f1 L hL).1,(f1 L hL).2,(f1 ob aD).1,(f1 ob aD).2,a1,a2,B71,B7j]
def SmV (hk:Nat)(x:AV):Prop:=∀k,x.names k=true->M2 hk k=false
theorem B0r {hk b:Nat}{ws:List W4}{ks:List K3}{fr:FL}{ob L H:OL}{rs:List AV}(hX:HX hk ws ks b H)(aD:∀p∈ob,M2 hk p.1=false)(hfs:∀p∈fr,SmV hk p.2)(tZ:∀p∈ob,∀r∈p.2.rows,∀x∈r,SmV hk x)
  (iK:∀v∈rs,∀q∈ob,AV.names q.1 v=false)(hL:∀p∈L,get ob p.1=none/\(∀q∈fr,q.2.names p.1=false)/\B8 p.1 ob=true)(hnL:∀q∈ob,B8 q.1 L=true):By8 fr ob rs (L++H) where
 rs:=iK
 new:=λ p hp r hr x hx q hq=>by
  rcases B65.1 hp with h|h
  ·exact A5.1 (C8.1 (hnL q hq) p h) r hr x hx
  ·have h1:=aD q hq;simp only [M2,Bool.or_eq_false_iff,B7k,Bool.not_eq_false',B6o]at h1;exact A5.1 (C8.1 (hX.c q.1 h1.2 h1.1).2 p h) r hr x hx
 fresh:=λ p hp=>by
  rcases B65.1 hp with h|h
  ·obtain⟨a1,a2,a3⟩:=hL p h;exact⟨a1,a2,λ q hq r hr x hx=>A5.1 (C8.1 a3 q hq) r hr x hx⟩
  ·have h1:=hX.key h;have key:∀x:AV,SmV hk x->x.names p.1=false:=λ x hx=>by
    cases hz:x.names p.1 with
    |false=>rfl
    |true=>have:=hx _ hz;rw [h1]at this;simp at this
   refine⟨?_,λ q hq=>key _ (hfs q hq),λ q hq r hr x hx=>key _ (tZ q hq r hr x hx)⟩
   cases hg:get ob p.1 with
   |none=>rfl
   |some o=>have:=aD _ (B0 hg);rw [h1]at this;simp at this
end Go.Am
