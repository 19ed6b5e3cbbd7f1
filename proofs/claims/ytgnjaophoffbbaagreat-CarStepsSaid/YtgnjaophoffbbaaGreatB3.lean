import Derived.Test.YtgnjaophoffbbaaGreatB2
import Derived.Orders
set_option maxHeartbeats 4000000
set_option maxRecDepth 20000
set_option linter.unusedVariables false
set_option linter.unusedSimpArgs false
namespace Go.Am
open Go.RowKit
def I5.slots (x:I5):List Nat:=N1 x.a.xs++(match x.g with|some (t,_)=>[t]|none=>[])
def I5.dsts :List I5->List Nat
 |[]=>[]
 |x::r=>x.d.toList++dsts r
section
variable {Γ : H6} {s t : St}
theorem Abp {xs:List J8}(h:∀i∈N1 xs,get t.fr i=get s.fr i):∀x∈xs,t.opd x=s.opd x:=by
 intro x hx;cases x with
 |k v=>rfl
 |t n=>
  refine h n ?_
  induction xs with
  |nil=>simp at hx
  |cons y ys ih=>
   cases y with
   |k v=>
    grind [N1]
   |t m=>
    grind [N1]
theorem Aca :∀{xs:List J8},(∀x∈xs,t.opd x=s.opd x)->t.opds xs=s.opds xs
 |[],_=>rfl
 |x::xs,h=>by simp only [St.opds,h x (by simp),Aca (xs:=xs) λ y hy=>h y (by simp [hy])]
theorem Aib (aD:t.ob=s.ob)(v:AV):t.view v=s.view v:=by
 unfold St.view;cases v<;>simp only [aD]
theorem Alr (aD:t.ob=s.ob)(v:AV):t.frz v=s.frz v:=by
 unfold St.frz;cases v<;>simp only [Aib aD]
theorem Aob (aD:t.ob=s.ob):∀vs:List AV,t.frzs vs=s.frzs vs
 |[]=>rfl
 |v::vs=>by simp only [St.frzs,Alr aD,Aob aD vs]
theorem Acz (aD:t.ob=s.ob):∀{ps:List (Nat×Nat×J8)},(∀x∈ps.map (·.2.2),t.opd x=s.opd x)->t.parts ps=s.parts ps
 |[],_=>rfl
 |(off,sz,x)::ps,h=>by
  simp only [St.parts,h x (by simp),Alr aD,Acz aD (ps:=ps) λ y hy=>h y (by simp only [B6v,B6r];exact .inr hy)]
theorem Bbg (aD:t.ob=s.ob)(c:Cv)(v:AV):t.conv c v=s.conv c v:=by
 unfold St.conv;cases c<;>cases v<;>simp only [Aib aD]
theorem Awz (aD:t.ob=s.ob)(v:AV)(sz:Nat)(ag:Bool):t.load v sz ag=s.load v sz ag:=by
 unfold St.load;cases v<;>simp only [aD]
theorem Bib (aD:t.ob=s.ob)(b:Bool)(v:AV):A2n t b v=A2n s b v:=by
 unfold A2n;cases b<;>cases v<;>simp only [aD]<;>(rename_i d;cases d<;>rfl)
theorem A73 (aD:t.ob=s.ob)(k:Nat)(v:AV):An3 t k v=An3 s k v:=by
 unfold An3;rw [aD]
theorem Aw0 {x:Option J8}(h:∀y∈x.toList,t.opd y=s.opd y):t.opdO x=s.opdO x:=by
 cases x with
 |none=>rfl
 |some y=>simp only [St.opdO,h y (by simp)]
theorem Aw1 {α:Type}:∀(l:List (Nat×α))(k:Nat),(del l k).length<=l.length/\((del l k).length=l.length->del l k=l)
 |[],k=>by simp [del]
 |(j,v)::r,k=>by
  obtain⟨h1,h2⟩:=Aw1 r k;grind [del]
theorem Atd :∀(ks:List Nat)(s:St),(kill s ks).ob.length<=s.ob.length/\((kill s ks).ob.length=s.ob.length->kill s ks=s)
 |[],s=>⟨B6u _,λ _=>rfl⟩
 |k::ks,⟨fr,ob⟩=>by
  obtain⟨h1,h2⟩:=Atd ks ⟨fr,del ob k⟩;grind [Aw1,kill]
theorem Af8 :∀(ks:List Nat)(f:FL)(s:St),kill ⟨f,s.ob⟩ ks=⟨f,(kill s ks).ob⟩
 |[],f,s=>rfl
 |k::ks,f,s=>Af8 ks f ⟨s.fr,del s.ob k⟩
theorem Brq {A:Act}{f:FL}(hq:A.quiet=true)(hx:∀x∈A.xs,St.opd ⟨f,s.ob⟩ x=s.opd x):act Γ ⟨f,s.ob⟩ A=(act Γ s A).map λ p=>(p.1,⟨f,p.2.ob⟩):=by
 have l1:=λ v=>Aib (s:=s) (t:=⟨f,s.ob⟩) rfl v
 have l2:=λ v=>Aob (s:=s) (t:=⟨f,s.ob⟩) rfl v
 have l3:=λ c v=>Bbg (s:=s) (t:=⟨f,s.ob⟩) rfl c v
 have l4:=λ v sz ag=>Awz (s:=s) (t:=⟨f,s.ob⟩) rfl v sz ag
 have l5:=λ b v=>Bib (s:=s) (t:=⟨f,s.ob⟩) rfl b v
 cases A<;>simp only [Act.quiet,B6p]at hq<;>simp only [act]
 case mov x=>rw [hx x (by simp [Act.xs])];cases s.opd x<;>rfl
 case pick c a b=>
  have e:∀z:Bool,St.opd ⟨f,s.ob⟩ (if z=true then a else b)=s.opd (if z=true then a else b):=λ z=>by
   split
   ·exact hx a (by simp [Act.xs])
   ·exact hx b (by simp [Act.xs])
  rw [hx c (by simp [Act.xs])]
  simp only [e];split<;>simp [B7q]
 case bin op x y=>rw [hx x (by simp [Act.xs]),hx y (by simp [Act.xs])];split<;>simp [B7q]
 case eqs neg ks x y=>rw [hx x (by simp [Act.xs]),hx y (by simp [Act.xs])];split<;>simp [B7q]
 case beq neg x y=>rw [hx x (by simp [Act.xs]),hx y (by simp [Act.xs])];split<;>simp
 case un op x=>rw [hx x (by simp [Act.xs])];split<;>simp [B7q]
 case ext x i=>rw [hx x (by simp [Act.xs])];split<;>simp [B7q]
 case fld x off sz ag=>rw [hx x (by simp [Act.xs])];split<;>simp [B7q]
 case idx x i n sz ag=>rw [hx x (by simp [Act.xs]),hx i (by simp [Act.xs])];clear l1 l2 l3 l4 l5 hx;(repeat' split)<;>simp_all [B7q]
 case iad x i sz=>rw [hx x (by simp [Act.xs]),hx i (by simp [Act.xs])];clear l1 l2 l3 l4 l5 hx;(repeat' split)<;>simp_all [B7q]
 case iadA x i n sz=>rw [hx x (by simp [Act.xs]),hx i (by simp [Act.xs])];clear l1 l2 l3 l4 l5 hx;(repeat' split)<;>simp_all
 case fad x off=>rw [hx x (by simp [Act.xs])];split<;>simp [B7q]
 case ld x sz ag=>rw [hx x (by simp [Act.xs])];split<;>simp [B7q,l4]
 case bld z ps=>rw [Acz (s:=s) (t:=⟨f,s.ob⟩) rfl hx];split<;>simp [B7q,Af8]
 case bsl sz z n ps=>rw [Acz (s:=s) (t:=⟨f,s.ob⟩) rfl hx];split<;>simp [B7q,Af8]
 case lsl sz x lo hi=>rw [hx x (by simp [Act.xs]),Aw0 (s:=s) (t:=⟨f,s.ob⟩) (x:=lo) (λ y hy=>hx y (by simp only [Act.xs,B6r,B65];exact .inr (.inl hy))),Aw0 (s:=s) (t:=⟨f,s.ob⟩) (x:=hi) (λ y hy=>hx y (by simp only [Act.xs,B6r,B65];exact .inr (.inr hy)))];clear l1 l2 l3 l4 l5 hx;(repeat' split)<;>simp_all [B7q]
 case len b x=>rw [hx x (by simp [Act.xs])];split<;>simp [B7q,l5]
 case mkf g xs=>rw [Aca (s:=s) (t:=⟨f,s.ob⟩) (xs:=xs) hx];(repeat' split)<;>simp_all
 case call g xs=>rw [Aca (s:=s) (t:=⟨f,s.ob⟩) (xs:=xs) hx];simp only [l2,Af8];clear l1 l2 l3 l4 l5 hx;(repeat' split)<;>simp_all
 case mn x xs=>rw [hx x (by simp [Act.xs]),Aca (s:=s) (t:=⟨f,s.ob⟩) (xs:=xs) λ y hy=>hx y (by simp [Act.xs,hy])];split<;>simp [B7q]
 case nilc x=>rw [hx x (by simp [Act.xs])];split<;>simp [B7q]
 case shf l x y=>rw [hx x (by simp [Act.xs]),hx y (by simp [Act.xs])];split<;>simp [B7q]
 case isn k neg x=>rw [hx x (by simp [Act.xs])];split<;>simp [B7q,A73 (s:=s) (t:=⟨f,s.ob⟩) rfl]
 case mget ks zero ok x i=>rw [hx x (by simp [Act.xs]),hx i (by simp [Act.xs])];clear l1 l2 l3 l4 l5 hx;(repeat' split)<;>simp_all [B7q]
theorem Ag3 {A:Act}{f:FL}{v:AV}{s':St}(hq:A.quiet=true)(hx:∀x∈A.xs,St.opd ⟨f,s.ob⟩ x=s.opd x)(h:act Γ s A=some (v,s'))(aD:s'.ob=s.ob):act Γ ⟨f,s.ob⟩ A=some (v,⟨f,s.ob⟩):=by
 rw [Brq hq hx,h];simp [aD]
theorem D1 {α:Type}:∀(l:List (Nat×α))(k:Nat),get l k=none->del l k=l
 |[],k,_=>rfl
 |(j,v)::r,k,h=>by
  simp only [get]at h;split at h
  ·simp at h
  ·rename_i hj;simp only [del,B6j hj,D1 r k h]
theorem Bn7 {A:Act}{v:AV}{s':St}(hq:A.quiet=true)(h:act Γ s A=some (v,s'))(hl:s'.ob.length=s.ob.length):s'.ob=s.ob:=by
 have kl:∀ks,kill s ks=s'->s'.ob=s.ob:=λ ks hk=>by
  subst hk;rw [(Atd ks s).2 hl]
 cases A<;>simp only [Act.quiet,B6p]at hq<;>simp only [act]at h
 all_goals grind [Option.map_eq_some_iff]
end
section
variable {Γ : H6} {s : St} {K : Nat -> Prop} {aA : OL}
def Nn (K:Nat->Prop)(v:AV):Prop:=∀k,K k->v.names k=false
theorem Bbh {v:AV}(aD:∀j,¬K j->get aA j=get s.ob j)(hn:Nn K v):St.view ⟨s.fr,aA⟩ v=s.view v:=by
 unfold St.view;cases v
 case sl key ver start len=>
  simp only;have hk:¬K key:=λ h=>by simpa [AV.names,AV.names1]using hn key h
  rw [aD key hk]
 case c d=>cases d<;>rfl
 all_goals rfl
theorem A23 {v:AV}(aD:∀j,¬K j->get aA j=get s.ob j)(hn:Nn K v):St.frz ⟨s.fr,aA⟩ v=s.frz v:=by
 unfold St.frz;grind [Bbh]
theorem Aw2 (aD:∀j,¬K j->get aA j=get s.ob j):∀vs:List AV,(∀v∈vs,Nn K v)->St.frzs ⟨s.fr,aA⟩ vs=s.frzs vs
 |[],_=>rfl
 |v::vs,h=>by simp only [St.frzs,A23 aD (h v (by simp)),Aw2 aD vs λ u hu=>h u (by simp [hu])]
theorem Akr (aD:∀j,¬K j->get aA j=get s.ob j):∀{ps:List (Nat×Nat×J8)},(∀x∈ps.map (·.2.2),∀v,s.opd x=some v->Nn K v)->St.parts ⟨s.fr,aA⟩ ps=s.parts ps
 |[],_=>rfl
 |(off,sz,x)::ps,h=>by
  have e:St.opd ⟨s.fr,aA⟩ x=s.opd x:=by cases x<;>rfl
  simp only [St.parts,e,Akr aD (ps:=ps) λ y hy=>h y (by simp only [B6v,B6r];exact .inr hy)]
  cases hx:s.opd x with
  |none=>rfl
  |some v=>simp only [A23 aD (h x (by simp) v hx)]
theorem Bbi {v:AV}(aD:∀j,¬K j->get aA j=get s.ob j)(hn:Nn K v)(sz:Nat)(ag:Bool):St.load ⟨s.fr,aA⟩ v sz ag=s.load v sz ag:=by
 unfold St.load;cases v<;>simp only;rename_i key row off;have hk:¬K key:=λ h=>by simpa [AV.names,AV.names1]using hn key h
 rw [aD key hk]
theorem Bic {v:AV}(aD:∀j,¬K j->get aA j=get s.ob j)(hn:Nn K v)(b:Bool):A2n ⟨s.fr,aA⟩ b v=A2n s b v:=by
 unfold A2n;cases b<;>cases v<;>try rfl
 all_goals try (rename_i d;cases d<;>rfl)
 rename_i key ver start len;have hk:¬K key:=λ h=>by simpa [AV.names,AV.names1]using hn key h
 simp only [aD key hk]
theorem A6x {v:AV}{k:Nat}(hn:Nn K v)(h:v.names k=true):¬K k:=λ hk=>by have:=hn k hk;rw [h]at this;simp at this
theorem A74 {v:AV}(aD:∀j,¬K j->get aA j=get s.ob j)(hn:Nn K v)(k:Nat):An3 ⟨s.fr,aA⟩ k v=An3 s k v:=by
 unfold An3;split<;>first|rfl|(rename_i key _ _;rw [aD key (A6x hn (by simp [AV.names,AV.names1]))])|(rename_i key;rw [aD key (A6x hn (by simp [AV.names,AV.names1]))])|(rename_i key _ _ _;simp only [aD key (A6x hn (by simp [AV.names,AV.names1]))])|skip
theorem Bf6 {v d:AV}{key:Nat}(h:s.frz v=some (d,some key)):get s.ob key≠none:=by
 unfold St.frz at h;grind [Option.map_eq_some_iff,St.view]
theorem A24 :∀{vs ds:List AV}{ks:List Nat},s.frzs vs=some (ds,ks)->∀k∈ks,get s.ob k≠none
 |[],ds,ks,h,k,hk=>by simp only [St.frzs,B6g,B6k]at h;obtain⟨_,rfl⟩:=h;simp at hk
 |v::vs,ds,ks,h,k,hk=>by
  simp only [St.frzs]at h;split at h
  ·rename_i d k1 ds' bE h1 h2;simp only [B6g,B6k]at h;obtain⟨_,rfl⟩:=h;simp only [B65,Option.mem_toList]at hk;rcases hk with hk|hk
   ·subst hk;exact Bf6 h1
   ·exact A24 h2 k hk
  ·simp at h
theorem Aoc :∀{ps:List (Nat×Nat×J8)}{xs:List (Nat×List D)}{ks:List Nat},s.parts ps=some (xs,ks)->∀k∈ks,get s.ob k≠none
 |[],xs,ks,h,k,hk=>by simp only [St.parts,B6g,B6k]at h;obtain⟨_,rfl⟩:=h;simp at hk
 |(off,sz,x)::ps,xs,ks,h,k,hk=>by
  simp only [St.parts]at h;split at h
  ·simp at h
  ·split at h
   ·simp at h
   ·rename_i d k1 h1;split at h
    ·rename_i cs ps' bE _ h2;split at h
     ·simp only [B6g,B6k]at h;obtain⟨_,rfl⟩:=h;simp only [B65,Option.mem_toList]at hk;rcases hk with hk|hk
      ·subst hk;exact Bf6 h1
      ·exact Aoc h2 k hk
     ·simp at h
    ·simp at h
theorem Ayv {ks:List Nat}(h:∀k∈ks,get s.ob k≠none)(hl:(kill s ks).ob=s.ob):ks=[]:=by
 cases ks with
 |nil=>rfl
 |cons k ks=>
  have:=Akw (k::ks) s k;grind
theorem Brr {A:Act}{v:AV}(hq:A.quiet=true)(aD:∀j,¬K j->get aA j=get s.ob j)(hn:∀x∈A.xs,∀v,s.opd x=some v->Nn K v)(h:act Γ s A=some (v,s)):act Γ ⟨s.fr,aA⟩ A=some (v,⟨s.fr,aA⟩):=by
 have o:∀x,St.opd ⟨s.fr,aA⟩ x=s.opd x:=λ x=>by cases x<;>rfl
 have oO:∀x,St.opdO ⟨s.fr,aA⟩ x=s.opdO x:=λ x=>by cases x<;>simp only [St.opdO,o]
 have os:∀xs,St.opds ⟨s.fr,aA⟩ xs=s.opds xs:=λ xs=>by induction xs<;>simp only [St.opds,o, *]
 have oN:∀xs vs,(∀x∈xs,∀v,s.opd x=some v->Nn K v)->s.opds xs=some vs->∀v∈vs,Nn K v:=by
  intro xs
  induction xs with
  |nil=>intro vs _ h;simp only [St.opds,B6g]at h;subst h;simp
  |cons x xs ih=>
   intro vs hx h;simp only [St.opds]at h;split at h
   ·rename_i u us h1 h2;simp only [B6g]at h;subst h;intro v hv;rcases B6r.1 hv with rfl|hv
    ·exact hx x (by simp) _ h1
    ·exact ih us (λ y hy=>hx y (by simp [hy])) h2 v hv
   ·simp at h
 have ng:∀{key a b c:Nat}{x:J8},x∈A.xs->s.opd x=some (.sl key a b c)->get aA key=get s.ob key:=λ hx h=>aD _ λ hk=>by simpa [AV.names,AV.names1]using hn _ hx _ h _ hk
 have nl:∀{key a b:Nat}{x:J8},x∈A.xs->s.opd x=some (.loc key a b)->get aA key=get s.ob key:=λ hx h=>aD _ λ hk=>by simpa [AV.names,AV.names1]using hn _ hx _ h _ hk
 cases A<;>simp only [Act.quiet,B6p]at hq<;>simp only [act,o,os,oO]at h ⊢
 case mov x=>cases hx:s.opd x<;>simp_all
 case pick c a b=>split at h<;>simp_all
 case bin op x y=>split at h<;>simp_all
 case eqs neg ks x y=>split at h<;>simp_all
 case beq neg x y=>split at h<;>simp_all
 case un op x=>split at h<;>simp_all
 case ext x i=>split at h<;>simp_all
 case fld x off sz ag=>split at h<;>simp_all
 case idx x i n sz ag=>
  split at h
  ·rename_i cs p hp hi
   (try rw [hp,hi])
   try simp only at h ⊢
   split at h
   ·rename_i j hj;(try rw [hj]);(try simp only);split at h<;>simp_all
   ·simp at h
  ·simp at h
 case iad x i sz=>
  split at h
  ·rename_i z rows p hp hi
   (try rw [hp,hi])
   try simp only at h ⊢
   split at h
   ·rename_i j hj;(try rw [hj]);(try simp only);split at h<;>simp_all
   ·simp at h
  ·rename_i key ver start len p hp hi
   (try rw [hp,hi])
   simp only [ng (x:=x) (by simp [Act.xs]) hp]at h ⊢
   split at h
   ·rename_i j ob hj aD;(try rw [hj,aD]);(try simp only);split at h<;>simp_all
   ·simp at h
  ·simp at h
 case iadA x i n sz=>
  split at h
  ·rename_i key row off p hp hi
   (try rw [hp,hi])
   simp only [nl (x:=x) (by simp [Act.xs]) hp]at h ⊢
   split at h
   ·rename_i j ob hj aD;(try rw [hj,aD]);(try simp only);split at h<;>simp_all
   ·simp at h
  ·simp at h
 case fad x off=>
  split at h
  ·rename_i key row o' hp
   (try rw [hp])
   simp only [nl (x:=x) (by simp [Act.xs]) hp]at h ⊢
   cases hg:get s.ob key<;>simp_all
  ·rename_i r o' hp;(try rw [hp]);simp_all
  ·simp at h
 case ld x sz ag=>
  split at h
  ·rename_i a ha;(try rw [ha]);rw [Bbi aD (hn x (by simp [Act.xs]) a ha)];cases hc:s.load a sz ag<;>simp_all
  ·simp at h
 case bld z ps=>
  rw [Akr aD (by simpa [Act.xs]using hn)]
  split at h
  ·rename_i xs ks gA;simp only [B6m,B6k]at h;obtain⟨cs,h1,rfl,h2⟩:=h;obtain rfl:=Ayv (Aoc gA) (by rw [h2])
   simp [gA,h1,kill]
  ·simp at h
 case bsl sz z n ps=>
  rw [Akr aD (by simpa [Act.xs]using hn)]
  split at h
  ·rename_i xs ks gA;simp only [B6m,B6k]at h;obtain⟨cs,h1,rfl,h2⟩:=h;obtain rfl:=Ayv (Aoc gA) (by rw [h2])
   simp [gA,h1,kill]
  ·simp at h
 case lsl sz x lo hi=>
  split at h
  ·rename_i z rows p q hp jT mX
   (try rw [hp,jT,mX])
   try simp only at h ⊢
   split at h<;>simp_all
  ·rename_i key ver start len p q hp jT mX
   (try rw [hp,jT,mX])
   simp only [ng (x:=x) (by simp [Act.xs]) hp]at h ⊢
   split at h
   ·rename_i ob aD;(try rw [aD]);(try simp only);split at h<;>simp_all
   ·simp at h
  ·rename_i z p q hp jT mX
   (try rw [hp,jT,mX])
   try simp only at h ⊢
   simp_all
  ·simp at h
 case len b x=>
  split at h
  ·rename_i a ha;(try rw [ha]);rw [Bic aD (hn x (by simp [Act.xs]) a ha)];cases hc:A2n s b a<;>simp_all
  ·simp at h
 case call g xs=>
  split at h
  ·simp at h
  ·rename_i vs eV
   (try rw [eV])
   simp only [Aw2 aD vs (oN xs vs (by simpa [Act.xs]using hn) eV)]
   split at h
   ·simp at h
   ·rename_i ds ks jE
    (try rw [jE])
    (try simp only)
    split at h
    ·simp at h
    ·rename_i rs iK
     (try rw [iK])
     simp only [B6g,B6k]at h ⊢;obtain⟨h1,h2⟩:=h;refine⟨h1,?_⟩;split
     ·rfl
     ·rename_i dM;rw [B6j dM]at h2;obtain rfl:=Ayv (A24 jE) (by rw [h2])
      rfl
 case mn x xs=>split at h<;>simp_all
 case mkf g xs=>(repeat' split at h)<;>simp_all
 case nilc x=>
  split at h
  ·rename_i key row off hp
   (try rw [hp])
   simp only [nl (x:=x) (by simp [Act.xs]) hp]at h ⊢
   cases hg:get s.ob key<;>simp_all
  ·simp at h
 case shf l x y=>split at h<;>simp_all
 case isn k neg x=>
  split at h
  ·rename_i a ha;(try rw [ha]);rw [A74 aD (hn x (by simp [Act.xs]) a ha)];cases hc:An3 s k a<;>simp_all
  ·simp at h
 case mget ks zero ok x i=>
  split at h
  ·rename_i k hp hq;(try rw [hp,hq]);split at h<;>simp_all
  ·rename_i key k hp hq
   (try rw [hp,hq])
   have hg:get aA key=get s.ob key:=aD _ (A6x (hn x (by simp [Act.xs]) _ hp) (by simp [AV.names,AV.names1]))
   rw [hg];split at h
   ·rename_i o0 ho
    (try rw [ho])
    (try simp only)
    split at h
    ·rename_i hk
     (try rw [B6l hk])
     split at h
     ·rename_i j u hf;(try rw [hf]);simp_all
     ·rename_i hf;(try rw [hf]);simp_all
     ·simp at h
    ·simp at h
   ·simp at h
  ·simp at h
end
theorem Aef {α:Type}{p:Nat×α}{k:Nat}:∀{l:List (Nat×α)},p∈del l k->p∈l/\p.1≠k
 |[],h=>by simp [del]at h
 |(j,v)::r,h=>by
  simp only [del]at h;split at h
  ·obtain⟨h1,h2⟩:=Aef h;exact⟨by simp [h1],h2⟩
  ·rename_i hj;rcases B6r.1 h with rfl|h
   ·exact⟨by simp,hj⟩
   ·obtain⟨h1,h2⟩:=Aef h;exact⟨by simp [h1],h2⟩
theorem Q2 {α:Type}{p:Nat×α}:∀{ks:List Nat}{l:List (Nat×α)},p∈E1 ks l->p∈l/\p.1∉ks
 |[],l,h=>⟨h,by simp⟩
 |k::ks,l,h=>by
  obtain⟨h1,h2⟩:=Q2 (ks:=ks) h;grind [Aef]
theorem Aic {α:Type}{p:Nat×α}{k:Nat}:∀{l:List (Nat×α)},p∈l->p.1≠k->p∈del l k
 |[],h,_=>by simp at h
 |(j,v)::r,h,hk=>by
  simp only [del];rcases B6r.1 h with rfl|h
  ·rw [B6j hk];simp
  ·split
   ·exact Aic h hk
   ·simp [Aic h hk]
section
variable {Γ : H6} {s t : St}
theorem A9k {v:AV}(hn:∀j,v.names j=true->get t.ob j=get s.ob j):t.view v=s.view v:=by
 unfold St.view;grind [AV.names,AV.names1]
theorem Buv {v:AV}(hn:∀j,v.names j=true->get t.ob j=get s.ob j):t.frz v=s.frz v:=by
 unfold St.frz;grind [A9k]
theorem A25 {v:AV}(hn:∀j,v.names j=true->get t.ob j=get s.ob j):t.cellsOf v=s.cellsOf v:=by
 unfold St.cellsOf;grind [AV.names,AV.names1]
theorem Buw {v:AV}(hn:∀j,v.names j=true->get t.ob j=get s.ob j):Y2 t v=Y2 s v:=by
 unfold Y2;grind [A9k]
theorem A26 :∀{ps:List (Nat×Nat×J8)},(∀x∈ps.map (·.2.2),t.opd x=s.opd x)->(∀x∈ps.map (·.2.2),∀v,s.opd x=some v->∀j,v.names j=true->get t.ob j=get s.ob j)->t.parts ps=s.parts ps
 |[],_,_=>rfl
 |(off,sz,x)::ps,ho,hn=>by
  simp only [St.parts,ho x (by simp),A26 (ps:=ps) (λ y hy=>ho y (by simp only [B6v,B6r];exact .inr hy)) λ y hy=>hn y (by simp only [B6v,B6r];exact .inr hy)]
  cases hx:s.opd x with
  |none=>rfl
  |some v=>simp only [Buv (hn x (by simp) v hx)]
theorem Ak0 {key:Nat}(dU:∀p∈t.fr,p∈s.fr)(aD:∀p∈t.ob,p∈s.ob)(h:s.free key=true):t.free key=true:=by
 grind [St.free,List.all_eq_true,Aef,Aic]
theorem A27 {key:Nat}(dU:∀p∈t.fr,p∈s.fr)(aD:∀p∈t.ob,p∈s.ob)(h:s.noLoc key=true):t.noLoc key=true:=by
 grind [St.noLoc,List.all_eq_true]
theorem Bf7 {A:Act}{v:AV}{s':St}{k:Nat}(he:Ab5 s A=some k)(h:act Γ s A=some (v,s'))(ho:∀x∈A.xs,t.opd x=s.opd x)(dU:∀p∈t.fr,p∈s.fr)(aD:∀p∈t.ob,p∈s.ob)
  (hn:∀x∈A.xs,∀u,s.opd x=some u->∀j,u.names j=true->get t.ob j=get s.ob j):s'.fr=s.fr/\(∃o,get s'.ob k=some o/\act Γ t A=some (v,t.obj k o))/\∀j,j≠k->get s'.ob j=get s.ob j:=by
 suffices hs:∃o,s'=s.obj k o/\act Γ t A=some (v,t.obj k o) by
  obtain⟨o,rfl,h1⟩:=hs;exact⟨rfl,⟨o,by rw [J2,B6l rfl],h1⟩,λ j hj=>by rw [J2,B6j (B6i hj)]⟩
 cases A<;>simp only [Ab5,reduceCtorEq]at he<;>simp only [act]at h
 case sto sz x y=>
  split at he
  ·rename_i k0 row off hx;simp only [B6g]at he;subst he;have n1:get t.ob k0=get s.ob k0:=hn x (by simp [Act.xs]) _ hx k0 (by simp [AV.names,AV.names1])
   rw [hx]at h;split at h
   ·rename_i a b ha hb;simp only [B6g]at ha;subst ha;have n2:=A25 (hn y (by simp [Act.xs]) b hb)
    simp only [B6m,B6k,St.store]at h;obtain⟨s2,h,rfl,rfl⟩:=h;split at h
    ·rename_i o cs h1 h2;split at h
     all_goals grind [Act.xs,act,St.store]
    ·simp at h
   ·simp at h
  ·simp at he
 case app key0 sz bytes x y=>
  have e1:=ho x (by simp [Act.xs])
  have e2:=ho y (by simp [Act.xs])
  split at h
  ·rename_i a b ha hb;have n2:=Buw (hn y (by simp [Act.xs]) b hb)
   split at h
   ·rename_i z ys hys;split at h
    ·rename_i hz;rw [ha]at he;unfold S9 at h;split at he
     ·rename_i z1 iQ;simp only [B6g]at iQ he;subst iQ he;grind [Ak0,act,S9]
     ·rename_i k1 v1 st1 n1' iQ;simp only [B6g]at iQ he;subst iQ he;have n1:get t.ob k1=get s.ob k1:=hn x (by simp [Act.xs]) _ ha k1 (by simp [AV.names,AV.names1])
      cases st1 with
      |succ m=>simp at h
      |zero=>
       simp only at h;split at h
       ·rename_i o ho1;split at h
        ·rename_i hc;split at h
         ·rename_i dL;simp only [B6g,B6k]at h;obtain⟨rfl,rfl⟩:=h;refine⟨_,rfl,?_⟩;simp only [B6h]at dL;have hf:=A27 dU aD dL.1.2;simp only [act,e1,e2,ha,hb,n2,hys,hz,B68,S9,n1,ho1];rw [B6l hc,B6l (by rw [dL.1.1,hf,dL.2];rfl)]
         ·simp at h
        ·simp at h
       ·simp at h
     ·simp at he
    ·simp at h
   ·simp at h
  ·simp at h
 case bso key0 sz z len ps=>
  split at he
  ·rename_i xs gA;simp only [B6g]at he;subst he;rw [gA]at h;simp only at h;have e:=A26 (s:=s) (t:=t) (ps:=ps) ho hn;cases aW:H1 (A9a z len) xs with
   |none=>rw [aW]at h;simp at h
   |some cs=>
    rw [aW]at h;simp only at h;by_cases hf:(kill s []).free key0=true
    ·rw [B6l hf]at h;simp only [B6g,B6k]at h;obtain⟨rfl,rfl⟩:=h;refine⟨_,rfl,?_⟩;have dZ:(kill t []).free key0=true:=Ak0 (s:=s) (t:=t) dU aD hf;simp only [act,e,gA,aW];rw [B6l dZ];rfl
    ·rw [B6j hf]at h;simp at h
  ·simp at he
 case box key0 x=>
  simp only [B6g]at he;subst he;have e1:=ho x (by simp [Act.xs])
  split at h
  ·rename_i b hb;have n2:=A25 (hn x (by simp [Act.xs]) b hb)
   split at h
   all_goals grind [act,Ak0]
  ·simp at h
 case mks key0 bytes z n c=>
  simp only [B6g]at he;subst he;have e1:=ho n (by simp [Act.xs])
  have e2:=ho c (by simp [Act.xs])
  split at h
  ·rename_i p q hp hq;split at h
   all_goals grind [act,Ak0]
  ·simp at h
end
theorem Ayw {s s':St}{sz:Nat}{x v:AV}(h:s.store sz x v=some s'):s'.fr=s.fr:=by
 unfold St.store at h
 repeat' split at h
 all_goals first
  |(simp only [B6g]at h;subst h;rfl)
  |(simp at h)
theorem A75 {s s':St}{key sz bytes:Nat}{x v:AV}{ys:List (List D)}(h:S9 s key sz bytes x ys=some (v,s')):s'.fr=s.fr:=by
 unfold S9 at h
 repeat' split at h
 all_goals first
  |(simp only [B6g,B6k]at h;obtain⟨_,rfl⟩:=h;rfl)
  |(simp at h)
theorem Bbj {s s':St}{key sz bytes:Nat}{x v:AV}{ys:List (List D)}(h:Aea s key sz bytes x ys=some (v,s')):s'.fr=s.fr:=by
 unfold Aea at h
 repeat' split at h
 all_goals simp only [B6g,B6k,reduceCtorEq]at h
 all_goals (obtain⟨_,rfl⟩:=h;rfl)
theorem Ap6 {Γ:H6}{A:Act}{s s':St}{v:AV}(h:act Γ s A=some (v,s')):s'.fr=s.fr:=by
 cases A<;>simp only [act]at h
 case sto=>
  split at h
  ·simp only [B6m,B6k]at h;obtain⟨t,h1,_,rfl⟩:=h;exact Ayw h1
  ·simp at h
 case stoF=>
  split at h
  ·split at h
   ·simp only [B6m,B6k]at h;obtain⟨t,h1,_,rfl⟩:=h;rw [Ayw h1,Q3]
   ·simp at h
  ·simp at h
 case stoG=>
  split at h
  ·simp only [B6m,B6k]at h;obtain⟨t,h1,_,rfl⟩:=h;exact Ayw h1
  ·simp at h
 case mset=>
  split at h
  ·split at h
   ·split at h
    ·simp only [B6m,B6k]at h;obtain⟨t,h1,_,rfl⟩:=h;unfold Aq3 at h1;split at h1
     ·simp only [B6g]at h1;subst h1;rfl
     ·simp only [B6g]at h1;subst h1;rfl
     ·simp at h1
    ·simp at h
   ·simp at h
  ·simp at h
 case appM=>
  split at h
  ·split at h
   ·split at h
    ·exact Bbj h
    ·simp at h
   ·simp at h
  ·simp at h
 case app=>
  split at h
  ·split at h
   ·split at h
    ·exact A75 h
    ·simp at h
   ·simp at h
  ·simp at h
 all_goals repeat' split at h
 all_goals simp only [B6m,B6g,B6k,reduceCtorEq]at h
 all_goals first
  |(obtain⟨_,_,_,rfl⟩:=h;first|rfl|exact Q3 _ _)
  |(obtain⟨_,rfl⟩:=h;first|rfl|exact Q3 _ _)
  |skip
theorem I1 {s:St}{key:Nat}(R:List Nat)(h:s.free key=true):St.free ⟨E1 R s.fr,s.ob⟩ key=true:=
 Ak0 (s:=s) (t:=⟨E1 R s.fr,s.ob⟩) (λ p hp=>(Q2 hp).1) (λ p hp=>hp) h
theorem Bbk {s:St}{key:Nat}(R:List Nat)(h:s.noLoc key=true):St.noLoc ⟨E1 R s.fr,s.ob⟩ key=true:=
 A27 (s:=s) (t:=⟨E1 R s.fr,s.ob⟩) (λ p hp=>(Q2 hp).1) (λ p hp=>hp) h
theorem A59 (k:Nat):∀l:FL,gho (del l k)=del (gho l) (GB+k)
 |[]=>rfl
 |(i,v)::l=>by
  simp only [del,gho];by_cases h:i=k
  ·rw [B6l h,B6l (by omega),A59 k l]
  ·rw [B6j h,B6j (by omega)];simp only [gho,A59 k l]
theorem Ayx :∀(R:List Nat)(l:FL),gho (E1 R l)=E1 (R.map (GB+ ·)) (gho l)
 |[],l=>rfl
 |k::R,l=>by simp only [E1,B6v,Ayx R,A59]
theorem A9l {k:Nat}:∀(vs:List AV)(i:Nat)(l:FL),i+vs.length<=k->del (args i vs++l) k=args i vs++del l k
 |[],i,l,_=>rfl
 |v::vs,i,l,h=>by
  simp only [B8p]at h;simp only [args,B7i,del];rw [B6j (by omega),A9l vs (i+1) l (by omega)]
theorem Asl (vs:List AV)(hv:vs.length<=GB):∀(R:List Nat)(l:FL),(∀r∈R,GB<=r)->E1 R (args 0 vs++l)=args 0 vs++E1 R l
 |[],l,_=>rfl
 |k::R,l,h=>by
  have:=h k (by simp)
  simp only [E1];rw [A9l vs 0 l (by omega),Asl vs hv R _ λ r hr=>h r (by simp [hr])]
theorem Afl {s t:St}(aD:t.ob=s.ob)(v:AV):t.cellsOf v=s.cellsOf v:=by
 unfold St.cellsOf;cases v<;>simp only [aD]
theorem Apk {s t:St}(aD:t.ob=s.ob):∀{ps:List (Nat×Nat×J8)},(∀x∈ps.map (·.2.2),t.opd x=s.opd x)->t.partsA ps=s.partsA ps
 |[],_=>rfl
 |(off,sz,x)::ps,ho=>by
  simp only [St.partsA,ho x (by simp),Apk aD (ps:=ps) (λ y hy=>ho y (by simp only [B6v,B6r];exact .inr hy)),Afl aD]
theorem A76 {s t:St}(aD:t.ob=s.ob)(v:AV)(sz:Nat):t.loadF v sz=s.loadF v sz:=by
 unfold St.loadF;cases v<;>simp only [aD,Aob (s:=s) (t:=t) aD]
theorem A77 {s t:St}(aD:t.ob=s.ob)(v:AV)(sz:Nat):t.loadA v sz=s.loadA v sz:=by
 unfold St.loadA;cases v<;>simp only [aD,Afl (s:=s) (t:=t) aD]
theorem A28 {s t:St}(aD:t.ob=s.ob)(v:AV):Y2 t v=Y2 s v:=by
 unfold Y2;split<;>simp only [Aib aD]
theorem Ayy {s:St}:∀{xs:List J8}{vs:List AV},s.opds xs=some vs->vs.length=xs.length
 |[],vs,h=>by simp only [St.opds,B6g]at h;subst h;rfl
 |x::xs,vs,h=>by
  simp only [St.opds]at h;split at h
  ·rename_i v us h1 h2;simp only [B6g]at h;subst h;simp [Ayy h2]
  ·simp at h
theorem Aod {s s':St}{sz:Nat}{x v:AV}{f:FL}(h:s.store sz x v=some s'):St.store ⟨f,s.ob⟩ sz x v=some ⟨f,s'.ob⟩:=by
 cases x<;>simp only [St.store,reduceCtorEq]at h ⊢;rename_i key row off;simp only [Afl (s:=s) (t:=⟨f,s.ob⟩) rfl];split at h
 ·rename_i o cs h1 h2;split at h
  ·rename_i r hr;split at h
   ·rename_i hc;simp only [B6g]at h;subst h
    try simp only [h1,h2,hr]
    rw [B6l hc];rfl
   ·simp at h
  ·simp at h
 ·simp at h
theorem Bn8 {s s':St}{key sz bytes:Nat}{x v:AV}{ys:List (List D)}{R:List Nat}(h:S9 s key sz bytes x ys=some (v,s')):S9 ⟨E1 R s.fr,s.ob⟩ key sz bytes x ys=some (v,⟨E1 R s.fr,s'.ob⟩):=by
 unfold S9 at h ⊢;split at h
 ·rename_i z;split at h
  ·rename_i hc;simp only [B6g,B6k]at h;obtain⟨rfl,rfl⟩:=h;simp only [B6h]at hc;simp only [hc.1,hc.2.1,I1 R hc.2.2,B64,and_self,B68];rfl
  ·simp at h
 ·rename_i k ver n;split at h
  ·rename_i o ho;split at h
   ·rename_i hc;split at h
    ·rename_i dL;simp only [B6g,B6k]at h;obtain⟨rfl,rfl⟩:=h;simp only [B6h]at dL
     try simp only [ho]
     rw [B6l hc,B6l (by rw [dL.1.1,Bbk R dL.1.2,dL.2];rfl)];rfl
    ·simp at h
   ·simp at h
  ·simp at h
 ·simp at h
theorem Bid {s s':St}{key sz bytes:Nat}{x v:AV}{ys:List (List D)}{R:List Nat}(h:Aea s key sz bytes x ys=some (v,s')):Aea ⟨E1 R s.fr,s.ob⟩ key sz bytes x ys=some (v,⟨E1 R s.fr,s'.ob⟩):=by
 unfold Aea at h ⊢;split at h
 ·rename_i z;split at h
  ·rename_i hc;simp only [B6g,B6k]at h;obtain⟨rfl,rfl⟩:=h;simp only [B6h]at hc;simp only [hc.1,hc.2.1,I1 R hc.2.2,B64,and_self,B68];rfl
  ·simp at h
 ·rename_i k ver st n;split at h
  ·rename_i o ho;split at h
   ·rename_i hc;split at h
    ·rename_i dL;simp only [B6g,B6k]at h;obtain⟨rfl,rfl⟩:=h;simp only [B6h]at dL
     try simp only [ho]
     rw [B6l hc,B6l (by rw [dL.1,I1 R dL.2];rfl)];rfl
    ·simp at h
   ·simp at h
  ·simp at h
 ·simp at h
theorem Bie {s s':St}{key:Nat}{ks:KK}{k v:AV}{o:Obj}{f:FL}(h:Aq3 key ks k v o s=some s'):Aq3 key ks k v o ⟨f,s.ob⟩=some ⟨f,s'.ob⟩:=by
 unfold Aq3 at h ⊢;split at h
 ·simp only [B6g]at h;subst h;rfl
 ·simp only [B6g]at h;subst h;rfl
 ·simp at h
theorem Ayz {Γ:H6}(hΓ:Aat Γ){A:Act}{s s':St}{v:AV}{R:List Nat}(hn:A.xs.length<=GB)(hx:∀x∈A.xs,St.opd ⟨E1 R s.fr,s.ob⟩ x=s.opd x)(h:act Γ s A=some (v,s')):
  act Γ ⟨E1 R s.fr,s.ob⟩ A=some (v,⟨E1 R s.fr,s'.ob⟩):=by
 have dU:=Ap6 h;by_cases hq:A.quiet=true
 ·rw [Brq hq hx,h];rfl
 cases A<;>simp only [Act.quiet,not_true_eq_false]at hq<;>simp only [act]at h ⊢
 case sto sz x y=>
  rw [hx x (by simp [Act.xs]),hx y (by simp [Act.xs])]
  split at h
  ·rename_i a b ha hb;simp only [B6m,B6k]at h ⊢;obtain⟨s2,h,rfl,rfl⟩:=h;exact⟨_,Aod h,rfl,rfl⟩
  ·simp at h
 case ldF x sz=>
  rw [hx x (by simp [Act.xs])]
  split at h
  ·rename_i p hp;simp only [B6m,B6k]at h ⊢;obtain⟨q,h1,rfl,rfl⟩:=h;exact⟨q,by rw [A76 (s:=s) (t:=⟨E1 R s.fr,s.ob⟩) rfl];exact h1,rfl,Af8 _ _ _⟩
  ·simp at h
 case ldA x sz=>
  rw [hx x (by simp [Act.xs])]
  split at h
  ·rename_i p hp;simp only [B6m,B6k]at h ⊢;obtain⟨q,h1,rfl,rfl⟩:=h;exact⟨q,by rw [A77 (s:=s) (t:=⟨E1 R s.fr,s.ob⟩) rfl];exact h1,rfl,rfl⟩
  ·simp at h
 case stoF sz x y=>
  rw [hx x (by simp [Act.xs]),hx y (by simp [Act.xs])]
  split at h
  ·rename_i a b ha hb;simp only [Alr (s:=s) (t:=⟨E1 R s.fr,s.ob⟩) rfl];split at h
   ·rename_i d k hk;simp only [B6m,B6k]at h ⊢;obtain⟨s2,h,rfl,rfl⟩:=h;refine⟨⟨E1 R s.fr,s2.ob⟩,?_,rfl,rfl⟩;rw [Af8];exact Aod h
   ·simp at h
  ·simp at h
 case stoG sz x y=>
  rw [hx x (by simp [Act.xs]),hx y (by simp [Act.xs])]
  split at h
  ·rename_i a b ha hb;simp only [B6m,B6k]at h ⊢;obtain⟨s2,h,rfl,rfl⟩:=h;exact⟨_,Aod h,rfl,rfl⟩
  ·simp at h
 case frz x=>
  rw [hx x (by simp [Act.xs])]
  split at h
  ·rename_i a ha;simp only [B6m,B6k]at h ⊢;obtain⟨p,h,rfl,rfl⟩:=h;exact⟨p,by rw [Alr (s:=s) (t:=⟨E1 R s.fr,s.ob⟩) rfl];exact h,rfl,Af8 _ _ _⟩
  ·simp at h
 case alc key cs=>
  split at h
  ·rename_i hf;simp only [B6g,B6k]at h;obtain⟨rfl,rfl⟩:=h;rw [B6l (I1 R hf)];rfl
  ·simp at h
 case box key x=>
  rw [hx x (by simp [Act.xs])]
  split at h
  ·rename_i a ha;split at h
   ·rename_i cs aW;split at h
    ·rename_i hf;simp only [B6g,B6k]at h;obtain⟨rfl,rfl⟩:=h;simp only [Afl (s:=s) (t:=⟨E1 R s.fr,s.ob⟩) rfl,aW];rw [B6l (I1 R hf)];rfl
    ·simp at h
   ·simp at h
  ·simp at h
 case bldA zero ps=>
  rw [Apk (s:=s) (t:=⟨E1 R s.fr,s.ob⟩) rfl hx];split at h
  ·rename_i xs gA;simp only [B6m,B6k]at h ⊢;obtain⟨cs,h1,rfl,rfl⟩:=h;exact⟨cs,h1,rfl,rfl⟩
  ·simp at h
 case bso key sz zero len ps=>
  rw [Acz (s:=s) (t:=⟨E1 R s.fr,s.ob⟩) rfl hx];split at h
  ·rename_i xs ks gA;split at h
   ·rename_i cs aW;split at h
    ·rename_i hf;simp only [B6g,B6k]at h;obtain⟨rfl,rfl⟩:=h;simp only [Af8];have dZ:St.free ⟨E1 R s.fr,(kill s ks).ob⟩ key=true:=by
      have:=I1 R hf;rw [Q3]at this;exact this
     rw [B6l dZ];rfl
    ·simp at h
   ·simp at h
  ·simp at h
 case appM key sz bytes x y=>
  rw [hx x (by simp [Act.xs]),hx y (by simp [Act.xs])]
  split at h
  ·rename_i a b ha hb;simp only [A28 (s:=s) (t:=⟨E1 R s.fr,s.ob⟩) rfl];split at h
   ·rename_i z zs mD;split at h
    ·rename_i hz;rw [B6l hz];exact Bid h
    ·simp at h
   ·simp at h
  ·simp at h
 case app key sz bytes x y=>
  rw [hx x (by simp [Act.xs]),hx y (by simp [Act.xs])]
  split at h
  ·rename_i a b ha hb;simp only [A28 (s:=s) (t:=⟨E1 R s.fr,s.ob⟩) rfl];split at h
   ·rename_i z ys hys;split at h
    ·rename_i hz;rw [B6l hz];exact Bn8 h
    ·simp at h
   ·simp at h
  ·simp at h
 case mks key bytes z n c=>
  rw [hx n (by simp [Act.xs]),hx c (by simp [Act.xs])]
  split at h
  ·rename_i p q hp hq;split at h
   ·rename_i m k hm hk;split at h
    ·rename_i hc;simp only [B6g,B6k]at h;obtain⟨rfl,rfl⟩:=h;simp only [B6h]at hc;simp only [hc.1,hc.2.1,I1 R hc.2.2,B64,and_self,B68];rfl
    ·simp at h
   ·simp at h
  ·simp at h
 case callP g xs=>
  rw [Aca (s:=s) (t:=⟨E1 R s.fr,s.ob⟩) (xs:=xs) hx];split at h
  ·simp at h
  ·rename_i vs eV;split at h
   ·simp at h
   ·rename_i rs aA hpt;have hl:vs.length<=GB:=by rw [Ayy eV];exact hn
    have hR:∀r∈R.map (GB+ ·),GB<=r:=λ r hr=>by
     obtain⟨i,_,rfl⟩:=B6z.1 hr;omega
    have:=hΓ g _ rs aA (R.map (GB+ ·)) hR hpt;simp only [Asl vs hl _ _ hR,<-Ayx]at this;simp only [B6m,B6k]at h;obtain⟨u,h1,rfl,rfl⟩:=h;simp only [this,h1];rfl
 case callQ g xs=>
  rw [Aca (s:=s) (t:=⟨E1 R s.fr,s.ob⟩) (xs:=xs) hx];split at h
  ·simp at h
  ·rename_i vs eV;split at h
   ·simp at h
   ·rename_i rs aA hpt;have hl:vs.length<=GB:=by rw [Ayy eV];exact hn
    have hR:∀r∈R.map (GB+ ·),GB<=r:=λ r hr=>by
     obtain⟨i,_,rfl⟩:=B6z.1 hr;omega
    have:=hΓ g _ rs aA (R.map (GB+ ·)) hR hpt;simp only [Asl vs hl _ _ hR,<-Ayx]at this;split at h
    ·rename_i hq;simp only [B6m,B6k]at h;obtain⟨u,h1,rfl,rfl⟩:=h;simp only [this,h1,hq,B68];rfl
    ·simp at h
 case mmk key=>
  split at h
  ·rename_i hf;simp only [B6g,B6k]at h;obtain⟨rfl,rfl⟩:=h;rw [B6l (I1 R hf)];rfl
  ·simp at h
 case mset ks x i y=>
  rw [hx x (by simp [Act.xs]),hx i (by simp [Act.xs]),hx y (by simp [Act.xs])]
  split at h
  ·rename_i key k u h1 h2 h3;split at h
   ·rename_i o ho
    try simp only [ho]
    split at h
    ·rename_i hk;rw [B6l hk];simp only [B6m,B6k]at h ⊢;obtain⟨s2,h,rfl,rfl⟩:=h;exact⟨_,Bie h,rfl,rfl⟩
    ·simp at h
   ·simp at h
  ·simp at h
 case mdel ks x i=>
  rw [hx x (by simp [Act.xs]),hx i (by simp [Act.xs])]
  split at h
  ·split at h
   ·rename_i hk;rw [B6l hk];simp only [B6g,B6k]at h;obtain⟨rfl,rfl⟩:=h;rfl
   ·simp at h
  ·rename_i key k h1 h2;split at h
   ·rename_i o ho
    try simp only [ho]
    split at h
    ·rename_i hk;rw [B6l hk];split at h
     ·rename_i hf
      try simp only [hf]
      simp only [B6g,B6k]at h;obtain⟨rfl,rfl⟩:=h;rfl
     ·rename_i hf
      try simp only [hf]
      simp only [B6g,B6k]at h;obtain⟨rfl,rfl⟩:=h;rfl
     ·simp at h
    ·simp at h
   ·simp at h
  ·simp at h
 case rng key x=>
  rw [hx x (by simp [Act.xs])]
  split at h
  ·split at h
   ·rename_i hf;simp only [B6g,B6k]at h;obtain⟨rfl,rfl⟩:=h;rw [B6l (I1 R hf)];rfl
   ·simp at h
  ·split at h
   ·rename_i o ho
    try simp only [ho]
    split at h
    ·rename_i hf;simp only [B6g,B6k]at h;obtain⟨rfl,rfl⟩:=h;rw [B6l (I1 R hf)];rfl
    ·simp at h
   ·simp at h
  ·simp at h
 case ent x=>
  rw [hx x (by simp [Act.xs])]
  repeat' split at h
  all_goals simp_all
theorem Bn9 {Γ:H6}{A:Act}{f:FL}{ob aA:OL}{v:AV}(hs:A.bare=true)(h:act Γ ⟨f,ob⟩ A=some (v,⟨f,ob⟩)):act Γ ⟨f,aA⟩ A=some (v,⟨f,aA⟩):=by
 have e:∀x,St.opd ⟨f,aA⟩ x=St.opd ⟨f,ob⟩ x:=λ x=>by cases x<;>rfl
 have e2:∀xs,St.opds ⟨f,aA⟩ xs=St.opds ⟨f,ob⟩ xs:=λ xs=>by
  induction xs with
  |nil=>rfl
  |cons x xs ih=>simp only [St.opds,e,ih]
 have e3:∀x,St.opdO ⟨f,aA⟩ x=St.opdO ⟨f,ob⟩ x:=λ x=>by
  cases x with
  |none=>rfl
  |some y=>simp only [St.opdO,e]
 cases A<;>simp only [Act.bare,B6p]at hs<;>simp only [act,e,e2,e3]at h ⊢ <;>(repeat' split at h)<;>simp_all
def Aml (o:Oper)(j:Nat):Bool:=o.after.any λ e=>Region.binds .any e&&e.on==j
def Amm (o:Oper)(slots:List Nat):Nat->List I5->Bool
 |_,[]=>true
 |j,y::ys=>(y.d.toList.all λ i=> !slots.contains i||Aml o j)&&Amm o slots (j+1) ys
def Ap7 :J8->Bool
 | .t _=>true
 | .k (.c _)=>true
 | .k (.agg _)=>true
 | .k (.nil _)=>true
 | .k (.ot _)=>true
 |_=>false
def Aqm (P:Program)(nm:Nat->Option Nat)(es:List (Nat×Nat×List AV))(fs:List Eff)(o:Oper)(x:I5):Bool:=
 if x.a.quq then Aa2 P nm o x.a&&x.a.xs.all Ap7&&x.slots.all (λ i=>es.all λ e=>e.2.1 !=i)&&x.d.toList.all (λ i=>es.all λ e=>e.2.1 !=i)&&(!x.a.isQ||es.isEmpty&&fs.all (λ f=>f.2.2.1.gen)&&decide (x.a.xs.length<=GB))
 else match x.a with
  | .alc key _=>x.g.isNone&&(match get es key with|some (d,cs)=>x.d==some d&&Aa2 P nm o (.alc key cs)|none=>false)
  |_=>false
def Afm (key:Nat)(x:I5):Bool:=match x.a with| .alc k _=>k==key|_=>false
def Aoe (q:List I5):List (Nat×Nat×List AV)->Bool
 |[]=>true
 |(key,d,_)::r=>q.any (Afm key)&&r.all (λ e=>e.2.1 !=d)&&Aoe q r
def Bl8 (P:Program)(nm:Nat->Option Nat)(q r:List I5)(k:Nat)(o:Oper)(x:I5)(d:Option Nat)(A:Act):Bool:=
 (x.g.isNone||A.gen)&&x.d==d&&Aa2 P nm o A&&A.xs.all Ap7&&((N1 A.xs).all λ i=> !(I5.dsts (x::r)).contains i)&&Amm o (N1 A.xs) 0 (q.take k)&&q.all (λ y=> !y.a.quq||d.toList.all λ i=> !y.slots.contains i)&&decide (A.xs.length<=GB)
def Bf8 (P:Program)(nm:Nat->Option Nat)(N:Nat)(ops:Array Oper)(es:List (Nat×Nat×List AV))(fs:List Eff)(q:List I5):Nat->List I5->Bool
 |_,[]=>true
 |k,x::r=>(match ops[k]? with
  |some o=>Q4 ops x.g o&&o.dst==x.d&&Abe N [] x.d&&(match x.a with
   | .frz _=>(match get fs k with|some (d,A,_)=>Bl8 P nm q r k o x d A|none=>false)
   |_=>Aqm P nm es fs o x)&&(x.slots.all λ i=> !(I5.dsts (x::r)).contains i)&&(x.d.toList.all λ i=> !(I5.dsts r).contains i)&&Amm o x.slots 0 (q.take k)
  |none=>false)&&Bf8 P nm N ops es fs q (k+1) r
def W8 (ops:Array Oper)(k i:Nat):Bool:=match ops[k]? with|some o=>Aml o i|none=>false
def Ap8 (ops:Array Oper)(j:Nat)(anc:List Nat):Bool:=anc.all λ i=>W8 ops j i||anc.any λ m=>decide (i<m)&&W8 ops m i
def Aq9 (anc ls:List Nat):Nat->List I5->Bool
 |_,[]=>true
 |i,x::r=>(!x.a.quq||x.a.bare||anc.contains i||x.slots.all λ t=>ls.contains t)&&Aq9 anc ls (i+1) r
def Ak1 (anc ls:List Nat):Nat->List I5->Bool
 |_,[]=>true
 |i,x::r=>(!x.a.quq||x.a.bare||anc.contains i||ls.contains i)&&Ak1 anc ls (i+1) r
def Byk (q:List I5)(j:Nat):Bool:=match q[j]? with|some x=>(match x.a with| .frz _=>true|_=>false)|none=>false
def Adb (ops:Array Oper)(q:List I5):List Eff->Bool
 |[]=>true
 |(j,_,A,ls,anc)::r=>Byk q j&&Ap8 ops j anc&&(if A.gen then Ak1 anc ls 0 q else Aq9 anc ls 0 q)&&r.all (λ f=>f.1 !=j)&&Adb ops q r
def Aja :Option Nat->List Eff->Bool
 |_,[]=>true
 |p,(j,_,_,_,anc)::r=>(match p with|some i=>anc.contains i|none=>true)&&Aja (some j) r
def Amn (ops:Array Oper):Bool:=(List.range ops.size).all λ i=>match ops[i]? with
 |some o=>o.after.all λ e=> !Region.binds .any e||decide (e.on<i)
 |none=>false
def Amo (ops:Array Oper)(m:Nat):Bool:=(List.range ops.size).all λ i=>decide (i<m)||if i=m then Ap8 ops m (List.range m)else W8 ops i (i-1)
def Ara (P:Program)(nm:Nat->Option Nat)(N:Nat)(q:List I5)(es:List (Nat×Nat×List AV))(fs:List Eff)(t:AI)(ops:Array Oper):Bool:=
 Bf8 P nm N ops es fs q 0 q&&Aoe q es&&(Adb ops q fs&&Aja none fs)&&decide (q.length<=ops.size)&&Amn ops&&Amo ops q.length&&(match U0 P nm N ops t none [] [] (ops.toList.drop q.length)with|some []=>true|_=>false)
section
variable {P : Program} {ops : Array Oper} {Q : Exit -> Go.Act -> World -> Prop}
theorem H8 {o:Oper}{j k:Nat}{listed:Array Bool}(hb:Aml o j=true)(ho:ops[k]? =some o)(hk:k∈Region.ready .any ops listed):listed.getD j false=true:=by
 obtain⟨_,o',aT,he⟩:=mem_ready.1 hk;rw [ho]at aT;simp only [B6g]at aT;subst aT;simp only [Aml,Array.any_eq_true']at hb;obtain⟨e,xJ,rE⟩:=hb;simp only [B6h,B62]at rE;obtain⟨rE,rfl⟩:=rE;exact he e xJ rE
theorem Bf9 (hb:Amn ops=true){k:Nat}{o:Oper}(ho:ops[k]? =some o):∀e∈o.after,Region.binds .any e=true->e.on<k:=by
 intro e he rE;have hk:k<ops.size:=(B72.1 ho).1;have:=B6q.1 hb k (List.mem_range.2 hk);rw [ho]at this;simp only [Array.all_eq_true_iff_forall_mem,B7n,B7b,B6o]at this;rcases this e he with h|h
 ·rw [rE]at h;simp at h
 ·exact h
theorem Asm {m:Nat}(ht:Amo ops m=true){k:Nat}{o:Oper}(ho:ops[k]? =some o)(hk:m<k):Aml o (k-1)=true:=by
 have cG:k<ops.size:=(B72.1 ho).1;have:=B6q.1 ht k (List.mem_range.2 cG);simp only [B7n,B6o]at this;rcases this with h|h
 ·omega
 ·rw [B6j (by omega)]at h
  simpa only [W8,ho]using h
theorem Aw3 {m:Nat}(ht:Amo ops m=true)(hm:m<ops.size):Ap8 ops m (List.range m)=true:=by
 have:=B6q.1 ht m (List.mem_range.2 hm);simpa using this
theorem Aw4 {m:Nat}(hb:Amn ops=true)(ht:Amo ops m=true):∀(fuel k:Nat)(listed:Array Bool)(a:Go.Act)(w:World),m<=k->ops.size<=k+fuel->listed.size=ops.size->(∀j,j<ops.size->listed.getD j false=decide (j<k))->
  wpList P ops Q (ops.toList.drop k) a w->wpAny P .any ops Q fuel listed a w:=by
 intro fuel;have rdy:∀(k:Nat)(listed:Array Bool),m<=k->listed.size=ops.size->(∀j,j<ops.size->listed.getD j false=decide (j<k))->∀i,i∈Region.ready .any ops listed->i=k/\k<ops.size:=by
  intro k listed aS aL hl i hi;obtain⟨h0,o,ho,_⟩:=mem_ready.1 hi;have tQ:i<ops.size:=(B72.1 ho).1;have tR:listed.getD i false=false:=by
   rw [B61]at h0 ⊢;rw [B7o (by omega)]at h0 ⊢
   simpa using h0
  rw [hl i tQ]at tR;have zZ:k<=i:=by simpa using tR
  rcases B7f k i with h|h
  ·have:=H8 (Asm ht ho (by omega)) ho hi
   rw [hl (i-1) (by omega)]at this
   simp only [B6o]at this;omega
  ·exact⟨by omega,by omega⟩
 induction fuel with
 |zero=>
  intro k listed a w aS mE aL hl h;refine⟨?_,?_⟩
  ·cases hr:Region.ready .any ops listed with
   |nil=>rfl
   |cons i r=>
    have:=rdy k listed aS aL hl i (by rw [hr];simp)
    omega
  ·rw [B84 (by simp;omega)]at h
   exact h
 |succ fuel ih=>
  intro k listed a w aS mE aL hl h;refine⟨λ hr=> ?_,λ i hi=> ?_⟩
  ·rcases B7f k ops.size with hk|hk
   case inr=>
    rw [B84 (by simpa using hk)]at h
    exact h
   have:k∈Region.ready .any ops listed:=by
    refine mem_ready.2 ⟨?_,ops[k],B7o hk,λ e he rE=> ?_⟩
    ·have:=hl k hk;rw [B61,B7o (by omega)]at this ⊢
     simpa using this
    ·have:=Bf9 hb (B7o hk) e he rE;rw [hl e.on (by omega)];simpa using this
   rw [hr]at this;simp at this
  ·obtain⟨rfl,hk⟩:=rdy k listed aS aL hl i hi;have ho:ops[i]? =some ops[i]:=B7o hk;rw [B8q (by simpa using hk)]at h
   simp only [Array.getElem_toList,wpList]at h;have next:∀a w,wpList P ops Q (ops.toList.drop (i+1)) a w->wpAny P .any ops Q fuel (listed.setIfInBounds i true) a w:=λ a w h=>by
    refine ih (i+1) _ a w (by omega) (by omega) (by simpa using aL) (λ j hj=> ?_) h
    by_cases rS:i=j
    ·subst rS;simp [B61,show i<listed.size by omega]
    ·rw [getD_set_ne _ rS,hl j hj];simp;omega
   unfold wpOp;simp only [ho];split
   ·rename_i hw;simp only [hw,B68]at h;exact h.imp (Oper.wp_mono next) id
   ·rename_i hw;simp only [hw,B6p,B7d]at h;exact next _ _ h
end
def unl (listed:Array Bool):Nat->List I5->List Nat
 |_,[]=>[]
 |k,x::r=>(if listed.getD k false then []else x.d.toList)++unl listed (k+1) r
theorem Ac6 {listed:Array Bool}{i:Nat}:∀{q:List I5}{k:Nat},i∈unl listed k q↔∃(j:Nat)(x:I5),q[j]? =some x/\listed.getD (k+j) false=false/\x.d=some i
 |[],k=>by simp [unl]
 |x::r,k=>by
  simp only [unl,B65,Ac6 (q:=r) (k:=k+1)];constructor
  ·rintro(h|⟨j,y,h1,h2,h3⟩)
   ·split at h
    ·simp at h
    ·rename_i hk;exact⟨0,x,rfl,by simpa using hk,by simpa using h⟩
   ·exact⟨j+1,y,by simpa using h1,by rw [<-h2];congr 1;omega,h3⟩
  ·rintro⟨j,y,h1,h2,h3⟩;cases j with
   |zero=>
    simp at h1;subst h1;left;simp at h2;rw [B6j (by simp [h2])]
    simp [h3]
   |succ j=>exact .inr ⟨j,y,by simpa using h1,by rw [<-h2];congr 1;omega,h3⟩
theorem Aaf {i:Nat}:∀{q:List I5},i∈I5.dsts q↔∃(j:Nat)(x:I5),q[j]? =some x/\x.d=some i
 |[]=>by simp [I5.dsts]
 |x::r=>by
  simp only [I5.dsts,B65,Aaf (q:=r)];constructor
  ·rintro(h|⟨j,y,h1,h2⟩)
   ·exact⟨0,x,rfl,by simpa using h⟩
   ·exact⟨j+1,y,by simpa using h1,h2⟩
  ·rintro⟨j,y,h1,h2⟩;cases j with
   |zero=>simp at h1;subst h1;left;simp [h2]
   |succ j=>exact .inr ⟨j,y,by simpa using h1,h2⟩
theorem Bey {Γ:H6}{s:St}{A:Act}{v:AV}{s':St}(hq:A.quq=true)(h:act Γ s A=some (v,s'))(hl:s'.ob.length=s.ob.length):s'.ob=s.ob:=by
 cases hA:A.quiet with
 |true=>exact Bn7 hA h hl
 |false=>
  simp only [Act.quq,hA,Bool.false_or]at hq;cases A<;>simp only [Act.isQ,B6p]at hq;simp only [act]at h;split at h
  ·simp at h
  ·split at h
   ·simp at h
   ·split at h
    ·simp only [B6m,B6k]at h;obtain⟨_,_,_,rfl⟩:=h;rfl
    ·simp at h
theorem Ay0 {Γ:H6}{x:I5}{r:List I5}{s s':St}(h:evq Γ (x::r) s=some s'):
  (x.a.quq=false/\evq Γ r s=some s')\/(x.a.quq=true/\met s x.g=some false/\evq Γ r (s.put x.d (.tup []))=some s')\/∃v s1,met s x.g=some true/\act Γ s x.a=some (v,s1)/\x.a.quq=true/\s1.ob=s.ob/\evq Γ r (s.put x.d v)=some s':=by
 simp only [evq]at h;split at h
 ·exact .inl ⟨‹_›,h⟩
 ·rename_i hq;split at h
  ·simp at h
  ·exact .inr (.inl ⟨hq,‹_›,h⟩)
  ·split at h
   ·rename_i v s1 h1;split at h
    ·rename_i hl;exact .inr (.inr ⟨v,s1,‹_›,h1,hq,Bey hq h1 hl,h⟩)
    ·simp at h
   ·simp at h
theorem Acb (s:St)(d:Option Nat)(v:AV):(s.put d v).ob=s.ob:=by cases d<;>rfl
theorem Q5 (s:St)(d:Option Nat)(v:AV)(i:Nat):get (s.put d v).fr i=if d=some i then some v else get s.fr i:=by
 cases d with
 |none=>simp [St.put]
 |some j=>simp only [St.put,G2,B6g]
theorem X4 {Γ:H6}:∀{q:List I5}{s s':St},evq Γ q s=some s'->s'.ob=s.ob/\∀i,i∉I5.dsts q->get s'.fr i=get s.fr i
 |[],s,s',h=>by simp only [evq,B6g]at h;subst h;exact⟨rfl,λ _ _=>rfl⟩
 |x::r,s,s',h=>by
  have key:∀v,evq Γ r (s.put x.d v)=some s'->s'.ob=s.ob/\∀i,i∉I5.dsts (x::r)->get s'.fr i=get s.fr i:=λ v h=>by
   obtain⟨h1,h2⟩:=X4 h;refine⟨by rw [h1,Acb],λ i hi=> ?_⟩
   simp only [I5.dsts,B65,not_or]at hi;rw [h2 i hi.2,Q5,B6j (by intro hd;exact hi.1 (by simp [hd]))]
  rcases Ay0 h with ⟨_,h⟩|⟨_,_,h⟩|⟨v,s1,_,_,_,_,h⟩
  ·obtain⟨h1,h2⟩:=X4 h;exact⟨h1,λ i hi=>h2 i λ hd=>hi (by simp only [I5.dsts,B65];exact .inr hd)⟩
  ·exact key _ h
  ·exact key _ h
theorem A6y {Γ:H6}:∀{q:List I5}{s s':St}(k:Nat),evq Γ q s=some s'->∃sk,evq Γ (q.drop k) sk=some s'/\sk.ob=s.ob
 |q,s,s',0,h=>⟨s,h,rfl⟩
 |[],s,s',k+1,h=>⟨s,h,rfl⟩
 |x::r,s,s',k+1,h=>by
  rcases Ay0 h with ⟨_,h⟩|⟨_,_,h⟩|⟨v,s1,_,_,_,_,h⟩
  ·exact A6y k h
  ·obtain⟨sk,h1,h2⟩:=A6y k h;exact⟨sk,h1,by rw [h2,Acb]⟩
  ·obtain⟨sk,h1,h2⟩:=A6y k h;exact⟨sk,h1,by rw [h2,Acb]⟩
theorem Ac7 {P:Program}{nm:Nat->Option Nat}{N:Nat}{ops:Array Oper}{es:List (Nat×Nat×List AV)}{fs:List Eff}{q:List I5}:∀{r:List I5}{k:Nat},Bf8 P nm N ops es fs q k r=true->∀{j:Nat}{x:I5},r[j]? =some x->
  ∃o,ops[k+j]? =some o/\Q4 ops x.g o=true/\o.dst=x.d/\Abe N [] x.d=true/\(match x.a with
   | .frz _=>(match get fs (k+j)with|some (d,A,_)=>Bl8 P nm q (r.drop (j+1)) (k+j) o x d A|none=>false)
   |_=>Aqm P nm es fs o x)=true/\(∀i∈x.slots,i∉I5.dsts (r.drop j))/\(∀i,x.d=some i->i∉I5.dsts (r.drop (j+1)))/\Amm o x.slots 0 (q.take (k+j))=true
 |[],k,_,j,x,hx=>by simp at hx
 |y::r,k,h,j,x,hx=>by
  simp only [Bf8,B6h]at h;obtain⟨h1,h2⟩:=h;cases j with
  |zero=>
   simp at hx;subst hx;split at h1
   ·rename_i o ho;simp only [B6h,B62,B6q,B7b,B63,B7k]at h1;obtain⟨⟨⟨⟨⟨⟨a1,a2⟩,a3⟩,a4⟩,a5⟩,a6⟩,a7⟩:=h1;exact⟨o,ho,a1,a2,a3,a4,a5,λ i hi=>a6 i (by simp [hi]),a7⟩
   ·simp at h1
  |succ j=>
   obtain⟨o,ho,h3⟩:=Ac7 h2 (j:=j) (x:=x) (by simpa using hx)
   refine⟨o,by rw [<-ho];congr 1;omega,?_⟩
   rw [show k+(j+1)=k+1+j by omega]
   simpa using h3
theorem Asn {o:Oper}{slots:List Nat}:∀{q:List I5}{k:Nat},Amm o slots k q=true->∀{j i:Nat}{y:I5},q[j]? =some y->y.d=some i->i∈slots->Aml o (k+j)=true
 |[],k,_,j,i,y,hy,_,_=>by simp at hy
 |z::q,k,h,j,i,y,hy,hd,hi=>by
  simp only [Amm,B6h]at h;cases j with
  |zero=>
   simp at hy;subst hy;have:=h.1;simp only [hd,Option.toList_some,B7r,List.all_nil,B8m,B7n,B7b,B63,B7k]at this;exact this.resolve_left (by simpa using hi)
  |succ j=>
   have:=Asn h.2 (j:=j) (by simpa using hy) hd hi
   rw [<-this];congr 1;omega
theorem Rel.drew {γ:Array Value}{B:Bd}{F0:A8}{w0 w:World}{N:Nat}{s:St}{a:Go.Act}(hr:Rel γ B F0 w0 N s a w):Rel γ B F0 w0 N s a {w with drawn:=w.drawn+1}:=by
 obtain⟨hG,F,ρ,hm,hf,he,hN,cX⟩:=hr;exact⟨hG,F,ρ,⟨⟨hm.facts.at_,hm.facts.glob⟩,hm.big,hm.bare,hm.own,hm.apart,hm.inj⟩,hf,⟨he.le,he.below.drew,he.new⟩,hN,cX⟩
theorem Aid {ops:Array Oper}{g:Option (Nat×Bool)}{o:Oper}{s:St}{a:Go.Act}{γ:Array Value}{F:A8}{ρ:Map}{b:Bool}(hg:Q4 ops g o=true)(hM:met s g=some b)(hf:FrG γ F ρ s.ob s.fr a):Region.wanted o (yielded ops a.tmps)=b:=by
 unfold Q4 at hg;split at hg
 ·rename_i h;simp only [met,B6g]at hM;subst hM;simp [Region.wanted,h]
 ·rename_i t want j want' h;simp only [B6h,B62,B6o]at hg;obtain⟨⟨rfl,hj⟩,tO⟩:=hg;simp only [met]at hM;split at hM
  ·rename_i c ht;simp only [B6g]at hM;subst hM;have hv:=DR.bool_ (hf t _ ht);rw [Akz,B6l tO]at hv;have:a.tmps[t]? =some (.bool c):=by
    rw [B61]at hv;cases hx:a.tmps[t]? with
    |none=>rw [hx]at hv;simp [undef]at hv
    |some y=>rw [hx]at hv;simp at hv;rw [hv]
   simp only [Region.wanted,h,yielded,hj,Option.bind_some,this];cases c<;>cases want<;>rfl
  ·rename_i ht;simp only [B6g]at hM;subst hM;obtain⟨us,hu,hall⟩:=hf t _ ht;rw [Akz,B6l tO]at hu;cases hall;have:yielded ops a.tmps j=none:=by
    simp only [yielded,hj,Option.bind_some];rw [B61]at hu;cases hx:a.tmps[t]? with
    |none=>rfl
    |some y=>rw [hx]at hu;simp at hu;rw [hu]
   simp only [Region.wanted,h,this];cases want<;>rfl
  ·simp at hM
 ·simp at hg
theorem Aex :∀{es:List (Nat×Nat×List AV)}{s s':St},evA es s=some s'->
  (∀j,get es j=none->get s'.ob j=get s.ob j)/\(∀key d cs,get es key=some (d,cs)->get s'.ob key=some ⟨cs.length,[cs]⟩/\get s.ob key=none)/\(∀i,(es.all λ e=>e.2.1 !=i)=true->get s'.fr i=get s.fr i)
 |[],s,s',h=>by
  simp only [evA,B6g]at h;subst h;exact⟨λ _ _=>rfl,λ _ _ _ h=>by simp [get]at h,λ _ _=>rfl⟩
 |(key,d,cs)::r,s,s',h=>by
  simp only [evA]at h;split at h
  ·simp at h
  ·rename_i hk;obtain⟨h1,h2,h3⟩:=Aex h;refine⟨λ j hj=> ?_,λ key' d' bS h'=> ?_,λ i hi=> ?_⟩
   ·simp only [get]at hj;split at hj
    ·simp at hj
    ·rename_i aH;rw [h1 j hj,Acb,J2,B6j aH]
   ·simp only [get]at h';split at h'
    ·rename_i he;subst he;simp only [B6g,B6k]at h';obtain⟨rfl,rfl⟩:=h';refine⟨?_,hk⟩;have hn:get r key=none:=by
      cases hr:get r key with
      |none=>rfl
      |some p=>
       have:=(h2 key p.1 p.2 hr).2;rw [Acb,J2,B6l rfl]at this;simp at this
     rw [h1 key hn,Acb,J2,B6l rfl]
    ·rename_i aH;obtain⟨h4,h5⟩:=h2 _ _ _ h';rw [Acb,J2,B6j aH]at h5;exact⟨h4,h5⟩
   ·simp only [B7r,B6h,bne_iff_ne,ne_eq]at hi;rw [h3 i hi.2,Q5,B6j (by simpa using hi.1)];rfl
theorem Aw5 :∀{es:List (Nat×Nat×List AV)}{s s':St},evA es s=some s'->∀e∈es,get es e.1=some e.2
 |[],s,s',_,e,he=>by simp at he
 |(key,d,cs)::r,s,s',h,e,he=>by
  simp only [evA]at h;split at h
  ·simp at h
  ·rename_i hk;rcases B6r.1 he with rfl|he
   ·simp [get]
   ·have h1:=Aw5 h e he;have h2:=((Aex h).2.1 e.1 e.2.1 e.2.2 h1).2;rw [Acb,J2]at h2;simp only [get];split at h2
    ·simp at h2
    ·rename_i aH;rw [B6j aH];exact h1
theorem A9m {q:List I5}:∀{es:List (Nat×Nat×List AV)}{s s':St},evA es s=some s'->Aoe q es=true->∀key d cs,get es key=some (d,cs)->get s'.fr d=some (.loc key 0 0)
 |[],s,s',h,_,key,d,cs,he=>by simp [get]at he
 |(key',d',bS)::r,s,s',h,hc,key,d,cs,he=>by
  simp only [evA]at h;simp only [Aoe,B6h]at hc;split at h
  ·simp at h
  ·simp only [get]at he;split at he
   ·rename_i hk;subst hk;simp only [B6g,B6k]at he;obtain⟨rfl,rfl⟩:=he;rw [(Aex h).2.2 d' hc.1.2,Q5,B6l rfl]
   ·exact A9m h hc.2 key d cs he
theorem A9n :∀{es:List (Nat×Nat×List AV)}{s:St},okA es s=true->∀key d cs,get es key=some (d,cs)->(∀p∈s.fr,p.1=d\/p.2.names key=false)/\(∀p∈s.ob,∀r∈p.2.rows,∀v∈r,v.names key=false)
 |[],s,_,key,d,cs,h=>by simp [get]at h
 |(key',d',bS)::r,s,h,key,d,cs,he=>by
  simp only [okA,B6h,B6q,B7n,B62,B7b]at h;obtain⟨⟨h1,h2⟩,h3⟩:=h;simp only [get]at he;split at he
  ·rename_i hk;subst hk;simp only [B6g,B6k]at he;obtain⟨rfl,rfl⟩:=he;exact⟨h1,h2⟩
  ·exact A9n h3 key d cs he
theorem Aso {q:List I5}:∀{es:List (Nat×Nat×List AV)},Aoe q es=true->∀key d cs,get es key=some (d,cs)->∃x∈q,Afm key x=true
 |[],_,key,d,cs,h=>by simp [get]at h
 |(key',d',bS)::r,h,key,d,cs,he=>by
  simp only [Aoe,B6h,B9g]at h;simp only [get]at he;split at he
  ·rename_i hk;subst hk;exact h.1.1
  ·exact Aso h.2 key d cs he
def unk (listed:Array Bool):Nat->List I5->List Nat
 |_,[]=>[]
 |k,x::r=>(if listed.getD k false then []else match x.a with| .alc key _=>[key]|_=>[])++unk listed (k+1) r
theorem Af9 {listed:Array Bool}{i:Nat}:∀{q:List I5}{k:Nat},i∈unk listed k q↔∃(j:Nat)(x:I5),q[j]? =some x/\listed.getD (k+j) false=false/\Afm i x=true
 |[],k=>by simp [unk]
 |x::r,k=>by
  have hx:i∈(match x.a with| .alc key _=>[key]|_=>[])↔Afm i x=true:=by
   unfold Afm;split<;>simp;exact eq_comm
  simp only [unk,B65,Af9 (q:=r) (k:=k+1)];constructor
  ·rintro(h|⟨j,y,h1,h2,h3⟩)
   ·split at h
    ·simp at h
    ·rename_i hk;exact⟨0,x,rfl,by simpa using hk,hx.1 h⟩
   ·exact⟨j+1,y,by simpa using h1,by rw [<-h2];congr 1;omega,h3⟩
  ·rintro⟨j,y,h1,h2,h3⟩;cases j with
   |zero=>
    simp at h1;subst h1;left;simp at h2;rw [B6j (by simp [h2])]
    exact hx.2 h3
   |succ j=>exact .inr ⟨j,y,by simpa using h1,by rw [<-h2];congr 1;omega,h3⟩
theorem T0.sub_ {B:Bd}{F:A8}{ρ:Map}{ob aA:OL}{w:World}(hm:T0 B F ρ ob w)(hs:∀k o,get aA k=some o->get ob k=some o):T0 B F ρ aA w where
 facts:=hm.facts
 big:=hm.big
 bare:=λ k o h=>hm.bare k o (hs k o h)
 own:=λ k o p h1 h2=>by
  obtain⟨g1,g2⟩:=hm.own k o p (hs k o h1) h2;exact⟨g1,g2.imp λ r hr x hx v hv=>hv.sub hs⟩
 apart:=λ k o p h1 h2=>hm.apart k o p (hs k o h1) h2
 inj:=λ k o p k' o' p' h1 h2 h3 h4=>hm.inj k o p k' o' p' (hs k o h1) h2 (hs k' o' h3) h4
theorem Rel.less {γ:Array Value}{B:Bd}{F0:A8}{w0 w:World}{N:Nat}{s s':St}{a:Go.Act}(hr:Rel γ B F0 w0 N s a w)(aD:∀k o,get s'.ob k=some o->get s.ob k=some o)(h:∀i v,get s'.fr i=some v->get s.fr i=some v):Rel γ B F0 w0 N s' a w:=by
 obtain⟨hG,F,ρ,hm,hf,he,hN,cX⟩:=hr;exact⟨hG,F,ρ,hm.sub_ aD,λ i v hi=>(hf i v (h i v hi)).sub aD,he,hN,cX⟩
theorem Ahn {i:Nat}:∀{xs:List J8},J8.t i∈xs->i∈N1 xs
 |[],h=>by simp at h
 | .t n::r,h=>by
  simp only [B6r,J8.t.injEq]at h;simp only [N1,B6r];rcases h with rfl|h
  ·exact .inl rfl
  ·exact .inr (Ahn h)
 | .k v::r,h=>by
  simp only [B6r,reduceCtorEq,false_or]at h;exact Ahn (xs:=r) h
theorem Als {q:List I5}:∀{es:List (Nat×Nat×List AV)},Aoe q es=true->∀e∈es,∃x∈q,Afm e.1 x=true
 |[],_,e,he=>by simp at he
 |(key',d',bS)::r,h,e,he=>by
  simp only [Aoe,B6h,B9g]at h;rcases B6r.1 he with rfl|he
  ·exact h.1.1
  ·exact Als h.2 e he
theorem Boa {Γ:H6}{A:Act}{s s':St}{v:AV}{k:Nat}(he:Ab5 s A=some k)(h:act Γ s A=some (v,s')):s'.fr=s.fr/\∀j,j≠k->get s'.ob j=get s.ob j:=by
 obtain⟨h1,_,h2⟩:=Bf7 he h (t:=s) (λ _ _=>rfl) (λ _ h=>h) (λ _ h=>h) (λ _ _ _ _ _ _=>rfl)
 exact⟨h1,h2⟩
theorem Bux {Γ:H6}{q:List I5}{f:Eff}{s s1:St}{v:AV}(h:Awk Γ q s f=some (v,s1)):s1.fr=s.fr:=by
 unfold Awk at h;split at h
 ·split at h
  ·exact Ap6 h
  ·simp only [B6g,B6k]at h;rw [<-h.2]
  ·simp at h
 ·exact Ap6 h
theorem Aw6 {s:St}{A:Act}{k:Nat}(h:Ab5 s A=some k):A.gen=false:=by
 cases A<;>simp [Ab5]at h<;>rfl
theorem A9o {Γ:H6}{q:List I5}{f:Eff}{s:St}(h:f.2.2.1.gen=false):Awk Γ q s f=act Γ s f.2.2.1:=by
 unfold Awk;rw [h];simp
theorem Aho {Γ:H6}{q:List I5}{es:List (Nat×Nat×List AV)}{f:Eff}{r:List Eff}{s s':St}(h:evF Γ q es (f::r) s=some s'):
  ∃v s1,Awk Γ q s f=some (v,s1)/\s1.fr=s.fr/\(okA es s=true->okA es (s1.put f.2.1 v)=true)/\evF Γ q es r (s1.put f.2.1 v)=some s'/\(∀r',evF Γ q es (f::r') s=evF Γ q es r' (s1.put f.2.1 v))/\
   ((∃k,Ab5 s f.2.2.1=some k/\f.2.2.1.gen=false/\(∀i∈f.2.2.2.1,∀u,get s.fr i=some u->u.names k=false)/\(∀d' cs,get es k=some (d',cs)->d'∈N1 f.2.2.1.xs)/\∀j,j≠k->get s1.ob j=get s.ob j)\/(es=[]/\f.2.2.1.gen=true/\Adh Γ q (s1.put f.2.1 v) f.2.2.2.1=true)):=by
 obtain⟨j,d,A,ls,anc⟩:=f;have h0:=h;simp only [evF]at h;split at h
 ·rename_i hk;split at h
  ·simp at h
  ·rename_i v s1 cY;split at h
   ·rename_i hc;have nA:=hc;simp only [B6h,List.isEmpty_iff]at hc;refine⟨v,s1,cY,Bux cY,λ _=>by rw [hc.1.1];rfl,h,λ r'=> ?_,.inr ⟨hc.1.1,hc.1.2,hc.2⟩⟩
    simp only [evF,hk,cY];rw [B6l nA]
   ·simp at h
 ·rename_i k hk;split at h
  ·simp at h
  ·rename_i v s1 cY;split at h
   ·rename_i hc;have nA:=hc;simp only [Aqf,B6h,B6q]at hc;obtain⟨g1,g2⟩:=Boa hk cY;refine⟨v,s1,by rw [A9o (Aw6 hk)];exact cY,g1,λ _=>hc.2,h,λ r'=> ?_,.inl ⟨k,hk,Aw6 hk,λ i hi u hu=> ?_,λ d' cs hd=> ?_,g2⟩⟩
    ·simp only [evF,hk,cY];rw [B6l nA]
    ·have:=hc.1.1 i hi;rw [hu]at this;simpa using this
    ·have:=hc.1.2;simpa [hd]using this
   ·simp at h
def evC (Γ:H6)(q:List I5):List Eff->St->Nat->Prop
 |[],_,_=>False
 |f::r,s,j=>match Awk Γ q s f with
  |some (v,s')=>get s'.ob j≠get s.ob j\/evC Γ q r (s'.put f.2.1 v) j
  |none=>False
theorem Ay1 {Γ:H6}{q:List I5}{f:Eff}{r:List Eff}{s s1:St}{v:AV}{j:Nat}(h2:Awk Γ q s f=some (v,s1)):evC Γ q (f::r) s j↔get s1.ob j≠get s.ob j\/evC Γ q r (s1.put f.2.1 v) j:=by
 simp only [evC,h2]
theorem Ay2 {Γ:H6}{q:List I5}{es:List (Nat×Nat×List AV)}:∀{fs:List Eff}{s s':St},evF Γ q es fs s=some s'->(okA es s=true->okA es s'=true)/\(∀j,¬evC Γ q fs s j->get s'.ob j=get s.ob j)/\(∀i,(∀f∈fs,f.2.1≠some i)->get s'.fr i=get s.fr i)
 |[],s,s',h=>by simp only [evF,B6g]at h;subst h;exact⟨id,λ _ _=>rfl,λ _ _=>rfl⟩
 |f::r,s,s',h=>by
  obtain⟨v,s1,h2,g1,h5,h6,_,_⟩:=Aho h;obtain⟨k1,k2,k3⟩:=Ay2 h6;refine⟨λ h0=>k1 (h5 h0),λ j hj=> ?_,λ i hi=> ?_⟩
  ·rw [Ay1 h2,not_or]at hj;rw [k2 j hj.2,Acb];exact Classical.byContradiction λ h=>hj.1 h
  ·rw [k3 i λ f hf=>hi f (by simp [hf]),Q5,B6j (hi f (by simp)),g1]
theorem A9p {Γ:H6}{q:List I5}{es:List (Nat×Nat×List AV)}{i:Nat}{v:AV}(hes:es≠[]):∀{fs:List Eff}{s s':St},evF Γ q es fs s=some s'->(∀f∈fs,f.2.2.1.gen=false->i∈f.2.2.2.1)->(∀f∈fs,f.2.1≠some i)->get s.fr i=some v->∀k,evC Γ q fs s k->v.names k=false
 |[],s,s',h,_,_,_,k,hk=>by simp [evC]at hk
 |f::r,s,s',h,hi,hd,hv,k,hk=>by
  obtain⟨v',s1,h2,g1,h5,h6,_,h7⟩:=Aho h;rw [Ay1 h2]at hk;rcases hk with hk|hk
  ·rcases h7 with ⟨k',_,hg,h3,_,h8⟩|⟨h7,_⟩
   ·by_cases fM:k=k'
    ·subst fM;exact h3 i (hi f (by simp) hg) v hv
    ·exact(hk (h8 k fM)).elim
   ·exact(hes h7).elim
  ·exact A9p hes h6 (λ f hf=>hi f (by simp [hf])) (λ f hf=>hd f (by simp [hf])) (by rw [Q5,B6j (hd f (by simp)),g1];exact hv) k hk
theorem Bga {Γ:H6}{q:List I5}{es:List (Nat×Nat×List AV)}{k d:Nat}{cs:List AV}(he:get es k=some (d,cs)):∀{fs:List Eff}{s s':St},evF Γ q es fs s=some s'->evC Γ q fs s k->∃f∈fs,d∈N1 f.2.2.1.xs
 |[],s,s',h,hk=>by simp [evC]at hk
 |f::r,s,s',h,hk=>by
  obtain⟨v',s1,h2,g1,h5,h6,_,h7⟩:=Aho h;rw [Ay1 h2]at hk;rcases hk with hk|hk
  ·rcases h7 with ⟨k',_,_,_,h4,h8⟩|⟨h7,_⟩
   ·by_cases fM:k=k'
    ·subst fM;exact⟨f,by simp,h4 _ _ he⟩
    ·exact(hk (h8 k fM)).elim
   ·subst h7;simp [get]at he
  ·obtain⟨g,hg,h7⟩:=Bga he h6 hk;exact⟨g,by simp [hg],h7⟩
theorem Ay3 {Γ:H6}{q:List I5}{t:St}:∀{ls:List Nat},Adh Γ q t ls=true->∀{j:Nat}{x:I5},∀{v:AV},j∈ls->q[j]? =some x->met t x.g=some true->(∀i,x.d=some i->get t.fr i=some v)->∃u t',act Γ t x.a=some (u,t')/\t'.ob.length=t.ob.length/\(∀i,x.d=some i->u=v)
 |[],_,j,x,v,hj,_,_,_=>by simp at hj
 |j0::ls,h,j,x,v,hj,hx,hm,hv=>by
  simp only [Adh,B6h]at h;rcases B6r.1 hj with rfl|hj
  ·have h1:=h.1;rw [hx]at h1;simp only [Ajk,hm,Ba8]at h1;unfold okL at h1;split at h1
   ·rename_i u t' cY;simp only [B6h,B6o]at h1;refine⟨u,t',cY,h1.1,λ i hi=> ?_⟩
    have h2:=h1.2;simp only [hi,hv i hi]at h2;exact(Bzd _ _ h2).symm
   ·simp at h1
  ·exact Ay3 h.2 hj hx hm hv
theorem A9q {Γ:H6}{s:St}:∀{q:List I5},Aak Γ s q=true->∀{k:Nat}{x:I5},q[k]? =some x->x.a.isQ=true->Ajk Γ s (some x)=true
 |[],_,k,x,hx,_=>by simp at hx
 |y::r,h,k,x,hx,hq=>by
  simp only [Aak,B6h]at h;cases k with
  |zero=>
   simp only [B8u,B6g]at hx;subst hx;have:=h.1;rw [hq]at this;exact this
  |succ k=>exact A9q h.2 (by simpa using hx) hq
theorem Brs {Γ:H6}{q:List I5}{k:Nat}{x:I5}{v:AV}(hx:q[k]? =some x)(hqq:x.a.quq=true):∀{fs:List Eff}{s s':St},evF Γ q [] fs s=some s'->(x.a.quiet=true\/∀f∈fs,f.2.2.1.gen=true)->(∀f∈fs,(if f.2.2.1.gen=true then k∈f.2.2.2.1 else ∀i∈x.slots,i∈f.2.2.2.1))->(∀f∈fs,(∀i∈x.slots,f.2.1≠some i)/\∀i,x.d=some i->f.2.1≠some i)->(∀y∈x.a.xs,Ap7 y=true)->
  met s x.g=some true->(∀i,x.d=some i->get s.fr i=some v)->(∃u,act Γ s x.a=some (u,s)/\∀i,x.d=some i->u=v)->∃u,act Γ s' x.a=some (u,s')/\∀i,x.d=some i->u=v
 |[],s,s',h,_,_,_,_,_,_,hu=>by simp only [evF,B6g]at h;subst h;exact hu
 |f::r,s,s',h,hq0,hl,hd,hn,hm,hv,⟨u,hu,huv⟩=>by
  obtain⟨v',s1,h2,g1,h5,h6,_,h7⟩:=Aho h;obtain⟨d1,d2⟩:=hd f (by simp)
  have dU:∀i∈x.slots,get (s1.put f.2.1 v').fr i=get s.fr i:=λ i hi=>by rw [Q5,B6j (d1 i hi),g1]
  have cJ:met (s1.put f.2.1 v') x.g=some true:=by
   rw [<-hm];unfold met;split
   ·rfl
   ·rename_i t want uU;have:=dU t (by simp [I5.slots,uU])
    simp only [this]
  have hv':∀i,x.d=some i->get (s1.put f.2.1 v').fr i=some v:=λ i hi=>by rw [Q5,B6j (d2 i hi),g1];exact hv i hi
  refine Brs hx hqq h6 (hq0.imp id λ h f hf=>h f (by simp [hf])) (λ f hf=>hl f (by simp [hf])) (λ f hf=>hd f (by simp [hf])) hn cJ hv' ?_
  have wJ:=hl f (by simp)
  rcases h7 with ⟨k',_,hg,h3,_,h8⟩|⟨_,hg,h3⟩
  ·have hq:x.a.quiet=true:=by
    rcases hq0 with h|h
    ·exact h
    ·have:=h f (by simp);rw [hg]at this;simp at this
   rw [hg]at wJ;simp only [B6p,B7d]at wJ;have lB:∀y∈x.a.xs,St.opd ⟨(s1.put f.2.1 v').fr,s.ob⟩ y=s.opd y:=Abp λ i hi=>dU i (by simp [I5.slots,hi])
   have a1:=Ag3 hq lB hu rfl;have a2:=Brr (Γ:=Γ) (s:=⟨(s1.put f.2.1 v').fr,s.ob⟩) (K:=λ j=>j=k') (aA:=(s1.put f.2.1 v').ob) hq (λ j hj=>by rw [Acb];exact h8 j hj) (λ y hy w hw j hj=>by
    subst hj;cases y with
    |k c=>
     have:=hn _ hy;simp only [St.opd,B6g]at hw;subst hw;cases c<;>simp [Ap7]at this<;>rfl
    |t i=>
     simp only [St.opd]at hw;have aP:i∈x.slots:=by
      simp only [I5.slots,B65];exact .inl (Ahn hy)
     rw [dU i aP]at hw;exact h3 i (wJ i aP) w hw) a1
   exact⟨u,a2,huv⟩
  ·rw [hg]at wJ;simp only [B68]at wJ;obtain⟨u',t',a1,a2,a3⟩:=Ay3 h3 wJ hx cJ hv';have:=Bey hqq a1 a2;have h9:=Ap6 a1;refine⟨u',?_,a3⟩;rw [a1];obtain⟨tf,to⟩:=t';simp only at this h9;rw [this,h9]
theorem A9r {Γ:H6}{q:List I5}{es:List (Nat×Nat×List AV)}{f:Eff}{t:St}:∀{fs:List Eff}{s σ:St},evF Γ q es fs s=some σ->evF Γ q es [f] σ=some t->evF Γ q es (fs++[f]) s=some t
 |[],s,σ,h,h2=>by simp only [evF,B6g]at h;subst h;exact h2
 |g::r,s,σ,h,h2=>by
  obtain⟨v,s1,_,_,_,h6,h7,_⟩:=Aho h;rw [B7i,h7];exact A9r h6 h2
theorem Aa3 {ops:Array Oper}{q:List I5}:∀{fs:List Eff},Adb ops q fs=true->∀l1 f l2,fs=l1++f::l2->
  Byk q f.1=true/\Ap8 ops f.1 f.2.2.2.2=true/\(if f.2.2.1.gen then Ak1 f.2.2.2.2 f.2.2.2.1 0 q else Aq9 f.2.2.2.2 f.2.2.2.1 0 q)=true/\(∀g∈l2,g.1≠f.1)
 |[],_,l1,f,l2,h=>by simp at h
 |(j,d,A,ls,anc)::r,hc,l1,f,l2,h=>by
  simp only [Adb,B6h]at hc;obtain⟨⟨⟨⟨h1,h2⟩,h3⟩,h4⟩,h5⟩:=hc;cases l1 with
  |nil=>
   simp only [B7j,B76]at h;obtain⟨rfl,rfl⟩:=h;refine⟨h1,h2,h3,λ g hg=> ?_⟩
   simpa using B6q.1 h4 g hg
  |cons g l1=>
   simp only [B7i,B76]at h;obtain⟨rfl,rfl⟩:=h;exact Aa3 h5 l1 f l2 rfl
theorem Aw7 :∀{fs:List Eff}{p:Option Nat},Aja p fs=true->∀l1 f l2,fs=l1++f::l2->∀l g,l1=l++[g]->g.1∈f.2.2.2.2
 |[],p,_,l1,f,l2,h=>by simp at h
 |(j,d,A,ls,anc)::r,p,hc,l1,f,l2,h=>by
  simp only [Aja,B6h]at hc;cases l1 with
  |nil=>intro l g hl;simp at hl
  |cons g l1=>
   simp only [B7i,B76]at h;obtain⟨rfl,rfl⟩:=h;intro l g hl;cases l1 with
   |nil=>
    cases l with
    |cons x l=>simp at hl
    |nil=>
     simp only [B7j,B76,B7v]at hl;subst hl;obtain⟨_,_,_,_,fanc⟩:=f;simp only [B7j,Aja,B6h,B63,B6o]at hc;exact hc.2.1
   |cons y l1=>
    cases l with
    |nil=>simp at hl
    |cons x l=>
     simp only [B7i,B76]at hl;exact Aw7 hc.2 (y::l1) f l2 rfl l g hl.2
theorem Aw8 {anc ls:List Nat}:∀{q:List I5}{i:Nat},Aq9 anc ls i q=true->∀{j:Nat}{x:I5},q[j]? =some x->x.a.quq=true->x.a.bare=true\/(i+j)∈anc\/∀t∈x.slots,t∈ls
 |[],i,_,j,x,hx,_=>by simp at hx
 |y::q,i,h,j,x,hx,hq=>by
  simp only [Aq9,B6h,B7n,B7b,B63,B6o,B6q]at h;cases j with
  |zero=>
   simp at hx;subst hx;rcases h.1 with ((h1|h1)|h1)|h1
   ·rw [hq]at h1;simp at h1
   ·exact .inl h1
   ·exact .inr (.inl h1)
   ·exact .inr (.inr h1)
  |succ j=>
   have:=Aw8 h.2 (j:=j) (by simpa using hx) hq
   rw [show i+(j+1)=i+1+j by omega];exact this
theorem Ate {anc ls:List Nat}:∀{q:List I5}{i:Nat},Ak1 anc ls i q=true->∀{j:Nat}{x:I5},q[j]? =some x->x.a.quq=true->x.a.bare=true\/(i+j)∈anc\/(i+j)∈ls
 |[],i,_,j,x,hx,_=>by simp at hx
 |y::q,i,h,j,x,hx,hq=>by
  simp only [Ak1,B6h,B7n,B7b,B63,B6o]at h;cases j with
  |zero=>
   simp at hx;subst hx;rcases h.1 with ((h1|h1)|h1)|h1
   ·rw [hq]at h1;simp at h1
   ·exact .inl h1
   ·exact .inr (.inl h1)
   ·exact .inr (.inr h1)
  |succ j=>
   have:=Ate h.2 (j:=j) (by simpa using hx) hq
   rw [show i+(j+1)=i+1+j by omega];exact this
def Buy (ops:Array Oper)(listed:Array Bool):Prop:=∀k j,W8 ops k j=true->listed.getD k false=true->listed.getD j false=true
theorem Acc {ops:Array Oper}{listed:Array Bool}(hd:Buy ops listed){j:Nat}{anc:List Nat}(hc:Ap8 ops j anc=true)(hj:∀i,W8 ops j i=true->listed.getD i false=true):∀(n i:Nat),ops.size-i<=n->i∈anc->listed.getD i false=true
 |0,i,hn,hi=>by
  rcases(by simpa [Ap8]using hc:∀i∈anc,W8 ops j i=true\/∃m∈anc,i<m/\W8 ops m i=true) i hi with h|⟨m,hm,him,hb⟩
  ·exact hj i h
  ·exfalso;unfold W8 at hb;split at hb
   ·rename_i o ho;have:=(B72.1 ho).1;omega
   ·simp at hb
 |n+1,i,hn,hi=>by
  rcases(by simpa [Ap8]using hc:∀i∈anc,W8 ops j i=true\/∃m∈anc,i<m/\W8 ops m i=true) i hi with h|⟨m,hm,him,hb⟩
  ·exact hj i h
  ·have hms:m<ops.size:=by
    unfold W8 at hb;split at hb
    ·rename_i o ho;exact(B72.1 ho).1
    ·simp at hb
   exact hd m i hb (Acc hd hc hj n m (by omega) hm)
section
variable {P : Program} {ops : Array Oper} {Q : Exit -> Go.Act -> World -> Prop}
def mid (listed:Array Bool)(q:List I5)(s2:St):St:=⟨E1 (unl listed 0 q) s2.fr,E1 (unk listed 0 q) s2.ob⟩
theorem Bez {listed:Array Bool}{q:List I5}{k i:Nat}{x:I5}(hx:q[k]? =some x)(hu:i∈unl listed 0 q)(hd:x.d≠some i):i∈unl (listed.setIfInBounds k true) 0 q:=by
 obtain⟨j,y,eJ,fR,sC⟩:=Ac6.1 hu;refine Ac6.2 ⟨j,y,eJ,?_,sC⟩;simp only [B7u]at fR ⊢;have mF:k≠j:=by
  rintro rfl;rw [hx]at eJ;simp only [B6g]at eJ;subst eJ;exact hd sC
 rw [getD_set_ne _ mF];exact fR
theorem A6z {listed:Array Bool}{q:List I5}{k i:Nat}{x:I5}(hx:q[k]? =some x)(hu:i∈unk listed 0 q)(hd:Afm i x=false):i∈unk (listed.setIfInBounds k true) 0 q:=by
 obtain⟨j,y,eJ,fR,sC⟩:=Af9.1 hu;refine Af9.2 ⟨j,y,eJ,?_,sC⟩;simp only [B7u]at fR ⊢;have mF:k≠j:=by
  rintro rfl;rw [hx]at eJ;simp only [B6g]at eJ;subst eJ;rw [hd]at sC;simp at sC
 rw [getD_set_ne _ mF];exact fR
theorem Au6 {listed:Array Bool}{q:List I5}{σ:St}{i:Nat}{v:AV}(h:get (mid listed q σ).fr i=some v):get σ.fr i=some v/\i∉unl listed 0 q:=by
 simp only [mid,E7]at h;split at h
 ·simp at h
 ·exact⟨h,‹_›⟩
theorem T4 {listed:Array Bool}{q:List I5}{σ:St}{i:Nat}(h:i∉unl listed 0 q):get (mid listed q σ).fr i=get σ.fr i:=by
 simp only [mid,E7,B6j h]
theorem Ap9 {listed:Array Bool}{q:List I5}{σ:St}{i:Nat}{v:Obj}(h:get (mid listed q σ).ob i=some v):get σ.ob i=some v/\i∉unk listed 0 q:=by
 simp only [mid,E7]at h;split at h
 ·simp at h
 ·exact⟨h,‹_›⟩
theorem Aa4 {listed:Array Bool}{q:List I5}{σ:St}{i:Nat}(h:i∉unk listed 0 q):get (mid listed q σ).ob i=get σ.ob i:=by
 simp only [mid,E7,B6j h]
def Far (γ:Array Value)(Γ:H6)(ops:Array Oper)(es:List (Nat×Nat×List AV))(fs:List Eff)(q:List I5)(B:Bd)(F0:A8)(w0:World)(N:Nat)(s2 s3:St)(listed:Array Bool)(a:Go.Act)(w:World):Prop:=
 ∃fs1 fs2 σ,fs=fs1++fs2/\evF Γ q es fs1 s2=some σ/\evF Γ q es fs2 σ=some s3/\(∀f∈fs1,listed.getD f.1 false=true)/\(∀f∈fs2,listed.getD f.1 false=false)/\Buy ops listed/\Rel γ B F0 w0 N (mid listed q σ) a w
structure Aeg (P:Program)(nm:Nat->Option Nat)(Γ:H6)(N:Nat)(ops:Array Oper)(es:List (Nat×Nat×List AV))(fs:List Eff)(q:List I5)(s s1 s2 s3:St):Prop where
 hΓ:Aec P nm Γ
 hq:Bf8 P nm N ops es fs q 0 q=true
 hes:Aoe q es=true
 hfs:Adb ops q fs=true
 h1:evq Γ q s=some s1
 h0:Aak Γ s1 q=true
 h2:evA es s1=some s2
 h3:okA es s2=true
section
variable {nm : Nat -> Option Nat} {Γ : H6} {γ : Array Value} {B : Bd} {N : Nat} {F0 : A8} {w0 : World} {q : List I5} {es : List (Nat × Nat × List AV)} {fs : List Eff} {s s1 s2 s3 : St} {k : Nat} {x : I5} {listed : Array Bool} {a : Go.Act} {w : World} {K : Go.Act -> World -> Prop}
theorem Aeg.dsts (D:Aeg P nm Γ N ops es fs q s s1 s2 s3){i j:Nat}{x y:I5}{t:Nat}(hi:q[i]? =some x)(hj:q[j]? =some y)(hx:x.d=some t)(hy:y.d=some t):i=j:=by
 have key:∀{i j:Nat}{x y:I5},q[i]? =some x->q[j]? =some y->x.d=some t->y.d=some t->¬i<j:=by
  intro i j x y hi hj hx hy rS;obtain⟨o,_,_,_,_,_,_,fU,_⟩:=Ac7 D.hq hi;refine fU t hx (Aaf.2 ⟨j-(i+1),y,?_,hy⟩);rw [B7x,<-hj];congr 1;omega
 have:=key hi hj hx hy;have:=key hj hi hy hx;omega
theorem Aeg.eff (D:Aeg P nm Γ N ops es fs q s s1 s2 s3){f:Eff}(hf:f∈fs):∃x,q[f.1]? =some x/\(∃z,x.a= .frz z):=by
 obtain⟨l1,l2,hl⟩:=B87 hf;obtain⟨h,_⟩:=Aa3 D.hfs l1 f l2 hl;unfold Byk at h;split at h
 ·rename_i x hx;split at h
  ·rename_i z hz;exact⟨x,hx,z,hz⟩
  ·simp at h
 ·simp at h
theorem Aeg.get (D:Aeg P nm Γ N ops es fs q s s1 s2 s3){f:Eff}(hf:f∈fs):Am.get fs f.1=some f.2:=by
 have key:∀{fs:List Eff},Adb ops q fs=true->f∈fs->Am.get fs f.1=some f.2:=by
  intro fs
  induction fs with
  |nil=>intro _ h;simp at h
  |cons g r ih=>
   intro h hf;obtain⟨j,d,A,ls,anc⟩:=g;simp only [Adb,B6h]at h;rcases B6r.1 hf with rfl|hf
   ·simp [Am.get]
   ·have:=B6q.1 h.1.2 f hf;simp only [Am.get];rw [B6j (by simpa using B6i (by simpa using this))]
    exact ih h.2 hf
 exact key D.hfs hf
theorem Aeg.effs (D:Aeg P nm Γ N ops es fs q s s1 s2 s3){f:Eff}(hf:f∈fs):∃x o,q[f.1]? =some x/\ops[f.1]? =some o/\o.dst=x.d/\Q4 ops x.g o=true/\Abe N [] x.d=true/\(x.g=none\/f.2.2.1.gen=true)/\x.d=f.2.1/\Aa2 P nm o f.2.2.1=true/\(∀y∈f.2.2.1.xs,Ap7 y=true)/\
  (∀i∈N1 f.2.2.1.xs,i∉I5.dsts (q.drop f.1))/\Amm o (N1 f.2.2.1.xs) 0 (q.take f.1)=true/\(∀y∈q,y.a.quq=true->∀i∈y.slots,f.2.1≠some i)/\(∃z,x.a= .frz z)/\f.2.2.1.xs.length<=GB:=by
 obtain⟨x,hx,z,hz⟩:=D.eff hf;obtain⟨o,ho,hg,hd,nO,hc,dR,fU,mD⟩:=Ac7 D.hq hx;simp only [B7u]at ho hc;rw [hz]at hc;simp only [D.get hf,Bl8,B6h,B62,B6q,B7b,B63,B7k,B7n,B6o]at hc;obtain⟨⟨⟨⟨⟨⟨⟨c1,c2⟩,c3⟩,c4⟩,c5⟩,c6⟩,c7⟩,c8⟩:=hc;refine⟨x,o,hx,ho,hd,hg,nO,c1.imp (λ h=>by simpa using h) id,c2,c3,c4,λ i hi=> ?_,c6,λ y hy hyq i hi h=> ?_,⟨z,hz⟩,c8⟩
 ·have aC:f.1<q.length:=(B6n.1 hx).1;rw [B8q aC,(B6n.1 hx).2];exact c5 i hi
 ·rcases c7 y hy with h1|h1
  ·rw [hyq]at h1;simp at h1
  ·exact h1 i (by rw [h];simp) hi
theorem A29 {i:Nat}(aL:listed.size=ops.size)(hk:k∈Region.ready .any ops listed):listed.getD k false=false:=by
 obtain⟨h0,o,ho,_⟩:=mem_ready.1 hk;have tQ:k<ops.size:=(B72.1 ho).1;rw [B61,B7o (by omega)]at h0 ⊢
 simpa using h0
theorem Bbl (hd:Buy ops listed)(aL:listed.size=ops.size)(hk:k∈Region.ready .any ops listed):Buy ops (listed.setIfInBounds k true):=by
 intro m j hb hl;have hj:listed.getD j false=true:=by
  by_cases aS:k=m
  ·subst aS;unfold W8 at hb;split at hb
   ·rename_i o ho;exact H8 hb ho hk
   ·simp at hb
  ·rw [getD_set_ne _ aS]at hl;exact hd m j hb hl
 by_cases mF:k=j
 ·subst mF;rw [A29 (i:=0) aL hk]at hj;simp at hj
 ·rw [getD_set_ne _ mF];exact hj
theorem Aeg.key (D:Aeg P nm Γ N ops es fs q s s1 s2 s3){j:Nat}(hj:j∈unk listed 0 q):∃m x d cs,q[m]? =some x/\listed.getD m false=false/\Am.get es j=some (d,cs)/\x.d=some d:=by
 obtain⟨i,y,tN,rY,xK⟩:=Af9.1 hj;obtain⟨oy,_,_,_,_,iW,_⟩:=Ac7 D.hq tN;unfold Afm at xK;split at xK
 ·rename_i kk cc pK;simp only [B62]at xK;subst xK;rw [pK]at iW;simp only [Aqm,pK,Act.quq,Act.isQ,Act.quiet,Bool.or_self,B6p,B7d,B6h]at iW;obtain⟨_,iW⟩:=iW;split at iW
  ·rename_i d cs aV;simp only [B6h,B62]at iW;exact⟨i,y,d,cs,tN,by simpa using rY,aV,iW.1⟩
  ·simp at iW
 ·simp at xK
theorem Aeg.read (D:Aeg P nm Γ N ops es fs q s s1 s2 s3){o:Oper}{slots:List Nat}(ho:ops[k]? =some o)(hk:k∈Region.ready .any ops listed)(dR:∀i∈slots,i∉I5.dsts (q.drop k))(mD:Amm o slots 0 (q.take k)=true):∀i∈slots,i∉unl listed 0 q:=by
 intro i hi hu;obtain⟨j,y,eJ,fR,sC⟩:=Ac6.1 hu;simp only [B7u]at fR;have mF:j<k:=by
  rcases B7f j k with h|h
  ·exact h
  ·exfalso;refine dR i hi (Aaf.2 ⟨j-k,y,?_,sC⟩);rw [B7x,<-eJ];congr 1;omega
 have hb:=Asn mD (j:=j) (i:=i) (y:=y) (by rw [B77,B6l mF];exact eJ) sC hi
 simp only [B7u]at hb;have:=H8 hb ho hk;rw [fR]at this;simp at this
def Bym (fs:List Eff)(listed:Array Bool)(k:Nat):Prop:=∀fs1 fs2 f,fs=fs1++fs2->(∀g∈fs1,listed.getD g.1 false=true)->(∀g∈fs2,listed.getD g.1 false=false)->f∈fs2->f.1=k->∃r,fs2=f::r
theorem Bif {ops:Array Oper}{q:List I5}{fs:List Eff}{listed:Array Bool}{k:Nat}(hp:Aja none fs=true)(hn:Adb ops q fs=true)(cD:Buy ops listed)(hk:k∈Region.ready .any ops listed):Bym fs listed k:=by
 intro fs1 fs2 f hfs dP fB hf jU;obtain⟨l1,l2,hl⟩:=B87 hf;rcases List.eq_nil_or_concat l1 with h|⟨l,g,h⟩
 ·subst h;exact⟨l2,hl⟩
 ·exfalso;obtain⟨_,g2,_,_⟩:=Aa3 hn (fs1++l1) f l2 (by rw [hfs,hl,B9b])
  have hga:=Aw7 hp (fs1++l1) f l2 (by rw [hfs,hl,B9b]) (fs1++l) g (by rw [h];simp)
  have:=Acc cD g2 (λ i hb=>by
   unfold W8 at hb;split at hb
   ·rename_i o ho;rw [jU]at ho;exact H8 hb ho hk
   ·simp at hb) ops.size g.1 (by omega) hga
  have h0:=fB g (by rw [hl,h];simp)
  rw [this]at h0;simp at h0
theorem Aeg.step (D:Aeg P nm Γ N ops es fs q s s1 s2 s3)(hx:q[k]? =some x)(aL:listed.size=ops.size)(hk:k∈Region.ready .any ops listed)(lC:Bym fs listed k)
  (hr:Far γ Γ ops es fs q B F0 w0 N s2 s3 listed a w)(hK:∀a' w',Far γ Γ ops es fs q B F0 w0 N s2 s3 (listed.setIfInBounds k true) a' w'->K a' w'):wpOp P ops Q k K a w:=by
 obtain⟨o,ho,hg,hd,nO,hc,dR,fU,mD⟩:=Ac7 D.hq hx;simp only [B7u]at ho hc mD;have wK:=A29 (i:=0) aL hk;have aC:k<q.length:=(B6n.1 hx).1;have hqk:q[k]=x:=(B6n.1 hx).2;have mG:∀i,x.d=some i->i<N:=λ i hi=>by
  rw [hi]at nO;simp [Abe]at nO;exact nO
 obtain⟨fs1,fs2,σ,hfs,iX,mA,dP,fB,cD,hr⟩:=hr;have pM:=Bbl cD aL hk;obtain⟨hG,F,ρ,hm,hf,he,hN,cX⟩:=id hr;have hfp:=(FrG.pad (γ:=γ) (by omega)).1 hf
 have gG:∀i,o.dst=some i->i<a.tmps.size:=λ i hi=>by rw [hN];exact mG i (by rw [<-hd];exact hi)
 obtain⟨c1,c2,c3⟩:=Ay2 iX;have c1:=c1 D.h3;obtain⟨e1,e2,e3⟩:=Aex D.h2;have ok:=A9n c1;have keep1:(∀f∈fs2,f.1≠k)->(∀f∈fs1,(listed.setIfInBounds k true).getD f.1 false=true)/\(∀f∈fs2,(listed.setIfInBounds k true).getD f.1 false=false):=by
  intro aH;refine⟨λ f hf=> ?_,λ f hf=> ?_⟩
  ·rw [getD_set_ne _]
   ·exact dP f hf
   ·rintro rfl;have:=dP f hf;rw [wK]at this;simp at this
  ·rw [getD_set_ne _ (B6i (aH f hf))];exact fB f hf
 have sameFs:(∀z,x.a≠ .frz z)->∀f∈fs,f.1≠k:=by
  rintro aH f hf rfl;obtain⟨y,hy,z,hz⟩:=D.eff hf;rw [hx]at hy;simp only [B6g]at hy;subst hy;exact aH z hz
 have dstFs:(∀z,x.a≠ .frz z)->∀i,x.d=some i->∀f∈fs,f.2.1≠some i:=by
  intro aH i hi f hf h;obtain⟨y,oy,hy,_,_,_,_,_,hyd,_⟩:=D.effs hf;exact sameFs aH f hf (D.dsts hy hx (by rw [hyd,h]) hi)
 have in1:∀f∈fs1,f∈fs:=λ f hf=>by rw [hfs];simp [hf]
 have in2:∀f∈fs2,f∈fs:=λ f hf=>by rw [hfs];simp [hf]
 have next:(∀z,x.a≠ .frz z)->∀(s':St)(a':Go.Act)(w':World),Rel γ B F0 w0 N s' a' w'->(∀j o',Am.get (mid (listed.setIfInBounds k true) q σ).ob j=some o'->Am.get s'.ob j=some o')->
   (∀i v,Am.get (mid (listed.setIfInBounds k true) q σ).fr i=some v->Am.get s'.fr i=some v)->K a' w':=by
  intro aH s' a' w' bU h1 h2;obtain⟨k1,k2⟩:=keep1 λ f hf=>sameFs aH f (in2 f hf)
  exact hK a' w' ⟨fs1,fs2,σ,hfs,iX,mA,k1,k2,pM,bU.less h1 h2⟩
 by_cases hquiet:x.a.quq=true
 ·
  have sD:∀z,x.a≠ .frz z:=λ z h=>by rw [h]at hquiet;simp [Act.quq,Act.isQ,Act.quiet]at hquiet
  have hna:∀kk cc,x.a≠ .alc kk cc:=λ kk cc h=>by rw [h]at hquiet;simp [Act.quq,Act.isQ,Act.quiet]at hquiet
  have hc:Aqm P nm es fs o x=true:=by
   split at hc
   ·rename_i z hz;exact(sD _ hz).elim
   ·exact hc
  unfold Aqm at hc;rw [B6l hquiet]at hc;simp only [B6h,B6q,B7n,B7b,List.isEmpty_iff,B6o]at hc;obtain⟨⟨⟨⟨hc,iY⟩,hes1⟩,hes2⟩,hQ⟩:=hc;obtain⟨sk,h1,aD⟩:=A6y k D.h1;have uV:s1.ob=s.ob:=(X4 D.h1).1;rw [B8q aC,hqk]at h1;have bW:=(X4 h1).2;have nR:=D.read ho hk dR mD;have hqf:∀i∈x.slots,∀f∈fs,f.2.1≠some i:=λ i hi f hf=>by
   obtain⟨_,_,_,_,_,_,_,_,_,_,_,_,_,h,_⟩:=D.effs hf;exact h x (B6t hx) hquiet i hi
  have h12:∀i,(∀e∈es,e.2.1≠i)->Am.get s2.fr i=Am.get s1.fr i:=λ i hi=>e3 i (by simp only [B6q,bne_iff_ne];exact hi)
  have tS:∀i∈x.slots,∀e∈es,e.2.1≠i:=λ i hi e he=>by simpa using hes1 i hi e he
  have tT:∀i∈x.slots,Am.get (mid listed q σ).fr i=Am.get sk.fr i:=by
   intro i hi;rw [T4 (nR i hi),c3 i λ f hf=>hqf i hi f (in1 f hf),h12 i (tS i hi),bW i (by have:=dR i hi;rwa [B8q aC,hqk]at this)]
  have pN:met (mid listed q σ) x.g=met sk x.g:=by
   unfold met;split
   ·rfl
   ·rename_i t want uU;have:=tT t (by simp [I5.slots,uU])
    simp only [this]
  have late:¬x.a.bare=true->∀f∈fs1,(if f.2.2.1.gen=true then k∈f.2.2.2.1 else ∀i∈x.slots,i∈f.2.2.2.1):=by
   intro dB f hf;obtain⟨l1,l2,hl⟩:=B87 (in1 f hf);obtain⟨_,g2,g3,_⟩:=Aa3 D.hfs l1 f l2 hl;have done:k∈f.2.2.2.2->False:=λ h=>by
    have:=Acc cD g2 (λ i hb=>cD f.1 i hb (dP f hf)) ops.size k (by omega) h
    rw [wK]at this;simp at this
   split
   ·rename_i hg;rw [B6l hg]at g3;rcases Ate g3 hx hquiet with h|h|h
    ·exact(dB h).elim
    ·exact(done (by simpa using h)).elim
    ·simpa using h
   ·rename_i hg;rw [B6j hg]at g3;rcases Aw8 g3 hx hquiet with h|h|h
    ·exact(dB h).elim
    ·exact(done (by simpa using h)).elim
    ·exact h
  have hobs:∀j,¬(Am.get es j≠none\/evC Γ q fs1 s2 j)->Am.get (mid listed q σ).ob j=Am.get sk.ob j:=by
   intro j hj;obtain⟨eJ,fR⟩:=not_or.1 hj;have eJ:Am.get es j=none:=by simpa using eJ
   rw [Aa4 λ h=>by obtain⟨_,_,_,_,_,_,h,_⟩:=D.key h;rw [eJ]at h;simp at h,c2 j fR,e1 j eJ,uV,aD]
  have lB:∀y∈x.a.xs,St.opd ⟨(mid listed q σ).fr,sk.ob⟩ y=sk.opd y:=Abp λ i hi=>tT i (by simp [I5.slots,hi])
  have uW:¬x.a.bare=true->es≠[]->∀y∈x.a.xs,∀v,St.opd ⟨(mid listed q σ).fr,sk.ob⟩ y=some v->Nn (λ j=>Am.get es j≠none\/evC Γ q fs1 s2 j) v:=by
   intro dB kH y hy v hv j hj;cases y with
   |k u=>
    have:=iY _ hy;simp only [St.opd,B6g]at hv;subst hv;cases u<;>simp [Ap7]at this<;>rfl
   |t i=>
    simp only [St.opd]at hv;have aP:i∈x.slots:=by
     simp only [I5.slots,B65];exact .inl (Ahn hy)
    have dV:=(Au6 hv).1;rcases hj with hj|hj
    ·cases hje:Am.get es j with
     |none=>exact(hj hje).elim
     |some p=>
      rcases(ok j p.1 p.2 hje).1 _ (B0 dV)with h|h
      ·exact(tS i aP _ (B0 hje) h.symm).elim
      ·exact h
    ·rw [c3 i λ f hf=>hqf i aP f (in1 f hf)]at dV
     exact A9p kH iX (λ f hf hg=>by have:=late dB f hf;rw [hg]at this;simp only [B6p,B7d]at this;exact this i aP) (λ f hf=>hqf i aP f (in1 f hf)) dV j hj
  have hvd:∀v r,evq Γ r (sk.put x.d v)=some s1->r=q.drop (k+1)->∀i,x.d=some i->Am.get σ.fr i=some v:=by
   rintro v r jK rfl i hi;rw [c3 i λ f hf=>dstFs sD i hi f (in1 f hf),h12 i (λ e he=>by simpa using hes2 i (by simp [hi]) e he),(X4 jK).2 i (fU i hi),Q5,B6l hi]
  have uX:∀j,Afm j x=false:=λ j=>by
   unfold Afm;split
   ·rename_i xL;exact(hna _ _ xL).elim
   ·rfl
  have after:∀(v:AV)(a':Go.Act)(w':World),(∀i,x.d=some i->Am.get σ.fr i=some v)->Rel γ B F0 w0 N (St.put (mid listed q σ) x.d v) a' w'->K a' w':=by
   intro v a' w' hv bU;refine next sD _ a' w' bU (λ j o' aT=> ?_) λ i u hi=> ?_
   ·obtain⟨g1,g2⟩:=Ap9 aT;rw [Acb,Aa4 λ h=>g2 (A6z hx h (uX j))];exact g1
   ·obtain⟨g1,g2⟩:=Au6 hi;rw [Q5];by_cases hdi:x.d=some i
    ·rw [B6l hdi,<-hv i hdi];exact g1
    ·rw [B6j hdi,T4 λ h=>g2 (Bez hx h hdi)];exact g1
  unfold wpOp;simp only [ho];rcases Ay0 h1 with ⟨hnq,_⟩|⟨_,pO,jK⟩|⟨v,t1,cC,cY,_,gJ,jK⟩
  ·rw [hquiet]at hnq;simp at hnq
  ·have hw:=Aid (b:=false) hg (by rw [pN];exact pO) hf
   simp only [hw,B6p,B7d];refine after (.tup []) _ _ (hvd _ _ jK rfl) ?_;rw [hd];exact Rel.put hr mG rfl λ F ρ hm hf he=>⟨F,ρ,hm,hf,⟨[],rfl,.nil⟩,.refl B F w⟩
  ·have hw:=Aid (b:=true) hg (by rw [pN];exact cC) hf
   simp only [hw,B68];left;have pS:∃u,act Γ (mid listed q σ) x.a=some (u,mid listed q σ)/\∀i,x.d=some i->u=v:=by
    by_cases dB:x.a.bare=true
    ·have rF:x.a.quiet=true:=by
      cases xL:x.a<;>rw [xL]at dB<;>simp only [Act.bare,B6p]at dB<;>rfl
     exact⟨v,Bn9 dB (Ag3 rF lB cY gJ),λ _ _=>rfl⟩
    by_cases kH:es=[]
    ·have sE:unk listed 0 q=[]:=List.eq_nil_iff_forall_not_mem.2 λ j hj=>by
      obtain⟨_,_,_,_,_,_,h,_⟩:=D.key hj;rw [kH]at h;simp [Am.get]at h
     have hs21:s2=s1:=by
      have:=D.h2;rw [kH]at this;simpa [evA]using this.symm
     have xM:∀i∈x.slots,Am.get s1.fr i=Am.get sk.fr i:=λ i hi=>bW i (by have:=dR i hi;rwa [B8q aC,hqk]at this)
     have xN:∀y∈x.a.xs,St.opd ⟨s1.fr,sk.ob⟩ y=sk.opd y:=Abp λ i hi=>xM i (by simp [I5.slots,hi])
     have hm9:met s1 x.g=some true:=by
      rw [<-cC];unfold met;split
      ·rfl
      ·rename_i t want uU;have:=xM t (by simp [I5.slots,uU])
       simp only [this]
     have hv9:∀i,x.d=some i->Am.get s1.fr i=some v:=λ i hi=>by rw [(X4 jK).2 i (fU i hi),Q5,B6l hi]
     have a1:∃u,act Γ s1 x.a=some (u,s1)/\∀i,x.d=some i->u=v:=by
      by_cases rF:x.a.quiet=true
      ·have h9:=Ag3 rF xN cY gJ;have e9:(⟨s1.fr,sk.ob⟩:St)=s1:=by
        obtain⟨f1,o1⟩:=s1;simp only at uV ⊢;rw [aD,uV]
       rw [e9]at h9;exact⟨v,h9,λ _ _=>rfl⟩
      ·have hisq:x.a.isQ=true:=by simpa [Act.quq,rF]using hquiet
       have iE:Adh Γ q s1 [k]=true:=by
        have h9:=A9q D.h0 hx hisq;simp only [Adh,hx,h9,B64]
       obtain⟨u,t',b1,b2,b3⟩:=Ay3 iE (by simp) hx hm9 hv9
       have h8:=Bey hquiet b1 b2;have h9:=Ap6 b1;refine⟨u,?_,b3⟩;rw [b1];obtain⟨tf,to⟩:=t';simp only at h8 h9;rw [h8,h9]
     have xO:=iX;rw [kH,hs21]at xO;have hq9:x.a.quiet=true\/∀f∈fs1,f.2.2.1.gen=true:=by
      rcases hQ with h|h
      ·left;simpa [Act.quq,h]using hquiet
      ·right;intro f hf;exact h.1.2 f (in1 f hf)
     obtain⟨u,a2,a3⟩:=Brs (v:=v) hx hquiet xO hq9 (late dB) (λ f hf=>⟨λ i hi=>hqf i hi f (in1 f hf),λ i hi=>dstFs sD i hi f (in1 f hf)⟩) iY hm9 hv9 a1
     refine⟨u,?_,a3⟩;by_cases rF:x.a.quiet=true
     ·have e9:mid listed q σ=⟨(mid listed q σ).fr,σ.ob⟩:=by unfold mid;rw [sE];rfl
      rw [e9];refine Ag3 rF (Abp λ i hi=> ?_) a2 rfl
      exact T4 (nR i (by simp [I5.slots,hi]))
     ·have aF:x.a.xs.length<=GB:=by
       rcases hQ with h|h
       ·exact(rF (by simpa [Act.quq,h]using hquiet)).elim
       ·exact h.2
      have lD:mid listed q σ=⟨E1 (unl listed 0 q) σ.fr,σ.ob⟩:=by unfold mid;rw [sE];rfl
      have xP:∀y∈x.a.xs,St.opd ⟨E1 (unl listed 0 q) σ.fr,σ.ob⟩ y=σ.opd y:=Abp λ i hi=>by
       have:=T4 (σ:=σ) (nR i (by simp [I5.slots,hi]))
       rw [lD]at this;exact this
      rw [lD];exact Ayz D.hΓ.mono aF xP a2
    ·have rF:x.a.quiet=true:=by
      rcases hQ with h|h
      ·simpa [Act.quq,h]using hquiet
      ·exact(kH h.1.1).elim
     exact⟨v,Brr (s:=⟨(mid listed q σ).fr,sk.ob⟩) (K:=λ j=>Am.get es j≠none\/evC Γ q fs1 s2 j) (aA:=(mid listed q σ).ob) rF hobs (uW dB kH) (Ag3 rF lB cY gJ),λ _ _=>rfl⟩
   obtain⟨v2,pS,hv2⟩:=pS;have eX:=hc;simp only [Aa2,B6h]at eX;obtain⟨_,eG⟩:=Ag2 D.hΓ hm hfp eX.1.1 pS;refine Ahk (by omega) eX.1.2 eX.2 gG eG _ _ λ u w' hp=>after v2 _ _ (λ i hi=>by rw [hv2 i hi];exact hvd _ _ jK rfl i hi) ?_
   rw [hd];exact Rel.put1 hG rfl he hN cX mG hp
 by_cases fT:∃z,x.a= .frz z
 ·
  obtain⟨z,hz⟩:=fT;rw [hz]at hc;simp only at hc;split at hc
  case h_2=>simp at hc
  rename_i d A lsanc aV;have rG:(k,d,A,lsanc)∈fs:=B0 aV;obtain⟨x',o',kN,aT,_,_,_,rH,sF,wL,iY,sG,nC,_,_,tU⟩:=D.effs rG;simp only at kN aT sF wL iY sG nC tU;rw [hx]at kN;simp only [B6g]at kN;subst kN;rw [ho]at aT;simp only [B6g]at aT;subst aT;have dZ:(k,d,A,lsanc)∈fs2:=by
   rw [hfs]at rG;rcases B65.1 rG with h|h
   ·have:=dP _ h;simp only at this;rw [wK]at this;simp at this
   ·exact h
  obtain⟨l2,hl⟩:=lC fs1 fs2 _ hfs dP fB dZ rfl;have xQ:=mA;rw [hl]at xQ;obtain⟨v,t1,h2,xR,h5,h6,h7,h8⟩:=Aho xQ;simp only at h2 xR h5 h6 h7 h8;have pN:met (mid listed q σ) x.g=met σ x.g:=by
   have hu:=D.read ho hk dR mD;unfold met;split
   ·rfl
   ·rename_i t want uU;have:=T4 (σ:=σ) (hu t (by simp [I5.slots,uU]))
    simp only [this]
  have pT:(act Γ σ A=some (v,t1)/\Region.wanted o (yielded ops a.tmps)=true)\/(met σ x.g=some false/\v= .tup []/\t1=σ):=by
   by_cases rU:A.gen=true
   ·unfold Awk at h2;rw [B6l rU]at h2;have rZ:A50 q σ k=met σ x.g:=by simp only [A50,hx]
    rw [rZ]at h2;split at h2
    ·rename_i cC;exact .inl ⟨h2,by have:=Aid (b:=true) hg (by rw [pN];exact cC) hf;exact this⟩
    ·rename_i cC;simp only [B6g,B6k]at h2;exact .inr ⟨cC,h2.1.symm,h2.2.symm⟩
    ·simp at h2
   ·refine .inl ⟨?_,?_⟩
    ·rw [A9o (by simpa using rU)]at h2;exact h2
    ·rcases rH with rH|rH
     ·rw [rH]at hg;unfold Q4 at hg;split at hg
      ·rename_i h;simp [Region.wanted,h]
      ·simp at*
      ·simp at hg
     ·exact(rU rH).elim
  have nR:=D.read ho hk sG nC;have lB:∀y∈A.xs,(mid listed q σ).opd y=σ.opd y:=by
   intro y hy;cases y with
   |k u=>rfl
   |t i=>exact T4 (nR i (Ahn hy))
  have eX:=wL;simp only [Aa2,B6h]at eX;have fin:∀(s':St)(a':Go.Act)(w':World),s'.fr=(mid listed q σ).fr->Rel γ B F0 w0 N (s'.put x.d v) a' w'->(∀j o',Am.get (mid (listed.setIfInBounds k true) q t1).ob j=some o'->Am.get s'.ob j=some o')->K a' w':=by
   intro s' a' w' mI bT aD;refine hK _ _ ⟨fs1++[(k,d,A,lsanc)],l2,t1.put d v,by rw [hfs,hl];simp,A9r iX (by rw [h7];rfl),h6,?_,?_,pM,bT.less (λ j o' aT=> ?_) λ i u hi=> ?_⟩
   ·intro f hf;rcases B65.1 hf with h|h
    ·by_cases mE:k=f.1
     ·have:=dP f h;rw [<-mE,wK]at this;simp at this
     ·rw [getD_set_ne _ mE];exact dP f h
    ·simp only [B6x]at h;subst h;have eE:k<listed.size:=by
      rw [aL];exact(B72.1 ho).1
     simp [B61,eE]
   ·intro f hf;obtain⟨_,_,_,g5⟩:=Aa3 D.hfs fs1 _ l2 (by rw [hfs,hl])
    rw [getD_set_ne _ (B6i (g5 f hf))];exact fB f (by rw [hl];simp [hf])
   ·rw [Acb];refine aD j o' ?_;have:(mid (listed.setIfInBounds k true) q (t1.put d v)).ob=(mid (listed.setIfInBounds k true) q t1).ob:=by simp only [mid,Acb]
    rw [<-this];exact aT
   ·obtain⟨q1,q2⟩:=Au6 hi;rw [Q5]at q1 ⊢;rw [sF];by_cases hdi:d=some i
    ·rw [B6l hdi]at q1 ⊢;exact q1
    ·rw [B6j hdi]at q1 ⊢;rw [mI,T4 λ h=>q2 (Bez hx h (by rw [sF];exact hdi)),<-xR];exact q1
  unfold wpOp;rcases pT with ⟨h2,hw⟩|⟨pO,wH,ht0⟩
  case inr=>
   have hw:=Aid (b:=false) hg (by rw [pN];exact pO) hf
   simp only [ho,hw,B6p,B7d];refine fin (mid listed q σ) _ _ rfl ?_ λ j o' aT=> ?_
   ·rw [hd,wH];exact Rel.put hr mG rfl λ F ρ hm hf he=>⟨F,ρ,hm,hf,⟨[],rfl,.nil⟩,.refl B F w⟩
   ·rw [ht0]at aT;obtain⟨q1,q2⟩:=Ap9 aT;rw [Aa4 λ h=>q2 (A6z hx h (by simp [Afm,hz]))];exact q1
  simp only [ho,hw,B68];left;rcases h8 with ⟨kk,h1,_,_,h4,_⟩|⟨kH,_,_⟩
  ·have uW:∀y∈A.xs,∀u,σ.opd y=some u->∀j,u.names j=true->Am.get (mid listed q σ).ob j=Am.get σ.ob j:=by
    intro y hy u hu j hj;refine Aa4 λ cG=> ?_
    obtain⟨m,x2,d2,cs2,cC,dV,hm3,xS⟩:=D.key cG;cases y with
    |k c=>
     have:=iY _ hy;simp only [St.opd,B6g]at hu;subst hu;cases c<;>simp [Ap7,AV.names,AV.names1]at this hj
    |t i=>
     simp only [St.opd]at hu;rcases(ok j d2 cs2 hm3).1 _ (B0 hu)with h|h
     ·simp only at h;subst h;exact nR i (Ahn hy) (Ac6.2 ⟨m,x2,cC,by simpa using dV,xS⟩)
     ·rw [h]at hj;simp at hj
   obtain⟨g1,⟨ob,g2,g3⟩,g4⟩:=Bf7 h1 h2 (t:=mid listed q σ) lB (λ p hp=>(Q2 hp).1) (λ p hp=>(Q2 hp).1) uW
   obtain⟨_,eG⟩:=Ag2 D.hΓ hm hfp eX.1.1 g3;refine Ahk (by omega) eX.1.2 eX.2 gG eG _ _ λ u w' hp=> ?_
   rw [hd];refine fin ((mid listed q σ).obj kk ob) _ _ rfl (Rel.put1 hG rfl he hN cX mG hp) λ j o' aT=> ?_
   obtain⟨q1,q2⟩:=Ap9 aT;rw [J2];by_cases hj:kk=j
   ·subst hj;rw [B6l rfl,<-g2];exact q1
   ·rw [B6j hj,Aa4 λ h=>q2 (A6z hx h (by simp [Afm,hz])),<-g4 j (B6i hj)];exact q1
  ·have sE:unk listed 0 q=[]:=List.eq_nil_iff_forall_not_mem.2 λ j hj=>by
    obtain⟨_,_,_,_,_,_,h,_⟩:=D.key hj;rw [kH]at h;simp [Am.get]at h
   have lD:mid listed q σ=⟨E1 (unl listed 0 q) σ.fr,σ.ob⟩:=by unfold mid;rw [sE];rfl
   have g3:act Γ (mid listed q σ) A=some (v,⟨(mid listed q σ).fr,t1.ob⟩):=by
    rw [lD];rw [lD]at lB;exact Ayz D.hΓ.mono tU lB h2
   obtain⟨_,eG⟩:=Ag2 D.hΓ hm hfp eX.1.1 g3;refine Ahk (by omega) eX.1.2 eX.2 gG eG _ _ λ u w' hp=> ?_
   rw [hd];refine fin ⟨(mid listed q σ).fr,t1.ob⟩ _ _ rfl (Rel.put1 hG rfl he hN cX mG hp) λ j o' aT=> ?_
   exact(Ap9 aT).1
 ·
  have sD:∀z,x.a≠ .frz z:=λ z h=>fT ⟨z,h⟩
  have hc:Aqm P nm es fs o x=true:=by
   split at hc
   ·rename_i z hz;exact(sD _ hz).elim
   ·exact hc
  unfold Aqm at hc;rw [B6j hquiet]at hc;split at hc
  case h_2=>simp at hc
  rename_i key cs0 xL;simp only [B6h]at hc;obtain⟨hg0,hc⟩:=hc;split at hc
  case h_2=>simp at hc
  rename_i d cs aV;simp only [B6h,B62]at hc;obtain⟨sF,wL⟩:=hc;have rH:x.g=none:=by simpa using hg0
  have hw:Region.wanted o (yielded ops a.tmps)=true:=by
   rw [rH]at hg;unfold Q4 at hg;split at hg
   ·rename_i h;simp [Region.wanted,h]
   ·simp at*
   ·simp at hg
  have hdu:d∈unl listed 0 q:=Ac6.2 ⟨k,x,hx,by simpa using wK,sF⟩
  have aG:(mid listed q σ).free key=true:=by
   obtain⟨f1,f2⟩:=ok key d cs aV;simp only [St.free,mid,B6h,B6q,B7b];refine⟨λ p hp=> ?_,λ p hp r hr v hv=> ?_⟩
   ·obtain⟨g1,g2⟩:=Q2 hp;rcases f1 p g1 with h|h
    ·exact(g2 (h▸hdu)).elim
    ·exact h
   ·exact f2 p (Q2 (Aef hp).1).1 r hr v hv
  have xT:¬evC Γ q fs1 s2 key:=by
   intro fM;obtain⟨f,rA,dZ⟩:=Bga aV iX fM;obtain⟨y,oy,hy,hoy,_,_,_,_,_,_,_,sG,nC,_,_⟩:=D.effs (in1 f rA);have mE:k<f.1:=by
    rcases B7f k f.1 with h|h
    ·exact h
    ·exfalso;refine sG d dZ (Aaf.2 ⟨k-f.1,x,?_,sF⟩);rw [B7x,<-hx];congr 1;omega
   have hb:=Asn nC (j:=k) (i:=d) (y:=x) (by rw [B77,B6l mE];exact hx) sF dZ
   simp only [B7u]at hb;have:=cD f.1 k (by unfold W8;rw [hoy];exact hb) (dP f rA)
   rw [wK]at this;simp at this
  have cY:act Γ (mid listed q σ) (.alc key cs)=some (.loc key 0 0,(mid listed q σ).obj key ⟨cs.length,[cs]⟩):=by
   simp only [act,aG,B68]
  unfold wpOp;simp only [ho,hw,B68];left;have eX:=wL;simp only [Aa2,B6h]at eX;obtain⟨_,eG⟩:=Ag2 D.hΓ hm hfp eX.1.1 cY;refine Ahk (by omega) eX.1.2 eX.2 gG eG _ _ λ u w' hp=> ?_
  have bT:Rel γ B F0 w0 N (((mid listed q σ).obj key ⟨cs.length,[cs]⟩).put x.d (.loc key 0 0)) (a.put x.d u) w':=Rel.put1 hG rfl he hN cX mG hp;rw [hd];refine next sD _ _ _ bT (λ j o' aT=> ?_) λ i v hi=> ?_
  ·obtain⟨q1,q2⟩:=Ap9 aT;rw [Acb,J2];by_cases hj:key=j
   ·subst hj;rw [B6l rfl,<-(e2 key d cs aV).1,<-c2 key xT];exact q1
   ·rw [B6j hj,Aa4 λ h=>q2 (A6z hx h (by simpa [Afm,xL]using hj))];exact q1
  ·obtain⟨q1,q2⟩:=Au6 hi;rw [Q5];by_cases hdi:x.d=some i
   ·rw [B6l hdi];rw [sF,B6g]at hdi;subst hdi;rw [c3 d λ f hf=>dstFs sD d sF f (in1 f hf),A9m D.h2 D.hes key d cs aV]at q1
    exact q1
   ·rw [B6j hdi]
    show Am.get (mid listed q σ).fr i=some v
    rw [T4 λ h=>q2 (Bez hx h hdi)];exact q1
end
def cnt (f:Nat->Bool):Nat->Nat
 |0=>0
 |n+1=>cnt f n+(if f n then 1 else 0)
theorem Az1 {f:Nat->Bool}{m:Nat}:∀n,(∀j,m<=j->j<n->f j=true)->n<=m+cnt f n
 |0,_=>by omega
 |n+1,h=>by
  have:=Az1 n λ j h1 h2=>h j h1 (by omega)
  simp only [cnt];rcases B7f n m with hm|hm
  ·omega
  ·rw [B6l (h n hm (by omega))];omega
theorem Ak2 {f g:Nat->Bool}{i:Nat}(hi:f i=true)(hg:g i=false)(h:∀j,j≠i->g j=f j):∀n,cnt g n+(if i<n then 1 else 0)=cnt f n
 |0=>by simp [cnt]
 |n+1=>by
  have:=Ak2 hi hg h n;simp only [cnt];by_cases hn:n=i
  ·subst hn;rw [B6j (by omega)]at this
   simp [hi,hg];omega
  ·rw [h n hn];by_cases h2:i<n
   ·have h3:i<n+1:=by omega
    simp only [h2,h3,B68]at this ⊢;omega
   ·have h3:¬i<n+1:=by omega
    simp only [h2,h3,B7d]at this ⊢;omega
theorem Aof (hb:Amn ops=true){listed:Array Bool}(aL:listed.size=ops.size):∀(n j:Nat),j<n->j<ops.size->listed.getD j false=false->∃i,i∈Region.ready .any ops listed
 |0,j,h,_,_=>by omega
 |n+1,j,h,hj,hl=>by
  by_cases hall:∀e∈ops[j].after,Region.binds .any e=true->listed.getD e.on false=true
  ·refine⟨j,mem_ready.2 ⟨?_,ops[j],B7o hj,hall⟩⟩;rw [B61,B7o (by omega)]at hl ⊢
   simpa using hl
  ·simp only [Classical.not_forall]at hall;obtain⟨e,he,rE,fB⟩:=hall;have:=Bf9 hb (B7o hj) e he rE;exact Aof hb aL n e.on (by omega) (by omega) (by simpa using fB)
theorem Bob {nm:Nat->Option Nat}{Γ:H6}{γ:Array Value}{B:Bd}{N:Nat}{F0:A8}{w0:World}{q:List I5}{es:List (Nat×Nat×List AV)}{fs:List Eff}{t:AI}{s s0 s1 s3 s2:St}
  (D:Aeg P nm Γ N ops es fs q s s0 s1 s3)(pV:Aja none fs=true)(hb:Amn ops=true)(ht:Amo ops q.length=true)(aF:q.length<=ops.size)
  (mJ:U0 P nm N ops t none [] [] (ops.toList.drop q.length)=some [])(h2:ev Γ t s3=some s2)(hQ:∀a' w',Rel γ B F0 w0 N s2 a' w'->Q .normal a' w'):
  ∀(fuel:Nat)(listed:Array Bool)(a:Go.Act)(w:World),listed.size=ops.size->(∀j,q.length<=j->j<ops.size->listed.getD j false=false)->fuel=cnt (λ j=> !listed.getD j false) ops.size->
   Far γ Γ ops es fs q B F0 w0 N s1 s3 listed a w->wpAny P .any ops Q fuel listed a w:=by
 have fin:∀(fuel:Nat)(listed:Array Bool)(a:Go.Act)(w:World),listed.size=ops.size->(∀j,q.length<=j->j<ops.size->listed.getD j false=false)->fuel=cnt (λ j=> !listed.getD j false) ops.size->
   Far γ Γ ops es fs q B F0 w0 N s1 s3 listed a w->(∀j,j<q.length->listed.getD j false=true)->wpAny P .any ops Q fuel listed a w:=by
  intro fuel listed a w aL hL hf hr hall;obtain⟨fs1,fs2,σ,hfs,iX,mA,dP,fB,cD,hr⟩:=hr;have hn:fs2=[]:=by
   cases fs2 with
   |nil=>rfl
   |cons f r=>
    exfalso;obtain⟨x,hx,_⟩:=D.eff (f:=f) (by rw [hfs];simp)
    have:=hall f.1 (B6n.1 hx).1;rw [fB f (by simp)]at this;simp at this
  subst hn;simp only [evF,B6g]at mA;subst mA;have rU:=Az1 (f:=λ j=> !listed.getD j false) (m:=q.length) ops.size λ j h1 h2=>by simp only [hL j h1 h2,B8s]
  refine Aw4 hb ht fuel q.length listed a w (B6u _) (by omega) aL (λ j hj=> ?_) ?_
  ·by_cases hjq:j<q.length
   ·rw [hall j hjq];simp [hjq]
   ·rw [hL j (by omega) hj];simp [hjq]
  ·refine Aql D.hΓ t mJ h2 (hr.less (λ i v hi=> ?_) λ i v hi=> ?_) trivial (by simp) λ a' w' bU _=>by simp only [wpList];exact hQ a' w' bU
   ·rw [Aa4]
    ·exact hi
    ·intro hu;obtain⟨j,y,eJ,fR,_⟩:=Af9.1 hu;rw [B7u,hall j (B6n.1 eJ).1]at fR;simp at fR
   ·rw [T4]
    ·exact hi
    ·intro hu;obtain⟨j,y,eJ,fR,_⟩:=Ac6.1 hu;rw [B7u,hall j (B6n.1 eJ).1]at fR;simp at fR
 intro fuel
 induction fuel with
 |zero=>
  intro listed a w aL hL hf hr;by_cases hall:∀j,j<q.length->listed.getD j false=true
  case neg=>
   simp only [Classical.not_forall]at hall;obtain⟨j,hj,hl⟩:=hall;exfalso;have:=Ak2 (f:=λ j=> !listed.getD j false) (g:=λ k=>if k=j then false else !listed.getD k false) (i:=j) (by simpa using hl) (by simp) (λ k hk=>by simp [hk]) ops.size
   rw [B6l (by omega),<-hf]at this
   omega
  ·exact fin 0 listed a w aL hL hf hr hall
 |succ fuel ih=>
  intro listed a w aL hL hf hr;by_cases hall:∀j,j<q.length->listed.getD j false=true
  ·exact fin (fuel+1) listed a w aL hL hf hr hall
  ·simp only [Classical.not_forall]at hall;obtain⟨j,hj,hl⟩:=hall;have hl:listed.getD j false=false:=by simpa using hl
   refine⟨λ hn=> ?_,λ i hi=> ?_⟩
   ·obtain⟨i,hi⟩:=Aof hb aL (j+1) j (by omega) (by omega) hl
    rw [hn]at hi;simp at hi
   ·obtain⟨h0,o,ho,_⟩:=mem_ready.1 hi;have tQ:i<ops.size:=(B72.1 ho).1;have hiq:i<q.length:=by
     rcases B7f i q.length with h|h
     ·exact h
     ·exfalso;rcases B7f q.length i with h2|h2
      ·have:=H8 (Asm ht ho h2) ho hi;rw [hL (i-1) (by omega) (by omega)]at this;simp at this
      ·obtain rfl:i=q.length:=by omega
       obtain⟨_,_,_,_,_,_,_,_,cD,_⟩:=hr;have:=Acc cD (Aw3 ht tQ) (λ k hk=>by
        simp only [W8,ho]at hk;exact H8 hk ho hi) ops.size j (by omega) (by simpa using hj)
       rw [hl]at this;simp at this
    have tR:listed.getD i false=false:=by
     rw [B61,B7o (by omega)]at h0 ⊢
     simpa using h0
    have lC:Bym fs listed i:=by
     obtain⟨_,_,_,_,_,_,_,_,cD,_⟩:=id hr;exact Bif pV D.hfs cD hi
    refine D.step (B6w hiq) aL hi lC hr λ a' w' bU=>ih _ a' w' (by simpa using aL) (λ j h1 h2=> ?_) ?_ bU
    ·rw [getD_set_ne _ (by omega)];exact hL j h1 h2
    ·have:=Ak2 (f:=λ j=> !listed.getD j false) (g:=λ j=> !(listed.setIfInBounds i true).getD j false) (i:=i) (by simpa using tR)
      (by simp [B61,show i<listed.size by omega]) (λ k hk=>by simp only [getD_set_ne _ (B6i hk)]) ops.size
     rw [B6l tQ]at this;omega
theorem Bbm {nm:Nat->Option Nat}{Γ:H6}{γ:Array Value}{B:Bd}{N:Nat}{F0:A8}{w0:World}{q:List I5}{es:List (Nat×Nat×List AV)}{fs:List Eff}{t:AI}{s s0 s1 s2 s3:St}{id:Nat}{a:Go.Act}{w:World}
  (hΓ:Aec P nm Γ)(bY:P.follows .mixedOrders=true)(hc:Ara P nm N q es fs t ops=true)(h1:evq Γ q s=some s0)(iE:Aak Γ s0 q=true)(hA:evA es s0=some s1)(bB:okA es s1=true)(hF:evF Γ q es fs s1=some s3)(h:ev Γ t s3=some s2)(hr:Rel γ B F0 w0 N s a w)
  (hQ:∀a' w',Rel γ B F0 w0 N s2 a' w'->Q .normal a' w'):(Code.region id ops true).wp P Q a w:=by
 simp only [Ara,B6h,B6o]at hc;obtain⟨⟨⟨⟨⟨⟨hq,hes⟩,hfs,pV⟩,aF⟩,hb⟩,ht⟩,mJ⟩:=hc;split at mJ
 case h_2=>simp at mJ
 rename_i nS;have D:Aeg P nm Γ N ops es fs q s s0 s1 s3:=⟨hΓ,hq,hes,hfs,h1,iE,hA,bB⟩;have dG:∀j,(Array.replicate ops.size false).getD j false=false:=λ j=>by
  rw [B61,Array.getElem?_replicate];split<;>rfl
 obtain⟨e1,e2,e3⟩:=Aex hA;refine wp_region_any bY (Bob D pV hb ht aF nS h hQ ops.size _ a _ (by simp) (λ j _ _=>dG j) ?_ ⟨[],fs,s1,rfl,rfl,hF,by simp,λ f _=>dG _,λ k j _ hk=> ?_,hr.drew.less (λ i v hi=> ?_) λ i v hi=> ?_⟩)
 ·have:=Az1 (f:=λ j=> !(Array.replicate ops.size false).getD j false) (m:=0) ops.size λ j _ _=>by simp only [dG j,B8s]
  have up:∀(f:Nat->Bool) n,cnt f n<=n:=by
   intro f n
   induction n with
   |zero=>simp [cnt]
   |succ n ih=>simp only [cnt];split<;>omega
  have:=up (λ j=> !(Array.replicate ops.size false).getD j false) ops.size
  omega
 ·rw [dG k]at hk;simp at hk
 ·obtain⟨q1,q2⟩:=Ap9 hi;cases hje:get es i with
  |none=>rw [e1 i hje,(X4 h1).1]at q1;exact q1
  |some p=>
   exfalso;obtain⟨x,hx,bN⟩:=Aso hes i p.1 p.2 hje;obtain⟨j,hj⟩:=B7t hx;exact q2 (Af9.2 ⟨j,x,hj,dG _,bN⟩)
 ·obtain⟨q1,hu⟩:=Au6 hi;have gW:i∉I5.dsts q:=by
   intro hd;obtain⟨j,y,h1,h2⟩:=Aaf.1 hd;exact hu (Ac6.2 ⟨j,y,h1,dG _,h2⟩)
  rw [e3 i,(X4 h1).2 i gW]at q1
  ·exact q1
  ·rw [B6q];intro e he;simp only [bne_iff_ne,ne_eq];rintro rfl;obtain⟨x,hx,bN⟩:=Als hes e he;obtain⟨j,hj⟩:=B7t hx;obtain⟨o,_,_,_,_,iW,_⟩:=Ac7 hq hj;unfold Afm at bN;split at bN
   ·rename_i kk cc pK;simp only [B62]at bN;subst bN;rw [pK]at iW;simp only [Aqm,pK,Act.quq,Act.isQ,Act.quiet,Bool.or_self,B6p,B7d,B6h,Aw5 hA e he,B62]at iW;exact gW (Aaf.2 ⟨j,x,hj,iW.2.1⟩)
   ·simp at bN
def Amp {α:Type}:List α->List (List α×List α)
 |[]=>[([],[])]
 |x::l=>([],x::l)::(Amp l).map λ p=>(x::p.1,p.2)
theorem Aw9 {α:Type}:∀{l a b:List α},l=a++b->(a,b)∈Amp l
 |[],a,b,h=>by
  have:=List.append_eq_nil_iff.1 h.symm;rw [this.1,this.2];simp [Amp]
 |x::l,[],b,h=>by simp only [B7j]at h;subst h;simp [Amp]
 |x::l,y::a,b,h=>by
  simp only [B7i,B76]at h;obtain⟨rfl,h⟩:=h;simp only [Amp,B6r,B6z];exact .inr ⟨(a,b),Aw9 h,rfl⟩
def Byn (fs:List Eff)(i:Nat):List Nat:=match fs[i]? with|some f=>f.2.2.2.2|none=>[]
def B26 (fs:List Eff)(i:Nat):Option Nat:=match fs[i]? with|some f=>some f.1|none=>none
def Byo (fs:List Eff)(ps:List (List Nat)):Bool:=ps.all λ p=>(Amp p).all λ c=>c.2.all λ i=>(c.2.any λ m=>match B26 fs m with|some k=>(Byn fs i).contains k|none=>false)||ps.any λ p'=>(c.1++[i]).isPrefixOf p'
def Aey (P:Program)(nm:Nat->Option Nat)(N:Nat)(q:List I5)(es:List (Nat×Nat×List AV))(fs:List Eff)(ps:List (List Nat))(t:AI)(ops:Array Oper):Bool:=
 (ps.all λ p=>Bf8 P nm N ops es (T6 fs p) q 0 q&&Adb ops q (T6 fs p)&&(p.all λ i=>decide (i<fs.length))&&decide p.Nodup&&(List.range fs.length).all λ i=>p.contains i)&&Byo fs ps&&Aoe q es&&decide (q.length<=ops.size)&&Amn ops&&Amo ops q.length&&(match U0 P nm N ops t none [] [] (ops.toList.drop q.length)with|some []=>true|_=>false)
theorem Atf (fs:List Eff)(a b:List Nat):T6 fs (a++b)=T6 fs a++T6 fs b:=by unfold T6;exact List.filterMap_append
theorem Boc {fs:List Eff}{i:Nat}{f:Eff}(h:fs[i]? =some f):T6 fs [i]=[f]:=by simp [T6,h]
theorem Ay4 {fs:List Eff}{p:List Nat}{f:Eff}(h:f∈T6 fs p):∃i∈p,fs[i]? =some f:=by simpa [T6]using h
theorem Axa {fs:List Eff}:∀{p:List Nat}{l1 l2:List Eff},(∀i∈p,i<fs.length)->T6 fs p=l1++l2->∃a b,p=a++b/\T6 fs a=l1/\T6 fs b=l2
 |p,[],l2,_,h=>⟨[],p,rfl,rfl,by simpa using h⟩
 |[],f::l1,l2,_,h=>by simp [T6]at h
 |i::p,f::l1,l2,hp,h=>by
  have hi:=hp i (by simp)
  have e:T6 fs (i::p)=fs[i]::T6 fs p:=by simp [T6,B6w hi]
  rw [e]at h;simp only [B7i,B76]at h;obtain⟨rfl,h⟩:=h;obtain⟨a,b,rfl,h1,h2⟩:=Axa (λ j hj=>hp j (by simp [hj])) h
  exact⟨i::a,b,rfl,by rw [<-h1];simp [T6,B6w hi],h2⟩
theorem Axb {α:Type}(d:α->Bool):∀{a b a' b':List α},a++b=a'++b'->(∀x∈a,d x=true)->(∀x∈b,d x=false)->(∀x∈a',d x=true)->(∀x∈b',d x=false)->a'=a/\b'=b
 |[],b,[],b',h,_,_,_,_=>⟨rfl,by simpa using h.symm⟩
 |x::a,b,[],b',h,h1,_,_,h4=>by
  simp only [B7j]at h;subst h;have:=h1 x (by simp);rw [h4 x (by simp)]at this;simp at this
 |[],b,x::a',b',h,_,h2,h3,_=>by
  simp only [B7j]at h;subst h;have:=h3 x (by simp);rw [h2 x (by simp)]at this;simp at this
 |x::a,b,y::a',b',h,h1,h2,h3,h4=>by
  simp only [B7i,B76]at h;obtain⟨rfl,h⟩:=h;obtain⟨e1,e2⟩:=Axb d h (λ z hz=>h1 z (by simp [hz])) h2 (λ z hz=>h3 z (by simp [hz])) h4
  exact⟨by rw [e1],e2⟩
theorem Asp {Γ:H6}{q:List I5}{es:List (Nat×Nat×List AV)}:∀{a b:List Eff}{s s':St},evF Γ q es (a++b) s=some s'->∃σ,evF Γ q es a s=some σ/\evF Γ q es b σ=some s'
 |[],b,s,s',h=>⟨s,rfl,h⟩
 |(j,d,A,ls,o)::a,b,s,s',h=>by
  simp only [B7i,evF]at h ⊢;cases hk:Ab5 s A with
  |none=>
   rw [hk]at h;simp only at h ⊢;cases hg:Awk Γ q s (j,d,A,ls,o)with
   |none=>rw [hg]at h;simp at h
   |some r=>
    obtain⟨v,t⟩:=r;rw [hg]at h;simp only at h ⊢;split at h
    ·rename_i hc;rw [B6l hc];exact Asp h
    ·simp at h
  |some k=>
   rw [hk]at h;simp only at h ⊢;cases hg:act Γ s A with
   |none=>rw [hg]at h;simp at h
   |some r=>
    obtain⟨v,t⟩:=r;rw [hg]at h;simp only at h ⊢;split at h
    ·rename_i hc;rw [B6l hc];exact Asp h
    ·simp at h
theorem Bih {nm:Nat->Option Nat}{Γ:H6}{γ:Array Value}{B:Bd}{N:Nat}{F0:A8}{w0:World}{q:List I5}{es:List (Nat×Nat×List AV)}{fs:List Eff}{ps:List (List Nat)}{t:AI}{s s0 s1:St}
  (hΓ:Aec P nm Γ)(hc:Aey P nm N q es fs ps t ops=true)(h1:evq Γ q s=some s0)(iE:Aak Γ s0 q=true)(hA:evA es s0=some s1)(bB:okA es s1=true)
  (hE:∀p∈ps,∃s3 s4,evF Γ q es (T6 fs p) s1=some s3/\ev Γ t s3=some s4/\∀a' w',Rel γ B F0 w0 N s4 a' w'->Q .normal a' w'):
  ∀(fuel:Nat)(listed:Array Bool)(a:Go.Act)(w:World),listed.size=ops.size->(∀j,q.length<=j->j<ops.size->listed.getD j false=false)->fuel=cnt (λ j=> !listed.getD j false) ops.size->
   (∃p∈ps,∃s3,Far γ Γ ops es (T6 fs p) q B F0 w0 N s1 s3 listed a w)->wpAny P .any ops Q fuel listed a w:=by
 simp only [Aey,B6h,B6o,B6q,List.mem_range,B63]at hc;obtain⟨⟨⟨⟨⟨⟨gA,fP⟩,hes⟩,aF⟩,hb⟩,ht⟩,mJ⟩:=hc;have gA:∀p∈ps,(Bf8 P nm N ops es (T6 fs p) q 0 q=true/\Adb ops q (T6 fs p)=true)/\(∀i∈p,i<fs.length)/\p.Nodup/\∀i,i<fs.length->i∈p:=λ p hp=>by
  have:=gA p hp;exact⟨this.1.1.1,this.1.1.2,this.1.2,this.2⟩
 split at mJ
 case h_2=>simp at mJ
 rename_i nS;have DD:∀p∈ps,∀s3,Aeg P nm Γ N ops es (T6 fs p) q s s0 s1 s3:=λ p hp s3=>⟨hΓ,(gA p hp).1.1,hes,(gA p hp).1.2,h1,iE,hA,bB⟩
 have fin:∀(fuel:Nat)(listed:Array Bool)(a:Go.Act)(w:World),listed.size=ops.size->(∀j,q.length<=j->j<ops.size->listed.getD j false=false)->fuel=cnt (λ j=> !listed.getD j false) ops.size->
   (∃p∈ps,∃s3,Far γ Γ ops es (T6 fs p) q B F0 w0 N s1 s3 listed a w)->(∀j,j<q.length->listed.getD j false=true)->wpAny P .any ops Q fuel listed a w:=by
  rintro fuel listed a w aL hL hf ⟨p,hp,s3,fs1,fs2,σ,hfs,iX,mA,dP,fB,cD,hr⟩ hall;obtain⟨s3',s4,g1,g2,hQ⟩:=hE p hp;have hn:fs2=[]:=by
   cases fs2 with
   |nil=>rfl
   |cons f r=>
    exfalso;obtain⟨x,hx,_⟩:=(DD p hp s3).eff (f:=f) (by rw [hfs];simp)
    have:=hall f.1 (B6n.1 hx).1;rw [fB f (by simp)]at this;simp at this
  subst hn;simp only [evF,B6g]at mA;subst mA;rw [B71]at hfs;rw [hfs,iX,B6g]at g1;subst g1;have rU:=Az1 (f:=λ j=> !listed.getD j false) (m:=q.length) ops.size λ j h1 h2=>by simp only [hL j h1 h2,B8s]
  refine Aw4 hb ht fuel q.length listed a w (B6u _) (by omega) aL (λ j hj=> ?_) ?_
  ·by_cases hjq:j<q.length
   ·rw [hall j hjq];simp [hjq]
   ·rw [hL j (by omega) hj];simp [hjq]
  ·refine Aql hΓ t nS g2 (hr.less (λ i v hi=> ?_) λ i v hi=> ?_) trivial (by simp) λ a' w' bU _=>by simp only [wpList];exact hQ a' w' bU
   ·rw [Aa4]
    ·exact hi
    ·intro hu;obtain⟨j,y,eJ,fR,_⟩:=Af9.1 hu;rw [B7u,hall j (B6n.1 eJ).1]at fR;simp at fR
   ·rw [T4]
    ·exact hi
    ·intro hu;obtain⟨j,y,eJ,fR,_⟩:=Ac6.1 hu;rw [B7u,hall j (B6n.1 eJ).1]at fR;simp at fR
 intro fuel
 induction fuel with
 |zero=>
  intro listed a w aL hL hf hr;by_cases hall:∀j,j<q.length->listed.getD j false=true
  case neg=>
   simp only [Classical.not_forall]at hall;obtain⟨j,hj,hl⟩:=hall;exfalso;have:=Ak2 (f:=λ j=> !listed.getD j false) (g:=λ k=>if k=j then false else !listed.getD k false) (i:=j) (by simpa using hl) (by simp) (λ k hk=>by simp [hk]) ops.size
   rw [B6l (by omega),<-hf]at this
   omega
  ·exact fin 0 listed a w aL hL hf hr hall
 |succ fuel ih=>
  intro listed a w aL hL hf hr;by_cases hall:∀j,j<q.length->listed.getD j false=true
  ·exact fin (fuel+1) listed a w aL hL hf hr hall
  ·simp only [Classical.not_forall]at hall;obtain⟨j,hj,hl⟩:=hall;have hl:listed.getD j false=false:=by simpa using hl
   refine⟨λ hn=> ?_,λ i hi=> ?_⟩
   ·obtain⟨i,hi⟩:=Aof hb aL (j+1) j (by omega) (by omega) hl
    rw [hn]at hi;simp at hi
   ·obtain⟨h0,o,ho,_⟩:=mem_ready.1 hi;have tQ:i<ops.size:=(B72.1 ho).1;have hiq:i<q.length:=by
     rcases B7f i q.length with h|h
     ·exact h
     ·exfalso;rcases B7f q.length i with h2|h2
      ·have:=H8 (Asm ht ho h2) ho hi;rw [hL (i-1) (by omega) (by omega)]at this;simp at this
      ·obtain rfl:i=q.length:=by omega
       obtain⟨_,_,_,_,_,_,_,_,_,_,_,cD,_⟩:=hr;have:=Acc cD (Aw3 ht tQ) (λ k hk=>by
        simp only [W8,ho]at hk;exact H8 hk ho hi) ops.size j (by omega) (by simpa using hj)
       rw [hl]at this;simp at this
    have tR:listed.getD i false=false:=by
     rw [B61,B7o (by omega)]at h0 ⊢
     simpa using h0
    have hsel:∃p∈ps,∃s3,Far γ Γ ops es (T6 fs p) q B F0 w0 N s1 s3 listed a w/\Bym (T6 fs p) listed i:=by
     obtain⟨p,hp,s3,sH⟩:=hr;by_cases kE:∃f∈T6 fs p,f.1=i
     ·obtain⟨f,rA,dZ⟩:=kE;obtain⟨fs1,fs2,σ,hfs,iX,mA,dP,fB,cD,jQ⟩:=id sH;obtain⟨pa,pb,xU,ea,eb⟩:=Axa (gA p hp).2.1 hfs;have xV:f∈fs2:=by
       rw [hfs]at rA;rcases B65.1 rA with h|h
       ·have:=dP f h;rw [dZ,tR]at this;simp at this
       ·exact h
      rw [<-eb]at xV;obtain⟨m,hm,hmf⟩:=Ay4 xV;unfold Byo at fP;simp only [B6q,B7n,B9g]at fP;rcases fP p hp (pa,pb) (Aw9 xU) m hm with ⟨m2,dV,nT⟩|⟨p',lE,hpre⟩
      ·exfalso;unfold B26 Byn at nT;cases hg:fs[m2]? with
       |none=>rw [hg]at nT;simp at nT
       |some g=>
        rw [hg,hmf]at nT;simp only [B63,B6o]at nT;obtain⟨l1,l2,hl12⟩:=B87 (l:=T6 fs p) (a:=f) rA;obtain⟨_,g2,_,_⟩:=Aa3 (gA p hp).1.2 l1 f l2 hl12;have hgl:=Acc cD g2 (λ i2 iB=>by
         unfold W8 at iB;rw [dZ,ho]at iB;exact H8 iB ho hi) ops.size g.1 (by omega) nT
        have rZ:g∈fs2:=by rw [<-eb];simp only [T6,List.mem_filterMap];exact⟨m2,dV,hg⟩
        have:=fB g rZ;rw [hgl]at this;simp at this
      ·simp only [List.isPrefixOf_iff_prefix]at hpre;obtain⟨pr,hpr⟩:=hpre;have e':T6 fs p'=fs1++(f::T6 fs pr):=by
        rw [<-hpr,Atf,Atf,ea,Boc hmf];simp
       obtain⟨s3',s4,g1,_⟩:=hE p' lE;have hF:∃σ',evF Γ q es fs1 s1=some σ'/\evF Γ q es (f::T6 fs pr) σ'=some s3':=by
        rw [e']at g1;exact Asp g1
       obtain⟨σ',nD,nE⟩:=hF;rw [iX,B6g]at nD;subst nD;have uY:∀g∈T6 fs pr,g.1≠f.1:=by
        obtain⟨_,_,_,g5⟩:=Aa3 (gA p' lE).1.2 fs1 f (T6 fs pr) e';exact g5
       have tV:∀g∈T6 fs pr,listed.getD g.1 false=false:=by
        intro g hg;obtain⟨i2,xX,fQ⟩:=Ay4 hg;have hi2l:=(B6n.1 fQ).1;have aP:i2∈pa++pb:=by rw [<-xU];exact(gA p hp).2.2.2 i2 hi2l
        rcases B65.1 aP with h|h
        ·exfalso;have gW:=(gA p' lE).2.2.1;rw [<-hpr,B9b,B82]at gW;exact gW.2.2 i2 h i2 (by simp [xX]) rfl
        ·refine fB g ?_;rw [<-eb];simp only [T6,List.mem_filterMap];exact⟨i2,h,fQ⟩
       have hfu:listed.getD f.1 false=false:=by rw [dZ];exact tR
       refine⟨p',lE,s3',⟨fs1,f::T6 fs pr,σ,e',iX,nE,dP,λ g hg=> ?_,cD,jQ⟩,λ fs1' fs2' f' lF hl1' hl2' rD hfi'=> ?_⟩
       ·rcases B6r.1 hg with rfl|hg
        ·exact hfu
        ·exact tV g hg
       ·
        have hcut:fs1'=fs1/\fs2'=f::T6 fs pr:=by
         rw [e']at lF;exact Axb (λ g=>listed.getD g.1 false) lF dP (λ g hg=>by
          rcases B6r.1 hg with rfl|hg
          ·exact hfu
          ·exact tV g hg) hl1' hl2'
        obtain⟨rfl,rfl⟩:=hcut;refine⟨T6 fs pr,?_⟩;rcases B6r.1 rD with rfl|rD
        ·rfl
        ·exact absurd (by rw [hfi',dZ]) (uY f' rD)
     ·refine⟨p,hp,s3,sH,λ fs1 fs2 f hfs _ _ hf lV=>absurd ⟨f,by rw [hfs];simp [hf],lV⟩ kE⟩
    obtain⟨p,hp,s3,sH,lC⟩:=hsel;refine(DD p hp s3).step (B6w hiq) aL hi lC sH λ a' w' bU=>ih _ a' w' (by simpa using aL) (λ j h1 h2=> ?_) ?_ ⟨p,hp,s3,bU⟩
    ·rw [getD_set_ne _ (by omega)];exact hL j h1 h2
    ·have:=Ak2 (f:=λ j=> !listed.getD j false) (g:=λ j=> !(listed.setIfInBounds i true).getD j false) (i:=i) (by simpa using tR)
      (by simp [B61,show i<listed.size by omega]) (λ k hk=>by simp only [getD_set_ne _ (B6i hk)]) ops.size
     rw [B6l tQ]at this;omega
theorem Axc {a b:Option Obj}(h:Amh a b=true):a=b:=by
 unfold Amh at h;split at h
 ·rename_i x y;simp only [B6h,B6o]at h;have:=Asd _ _ h.2;cases x;cases y;simp_all
 ·rfl
 ·simp at h
theorem A4h (a:Option Obj):Amh a a=true:=by
 cases a with
 |none=>rfl
 |some x=>simp [Amh,Afk]
theorem Axd {a b:OL}(h:Ajl a b=true)(k:Nat):get a k=get b k:=by
 unfold Ajl at h;simp only [B6q,B65]at h;cases ha:get a k with
 |some x=>rw [<-ha];exact Axc (h (k,x) (.inl (B0 ha)))
 |none=>
  cases hb:get b k with
  |none=>rfl
  |some y=>rw [<-ha,<-hb];exact Axc (h (k,y) (.inr (B0 hb)))
theorem A3a {a b:OL}(h:∀k,get a k=get b k):Ajl a b=true:=by
 unfold Ajl;simp only [B6q];intro p _;rw [h p.1];exact A4h _
theorem Alt :∀{a b:FL},Ajm a b=true->a=b
 |[],[],_=>rfl
 |[],_::_,h=>by simp [Ajm]at h
 |_::_,[],h=>by simp [Ajm]at h
 |(i,v)::a,(j,u)::b,h=>by
  simp only [Ajm,B6h,B6o]at h;rw [h.1.1,Bro _ _ h.1.2,Alt h.2]
theorem Aks :∀a:FL,Ajm a a=true
 |[]=>rfl
 |(i,v)::a=>by simp only [Ajm,decide_true,A9d,Aks a,B64]
theorem Ay5 :∀(l:FL)(i:Nat),get (ghs l) i=if GB<=i then get l i else none
 |[],i=>by simp [ghs,get]
 |(j,v)::l,i=>by
  simp only [ghs];by_cases hj:GB<=j
  ·rw [B6l hj];simp only [get];by_cases h:j=i
   ·subst h;rw [B6l rfl,B6l hj,B6l rfl]
   ·rw [B6j h,B6j h];exact Ay5 l i
  ·rw [B6j hj,Ay5 l i];by_cases hi:GB<=i
   ·rw [B6l hi,B6l hi];simp only [get];rw [B6j (by omega)]
   ·rw [B6j hi,B6j hi]
theorem Bgb {Γ:H6}{q:List I5}{es:List (Nat×Nat×List AV)}{fs:List Eff}{t:AI}{s:St}:∀{ps:List (List Nat)}{s2:St}{rs:List St},evN Γ q es fs t s ps=some (s2,rs)->∀p∈ps,∃s3 s4,evF Γ q es (T6 fs p) s=some s3/\ev Γ t s3=some s4/\(s4=s2\/s4∈rs)
 |[],_,_,h=>by simp [evN]at h
 |p::ps,s2,rs,h=>by
  simp only [evN]at h;split at h
  ·simp at h
  ·rename_i s3 h3;split at h
   ·simp at h
   ·rename_i s4 h4;split at h
    ·simp only [B6g,B6k]at h;obtain⟨rfl,rfl⟩:=h;intro p' lE;simp only [B6x]at lE;subst lE;exact⟨s3,s4,h3,h4,.inl rfl⟩
    ·rename_i p2 ps2;split at h
     ·rename_i s5 r h5;simp only [B6g,B6k]at h;obtain⟨rfl,rfl⟩:=h;intro p' lE;rcases B6r.1 lE with rfl|lE
      ·exact⟨s3,s4,h3,h4,.inl rfl⟩
      ·obtain⟨a,b,e1,e2,e3⟩:=Bgb h5 p' lE;refine⟨a,b,e1,e2,.inr ?_⟩;rcases e3 with rfl|e3
       ·simp
       ·simp [e3]
     ·simp at h
theorem Bgc {α:Type}:∀(a b:List (Nat×α))(i:Nat),get (a++b) i=match get a i with|some v=>some v|none=>get b i
 |[],b,i=>by simp [get]
 |(j,v)::a,b,i=>by
  simp only [B7i,get];by_cases h:j=i
  ·rw [B6l h,B6l h]
  ·rw [B6j h,B6j h];exact Bgc a b i
theorem Atg {ks:List Nat}{l:FL}{i:Nat}{v:AV}(h:get (keep ks l++ghs l) i=some v):get l i=some v:=by
 rw [Bgc]at h;cases hk:get (keep ks l) i with
 |some u=>rw [hk]at h;simp only [B6g]at h;subst h;exact Aew l ks i _ hk
 |none=>
  rw [hk]at h;simp only [Ay5]at h;split at h
  ·exact h
  ·simp at h
theorem A78 {nm:Nat->Option Nat}{Γ:H6}{γ:Array Value}{B:Bd}{N:Nat}{F0:A8}{w0:World}{q:List I5}{es:List (Nat×Nat×List AV)}{fs:List Eff}{ps:List (List Nat)}{t:AI}{s s0 s1 s2:St}{rs:List St}{ks:List Nat}{id:Nat}{a:Go.Act}{w:World}
  (hΓ:Aec P nm Γ)(bY:P.follows .mixedOrders=true)(hc:Aey P nm N q es fs ps t ops=true)(h1:evq Γ q s=some s0)(iE:Aak Γ s0 q=true)(hA:evA es s0=some s1)(bB:okA es s1=true)
  (hE:evN Γ q es fs t s1 ps=some (s2,rs))(hs:(rs.all (Aln ks s2))=true)(hr:Rel γ B F0 w0 N s a w)
  (hQ:∀a' w',Rel γ B F0 w0 N ⟨keep ks s2.fr++ghs s2.fr,s2.ob⟩ a' w'->Q .normal a' w'):(Code.region id ops true).wp P Q a w:=by
 have nA:=hc;simp only [Aey,B6h,B6o,B6q]at nA;have dG:∀j,(Array.replicate ops.size false).getD j false=false:=λ j=>by
  rw [B61,Array.getElem?_replicate];split<;>rfl
 obtain⟨e1,e2,e3⟩:=Aex hA;have hes:=nA.1.1.1.1.2;have bX:=Bgb hE;have aH:∃p,p∈ps:=by
  cases ps with
  |nil=>simp [evN]at hE
  |cons p ps=>exact⟨p,by simp⟩
 obtain⟨p0,hp0⟩:=aH;obtain⟨s30,s40,kR,_,_⟩:=bX p0 hp0;have hq:=(nA.1.1.1.1.1.1 p0 hp0).1.1.1.1;refine wp_region_any bY (Bih hΓ hc h1 iE hA bB (λ p hp=> ?_) ops.size _ a _ (by simp) (λ j _ _=>dG j) ?_ ⟨p0,hp0,s30,[],T6 fs p0,s1,rfl,rfl,kR,by simp,λ f _=>dG _,λ k j _ hk=> ?_,hr.drew.less (λ i v hi=> ?_) λ i v hi=> ?_⟩)
 ·obtain⟨s3,s4,g1,g2,g3⟩:=bX p hp;refine⟨s3,s4,g1,g2,λ a' w' bU=>hQ a' w' (bU.less (λ k o hk=> ?_) λ i v hi=> ?_)⟩
  ·rcases g3 with rfl|g3
   ·exact hk
   ·have:=B6q.1 hs s4 g3;simp only [Aln,B6h]at this;rw [<-Axd this.1.1 k];exact hk
  ·rcases g3 with rfl|g3
   ·exact Atg hi
   ·have:=B6q.1 hs s4 g3;simp only [Aln,B6h]at this;rw [Alt this.1.2,Alt this.2]at hi;exact Atg hi
 ·have:=Az1 (f:=λ j=> !(Array.replicate ops.size false).getD j false) (m:=0) ops.size λ j _ _=>by simp only [dG j,B8s]
  have up:∀(f:Nat->Bool) n,cnt f n<=n:=by
   intro f n
   induction n with
   |zero=>simp [cnt]
   |succ n ih=>simp only [cnt];split<;>omega
  have:=up (λ j=> !(Array.replicate ops.size false).getD j false) ops.size
  omega
 ·rw [dG k]at hk;simp at hk
 ·obtain⟨q1,q2⟩:=Ap9 hi;cases hje:get es i with
  |none=>rw [e1 i hje,(X4 h1).1]at q1;exact q1
  |some p=>
   exfalso;obtain⟨x,hx,bN⟩:=Aso hes i p.1 p.2 hje;obtain⟨j,hj⟩:=B7t hx;exact q2 (Af9.2 ⟨j,x,hj,dG _,bN⟩)
 ·obtain⟨q1,hu⟩:=Au6 hi;have gW:i∉I5.dsts q:=by
   intro hd;obtain⟨j,y,h1,h2⟩:=Aaf.1 hd;exact hu (Ac6.2 ⟨j,y,h1,dG _,h2⟩)
  rw [e3 i,(X4 h1).2 i gW]at q1
  ·exact q1
  ·rw [B6q];intro e he;simp only [bne_iff_ne,ne_eq];rintro rfl;obtain⟨x,hx,bN⟩:=Als hes e he;obtain⟨j,hj⟩:=B7t hx;obtain⟨o,_,_,_,_,iW,_⟩:=Ac7 hq hj;unfold Afm at bN;split at bN
   ·rename_i kk cc pK;simp only [B62]at bN;subst bN;rw [pK]at iW;simp only [Aqm,pK,Act.quq,Act.isQ,Act.quiet,Bool.or_self,B6p,B7d,B6h,Aw5 hA e he,B62]at iW;exact gW (Aaf.2 ⟨j,x,hj,iW.2.1⟩)
   ·simp at bN
end
end Go.Am
