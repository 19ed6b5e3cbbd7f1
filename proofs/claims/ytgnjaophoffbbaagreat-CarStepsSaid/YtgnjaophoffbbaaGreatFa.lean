import Derived.Test.YtgnjaophoffbbaaGreatHa
set_option maxHeartbeats 4000000
set_option maxRecDepth 20000
set_option linter.unusedVariables false
set_option linter.unusedSimpArgs false
set_option linter.unnecessarySimpa false
namespace Go.Am
open Go.RowKit
def Aov (K:List Nat)(G:List Nat×List (Nat×Nat)):AV->Bool
 | .loc k _ _=> !K.contains k||G.1.contains k
 | .sl k v _ _=> !K.contains k||G.2.contains (k,v)
 | .mp k=> !K.contains k
 | .itr k=> !K.contains k
 |_=>true
def Aow (K:List Nat)(G:List Nat×List (Nat×Nat)):AV->Bool
 | .tup vs=>vs.all (Aov K G)
 | .ags vs=>vs.all (Aov K G)
 | .clo _ vs=>vs.all (Aov K G)
 |x=>Aov K G x
theorem Bk1 {K:List Nat}{G:List Nat×List (Nat×Nat)}{x:AV}(h:Aow K G x=true):x.all1 λ y=>Aov K G y=true:=by
 cases x<;>simp only [Aow,B6q]at h<;>exact h
theorem AR1.cong2 {F:A8}{ρ ρ':Map}{ob aA:OL}{x:AV}{v:Value}(hn:∀k,x.names1 k=true->∀o,get aA k=some o->ρ' k=ρ k/\get ob k=some o)(h:AR1 F ρ ob x v):AR1 F ρ' aA x v:=by
 cases x<;>simp only [AR1]at h ⊢
 ·exact h
 ·exact h
 ·exact h
 ·grind [AV.names1,SlR]
 ·grind [AV.names1]
 ·exact h
 all_goals grind [AV.names1]
theorem AV.all1_out {Q:Nat->Prop}{x:AV}(h:∀k,Q k->x.names k=false):x.all1 λ y=>∀k,y.names1 k=true->¬Q k:=by
 cases x
 case tup vs=>exact λ y hy k hk hK=>by have:=h k hK;simp only [AV.names,B7p]at this;exact this y hy hk
 case ags vs=>exact λ y hy k hk hK=>by have:=h k hK;simp only [AV.names,B7p]at this;exact this y hy hk
 case clo g vs=>exact λ y hy k hk hK=>by have:=h k hK;simp only [AV.names,B7p]at this;exact this y hy hk
 all_goals exact λ k hk hK=>by have:=h k hK;simp only [AV.names]at this;rw [this]at hk;simp at hk
def Arz (G:List Nat×List (Nat×Nat)):List AV:=G.1.map (λ k=> .loc k 0 0)++G.2.map λ p=> .sl p.1 p.2 0 p.2
def Abn (ob:OL):List Nat:=ob.map (·.1)
def inK (K:List Nat)(ob:OL):OL:=ob.filter λ p=>K.contains p.1
def Afh (K:List Nat)(ob:OL):OL:=ob.filter λ p=> !K.contains p.1
structure Bmj (K:List Nat)(G:List Nat×List (Nat×Nat))(s:St)(rs:List AV)(aU:OL):Prop where
 locs:∀k∈G.1,k∈K/\k<MK/\∃o,get s.ob k=some o/\o.rows≠[]
 sls:∀p∈G.2,p.1∈K/\p.1<MK/\∃o,get s.ob p.1=some o/\o.rows.length=p.2
 fr:∀p∈s.fr,GB<=p.1->Aow K G p.2=true
 ob:∀p∈s.ob,p.1∉K->∀r∈p.2.rows,∀x∈r,Aow K G x=true
 rs:∀v∈rs,∀q∈s.ob,q.1∉K->AV.names q.1 v=false
 new:∀p∈aU,∀r∈p.2.rows,∀x∈r,∀q∈s.ob,q.1∉K->AV.names q.1 x=false
 fresh:∀p∈aU,p.1∉K->get s.ob p.1=none/\(∀q∈s.fr,GB<=q.1->q.2.names p.1=false)/\∀q∈s.ob,q.1∉K->∀r∈q.2.rows,∀x∈r,AV.names p.1 x=false
 sz:∀k o',get aU k=some o'->∀o,get s.ob k=some o->(k∈G.1\/∃v,(k,v)∈G.2)->o.sz=o'.sz
open Classical in
noncomputable def Amc (n:Nat)(A:List AV->OL->List Nat×List Nat×List (Nat×Nat))(S:PG)(s:St):Option (List AV×OL):=
 if n<GB/\(get s.fr n).isNone=true then
  match Aap s.fr 0 n with
  |some vs=>match S ⟨X6 0 vs++X6 GB (Arz (A vs s.ob).2),inK (A vs s.ob).1 s.ob⟩with
   |some (rs,aU)=>if Bmj (A vs s.ob).1 (A vs s.ob).2 s rs aU then some (rs,aU++Afh (A vs s.ob).1 s.ob)else none
   |none=>none
  |none=>none
 else none
theorem Ayi {K:List Nat}:∀(ob:OL)(k:Nat),get (inK K ob) k=if k∈K then get ob k else none:=Alb
theorem Azo {K:List Nat}:∀(ob:OL)(k:Nat),get (Afh K ob) k=if k∈K then none else get ob k
 |[],k=>by simp [Afh,Go.Am.get]
 |(j,o)::ob,k=>by
  have ih:=Azo (K:=K) ob k;grind [Afh,List.filter_cons_of_neg,Go.Am.get,List.filter_cons_of_pos]
theorem Ayj {n:Nat}{A:List AV->OL->List Nat×List Nat×List (Nat×Nat)}{S:PG}{s:St}{rs:List AV}{aA:OL}(h:Amc n A S s=some (rs,aA)):
  n<GB/\get s.fr n=none/\∃vs aU,Aap s.fr 0 n=some vs/\S ⟨X6 0 vs++X6 GB (Arz (A vs s.ob).2),inK (A vs s.ob).1 s.ob⟩=some (rs,aU)/\Bmj (A vs s.ob).1 (A vs s.ob).2 s rs aU/\aA=aU++Afh (A vs s.ob).1 s.ob:=by
 unfold Amc at h;split at h
 case isFalse=>simp at h
 rename_i h0;split at h
 case h_2=>simp at h
 rename_i vs h1;split at h
 case h_2=>simp at h
 rename_i rs0 aU h2;split at h
 case isFalse=>simp at h
 rename_i h3;simp only [B6g,B6k]at h;obtain⟨rfl,rfl⟩:=h;exact⟨h0.1,by simpa using h0.2,vs,aU,h1,h2,h3,rfl⟩
theorem Avb {n:Nat}{A:List AV->OL->List Nat×List Nat×List (Nat×Nat)}{S:PG}{s:St}{vs rs:List AV}{aU:OL}(hn:n<GB)(h0:get s.fr n=none)(h1:Aap s.fr 0 n=some vs)
  (h2:S ⟨X6 0 vs++X6 GB (Arz (A vs s.ob).2),inK (A vs s.ob).1 s.ob⟩=some (rs,aU))(h3:Bmj (A vs s.ob).1 (A vs s.ob).2 s rs aU):Amc n A S s=some (rs,aU++Afh (A vs s.ob).1 s.ob):=by
 unfold Amc;rw [B6l ⟨hn,by rw [h0];rfl⟩,h1]
 simp only [h2];rw [B6l h3]
theorem C9.exists_ {α β:Type}{R:α->β->Prop}:∀(l:List α),(∀a∈l,∃b,R a b)->∃m,C9 R l m
 |[],_=>⟨[],.nil⟩
 |a::l,h=>by
  obtain⟨b,hb⟩:=h a (by simp)
  obtain⟨m,hm⟩:=C9.exists_ l λ x hx=>h x (by simp [hx])
  exact⟨b::m,.cons hb hm⟩
theorem Ahe {P:Program}{f:FuncId}{n:Nat}{A:List AV->OL->List Nat×List Nat×List (Nat×Nat)}{S:PG}(h:D9 P f S):D9 P f (Amc n A S):=by
 intro γ B F ρ fr ob w us rs aA aF cM hm hf hS;obtain⟨hn,cT,vs,aU,hv,aJ,bB,rfl⟩:=Ayj hS;generalize (A vs ob).1=K at*;generalize (A vs ob).2=G at*;obtain⟨o1,o2,o3,o4,o5,o6,o7,o8⟩:=bB;dsimp only at o1 o2 o3 o4 o7 o8 aJ hv cT;obtain⟨rB,vD⟩:=Aaq hv;have hul:us.length<=n:=by
  grind [Nat.lt_or_ge]
 obtain⟨B1,hB1⟩:∃B1:Bd,(λ b=>B b\/∃k o p,k∉K/\get ob k=some o/\ρ k=some p/\p.g=b)=B1:=⟨_,rfl⟩
 have b1:∀b,B b->B1 b:=λ b hb=>by rw [<-hB1];exact .inl hb
 have b2:∀k o p,k∉K->get ob k=some o->ρ k=some p->B1 p.g:=λ k o p x y z=>by rw [<-hB1];exact .inr ⟨k,o,p,x,y,z,rfl⟩
 have b3:∀b,B1 b->B b\/∃k o p,k∉K/\get ob k=some o/\ρ k=some p/\p.g=b:=λ b hb=>by rw [<-hB1]at hb;exact hb
 have gI:∀k o,get (inK K ob) k=some o->k∈K/\get ob k=some o:=λ k o hk=>by
  grind [Ayi]
 have fG:∀k o,get (inK K ob) k=some o->get ob k=some o:=λ k o hk=>(gI k o hk).2
 have cC:T0 B1 F ρ (inK K ob) w:=by
  refine⟨hm.facts,λ b hb=> ?_,λ k o hk=>hm.bare k o (fG k o hk),λ k o p hk hp=> ?_,λ k o p hk hp=>hm.apart k o p (fG k o hk) hp,λ k o p k' o' p' x1 x2 x3 x4=>hm.inj k o p k' o' p' (fG k o x1) x2 (fG k' o' x3) x4⟩
  ·rcases b3 b hb with h1|⟨k,o,p,_,x2,x3,rfl⟩
   ·exact hm.big b h1
   ·exact hm.lt x2 x3
  ·obtain⟨g1,g2⟩:=gI k o hk;obtain⟨q1,q2⟩:=hm.own k o p g2 hp;refine⟨λ hb=> ?_,q2.imp λ r hr x hx v hvv=>hvv.sub fG⟩
   rcases b3 _ hb with h1|⟨k',o',p',x1,x2,x3,x4⟩
   ·exact q1 h1
   ·exact x1 (hm.inj k' o' p' k o p x2 x3 g2 hp x4▸g1)
 have hgv:∀g∈Arz G,∃u,AR F ρ (inK K ob) g u:=by
  intro g hg;unfold Arz at hg;rcases B65.1 hg with hg|hg
  ·obtain⟨k,hk,rfl⟩:=B6z.1 hg;obtain⟨a1,a2,o,a3,a4⟩:=o1 k hk;cases hp:ρ k with
   |none=>exact absurd (hm.bare k o a3 hp) a4
   |some p=>exact⟨_,a2,λ o' aT=>⟨p,hp,rfl⟩⟩
  ·obtain⟨q,hq,rfl⟩:=B6z.1 hg;obtain⟨a1,a2,o,a3,a4⟩:=o2 q hq;cases hp:ρ q.1 with
   |none=>
    refine⟨.slice none 0 0,a2,λ o' aT=> ?_⟩
    rw [fG _ _ aT,B6g]at a3;subst a3;have:=hm.bare _ _ (fG _ _ aT) hp;rw [this]at a4;simp only [B88]at a4;refine⟨by omega,λ _ _=> ?_⟩
    unfold SlR;rw [hp];exact⟨a4.symm,rfl⟩
   |some p=>
    refine⟨.slice (some ⟨p.g,p.o+0*p.sz,none⟩) q.2 (p.cap-0),a2,λ o' aT=> ?_⟩
    rw [fG _ _ aT,B6g]at a3;subst a3;refine⟨by omega,λ _ _=> ?_⟩
    have hc:=(hm.cells a2 (fG _ _ aT) hp).2.1;unfold SlR;rw [hp];exact⟨by omega,_,rfl,λ _=>rfl⟩
 obtain⟨gus,zG⟩:=C9.exists_ (Arz G) hgv;have hgf:∀i v,get (X6 0 vs++X6 GB (Arz G)) i=some v->(i<n/\vs[i]? =some v)\/(GB<=i/\(Arz G)[i-GB]? =some v):=by
  intro i v hi;rw [E5,Aaj,B6l (B81 _),B78]at hi;cases hx:vs[i]? with
  |some y=>
   grind [List.getElem?_eq_some_iff]
  |none=>
   grind [Aaj]
 have hgD:∀(j:Nat)(u:Value),gus[j]? =some u->gus.toArray.getD j undef=u:=λ j u hj=>by simp [hj]
 refine(h gus.toArray B1 F ρ (X6 0 vs++X6 GB (Arz G)) (inK K ob) w us rs aU aF (λ i hi=> ?_) cC (λ i v hi=> ?_) aJ).mono ?_
 ·grind [E5,Aaj,List.getElem?_eq_getElem]
 ·rcases hgf i v hi with ⟨h1,h2⟩|⟨h1,h2⟩
  ·rw [B6l (by omega)]
   have:=hf i v (by rw [<-h2,<-vD i h1,B7u])
   rw [B6l (by omega)]at this
   exact this.sub fG
  ·rw [B6j (by omega)]
   obtain⟨u,h3,h4⟩:=zG.get? _ _ h2;rw [hgD _ _ h3];exact h4
 rintro e w' ⟨qs,rfl,F',ρ',cJ,lY,bU,hx⟩;have qT:∀g∈Arz G,∃u,AR F ρ (inK K ob) g u/\AR F' ρ' aU g u:=by
  intro g hg;obtain⟨i,hi⟩:=B7t hg;obtain⟨u,h3,h4⟩:=zG.get? i g hi;refine⟨u,h4,?_⟩;have aP:vs[GB+i]? =none:=List.getElem?_eq_none (by omega)
  have fQ:get (X6 0 vs++X6 GB (Arz G)) (GB+i)=some g:=by
   rw [E5,Aaj,B6l (B81 _),B78,aP];simp only [Aaj];rw [B6l (by omega),show GB+i-GB=i by omega];exact hi
  have:=lY (GB+i) g (by omega) fQ
  rw [show GB+i-GB=i by omega]at this
  rw [hgD _ _ h3]at this;exact this
 obtain⟨ρ2,hρ2⟩:∃ρ2:Map,(λ k=>if k∈K\/(get aU k).isSome=true then ρ' k else ρ k)=ρ2:=⟨_,rfl⟩
 have r1:∀k,k∈K->ρ2 k=ρ' k:=λ k hk=>by rw [<-hρ2];simp [hk]
 have r2:∀k o,get aU k=some o->ρ2 k=ρ' k:=λ k o hk=>by rw [<-hρ2];simp [hk]
 have r3:∀k,k∉K->get aU k=none->ρ2 k=ρ k:=λ k hk hg=>by rw [<-hρ2];simp [hk,hg]
 have gK:∀k,k∈K->get (aU++Afh K ob) k=get aU k:=λ k hk=>by
  grind [E5,Azo,get]
 have gS:∀k o,get aU k=some o->get (aU++Afh K ob) k=some o:=λ k o hk=>by rw [E5,hk]
 have gN:∀k,k∉K->get aU k=none->get (aU++Afh K ob) k=get ob k:=λ k hk hg=>by rw [E5,hg];simp only [Azo,B6j hk]
 have cas:∀k o,get (aU++Afh K ob) k=some o->get aU k=some o\/(k∉K/\get aU k=none/\get ob k=some o):=λ k o hk=>by
  cases hc:get aU k with
  |some o'=>rw [gS k o' hc]at hk;exact .inl hk
  |none=>
   grind
 have cN:∀{x:AV}{v:Value},(∀q∈ob,q.1∉K->AV.names q.1 x=false)->AR F' ρ' aU x v->AR F' ρ2 (aU++Afh K ob) x v:=λ {x v} hi ha=>
  ha.lift _ (AV.all1_out (Q:=λ k=>k∉K/\∃o,get ob k=some o) λ k ⟨hk,o,ho⟩=>hi (k,o) (B0 ho) hk) λ y u hq hh=>hh.cong2 λ k hk o ho=>by
   grind
 have cO:∀{x:AV}{v:Value},Aow K G x=true->(∀p∈aU,p.1∉K->x.names p.1=false)->AR F ρ ob x v->AR F' ρ2 (aU++Afh K ob) x v:=λ {x v} hi cS ha=>by
  have bT:x.all1 λ y=>∀k,y.names1 k=true->k∉K->get aU k=none:=by
   have key:∀y:AV,(∀p∈aU,p.1∉K->y.names1 p.1=false)->∀k,y.names1 k=true->k∉K->get aU k=none:=λ y hy k hk fS=>by
    cases hc:get aU k with
    |none=>rfl
    |some o=>have:=hy _ (B0 hc) fS;rw [this]at hk;simp at hk
   cases x
   case tup vs=>exact λ y hy=>key y λ p hp hpK=>by have:=cS p hp hpK;simp only [AV.names,B7p]at this;simpa using this y hy
   case ags vs=>exact λ y hy=>key y λ p hp hpK=>by have:=cS p hp hpK;simp only [AV.names,B7p]at this;simpa using this y hy
   case clo g vs=>exact λ y hy=>key y λ p hp hpK=>by have:=cS p hp hpK;simp only [AV.names,B7p]at this;simpa using this y hy
   all_goals exact key _ λ p hp hpK=>by have:=cS p hp hpK;simpa [AV.names]using this
  have zH:x.all1 λ y=>Aov K G y=true/\∀k,y.names1 k=true->k∉K->get aU k=none:=by
   have:=Bk1 hi;cases x<;>simp only [AV.all1]at this bT ⊢ <;>first|exact λ y hy=>⟨this y hy,bT y hy⟩|exact⟨this,bT⟩
  refine(ha.mono hx.le).lift _ zH λ y u hq hh=> ?_
  obtain⟨hc,hz⟩:=hq;have out:∀k,y.names1 k=true->k∉K->ρ2 k=ρ k/\∀o,get (aU++Afh K ob) k=some o->get ob k=some o:=λ k hk fS=>⟨r3 k fS (hz k hk fS),λ o ho=>by rw [gN k fS (hz k hk fS)]at ho;exact ho⟩
  by_cases hall:∀k,y.names1 k=true->k∉K
  ·exact hh.cong λ k hk=>out k hk (hall k hk)
  ·cases y<;>simp only [AV.names1,B6p,B9d,B9k,not_true_eq_false,B62,forall_eq',Classical.not_not]at hall
   ·rename_i k ver st len;simp only [Aov,B7n,B7b,B63,B7k,B6o]at hc;have hg:=hc.resolve_left (λ q=>q hall)
    obtain⟨a1,a2,o,a3,a4⟩:=o2 (k,ver) hg;dsimp only at a1 a2 a3 a4;obtain⟨u0,g1,g2⟩:=qT (.sl k ver 0 ver) (by unfold Arz;exact B9l _ (B6z.2 ⟨(k,ver),hg,rfl⟩))
    refine⟨a2,λ o' aT=> ?_⟩
    rw [gK k hall]at aT;obtain⟨q1,q2⟩:=g2.2 o' aT;refine⟨q1,λ e1 e2=> ?_⟩
    have s1:=(g1.2 o (by rw [Ayi,B6l hall];exact a3)).2 a4 (by omega)
    have s2:=q2 e1 (by omega)
    have s3:=(hh.2 o a3).2 a4 e2;unfold SlR at s1 s2 s3 ⊢;rw [r1 k hall];cases hp:ρ k with
    |none=>
     rw [hp]at s1 s3;obtain⟨l0,rfl⟩:=s1;cases lE:ρ' k with
     |none=>exact s3
     |some p'=>
      rw [lE]at s2;obtain⟨_,a,x1,x2⟩:=s2;rw [x2 (.inr rfl)]at x1;simp at x1
    |some p=>
     rw [hp]at s1 s3;obtain⟨_,a,rfl,x2⟩:=s1;cases lE:ρ' k with
     |none=>rw [lE]at s2;rw [x2 (.inr rfl)]at s2;simp at s2
     |some p'=>
      rw [lE]at s2;obtain⟨_,a',y1,y2⟩:=s2;rw [x2 (.inr rfl),y2 (.inr rfl)]at y1;have z1:=(hm.cells a2 a3 hp).2.2.1;have z2:=(cJ.cells a2 aT lE).2.2.1;have z3:=o8 _ _ aT o a3 (.inr ⟨ver,hg⟩);simp only [Value.slice.injEq,B6g,Addr.mk.injEq,B7v,Nat.zero_mul,B8y,B78,B7w]at y1;obtain⟨⟨v1,v2⟩,v3⟩:=y1;have hpp:p'=p:=by
       obtain⟨g,sz,cap,of⟩:=p;obtain⟨g',sz',cap',of'⟩:=p';dsimp only at v1 v2 v3 z1 z2 z3;simp only [N4.mk.injEq];omega
      rw [hpp];exact s3
   ·rename_i k row off;simp only [Aov,B7n,B7b,B63,B7k,B6o]at hc;have hg:=hc.resolve_left (λ q=>q hall)
    obtain⟨a1,a2,o,a3,a4⟩:=o1 k hg;obtain⟨u0,g1,g2⟩:=qT (.loc k 0 0) (by unfold Arz;exact List.mem_append_left _ (B6z.2 ⟨k,hg,rfl⟩))
    refine⟨a2,λ o' aT=> ?_⟩
    rw [gK k hall]at aT;obtain⟨p',q1,q2⟩:=g2.2 o' aT;obtain⟨p,q3,q4⟩:=g1.2 o (by rw [Ayi,B6l hall];exact a3)
    obtain⟨p0,q5,q6⟩:=hh.2 o a3;rw [q3,B6g]at q5;subst q5;have z1:=(hm.cells a2 a3 q3).2.2.1;have z2:=(cJ.cells a2 aT q1).2.2.1;grind
   all_goals grind [Aov]
 have zI:∀p∈aU,p.1∉K->(∀q∈fr,GB<=q.1->q.2.names p.1=false)/\∀q∈ob,q.1∉K->∀r∈q.2.rows,∀x∈r,AV.names p.1 x=false:=λ p hp hk=>(o7 p hp hk).2
 refine⟨qs,rfl,F',ρ2,⟨cJ.facts,hm.big.le hx.below.size,λ k o h1 h2=> ?_,λ k o p h1 h2=> ?_,λ k o p h1 h2 a u hu=> ?_,λ k o p k' o' p' h1 h2 h3 h4 h5=> ?_⟩,λ i v hi hvv=> ?_,?_,⟨hx.le,hx.below.sub b1,λ a u hu=>(hx.new a u hu).imp id λ hn hb=>hn (b1 _ hb)⟩⟩
 ·rcases cas k o h1 with c|⟨c1,c2,c3⟩
  ·rw [r2 k o c]at h2;exact cJ.bare k o c h2
  ·rw [r3 k c1 c2]at h2;exact hm.bare k o c3 h2
 ·rcases cas k o h1 with c|⟨c1,c2,c3⟩
  ·rw [r2 k o c]at h2;obtain⟨g1,g2⟩:=cJ.own k o p c h2;exact⟨λ hb=>g1 (b1 _ hb),g2.imp λ r hr x hxx v hvv=>cN (o6 _ (B0 c) r hr x hxx) hvv⟩
  ·rw [r3 k c1 c2]at h2;obtain⟨g1,g2⟩:=hm.own k o p c3 h2;rw [hx.below.block _ (b2 k o p c1 c3 h2)];exact⟨g1,g2.imp λ r hr x hxx v hvv=>cO (o4 _ (B0 c3) c1 r hr x hxx) (λ p hp hpK=>(zI p hp hpK).2 _ (B0 c3) c1 r hr x hxx) hvv⟩
 ·rcases cas k o h1 with c|⟨c1,c2,c3⟩
  ·rw [r2 k o c]at h2;exact cJ.apart k o p c h2 a u hu
  ·rw [r3 k c1 c2]at h2;rcases hx.new a u hu with h3|h3
   ·exact hm.apart k o p c3 h2 a u h3
   all_goals grind
 ·rcases cas k o h1 with c|⟨c1,c2,c3⟩
  ·rw [r2 k o c]at h2;rcases cas k' o' h3 with d|⟨d1,d2,d3⟩
   ·rw [r2 k' o' d]at h4;exact cJ.inj k o p k' o' p' c h2 d h4 h5
   ·rw [r3 k' d1 d2]at h4;exact absurd (h5▸b2 k' o' p' d1 d3 h4) (cJ.own k o p c h2).1
  ·rw [r3 k c1 c2]at h2;rcases cas k' o' h3 with d|⟨d1,d2,d3⟩
   ·rw [r2 k' o' d]at h4;exact absurd (h5▸b2 k o p c1 c3 h2) (cJ.own k' o' p' d h4).1
   ·rw [r3 k' d1 d2]at h4;exact hm.inj k o p k' o' p' c3 h2 d3 h4 h5
 ·have:=hf i v hvv;rw [B6j (by omega)]at this
  exact cO (o3 _ (B0 hvv) hi) (λ p hp hpK=>(zI p hp hpK).1 _ (B0 hvv) hi) this
 ·refine C9.of_get bU.length λ i v hi=> ?_
  obtain⟨u,h1,h2⟩:=bU.get? i v hi;exact⟨u,h1,cN (o5 v (B6t hi)) h2⟩
theorem Ayk {fr:FL}{R:List Nat}(hR:∀r∈R,GB<=r):∀c i,i+c<=GB->Aap (E1 R fr) i c=Aap fr i c
 |0,i,_=>rfl
 |c+1,i,hi=>by
  simp only [Aap];rw [E7,B6j λ h=>by have:=hR _ h;omega,Ayk hR c (i+1) (by omega)]
theorem Aer {n:Nat}{A:List AV->OL->List Nat×List Nat×List (Nat×Nat)}{S:PG}(s:St)(rs:List AV)(ob:OL)(R:List Nat)(hR:∀r∈R,GB<=r)(hs:Amc n A S s=some (rs,ob)):Amc n A S ⟨E1 R s.fr,s.ob⟩=some (rs,ob):=by
 obtain⟨hn,cT,vs,aU,hv,aJ,bB,rfl⟩:=Ayj hs;refine Avb (s:=⟨E1 R s.fr,s.ob⟩) hn ?_ (by rw [Ayk hR n 0 (by omega)];exact hv) aJ ?_
 ·grind [get,E1,E7]
 ·exact⟨bB.locs,bB.sls,λ p hp=>bB.fr p (Q2 hp).1,bB.ob,bB.rs,bB.new,λ p hp hk=>⟨(bB.fresh p hp hk).1,λ q hq=>(bB.fresh p hp hk).2.1 q (Q2 hq).1,(bB.fresh p hp hk).2.2⟩,bB.sz⟩
open Go.RowKit
def swK (a b k:Nat):Nat:=if k=a then b else if k=b then a else k
theorem Bmk (a b:Nat):swK a b a=b:=by simp [swK]
theorem Buc (a b:Nat):swK a b b=a:=by unfold swK;split<;>simp_all
theorem Bud {a b k:Nat}(h1:k≠a)(h2:k≠b):swK a b k=k:=by simp [swK,h1,h2]
theorem Ab3 (a b k:Nat):swK a b (swK a b k)=k:=by
 grind [Bmk,Buc,Bud]
theorem Bwz {a b k j:Nat}(h:swK a b k=swK a b j):k=j:=by rw [<-Ab3 a b k,h,Ab3]
theorem Avc {a b k n:Nat}(ha:a<n)(hb:b<n):swK a b k<n↔k<n:=by
 grind [Bmk,Buc,Bud]
theorem Avd {a b k n:Nat}(ha:a<n)(hb:b<n)(hk:n<=k):swK a b k=k:=Bud (by omega) (by omega)
def AV.sw1 (a b:Nat):AV->AV
 | .sl k v s n=> .sl (swK a b k) v s n
 | .loc k r o=> .loc (swK a b k) r o
 | .mp k=> .mp (swK a b k)
 | .itr k=> .itr (swK a b k)
 |x=>x
def AV.sw (a b:Nat):AV->AV
 | .tup vs=> .tup (vs.map (sw1 a b))
 | .ags vs=> .ags (vs.map (sw1 a b))
 | .clo g vs=> .clo g (vs.map (sw1 a b))
 |x=>x.sw1 a b
def Obj.sw (a b:Nat)(o:Obj):Obj:=⟨o.sz,o.rows.map λ r=>r.map (AV.sw a b)⟩
def Ayl (a b:Nat)(ob:OL):OL:=ob.map λ p=>(swK a b p.1,p.2.sw a b)
def A00 (a b:Nat)(fr:FL):FL:=fr.map λ p=>(p.1,p.2.sw a b)
theorem Azp (a b:Nat):∀(ob:OL)(k:Nat),get (Ayl a b ob) k=(get ob (swK a b k)).map (Obj.sw a b)
 |[],k=>rfl
 |(j,o)::ob,k=>by
  have ih:=Azp a b ob k;grind [Ayl,Go.Am.get,swK,Ab3]
theorem Aqw (a b:Nat):∀(fr:FL)(i:Nat),get (A00 a b fr) i=(get fr i).map (AV.sw a b)
 |[],i=>rfl
 |(j,v)::fr,i=>by
  have ih:=Aqw a b fr i;grind [A00,Go.Am.get]
theorem Bw0 (a b:Nat)(x:AV):(x.sw1 a b).sw1 a b=x:=by cases x<;>simp [AV.sw1,Ab3]
theorem B2r (a b:Nat)(x:AV):(x.sw a b).sw a b=x:=by
 have h:(AV.sw1 a b∘AV.sw1 a b)=id:=funext λ y=>Bw0 a b y
 cases x<;>simp [AV.sw,AV.sw1,Ab3,h]
variable {a b : Nat} {F : A8} {ρ : Map} {ob : OL}
theorem Bml :KT<MK:=by decide
theorem AR1.sw (ha:a<KT)(hb:b<KT){x:AV}{v:Value}(h:AR1 F ρ ob x v):AR1 F (λ k=>ρ (swK a b k)) (Ayl a b ob) (x.sw1 a b) v:=by
 have hm:=Bml;have g:∀k o,get (Ayl a b ob) (swK a b k)=some o->∃o0,get ob k=some o0/\o=o0.sw a b:=λ k o ho=>by
  rw [Azp,Ab3,B6m]at ho;obtain⟨o0,h1,h2⟩:=ho;exact⟨o0,h1,h2.symm⟩
 cases x<;>simp only [AR1,AV.sw1]at h ⊢
 ·exact h
 ·exact h
 ·exact h
 ·rename_i k ver start len;refine⟨(Avc (by omega) (by omega)).2 h.1,λ o ho=> ?_⟩
  obtain⟨o0,h1,rfl⟩:=g k o ho;have hl:(o0.sw a b).rows.length=o0.rows.length:=by simp [Obj.sw]
  obtain⟨g1,g2⟩:=h.2 o0 h1;rw [hl];refine⟨g1,λ e1 e2=> ?_⟩
  have:=g2 e1 e2;unfold SlR at this ⊢;simp only [Ab3];exact this
 ·rename_i k row off;refine⟨(Avc (by omega) (by omega)).2 h.1,λ o ho=> ?_⟩
  obtain⟨o0,h1,rfl⟩:=g k o ho;simp only [Ab3];exact h.2 o0 h1
 ·exact h
 ·exact h
 ·rename_i k;rw [Avd (n:=MK) (by omega) (by omega) h.1]
  refine⟨h.1,h.2.1,λ o ho=> ?_⟩
  rw [show k=swK a b k from(Avd (n:=MK) (by omega) (by omega) h.1).symm]at ho ⊢
  obtain⟨o0,h1,rfl⟩:=g k o ho;simp only [Ab3];exact h.2.2 o0 h1
 ·rename_i k;rw [Avd (n:=MK) (by omega) (by omega) (by omega)]
  refine⟨h.1,λ o ho=> ?_⟩
  rw [show k=swK a b k from(Avd (n:=MK) (by omega) (by omega) (by omega)).symm]at ho ⊢
  obtain⟨o0,h1,rfl⟩:=g k o ho;simp only [Ab3];exact h.2 o0 h1
theorem C9.mapL {α β γ:Type}{R:α->β->Prop}{S:γ->β->Prop}{f:α->γ}{l:List α}{m:List β}(h:C9 R l m)(hf:∀x y,R x y->S (f x) y):C9 S (l.map f) m:=by
 induction h with
 |nil=>exact .nil
 |cons h _ ih=>exact .cons (hf _ _ h) ih
theorem AR.sw (ha:a<KT)(hb:b<KT){x:AV}{v:Value}(h:AR F ρ ob x v):AR F (λ k=>ρ (swK a b k)) (Ayl a b ob) (x.sw a b) v:=by
 cases x
 case tup vs=>obtain⟨ws,rfl,h⟩:=h;exact⟨ws,rfl,h.mapL λ _ _ h=>h.sw ha hb⟩
 case ags vs=>obtain⟨ws,rfl,h,h2⟩:=h;exact⟨ws,rfl,h.mapL λ _ _ h=>h.sw ha hb,h2⟩
 case clo g vs=>obtain⟨ws,rfl,h⟩:=h;exact⟨ws,rfl,h.mapL λ _ _ h=>h.sw ha hb⟩
 all_goals exact AR.of1 (AR1.sw ha hb (AR.to1 rfl h))
theorem B0g {x:AV}(h:x.one=true):(x.sw a b).one=true:=by cases x<;>simp [AV.one]at h<;>rfl
theorem Aph.sw (ha:a<KT)(hb:b<KT){bl:Option Go.Obj}{key:Nat}{o:Obj}{p:N4}(h:Aph F ρ ob bl key o p):Aph F (λ k=>ρ (swK a b k)) (Ayl a b ob) bl (swK a b key) (o.sw a b) p:=by
 have hm:=Bml;refine⟨λ hk=> ?_,λ hk cG=> ?_,λ hk=> ?_⟩
 ·obtain⟨⟨g2,g3,g4,cs,et,hh,g5,g6⟩,dA⟩:=h.1 ((Avc (by omega) (by omega)).1 hk)
  refine⟨⟨by simpa [Obj.sw]using g2,g3,λ r hr=> ?_,cs,et,hh,g5,λ i r j x hi hj=> ?_⟩,λ hK=> ?_⟩
  ·simp only [Obj.sw,B6z]at hr;obtain⟨r0,h1,rfl⟩:=hr;rw [B6s];exact g4 r0 h1
  ·simp only [Obj.sw,B7m,B6m]at hi;obtain⟨r0,h1,rfl⟩:=hi;simp only [B7m,B6m]at hj;obtain⟨x0,h2,rfl⟩:=hj;obtain⟨q1,u,q2,q3⟩:=g6 i r0 j x0 h1 h2;exact⟨B0g q1,u,q2,q3.sw ha hb⟩
  ·have nN:KT<=key:=by
    rcases B7f key KT with q|q
    ·have:=(Avc (k:=key) ha hb).2 q;omega
    ·exact q
   rw [Avd ha hb nN];exact dA nN
 ·have nN:MK<=key:=by
   rcases B7f key MK with q|q
   ·have:=(Avc (a:=a) (b:=b) (k:=key) (n:=MK) (by omega) (by omega)).2 q;omega
   ·exact q
  rw [Avd (n:=MK) (by omega) (by omega) nN]at cG
  obtain⟨es,hh,g1,g2,g3,g4⟩:=h.2.1 nN cG;refine⟨es,hh,by simpa [Obj.sw]using g1,g2,g3,λ i r hi=> ?_⟩
  simp only [Obj.sw,B7m,B6m]at hi;obtain⟨r0,h1,rfl⟩:=hi;obtain⟨e,k,v,q1,rfl,q3,q4⟩:=g4 i r0 h1;exact⟨e,k.sw a b,v.sw a b,q1,rfl,q3.sw ha hb,q4.sw ha hb⟩
 ·have nN:2*MK<=key:=by
   rcases B7f key (2*MK)with q|q
   ·have:=(Avc (a:=a) (b:=b) (k:=key) (n:=2*MK) (by omega) (by omega)).2 q;omega
   ·exact q
  obtain⟨x,fZ,h1|⟨mk,since,seen,g,h1,h2,h3⟩⟩:=h.2.2 nN
  ·refine⟨x,fZ,.inl ⟨?_,h1.2⟩⟩;simp [Obj.sw,h1.1,AV.sw,AV.sw1]
  ·refine⟨x,fZ,.inr ⟨swK a b mk,since,seen,g,?_,h2.sw ha hb,h3⟩⟩;simp only [Obj.sw,h1,B6v,B8a,B8c];rfl
theorem T0.sw (ha:a<KT)(hb:b<KT){B:Bd}{w:World}(h:T0 B F ρ ob w):T0 B F (λ k=>ρ (swK a b k)) (Ayl a b ob) w:=by
 have g:∀k o,get (Ayl a b ob) k=some o->∃o0,get ob (swK a b k)=some o0/\o=o0.sw a b:=λ k o ho=>by
  grind [Azp,Option.map_eq_some_iff]
 refine⟨h.facts,h.big,λ k o h1 h2=> ?_,λ k o p h1 h2=> ?_,λ k o p h1 h2=> ?_,λ k o p k' o' p' h1 h2 h3 h4 h5=> ?_⟩
 ·obtain⟨o0,q1,rfl⟩:=g k o h1;simp [Obj.sw,h.bare _ o0 q1 h2]
 ·obtain⟨o0,q1,rfl⟩:=g k o h1;obtain⟨q2,q3⟩:=h.own _ o0 p q1 h2;have:=q3.sw ha hb;rw [Ab3]at this;exact⟨q2,this⟩
 ·obtain⟨o0,q1,rfl⟩:=g k o h1;exact h.apart _ o0 p q1 h2
 ·obtain⟨o0,q1,rfl⟩:=g k o h1;obtain⟨o1,q2,rfl⟩:=g k' o' h3;exact Bwz (h.inj _ o0 p _ o1 p' q1 h2 q2 h4 h5)
def Apu (fr:FL)(b:Nat):Nat:=match get fr 0 with
 |some (.loc k _ _)=>k
 |_=>b
def Bw1 (b:Nat)(S:PG)(s:St):Option (List AV×OL):=
 if Apu s.fr b<KT/\b<KT then(S ⟨A00 (Apu s.fr b) b s.fr,Ayl (Apu s.fr b) b s.ob⟩).map λ p=>(p.1.map (AV.sw (Apu s.fr b) b),Ayl (Apu s.fr b) b p.2)else none
theorem Bqo {P:Program}{f:FuncId}{b:Nat}{S:PG}(h:D9 P f S):D9 P f (Bw1 b S):=by
 intro γ B F ρ fr ob w us rs aA aF cM hm hf hS;unfold Bw1 at hS;dsimp only at hS;generalize Apu fr b=a at hS;split at hS
 case isFalse=>simp at hS
 rename_i eP;obtain⟨ha,hb⟩:=eP;simp only [B6m,B6k]at hS;obtain⟨⟨rs0,bL⟩,aJ,rfl,rfl⟩:=hS;have gf:∀i v,get (A00 a b fr) i=some v->∃v0,get fr i=some v0/\v=v0.sw a b:=λ i v hv=>by
  rw [Aqw,B6m]at hv;obtain⟨o0,h1,h2⟩:=hv;exact⟨o0,h1,h2.symm⟩
 refine(h γ B F _ (A00 a b fr) (Ayl a b ob) w us rs0 bL aF (λ i hi=> ?_) (hm.sw ha hb) (λ i v hi=> ?_) aJ).mono ?_
 ·obtain⟨v,hv⟩:=cM i hi;exact⟨v.sw a b,by rw [Aqw,hv];rfl⟩
 ·obtain⟨v0,h1,rfl⟩:=gf i v hi;exact(hf i v0 h1).sw ha hb
 rintro e w' ⟨qs,rfl,F',ρ',cJ,hg,hr,hx⟩;refine⟨qs,rfl,F',_,cJ.sw ha hb,λ i v hi hv=> ?_,?_,hx⟩
 ·have:=(hg i (v.sw a b) hi (by rw [Aqw,hv];rfl)).sw ha hb
  rw [B2r]at this;exact this
 ·exact hr.mapL λ x y yL=>AR.sw ha hb yL
end Go.Am
namespace Go.Am
open Go.RowKit
theorem Bw2 {s:St}{x y:AV}{k:Option Nat}(h:s.frz x=some (y,k))(h1:x.one=true):y.one=true:=by
 unfold St.frz at h;grind [AV.one,Option.map_eq_some_iff]
theorem Baq {s:St}:∀{xs ys:List AV}{ks:List Nat},s.frzs xs=some (ys,ks)->ys.length=xs.length/\((∀x∈xs,x.one=true)->∀y∈ys,y.one=true)
 |[],ys,ks,h=>by
  grind [St.frzs]
 |x::xs,ys,ks,h=>by
  simp only [St.frzs]at h;split at h
  ·rename_i d k ds bE h1 h2;simp only [B6g,B6k]at h;obtain⟨rfl,rfl⟩:=h;obtain⟨g1,g2⟩:=Baq h2;grind [Bw2]
  ·simp at h
theorem Apv {B:Bd}{F:A8}{ρ:Map}{fr:FL}{ob:OL}{w:World}{rk z:Nat}{cells cs:List AV}{ks:List Nat}(hm:T0 B F ρ ob w)(hK:rk<MK)(hg:get ob rk=some ⟨z,[cells]⟩)(fT:(⟨fr,ob⟩:St).frzs cells=some (cs,ks)){js:List Nat}(oZ:∀k∈ks,k∈js)(hr:rk∉js):
  T0 B (F5 F ρ ob js w) ρ ((rk,⟨z,[cs]⟩)::del (kill ⟨fr,ob⟩ js).ob rk) w/\∀x v,AR F ρ ob x v->AR (F5 F ρ ob js w) ρ ((rk,⟨z,[cs]⟩)::del (kill ⟨fr,ob⟩ js).ob rk) x v:=by
 have hk:=T0.kill (s:=⟨fr,ob⟩) (ks:=js) hm;have bA:=I3 js (⟨fr,ob⟩:St);have dK:get (kill ⟨fr,ob⟩ js).ob rk=some ⟨z,[cells]⟩:=by rw [Akw,B6j hr];exact hg
 dsimp only at hk;obtain⟨bL,zJ⟩:∃x,(kill ⟨fr,ob⟩ js).ob=x:=⟨_,rfl⟩;rw [zJ]at hk dK ⊢;rw [zJ]at bA;dsimp only at bA;have gc:∀k o,get ((rk,(⟨z,[cs]⟩:Obj))::del bL rk) k=some o->(k=rk/\o=⟨z,[cs]⟩)\/(k≠rk/\get bL k=some o):=λ k o h=>by
  grind [Go.Am.get,B3]
 have go:∀k o,get ((rk,(⟨z,[cs]⟩:Obj))::del bL rk) k=some o->∃o',get bL k=some o'/\(k<MK->o'.rows.length=o.rows.length):=λ k o h=>by
  grind
 have hA:∀x v,AR (F5 F ρ ob js w) ρ bL x v->AR (F5 F ρ ob js w) ρ ((rk,⟨z,[cs]⟩)::del bL rk) x v:=λ x v h=>h.same go
 have hA0:∀x v,AR F ρ ob x v->AR (F5 F ρ ob js w) ρ bL x v:=λ x v h=>(h.mono F5.le).sub bA
 refine⟨⟨hk.facts,hk.big,λ k o h1 h2=> ?_,λ k o p h1 h2=> ?_,λ k o p h1 h2=> ?_,λ k o p k' o' p' h1 h2 h3 h4=> ?_⟩,λ x v h=>hA x v (hA0 x v h)⟩
 ·rcases gc k o h1 with ⟨rfl,rfl⟩|⟨_,q⟩
  ·have:=hk.bare k _ dK h2;simp at this
  ·exact hk.bare k o q h2
 ·rcases gc k o h1 with ⟨rfl,rfl⟩|⟨_,q⟩
  ·obtain⟨q1,q2⟩:=hm.own k _ p hg h2;obtain⟨⟨g2,g3,g4,cc,et,hh,g5,g6⟩,dA⟩:=q2.1 hK;obtain⟨l1,l2⟩:=Baq fT;have cA:∀x∈cells,x.one=true:=λ x hx=>by
    grind [List.getElem?_of_mem]
   have aW:C9 (AR F ρ ob) cells ((List.range cells.length).map λ j=>(cc[p.o+0*p.sz+j]?).getD undef):=by
    refine C9.of_get (by simp) λ j x hj=> ?_
    obtain⟨_,u,q3,q4⟩:=g6 0 cells j x rfl hj;grind [List.getElem?_eq_some_iff]
   have mY:=V4 (s:=⟨fr,ob⟩) hm fT aW;refine⟨q1,⟨λ _=>⟨⟨g2,g3,λ r hr=> ?_,cc,et,hh,g5,λ i r j x hi hj=> ?_⟩,dA⟩,λ h=>absurd h (by omega),λ h=>absurd h (by omega)⟩⟩
   ·rw [B6x.1 hr,l1];exact g4 cells (by simp)
   ·cases i with
    |succ i=>simp at hi
    |zero=>
     simp only [B8u,B6g]at hi;subst hi;refine⟨l2 cA x (B6t hj),?_⟩;obtain⟨u,q3,q4⟩:=mY.get? j x hj;have dT:j<cells.length:=by rw [<-l1];exact(B6n.1 hj).1
     obtain⟨_,u2,q5,q6⟩:=g6 0 cells j cells[j] rfl (by simp [dT])
     refine⟨u,?_,AR.of_RR (q4.mono (F5.mono oZ))⟩;grind
  ·obtain⟨q1,q2⟩:=hk.own k o p q h2;exact⟨q1,q2.imp λ r hr x hx v hv=>hA x v hv⟩
 ·obtain⟨o',h3,_⟩:=go k o h1;exact hk.apart k o' p h3 h2
 ·obtain⟨o1,q1,_⟩:=go k o h1;obtain⟨o2,q2,_⟩:=go k' o' h3;exact hk.inj k o1 p k' o2 p' q1 h2 q2 h4
def Bs9 (S:PG)(s:St):Option (List AV×OL):=
 match get s.ob (Apu s.fr 7)with
 |some ⟨z,[cells]⟩=>match s.frzs cells with
  |some (cs,ks)=>if Apu s.fr 7<MK/\Apu s.fr 7∉ks then S ⟨s.fr,(Apu s.fr 7,⟨z,[cs]⟩)::del (kill s ks).ob (Apu s.fr 7)⟩else none
  |none=>none
 |_=>none
theorem Bdj {P:Program}{f:FuncId}{S:PG}(h:D9 P f S):D9 P f (Bs9 S):=by
 intro γ B F ρ fr ob w us rs aA aF cM hm hf hS;unfold Bs9 at hS;dsimp only at hS;generalize Apu fr 7=rk at hS;split at hS
 case h_2=>simp at hS
 rename_i z cells hg;split at hS
 case h_2=>simp at hS
 rename_i cs ks fT;split at hS
 case isFalse=>simp at hS
 rename_i hc;obtain⟨h1,h2⟩:=Apv hm hc.1 hg fT (λ k hk=>hk) hc.2
 refine(h γ B _ ρ fr _ w us rs aA aF cM h1 (λ i v hi=>h2 _ _ (hf i v hi)) hS).mono ?_
 rintro e w' ⟨qs,rfl,F',ρ',cJ,tJ,hr,hx⟩;exact⟨qs,rfl,F',ρ',cJ,tJ,hr,⟨F5.le.trans hx.le,hx.below,λ a u hu=>(hx.new a u hu).elim (λ h=>F5.new hm h) .inr⟩⟩
theorem Bhh {f1 f2:FL}{ob:OL}:∀vs,St.frzs ⟨f1,ob⟩ vs=St.frzs ⟨f2,ob⟩ vs
 |[]=>rfl
 |v::vs=>by
  simp only [St.frzs,Bhh (f1:=f1) (f2:=f2) vs];rfl
theorem Bhi :∀(ks:List Nat)(f1 f2:FL)(o:OL),(kill ⟨f1,o⟩ ks).ob=(kill ⟨f2,o⟩ ks).ob
 |[],f1,f2,o=>rfl
 |k::ks,f1,f2,o=>Bhi ks f1 f2 _
abbrev Aut (S:PG):Prop:=∀(s:St)(rs:List AV)(ob:OL)(R:List Nat),(∀r∈R,GB<=r)->S s=some (rs,ob)->S ⟨E1 R s.fr,s.ob⟩=some (rs,ob)
theorem Bk2 {fr:FL}{b:Nat}{R:List Nat}(hR:∀r∈R,GB<=r):Apu (E1 R fr) b=Apu fr b:=by unfold Apu;rw [E7,B6j λ h=>by have:=hR _ h;unfold GB at this;omega]
theorem Bk3 {S:PG}(h:Aut S):Aut (Bs9 S):=by
 intro s rs ob R hR hs;unfold Bs9 at hs ⊢;dsimp only;rw [Bk2 hR];split at hs
 case h_2=>simp at hs
 rename_i z cells hg;rw [Bhh (f1:=E1 R s.fr) (f2:=s.fr)];split at hs
 case h_2=>simp at hs
 rename_i cs ks fT;rw [show (St.frzs ⟨s.fr,s.ob⟩ cells)=some (cs,ks)from fT]
 dsimp only;split at hs
 case isFalse=>simp at hs
 rename_i hc;rw [B6l hc,Bhi ks (E1 R s.fr) s.fr];exact h _ rs ob R hR hs
def A01 (S:PG)(s:St):Option (List AV×OL):=
 match S s with
 |some (rs,ob)=>match get ob 7 with
  |some ⟨z,[cells]⟩=>match (⟨[],ob⟩:St).frzs cells,(⟨[],ob⟩:St).frzs rs with
   |some (cs,ks),some (ds,js)=>if 7∉ks++js then some (ds,[(7,⟨z,[cs]⟩)])else none
   |_,_=>none
  |_=>none
 |none=>none
theorem A47 {P:Program}{f:FuncId}{S:PG}(h:D9 P f S):D9 P f (A01 S):=by
 intro γ B F ρ fr ob w us rs aA aF cM hm hf hS;unfold A01 at hS;split at hS
 case h_2=>simp at hS
 rename_i rs0 bL aJ;split at hS
 case h_2=>simp at hS
 rename_i z cells hg;split at hS
 case h_2=>simp at hS
 rename_i cs ks ds js fT dU;split at hS
 case isFalse=>simp at hS
 rename_i hc;simp only [B6g,B6k]at hS;obtain⟨rfl,rfl⟩:=hS;refine(h γ B F ρ fr ob w us rs0 bL aF cM hm hf aJ).mono ?_;rintro e w' ⟨qs,rfl,F',ρ',cJ,tJ,hr,hx⟩;obtain⟨h1,h2⟩:=Apv cJ (by decide) hg fT (js:=ks++js) (λ k hk=>List.mem_append_left _ hk) hc
 have bA:∀k o,get [(7,(⟨z,[cs]⟩:Obj))] k=some o->get ((7,(⟨z,[cs]⟩:Obj))::del (kill ⟨[],bL⟩ (ks++js)).ob 7) k=some o:=λ k o hk=>by
  grind [Go.Am.get]
 refine⟨qs,rfl,F5 F' ρ' bL (ks++js) w',ρ',h1.sub_ bA,λ i v hi hv=>(h2 _ _ (tJ i v hi hv)).sub bA,?_,⟨hx.le.trans F5.le,hx.below,λ a u hu=>(F5.new cJ hu).elim (hx.new a u) .inr⟩⟩
 have:=V4 (s:=⟨[],bL⟩) cJ dU hr;exact this.imp λ x v h=>AR.of_RR (h.mono (F5.mono λ k hk=>B9l _ hk))
def wA (vs:List AV)(_:OL):List Nat×List Nat×List (Nat×Nat):=match vs with
 | .loc k _ _::_=>([k],[k],[])
 |_=>([],[],[])
noncomputable def Amd (n:Nat)(S:PG):PG:=Bs9 (Amc n wA (Bw1 7 (A01 S)))
theorem A37 {P:Program}{f:FuncId}{n:Nat}{S:PG}(h:D9 P f S):D9 P f (Amd n S):=Bdj (Ahe (Bqo (A47 h)))
theorem Aym {n:Nat}{S:PG}:Aut (Amd n S):=Bk3 λ s rs ob R hR hs=>Aer s rs ob R hR hs
def AV.dat :AV->Bool
 | .c _=>true
 | .agg _=>true
 |_=>false
theorem B0h {a b:Nat}{x:AV}(h:x.dat=true):x.sw a b=x:=by cases x<;>simp [AV.dat]at h<;>rfl
theorem Aes {a b:Nat}:∀{l:List AV},(∀x∈l,x.dat=true)->l.map (AV.sw a b)=l
 |[],_=>rfl
 |x::l,h=>by rw [B6v,B0h (h x (by simp)),Aes λ y hy=>h y (by simp [hy])]
theorem Aqx {s:St}:∀{xs ys:List AV}{ks:List Nat},s.frzs xs=some (ys,ks)->∀y∈ys,y.dat=true
 |[],ys,ks,h=>by
  grind [St.frzs]
 |x::xs,ys,ks,h=>by
  simp only [St.frzs]at h;split at h
  ·rename_i d k ds bE h1 h2;simp only [B6g,B6k]at h;obtain⟨rfl,rfl⟩:=h;intro y hy;rcases B6r.1 hy with rfl|hy
   ·unfold St.frz at h1;split at h1
    ·simp only [B6g,B6k]at h1;rw [<-h1.1];rfl
    ·simp only [B6g,B6k]at h1;rw [<-h1.1];rfl
    ·simp only [B6g,B6k]at h1;rw [<-h1.1];rfl
    ·simp only [B6m,B6k]at h1;obtain⟨_,_,h1,_⟩:=h1;rw [<-h1];rfl
    ·simp at h1
   ·exact Aqx h2 y hy
  ·simp at h
theorem Am8 {k:Nat}{x:AV}(h:x.dat=true):x.names k=false:=by cases x<;>simp [AV.dat]at h<;>rfl
theorem A38 (a b:Nat):∀(vs:List AV)(i:Nat),A00 a b (X6 i vs)=X6 i (vs.map (AV.sw a b))
 |[],_=>rfl
 |v::vs,i=>by simp only [X6,A00,B6v];rw [<-A38 a b vs (i+1)];rfl
theorem Bqp (a b:Nat)(l m:FL):A00 a b (l++m)=A00 a b l++A00 a b m:=by unfold A00;rw [B60]
theorem Azq (k:Nat):∀ob:OL,Afh [k] (del ob k)=del ob k
 |[]=>rfl
 |(j,o)::ob=>by
  simp only [Go.Am.del];split
  ·exact Azq k ob
  ·rename_i h;unfold Afh;rw [B8j (by simpa using h)]
   have:=Azq k ob;unfold Afh at this;rw [this]
theorem A6n (k:Nat):∀ob:OL,inK [k] (del ob k)=[]
 |[]=>rfl
 |(j,o)::ob=>by
  simp only [Go.Am.del];split
  ·exact A6n k ob
  ·rename_i h;unfold inK;rw [B8b (by simpa using h)]
   exact A6n k ob
def Am9 (k:Nat)(x:AV):Prop:=Aow [k] ([k],[]) x=true
theorem Bta {n:Nat}{S:PG}{fr:FL}{ob aU:OL}{rk z:Nat}{vs cells cs rs cells' bS ds:List AV}{ks bE js:List Nat}(hn:n<GB)(h0:get fr n=none)(h1:Aap fr 0 n=some (.loc rk 0 0::vs))(hD:∀v∈vs,v.dat=true)
  (hk:rk<KT)(hg:get ob rk=some ⟨z,[cells]⟩)(fT:(⟨fr,ob⟩:St).frzs cells=some (cs,ks))(eE:rk∉ks)
  (hS:S ⟨(0,.loc 7 0 0)::X6 1 vs++[(GB,.loc 7 0 0)],[(7,⟨z,[cs]⟩)]⟩=some (rs,aU))(jP:get aU 7=some ⟨z,[cells']⟩)(zK:(⟨[],aU⟩:St).frzs cells'=some (bS,bE))(iK:(⟨[],aU⟩:St).frzs rs=some (ds,js))(h7:7∉bE++js)
  (dU:∀p∈fr,GB<=p.1->Am9 rk p.2)(aD:∀p∈(kill ⟨fr,ob⟩ ks).ob,p.1≠rk->∀r∈p.2.rows,∀x∈r,Am9 rk x):Amd n S ⟨fr,ob⟩=some (ds,(rk,⟨z,[bS]⟩)::del (kill ⟨fr,ob⟩ ks).ob rk):=by
 have ha:Apu fr 7=rk:=by
  have:=(Aaq h1).2 0 (by have:=(Aaq h1).1;simp at this;omega)
  grind [Apu,get]
 have aS:=Bml;unfold Amd Bs9;dsimp only;rw [ha];simp only [hg];rw [fT];dsimp only;rw [B6l ⟨by omega,eE⟩]
 have hcd:=Aqx fT;have zL:=Aqx zK;have fU:=Aqx iK;generalize (kill ⟨fr,ob⟩ ks).ob=bL at*;have e1:inK [rk] ((rk,(⟨z,[cs]⟩:Obj))::del bL rk)=[(rk,⟨z,[cs]⟩)]:=by
  grind [A6n,inK,List.filter_cons_of_pos]
 have e2:Afh [rk] ((rk,(⟨z,[cs]⟩:Obj))::del bL rk)=del bL rk:=by
  grind [Azq,Afh,List.filter_cons_of_neg]
 have lP:=Avb (n:=n) (A:=wA) (S:=Bw1 7 (A01 S)) (s:=⟨fr,(rk,⟨z,[cs]⟩)::del bL rk⟩) (vs:= .loc rk 0 0::vs) (rs:=ds) (aU:=[(rk,⟨z,[bS]⟩)]) hn h0 h1 ?_ ?_
 ·simp only [wA]at lP;rw [e2]at lP;exact lP
 ·simp only [wA];rw [e1];unfold Bw1;have qC:Apu (X6 0 (.loc rk 0 0::vs)++X6 GB (Arz ([rk],[]))) 7=rk:=rfl;rw [qC,B6l ⟨hk,by decide⟩]
  have e3:A00 rk 7 (X6 0 (.loc rk 0 0::vs)++X6 GB (Arz ([rk],[])))=(0,.loc 7 0 0)::X6 1 vs++[(GB,.loc 7 0 0)]:=by
   rw [Bqp,A38,B6v,Aes hD];simp [X6,Arz,A00,AV.sw,AV.sw1,Bmk]
  have e4:Ayl rk 7 [(rk,(⟨z,[cs]⟩:Obj))]=[(7,⟨z,[cs]⟩)]:=by
   simp [Ayl,Bmk,Obj.sw,Aes hcd]
  dsimp only;rw [e3,e4];unfold A01;rw [hS];simp only [jP,zK,iK];rw [B6l h7];simp [Ayl,Buc,Obj.sw,Aes zL,Aes fU]
 ·simp only [wA];refine⟨λ k cG=> ?_,λ p hp=>absurd hp (by simp),λ p hp hq=>dU p hp hq,λ p hp hq r hr x hx=> ?_,λ v hv q _ _=>Am8 (fU v hv),λ p hp r hr x hx q _ _=> ?_,λ p hp hq=> ?_,λ k o' aT o ho hq=> ?_⟩
  ·rw [B6x.1 cG];exact⟨by simp,by omega,⟨z,[cs]⟩,by simp [Go.Am.get],by simp⟩
  ·rcases B6r.1 hp with rfl|hp
   ·simp at hq
   ·obtain⟨q1,q2⟩:=Aef hp;exact aD p q1 q2 r hr x hx
  ·rw [B6x.1 hp]at hr;rw [B6x.1 hr]at hx;exact Am8 (zL x hx)
  ·rw [B6x.1 hp]at hq;simp at hq
  ·simp only [Go.Am.get]at ho aT;by_cases e:rk=k
   ·rw [B6l e,B6g]at ho aT;rw [<-ho,<-aT]
   ·rw [B6j e]at aT;simp at aT
end Go.Am
