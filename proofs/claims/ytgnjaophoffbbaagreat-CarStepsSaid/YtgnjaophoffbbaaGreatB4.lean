import Derived.Test.YtgnjaophoffbbaaGreatB3
import Derived.WalkKit
import Derived.ProofKit
import Derived.OpenShut
import Derived.Carry
import Derived.ChangeSame
import Derived.Deep.Slices
import Derived.DataReads
import Derived.Laws.IdiomRangeMap
set_option maxHeartbeats 4000000
set_option maxRecDepth 20000
set_option linter.unusedVariables false
set_option linter.unusedSimpArgs false
namespace Go.Am
open Go.RowKit
def oLt :Operand->Bool
 | .tmp n=>decide (n<GB)
 |_=>true
theorem A9s {a:Go.Act}{γ:Array Value}{c:Operand}(hs:a.tmps.size<=GB)(h:oLt c=true):(Aia a γ).eval c=a.eval c:=by
 cases c with
 |tmp n=>exact Akq a γ n hs (by simpa [oLt]using h)
 |_=>rfl
def E4 (P:Program)(nm:Nat->Option Nat)(N:Nat):AC->Code->Bool
 | .skip,.skip=>true
 | .reg o,.region _ ops false=>(match U0 P nm N ops o none [] [] ops.toList with|some []=>true|_=>false)
 | .draw q es fs t,.region _ ops true=>Ara P nm N q es fs t ops
 | .drawN q es fs ps t _,.region _ ops true=>Aey P nm N q es fs ps t ops
 | .seq a b,.seq x y=>E4 P nm N a x&&E4 P nm N b y
 | .cond c a b,.cond c' x y=>M3 c' c&&oLt c'&&E4 P nm N a x&&E4 P nm N b y
 | .block id a,.block id' x=>id==id'&&E4 P nm N a x
 | .loop a,.loop x=>E4 P nm N a x
 | .exit id,.exit id'=>id==id'
 | .ret,.ret=>true
 | .keep _ _ a,x=>E4 P nm N a x
 | .own _ key a,x=>decide (key<MK)&&E4 P nm N a x
 | .after _ _ a,x=>E4 P nm N a x
 | .keepP _ _ _ _ a,x=>E4 P nm N a x
 | .ren _ a,x=>E4 P nm N a x
 | .renA _ a,x=>E4 P nm N a x
 | .iceA _ _ _ a,x=>E4 P nm N a x
 | .any,_=>true
 |_,_=>false
theorem A3b {P:Program}{nm:Nat->Option Nat}{N:Nat}{o:AI}{x:Code}(h:E4 P nm N (.reg o) x=true):
  ∃id ops,x= .region id ops false/\(match U0 P nm N ops o none [] [] ops.toList with|some []=>true|_=>false)=true:=by
 cases x<;>try (simp [E4]at h;done)
 rename_i id ops dw
 cases dw
 ·exact⟨id,ops,rfl,by simpa only [E4]using h⟩
 ·simp [E4]at h
theorem Axe {P:Program}{nm:Nat->Option Nat}{N:Nat}{q:List I5}{es:List (Nat×Nat×List AV)}{fs:List Eff}{t:AI}{x:Code}(h:E4 P nm N (.draw q es fs t) x=true):∃id ops,x= .region id ops true/\Ara P nm N q es fs t ops=true:=by
 cases x<;>try (simp [E4]at h;done)
 rename_i id ops dw
 cases dw
 all_goals grind (splits:=12) (ematch:=8) (instances:=2000) [E4]
theorem Ath {P:Program}{nm:Nat->Option Nat}{N:Nat}{q:List I5}{es:List (Nat×Nat×List AV)}{fs:List Eff}{ps:List (List Nat)}{t:AI}{ks:List Nat}{x:Code}(h:E4 P nm N (.drawN q es fs ps t ks) x=true):∃id ops,x= .region id ops true/\Aey P nm N q es fs ps t ops=true:=by
 cases x<;>try (simp [E4]at h;done)
 rename_i id ops dw
 cases dw
 all_goals grind (splits:=12) (ematch:=8) (instances:=2000) [E4]
def R5 :AX->Exit
 | .norm=> .normal
 | .ex id=> .exit id
 | .ret=> .ret
section
variable {P : Program} {B : Bd} {F F' : A8} {ρ ρ' : Map} {s : St} {a : Go.Act} {w w' : World} {o : Oper} {ob aA : OL}
theorem T0.sub (hm:T0 B F ρ ob w)(hs:∀k o,get aA k=some o->get ob k=some o):T0 B F ρ aA w where
 facts:=hm.facts
 big:=hm.big
 bare:=λ k o h=>hm.bare k o (hs k o h)
 own:=λ k o p h1 h2=>by
  obtain⟨g1,g2⟩:=hm.own k o p (hs k o h1) h2;exact⟨g1,g2.imp λ r hr x hx v hv=>hv.sub hs⟩
 apart:=λ k o p h1 h2=>hm.apart k o p (hs k o h1) h2
 inj:=λ k o p k' o' p' h1 h2 h3 h4=>hm.inj k o p k' o' p' (hs k o h1) h2 (hs k' o' h3) h4
theorem Rel.keep {γ:Array Value}{F0:A8}{w0:World}{N:Nat}(ks os:List Nat)(h:Rel γ B F0 w0 N s a w):Rel γ B F0 w0 N ⟨Am.keep ks s.fr,Am.keep os s.ob⟩ a w:=by
 obtain⟨hG,F,ρ,hm,hf,r⟩:=h;exact⟨hG,F,ρ,hm.sub (Aew s.ob os),(λ i v hi=>hf i v (Aew s.fr ks i v hi)|>.sub (Aew s.ob os)),r⟩
theorem Aeh :∀(l:FL)(i:Nat),get (ghs l) i=if GB<=i then get l i else none
 |[],i=>by simp [ghs,get]
 |(k,v)::l,i=>by
  simp only [ghs,get];by_cases hk:GB<=k
  ·rw [B6l hk];simp only [get];by_cases h:k=i
   ·subst h;rw [B6l rfl,B6l rfl,B6l hk]
   ·rw [B6j h,B6j h,Aeh l i]
  ·rw [B6j hk,Aeh l i];by_cases hi:GB<=i
   ·rw [B6l hi,B6l hi,B6j (by omega)]
   ·rw [B6j hi,B6j hi]
theorem Ag4 (lo hi:Nat)(os:List Nat):∀(l:OL)(k:Nat)(o:Obj),get (A1 lo hi os l) k=some o->get l k=some o
 |[],k,o,h=>by simp [A1,get]at h
 |(j,u)::l,k,o,h=>by
  simp only [A1]at h;by_cases hc:j%KT<lo\/hi<=j%KT\/j∈os
  ·rw [B6l hc]at h;simp only [get]at h ⊢;by_cases hj:j=k
   ·rw [B6l hj]at h ⊢;exact h
   ·rw [B6j hj]at h ⊢;exact Ag4 lo hi os l k o h
  ·rw [B6j hc]at h;have:=Ag4 lo hi os l k o h;simp only [get];rw [B6j]
   ·exact this
   ·rintro rfl;have cW:∀l:OL,get (A1 lo hi os l) j=none:=by
     intro l
     induction l with
     |nil=>rfl
     |cons p l ih=>
      obtain⟨m,q⟩:=p;simp only [A1];split
      ·rename_i hm;simp only [get];rw [B6j (by rintro rfl;exact hc hm)];exact ih
      ·exact ih
    rw [cW]at h;simp at h
theorem Rel.keepP {γ:Array Value}{F0:A8}{w0:World}{N:Nat}(ks:List Nat)(lo hi:Nat)(os:List Nat)(h:Rel γ B F0 w0 N s a w):Rel γ B F0 w0 N ⟨Am.keep ks s.fr++ghs s.fr,A1 lo hi os s.ob⟩ a w:=by
 refine h.less (Ag4 lo hi os s.ob) λ i v hi=> ?_
 rw [E5]at hi;cases hk:get (Am.keep ks s.fr) i with
 |some u=>
  grind [Aew]
 |none=>
  grind [Aeh]
theorem Rel.own {γ:Array Value}{F0:A8}{w0:World}{N d key sz:Nat}(hK:key<MK)(h:Rel γ B F0 w0 N s a w)(hd:get s.fr d=some (.nil sz))(aG:s.free key=true):Rel γ B F0 w0 N ((s.obj key ⟨sz,[]⟩).put (some d) (.sl key 0 0 0)) a w:=by
 obtain⟨hG,F,ρ,hm,hf,he,hN,cX⟩:=h;refine⟨hG,F,K0 ρ key none,hm.newBare aG,λ i v hi=> ?_,he,hN,cX⟩
 simp only [St.put,G2]at hi;by_cases hdi:d=i
 ·subst hdi;simp only [B68,B6g]at hi;subst hi;have hb:=hf d _ hd;refine⟨hK,λ o ho=> ?_⟩
  have:get (s.obj key ⟨sz,[]⟩).ob key=some o:=ho;rw [N9]at this;simp only [B6g]at this;subst this;exact⟨by simp,λ _ _=>by unfold SlR;rw [E6];exact⟨rfl,hb⟩⟩
 ·rw [B6j hdi]at hi;exact(FrG.pad (by omega)).2 ((S5 (F:=F) (ρ:=ρ) (a:=Aia a γ) aG).2 ((FrG.pad (by omega)).1 hf)) i v hi
theorem Y3 {a b k:Nat}(h:k≠a):Avf a b k=k:=B6j h
theorem T5 (a b:Nat):Avf a b a=b:=B6l rfl
theorem Bgd {a b:Nat}{x:AV}(h:x.names1 a=false):x.ren1 a b=x:=by
 cases x<;>simp only [AV.names1,B8d,ne_eq]at h<;>simp only [AV.ren1]
 all_goals rw [Y3 h]
theorem A60 {a b:Nat}{x:AV}(h:x.names a=false):x.ren a b=x:=by
 have key:∀{vs:List AV},(∀y∈vs,y.names1 a=false)->vs.map (AV.ren1 a b)=vs:=by
  intro vs
  induction vs with
  |nil=>intro _;rfl
  |cons v vs ih=>intro hv;rw [B6v,Bgd (hv v (by simp)),ih λ y hy=>hv y (by simp [hy])]
 cases x<;>simp only [AV.names,B7p,Bool.not_eq_true]at h<;>simp only [AV.ren]
 all_goals grind [Bgd]
theorem Alu (a b:Nat):∀(l:FL)(i:Nat),get (Ac1 a b l) i=(get l i).map (AV.ren a b)
 |[],i=>rfl
 |(j,v)::l,i=>by
  simp only [Ac1,get];split
  ·rfl
  ·exact Alu a b l i
theorem Asq {a b:Nat}:∀{ob:OL},get ob b=none->∀k,get (Ab6 a b ob) k=if k=b then(get ob a).map (λ o=>⟨o.sz,J9 a b o.rows⟩)else if k=a then none else(get ob k).map λ o=>⟨o.sz,J9 a b o.rows⟩
 |[],_,k=>by simp [Ab6,get]
 |(j,o)::ob,hb,k=>by
  simp only [get]at hb;split at hb
  ·simp at hb
  rename_i hjb;have ih:=Asq (a:=a) hb k;simp only [Ab6,get];by_cases hja:j=a
  ·subst hja;rw [T5];by_cases hk:k=b
   ·subst hk;simp
   ·rw [B6j (B6i hk),ih,B6j hk,B6j hk];by_cases hka:k=j
    ·rw [B6l hka,B6l hka]
    ·rw [B6j hka,B6j hka,B6j (B6i hka)]
  ·rw [Y3 hja];by_cases mF:j=k
   ·subst mF;rw [B6l rfl,B6j hjb,B6j hja];simp
   ·rw [B6j mF,ih,B6j mF];by_cases hk:k=b
    ·subst hk;simp [hja]
    ·rw [B6j hk,B6j hk]
def A9t (a b:Nat)(ρ:Map):Map:=λ k=>if k=b then ρ a else if k=a then none else ρ k
def Bge (a b:Nat):Prop:=(a<KT/\b<KT)\/(MK<=a/\a<2*MK/\MK<=b/\b<2*MK)
section
variable {F : A8} {ρ : Map} {ob : OL} {a b : Nat}
theorem Bgf (hl:Bge a b):(a<MK↔b<MK)/\(a<2*MK↔b<2*MK):=by
 have h1:KT<=MK:=by decide
 rcases hl with ⟨h2,h3⟩|⟨h2,h3,h4,h5⟩<;>constructor<;>omega
theorem Adj (hb:get ob b=none){k:Nat}{o':Obj}(hk:k≠b)(h:get (Ab6 a b ob) (Avf a b k)=some o'):∃o,get ob k=some o/\o'.rows=J9 a b o.rows/\o'.sz=o.sz/\A9t a b ρ (Avf a b k)=ρ k:=by
 grind [Asq,T5,Option.map_eq_some_iff,A9t,Y3]
theorem Bgg (hl:Bge a b)(hb:get ob b=none){x:AV}{v:Value}(hn:x.names1 b=false)(h:AR1 F ρ ob x v):AR1 F (A9t a b ρ) (Ab6 a b ob) (x.ren1 a b) v:=by
 obtain⟨l1,l2⟩:=Bgf hl;cases x<;>simp only [AV.names1,B8d,ne_eq]at hn<;>simp only [AV.ren1,AR1]at h ⊢
 case sl k ver st n=>
  obtain⟨h1,h2⟩:=h;refine⟨?_,λ o' aT=> ?_⟩
  ·by_cases hka:k=a
   ·subst hka;rw [T5];exact l1.1 h1
   ·rw [Y3 hka];exact h1
  ·obtain⟨o,g1,g2,g3,g4⟩:=Adj (ρ:=ρ) hb hn aT;obtain⟨h3,h4⟩:=h2 o g1;have aF:o'.rows.length=o.rows.length:=by rw [g2,J9,B6s]
   rw [aF];exact⟨h3,λ e1 e2=>by have:=h4 e1 e2;unfold SlR at this ⊢;rw [g4];exact this⟩
 case loc k r f=>
  obtain⟨h1,h2⟩:=h;refine⟨?_,λ o' aT=> ?_⟩
  ·by_cases hka:k=a
   ·subst hka;rw [T5];exact l1.1 h1
   ·rw [Y3 hka];exact h1
  ·obtain⟨o,g1,g2,g3,g4⟩:=Adj (ρ:=ρ) hb hn aT;rw [g4];exact h2 o g1
 case mp k=>
  obtain⟨h1,h2,h3⟩:=h;refine⟨?_,?_,λ o' aT=> ?_⟩
  ·by_cases hka:k=a
   ·subst hka;rw [T5];have:=l1;omega
   ·rw [Y3 hka];exact h1
  ·by_cases hka:k=a
   ·subst hka;rw [T5];exact l2.1 h2
   ·rw [Y3 hka];exact h2
  ·obtain⟨o,g1,g2,g3,g4⟩:=Adj (ρ:=ρ) hb hn aT;rw [g4];exact h3 o g1
 case itr k=>
  obtain⟨h1,h2⟩:=h;refine⟨?_,λ o' aT=> ?_⟩
  ·by_cases hka:k=a
   ·subst hka;rw [T5];have:=l2;omega
   ·rw [Y3 hka];exact h1
  ·obtain⟨o,g1,g2,g3,g4⟩:=Adj (ρ:=ρ) hb hn aT;rw [g4];exact h2 o g1
 all_goals exact h
theorem Az2 (hl:Bge a b)(hb:get ob b=none){x:AV}{v:Value}(hn:x.names b=false)(h:AR F ρ ob x v):AR F (A9t a b ρ) (Ab6 a b ob) (x.ren a b) v:=by
 have key:∀{vs:List AV}{ws:List Value},(∀y∈vs,y.names1 b=false)->C9 (AR1 F ρ ob) vs ws->C9 (AR1 F (A9t a b ρ) (Ab6 a b ob)) (vs.map (AV.ren1 a b)) ws:=by
  intro vs ws hv h
  induction h with
  |nil=>exact .nil
  |cons ha hr ih=>exact .cons (Bgg hl hb (hv _ (by simp)) ha) (ih λ y hy=>hv y (by simp [hy]))
 cases x<;>simp only [AV.names,B7p,Bool.not_eq_true]at hn<;>simp only [AV.ren]
 case tup vs=>
  obtain⟨ws,rfl,h⟩:=h;exact⟨ws,rfl,key hn h⟩
 case ags vs=>
  obtain⟨ws,rfl,h,h2⟩:=h;exact⟨ws,rfl,key hn h,h2⟩
 case clo g vs=>
  obtain⟨ws,rfl,h⟩:=h;exact⟨ws,rfl,key hn h⟩
 all_goals exact AR.of1 (Bgg hl hb hn h)
theorem Buz (x:AV):(x.ren a b).one=x.one:=by cases x<;>rfl
theorem Bod (hl:Bge a b)(hb:get ob b=none){bk:Option Go.Obj}{k:Nat}{o:Obj}{p:N4}(hk:k≠b)(hn:∀r∈o.rows,∀x∈r,x.names b=false)(h:Aph F ρ ob bk k o p):Aph F (A9t a b ρ) (Ab6 a b ob) bk (Avf a b k) ⟨o.sz,J9 a b o.rows⟩ p:=by
 obtain⟨l1,l2⟩:=Bgf hl;have kk:(Avf a b k<MK↔k<MK)/\(Avf a b k<2*MK↔k<2*MK):=by
  by_cases hka:k=a
  ·subst hka;rw [T5];exact⟨l1.symm,l2.symm⟩
  ·rw [Y3 hka];exact⟨.rfl,.rfl⟩
 refine⟨λ h1=> ?_,λ h1 h2=> ?_,λ h1=> ?_⟩
 ·obtain⟨⟨g2,g3,g4,cs,et,hh,g5,g6⟩,dA⟩:=h.1 (kk.1.1 h1);refine⟨⟨by rw [J9,B6s];exact g2,g3,λ r hr=> ?_,cs,et,hh,g5,λ i r j x hi hj=> ?_⟩,?_⟩
  ·obtain⟨r0,eU,rfl⟩:=B6z.1 hr;rw [B6s];exact g4 r0 eU
  ·simp only [J9,B7m,B6m]at hi;obtain⟨r0,hi,rfl⟩:=hi;simp only [B7m,B6m]at hj;obtain⟨x0,hj,rfl⟩:=hj;obtain⟨h1,u,h2,h3⟩:=g6 i r0 j x0 hi hj;exact⟨by rw [Buz];exact h1,u,h2,Az2 hl hb (hn r0 (B6t hi) x0 (B6t hj)) h3⟩
  ·by_cases hka:k=a
   ·subst hka;rw [T5];intro aB;have gF:KT<=MK:=by decide
    rcases hl with ⟨_,h3⟩|⟨h3,_⟩
    ·omega
    ·have:=kk.1.1 h1;omega
   ·rw [Y3 hka];exact dA
 ·obtain⟨es,hh,g1,g2,g3,g4⟩:=h.2.1 (by have:=kk.1;omega) (kk.2.1 h2)
  refine⟨es,hh,by rw [J9,B6s];exact g1,g2,g3,λ i r hi=> ?_⟩
  simp only [J9,B7m,B6m]at hi;obtain⟨r0,hi,rfl⟩:=hi;obtain⟨e,kx,v,h1,rfl,h3,h4⟩:=g4 i r0 hi;have hm:=B6t hi;exact⟨e,kx.ren a b,v.ren a b,h1,rfl,Az2 hl hb (hn _ hm kx (by simp)) h3,Az2 hl hb (hn _ hm v (by simp)) h4⟩
 ·obtain⟨x,hx,h1|⟨mk,since,seen,g,h1,h2,h3⟩⟩:=h.2.2 (by have:=kk.2;omega)
  ·exact⟨x,hx,.inl ⟨by rw [h1.1];rfl,h1.2⟩⟩
  ·refine⟨x,hx,.inr ⟨Avf a b mk,since,seen,g,?_,?_,h3⟩⟩
   ·simp only [h1];simp only [J9,B6v,B8a,B8c];rfl
   ·exact Az2 hl hb (hn _ (by rw [h1];exact List.mem_cons_self) (.mp mk) (by simp)) h2
theorem T0.ren {B:Bd}{w:World}(hl:Bge a b)(hb:get ob b=none)(hn:∀p∈ob,∀r∈p.2.rows,∀x∈r,x.names b=false)(hm:T0 B F ρ ob w):T0 B F (A9t a b ρ) (Ab6 a b ob) w:=by
 have back:∀{k:Nat}{o':Obj},get (Ab6 a b ob) k=some o'->∃k0 o,k=Avf a b k0/\k0≠b/\get ob k0=some o/\o'=⟨o.sz,J9 a b o.rows⟩/\A9t a b ρ k=ρ k0:=by
  grind [Asq,Option.map_eq_some_iff,T5,A9t,Y3]
 refine⟨hm.facts,hm.big,λ k o' h h2=> ?_,λ k o' p h h2=> ?_,λ k o' p h h2=> ?_,λ k o' p k' o'' p' h h2 h3 h4 hp=> ?_⟩
 ·obtain⟨k0,o,rfl,rI,h1,rfl,hr⟩:=back h;rw [hr]at h2;simp only [hm.bare k0 o h1 h2];rfl
 ·obtain⟨k0,o,rfl,rI,h1,rfl,hr⟩:=back h;rw [hr]at h2;obtain⟨g1,g2⟩:=hm.own k0 o p h1 h2;exact⟨g1,Bod hl hb rI (hn _ (B0 h1)) g2⟩
 ·obtain⟨k0,o,rfl,rI,h1,rfl,hr⟩:=back h;rw [hr]at h2;exact hm.apart k0 o p h1 h2
 ·obtain⟨k0,o,rfl,rI,h1,rfl,hr⟩:=back h;obtain⟨k1,o1,rfl,bG,h5,rfl,aZ⟩:=back h3;rw [hr]at h2;rw [aZ]at h4;rw [hm.inj k0 o p k1 o1 p' h1 h2 h5 h4 hp]
end
theorem Rel.bare {γ:Array Value}{F0:A8}{w0:World}{N key sz:Nat}(h:Rel γ B F0 w0 N s a w)(aG:s.free key=true):Rel γ B F0 w0 N (s.obj key ⟨sz,[]⟩) a w:=by
 obtain⟨hG,F,ρ,hm,hf,he,hN,cX⟩:=h;exact⟨hG,F,K0 ρ key none,hm.newBare aG,(FrG.pad (by omega)).2 ((S5 (F:=F) (ρ:=ρ) (a:=Aia a γ) aG).2 ((FrG.pad (by omega)).1 hf)),he,hN,cX⟩
theorem Rel.ren {γ:Array Value}{F0:A8}{w0:World}{N k k':Nat}(hl:Bge k k')(hb:get s.ob k'=none)(aG:s.free k'=true)(h:Rel γ B F0 w0 N s a w):Rel γ B F0 w0 N ⟨Ac1 k k' s.fr,Ab6 k k' s.ob⟩ a w:=by
 obtain⟨hG,F,ρ,hm,hf,he,hN,cX⟩:=h;simp only [St.free,B6h,B6q,B7b]at aG;obtain⟨f1,f2⟩:=aG;rw [D1 _ _ hb]at f2;refine⟨hG,F,A9t k k' ρ,hm.ren hl hb λ p hp r hr x hx=>f2 p hp r hr x hx,λ i v hi=> ?_,he,hN,cX⟩
 rw [Alu,B6m]at hi;obtain⟨v0,hi,rfl⟩:=hi;exact Az2 hl hb (f1 _ (B0 hi)) (hf i v0 hi)
theorem Rel.renS {γ:Array Value}{F0:A8}{w0:World}{N key n:Nat}(bB:Adi s key n=true)(h:Rel γ B F0 w0 N s a w):Rel γ B F0 w0 N (renS s key n) a w:=by
 simp only [Adi,B6h,B7n,B6o,Option.isNone_iff_eq_none]at bB;obtain⟨⟨⟨⟨⟨⟨h1,h2⟩,h3⟩,h4⟩,h5⟩,h6⟩,h7⟩:=bB;have hD:DB+DB<=KT:=by decide
 have hM:KT<=MK:=by decide
 have hCD:CK<DB:=by decide
 have xY:Bge key (O9 key n):=by
  grind [Bge,O9]
 have aH:O9 key n≠CK:=by unfold O9;split<;>omega
 have hb:=h.bare (sz:=n+1) h3;have e1:get (s.obj CK ⟨n+1,[]⟩).ob (O9 key n)=none:=by rw [J2,B6j (B6i aH)];exact h5
 have e2:St.free (s.obj CK ⟨n+1,[]⟩) (O9 key n)=true:=by
  grind [St.free,St.obj,List.all_eq_true,Aef,del,O9,Aic,get]
 have:=hb.ren xY e1 e2;have e3:Ab6 key (O9 key n) (s.obj CK ⟨n+1,[]⟩).ob=(CK,⟨n+1,[]⟩)::Ab6 key (O9 key n) (del s.ob CK):=by
  simp only [St.obj,Ab6,Y3 (B6i h6)];rfl
 rw [e3]at this;exact this
theorem T0.ice {B:Bd}{F:A8}{ρ:Map}{w:World}{s:St}{K key off sz:Nat}{r:List AV}{v:AV}{d:D}{j:Nat}(hm:T0 B F ρ s.ob w)(hK:get s.ob K=some ⟨sz,[r]⟩)(hKM:K<MK)(aH:K≠key)(hv:r[off]? =some v)(hz:s.frz v=some (.c d,some j))(hj:j=key):
  T0 B (F5 F ρ s.ob [key] w) ρ (del ((K,⟨sz,[r.set off (.c d)]⟩)::del s.ob K) key) w/\∀k o',get (del ((K,(⟨sz,[r.set off (.c d)]⟩:Obj))::del s.ob K) key) k=some o'->∃o,get s.ob k=some o/\o.rows.length=o'.rows.length:=by
 subst hj;have hg:∀k,get (del ((K,(⟨sz,[r.set off (.c d)]⟩:Obj))::del s.ob K) j) k=if k=j then none else if k=K then some ⟨sz,[r.set off (.c d)]⟩else get s.ob k:=λ k=>by
  grind [B3,get]
 have hs:∀k o',get (del ((K,(⟨sz,[r.set off (.c d)]⟩:Obj))::del s.ob K) j) k=some o'->∃o,get s.ob k=some o/\o.rows.length=o'.rows.length:=λ k o' h=>by
  grind
 have hc:∀{x:AV}{u:Value},AR F ρ s.ob x u->AR (F5 F ρ s.ob [j] w) ρ (del ((K,(⟨sz,[r.set off (.c d)]⟩:Obj))::del s.ob K) j) x u:=λ h=>(h.mono F5.le).same λ k o' hk=>by obtain⟨o,h1,h2⟩:=hs k o' hk;exact⟨o,h1,λ _=>h2⟩
 generalize aD:del ((K,(⟨sz,[r.set off (.c d)]⟩:Obj))::del s.ob K) j=aA at*;refine⟨⟨F5.ok hm.facts,hm.big,λ k o h1 h2=> ?_,λ k o p h1 h2=> ?_,λ k o p h1 h2 a u hu=> ?_,λ k o p k' o' p' h1 h2 h3 h4=> ?_⟩,hs⟩
 ·obtain⟨o0,h3,h4⟩:=hs k o h1;have:=hm.bare k o0 h3 h2;rw [this]at h4;exact List.length_eq_zero_iff.1 h4.symm
 ·rw [hg]at h1;by_cases hkj:k=j
  ·rw [B6l hkj]at h1;simp at h1
  rw [B6j hkj]at h1;by_cases fS:k=K
  ·subst fS;rw [B6l rfl]at h1;simp only [B6g]at h1;subst h1;obtain⟨g1,g2⟩:=hm.own _ _ p hK h2;refine⟨g1,λ _=> ?_,λ h=>absurd h (by omega),λ h=>absurd h (by omega)⟩
   obtain⟨⟨c1,c2,c3,cs,et,c4,c5,c6⟩,dA⟩:=g2.1 hKM;refine⟨⟨c1,c2,λ r' bU=> ?_,cs,et,c4,c5,λ i r' j' x hi hj'=> ?_⟩,dA⟩
   ·simp only [B6x]at bU;subst bU;rw [List.length_set];exact c3 r (by simp)
   ·cases i with
    |succ i=>simp at hi
    |zero=>
     simp only [B8u,B6g]at hi;subst hi;rw [List.getElem?_set]at hj';split at hj'
     ·rename_i e;split at hj'
      ·simp only [B6g]at hj';subst hj';obtain⟨_,u,h3,h4⟩:=c6 0 r off v (by simp) hv
       refine⟨rfl,u,by rw [<-e];exact h3,?_⟩
       exact Agy hm hz h4
      ·simp at hj'
     ·obtain⟨h5,u,h3,h4⟩:=c6 0 r j' x (by simp) hj'
      exact⟨h5,u,h3,hc h4⟩
  ·rw [B6j fS]at h1;obtain⟨g1,g2⟩:=hm.own k o p h1 h2;exact⟨g1,g2.imp λ r' _ x _ u hu=>hc hu⟩
 ·obtain⟨o0,h3,_⟩:=hs k o h1;rcases hu with hu|⟨k',aN,o',p',h5,h6,h7,h8⟩
  ·exact hm.apart k o0 p h3 h2 a u hu
  ·intro nF;have:=hm.inj k o0 p k' o' p' h3 h2 h5 h6 (by rw [<-nF,h7])
   subst this;simp only [B6x]at aN;rw [hg,B6l aN]at h1;simp at h1
 ·obtain⟨o0,h5,_⟩:=hs k o h1;obtain⟨o1,h6,_⟩:=hs k' o' h3;exact hm.inj k o0 p k' o1 p' h5 h2 h6 h4
theorem Rel.ice {γ:Array Value}{F0:A8}{w0:World}{N t off key:Nat}(h:Rel γ B F0 w0 N s a w):Rel γ B F0 w0 N (Avg t off key s) a w:=by
 unfold Avg Buo;split
 case h_2=>exact h
 rename_i K _;unfold Bun;split
 case h_2=>exact h
 rename_i sz r hK;unfold Bum;split
 case h_2=>exact h
 rename_i v hv;split
 case h_2=>exact h
 rename_i d hd;split
 case isFalse=>exact h
 rename_i hc;unfold Brl at hd;split at hd
 case h_2=>simp at hd
 rename_i k ver st len;split at hd
 case isFalse=>simp at hd
 rename_i hk;split at hd
 case h_2=>simp at hd
 rename_i d' j hz;simp only [B6g]at hd;subst hd;have hj:j=key:=by
  grind [St.frz,Option.map_eq_some_iff]
 obtain⟨hG,F,ρ,hm,hf,he,hN,cX⟩:=h;obtain⟨cJ,hs⟩:=hm.ice hK hc.2 hc.1 hv hz hj;exact⟨hG,_,ρ,cJ,λ i u hu=>((hf i u hu).mono F5.le).same λ k o' hk=>(by obtain⟨o,h1,h2⟩:=hs k o' hk;exact⟨o,h1,λ _=>h2⟩),he.trans ⟨F5.le,.refl _ _,λ ad u hu=>F5.new hm hu⟩,hN,cX⟩
theorem Bbn {γ:Array Value}{c:Code}{f:St->Option (AX×St)}{F0:A8}{w0:World}{N:Nat}{Q:Exit->Go.Act->World->Prop}
  (body:∀(s s':St)(ax:AX)(a:Go.Act)(w:World)(Q:Exit->Go.Act->World->Prop),f s=some (ax,s')->Rel γ B F0 w0 N s a w->(∀a' w',Rel γ B F0 w0 N s' a' w'->Q (R5 ax) a' w')->c.wp P Q a w):
  ∀(n:Nat)(s s':St)(ax:AX)(a:Go.Act)(w:World),lp f n s=some (ax,s')->Rel γ B F0 w0 N s a w->(∀a' w',Rel γ B F0 w0 N s' a' w'->Q (R5 ax) a' w')->(Code.loop c).wp P Q a w:=by
 intro n s s' ax a w h hr hQ b k cs;have bN:∀n s,lp f n s=some (ax,s')->ax≠ .norm:=by
  intro n
  induction n with
  |zero=>intro s h;simp [lp]at h
  |succ n ih=>
   grind [lp]
 have key:∀n s a w,lp f n s=some (ax,s')->Rel γ B F0 w0 N s a w->∃e a' w',Q e a' w'/\Arrives P (lone (b.at a (.code c:: .inLoop c::k)) cs w) b k cs e a' w':=by
  intro n
  induction n with
  |zero=>intro s a w h;simp [lp]at h
  |succ n ih=>
   intro s a w h hr;simp only [lp]at h;split at h
   ·rename_i s1 h1;obtain⟨e,a1,w1,hq,iF⟩:=body s s1 .norm a w (Exit.then (λ a' w'=>Rel γ B F0 w0 N s1 a' w') λ _ _ _=>False) h1 hr (λ a' w' bU=>bU) b (.inLoop c::k) cs
    cases e with
    |normal=>
     obtain⟨e2,a2,w2,kJ,pW⟩:=ih s1 a1 w1 h hq;exact⟨e2,a2,w2,kJ,.of_steps (Steps.trans iF (.one step_inLoop)) pW⟩
    |exit id=>exact hq.elim
    |goto l=>exact hq.elim
    |ret=>exact hq.elim
    |panic ch=>exact hq.elim
    |outgrown=>exact hq.elim
   ·rename_i aH;have uW:ax≠ .norm:=by rintro rfl;exact aH _ h
    obtain⟨e,a1,w1,hq,iF⟩:=body s s' ax a w (λ e a' w'=>e=R5 ax/\Q e a' w') h hr (λ a' w' bU=>⟨rfl,hQ a' w' bU⟩) b (.inLoop c::k) cs
    obtain⟨rfl,hq⟩:=hq;cases ax with
    |norm=>exact(uW rfl).elim
    |ex id=>exact⟨_,a1,w1,hq,.pass (x:= .inLoop c) rfl (λ _ _=> .inl (by simp [R5])) iF⟩
    |ret=>exact⟨_,a1,w1,hq,.pass (x:= .inLoop c) rfl (λ _ _=> .inl (by simp [R5])) iF⟩
 obtain⟨e,a',w',hq,iF⟩:=key n s a w h hr;exact⟨e,a',w',hq,.of_steps (.one step_loop) iF⟩
theorem Aog {nm:Nat->Option Nat}{Γ:H6}{γ:Array Value}{F0:A8}{w0:World}{N M:Nat}(hΓ:Aec P nm Γ)(bY:P.follows .mixedOrders=true)(c:AC):
  ∀(x:Code)(s s':St)(ax:AX)(a:Go.Act)(w:World)(Q:Exit->Go.Act->World->Prop),E4 P nm N c x=true->exec Γ M c s=some (ax,s')->Rel γ B F0 w0 N s a w->(∀a' w',Rel γ B F0 w0 N s' a' w'->Q (R5 ax) a' w')->x.wp P Q a w:=by
 induction c with
 |skip=>
  intro x s s' ax a w Q hc h hr hQ;cases x<;>simp only [E4,B6p]at hc;simp only [exec,B6g,B6k]at h;obtain⟨rfl,rfl⟩:=h;exact wp_skip (hQ a w hr)
 |reg o=>
  intro x s s' ax a w Q hc h hr hQ;obtain⟨id,ops,rfl,dL⟩:=A3b hc;split at dL
  ·rename_i pX;simp only [exec,B6m,B6k]at h;obtain⟨s1,h1,rfl,rfl⟩:=h;exact wp_region_list (Aql hΓ o pX h1 hr trivial (by simp) λ a' w' bU _=>by simp only [wpList];exact hQ a' w' bU)
  ·simp at dL
 |draw q es fs t=>
  intro x s s' ax a w Q hc h hr hQ;obtain⟨id,ops,rfl,dL⟩:=Axe hc;simp only [exec]at h;split at h
  case h_2=>simp at h
  rename_i s0 h0;split at h
  case isFalse=>simp at h
  rename_i iE;split at h
  case h_2=>simp at h
  rename_i s1 h1;split at h
  case isFalse=>simp at h
  rename_i bB;split at h
  case h_2=>simp at h
  rename_i s3 h3;simp only [B6m,B6k]at h;obtain⟨s2,h2,rfl,rfl⟩:=h;exact Bbm hΓ bY dL h0 iE h1 bB h3 h2 hr hQ
 |drawN q es fs ps t ks=>
  intro x s s' ax a w Q hc h hr hQ;obtain⟨id,ops,rfl,dL⟩:=Ath hc;simp only [exec]at h;split at h
  case h_2=>simp at h
  rename_i s0 h0;split at h
  case isFalse=>simp at h
  rename_i iE;split at h
  case h_2=>simp at h
  rename_i s1 h1;split at h
  case isFalse=>simp at h
  rename_i bB;split at h
  case h_2=>simp at h
  rename_i s3 rs h3;split at h
  case isFalse=>simp at h
  rename_i lG;simp only [B6g,B6k]at h;obtain⟨rfl,rfl⟩:=h;exact A78 hΓ bY dL h0 iE h1 bB h3 lG hr hQ
 |keepP ks lo hi os c ih=>
  intro x s s' ax a w Q hc h hr hQ;have hc:E4 P nm N c x=true:=by cases x<;>simpa only [E4]using hc
  simp only [exec]at h;exact ih x _ s' ax a w Q hc h (hr.keepP ks lo hi os) hQ
 |after ks os c ih=>
  intro x s s' ax a w Q hc h hr hQ;have hc:E4 P nm N c x=true:=by cases x<;>simpa only [E4]using hc
  simp only [exec]at h;split at h
  ·rename_i s1 h1;simp only [B6g,B6k]at h;obtain⟨rfl,rfl⟩:=h;exact ih x s s1 .norm a w Q hc h1 hr λ a1 w1 aZ=>hQ a1 w1 (aZ.keep ks os)
  ·exact ih x s s' ax a w Q hc h hr hQ
 |any=>
  grind [exec]
 |seq c1 c2 ih1 ih2=>
  intro x s s' ax a w Q hc h hr hQ;cases x<;>simp only [E4,B6p]at hc;rename_i x y;simp only [B6h]at hc;simp only [exec]at h;refine wp_seq ?_;split at h
  ·rename_i s1 h1;exact ih1 x s s1 .norm a w _ hc.1 h1 hr λ a1 w1 aZ=>ih2 y s1 s' ax a1 w1 Q hc.2 h aZ hQ
  ·rename_i aH;refine ih1 x s s' ax a w _ hc.1 h hr λ a1 w1 aZ=> ?_
   cases ax with
   |norm=>exact(aH _ h).elim
   |ex id=>exact hQ a1 w1 aZ
   |ret=>exact hQ a1 w1 aZ
 |cond c c1 c2 ih1 ih2=>
  intro x s s' ax a w Q hc h hr hQ;cases x<;>simp only [E4,B6p]at hc;rename_i c' x y;simp only [B6h]at hc;simp only [exec]at h;split at h
  ·rename_i t ht;have eU:=hr;obtain⟨hG,F,ρ,hm,hf,he,hN,cX⟩:=hr;have hb:=DR.bool_ (A2 ((FrG.pad (γ:=γ) (by omega)).1 hf) hc.1.1.1 ht)
   rw [A9s (by omega) hc.1.1.2]at hb
   refine wp_cond hb ?_;grind
  ·simp at h
 |block id c ih=>
  intro x s s' ax a w Q hc h hr hQ;cases x<;>simp only [E4,B6p]at hc;rename_i id' x;simp only [B6h,B62]at hc;obtain⟨rfl,hc⟩:=hc;simp only [exec]at h;refine wp_block ?_;split at h
  ·rename_i i s1 h1;split at h
   ·rename_i hi;subst hi;simp only [B6g,B6k]at h;obtain⟨rfl,rfl⟩:=h;exact ih x s s1 (.ex i) a w _ hc h1 hr λ a1 w1 aZ=>by simp only [R5,Exit.inBlock,B68];exact hQ a1 w1 aZ
   ·rename_i hi;simp only [B6g,B6k]at h;obtain⟨rfl,rfl⟩:=h;exact ih x s s1 (.ex i) a w _ hc h1 hr λ a1 w1 aZ=>by simp only [R5,Exit.inBlock,hi,B7d];exact hQ a1 w1 aZ
  ·rename_i aH;refine ih x s s' ax a w _ hc h hr λ a1 w1 aZ=> ?_
   cases ax with
   |norm=>exact hQ a1 w1 aZ
   |ex i=>exact(aH _ _ h).elim
   |ret=>exact hQ a1 w1 aZ
 |loop c ih=>
  intro x s s' ax a w Q hc h hr hQ;cases x<;>simp only [E4,B6p]at hc;grind [exec,Bbn]
 |exit id=>
  intro x s s' ax a w Q hc h hr hQ;cases x<;>simp only [E4,B6p]at hc;rename_i id';simp only [B62]at hc;subst hc;simp only [exec,B6g,B6k]at h;obtain⟨rfl,rfl⟩:=h;exact wp_exit (hQ a w hr)
 |ret=>
  intro x s s' ax a w Q hc h hr hQ;cases x<;>simp only [E4,B6p]at hc;simp only [exec,B6g,B6k]at h;obtain⟨rfl,rfl⟩:=h;exact wp_ret (hQ a w hr)
 |keep ks os c ih=>
  intro x s s' ax a w Q hc h hr hQ;have hc:E4 P nm N c x=true:=by cases x<;>simpa only [E4]using hc
  simp only [exec]at h;exact ih x _ s' ax a w Q hc h (hr.keep ks os) hQ
 |own d key c ih=>
  intro x s s' ax a w Q hc h hr hQ;have hc:key<MK/\E4 P nm N c x=true:=by cases x<;>simpa only [E4,B6h,B6o]using hc
  simp only [exec]at h;split at h
  ·rename_i sz hd;split at h
   ·rename_i aG;exact ih x _ s' ax a w Q hc.2 h (hr.own hc.1 hd aG) hQ
   ·simp at h
  ·simp at h
 |renA key c ih=>
  intro x s s' ax a w Q hc h hr hQ;have hc:E4 P nm N c x=true:=by cases x<;>simpa only [E4]using hc
  simp only [exec]at h;split at h
  ·rename_i s1 h1;unfold Bft at h;split at h
   ·split at h
    ·rename_i bB;simp only [B6g,B6k]at h;obtain⟨rfl,rfl⟩:=h;exact ih x s s1 .norm a w Q hc h1 hr λ a1 w1 aZ=>hQ a1 w1 (aZ.renS bB)
    ·simp at h
   all_goals grind
  ·exact ih x s s' ax a w Q hc h hr hQ
 |iceA t off key c ih=>
  intro x s s' ax a w Q hc h hr hQ;have hc:E4 P nm N c x=true:=by cases x<;>simpa only [E4]using hc
  simp only [exec]at h;split at h
  ·rename_i s1 h1;simp only [B6g,B6k]at h;obtain⟨rfl,rfl⟩:=h;exact ih x s s1 .norm a w Q hc h1 hr λ a1 w1 aZ=>hQ a1 w1 aZ.ice
  ·exact ih x s s' ax a w Q hc h hr hQ
 |ren key c ih=>
  intro x s s' ax a w Q hc h hr hQ;have hc:E4 P nm N c x=true:=by cases x<;>simpa only [E4]using hc
  simp only [exec]at h;split at h
  ·split at h
   ·rename_i bB;exact ih x _ s' ax a w Q hc h (hr.renS bB) hQ
   ·simp at h
  ·exact ih x _ s' ax a w Q hc h hr hQ
def Alv (P:Program):List ResultVar->List Rs->Bool
 |[],[]=>true
 | .tmp t::xs,.t n::ys=>t==n&&decide (n<GB)&&Alv P xs ys
 | .cell t ty::xs,.m n sz ag::ys=>t==n&&decide (n<GB)&&Abw P ty sz&&Avh P ty ag&&(ag||sz==1)&&Alv P xs ys
 |_,_=>false
def Axf (P:Program)(nm:Nat->Option Nat)(f:FuncId)(F:AFn)(n:Nat):Bool:=
 match P.funcs[f]? with
 |some fn=>(match fn.body with|some c=>E4 P nm fn.ntmps F.body c|none=>false)&&Alv P fn.results.toList F.results&&decide (n<=fn.ntmps)&&decide (fn.ntmps<=GB)
 |none=>false
theorem A9u :∀(vs:List AV)(k i:Nat)(v:AV),get (args k vs) i=some v->k<=i/\vs[i-k]? =some v
 |[],k,i,v,h=>by simp [args,get]at h
 |x::vs,k,i,v,h=>by
  simp only [args,get]at h;split at h
  ·rename_i hk;subst hk;simp at h;subst h;simp
  ·rename_i hk;obtain⟨h1,h2⟩:=A9u vs (k+1) i v h;refine⟨by omega,?_⟩
   rw [show i-k=(i-(k+1))+1 by omega]
   simpa using h2
theorem Boe {x v:AV}{sz:Nat}{ag:Bool}{ty:TypeId}{u:Value}(hm:T0 B F ρ s.ob w)(hr:AR F ρ s.ob x u)(aL:Abw P ty sz=true)(dJ:Avh P ty ag=true)(uJ:ag=false->sz=1)(h:s.load x sz ag=some v):
  ∃y,(do loadVar ty (<-asAddr u)).run P w= .ok y w/\AR F ρ s.ob v y:=by
 let o:Oper:={dst:=some 0,op:= .load ty (.tmp 0),type:=0,pos:= "",after:= #[],guard:=none}
 let a:Go.Act:={tmps:= #[u],defers:=[]}
 have hf:Fr F ρ s.ob [(0,x)] a:=by
  intro i y hi;simp only [get]at hi;split at hi
  ·rename_i h0;subst h0;simp only [B6g]at hi;subst hi;exact hr
  ·simp at hi
 have hd:=Bfv (P:=P) (s:=⟨[(0,x)],s.ob⟩) (o:=o) (a:=a) (sz:=sz) (ag:=ag) (x:= .t 0) (p:=x) (v:=v) hm hf (by simp [Aqg,o,M3,aL,dJ];cases ag<;>simp_all) (by simp [St.opd,get])
  (by simpa [St.load]using h)
 have:=hd (λ a' w'=>w'=w/\∃y,a'=a.put (some 0) y/\AR F ρ s.ob v y) (λ _ _ _=>False) (λ y w' hy=>⟨hy.1,y,rfl,hy.2⟩)
 unfold Oper.wp at this;have kE:(execOp a.eval o).run P w=((do loadVar ty (<-Instr.sureAddr u)).run P w).andThen λ y w'=> .ok (.value y) w':=by
  simp [execOp,o,a,Instr.loadAt,Go.Act.eval];generalize (Instr.sureAddr u).run P w=r;cases r<;>rfl
 rw [kE]at this;have yA:∃ad,u= .pointer (some ad):=by
  unfold St.load at h;split at h
  ·obtain⟨ad,_,rfl,_⟩:=hr;exact⟨_,rfl⟩
  ·split at h
   ·simp at h
   ·rename_i ob aD;obtain⟨p,_,rfl⟩:=hr.2 ob aD;exact⟨_,rfl⟩
  ·simp at h
 obtain⟨ad,rfl⟩:=yA;have e1:(do loadVar ty (<-Instr.sureAddr (.pointer (some ad)))).run P w=(loadVar ty ad).run P w:=by simp [N5]
 have e2:(do loadVar ty (<-asAddr (.pointer (some ad)))).run P w=(loadVar ty ad).run P w:=by simp [asAddr]
 rw [e1]at this;rw [e2];cases hl:(loadVar ty ad).run P w with
 |ok y w'=>
  rw [hl]at this;simp only [Result.andThen_ok,Oper.upon]at this;obtain⟨rfl,y',uZ,fH⟩:=this;refine⟨y,rfl,?_⟩;have:y=y':=by
   have h0:=congrArg (λ(b:Go.Act)=>b.tmps.getD 0 undef) uZ
   simpa [o,Go.Act.put,a]using h0
  rw [this];exact fH
 |halt x w'=>
  rw [hl]at this;simp only [Result.andThen_halt]at this;cases x<;>simp only [Oper.upon]at this<;>exact this.elim
theorem Alw {fn:Func}{γ:Array Value}(hm:T0 B F ρ s.ob w){t:Go.Act}(hf:FrG γ F ρ s.ob s.fr t):∀{xs:List ResultVar}{ys:List Rs}{rs:List AV},Alv P xs ys=true->s.slots ys=some rs->
  ∃us:List Value,(xs.mapM fun| .tmp n=>pure (t.tmps.getD n undef)| .cell n ty=>do loadVar ty (<-asAddr (t.tmps.getD n undef)):Sem (List Value)).run P w= .ok us w/\C9 (AR F ρ s.ob) rs us
 |[],[],rs,_,h=>by simp only [St.slots,B6g]at h;subst h;exact⟨[],by simp,.nil⟩
 | .tmp n::xs,.t m::ys,rs,hc,h=>by
  simp only [Alv,B6h,B62,B6o]at hc;obtain⟨⟨rfl,hnG⟩,hc⟩:=hc;simp only [St.slots]at h;split at h
  ·rename_i v vs h1 h2;simp only [B6g]at h;subst h;obtain⟨us,fI,hall⟩:=Alw (fn:=fn) hm hf hc h2;exact⟨t.tmps.getD n undef::us,by simp only [List.mapM_cons,Sem.run_bind,Sem.run_pure,Result.andThen_ok,fI],.cons (by have:=hf n v h1;rwa [Akz,B6l hnG]at this) hall⟩
  ·simp at h
 | .cell n ty::xs,.m m sz ag::ys,rs,hc,h=>by
  simp only [Alv,B6h,B62,B7n,B6o]at hc;obtain⟨⟨⟨⟨⟨rfl,hnG⟩,aL⟩,dJ⟩,uJ⟩,hc⟩:=hc;simp only [St.slots]at h;split at h
  ·rename_i x hx;split at h
   ·rename_i v vs h1 h2;simp only [B6g]at h;subst h;obtain⟨us,fI,hall⟩:=Alw (fn:=fn) hm hf hc h2;obtain⟨y,hy,fH⟩:=Boe (P:=P) hm (by have:=hf n x hx;rwa [Akz,B6l hnG]at this) aL dJ (λ h0=>by simpa [h0]using uJ) h1
    refine⟨y::us,?_,.cons fH hall⟩;simp only [List.mapM_cons,Sem.run_bind]at hy ⊢;rw [hy];simp only [Result.andThen_ok,fI,Sem.run_pure]
   ·simp at h
  ·simp at h
 |[],_::_,_,hc,_=>by simp [Alv]at hc
 | .tmp _::_,[],_,hc,_=>by simp [Alv]at hc
 | .cell _ _::_,[],_,hc,_=>by simp [Alv]at hc
 | .tmp _::_,.m .. ::_,_,hc,_=>by simp [Alv]at hc
 | .cell _ _::_,.t _::_,_,hc,_=>by simp [Alv]at hc
def Adc (fn:Func)(vs:List Value):Go.Act:={tmps:=vs.toArray++Array.replicate (fn.ntmps-vs.toArray.size) undef,defers:=[]}
theorem Axg {nm:Nat->Option Nat}{Γ:H6}{γ:Array Value}{f:FuncId}{fn:AFn}{fn':Func}{n M:Nat}{F0:A8}{w0:World}{s0 s':St}{ax:AX}{vs:List Value}{qs:List AV}(hΓ:Aec P nm Γ)(bY:P.follows .mixedOrders=true)
  (jF:P.funcs[f]? =some fn')(hc:Axf P nm f fn n=true)(jQ:Rel γ B F0 w0 fn'.ntmps s0 (Adc fn' vs) w0)(bN:ax= .norm\/ax= .ret)(kE:exec Γ M fn.body s0=some (ax,s'))(eY:s'.slots fn.results=some qs):
  Calls P f vs.toArray w0 λ e w'=>∃us,e= .returned (A2s us)/\∃F ρ a',T0 B F ρ s'.ob w'/\FrG γ F ρ s'.ob s'.fr a'/\Ext B F0 F w0 w'/\C9 (AR F ρ s'.ob) qs us:=by
 unfold Axf at hc;rw [jF]at hc;simp only [B6h,B6o]at hc;obtain⟨⟨⟨cE,iO⟩,hn⟩,hG⟩:=hc;split at cE
 case h_2=>simp at cE
 rename_i c nG;refine calls_of_wp jF nG ?_;have fin:∀a' w',Rel γ B F0 w0 fn'.ntmps s' a' w'->bodyPost P fn' (λ e w'=>∃us,e= .returned (A2s us)/\∃F ρ a',T0 B F ρ s'.ob w'/\FrG γ F ρ s'.ob s'.fr a'/\Ext B F0 F w0 w'/\C9 (AR F ρ s'.ob) qs us) .ret a' w':=by
  intro a' w' hr;obtain⟨_,F,ρ,hm,hf,he,hN,cX⟩:=hr;obtain⟨us,fI,fH⟩:=Alw (fn:=fn') hm hf iO eY;have jM:(fn'.results.mapM fun| .tmp n=>pure (a'.tmps.getD n undef)| .cell n ty=>do loadVar ty (<-asAddr (a'.tmps.getD n undef)):Sem (Array Value)).run P w'= .ok us.toArray w':=by
   rw [Array.mapM_eq_mapM_toList,Sem.run_map,fI];rfl
  refine⟨cX,A2s us,?_,us,rfl,F,ρ,a',hm,hf,he,fH⟩;have h2:(results fn' a'.tmps).run P w'=((fn'.results.mapM fun| .tmp n=>pure (a'.tmps.getD n undef)| .cell n ty=>do loadVar ty (<-asAddr (a'.tmps.getD n undef)):Sem (Array Value)).run P w').andThen
    λ vs w=> .ok (if h:vs.size=1 then vs[0]else .tuple vs) w:=by
   unfold results;rw [Sem.run_bind];rfl
  rw [h2,jM];rfl
 rcases bN with rfl|rfl
 ·exact Aog hΓ bY fn.body c s0 s' .norm _ w0 _ cE kE jQ λ a' w' hr=>by simpa [R5,bodyPost]using fin a' w' hr
 ·exact Aog hΓ bY fn.body c s0 s' .ret _ w0 _ cE kE jQ λ a' w' hr=>by simpa [R5]using fin a' w' hr
theorem Akt {fn':Func}{vs:List Value}{i:Nat}{u:Value}(hu:vs[i]? =some u):(Adc fn' vs).tmps.getD i undef=u:=by
 have dN:=(B6n.1 hu).1;unfold Adc;simp only [B61];grind [Array.getElem?_append_left]
theorem Bii {nm:Nat->Option Nat}{Γ:H6}{f:FuncId}{fn:AFn}{n M:Nat}(hΓ:Aec P nm Γ)(bY:P.follows .mixedOrders=true)
  (hc:Axf P nm f fn n=true):Api P f λ ds=>if ds.length=n then run Γ M fn ds else none:=by
 intro F0 w0 ds vs rs bB hall h;simp only at h;split at h
 case isFalse=>simp at h
 rename_i aF;have nA:=hc;unfold Axf at hc;split at hc
 case h_2=>simp at hc
 rename_i fn' jF;simp only [B6h,B6o]at hc;obtain⟨⟨⟨cE,iO⟩,hn⟩,hG⟩:=hc;have rB:vs.length=n:=by rw [<-hall.length,aF]
 have jQ:Rel #[] (λ k=>k<w0.heap.size) F0 w0 fn'.ntmps ⟨args 0 ds,[]⟩ (Adc fn' vs) w0:=by
  refine⟨hG,F0,λ _=>none,⟨bB,Big.lt _,?_,?_,?_,?_⟩,?_,.refl _ _ _,?_,rfl⟩
  ·intro k o h;simp [get]at h
  ·intro k o p h;simp [get]at h
  ·intro k o p h;simp [get]at h
  ·intro k o p k' o' p' h;simp [get]at h
  ·intro i v hi;obtain⟨_,hv⟩:=A9u ds 0 i v hi;obtain⟨u,hu,hr⟩:=hall.get? i v (by simpa using hv)
   have dN:i<vs.length:=(B6n.1 hu).1;rw [Akz,B6l (by omega),Akt hu]
   exact AR.of_RR hr
  ·unfold Adc;simp;omega
 have key:∀ax s',(ax= .norm\/ax= .ret)->exec Γ M fn.body ⟨args 0 ds,[]⟩=some (ax,s')->(match s'.slots fn.results with|some rs=>(s'.frzs rs).map (·.1)|none=>none)=some rs->
   Calls P f vs.toArray w0 λ e w'=>∃u,e= .returned u/\∃F':A8,F'.ok w'/\F0.le F'/\Below w0.heap.size w0 w'/\(∀a v,F' a v->F0 a v\/w0.heap.size<=a.block)/\A54 F' rs u:=by
  intro ax s' bN kE hs;split at hs
  case h_2=>simp at hs
  rename_i qs eY;simp only [B6m]at hs;obtain⟨⟨uM,ks⟩,uQ,rfl⟩:=hs;refine(Axg hΓ bY jF nA jQ bN kE eY).mono ?_;rintro e w' ⟨us,rfl,F,ρ,a',hm,hf,he,fH⟩;have mY:=V4 hm uQ fH;refine⟨_,rfl,F5 F ρ s'.ob ks w',F5.ok hm.facts,he.le.trans F5.le,he.below.to,λ ad v hv=> ?_,?_⟩
  ·rcases F5.new hm hv with h1|h1
   ·exact(he.new ad v h1).imp id Nat.le_of_not_lt
   ·exact .inr (Nat.le_of_not_lt h1)
  ·clear fH
   match uM,us,mY with
   |[],[],_=>exact⟨[],by simp [A2s],.nil⟩
   |[r],[u],.cons h1 .nil=>simpa [A54,A2s]using h1
   |r1::r2::rs,u1::u2::us,h=>exact⟨u1::u2::us,by simp [A2s],h⟩
 unfold run at h;split at h
 ·rename_i s' kE;exact key .norm s' (.inl rfl) kE h
 ·rename_i s' kE;exact key .ret s' (.inr rfl) kE h
 ·simp at h
theorem A9v {Γ:H6}(ai:AI):∀{s s':St},ev Γ ai s=some s'->∀i,i∉ai.dsts->get s'.fr i=get s.fr i:=by
 induction ai with
 |done=>intro s s' h i _;simp only [ev,B6g]at h;subst h;rfl
 |op d A r ih=>
  intro s s' h i hi;simp only [ev]at h;split at h
  ·rename_i v s1 h1;rw [ih h i (by cases d<;>simp_all [AI.dsts]),Q5,B6j (by cases d<;>simp_all [AI.dsts];omega),Ap6 h1]
  ·simp at h
 |sc d c want sub x r ihs ihr=>
  intro s s' h i hi;simp only [AI.dsts,B65,B6r,not_or]at hi;have aH:some d≠some i:=by simp;omega
  simp only [ev]at h;grind [Q5,St.drop,E7]
 |scs d c want sub x r ihs ihr=>
  grind [AI.dsts,ev,Q5,St.drop,E7]
theorem A6a (t off key:Nat)(s:St):(Avg t off key s).fr=s.fr:=by
 unfold Avg Buo;split
 case h_2=>rfl
 unfold Bun;grind [Bum]
theorem Bij {t off key:Nat}{s s':St}(h1:get s'.fr t=get s.fr t)(h2:s'.ob=s.ob):(Avg t off key s').ob=(Avg t off key s).ob:=by
 have hv:∀v,Brl key s' v=Brl key s v:=λ v=>by
  unfold Brl;grind [St.frz,St.view]
 unfold Avg;rw [h1];unfold Buo;split
 case h_2=>exact h2
 rw [h2];unfold Bun;grind [Bum]
def Y0 :AC->Bool
 | .keep .. =>false
 | .after .. =>false
 | .seq a b=>Y0 a&&Y0 b
 | .cond _ a b=>Y0 a&&Y0 b
 | .block _ a=>Y0 a
 | .loop a=>Y0 a
 | .keepP _ _ _ _ a=>Y0 a
 | .own d _ a=>decide (d<GB)&&Y0 a
 | .ren _ a=>Y0 a
 | .renA _ a=>Y0 a
 | .iceA t _ _ a=>decide (t<GB)&&Y0 a
 |_=>true
theorem A9w (ks:List Nat)(eE:∀k∈ks,k<GB)(l:FL)(i:Nat)(hi:GB<=i):get (Am.keep ks l++ghs l) i=get l i:=by
 rw [E5,Aeh,B6l hi];have:get (Am.keep ks l) i=none:=by
  induction ks with
  |nil=>rfl
  |cons k ks ih=>
   have hk:=eE k (by simp)
   simp only [Am.keep];cases get l k with
   |none=>exact ih λ j hj=>eE j (by simp [hj])
   |some v=>
    grind [A17,get]
 rw [this]
def ltX :J8->Bool
 | .t n=>decide (n<GB)
 | .k _=>true
def ltD :Option Nat->Bool
 |some d=>decide (d<GB)
 |none=>true
def ltA (A:Act):Bool:=A.xs.all ltX&&decide (A.xs.length<=GB)
def AI.lt :AI->Bool
 | .done=>true
 | .op d A r=>ltD d&&ltA A&&r.lt
 | .sc d c _ sub x r=>decide (d<GB)&&ltX c&&sub.lt&&ltX x&&r.lt
 | .scs d c _ sub x r=>decide (d<GB)&&ltX c&&sub.lt&&ltX x&&r.lt
def I5.lt (x:I5):Bool:=ltD x.d&&ltA x.a&&(match x.g with|some (t,_)=>decide (t<GB)|none=>true)
def Aa5 :AC->Bool
 | .reg o=>o.lt
 | .draw q es fs t=>q.all I5.lt&&es.all (λ e=>decide (e.2.1<GB))&&fs.all (λ f=>ltD f.2.1&&ltA f.2.2.1)&&t.lt
 | .drawN q es fs _ t ks=>q.all I5.lt&&es.all (λ e=>decide (e.2.1<GB))&&fs.all (λ f=>ltD f.2.1&&ltA f.2.2.1)&&t.lt&&ks.all (λ k=>decide (k<GB))
 | .seq a b=>Aa5 a&&Aa5 b
 | .cond c a b=>Aa5 a&&Aa5 b&&ltX c
 | .block _ a=>Aa5 a
 | .loop a=>Aa5 a
 | .keepP ks _ _ _ a=>ks.all (λ k=>decide (k<GB))&&Aa5 a
 | .own d _ a=>decide (d<GB)&&Aa5 a
 | .ren _ a=>Aa5 a
 | .renA _ a=>Aa5 a
 | .iceA t _ _ a=>decide (t<GB)&&Aa5 a
 |_=>true
def ltR :Rs->Bool
 | .t n=>decide (n<GB)
 | .m n _ _=>decide (n<GB)
def Bmt (f:AFn):Bool:=Aa5 f.body&&f.results.all ltR
theorem Ati {nm:Nat->Option Nat}{P:Program}{Γ:H6}{N:Nat}{ops:Array Oper}{q:List I5}{es:List (Nat×Nat×List AV)}{fs:List Eff}{t:AI}{s s0 s1 s2 s3:St}(hN:N<=GB)
  (hq:Bf8 P nm N ops es fs q 0 q=true)(hes:Aoe q es=true)(hfs:Adb ops q fs=true)(nS:U0 P nm N ops t none [] [] (ops.toList.drop q.length)=some [])
  (h0:evq Γ q s=some s0)(h1:evA es s0=some s1)(h3:evF Γ q es fs s1=some s3)(h2:ev Γ t s3=some s2)(i:Nat)(hi:GB<=i):get s2.fr i=get s.fr i:=by
 have hd:∀j,j∈I5.dsts q->j<N:=by
  grind [Aaf,Ac7,Abe]
 have jE:∀e∈es,e.2.1<N:=by
  intro e he;obtain⟨x,hx,bN⟩:=Als hes e he;obtain⟨j,hj⟩:=B7t hx;obtain⟨o,_,_,_,_,iW,_⟩:=Ac7 hq hj;unfold Afm at bN;split at bN
  ·rename_i kk cc pK;simp only [B62]at bN;subst bN;rw [pK]at iW;simp only [Aqm,pK,Act.quq,Act.isQ,Act.quiet,Bool.or_self,B6p,B7d,B6h,Aw5 h1 e he,B62]at iW;exact hd _ (Aaf.2 ⟨j,x,hj,iW.2.1⟩)
  ·simp at bN
 have cX:∀f∈fs,∀j,f.2.1=some j->j<N:=by
  intro f hf j hj;obtain⟨l1,l2,hl⟩:=B87 hf;obtain⟨h4,_⟩:=Aa3 hfs l1 f l2 hl;unfold Byk at h4;split at h4
  ·rename_i x hx;split at h4
   ·rename_i z hz;obtain⟨o,_,_,_,nO,iW,_⟩:=Ac7 hq hx;rw [hz]at iW;simp only at iW;have aV:get fs f.1=some f.2:=by
     have key:∀{fs:List Eff},Adb ops q fs=true->f∈fs->get fs f.1=some f.2:=by
      intro fs
      induction fs with
      |nil=>intro _ h;simp at h
      |cons g r ih=>
       grind [Adb,get,List.all_eq_true]
     exact key hfs hf
    grind [Bl8,Abe]
   ·simp at h4
  ·simp at h4
 rw [A9v t h2 i λ jO=>by have:=(Ahm t nS i jO).2;omega]
 rw [(Ay2 h3).2.2 i λ f hf h4=>by have:=cX f hf i h4;omega]
 rw [(Aex h1).2.2 i (B6q.2 λ e he=>by have:=jE e he;simp;omega)]
 exact(X4 h0).2 i λ h4=>by have:=hd i h4;omega
theorem Bbo {nm:Nat->Option Nat}{Γ:H6}{N M:Nat}(hN:N<=GB)(c:AC):∀(x:Code)(s s':St)(ax:AX),E4 P nm N c x=true->Y0 c=true->Aa5 c=true->exec Γ M c s=some (ax,s')->∀i,GB<=i->get s'.fr i=get s.fr i:=by
 induction c with
 |skip=>intro x s s' ax _ _ _ h i _;simp only [exec,B6g,B6k]at h;obtain⟨_,rfl⟩:=h;rfl
 |ret=>intro x s s' ax _ _ _ h i _;simp only [exec,B6g,B6k]at h;obtain⟨_,rfl⟩:=h;rfl
 |exit id=>intro x s s' ax _ _ _ h i _;simp only [exec,B6g,B6k]at h;obtain⟨_,rfl⟩:=h;rfl
 |any=>intro x s s' ax _ hg _ h;simp [exec]at h
 |keep ks os a ih=>intro x s s' ax _ hg _ h;simp [Y0]at hg
 |after ks os a ih=>intro x s s' ax _ hg _ h;simp [Y0]at hg
 |reg o=>
  intro x s s' ax hc _ _ h i hi;obtain⟨id,ops,rfl,dL⟩:=A3b hc;split at dL
  ·rename_i pX;simp only [exec,B6m,B6k]at h;obtain⟨s1,h1,_,rfl⟩:=h;exact A9v o h1 i λ hd=>by have:=(Ahm o pX i hd).2;omega
  ·simp at dL
 |draw q es fs t=>
  grind [Axe,exec,Option.map_eq_some_iff,Ara,Ati]
 |drawN q es fs ps t ks=>
  intro x s s' ax hc _ hk h i hi;obtain⟨id,ops,rfl,dL⟩:=Ath hc;simp only [exec]at h;split at h
  case h_2=>simp at h
  rename_i s0 h0;split at h
  case isFalse=>simp at h
  rename_i iE;split at h
  case h_2=>simp at h
  rename_i s1 h1;split at h
  case isFalse=>simp at h
  split at h
  case h_2=>simp at h
  rename_i s3 rs h3;split at h
  case isFalse=>simp at h
  simp only [B6g,B6k]at h;obtain⟨rfl,rfl⟩:=h;simp only [Aa5,B6h,B6q,B6o]at hk;rw [A9w ks hk.2 s3.fr i hi];simp only [Aey,B6h,B6o,B6q]at dL;obtain⟨⟨⟨⟨⟨⟨gA,fP⟩,hes⟩,aF⟩,hb⟩,ht⟩,mJ⟩:=dL;split at mJ
  case h_2=>simp at mJ
  rename_i nS;cases ps with
  |nil=>simp [evN]at h3
  |cons p ps=>
   have:=(gA p (by simp)).1.1.1
   simp only [evN]at h3;grind [Ati]
 |seq a b iha ihb=>
  intro x s s' ax hc hg hk h i hi;cases x<;>simp only [E4,B6p]at hc;grind [Y0,Aa5,exec]
 |cond c a b iha ihb=>
  intro x s s' ax hc hg hk h i hi;cases x<;>simp only [E4,B6p]at hc;grind [Y0,Aa5,exec]
 |block id a ih=>
  intro x s s' ax hc hg hk h i hi;cases x<;>simp only [E4,B6p]at hc;grind [Y0,Aa5,exec]
 |loop a ih=>
  intro x s s' ax hc hg hk h i hi;cases x<;>simp only [E4,B6p]at hc;simp only [Y0,Aa5]at hg hk;simp only [exec]at h;have key:∀(n:Nat)(s:St),lp (exec Γ M a) n s=some (ax,s')->get s'.fr i=get s.fr i:=by
   intro n
   induction n with
   |zero=>intro s h;simp [lp]at h
   |succ n ihn=>
    grind [lp]
  exact key M s h
 |keepP ks lo hi_ os a ih=>
  grind [E4,Y0,Aa5,List.all_eq_true,exec,A9w]
 |own d key a ih=>
  intro x s s' ax hc hg hk h i hi;have hc:E4 P nm N a x=true:=by
   grind [MK,E4]
  simp only [Y0,B6h,B6o]at hg;simp only [Aa5,B6h]at hk;simp only [exec]at h;split at h
  ·split at h
   ·rw [ih x _ s' ax hc hg.2 hk.2 h i hi,Q5,B6j (by simp;omega)];rfl
   ·simp at h
  ·simp at h
 |renA key a ih=>
  intro x s s' ax hc hg hk h i hi;have hc:E4 P nm N a x=true:=by cases x<;>simpa only [E4]using hc
  simp only [Y0]at hg;simp only [Aa5]at hk;simp only [exec]at h;split at h
  ·rename_i s1 h1;have e1:=ih x s s1 .norm hc hg hk h1 i hi;unfold Bft at h;split at h
   ·split at h
    ·rename_i bB;simp only [B6g,B6k]at h;obtain⟨_,rfl⟩:=h;rw [<-e1];simp only [Adi,B6h,B6q,B7b]at bB;have lY:=bB.2
     show get (Ac1 key (O9 key (I7 s1.ob)) s1.fr) i=get s1.fr i
     rw [Alu];cases hv:get s1.fr i with
     |none=>rfl
     |some v=>
      have hm:get (ghs s1.fr) i=some v:=by rw [Aeh,B6l hi];exact hv
      rw [B7h,A60 (lY _ (B0 hm))]
    ·simp at h
   all_goals grind
  ·exact ih x s s' ax hc hg hk h i hi
 |iceA t off key a ih=>
  grind [E4,Y0,Aa5,exec,A6a]
 |ren key a ih=>
  intro x s s' ax hc hg hk h i hi;have hc:E4 P nm N a x=true:=by cases x<;>simpa only [E4]using hc
  simp only [Y0]at hg;simp only [Aa5]at hk;simp only [exec]at h;split at h
  ·split at h
   ·rename_i bB;rw [ih x _ s' ax hc hg hk h i hi];simp only [Adi,B6h,B6q,B7b]at bB;have lY:=bB.2
    show get (Ac1 key (O9 key (I7 s.ob)) s.fr) i=get s.fr i
    rw [Alu];cases hv:get s.fr i with
    |none=>rfl
    |some v=>
     have hm:get (ghs s.fr) i=some v:=by rw [Aeh,B6l hi];exact hv
     rw [B7h,A60 (lY _ (B0 hm))]
   ·simp at h
  ·exact ih x _ s' ax hc hg hk h i hi
def lss (R:List Nat)(s:St):St:=⟨E1 R s.fr,s.ob⟩
section
variable {Γ : H6} {R : List Nat}
theorem L5 {α:Type}(a b:Nat):∀l:List (Nat×α),del (del l a) b=del (del l b) a
 |[]=>rfl
 |(i,v)::l=>by
  simp only [del];by_cases h1:i=a
  ·by_cases h2:i=b
   ·rw [B6l h1,B6l h2];exact L5 a b l
   ·rw [B6l h1,B6j h2];simp only [del];rw [B6l h1];exact L5 a b l
  ·by_cases h2:i=b
   ·rw [B6j h1,B6l h2];simp only [del];rw [B6l h2];exact L5 a b l
   ·rw [B6j h1,B6j h2];simp only [del];rw [B6j h1,B6j h2,L5 a b l]
theorem A9x {α:Type}(a:Nat):∀(R:List Nat)(l:List (Nat×α)),E1 R (del l a)=del (E1 R l) a
 |[],l=>rfl
 |k::R,l=>by simp only [E1];rw [L5,A9x a R]
theorem A3c {α:Type}:∀(A R:List Nat)(l:List (Nat×α)),E1 A (E1 R l)=E1 R (E1 A l)
 |[],R,l=>rfl
 |a::A,R,l=>by simp only [E1];rw [<-A9x,A3c A R]
theorem Asr {i:Nat}{v:AV}:∀{R:List Nat}(fr:FL),i∉R->E1 R ((i,v)::fr)=(i,v)::E1 R fr
 |[],fr,_=>rfl
 |k::R,fr,h=>by
  simp only [B6r,not_or]at h;simp only [E1,del];rw [B6j h.1,Asr _ h.2]
theorem Aku {α:Type}:∀(R:List Nat)(l m:List (Nat×α)),E1 R (l++m)=E1 R l++E1 R m
 |[],l,m=>rfl
 |k::R,l,m=>by
  have:∀l:List (Nat×α),del (l++m) k=del l k++del m k:=λ l=>by
   induction l with
   |nil=>rfl
   |cons p l ih=>
    grind [del]
  simp only [E1,this,Aku R]
theorem Arb (k:Nat):∀l:FL,ghs (del l k)=del (ghs l) k
 |[]=>rfl
 |(i,v)::l=>by
  simp only [del,ghs];by_cases h1:i=k
  ·rw [B6l h1];split
   ·simp only [del];rw [B6l h1];exact Arb k l
   ·exact Arb k l
  ·rw [B6j h1];simp only [ghs];split
   ·simp only [del];rw [B6j h1,Arb k l]
   ·exact Arb k l
theorem Ahp :∀(R:List Nat)(l:FL),ghs (E1 R l)=E1 R (ghs l)
 |[],l=>rfl
 |k::R,l=>by simp only [E1];rw [Ahp R,Arb]
theorem Aoh (hR:∀r∈R,GB<=r){n:Nat}(h:n<GB):n∉R:=λ hm=>by have:=hR n hm;omega
theorem Aga (hR:∀r∈R,GB<=r){l:FL}{n:Nat}(h:n<GB):get (E1 R l) n=get l n:=by
 rw [E7,B6j (Aoh hR h)]
theorem Aez (hR:∀r∈R,GB<=r){s:St}{x:J8}(h:ltX x=true):(lss R s).opd x=s.opd x:=by
 cases x with
 |k v=>rfl
 |t n=>exact Aga hR (by simpa [ltX]using h)
theorem Aag (hR:∀r∈R,GB<=r){s:St}{d:Option Nat}{v:AV}(h:ltD d=true):(lss R s).put d v=lss R (s.put d v):=by
 cases d with
 |none=>rfl
 |some i=>
  grind [St.put,lss,Asr,Aoh,ltD]
theorem Arc (hΓ:Aat Γ)(hR:∀r∈R,GB<=r){A:Act}{s s':St}{v:AV}(hA:ltA A=true)(h:act Γ s A=some (v,s')):act Γ (lss R s) A=some (v,lss R s'):=by
 grind [ltA,List.all_eq_true,Ayz,Aez,lss,Ap6]
theorem A3d {s:St}{ai:AI}:(lss R s).drop ai=lss R (s.drop ai):=by
 simp only [St.drop,lss];rw [A3c]
theorem A6b (hΓ:Aat Γ)(hR:∀r∈R,GB<=r)(ai:AI):∀{s s':St},ai.lt=true->ev Γ ai s=some s'->ev Γ ai (lss R s)=some (lss R s'):=by
 induction ai with
 |done=>intro s s' _ h;simp only [ev,B6g]at h;subst h;rfl
 |op d A r ih=>
  intro s s' hl h;simp only [AI.lt,B6h]at hl;simp only [ev]at h ⊢;split at h
  ·rename_i v s1 h1;simp only [Arc hΓ hR hl.1.2 h1,Aag hR hl.1.1];exact ih hl.2 h
  ·simp at h
 |sc d c want sub x r ihs ihr=>
  intro s s' hl h;simp only [AI.lt,B6h,B6o]at hl;simp only [ev]at h ⊢;rw [Aez hR hl.1.1.1.2];split at h
  ·rename_i b hb
   try simp only
   split at h
   ·rename_i hw;rw [B6l hw];split at h
    ·rename_i s1 h1;simp only [ihs hl.1.1.2 h1];rw [Aez hR hl.1.2];split at h
     ·rename_i v hv
      try simp only
      rw [Aag hR (by simp [ltD,hl.1.1.1.1])]
      exact ihr hl.2 h
     ·simp at h
    ·simp at h
   ·rename_i hw;rw [B6j hw,A3d,Aag hR (by simp [ltD,hl.1.1.1.1])]
    exact ihr hl.2 h
  ·simp at h
 |scs d c want sub x r ihs ihr=>
  intro s s' hl h;simp only [AI.lt,B6h,B6o]at hl;simp only [ev]at h ⊢;rw [Aez hR hl.1.1.1.2];split at h
  ·rename_i b s1 hb h1;simp only [hb,ihs hl.1.1.2 h1];rw [Aez hR hl.1.2];split at h
   ·rename_i y hy
    try simp only [hy]
    rw [A3d,Aag hR (by simp [ltD,hl.1.1.1.1])]
    exact ihr hl.2 h
   ·simp at h
  ·simp at h
theorem Ay6 (hR:∀r∈R,GB<=r){s:St}{g:Option (Nat×Bool)}(h:(match g with|some (t,_)=>decide (t<GB)|none=>true)=true):met (lss R s) g=met s g:=by
 grind [met,get,lss,Aga]
theorem Ak3 (hΓ:Aat Γ)(hR:∀r∈R,GB<=r):∀{q:List I5}{s s':St},q.all I5.lt=true->evq Γ q s=some s'->evq Γ q (lss R s)=some (lss R s')
 |[],s,s',_,h=>by simp only [evq,B6g]at h;subst h;rfl
 |x::r,s,s',hl,h=>by
  simp only [B7r,B6h,I5.lt]at hl;simp only [evq]at h ⊢;split at h
  ·rename_i hq;exact Ak3 hΓ hR (by simpa [I5.lt]using hl.2) h
  ·rename_i hq;rw [Ay6 hR hl.1.2];split at h
   ·simp at h
   ·try simp only
    rw [Aag hR hl.1.1.1];exact Ak3 hΓ hR (by simpa [I5.lt]using hl.2) h
   ·split at h
    ·rename_i v s1 h1;split at h
     ·rename_i aF;simp only [Arc hΓ hR hl.1.1.2 h1];have fB:(lss R s1).ob.length=(lss R s).ob.length:=aF;rw [B6l fB,Aag hR hl.1.1.1];exact Ak3 hΓ hR (by simpa [I5.lt]using hl.2) h
     ·simp at h
    ·simp at h
theorem Ay7 (hR:∀r∈R,GB<=r):∀{es:List (Nat×Nat×List AV)}{s s':St},es.all (λ e=>decide (e.2.1<GB))=true->evA es s=some s'->evA es (lss R s)=some (lss R s')
 |[],s,s',_,h=>by simp only [evA,B6g]at h;subst h;rfl
 |(key,d,cs)::r,s,s',hl,h=>by
  simp only [B7r,B6h]at hl;simp only [evA]at h ⊢;split at h
  ·simp at h
  ·rename_i hk;have cG:get (lss R s).ob key=none:=hk;simp only [cG];have e:(lss R s).obj key ⟨cs.length,[cs]⟩=lss R (s.obj key ⟨cs.length,[cs]⟩):=rfl;rw [e,Aag hR (by simpa [ltD]using hl.1)]
   exact Ay7 hR hl.2 h
theorem Aqn :∀{es:List (Nat×Nat×List AV)}{s:St},okA es s=true->okA es (lss R s)=true
 |[],s,_=>rfl
 |(key,d,cs)::r,s,h=>by
  simp only [okA,B6h,B6q]at h ⊢;exact⟨⟨λ p hp=>h.1.1 p (Q2 hp).1,h.1.2⟩,Aqn h.2⟩
theorem A79 (hR:∀r∈R,GB<=r){s:St}{A:Act}(hA:ltA A=true):Ab5 (lss R s) A=Ab5 s A:=by
 simp only [ltA,B6h,B6q,B6o]at hA;have ho:∀x∈A.xs,(lss R s).opd x=s.opd x:=λ x hx=>Aez hR (hA.1 x hx)
 cases A<;>try rfl
 all_goals grind [Ab5,Act.xs,Acz,lss]
theorem Bbp {es:List (Nat×Nat×List AV)}{s s':St}{k:Nat}{A:Act}{ls:List Nat}(h:Aqf es s k A ls s'=true):Aqf es (lss R s) k A ls (lss R s')=true:=by
 grind [Aqf,List.all_eq_true,Aqn,get,lss,E7]
theorem Axh (hΓ:Aat Γ)(hR:∀r∈R,GB<=r){t:St}{x:I5}(hl:x.lt=true)(h:Ajk Γ t (some x)=true):Ajk Γ (lss R t) (some x)=true:=by
 obtain⟨d,A,g⟩:=x;simp only [I5.lt,B6h]at hl;simp only [Ajk]at h ⊢;rw [Ay6 hR hl.2];cases hm:met t g with
 |none=>rw [hm]at h;simp [Ba8]at h
 |some b=>
  rw [hm]at h;cases b with
  |false=>rfl
  |true=>
   simp only [Ba8]at h ⊢;cases ha:act Γ t A with
   |none=>rw [ha]at h;simp [okL]at h
   |some p=>
    obtain⟨v,t'⟩:=p;rw [ha]at h;rw [Arc hΓ hR hl.1.2 ha];simp only [okL,B6h]at h ⊢;refine⟨h.1,?_⟩;cases d with
    |none=>rfl
    |some i=>
     grind [get,lss,Aga,ltD]
theorem Axi (hΓ:Aat Γ)(hR:∀r∈R,GB<=r){q:List I5}{t:St}(hq:q.all I5.lt=true):∀{ls:List Nat},Adh Γ q t ls=true->Adh Γ q (lss R t) ls=true
 |[],_=>rfl
 |j::ls,h=>by
  simp only [Adh,B6h]at h ⊢;refine⟨?_,Axi hΓ hR hq h.2⟩;cases hx:q[j]? with
  |none=>rw [hx]at h;simp [Ajk]at h
  |some x=>
   grind [Axh,List.all_eq_true,List.mem_of_getElem?]
theorem Aoi (hΓ:Aat Γ)(hR:∀r∈R,GB<=r){t:St}:∀{q:List I5},q.all I5.lt=true->Aak Γ t q=true->Aak Γ (lss R t) q=true
 |[],_,_=>rfl
 |x::r,hq,h=>by
  simp only [B7r,B6h]at hq;simp only [Aak,B6h]at h ⊢;refine⟨?_,Aoi hΓ hR hq.2 h.2⟩;grind [Axh]
theorem Bik (hΓ:Aat Γ)(hR:∀r∈R,GB<=r){q:List I5}{s s1:St}{v:AV}{f:Eff}(hq:q.all I5.lt=true)(hl:ltA f.2.2.1=true)(h:Awk Γ q s f=some (v,s1)):Awk Γ q (lss R s) f=some (v,lss R s1):=by
 have hg:A50 q (lss R s) f.1=A50 q s f.1:=by
  unfold A50;cases hx:q[f.1]? with
  |none=>rfl
  |some x=>
   have:=B6q.1 hq x (B6t hx);grind [I5.lt,Ay6]
 grind [Awk,Arc]
theorem Aqo (hΓ:Aat Γ)(hR:∀r∈R,GB<=r){q:List I5}(hq:q.all I5.lt=true){es:List (Nat×Nat×List AV)}:∀{fs:List Eff}{s s':St},fs.all (λ f=>ltD f.2.1&&ltA f.2.2.1)=true->evF Γ q es fs s=some s'->evF Γ q es fs (lss R s)=some (lss R s')
 |[],s,s',_,h=>by simp only [evF,B6g]at h;subst h;rfl
 |(j,d,A,ls,anc)::r,s,s',hl,h=>by
  simp only [B7r,B6h]at hl;simp only [evF]at h ⊢;rw [A79 hR hl.1.2];split at h
  ·split at h
   ·simp at h
   ·rename_i v s1 h1;split at h
    ·rename_i hc;simp only [Bik hΓ hR hq hl.1.2 h1,Aag hR hl.1.1];simp only [B6h]at hc;rw [B6l (by rw [hc.1.1,hc.1.2,Axi hΓ hR hq hc.2];rfl)]
     exact Aqo hΓ hR hq hl.2 h
    ·simp at h
  ·split at h
   ·simp at h
   ·rename_i v s1 h1;split at h
    ·rename_i hc;simp only [Arc hΓ hR hl.1.2 h1,Aag hR hl.1.1];rw [B6l (Bbp hc)];exact Aqo hΓ hR hq hl.2 h
    ·simp at h
theorem Alx (hR:∀r∈R,GB<=r){l:FL}:∀{ks:List Nat},(∀k∈ks,k<GB)->Am.keep ks (E1 R l)=Am.keep ks l/\E1 R (Am.keep ks l)=Am.keep ks l
 |[],_=>by
  refine⟨rfl,?_⟩;have:∀R:List Nat,E1 R ([]:FL)=[]:=λ R=>by
   induction R with
   |nil=>rfl
   |cons k R ih=>simpa only [E1,del]using ih
  exact this R
 |k::ks,h=>by
  obtain⟨h1,h2⟩:=Alx hR (l:=l) (ks:=ks) λ j hj=>h j (by simp [hj])
  have hk:=h k (by simp)
  simp only [Am.keep,Aga hR hk,h1];refine⟨trivial,?_⟩;cases get l k with
  |none=>exact h2
  |some v=>simp only [A17];rw [Asr _ (Aoh hR hk),h2]
theorem Ass (a b k:Nat):∀l:FL,Ac1 a b (del l k)=del (Ac1 a b l) k
 |[]=>rfl
 |(i,v)::l=>by
  simp only [del,Ac1];split
  ·exact Ass a b k l
  ·simp only [Ac1,Ass a b k l]
theorem Aoj (a b:Nat):∀(R:List Nat)(l:FL),Ac1 a b (E1 R l)=E1 R (Ac1 a b l)
 |[],l=>rfl
 |k::R,l=>by simp only [E1];rw [Aoj a b R,Ass]
theorem Bof {fs:List Eff}{f:Eff->Bool}(h:fs.all f=true)(p:List Nat):(T6 fs p).all f=true:=by
 grind [List.all_eq_true,Ay4,List.mem_of_getElem?]
theorem A9y (hΓ:Aat Γ)(hR:∀r∈R,GB<=r){q:List I5}(hq:q.all I5.lt=true){es:List (Nat×Nat×List AV)}{fs:List Eff}(hf:fs.all (λ f=>ltD f.2.1&&ltA f.2.2.1)=true){t:AI}(ht:t.lt=true){s:St}:∀{ps:List (List Nat)}{s2:St}{rs:List St},evN Γ q es fs t s ps=some (s2,rs)->evN Γ q es fs t (lss R s) ps=some (lss R s2,rs.map (lss R))
 |[],_,_,h=>by simp [evN]at h
 |p::ps,s2,rs,h=>by
  simp only [evN]at h ⊢;split at h
  ·simp at h
  ·rename_i s3 h3;simp only [Aqo hΓ hR hq (Bof hf p) h3];split at h
   ·simp at h
   ·rename_i s4 h4;simp only [A6b hΓ hR t ht h4];split at h
    ·simp only [B6g,B6k]at h;obtain⟨rfl,rfl⟩:=h;rfl
    ·rename_i p2 ps2;split at h
     ·rename_i s5 r h5;simp only [B6g,B6k]at h;obtain⟨rfl,rfl⟩:=h;simp only [A9y hΓ hR hq hf ht h5,B6v]
     ·simp at h
theorem Bbq (hR:∀r∈R,GB<=r){ks:List Nat}(hk:∀k∈ks,k<GB){a b:St}(h:Aln ks a b=true):Aln ks (lss R a) (lss R b)=true:=by
 grind [Aln,lss,Alx,Ahp,Alt,Aks]
theorem A3e {M:Nat}(hΓ:Aat Γ)(hR:∀r∈R,GB<=r)(c:AC):∀(s s':St)(ax:AX),Y0 c=true->Aa5 c=true->exec Γ M c s=some (ax,s')->exec Γ M c (lss R s)=some (ax,lss R s'):=by
 induction c with
 |skip=>intro s s' ax _ _ h;simp only [exec,B6g,B6k]at h ⊢;obtain⟨rfl,rfl⟩:=h;exact⟨rfl,rfl⟩
 |ret=>intro s s' ax _ _ h;simp only [exec,B6g,B6k]at h ⊢;obtain⟨rfl,rfl⟩:=h;exact⟨rfl,rfl⟩
 |exit id=>intro s s' ax _ _ h;simp only [exec,B6g,B6k]at h ⊢;obtain⟨rfl,rfl⟩:=h;exact⟨rfl,rfl⟩
 |any=>intro s s' ax _ _ h;simp [exec]at h
 |keep ks os a ih=>intro s s' ax hg _ h;simp [Y0]at hg
 |after ks os a ih=>intro s s' ax hg _ h;simp [Y0]at hg
 |reg o=>
  grind [Aa5,exec,Option.map_eq_some_iff,A6b]
 |draw q es fs t=>
  intro s s' ax _ hk h;simp only [Aa5,B6h]at hk;obtain⟨⟨⟨k1,k2⟩,k3⟩,k4⟩:=hk;simp only [exec]at h ⊢;split at h
  case h_2=>simp at h
  rename_i s0 h0;split at h
  case isFalse=>simp at h
  rename_i iE;split at h
  case h_2=>simp at h
  rename_i s1 h1;split at h
  case isFalse=>simp at h
  rename_i bB;split at h
  case h_2=>simp at h
  rename_i s3 h3;simp only [B6m,B6k]at h;obtain⟨s2,h2,rfl,rfl⟩:=h;simp only [Ak3 hΓ hR k1 h0,Aoi hΓ hR k1 iE,Ay7 hR k2 h1,Aqn bB,B68,Aqo hΓ hR k1 (by simpa using k3) h3,A6b hΓ hR t k4 h2,Option.map]
 |drawN q es fs ps t ks=>
  intro s s' ax _ hk h;simp only [Aa5,B6h]at hk;obtain⟨⟨⟨⟨k1,k2⟩,k3⟩,k4⟩,k5⟩:=hk;simp only [B6q,B6o]at k5;simp only [exec]at h ⊢;split at h
  case h_2=>simp at h
  rename_i s0 h0;split at h
  case isFalse=>simp at h
  rename_i iE;split at h
  case h_2=>simp at h
  rename_i s1 h1;split at h
  case isFalse=>simp at h
  rename_i bB;split at h
  case h_2=>simp at h
  rename_i s3 rs h3;split at h
  case isFalse=>simp at h
  rename_i hs;simp only [B6g,B6k]at h;obtain⟨rfl,rfl⟩:=h;have nE:(rs.map (lss R)).all (Aln ks (lss R s3))=true:=by
   grind [List.all_eq_true,Bbq]
  obtain⟨e1,e2⟩:=Alx hR (l:=s3.fr) k5;simp only [Ak3 hΓ hR k1 h0,Aoi hΓ hR k1 iE,Ay7 hR k2 h1,Aqn bB,B68,A9y hΓ hR k1 (by simpa using k3) k4 h3,nE]
  grind [lss,Aku,Ahp]
 |seq a b iha ihb=>
  grind [Y0,Aa5,exec]
 |cond c a b iha ihb=>
  grind [Y0,Aa5,exec,Aez]
 |block id a ih=>
  grind [Y0,Aa5,exec]
 |loop a ih=>
  intro s s' ax hg hk h;simp only [Y0,Aa5]at hg hk;simp only [exec]at h ⊢;have key:∀(n:Nat)(s:St),lp (exec Γ M a) n s=some (ax,s')->lp (exec Γ M a) n (lss R s)=some (ax,lss R s'):=by
   intro n
   induction n with
   |zero=>intro s h;simp [lp]at h
   |succ n ihn=>
    grind [lp]
  exact key M s h
 |keepP ks lo hi_ os a ih=>
  grind [Y0,Aa5,List.all_eq_true,exec,lss,ghs,A1,Alx,Aku,Ahp]
 |own d key a ih=>
  intro s s' ax hg hk h;simp only [Y0,B6h,B6o]at hg;simp only [Aa5,B6h,B6o]at hk;simp only [exec]at h ⊢;have e:get (lss R s).fr d=get s.fr d:=Aga hR hg.1;rw [e];split at h
  ·rename_i sz hd
   try simp only
   split at h
   ·rename_i hf;have dZ:(lss R s).free key=true:=I1 R hf;rw [B6l dZ];have e2:((lss R s).obj key ⟨sz,[]⟩).put (some d) (.sl key 0 0 0)=lss R ((s.obj key ⟨sz,[]⟩).put (some d) (.sl key 0 0 0)):=Aag (s:=s.obj key ⟨sz,[]⟩) hR (by simp [ltD,hg.1])
    rw [e2];exact ih _ s' ax hg.2 hk.2 h
   ·simp at h
  ·simp at h
 |renA key a ih=>
  intro s s' ax hg hk h;simp only [Y0]at hg;simp only [Aa5]at hk;simp only [exec]at h ⊢;split at h
  ·rename_i s1 h1;simp only [ih s s1 .norm hg hk h1];unfold Bft at h ⊢;have e:get (lss R s1).ob key=get s1.ob key:=rfl;rw [e];split at h
   ·split at h
    ·rename_i bB;have hok2:Adi (lss R s1) key (I7 (lss R s1).ob)=true:=by
      have pY:=bB;simp only [Adi,B6h,B6q,B7b]at pY ⊢;obtain⟨⟨⟨⟨⟨h1,h3⟩,h4⟩,h5⟩,h6⟩,h7⟩:=pY;refine⟨⟨⟨⟨⟨h1,I1 R h3⟩,I1 R h4⟩,h5⟩,h6⟩,λ p hp=> ?_⟩
      have:p∈ghs s1.fr:=by
       have e2:ghs (lss R s1).fr=E1 R (ghs s1.fr):=Ahp R s1.fr;rw [e2]at hp;exact(Q2 hp).1
      exact h7 p this
     grind [renS,lss,I7,Ac1,O9,E1,Aoj]
    ·simp at h
   all_goals grind
  ·rename_i aH;rw [ih s s' ax hg hk h];cases ax with
   |norm=>exact(aH s' h).elim
   |ex i=>rfl
   |ret=>rfl
 |iceA t off key a ih=>
  intro s s' ax hg hk h;simp only [Y0,B6h,B6o]at hg;simp only [Aa5,B6h]at hk;simp only [exec]at h ⊢;split at h
  ·rename_i s1 h1;simp only [ih s s1 .norm hg.2 hk.2 h1];simp only [B6g,B6k]at h ⊢;refine⟨h.1,?_⟩;rw [<-h.2];have e:get (lss R s1).fr t=get s1.fr t:=Aga hR hg.1;have e2:=Bij (off:=off) (key:=key) e (show (lss R s1).ob=s1.ob from rfl)
   have e3:=A6a t off key s1;have e4:=A6a t off key (lss R s1)
   show Avg t off key (lss R s1)=⟨E1 R (Avg t off key s1).fr,(Avg t off key s1).ob⟩
   rw [<-e2,e3];generalize Avg t off key (lss R s1)=z at*;obtain⟨f,o⟩:=z;simp only at e4 ⊢;rw [e4];rfl
  ·rename_i aH;rw [ih s s' ax hg.2 hk.2 h];cases ax with
   |norm=>exact(aH s' h).elim
   |ex i=>rfl
   |ret=>rfl
 |ren key a ih=>
  intro s s' ax hg hk h;simp only [Y0]at hg;simp only [Aa5]at hk;simp only [exec]at h ⊢;have e:get (lss R s).ob key=get s.ob key:=rfl;rw [e];split at h
  ·split at h
   ·rename_i bB;have hok2:Adi (lss R s) key (I7 (lss R s).ob)=true:=by
     have pY:=bB;simp only [Adi,B6h,B6q,B7b]at pY ⊢;obtain⟨⟨⟨⟨⟨h1,h3⟩,h4⟩,h5⟩,h6⟩,h7⟩:=pY;refine⟨⟨⟨⟨⟨h1,I1 R h3⟩,I1 R h4⟩,h5⟩,h6⟩,λ p hp=> ?_⟩
     have:p∈ghs s.fr:=by
      have e2:ghs (lss R s).fr=E1 R (ghs s.fr):=Ahp R s.fr;rw [e2]at hp;exact(Q2 hp).1
     exact h7 p this
    grind [renS,lss,I7,Ac1,O9,E1,Aoj]
   ·simp at h
  ·exact ih _ s' ax hg hk h
theorem Aie (hR:∀r∈R,GB<=r){s:St}:∀{rs:List Rs},rs.all ltR=true->(lss R s).slots rs=s.slots rs
 |[],_=>rfl
 | .t i::rs,h=>by
  simp only [B7r,B6h,ltR,B6o]at h;have e:get (lss R s).fr i=get s.fr i:=Aga hR h.1;simp only [St.slots,e,Aie hR h.2]
 | .m i sz ag::rs,h=>by
  simp only [B7r,B6h,ltR,B6o]at h;have e:get (lss R s).fr i=get s.fr i:=Aga hR h.1;simp only [St.slots,e,Aie hR h.2,Awz (s:=s) (t:=lss R s) rfl]
theorem Bil {N:Nat}{f:AFn}{s:St}{r:List AV×OL}(hΓ:Aat Γ)(hR:∀r∈R,GB<=r)(hg:Y0 f.body=true)(hk:Bmt f=true)(h:H9 Γ N f s=some r):H9 Γ N f (lss R s)=some r:=by
 simp only [Bmt,B6h]at hk;unfold H9 at h ⊢;split at h
 ·rename_i s1 h1;rw [A3e hΓ hR f.body s s1 .norm hg hk.1 h1];simp only [Aie hR hk.2];exact h
 ·rename_i s1 h1;rw [A3e hΓ hR f.body s s1 .ret hg hk.1 h1];simp only [Aie hR hk.2];exact h
 ·simp at h
end
theorem Bbr {nm:Nat->Option Nat}{Γ:H6}{f:FuncId}{fn:AFn}{n M:Nat}(hΓ:Aec P nm Γ)(bY:P.follows .mixedOrders=true)(hc:Axf P nm f fn n=true)(hg:(Y0 fn.body&&Aa5 fn.body)=true):D9 P f (H9 Γ M fn):=by
 intro γ B F ρ fr ob w us rs aA aF cM hm hf h;simp only [B6h]at hg;have nA:=hc;unfold Axf at hc;split at hc
 case h_2=>simp at hc
 rename_i fn' jF;simp only [B6h,B6o]at hc;obtain⟨⟨⟨cE,iO⟩,hn⟩,hG⟩:=hc;split at cE
 case h_2=>simp at cE
 rename_i c nG;have hul:=aF fn' jF;have jQ:Rel γ B F w fn'.ntmps ⟨fr,ob⟩ (Adc fn' us) w:=by
  refine⟨hG,F,ρ,hm,?_,.refl _ _ _,by unfold Adc;simp;omega,rfl⟩
  intro i v hi;have:=hf i v hi;unfold Akz;by_cases hiG:i<GB
  ·rw [B6l hiG]at this ⊢;have e:(Adc fn' us).tmps.getD i undef=us.getD i undef:=by
    cases hu:us[i]? with
    |some u=>rw [Akt hu,B8n,hu];rfl
    |none=>
     rw [B8n,hu];have rU:us.length<=i:=by simpa using hu
     unfold Adc;simp only [B61];grind [Array.getElem?_append_right]
   rw [e];exact this
  ·rw [B6j hiG]at this ⊢;exact this
 have key:∀ax s',(ax= .norm\/ax= .ret)->exec Γ M fn.body ⟨fr,ob⟩=some (ax,s')->(s'.slots fn.results).map (·,A1 fn.fin.1 fn.fin.2.1 fn.fin.2.2 s'.ob)=some (rs,aA)->Calls P f us.toArray w λ e w'=>∃qs,e= .returned (A2s qs)/\∃F' ρ',T0 B F' ρ' aA w'/\
   (∀i v,GB<=i->get fr i=some v->AR F' ρ' aA v (γ.getD (i-GB) undef))/\C9 (AR F' ρ' aA) rs qs/\Ext B F F' w w':=by
  intro ax s' bN kE hs;simp only [B6m,B6k]at hs;obtain⟨qs,eY,rfl,rfl⟩:=hs;refine(Axg hΓ bY jF nA jQ bN kE eY).mono ?_;rintro e w' ⟨us2,rfl,F2,ρ2,a',dV,dZ,kS,fH⟩;have bA:=Ag4 fn.fin.1 fn.fin.2.1 fn.fin.2.2 s'.ob;refine⟨us2,rfl,F2,ρ2,dV.sub bA,λ i v hi hv=> ?_,fH.imp λ _ _ h=>h.sub bA,kS⟩
  have hv2:=Bbo hG fn.body c _ s' ax cE hg.1 hg.2 kE i hi;have:=dZ i v (by rw [hv2];exact hv)
  rw [Akz,B6j (by omega)]at this
  exact this.sub bA
 grind [H9]
end
end Go.Am
namespace Go.Am
open Go.RowKit Go.ChangeShapes Go.WideShapes
inductive CT where
 |int (k:IntKind)
 |bool
 |str
 |sl (row:List CT)
inductive WT :CT->D->Prop where
 |int (k:IntKind)(n:Int):k.min<=n->n<=k.max->WT (.int k) (.int k n)
 |bool (b:Bool):WT .bool (.bool b)
 |str (s:List UInt8):s.length<=maxLen->WT .str (.str s)
 |sl (row:List CT)(rows:List (List D)):rows.length<=maxLen->(∀r∈rows,r.length=row.length)->(∀r∈rows,∀(i:Nat)(t:CT)(d:D),row[i]? =some t->r[i]? =some d->WT t d)->WT (.sl row) (.vs row.length rows)
def kfs (r:TypeId->Option (List CT))(c:TypeId->Nat):Nat->List Field->Option (List CT)
 |_,[]=>some []
 |o,f::fs=>match r f.type,kfs r c (o+c f.type) fs with
  |some a,some b=>if f.offset=o/\a.length=c f.type then some (a++b)else none
  |_,_=>none
def B1c {α:Type}(l:List α):Nat->List α
 |0=>[]
 |n+1=>l++B1c l n
def kts (P:Program):Nat->TypeId->Option (List CT)
 |0,_=>none
 |n+1,t=>match P.underlying t with
  |some (.int k)=>some [.int k]
  |some .bool=>some [.bool]
  |some .string=>some [.str]
  |some (.slice e)=>match kts P n e with
   |some r=>if r.length=P.cellsOf e then some [.sl r]else none
   |none=>none
  |some (.struct fs)=>match kfs (kts P n) P.cellsOf 0 fs.toList with
   |some l=>if l.length=P.cellsOf t then some l else none
   |none=>none
  |some (.array m e)=>match kts P n e with
   |some r=>if r.length=P.cellsOf e/\m*r.length=P.cellsOf t then some (B1c r m)else none
   |none=>none
  |_=>none
def Axj (w:World):A8:=λ a u=>w.cell? a=some u
theorem Axj.ok (w:World)(hG:GF (Axj w)):(Axj w).ok w:=⟨λ _ _ h=>h,hG⟩
theorem C9.get {α β:Type}{R:α->β->Prop}{l:List α}{m:List β}(h:C9 R l m){i:Nat}{a:α}{b:β}(ha:l[i]? =some a)(hb:m[i]? =some b):R a b:=by
 obtain⟨b',h1,h2⟩:=h.get? i a ha;grind
theorem Bgh {α:Type}{p:Nat->α->Prop}:∀(n:Nat),(∀i,i<n->∃d,p i d)->∃l:List α,l.length=n/\∀i d,l[i]? =some d->p i d
 |0,_=>⟨[],rfl,λ i d h=>by simp at h⟩
 |n+1,h=>by
  obtain⟨l,h1,h2⟩:=Bgh n λ i hi=>h i (by omega)
  obtain⟨d,hd⟩:=h n (by omega)
  refine⟨l++[d],by simp [h1],λ i x hx=> ?_⟩
  grind [List.getElem?_append_left,List.getElem?_append_right,Nat.eq_zero_or_pos,List.getElem?_eq_none]
section
variable {H : Type} {enc : TypeId × Value -> H} {P : Program} {w : World} {base : Nat} {spare : Nat -> Bool} {lH : Bool}
def Btv (enc:TypeId×Value->H)(P:Program)(w:World)(base:Nat)(spare:Nat->Bool)(lH:Bool)(t:TypeId)(ts:List CT):Prop:=
 ∀(fuel:Nat)(cs:List Value)(x:DataW H×List MemPlace),DataW.trod enc P w base spare lH fuel t cs=some x->∃ds:List D,C9 WT ts ds/\C9 (DR (Axj w)) ds cs
theorem Apl {r:TypeId->Option (List CT)}(hr:∀t ts,r t=some ts->Btv enc P w base spare lH t ts){fuel:Nat}{cs:List Value}:∀(fs:List Field)(o:Nat)(ts:List CT),kfs r P.cellsOf o fs=some ts->cs.length=o+ts.length->
  (∀f∈fs,∃x,DataW.trod enc P w base spare lH fuel f.type ((cs.drop f.offset).take (P.cellsOf f.type))=some x)->∃ds:List D,C9 WT ts ds/\C9 (DR (Axj w)) ds (cs.drop o)
 |[],o,ts,h,hl,_=>by
  simp only [kfs,B6g]at h;subst h;rw [B84 (by simp at hl;omega)]
  exact⟨[],.nil,.nil⟩
 |f::fs,o,ts,h,hl,hx=>by
  simp only [kfs]at h;split at h
  ·rename_i a b h1 h2;split at h
   ·rename_i hc;obtain⟨oY,cM⟩:=hc;simp only [B6g]at h;subst h;obtain⟨x,hfx⟩:=hx f (by simp)
    obtain⟨d1,wM,tW⟩:=hr _ _ h1 _ _ _ hfx;obtain⟨d2,sI,jO⟩:=Apl hr fs (o+P.cellsOf f.type) b h2 (by simp at hl;omega) λ g hg=>hx g (by simp [hg])
    refine⟨d1++d2,wM.append sI,?_⟩;rw [show cs.drop o=(cs.drop o).take (P.cellsOf f.type)++cs.drop (o+P.cellsOf f.type) by rw [<-List.drop_drop,List.take_append_drop]]
    rw [<-oY]at jO ⊢;exact tW.append jO
   ·simp at h
  ·simp at h
theorem Atj {e:TypeId}{r:List CT}(hr:Btv enc P w base spare lH e r){fuel:Nat}{cs:List Value}(hc:r.length=P.cellsOf e):∀(n i:Nat),cs.length=(i+n)*r.length->
  (∀j,i<=j->j<i+n->∃x,DataW.trod enc P w base spare lH fuel e ((cs.drop (j*P.cellsOf e)).take (P.cellsOf e))=some x)->∃ds:List D,C9 WT (B1c r n) ds/\C9 (DR (Axj w)) ds (cs.drop (i*r.length))
 |0,i,hl,_=>by
  rw [B84 (by rw [hl];simp)]
  exact⟨[],.nil,.nil⟩
 |n+1,i,hl,hx=>by
  obtain⟨x,hfx⟩:=hx i (by omega) (by omega)
  obtain⟨d1,wM,tW⟩:=hr _ _ _ hfx;obtain⟨d2,sI,jO⟩:=Atj hr hc n (i+1) (by rw [hl];congr 1;omega) λ j h1 h2=>hx j (by omega) (by omega)
  refine⟨d1++d2,wM.append sI,?_⟩;rw [show cs.drop (i*r.length)=(cs.drop (i*r.length)).take r.length++cs.drop ((i+1)*r.length) by rw [B7z,B8z,<-List.drop_drop,List.take_append_drop]]
  rw [<-hc]at tW;exact tW.append jO
theorem Bl9 :∀(n:Nat)(t:TypeId)(ts:List CT),kts P n t=some ts->Btv enc P w base spare lH t ts
 |0,t,ts,h=>by simp [kts]at h
 |n+1,t,ts,h=>by
  intro fuel cs x hx;simp only [kts]at h;split at h
  ·rename_i k ht;simp only [B6g]at h;subst h;obtain⟨m,rfl,rfl,hw⟩:=DataW.trod_int ht hx;simp only [Lit.wf,B6h,B6o]at hw;exact⟨[.int k m],.cons (.int k m hw.1 hw.2) .nil,.cons (.int k m) .nil⟩
  ·rename_i ht;simp only [B6g]at h;subst h;obtain⟨b,rfl,rfl⟩:=DataW.trod_bool ht hx;exact⟨[.bool b],.cons (.bool b) .nil,.cons (.bool b) .nil⟩
  ·rename_i ht;simp only [B6g]at h;subst h;obtain⟨b,rfl,rfl,hb⟩:=DataW.trod_string ht hx;exact⟨[.str b.data.toList],.cons (.str _ (by simpa using hb)) .nil,.cons (by have:=DR.str (F:=Axj w) b.data.toList;simpa using this) .nil⟩
  ·rename_i e ht;split at h
   ·rename_i r hr;split at h
    ·rename_i hc;simp only [B6g]at h;subst h;have ih:=Bl9 n e r hr;rcases Go.Deep.open_slice ht hx with ⟨rfl,_⟩|⟨a,len,cap,m,q,Dt,Pl,rfl,hb,hl,hm,hmm,rfl,yB⟩
     ·refine⟨[.vs r.length []],.cons (.sl r [] (by simp) (by simp) (by simp)) .nil,.cons ?_ .nil⟩
      exact DR.vs r.length [] none 0 ⟨0,0,none⟩ (λ _ _=>undef) (by simp) (by simp) (by simp) (λ i r j x hi=>by simp at hi) (λ i r j x hi=>by simp at hi)
     ·have hlm:len<=m:=by rw [hmm];split<;>omega
      obtain⟨rows,eQ,aQ⟩:=Bgh (p:=λ i (d:List D)=>C9 WT r d/\∃bS,w.cells? base (a.add (i*P.cellsOf e)) (P.cellsOf e)=some bS/\C9 (DR (Axj w)) d bS) len λ i hi=>by
       obtain⟨bS,h1,h2⟩:=yB i (by omega)
       obtain⟨ds,h3,h4⟩:=ih _ _ _ h2;exact⟨ds,h3,bS,h1,h4⟩
      have aF:∀row∈rows,row.length=r.length:=λ row aM=>by
       obtain⟨i,hi⟩:=B7t aM;exact(aQ i row hi).1.length.symm
      refine⟨[.vs r.length rows],.cons (.sl r rows (by rw [eQ];omega) aF λ row aM i t d h1 h2=> ?_) .nil,.cons ?_ .nil⟩
      ·obtain⟨k,hk⟩:=B7t aM;exact(aQ k row hk).1.get h1 h2
      ·have bV:∀(i:Nat)(row:List D)(j:Nat)(y:D),rows[i]? =some row->row[j]? =some y->∃u,w.cell? (a.add (i*r.length+j))=some u/\DR (Axj w) y u:=λ i row j y h1 h2=>by
        obtain⟨_,bS,h3,h4⟩:=aQ i row h1;obtain⟨_,h5,h6⟩:=World.cells?_some h3;obtain⟨u,hu,hd⟩:=h4.get? j y h2;grind [List.getElem?_eq_some_iff,Abo]
       rw [<-eQ];refine DR.vs r.length rows (some a) cap a (λ i j=>(w.cell? (a.add (i*r.length+j))).getD undef) (by omega) (λ _=>rfl) aF (λ i row j y h1 h2=> ?_) (λ i row j y h1 h2=> ?_)
       all_goals grind [Axj]
    ·simp at h
   ·simp at h
  ·rename_i fs ht;split at h
   ·rename_i l hr;split at h
    ·rename_i hc;simp only [B6g]at h;subst h;obtain⟨xs,m,rfl,rfl,hl,hxl,hf⟩:=DataW.trod_struct ht hx;have:=Apl (r:=kts P n) (λ t ts h=>Bl9 n t ts h) (fuel:=m) (cs:=cs) fs.toList 0 l hr (by omega) λ f rG=>by
      grind [List.getElem?_of_mem,List.getElem?_eq_some_iff,List.getElem?_eq_getElem]
     simpa using this
    ·simp at h
   ·simp at h
  ·rename_i m e ht;split at h
   ·rename_i r hr;split at h
    ·rename_i hc;simp only [B6g]at h;subst h;obtain⟨xs,q,rfl,rfl,hl,hxl,hf⟩:=DataW.trod_array ht hx;have:=Atj (Bl9 n e r hr) (fuel:=q) (cs:=cs) hc.1 m 0 (by rw [hl,<-hc.2];simp) λ j _ hj=>⟨xs[j]'(by omega),by rw [hf j (by omega),B6w (by omega)]⟩
     simpa using this
    ·simp at h
   ·simp at h
  ·simp at h
def WA (ts:List CT):AV->Prop
 | .c d=>∃t,ts=[t]/\WT t d
 | .agg ds=>C9 WT ts ds
 |_=>False
def Bma (P:Program)(t:TypeId):Bool:=match P.underlying t with
 |some (.struct _)=>true
 |some (.array _ _)=>true
 |_=>false
def Bbs (P:Program):List TypeId->Option (List (Bool×List CT))
 |[]=>some []
 |t::ts=>match kts P 8 t,Bbs P ts with
  |some a,some b=>some ((Bma P t,a)::b)
  |_,_=>none
def B1d (t:Bool×List CT)(v:AV):Prop:=WA t.2 v/\(t.1=true↔∃ds,v= .agg ds)
theorem A4i {t e:TypeId}{n b:Nat}{r:Reach}{v:Value}(ht:P.underlying t=some (.array n e))(h:Value.okWide P w r b t v):∃cs,v= .agg cs:=by
 grind [Value.okWide]
theorem A3f :∀(ts:List TypeId)(vs:List Value)(ds:List (DataW H))(ps:List MemPlace)(ks:List (Bool×List CT)),Bbs P ts=some ks->DataW.TrodAll enc P w base spare lH ts vs ds ps->
  (∀(j:Nat) t v,ts[j]? =some t->vs[j]? =some v->Value.okWide P w .any 0 t v)->∃as:List AV,C9 B1d ks as/\C9 (RR (Axj w)) as vs
 |[],vs,ds,ps,ks,hk,h,_=>by
  simp only [Bbs,B6g]at hk;subst hk;obtain⟨rfl,_,_⟩:=trodAll_nil h;exact⟨[],.nil,.nil⟩
 |t::ts,vs,ds,ps,ks,hk,h,bB=>by
  simp only [Bbs]at hk;split at hk
  ·rename_i a b h1 h2;simp only [B6g]at hk;subst hk;obtain⟨v,vs',d,ds',p,q,rfl,rfl,rfl,ht,jV⟩:=trodAll_cons h;obtain⟨as,hw,hr⟩:=A3f ts vs' ds' q b h2 jV λ j t v hj hv=>bB (j+1) t v (by simpa using hj) (by simpa using hv)
   obtain⟨fuel,hf⟩:=ht;obtain⟨es,he1,kS⟩:=Bl9 (enc:=enc) 8 t a h1 _ _ _ hf;have pZ:=bB 0 t v rfl rfl;by_cases dJ:Bma P t=true
   ·have:∃cs,v= .agg cs:=by
     unfold Bma at dJ;split at dJ
     ·rename_i fs hu;obtain⟨cs,h,_⟩:=okWide_struct hu pZ;exact⟨cs,h⟩
     all_goals grind [A4i]
    obtain⟨cs,rfl⟩:=this;refine⟨.agg es::as,.cons ⟨he1,by simp [dJ]⟩ hw,.cons ⟨cs.toList,by simp,?_⟩ hr⟩
    simpa [Value.cells]using kS
   ·have bV:v.cells.toList=[v]:=by
     simp only [kts]at h1;unfold Bma at dJ;split at h1
     ·rename_i k hu;obtain⟨n,rfl⟩:=okWide_int hu pZ;rfl
     ·rename_i hu;simp only [Value.okWide,hu,Cell.okWide]at pZ;cases v<;>simp_all [Cell.ok,Value.cells]
     ·rename_i hu;obtain⟨n,rfl⟩:=okWide_string hu pZ;rfl
     ·rename_i e hu;obtain⟨x,l,c,rfl⟩:=okWide_slice hu pZ;rfl
     ·rename_i fs hu;simp [hu]at dJ
     ·rename_i n e hu;simp [hu]at dJ
     ·simp at h1
    rw [bV]at kS
    match es,kS with
    |[y],.cons hy .nil=>
     match a,he1 with
     |[ty],.cons dA .nil=>
      exact⟨.c y::as,.cons ⟨⟨ty,rfl,dA⟩,by simp [dJ]⟩ hw,.cons hy hr⟩
  ·simp at hk
theorem Amq {W W':World}(hl:laidOutB P=true)(hb:Below W.heap.size W W'):∀(ts:List TypeId)(vs:List Value)(ds:List (DataW H))(ps:List MemPlace),(∀t∈ts,P.readableRec t=true/\t<P.types.size)->(∀x∈ps,x.block<W.heap.size)->
  DataW.TrodAll enc P W 0 (λ _=>true) true ts vs ds ps->DataW.TrodAll enc P W' 0 (λ b=>decide (b<W.heap.size)) true ts vs ds ps
 |[],vs,ds,ps,_,_,h=>by
  obtain⟨rfl,rfl,rfl⟩:=trodAll_nil h;exact trodAll_mk0
 |t::ts,vs,ds,ps,hr,aC,h=>by
  obtain⟨v,vs',d,ds',p,q,rfl,rfl,rfl,ht,jV⟩:=trodAll_cons h;exact⟨p,q,Below.trod hl (hr t (by simp)).1 (hr t (by simp)).2 ht hb λ x hx=>aC x (by simp [hx]),
   Amq hl hb ts vs' ds' q (λ t ht=>hr t (by simp [ht])) (λ x hx=>aC x (by simp [hx])) jV,rfl⟩
end
end Go.Am
namespace Go.Am
open Go.RowKit Go.ChangeShapes Go.WideShapes
section
variable {H : Type} {enc : TypeId × Value -> H} {P : Program}
theorem Bog {f:Func}{s:ChangeSpec}{W W':World}{args:Array Value}{ds gs:List (DataW H)}{before:List MemPlace}{tb:TypeId}
  (hW:DataW.Whole enc P f.params.toList s.vars false W args.toList ds gs before)(hv:s.vars=[])(h1:(s.fn H (ds++gs)).results=[.lit (.bool true)])(h2:(s.fn H (ds++gs)).args=ds)(h3:(s.fn H (ds++gs)).vars=[])
  (hl:laidOutB P=true)(aQ:∀t∈f.params.toList,P.readableRec t=true/\t<P.types.size)(ht:f.resultTypes= #[tb])(hb:P.underlying tb=some .bool)(dE:Below W.heap.size W W'):
  s.post enc P f false true false false W args (.bool true) W':=by
 have hW0:=hW;obtain⟨p,q,hA,hV,nU,fT,gW⟩:=hW;have hV':=hV;rw [hv]at hV';obtain⟨rfl,rfl⟩:=trodVars_none hV';simp only [B71]at nU;subst nU;have jL:∀x∈before,x.block<W.heap.size:=λ x hx=>hW0.lt x hx
 have res:∀(b:Nat)(sp:Nat->Bool)(hd:Bool),DataW.TrodAll enc P W' b sp hd f.resultTypes.toList ((Value.bool true).resultList f.resultTypes.size) (s.fn H (ds++[])).results []:=λ b sp hd=>by
  rw [ht,h1];exact trodAll_cons_mk (shut_bool hb true) trodAll_mk0
 have back:=Amq hl dE f.params.toList args.toList ds before aQ jL hA;have vars:∀sp:Nat->Bool,DataW.TrodVars enc P W' sp s.vars (s.fn H (ds++[])).vars []:=λ sp=>by rw [hv,h3];rfl
 exact⟨ds,[],before,[],before,[],hW0,res _ _ _,by rw [h2];exact back,vars _,World.keptBut_mono (λ p hp=>⟨hp,.inr (.inl hp)⟩) (dE.frame (· ∈before)),λ h=>by simp at h⟩
theorem Bim {f:FuncId}{fn:Func}{s:ChangeSpec}{S:List AV->Option (List AV)}{W:World}{args:Array Value}{ds gs:List (DataW H)}{before:List MemPlace}{tb:TypeId}{ks:List (Bool×List CT)}
  (bH:Api P f S)(hW:DataW.Whole enc P fn.params.toList s.vars false W args.toList ds gs before)(bB:∀(j:Nat) t v,fn.params[j]? =some t->args[j]? =some v->Value.okWide P W .any 0 t v)(hG:GF (Axj W))
  (hv:s.vars=[])(h1:(s.fn H (ds++gs)).results=[.lit (.bool true)])(h2:(s.fn H (ds++gs)).args=ds)(h3:(s.fn H (ds++gs)).vars=[])
  (hl:laidOutB P=true)(aQ:fn.params.toList.all (λ t=>P.readableRec t&&decide (t<P.types.size))=true)(ht:fn.resultTypes= #[tb])(hb:P.underlying tb=some .bool)
  (hk:Bbs P fn.params.toList=some ks)(hS:∀as,C9 B1d ks as->S as=some [.c (.bool true)]):
  Calls P f args W λ e W'=>∃v,e= .returned v/\s.post enc P fn false true false false W args v W':=by
 have hW0:=hW;obtain⟨p,q,hA,hV,nU,fT,gW⟩:=hW;obtain⟨as,hw,hr⟩:=A3f _ _ _ _ ks hk hA λ j t v hj hv=>bB j t v (by simpa using hj) (by simpa using hv)
 have:=bH (Axj W) W as args.toList _ (Axj.ok W hG) hr (hS as hw);simp only [Array.toArray_toList]at this;refine this.mono ?_;rintro e W' ⟨u,rfl,F',_,_,dE,_,pA⟩;simp only [A54,RR]at pA;cases pA;refine⟨_,rfl,Bog hW0 hv h1 h2 h3 hl (λ t ht=> ?_) ht hb dE⟩
 simp only [B6q,B6h,B6o]at aQ;exact aQ t ht
end
abbrev Tab :=List (Nat×AFn×Nat)
def A2a (T:Tab)(X:H6)(r:AFn->List AV->Option (List AV))(f:Nat)(ds:List AV):Option (List AV):=match get T f with
 |some (F,k)=>if ds.length=k then r F ds else none
 |none=>X f ds
def Ajo (T:Tab)(X:H6)(r:AFn->PG)(f:Nat)(s:St):Option (List AV×OL):=match get T f with
 |some (F,k)=>if (Y0 F.body&&Bmt F)=true then r F s else none
 |none=>X.pt f s
def Bbt (I:List (Nat×Nat))(e:Nat->List AV->Option (List AV))(g:Nat)(ds:List AV):Option (List AV):=match get I g with
 |some f=>e f ds
 |none=>none
def env (T:Tab)(I:List (Nat×Nat))(X:H6)(M:Nat):Nat->H6
 |0=>⟨A2a T X λ _ _=>none,Ajo T X λ _ _=>none,λ _ _=>none⟩
 |n+1=>⟨A2a T X (run (env T I X M n) M),Ajo T X (H9 (env T I X M n) M),Bbt I (env T I X M n)⟩
structure XOk (P:Program)(nm:Nat->Option Nat)(T:Tab)(X:H6):Prop where
 fn:∀f g,nm f=some g->get T f=none->Api P g (X f)
 pt:∀f g,nm f=some g->get T f=none->D9 P g (X.pt f)
 mono:Aat X
def Byq (P:Program)(nm:Nat->Option Nat)(I:List (Nat×Nat)):Bool:=I.all λ p=>nm p.2==some p.1&&Ays P p.1
theorem Ay8 {P:Program}{nm:Nat->Option Nat}:∀{I:List (Nat×Nat)}{g f:Nat},Byq P nm I=true->get I g=some f->nm f=some g/\Ays P g=true
 |[],g,f,_,h=>by simp [get]at h
 |(g',f')::I,g,f,hc,h=>by
  simp only [Byq,B7r,B6h,B62]at hc;simp only [get]at h;split at h
  ·rename_i hg;subst hg;simp only [B6g]at h;subst h;exact hc.1
  ·exact Ay8 (I:=I) hc.2 h
theorem Api.congr {P:Program}{f:FuncId}{S S':List AV->Option (List AV)}(h:Api P f S)(he:∀ds,S ds=S' ds):Api P f S':=by
 have:S=S':=funext he;rw [<-this];exact h
theorem D9.none {P:Program}{f:FuncId}:D9 P f λ _=>none:=by
 intro _ _ _ _ _ _ _ _ _ _ _ _ _ _ h;simp at h
def Ahq (P:Program)(nm:Nat->Option Nat):Tab->Bool
 |[]=>true
 |(f,F,k)::T=>(match nm f with|some g=>Axf P nm g F k|none=>true)&&Ahq P nm T
theorem Aok {P:Program}{nm:Nat->Option Nat}:∀{T:Tab}{f g:Nat}{F:AFn}{k:Nat},Ahq P nm T=true->get T f=some (F,k)->nm f=some g->Axf P nm g F k=true
 |[],f,g,F,k,_,h,_=>by simp [get]at h
 |(f',F',k')::T,f,g,F,k,hc,h,hg=>by
  simp only [Ahq,B6h]at hc;simp only [get]at h;split at h
  ·rename_i hf;subst hf;simp only [B6g,B6k]at h;obtain⟨rfl,rfl⟩:=h;simpa only [hg]using hc.1
  ·exact Aok hc.2 h hg
theorem Axk {P:Program}{nm:Nat->Option Nat}{T:Tab}{X:H6}(hX:∀f g,nm f=some g->get T f=none->Api P g (X f)){r:AFn->List AV->Option (List AV)}
  (hr:∀f g F k,nm f=some g->get T f=some (F,k)->Api P g λ ds=>if ds.length=k then r F ds else none)(f g:Nat)(hg:nm f=some g):Api P g (A2a T X r f):=by
 cases hf:get T f with
 |none=>exact(hX f g hg hf).congr λ ds=>by simp [A2a,hf]
 |some p=>exact(hr f g p.1 p.2 hg hf).congr λ ds=>by simp [A2a,hf]
theorem Axl {T:Tab}{X:H6}(hX:Aat X){r:AFn->PG}(hr:∀F s q R,(∀i∈R,GB<=i)->Y0 F.body=true->Bmt F=true->r F s=some q->r F (lss R s)=some q)(fn:Nat->List AV->Option (List AV))(fv:Nat->List AV->Option (List AV)):Aat ⟨fn,Ajo T X r,fv⟩:=by
 intro f s rs ob R hR h;simp only [Ajo]at h ⊢;split at h
 ·rename_i F k hf;split at h
  ·rename_i hc;have nA:=hc;simp only [B6h]at hc;rw [B6l nA];exact hr F s _ R hR hc.1 hc.2 h
  ·simp at h
 ·exact hX f s rs ob R hR h
theorem Axm {P:Program}{nm:Nat->Option Nat}{T:Tab}{X:H6}(hX:∀f g,nm f=some g->get T f=none->D9 P g (X.pt f)){r:AFn->PG}
  (hr:∀f g F k,nm f=some g->get T f=some (F,k)->(Y0 F.body&&Aa5 F.body)=true->D9 P g (r F))(f g:Nat)(hg:nm f=some g):D9 P g (Ajo T X r f):=by
 cases hf:get T f with
 |none=>
  have:Ajo T X r f=X.pt f:=by funext s;simp [Ajo,hf]
  rw [this];exact hX f g hg hf
 |some p=>
  obtain⟨F,k⟩:=p;by_cases hk:(Y0 F.body&&Bmt F)=true
  ·have:Ajo T X r f=r F:=by funext s;simp only [Ajo,hf,hk,B68]
   grind [Bmt]
  ·have:Ajo T X r f=λ _=>none:=by funext s;simp only [Ajo,hf];rw [B6j hk]
   rw [this];exact D9.none
theorem Amr {P:Program}{nm:Nat->Option Nat}{T:Tab}{I:List (Nat×Nat)}{X:H6}(bY:P.follows .mixedOrders=true)
  (hX:XOk P nm T X)(hT:Ahq P nm T=true)(hI:Byq P nm I=true)(M:Nat):∀n:Nat,Aec P nm (env T I X M n)
 |0=>⟨λ _ _ _ h=>by simp [env]at h,λ g F w ds vs rs _ _ h=>by simp [env]at h,λ f g hg=>Axk hX.fn (λ f g F k _ _=>by intro F w ds vs rs _ _ h;simp at h) f g hg,λ f g hg=>Axm hX.pt (λ _ _ _ _ _ _ _=>D9.none) f g hg,Axl hX.mono (λ _ _ _ _ _ _ _ h=>by simp at h) _ _⟩
 |n+1=>by
  have ih:=Amr bY hX hT hI M n;refine⟨λ g ds rs h=> ?_,λ g=> ?_,λ f g hg=>Axk hX.fn (λ f g F k hg hf=>Bii (n:=k) (M:=M) ih bY (Aok hT hf hg)) f g hg,λ f g hg=>Axm hX.pt (λ f g F k hg hf hk=>Bbr ih bY (Aok hT hf hg) hk) f g hg,Axl hX.mono (λ F s q R hR h1 h2 h=>Bil ih.mono hR h1 h2 h) _ _⟩
  ·simp only [env,Bbt]at h;split at h
   ·rename_i f hf;exact(Ay8 hI hf).2
   ·simp at h
  ·show Api P g (Bbt I (env T I X M n) g)
   cases hf:get I g with
   |none=>intro F w ds vs rs _ _ h;simp [Bbt,hf]at h
   |some f=>exact(ih.fn f g (Ay8 hI hf).1).congr λ ds=>by simp [Bbt,hf]
theorem Boh {P:Program}{nm:Nat->Option Nat}{T:Tab}{I:List (Nat×Nat)}{X:H6}(bY:P.follows .mixedOrders=true)
  (hX:XOk P nm T X)(hT:Ahq P nm T=true)(hI:Byq P nm I=true)(M n f g:Nat)(hg:nm f=some g):Api P g (env T I X M n f):=(Amr bY hX hT hI M n).fn f g hg
theorem A9 {T:Tab}{I:List (Nat×Nat)}{X:H6}{M n f k:Nat}{F:AFn}{ds:List AV}(hf:get T f=some (F,k))(hl:ds.length=k):env T I X M (n+1) f ds=run (env T I X M n) M F ds:=by
 simp [env,A2a,hf,hl]
theorem E2 {T:Tab}{I:List (Nat×Nat)}{X:H6}{M n f k:Nat}{F:AFn}{s:St}(hf:get T f=some (F,k))(hk:(Y0 F.body&&Bmt F)=true):(env T I X M (n+1)).pt f s=H9 (env T I X M n) M F s:=by
 simp only [env,Ajo,hf,hk,B68]
theorem Bgi {f:St->Option (AX×St)}{I:Nat->St->Prop}{R:AX->St->Prop}
  (step:∀n s,I n s->(∃m s',m<n/\f s=some (.norm,s')/\I m s')\/∃ax s',ax≠ .norm/\f s=some (ax,s')/\R ax s'):
  ∀(n M:Nat)(s:St),I n s->n<M->∃ax s',lp f M s=some (ax,s')/\R ax s'
 |n,0,s,h,hn=>by omega
 |n,M+1,s,h,hn=>by
  rcases step n s h with ⟨m,s',hm,h1,h2⟩|⟨ax,s',h0,h1,h2⟩
  ·obtain⟨ax,s2,h3,h4⟩:=Bgi step m M s' h2 (by omega)
   grind [lp]
  all_goals grind [lp]
def nrm (ks os:List Nat)(s:St):St:=⟨keep ks s.fr,keep os s.ob⟩
def Bmb {α:Type}(S:α->St)(inv:α->Prop)(μ:α->Nat)(ks os:List Nat)(R:AX->St->Prop)(q:α):Option (AX×St)->Prop
 |none=>False
 |some (.norm,s')=>∃q',nrm ks os s'=S q'/\inv q'/\μ q'<μ q
 |some (.ex i,s')=>R (.ex i) s'
 |some (.ret,s')=>R .ret s'
theorem Bu0 {Γ:H6}{N:Nat}{b:AC}{ks os:List Nat}{α:Type}(S:α->St)(inv:α->Prop)(μ:α->Nat)(R:AX->St->Prop)(step:∀q,inv q->Bmb S inv μ ks os R q (exec Γ N b (S q)))(q:α)(M:Nat)(s:St)(hq:inv q)(hs:nrm ks os s=S q)(hM:μ q<M):
  ∃ax s',lp (exec Γ N (.keep ks os b)) M s=some (ax,s')/\R ax s':=by
 refine Bgi (I:=λ n s=>∃q,nrm ks os s=S q/\inv q/\μ q=n) (λ n s h=> ?_) (μ q) M s ⟨q,hs,hq,rfl⟩ hM
 obtain⟨q,hs,hi,rfl⟩:=h;have h:=step q hi;have he:exec Γ N (.keep ks os b) s=exec Γ N b (S q):=by rw [<-hs];rfl
 rw [he];unfold Bmb at h;split at h
 ·exact h.elim
 ·obtain⟨q',h1,h2,h3⟩:=h;exact .inl ⟨_,_,h3,‹_›,q',h1,h2,rfl⟩
 ·exact .inr ⟨_,_,by simp,‹_›,h⟩
 ·exact .inr ⟨_,_,by simp,‹_›,h⟩
theorem Bzf {Γ:H6}{N:Nat}{b:AC}{ks os:List Nat}{s t:St}(h:nrm ks os s=nrm ks os t)(M:Nat):lp (exec Γ N (.keep ks os b)) M s=lp (exec Γ N (.keep ks os b)) M t:=by
 cases M with
 |zero=>rfl
 |succ M=>
  grind [exec,nrm,lp]
theorem Add {Γ:H6}{N:Nat}{b:AC}{ks os:List Nat}{α:Type}(S:α->St)(inv:α->Prop)(μ:α->Nat)(R:AX->St->Prop)(q:α)(M:Nat)(hS:nrm ks os (S q)=S q)(hq:inv q)(hM:μ q<M)
  (step:∀q,inv q->Bmb S inv μ ks os R q (exec Γ N b (S q))):∃ax s',R ax s'/\∀s,nrm ks os s=S q->lp (exec Γ N (.keep ks os b)) M s=some (ax,s'):=by
 obtain⟨ax,s',h1,h2⟩:=Bu0 S inv μ R step q M (S q) hq hS hM;exact⟨ax,s',h2,λ s hs=>by rw [<-h1];exact Bzf (by rw [hs,hS]) M⟩
theorem Bio {n:Int}(h1: -9223372036854775808<=n)(h2:n<=9223372036854775807):Ac0 .i64 n=n:=by
 unfold Ac0;rw [IntKind.wrap_i64];omega
theorem Boi {n:Int}(h1:0<=n)(h2:n<=255):Ac0 .u8 n=n:=by
 unfold Ac0;rw [IntKind.wrap_u8];omega
theorem Bip {x y:Int}(h:0<=x):Bl1 x y=x/y:=Int.tdiv_eq_ediv_of_nonneg h
theorem Biq {x y:Int}(h:0<=x):Bl2 x y=x%y:=Int.tmod_eq_emod_of_nonneg h
theorem Ahr {α β:Type}{R:α->β->Prop}{m:List β}:C9 R [] m↔m=[]:=by
 constructor
 ·intro h;cases h;rfl
 ·rintro rfl;exact .nil
theorem Ad7 {α β:Type}{R:α->β->Prop}{a:α}{l:List α}{m:List β}:C9 R (a::l) m↔∃b m',m=b::m'/\R a b/\C9 R l m':=by
 constructor
 ·intro h;cases h;exact⟨_,_,rfl,‹_›,‹_›⟩
 ·rintro⟨b,m',rfl,h1,h2⟩;exact .cons h1 h2
theorem Bzg {k:IntKind}{d:D}:WT (.int k) d↔∃n,d= .int k n/\k.min<=n/\n<=k.max:=by
 constructor
 ·intro h;cases h;exact⟨_,rfl,‹_›,‹_›⟩
 ·rintro⟨n,rfl,h1,h2⟩;exact .int k n h1 h2
theorem Bu1 {d:D}:WT .bool d↔∃b,d= .bool b:=by
 constructor
 ·intro h;cases h;exact⟨_,rfl⟩
 ·rintro⟨n,rfl⟩;exact .bool n
theorem Byr {row:List CT}{d:D}:WT (.sl row) d↔∃rows,d= .vs row.length rows/\rows.length<=maxLen/\∀r∈rows,C9 WT row r:=by
 constructor
 ·intro h;cases h with
  |sl _ rows h1 h2 h3=>
   refine⟨rows,rfl,h1,λ r hr=>C9.of_get (h2 r hr).symm λ i t hi=> ?_⟩
   have aC:i<r.length:=by rw [h2 r hr];exact(B6n.1 hi).1
   exact⟨r[i],B6w aC,h3 r hr i t _ hi (B6w aC)⟩
 ·rintro⟨rows,rfl,h1,h2⟩;exact .sl row rows h1 (λ r hr=>(h2 r hr).length.symm) λ r hr i t d hi hj=>(h2 r hr).get hi hj
theorem A9z {ts:List CT}{v:AV}(h:B1d (true,ts) v):∃ds,v= .agg ds/\C9 WT ts ds:=by
 obtain⟨h1,h2⟩:=h;obtain⟨ds,rfl⟩:=h2.1 rfl;exact⟨ds,rfl,h1⟩
theorem Aly :∀r:List D,Agx (A4 r)=some r
 |[]=>rfl
 |d::r=>by
  have:=Aly r;grind [A4,Agx]
theorem G6 :∀rs:List (List D),F7 (rs.map A4)=some rs
 |[]=>rfl
 |r::rs=>by simp only [B6v,F7,Aly,G6 rs]
theorem G7 {α:Type}(f:α->List D)(l:List α):F7 (l.map (A4∘f))=some (l.map f):=by
 rw [<-B8c,G6]
theorem Boj {v:AV}{r:List D}:v∈A4 r↔∃d,d∈r/\AV.c d=v:=by simp [A4]
theorem Bok (s:St)(k k':IntKind)(n:Int):s.conv (.int k) (.c (.int k' n))=some (.int k (Ac0 k n)):=rfl
theorem Bir (s:St)(x:List UInt8):s.conv .same (.c (.str x))=some (.str x):=rfl
theorem Bol {α:Type}(a:α)(l:List α):(a::l)[0]? =some a:=rfl
theorem Bom {α:Type}(a:α)(l:List α)(n:Nat):(a::l)[n+1]? =l[n]? :=rfl
end Go.Am
namespace Go.Am
abbrev i64 (n:Int):AV:= .c (.int .i64 n)
abbrev u64 (n:Int):AV:= .c (.int .u64 n)
abbrev bo (b:Bool):AV:= .c (.bool b)
abbrev st (s:List UInt8):AV:= .c (.str s)
def U1 (n:Int):Prop:= -9223372036854775808<=n/\n<=9223372036854775807
theorem Bis {n:Int}(h1:0<=n)(h2:n<=18446744073709551615):Ac0 .u64 n=n:=by
 unfold Ac0;rw [IntKind.wrap_u64];omega
theorem A3g :maxLen=9223372036854775807:=rfl
theorem Au7 {d:D}:WT (.int .i64) d↔∃n,d= .int .i64 n/\U1 n:=Bzg
theorem Ak4 {α:Type}{row:List CT}{cells:α->List D}{ok:α->Prop}(h:∀r,C9 WT row r->∃t,r=cells t/\ok t):∀rows:List (List D),(∀r∈rows,C9 WT row r)->∃ts:List α,rows=ts.map cells/\∀t∈ts,ok t
 |[],_=>⟨[],rfl,by simp⟩
 |r::rows,hr=>by
  obtain⟨t,rfl,ht⟩:=h r (hr r (by simp))
  obtain⟨ts,rfl,iT⟩:=Ak4 h rows λ r bU=>hr r (by simp [bU])
  exact⟨t::ts,rfl,by simpa using ⟨ht,iT⟩⟩
def Axn :H6:=⟨λ _ _=>none,λ _ _=>none,λ _ _=>none⟩
section
variable (Γ : H6) (N : Nat)
def Bbu (b:AC):Option (AX×St)->Option (AX×St)
 |some (.norm,s)=>exec Γ N b s
 |r=>r
theorem Ast (b:AC)(s:St):Bbu Γ N b (some (.norm,s))=exec Γ N b s:=by simp only [Bbu]
theorem Bu2 (b:AC)(i:Nat)(s:St):Bbu Γ N b (some (.ex i,s))=some (.ex i,s):=by simp only [Bbu]
theorem Bon (b:AC)(s:St):Bbu Γ N b (some (.ret,s))=some (.ret,s):=by simp only [Bbu]
def Axo (a b:AC)(s:St):Option AV->Option (AX×St)
 |some (.c (.bool t))=>if t then exec Γ N a s else exec Γ N b s
 |_=>none
theorem Bu3 (a b:AC)(s:St):Axo Γ N a b s (some (.c (.bool true)))=exec Γ N a s:=by simp only [Axo,B68]
theorem Bu4 (a b:AC)(s:St):Axo Γ N a b s (some (.c (.bool false)))=exec Γ N b s:=by simp only [Axo,B6p,B7d]
def Bbv (id:Nat):Option (AX×St)->Option (AX×St)
 |some (.ex i,s)=>if i=id then some (.norm,s)else some (.ex i,s)
 |r=>r
theorem Bit (id:Nat)(s:St):Bbv id (some (.norm,s))=some (.norm,s):=by simp only [Bbv]
theorem Boo (id:Nat)(s:St):Bbv id (some (.ret,s))=some (.ret,s):=by simp only [Bbv]
theorem Bu5 (id i:Nat)(s:St):Bbv id (some (.ex i,s))=if i=id then some (.norm,s)else some (.ex i,s):=by simp only [Bbv]
def Bbw (a:AC)(s:St):Bool->Option (AX×St)
 |true=>exec Γ N a s
 |false=>none
def Brt (d key:Nat)(a:AC)(s:St):Option AV->Option (AX×St)
 |some (.nil sz)=>Bbw Γ N a ((s.obj key ⟨sz,[]⟩).put (some d) (.sl key 0 0 0)) (s.free key)
 |_=>none
theorem Bu6 (a:AC)(s:St):Bbw Γ N a s true=exec Γ N a s:=by simp only [Bbw]
theorem Bop (d key sz:Nat)(a:AC)(s:St):Brt Γ N d key a s (some (.nil sz))=Bbw Γ N a ((s.obj key ⟨sz,[]⟩).put (some d) (.sl key 0 0 0)) (s.free key):=by simp only [Brt]
def A2b :Option St->Option (AX×St)
 |some s=>some (.norm,s)
 |none=>none
theorem Axp (s:St):A2b (some s)=some (.norm,s):=by simp only [A2b]
def xD4 (t:AI):Option St->Option (AX×St)
 |some s=>A2b (ev Γ t s)
 |none=>none
def xD3 (q:List I5)(es:List (Nat×Nat×List AV))(fs:List Eff)(t:AI)(s:St):Bool->Option (AX×St)
 |true=>xD4 Γ t (evF Γ q es fs s)
 |false=>none
def xD2 (q:List I5)(es:List (Nat×Nat×List AV))(fs:List Eff)(t:AI):Option St->Option (AX×St)
 |some s=>xD3 Γ q es fs t s (okA es s)
 |none=>none
def xD0 (q:List I5)(es:List (Nat×Nat×List AV))(fs:List Eff)(t:AI)(s:St):Bool->Option (AX×St)
 |true=>xD2 Γ q es fs t (evA es s)
 |false=>none
def xD1 (q:List I5)(es:List (Nat×Nat×List AV))(fs:List Eff)(t:AI):Option St->Option (AX×St)
 |some s=>xD0 Γ q es fs t s (Aak Γ s q)
 |none=>none
theorem B1z (q:List I5)(es:List (Nat×Nat×List AV))(fs:List Eff)(t:AI)(s:St):xD0 Γ q es fs t s true=xD2 Γ q es fs t (evA es s):=by simp only [xD0]
def xZ (s:St)(x:I5):Bool->Bool
 |true=>Ajk Γ s (some x)
 |false=>true
theorem B4v (s:St)(x:I5):xZ Γ s x false=true:=by simp only [xZ]
theorem B4w (s:St)(x:I5):xZ Γ s x true=Ajk Γ s (some x):=by simp only [xZ]
theorem Biu (s:St):Aak Γ s []=true:=by simp only [Aak]
theorem Bbx (s:St)(d:Option Nat)(a:Act)(g:Option (Nat×Bool))(r:List I5):Aak Γ s (⟨d,a,g⟩::r)=(xZ Γ s ⟨d,a,g⟩ a.isQ&&Aak Γ s r):=by
 grind [Aak,xZ]
theorem Boq (t:AI)(s:St):xD4 Γ t (some s)=A2b (ev Γ t s):=by simp only [xD4]
theorem B10 (q:List I5)(es:List (Nat×Nat×List AV))(fs:List Eff)(t:AI)(s:St):xD3 Γ q es fs t s true=xD4 Γ t (evF Γ q es fs s):=by simp only [xD3]
theorem Bor (q:List I5)(es:List (Nat×Nat×List AV))(fs:List Eff)(t:AI)(s:St):xD2 Γ q es fs t (some s)=xD3 Γ q es fs t s (okA es s):=by simp only [xD2]
theorem Bos (q:List I5)(es:List (Nat×Nat×List AV))(fs:List Eff)(t:AI)(s:St):xD1 Γ q es fs t (some s)=xD0 Γ q es fs t s (Aak Γ s q):=by simp only [xD1]
variable {s : St}
theorem Biv :exec Γ N .skip s=some (.norm,s):=by simp only [exec]
theorem Bot :exec Γ N .ret s=some (.ret,s):=by simp only [exec]
theorem Biw (i:Nat):exec Γ N (.exit i) s=some (.ex i,s):=by simp only [exec]
theorem A90 (o:AI):exec Γ N (.reg o) s=A2b (ev Γ o s):=by
 simp only [exec];cases ev Γ o s<;>simp only [A2b,Option.map]
theorem Ay9 (a b:AC):exec Γ N (.seq a b) s=Bbu Γ N b (exec Γ N a s):=by
 simp only [exec];cases exec Γ N a s with
 |none=>simp only [Bbu]
 |some p=>obtain⟨ax,s'⟩:=p;cases ax<;>simp only [Bbu]
theorem Bix (c:J8)(a b:AC):exec Γ N (.cond c a b) s=Axo Γ N a b s (s.opd c):=by
 simp only [exec];cases s.opd c with
 |none=>simp only [Axo]
 |some v=>cases v with
  |c d=>cases d<;>simp only [Axo]
  |_=>simp only [Axo]
theorem Bby (i:Nat)(a:AC):exec Γ N (.block i a) s=Bbv i (exec Γ N a s):=by
 simp only [exec];cases exec Γ N a s with
 |none=>simp only [Bbv]
 |some p=>obtain⟨ax,s'⟩:=p;cases ax<;>simp only [Bbv]
theorem Biy (a:AC):exec Γ N (.loop a) s=lp (exec Γ N a) N s:=by simp only [exec]
theorem Biz (ks os:List Nat)(a:AC):exec Γ N (.keep ks os a) s=exec Γ N a ⟨keep ks s.fr,keep os s.ob⟩:=by simp only [exec]
def Bbz (ks os:List Nat):Option (AX×St)->Option (AX×St)
 |some (.norm,s)=>some (.norm,⟨keep ks s.fr,keep os s.ob⟩)
 |r=>r
theorem Bi0 (ks os:List Nat)(s:St):Bbz ks os (some (.norm,s))=some (.norm,⟨keep ks s.fr,keep os s.ob⟩):=by simp only [Bbz]
theorem Bu7 (ks os:List Nat)(i:Nat)(s:St):Bbz ks os (some (.ex i,s))=some (.ex i,s):=by simp only [Bbz]
theorem Bou (ks os:List Nat)(s:St):Bbz ks os (some (.ret,s))=some (.ret,s):=by simp only [Bbz]
theorem Bb0 (ks os:List Nat)(a:AC):exec Γ N (.after ks os a) s=Bbz ks os (exec Γ N a s):=by
 simp only [exec];cases exec Γ N a s with
 |none=>simp only [Bbz]
 |some p=>obtain⟨ax,s'⟩:=p;cases ax<;>simp only [Bbz]
theorem Bov (d key:Nat)(a:AC):exec Γ N (.own d key a) s=Brt Γ N d key a s (get s.fr d):=by
 simp only [exec];cases get s.fr d with
 |none=>simp only [Brt]
 |some v=>cases v with
  |nil sz=>simp only [Brt];cases s.free key<;>simp only [Bbw,B68,B6p,B7d]
  |_=>simp only [Brt]
def xM5 (ks:List Nat)(s:St):Bool->Option (AX×St)
 |true=>some (.norm,⟨keep ks s.fr++ghs s.fr,s.ob⟩)
 |false=>none
theorem B11 (ks:List Nat)(s:St):xM5 ks s true=some (.norm,⟨keep ks s.fr++ghs s.fr,s.ob⟩):=by simp only [xM5]
def xM4 (ks:List Nat):Option (St×List St)->Option (AX×St)
 |some (s,rs)=>xM5 ks s (rs.all (Aln ks s))
 |none=>none
theorem Bow (ks:List Nat)(s:St)(rs:List St):xM4 ks (some (s,rs))=xM5 ks s (rs.all (Aln ks s)):=by simp only [xM4]
def xM3 (q:List I5)(es:List (Nat×Nat×List AV))(fs:List Eff)(ps:List (List Nat))(t:AI)(ks:List Nat)(s:St):Bool->Option (AX×St)
 |true=>xM4 ks (evN Γ q es fs t s ps)
 |false=>none
theorem B12 (q:List I5)(es:List (Nat×Nat×List AV))(fs:List Eff)(ps:List (List Nat))(t:AI)(ks:List Nat)(s:St):xM3 Γ q es fs ps t ks s true=xM4 ks (evN Γ q es fs t s ps):=by simp only [xM3]
def xM2 (q:List I5)(es:List (Nat×Nat×List AV))(fs:List Eff)(ps:List (List Nat))(t:AI)(ks:List Nat):Option St->Option (AX×St)
 |some s=>xM3 Γ q es fs ps t ks s (okA es s)
 |none=>none
theorem Box (q:List I5)(es:List (Nat×Nat×List AV))(fs:List Eff)(ps:List (List Nat))(t:AI)(ks:List Nat)(s:St):xM2 Γ q es fs ps t ks (some s)=xM3 Γ q es fs ps t ks s (okA es s):=by simp only [xM2]
def xM1 (q:List I5)(es:List (Nat×Nat×List AV))(fs:List Eff)(ps:List (List Nat))(t:AI)(ks:List Nat)(s:St):Bool->Option (AX×St)
 |true=>xM2 Γ q es fs ps t ks (evA es s)
 |false=>none
theorem B13 (q:List I5)(es:List (Nat×Nat×List AV))(fs:List Eff)(ps:List (List Nat))(t:AI)(ks:List Nat)(s:St):xM1 Γ q es fs ps t ks s true=xM2 Γ q es fs ps t ks (evA es s):=by simp only [xM1]
def xM0 (q:List I5)(es:List (Nat×Nat×List AV))(fs:List Eff)(ps:List (List Nat))(t:AI)(ks:List Nat):Option St->Option (AX×St)
 |some s=>xM1 Γ q es fs ps t ks s (Aak Γ s q)
 |none=>none
theorem Boy (q:List I5)(es:List (Nat×Nat×List AV))(fs:List Eff)(ps:List (List Nat))(t:AI)(ks:List Nat)(s:St):xM0 Γ q es fs ps t ks (some s)=xM1 Γ q es fs ps t ks s (Aak Γ s q):=by simp only [xM0]
theorem Bb1 (q:List I5)(es:List (Nat×Nat×List AV))(fs:List Eff)(ps:List (List Nat))(t:AI)(ks:List Nat):exec Γ N (.drawN q es fs ps t ks) s=xM0 Γ q es fs ps t ks (evq Γ q s):=by
 simp only [exec];cases evq Γ q s with
 |none=>simp only [xM0]
 |some s1=>
  simp only [xM0];cases Aak Γ s1 q with
  |false=>simp only [xM1,B6p,B7d]
  |true=>
   simp only [xM1,B68];cases evA es s1 with
   |none=>simp only [xM2]
   |some s2=>
    simp only [xM2];cases okA es s2 with
    |false=>simp only [xM3,B6p,B7d]
    |true=>
     simp only [xM3,B68];cases evN Γ q es fs t s2 ps with
     |none=>simp only [xM4]
     |some p=>
      obtain⟨s3,rs⟩:=p;simp only [xM4];cases rs.all (Aln ks s3)with
      |true=>simp only [xM5,B68]
      |false=>simp only [xM5,B6p,B7d]
def xV3 (s4:St):Option (St×List St)->Option (St×List St)
 |some (s5,r)=>some (s4,s5::r)
 |none=>none
theorem Boz (s4 s5:St)(r:List St):xV3 s4 (some (s5,r))=some (s4,s5::r):=by simp only [xV3]
def xV2 (q:List I5)(es:List (Nat×Nat×List AV))(fs:List Eff)(t:AI)(s:St):List (List Nat)->Option St->Option (St×List St)
 |_,none=>none
 |[],some s4=>some (s4,[])
 |p::ps,some s4=>xV3 s4 (evN Γ q es fs t s (p::ps))
theorem Bu8 (q:List I5)(es:List (Nat×Nat×List AV))(fs:List Eff)(t:AI)(s s4:St):xV2 Γ q es fs t s [] (some s4)=some (s4,[]):=by simp only [xV2]
theorem Bo0 (q:List I5)(es:List (Nat×Nat×List AV))(fs:List Eff)(t:AI)(s s4:St)(p:List Nat)(ps:List (List Nat)):xV2 Γ q es fs t s (p::ps) (some s4)=xV3 s4 (evN Γ q es fs t s (p::ps)):=by simp only [xV2]
def xV1 (q:List I5)(es:List (Nat×Nat×List AV))(fs:List Eff)(t:AI)(s:St)(ps:List (List Nat)):Option St->Option (St×List St)
 |some s3=>xV2 Γ q es fs t s ps (ev Γ t s3)
 |none=>none
theorem Bo1 (q:List I5)(es:List (Nat×Nat×List AV))(fs:List Eff)(t:AI)(s s3:St)(ps:List (List Nat)):xV1 Γ q es fs t s ps (some s3)=xV2 Γ q es fs t s ps (ev Γ t s3):=by simp only [xV1]
theorem Bu9 (q:List I5)(es:List (Nat×Nat×List AV))(fs:List Eff)(t:AI)(s:St)(p:List Nat)(ps:List (List Nat)):evN Γ q es fs t s (p::ps)=xV1 Γ q es fs t s ps (evF Γ q es (T6 fs p) s):=by
 rw [evN.eq_2];cases evF Γ q es (T6 fs p) s with
 |none=>simp only [xV1]
 |some s3=>
  simp only [xV1];cases ev Γ t s3 with
  |none=>cases ps<;>simp only [xV2]
  |some s4=>
   cases ps with
   |nil=>simp only [xV2]
   |cons p2 ps2=>
    simp only [xV2];cases evN Γ q es fs t s (p2::ps2)with
    |none=>simp only [xV3]
    |some r=>obtain⟨s5,r⟩:=r;simp only [xV3]
theorem Bi1 (q:List I5)(es:List (Nat×Nat×List AV))(fs:List Eff)(t:AI):exec Γ N (.draw q es fs t) s=xD1 Γ q es fs t (evq Γ q s):=by
 simp only [exec];cases evq Γ q s with
 |none=>simp only [xD1]
 |some s1=>
  simp only [xD1];cases Aak Γ s1 q with
  |false=>simp only [xD0,B6p,B7d]
  |true=>
   simp only [xD0,B68];cases evA es s1 with
   |none=>simp only [xD2]
   |some s2=>
    simp only [xD2];cases okA es s2 with
    |false=>simp only [xD3,B6p,B7d]
    |true=>
     simp only [xD3,B68];cases evF Γ q es fs s2 with
     |none=>simp only [xD4]
     |some s3=>simp only [xD4];cases ev Γ t s3<;>simp only [A2b,Option.map]
def kOp (d:Option Nat)(r:AI):Option (AV×St)->Option St
 |some (v,s)=>ev Γ r (s.put d v)
 |none=>none
theorem Bo2 (d:Option Nat)(r:AI)(v:AV)(s:St):kOp Γ d r (some (v,s))=ev Γ r (s.put d v):=by simp only [kOp]
theorem Bva :ev Γ .done s=some s:=by simp only [ev]
theorem B15 (d:Option Nat)(a:Act)(r:AI):ev Γ (.op d a r) s=kOp Γ d r (act Γ s a):=by
 grind [ev,act,kOp]
def Bvb (d:Nat)(r:AI)(s:St):Option AV->Option St
 |some v=>ev Γ r (s.put (some d) v)
 |none=>none
def Bru (d:Nat)(x:J8)(r:AI):Option St->Option St
 |some s=>Bvb Γ d r s (s.opd x)
 |none=>none
def kSc (d:Nat)(want:Bool)(sub:AI)(x:J8)(r:AI)(s:St):Option AV->Option St
 |some (.c (.bool b))=>if b=want then Bru Γ d x r (ev Γ sub s)else ev Γ r ((s.drop sub).put (some d) (.c (.bool b)))
 |_=>none
theorem Bi2 (d:Nat)(r:AI)(s:St)(v:AV):Bvb Γ d r s (some v)=ev Γ r (s.put (some d) v):=by simp only [Bvb]
theorem Bi3 (d:Nat)(x:J8)(r:AI)(s:St):Bru Γ d x r (some s)=Bvb Γ d r s (s.opd x):=by simp only [Bru]
theorem Bzi (d:Nat)(sub:AI)(x:J8)(r:AI)(s:St):kSc Γ d true sub x r s (some (.c (.bool true)))=Bru Γ d x r (ev Γ sub s):=by simp only [kSc,B68]
theorem Bzj (d:Nat)(sub:AI)(x:J8)(r:AI)(s:St):kSc Γ d false sub x r s (some (.c (.bool false)))=Bru Γ d x r (ev Γ sub s):=by simp only [kSc,B68]
theorem Bzk (d:Nat)(sub:AI)(x:J8)(r:AI)(s:St):kSc Γ d true sub x r s (some (.c (.bool false)))=ev Γ r ((s.drop sub).put (some d) (.c (.bool false))):=by simp only [kSc,B6p,B7d]
theorem Bzl (d:Nat)(sub:AI)(x:J8)(r:AI)(s:St):kSc Γ d false sub x r s (some (.c (.bool true)))=ev Γ r ((s.drop sub).put (some d) (.c (.bool true))):=by simp only [kSc,reduceCtorEq,B7d]
theorem B16 (d:Nat)(c:J8)(want:Bool)(sub:AI)(x:J8)(r:AI):ev Γ (.sc d c want sub x r) s=kSc Γ d want sub x r s (s.opd c):=by
 rw [ev];cases s.opd c with
 |none=>simp only [kSc]
 |some v=>cases v with
  |c e=>cases e with
   |bool b=>
    grind [kSc,ev,Bru,Bvb]
   |_=>simp only [kSc]
  |_=>simp only [kSc]
def Aty (d:Nat)(want:Bool)(sub:AI)(r:AI)(s:St)(b:Bool):Option AV->Option St
 |some (.c (.bool y))=>ev Γ r ((s.drop sub).put (some d) (.c (.bool (if want then b&&y else b||y))))
 |_=>none
def A61 (d:Nat)(want:Bool)(sub:AI)(x:J8)(r:AI)(s:St)(b:Bool):Option St->Option St
 |some s'=>Aty Γ d want sub r s b (s'.opd x)
 |none=>none
def Bmu (d:Nat)(want:Bool)(sub:AI)(x:J8)(r:AI)(s:St):Option AV->Option St
 |some (.c (.bool b))=>A61 Γ d want sub x r s b (ev Γ sub s)
 |_=>none
theorem Bvc (d:Nat)(sub:AI)(r:AI)(s:St)(b y:Bool):Aty Γ d true sub r s b (some (.c (.bool y)))=ev Γ r ((s.drop sub).put (some d) (.c (.bool (b&&y)))):=by simp only [Aty,B68]
theorem Bvd (d:Nat)(sub:AI)(r:AI)(s:St)(b y:Bool):Aty Γ d false sub r s b (some (.c (.bool y)))=ev Γ r ((s.drop sub).put (some d) (.c (.bool (b||y)))):=by simp only [Aty,B6p,B7d]
theorem Bb2 (d:Nat)(want:Bool)(sub:AI)(x:J8)(r:AI)(s s':St)(b:Bool):A61 Γ d want sub x r s b (some s')=Aty Γ d want sub r s b (s'.opd x):=by simp only [A61]
theorem Bi4 (d:Nat)(want:Bool)(sub:AI)(x:J8)(r:AI)(s:St)(b:Bool):Bmu Γ d want sub x r s (some (.c (.bool b)))=A61 Γ d want sub x r s b (ev Γ sub s):=by simp only [Bmu]
theorem Bzm (d:Nat)(c:J8)(want:Bool)(sub:AI)(x:J8)(r:AI):ev Γ (.scs d c want sub x r) s=Bmu Γ d want sub x r s (s.opd c):=by
 rw [ev];cases s.opd c with
 |none=>simp only [Bmu]
 |some v=>cases v with
  |c e=>cases e with
   |bool b=>
    simp only [Bmu];cases ev Γ sub s with
    |none=>simp only [A61]
    |some s'=>
     simp only [A61];cases s'.opd x with
     |none=>simp only [Aty]
     |some y=>cases y with
      |c e=>cases e<;>simp only [Aty]
      |_=>simp only [Aty]
   |_=>simp only [Bmu]
  |_=>simp only [Bmu]
def kQ2 (d:Option Nat)(r:List I5)(s:St)(v:AV):Bool->Option St
 |true=>evq Γ r (s.put d v)
 |false=>none
def kQ (d:Option Nat)(r:List I5)(s:St):Option (AV×St)->Option St
 |some (v,s')=>kQ2 Γ d r s v (decide (s'.ob.length=s.ob.length))
 |none=>none
def kG (d:Option Nat)(a:Act)(r:List I5)(s:St):Option Bool->Option St
 |some true=>kQ Γ d r s (act Γ s a)
 |some false=>evq Γ r (s.put d (.tup []))
 |none=>none
def kQ0 (d:Option Nat)(a:Act)(g:Option (Nat×Bool))(r:List I5)(s:St):Bool->Option St
 |true=>kG Γ d a r s (met s g)
 |false=>evq Γ r s
theorem B17 (d:Option Nat)(r:List I5)(s:St)(v:AV):kQ2 Γ d r s v true=evq Γ r (s.put d v):=by simp only [kQ2]
theorem Bve (d:Option Nat)(r:List I5)(s s':St)(v:AV):kQ Γ d r s (some (v,s'))=kQ2 Γ d r s v (decide (s'.ob.length=s.ob.length)):=by simp only [kQ]
theorem B40 (d:Option Nat)(a:Act)(r:List I5)(s:St):kG Γ d a r s (some true)=kQ Γ d r s (act Γ s a):=by simp only [kG]
theorem B41 (d:Option Nat)(a:Act)(r:List I5)(s:St):kG Γ d a r s (some false)=evq Γ r (s.put d (.tup [])):=by simp only [kG]
theorem B18 (d:Option Nat)(a:Act)(g:Option (Nat×Bool))(r:List I5)(s:St):kQ0 Γ d a g r s true=kG Γ d a r s (met s g):=by simp only [kQ0]
theorem B19 (d:Option Nat)(a:Act)(g:Option (Nat×Bool))(r:List I5)(s:St):kQ0 Γ d a g r s false=evq Γ r s:=by simp only [kQ0]
theorem Bvf :evq Γ [] s=some s:=by simp only [evq]
theorem Bo3 (d:Option Nat)(a:Act)(g:Option (Nat×Bool))(r:List I5):evq Γ (⟨d,a,g⟩::r) s=kQ0 Γ d a g r s a.quq:=by
 simp only [evq];cases a.quq with
 |false=>simp only [kQ0]
 |true=>
  simp only [kQ0];cases met s g with
  |none=>simp only [kG]
  |some b=>cases b with
   |false=>simp only [kG]
   |true=>
    simp only [kG];cases act Γ s a with
    |none=>simp only [kQ]
    |some p=>
     grind [kQ,kQ2]
def kF3 (q:List I5)(es:List (Nat×Nat×List AV))(r:List Eff)(s:St):Bool->Option St
 |true=>evF Γ q es r s
 |false=>none
def kF2 (q:List I5)(es:List (Nat×Nat×List AV))(k:Nat)(d:Option Nat)(A:Act)(ls:List Nat)(r:List Eff)(s:St):Option (AV×St)->Option St
 |some (v,s')=>kF3 Γ q es r (s'.put d v) (Aqf es s k A ls (s'.put d v))
 |none=>none
def kN2 (q:List I5)(es:List (Nat×Nat×List AV))(g:Bool)(d:Option Nat)(ls:List Nat)(r:List Eff):Option (AV×St)->Option St
 |some (v,s')=>kF3 Γ q es r (s'.put d v) (es.isEmpty&&g&&Adh Γ q (s'.put d v) ls)
 |none=>none
def kG1 (q:List I5)(es:List (Nat×Nat×List AV))(d:Option Nat)(A:Act)(ls:List Nat)(r:List Eff)(s:St):Option Bool->Option St
 |some true=>kN2 Γ q es true d ls r (act Γ s A)
 |some false=>kN2 Γ q es true d ls r (some (.tup [],s))
 |none=>none
def kG0 (q:List I5)(es:List (Nat×Nat×List AV))(j:Nat)(d:Option Nat)(A:Act)(ls:List Nat)(r:List Eff)(s:St):Bool->Option St
 |true=>kG1 Γ q es d A ls r s (A50 q s j)
 |false=>none
def kF (q:List I5)(es:List (Nat×Nat×List AV))(j:Nat)(d:Option Nat)(A:Act)(ls:List Nat)(r:List Eff)(s:St):Option Nat->Option St
 |some k=>kF2 Γ q es k d A ls r s (act Γ s A)
 |none=>kG0 Γ q es j d A ls r s A.gen
def kM (s:St):Option I5->Option Bool
 |some x=>met s x.g
 |none=>none
theorem Bvg (s:St)(x:I5):kM s (some x)=met s x.g:=by simp only [kM]
theorem Bvh (q:List I5)(s:St)(j:Nat):A50 q s j=kM s q[j]? :=by unfold A50 kM;cases q[j]? <;>rfl
theorem B2a (q:List I5)(es:List (Nat×Nat×List AV))(d:Option Nat)(A:Act)(ls:List Nat)(r:List Eff)(s:St):kG1 Γ q es d A ls r s (some true)=kN2 Γ q es true d ls r (act Γ s A):=by simp only [kG1]
theorem B2b (q:List I5)(es:List (Nat×Nat×List AV))(d:Option Nat)(A:Act)(ls:List Nat)(r:List Eff)(s:St):kG1 Γ q es d A ls r s (some false)=kN2 Γ q es true d ls r (some (.tup [],s)):=by simp only [kG1]
theorem B2c (q:List I5)(es:List (Nat×Nat×List AV))(j:Nat)(d:Option Nat)(A:Act)(ls:List Nat)(r:List Eff)(s:St):kG0 Γ q es j d A ls r s true=kG1 Γ q es d A ls r s (A50 q s j):=by simp only [kG0]
theorem B2d (q:List I5)(es:List (Nat×Nat×List AV))(r:List Eff)(s:St):kF3 Γ q es r s true=evF Γ q es r s:=by simp only [kF3]
theorem Bo4 (q:List I5)(es:List (Nat×Nat×List AV))(k:Nat)(d:Option Nat)(A:Act)(ls:List Nat)(r:List Eff)(s s':St)(v:AV):kF2 Γ q es k d A ls r s (some (v,s'))=kF3 Γ q es r (s'.put d v) (Aqf es s k A ls (s'.put d v)):=by simp only [kF2]
theorem Bo5 (q:List I5)(d:Option Nat)(ls:List Nat)(r:List Eff)(s':St)(v:AV):kN2 Γ q [] true d ls r (some (v,s'))=kF3 Γ q [] r (s'.put d v) (Adh Γ q (s'.put d v) ls):=by simp only [kN2,List.isEmpty,B9m]
theorem Bvi (q:List I5)(es:List (Nat×Nat×List AV))(k j:Nat)(d:Option Nat)(A:Act)(ls:List Nat)(r:List Eff)(s:St):kF Γ q es j d A ls r s (some k)=kF2 Γ q es k d A ls r s (act Γ s A):=by simp only [kF]
theorem Bvj (q:List I5)(es:List (Nat×Nat×List AV))(j:Nat)(d:Option Nat)(A:Act)(ls:List Nat)(r:List Eff)(s:St):kF Γ q es j d A ls r s none=kG0 Γ q es j d A ls r s A.gen:=by simp only [kF]
theorem Bvk (q:List I5)(es:List (Nat×Nat×List AV)):evF Γ q es [] s=some s:=by simp only [evF]
theorem Bo6 (q:List I5)(es:List (Nat×Nat×List AV))(j:Nat)(d:Option Nat)(A:Act)(ls anc:List Nat)(r:List Eff):evF Γ q es ((j,d,A,ls,anc)::r) s=kF Γ q es j d A ls r s (Ab5 s A):=by
 simp only [evF];cases hk:Ab5 s A with
 |none=>
  grind [kF,Awk,kG0,A50,kG1,kN2,Adh,kF3,act]
 |some k=>
  simp only [kF];cases act Γ s A with
  |none=>simp only [kF2]
  |some p=>
   grind [kF2,Aqf,kF3]
def xL3 (v:AV):Option AV->Bool
 |some u=>eqV u v
 |none=>false
def xL2 (t:St)(v:AV):Option Nat->Bool
 |some i=>xL3 v (get t.fr i)
 |none=>true
theorem Bo7 (v u:AV):xL3 v (some u)=eqV u v:=by simp only [xL3]
theorem Bo8 (t:St)(v:AV)(i:Nat):xL2 t v (some i)=xL3 v (get t.fr i):=by simp only [xL2]
theorem Bo9 (t:St)(v:AV):xL2 t v none=true:=by simp only [xL2]
theorem Bpa (t t':St)(d:Option Nat)(v:AV):okL t d (some (v,t'))=(decide (t'.ob.length=t.ob.length)&&xL2 t v d):=by
 simp only [okL];cases d with
 |none=>simp only [xL2]
 |some i=>simp only [xL2];cases get t.fr i<;>simp only [xL3]
theorem Bzn (t:St)(d:Option Nat)(A:Act):Ba8 Γ t d A (some true)=okL t d (act Γ t A):=by simp only [Ba8]
theorem Bzo (t:St)(d:Option Nat)(A:Act):Ba8 Γ t d A (some false)=true:=by simp only [Ba8]
theorem Bb3 (t:St)(d:Option Nat)(A:Act)(g:Option (Nat×Bool)):Ajk Γ t (some ⟨d,A,g⟩)=Ba8 Γ t d A (met t g):=by simp only [Ajk]
theorem Bi5 (q:List I5)(t:St):Adh Γ q t []=true:=by simp only [Adh]
theorem Bb4 (q:List I5)(t:St)(j:Nat)(ls:List Nat):Adh Γ q t (j::ls)=(Ajk Γ t q[j]? &&Adh Γ q t ls):=by simp only [Adh]
def Axq (s:St):Option (List AV)->Option (List AV)
 |some rs=>(s.frzs rs).map (·.1)
 |none=>none
def Bb5 (rs:List Rs):Option (AX×St)->Option (List AV)
 |some (.norm,s)=>Axq s (s.slots rs)
 |some (.ret,s)=>Axq s (s.slots rs)
 |_=>none
theorem Bb6 (s:St)(rs:List AV):Axq s (some rs)=(s.frzs rs).map (·.1):=by simp only [Axq]
theorem Bi6 (rs:List Rs)(s:St):Bb5 rs (some (.norm,s))=Axq s (s.slots rs):=by simp only [Bb5]
theorem Bpb (rs:List Rs)(s:St):Bb5 rs (some (.ret,s))=Axq s (s.slots rs):=by simp only [Bb5]
theorem Bzp (c:AC)(rs:List Rs)(fi:Nat×Nat×List Nat)(vs:List AV):run Γ N ⟨c,rs,fi⟩ vs=Bb5 rs (exec Γ N c ⟨args 0 vs,[]⟩):=by
 simp only [run];cases exec Γ N c ⟨args 0 vs,[]⟩with
 |none=>simp only [Bb5]
 |some p=>
  obtain⟨ax,s⟩:=p;cases ax with
  |norm=>simp only [Bb5];cases s.slots rs<;>simp only [Axq]
  |ret=>simp only [Bb5];cases s.slots rs<;>simp only [Axq]
  |ex i=>simp only [Bb5]
theorem Bi7 {k:IntKind}{n:Int}(h:0<=n):Adg (.c (.int k n))=some n.toNat:=by simp only [Adg,h,B68]
theorem B2e {p:Prop} [Decidable p](h:p):decide p=true:=B8f h
theorem B2f {p:Prop} [Decidable p](h:¬p):decide p=false:=B7y h
theorem Bpc {k:IntKind}{x y:Int}:Af7 .eql k x y=some (.bool (decide (x=y))):=by simp only [Af7,Bfs,Option.map]
theorem Bpd {k:IntKind}{x y:Int}:Af7 .neq k x y=some (.bool (!decide (x=y))):=by simp only [Af7,Bfs,Option.map]
theorem Bpe {k:IntKind}{x y:Int}:Af7 .lss k x y=some (.bool (decide (x<y))):=by simp only [Af7,Bfs,Option.map]
theorem Bpf {k:IntKind}{x y:Int}:Af7 .leq k x y=some (.bool (decide (x<=y))):=by simp only [Af7,Bfs,Option.map]
theorem Bpg {k:IntKind}{x y:Int}:Af7 .gtr k x y=some (.bool (decide (y<x))):=by simp only [Af7,Bfs,Option.map]
theorem Bph {k:IntKind}{x y:Int}:Af7 .geq k x y=some (.bool (decide (y<=x))):=by simp only [Af7,Bfs,Option.map]
theorem Bpi {x y:List UInt8}(h:x.length+y.length<=Bea):A5z .add x y=some (.str (x++y)):=by simp only [A5z,h,B68]
theorem Bzq {n bytes:Nat}(h:n*bytes<=140737488355328):A2m n bytes=true:=by simp only [A2m,h,decide_true]
theorem A4j (n:Nat)(r:List AV)(d:List D)(h:Agx r=some d):F7 (List.replicate n r)=some (List.replicate n d):=by
 induction n with
 |zero=>rfl
 |succ n ih=>simp only [List.replicate_succ,F7,h,ih]
theorem Az3 (n:Nat)(d:D):F7 (List.replicate n [AV.c d])=some (List.replicate n [d]):=A4j n _ _ rfl
theorem Bvl {k:IntKind}{x y:Int}(h:0<y):Af7 .quo k x y=some (.int k (Ac0 k (Bl1 x y))):=by simp only [Af7];rw [B6j (by omega)]
theorem Bvm {k:IntKind}{x y:Int}(h:0<y):Af7 .rem k x y=some (.int k (Bl2 x y)):=by simp only [Af7];rw [B6j (by omega)]
end
theorem Aa6 (k:Nat)(d:D):AV.names k (.c d)=false:=rfl
theorem Bi8 (k:Nat)(d:List D):AV.names k (.agg d)=false:=rfl
theorem Alz (k sz:Nat):AV.names k (.nil sz)=false:=rfl
theorem Bpj (k o:Nat)(r:List D):AV.names k (.vp r o)=false:=rfl
theorem Bpk (k:Nat)(x:Oth):AV.names k (.ot x)=false:=rfl
theorem Bi9 (k:Nat)(r:List AV):AV.names k (.tup r)=r.any (AV.names1 k):=rfl
theorem A3h (k:Nat)(r:List AV):AV.names k (.ags r)=r.any (AV.names1 k):=rfl
theorem Bja (k g:Nat)(r:List AV):AV.names k (.clo g r)=r.any (AV.names1 k):=rfl
theorem X5 (k j a b c:Nat):AV.names k (.sl j a b c)=(j==k):=rfl
theorem K2 (k j a b:Nat):AV.names k (.loc j a b)=(j==k):=rfl
theorem Aza (k j:Nat):AV.names k (.mp j)=(j==k):=rfl
theorem Bjb (k j:Nat):AV.names k (.itr j)=(j==k):=rfl
theorem Bpl (k:Nat)(d:D):AV.names1 k (.c d)=false:=rfl
theorem Bb7 (k:Nat)(d:List D):AV.names1 k (.agg d)=false:=rfl
theorem Bb8 (k sz:Nat):AV.names1 k (.nil sz)=false:=rfl
theorem Bjc (k o:Nat)(r:List D):AV.names1 k (.vp r o)=false:=rfl
theorem Bjd (k:Nat)(x:Oth):AV.names1 k (.ot x)=false:=rfl
theorem Bje (k j a b c:Nat):AV.names1 k (.sl j a b c)=(j==k):=rfl
theorem Bb9 (k j a b:Nat):AV.names1 k (.loc j a b)=(j==k):=rfl
theorem Bjf (k j:Nat):AV.names1 k (.mp j)=(j==k):=rfl
theorem Bca (k j:Nat):AV.names1 k (.itr j)=(j==k):=rfl
theorem Bgj (k:Nat)(d:D):AV.isLoc k (.c d)=false:=rfl
theorem Bjg (k:Nat)(d:List D):AV.isLoc k (.agg d)=false:=rfl
theorem Bjh (k sz:Nat):AV.isLoc k (.nil sz)=false:=rfl
theorem Bpm (k o:Nat)(r:List D):AV.isLoc k (.vp r o)=false:=rfl
theorem Bpn (k:Nat)(x:Oth):AV.isLoc k (.ot x)=false:=rfl
theorem Bji (k:Nat)(r:List AV):AV.isLoc k (.tup r)=r.any (AV.isLoc1 k):=rfl
theorem Bjj (k:Nat)(r:List AV):AV.isLoc k (.ags r)=r.any (AV.isLoc1 k):=rfl
theorem Bjk (k g:Nat)(r:List AV):AV.isLoc k (.clo g r)=r.any (AV.isLoc1 k):=rfl
theorem Bpo (k j a b c:Nat):AV.isLoc k (.sl j a b c)=false:=rfl
theorem Bjl (k j a b:Nat):AV.isLoc k (.loc j a b)=(j==k):=rfl
theorem Bpp (k j:Nat):AV.isLoc k (.mp j)=false:=rfl
theorem Bjm (k j:Nat):AV.isLoc k (.itr j)=false:=rfl
theorem Bpq (k:Nat)(d:D):AV.isLoc1 k (.c d)=false:=rfl
theorem Bcb (k:Nat)(d:List D):AV.isLoc1 k (.agg d)=false:=rfl
theorem Bcc (k sz:Nat):AV.isLoc1 k (.nil sz)=false:=rfl
theorem Bjn (k o:Nat)(r:List D):AV.isLoc1 k (.vp r o)=false:=rfl
theorem Bjo (k:Nat)(x:Oth):AV.isLoc1 k (.ot x)=false:=rfl
theorem Bjp (k j a b c:Nat):AV.isLoc1 k (.sl j a b c)=false:=rfl
theorem Bcd (k j a b:Nat):AV.isLoc1 k (.loc j a b)=(j==k):=rfl
theorem Bjq (k j:Nat):AV.isLoc1 k (.mp j)=false:=rfl
theorem Bce (k j:Nat):AV.isLoc1 k (.itr j)=false:=rfl
def K4 (k:Nat):FL->Bool
 |[]=>true
 |(_,v)::r=> !v.names k&&K4 k r
def A2c (d k:Nat):FL->Bool
 |[]=>true
 |(i,v)::r=>(i==d|| !v.names k)&&A2c d k r
def M0 (k:Nat):List AV->Bool
 |[]=>true
 |v::r=> !v.names k&&M0 k r
def B5 (k:Nat):List (List AV)->Bool
 |[]=>true
 |v::r=>M0 k v&&B5 k r
def B8 (k:Nat):OL->Bool
 |[]=>true
 |(_,o)::r=>B5 k o.rows&&B8 k r
def Bmv (k:Nat):FL->Bool
 |[]=>true
 |(_,v)::r=> !v.isLoc k&&Bmv k r
def Al0 (k:Nat):List AV->Bool
 |[]=>true
 |v::r=> !v.isLoc k&&Al0 k r
def P0 (k:Nat):List (List AV)->Bool
 |[]=>true
 |v::r=>Al0 k v&&P0 k r
def Bmw (k:Nat):OL->Bool
 |[]=>true
 |(_,o)::r=>P0 k o.rows&&Bmw k r
theorem Aqp (k:Nat)(l:FL):(l.all λ p=> !p.2.names k)=K4 k l:=by
 induction l with
 |nil=>rfl
 |cons p l ih=>obtain⟨i,v⟩:=p;simp only [B7r,K4,ih]
theorem Bjr (d k:Nat)(l:FL):(l.all λ p=>p.1==d|| !p.2.names k)=A2c d k l:=by
 induction l with
 |nil=>rfl
 |cons p l ih=>obtain⟨i,v⟩:=p;simp only [B7r,A2c,ih]
theorem Bjs (k:Nat)(l:List AV):(l.all λ v=> !v.names k)=M0 k l:=by
 induction l with
 |nil=>rfl
 |cons p l ih=>simp only [B7r,M0,ih]
theorem Bcf (k:Nat)(l:List (List AV)):(l.all λ r=>r.all λ v=> !v.names k)=B5 k l:=by
 induction l with
 |nil=>rfl
 |cons p l ih=>rw [B7r,ih,Bjs];rfl
theorem Ak5 (k:Nat)(l:OL):(l.all λ p=>p.2.rows.all λ r=>r.all λ v=> !v.names k)=B8 k l:=by
 induction l with
 |nil=>rfl
 |cons p l ih=>obtain⟨i,o⟩:=p;rw [B7r,ih,Bcf];rfl
theorem Bpr (k:Nat)(l:FL):(l.all λ p=> !p.2.isLoc k)=Bmv k l:=by
 induction l with
 |nil=>rfl
 |cons p l ih=>obtain⟨i,v⟩:=p;simp only [B7r,Bmv,ih]
theorem Bjt (k:Nat)(l:List AV):(l.all λ v=> !v.isLoc k)=Al0 k l:=by
 induction l with
 |nil=>rfl
 |cons p l ih=>simp only [B7r,Al0,ih]
theorem Bcg (k:Nat)(l:List (List AV)):(l.all λ r=>r.all λ v=> !v.isLoc k)=P0 k l:=by
 induction l with
 |nil=>rfl
 |cons p l ih=>rw [B7r,ih,Bjt];rfl
theorem Bps (k:Nat)(l:OL):(l.all λ p=>p.2.rows.all λ r=>r.all λ v=> !v.isLoc k)=Bmw k l:=by
 induction l with
 |nil=>rfl
 |cons p l ih=>obtain⟨i,o⟩:=p;rw [B7r,ih,Bcg];rfl
theorem Bvn (s:St)(k:Nat):s.free k=(K4 k s.fr&&B8 k (del s.ob k)):=by simp only [St.free,Aqp,Ak5]
theorem Bpt (s:St)(k:Nat):s.noLoc k=(Bmv k s.fr&&Bmw k s.ob):=by simp only [St.noLoc,Bpr,Bps]
theorem Bvo (s:St):okA [] s=true:=by simp only [okA]
theorem Bpu (k d:Nat)(cs:List AV)(r:List (Nat×Nat×List AV))(s:St):okA ((k,d,cs)::r) s=(A2c d k s.fr&&B8 k s.ob&&okA r s):=by simp only [okA,Bjr,Ak5]
def A62 (k:Nat):Option AV->Bool
 |some v=> !v.names k
 |none=>true
def Bmc (s:St)(k:Nat):List Nat->Bool
 |[]=>true
 |i::r=>A62 k (get s.fr i)&&Bmc s k r
theorem Bch (k:Nat)(v:AV):A62 k (some v)= !v.names k:=by simp only [A62]
theorem Bci (k:Nat):A62 k none=true:=by simp only [A62]
def Brv (A:Act):Option (Nat×List AV)->Bool
 |some (d,_)=>(N1 A.xs).contains d
 |none=>true
theorem Bju (A:Act):Brv A none=true:=by simp only [Brv]
theorem Bjv (A:Act)(d:Nat)(cs:List AV):Brv A (some (d,cs))=(N1 A.xs).contains d:=by simp only [Brv]
theorem Bzr {a b c a' b' c':Bool}(h1:a=a')(h2:b=b')(h3:c=c'):(a&&b&&c)=(a'&&b'&&c'):=by rw [h1,h2,h3]
theorem Bpv (es:List (Nat×Nat×List AV))(s:St)(k:Nat)(A:Act)(ls:List Nat)(s':St):Aqf es s k A ls s'=(Bmc s k ls&&Brv A (get es k)&&okA es s'):=by
 unfold Aqf;refine Bzr ?_ ?_ rfl
 ·induction ls with
  |nil=>rfl
  |cons i ls ih=>
   rw [B7r,ih];simp only [Bmc];cases get s.fr i<;>simp only [A62]
 ·cases get es k<;>simp only [Brv]
theorem Axr (k:Nat)(r:List D):M0 k (A4 r)=true:=by
 simp only [A4]
 induction r with
 |nil=>rfl
 |cons d r ih=>simp only [B6v,M0,Aa6,ih,B8s,B64]
theorem Axs (k:Nat)(r:List D):Al0 k (A4 r)=true:=by
 simp only [A4]
 induction r with
 |nil=>rfl
 |cons d r ih=>simp only [B6v,Al0,Bgj,ih,B8s,B64]
theorem Atk (k:Nat)(r:List (List D)):B5 k (r.map A4)=true:=by
 induction r with
 |nil=>rfl
 |cons d r ih=>simp only [B6v,B5,Axr,ih,B64]
theorem Atl (k:Nat)(r:List (List D)):P0 k (r.map A4)=true:=by
 induction r with
 |nil=>rfl
 |cons d r ih=>simp only [B6v,P0,Axs,ih,B64]
theorem L6 {α:Type}(k:Nat)(f:α->List D)(l:List α):B5 k (l.map (A4∘f))=true:=by rw [<-B8c,Atk]
theorem J4 {α:Type}(k:Nat)(f:α->List D)(l:List α):P0 k (l.map (A4∘f))=true:=by rw [<-B8c,Atl]
theorem Af0 (k:Nat)(a b:List (List AV)):B5 k (a++b)=(B5 k a&&B5 k b):=by
 induction a with
 |nil=>simp [B5]
 |cons x a ih=>simp only [B7i,B5,ih,Bool.and_assoc]
theorem Az4 (k:Nat)(a b:List (List AV)):P0 k (a++b)=(P0 k a&&P0 k b):=by
 induction a with
 |nil=>simp [P0]
 |cons x a ih=>simp only [B7i,P0,ih,Bool.and_assoc]
attribute [simp] Axr Axs Atk Atl L6 J4 Af0 Az4
attribute [simp] Bpk A3h Bja Aza Bjb Bpl Bb7 Bb8 Bjc Bjd Bje Bb9 Bjf Bca Bpn Bjj Bjk Bpp Bjm Bpq Bcb Bcc Bjn Bjo Bjp Bcd Bjq Bce Aa6 Bi8 Alz Bpj Bi9 X5 K2 Bgj Bjg Bjh Bpm Bji Bpo Bjl K4 A2c M0 B5 B8 Bmv Al0 P0 Bmw Bvn Bpt Bvo Bpu Bch Bci Bmc Bju Bjv Bpv
section
variable (Γ : H6) (N : Nat) {s : St}
theorem Aol (ks:List Nat)(lo hi:Nat)(os:List Nat)(a:AC):exec Γ N (.keepP ks lo hi os a) s=exec Γ N a ⟨keep ks s.fr++ghs s.fr,A1 lo hi os s.ob⟩:=by simp only [exec]
def Ams (fi:Nat×Nat×List Nat)(s:St):Option (List AV)->Option (List AV×OL)
 |some rs=>some (rs,A1 fi.1 fi.2.1 fi.2.2 s.ob)
 |none=>none
def Atz (rs:List Rs)(fi:Nat×Nat×List Nat):Option (AX×St)->Option (List AV×OL)
 |some (.norm,s)=>Ams fi s (s.slots rs)
 |some (.ret,s)=>Ams fi s (s.slots rs)
 |_=>none
theorem A8a (lo hi:Nat)(os:List Nat)(s:St)(rs:List AV):Ams (lo,hi,os) s (some rs)=some (rs,A1 lo hi os s.ob):=by simp only [Ams]
theorem Bcj (rs:List Rs)(fi:Nat×Nat×List Nat)(s:St):Atz rs fi (some (.norm,s))=Ams fi s (s.slots rs):=by simp only [Atz]
theorem Bjw (rs:List Rs)(fi:Nat×Nat×List Nat)(s:St):Atz rs fi (some (.ret,s))=Ams fi s (s.slots rs):=by simp only [Atz]
theorem Bvp (c:AC)(rs:List Rs)(fi:Nat×Nat×List Nat)(s:St):H9 Γ N ⟨c,rs,fi⟩ s=Atz rs fi (exec Γ N c s):=by
 simp only [H9];cases exec Γ N c s with
 |none=>simp only [Atz]
 |some p=>
  obtain⟨ax,s⟩:=p;cases ax with
  |norm=>simp only [Atz];cases s.slots rs<;>simp only [Ams,Option.map]
  |ret=>simp only [Atz];cases s.slots rs<;>simp only [Ams,Option.map]
  |ex i=>simp only [Atz]
end
def Gh (gs:FL):Prop:=ghs gs=gs
theorem Gh.get {gs:FL}(h:Gh gs){i:Nat}(hi:i<100000):get gs i=none:=by
 have hi:i<GB:=hi
 induction gs with
 |nil=>rfl
 |cons p r ih=>
  obtain⟨k,v⟩:=p;have hl:∀l:FL,(ghs l).length<=l.length:=λ l=>by
   induction l with
   |nil=>simp [ghs]
   |cons p r ih=>obtain⟨k,v⟩:=p;simp only [ghs];split<;>simp<;>omega
  grind [Gh,ghs,Go.Am.get]
theorem Gh.eq {gs:FL}(h:Gh gs):ghs gs=gs:=h
theorem Bzs {gs:FL}{k:Nat}{v:AV}(hk:k<100000):ghs ((k,v)::gs)=ghs gs:=by
 grind [GB,ghs]
theorem Bzt {gs:FL}{k:Nat}{v:AV}(hk:100000<=k):ghs ((k,v)::gs)=(k,v)::ghs gs:=by
 grind [GB,ghs]
theorem Brw :Gh []:=rfl
theorem Bvq {gs:FL}{k:Nat}{v:AV}(hk:100000<=k):Gh ((k,v)::gs)↔Gh gs:=by
 grind [GB,Gh,ghs]
theorem Be0 :∀gs:FL,Gh (gho gs)
 |[]=>rfl
 |(i,v)::r=>by
  have:=Be0 r;grind [Gh,gho,ghs]
theorem A3i :∀(os:List Nat)(ob:OL),A1 0 0 os ob=ob
 |os,[]=>rfl
 |os,(k,o)::r=>by
  simp only [A1];rw [B6l (.inr (.inl (by omega))),A3i os r]
theorem A6c {α:Type}:∀(l:List (Nat×α))(k:Nat),del (del l k) k=del l k
 |[],_=>rfl
 |(i,v)::r,k=>by
  simp only [del];by_cases h:i=k
  ·rw [B6l h];exact A6c r k
  ·rw [B6j h];simp only [del];rw [B6j h,A6c r k]
theorem Bvr {gs:FL}(h:Gh gs){k:Nat}(hk:k<100000):del gs k=gs:=by
 have:∀l:FL,get l k=none->del l k=l:=λ l=>by
  induction l with
  |nil=>simp [del]
  |cons p r ih=>
   grind [Go.Am.get,del]
 exact this gs (h.get hk)
def U9 (ks:List Nat)(lo hi:Nat)(os:List Nat)(s:St):St:=⟨keep ks s.fr++ghs s.fr,A1 lo hi os s.ob⟩
def Brx {α:Type}(S:α->St)(inv:α->Prop)(μ:α->Nat)(ks:List Nat)(lo hi:Nat)(os:List Nat)(R:AX->St->Prop)(q:α):Option (AX×St)->Prop
 |none=>False
 |some (.norm,s')=>∃q',U9 ks lo hi os s'=S q'/\inv q'/\μ q'<μ q
 |some (.ex i,s')=>R (.ex i) s'
 |some (.ret,s')=>R .ret s'
theorem I0 {Γ:H6}{N:Nat}{b:AC}{ks:List Nat}{lo hi:Nat}{os:List Nat}{α:Type}(S:α->St)(inv:α->Prop)(μ:α->Nat)(R:AX->St->Prop)(q:α)(M:Nat)(hq:inv q)(hM:μ q<M)
  (step:∀q,inv q->Brx S inv μ ks lo hi os R q (exec Γ N b (S q))):∃ax s',R ax s'/\∀s,U9 ks lo hi os s=S q->lp (exec Γ N (.keepP ks lo hi os b)) M s=some (ax,s'):=by
 have he:∀s,exec Γ N (.keepP ks lo hi os b) s=exec Γ N b (U9 ks lo hi os s):=λ s=>by simp only [exec,U9]
 induction M generalizing q with
 |zero=>omega
 |succ M ih=>
  have h:=step q hq;cases hx:exec Γ N b (S q)with
  |none=>rw [hx]at h;exact h.elim
  |some p=>
   obtain⟨ax,s1⟩:=p;rw [hx]at h;cases ax with
   |norm=>
    obtain⟨q',h1,h2,h3⟩:=h;grind [lp]
   |ex i=>exact⟨.ex i,s1,h,λ s hs=>by simp only [lp,he,hs,hx]⟩
   |ret=>exact⟨.ret,s1,h,λ s hs=>by simp only [lp,he,hs,hx]⟩
theorem B2g :GB=100000:=rfl
theorem Bvs :ghs []=[]:=rfl
attribute [simp] Bvs A1 Aol A8a Bcj Bjw Bvp Gh.get Gh.eq Bzs Bzt Brw Bvq Be0 A3i A6c Bvr gho Buk AV.isD U9 Brx B2g
def xLp (f:St->Option (AX×St))(n:Nat):Option (AX×St)->Option (AX×St)
 |some (.norm,s)=>lp f n s
 |r=>r
theorem Bpw (f:St->Option (AX×St))(n:Nat)(s:St):xLp f n (some (.norm,s))=lp f n s:=by simp only [xLp]
theorem Bzu (f:St->Option (AX×St))(n i:Nat)(s:St):xLp f n (some (.ex i,s))=some (.ex i,s):=by simp only [xLp]
theorem Bvt (f:St->Option (AX×St))(n:Nat)(s:St):xLp f n (some (.ret,s))=some (.ret,s):=by simp only [xLp]
theorem E8 (f:St->Option (AX×St))(n:Nat)(s:St):lp f (n+1) s=xLp f n (f s):=by
 simp only [lp];cases f s with
 |none=>simp only [xLp]
 |some p=>obtain⟨ax,s'⟩:=p;cases ax<;>simp only [xLp]
attribute [simp] Bpw Bzu Bvt
attribute [simp] B1z B4v B4w Biu Bbx Ase Bi0 Bu7 Bou Bb0 Ast Bu2 Bon Bu3 Bu4 Bit Boo Bu5 Bu6 Bop Axp Boq B10 Bor Bos Biv Bot Biw A90 Ay9 Bix Bby Biy Biz Bov Bi1 B11 Bow B12 Box B13 Boy Bb1 Boz Bu8 Bo0 Bo1 Bu9 T6 Aln Aks
attribute [simp] Bo2 Bva B15 Bi2 Bi3 Bzi Bzj Bzk Bzl B16 Bvc Bvd Bb2 Bi4 Bzm B17 Bve B40 B41 B18 B19 Bvf Bo3 B2d Bo4 Bvi Bo5 Bvj Bvg Bvh B2a B2b B2c Bvk Bo6 Act.gen Bo7 Bo8 Bo9 Bpa Bzn Bzo Bb3 Bi5 Bb4 Bb6 Bi6 Bpb Bzp Bi7 Bzq Az3 B2e B2f Bpc Bpd Bpe Bpf Bpg Bph Bvl Bvm
attribute [simp] Bol Bom Bok Bir Aly G6 G7 F7 Boj S9 Bh0 Aea Bya Byb B4s St.loadA Y2 St.view A2n St.parts AV.dcells H1 A9a O8 Aas B23 B24
attribute [simp] evA Ab5 N1 Act.xs met Act.quiet Act.isQ Act.quq act get keep A17 del E1 AI.dsts St.drop St.opd St.put St.obj St.opds St.opdO St.frz St.frzs St.slots args Brk Bx9 Af7.eq_1 Af7.eq_2 Af7.eq_3 Af7.eq_4 Af7.eq_5 Af7.eq_6 Af7.eq_7 unV A5z.eq_2 A5z.eq_3 A5z.eq_4 A5z.eq_5 A5z.eq_6 A5z.eq_7 Bpi kill AV.flat D.flat Amf B25
attribute [simp] A6u D.cell St.load A4 part Agx St.store setRow St.cellsOf St.partsA AV.one Bmb nrm Bio Boi Bis Bip Biq eqK L9 Ajj
theorem G1 :KT=18446744073709551616:=rfl
theorem U2 :MK=1461501637330902918203684832716283019655932542976:=rfl
theorem Bvu {k key:Nat}(h:k<18446744073709551616):Bms k key=true:=by
 have h:k<KT:=h;simp [Bms,h]
theorem Bjx (k:Nat):Bms k k=true:=by simp [Bms]
attribute [simp] G1 U2 Bvu Bjx An3 B1w As5 kOk Ba5 Ac4 Amg Byc Bzc
def Kf (lo hi:Nat)(ob:OL):Prop:=∀os,A1 lo hi os ob=ob
theorem Kf.eq {lo hi:Nat}{ob:OL}(h:Kf lo hi ob)(os:List Nat):A1 lo hi os ob=ob:=h os
theorem Bry (lo hi:Nat):Kf lo hi []:=λ _=>rfl
theorem Axt {lo hi k:Nat}{o:Obj}{ob:OL}(hk:k%18446744073709551616<lo\/hi<=k%18446744073709551616):Kf lo hi ((k,o)::ob)↔Kf lo hi ob:=by
 have e:∀os,A1 lo hi os ((k,o)::ob)=(k,o)::A1 lo hi os ob:=λ os=>by
  grind [KT,A1]
 constructor
 ·intro h os;have:=h os;rw [e]at this;simpa using this
 ·intro h os;rw [e,h os]
attribute [simp] Kf.eq Bry Axt
theorem Bzv (a:D):Aj0 (.c a) (.c a)=true:=by simp only [Aj0,Akx]
theorem B2i (a:D):eqV (.c a) (.c a)=true:=by simp only [eqV,Aj0,Akx]
theorem Bvv (a:List D):eqV (.agg a) (.agg a)=true:=by simp only [eqV,Aj0,Aa1]
theorem Bvw (a:Nat):eqV (.nil a) (.nil a)=true:=by simp [eqV,Aj0]
theorem Bzw (a b c d:Nat):eqV (.sl a b c d) (.sl a b c d)=true:=by simp [eqV,Aj0]
theorem Bvx (a b c:Nat):eqV (.loc a b c) (.loc a b c)=true:=by simp [eqV,Aj0]
theorem Bzx (r:List D)(o:Nat):eqV (.vp r o) (.vp r o)=true:=by simp [eqV,Aj0,Aa1]
theorem Bzy (a:Oth):eqV (.ot a) (.ot a)=true:=by simp [eqV,Aj0]
theorem Bzz (a:Nat):eqV (.mp a) (.mp a)=true:=by simp [eqV,Aj0]
theorem Bvy (a:Nat):eqV (.itr a) (.itr a)=true:=by simp [eqV,Aj0]
theorem Bvz (a:List AV):eqV (.tup a) (.tup a)=Awj a a:=by simp only [eqV]
theorem Bv0 (a:List AV):eqV (.ags a) (.ags a)=Awj a a:=by simp only [eqV]
theorem Bpx :Awj [] []=true:=rfl
theorem Bjy (a:AV)(l m:List AV):Awj (a::l) (a::m)=(Aj0 a a&&Awj l m):=by simp only [Awj]
theorem Bv1 (a b c d:Nat):Aj0 (.sl a b c d) (.sl a b c d)=true:=by simp [Aj0]
theorem Bpy (a b c:Nat):Aj0 (.loc a b c) (.loc a b c)=true:=by simp [Aj0]
theorem Bpz (a:List D):Aj0 (.agg a) (.agg a)=true:=by simp only [Aj0,Aa1]
attribute [simp] St.loadF Akx Aa1 An7 Bzx B2i Bvv Bvw Bzw Bvx Bzy Bzz Bvy Bvz Bv0 Bpx Bjy Bzv Bv1 Bpy Bpz
theorem Azb {P:Program}{nm:Nat->Option Nat}{T:Tab}:XOk P nm T Axn:=
 ⟨λ f g _ _ F w ds vs rs _ _ h=>by simp [Axn]at h,λ f g _ _=>by
  have:Axn.pt f=λ _=>none:=rfl
  rw [this];exact D9.none,λ f s rs ob R _ h=>by simp [Axn]at h⟩
section
variable (Γ : H6) (N : Nat)
def Bv2 (a:AC)(s:St):Bool->Option (AX×St)
 |true=>exec Γ N a s
 |false=>none
def xRn (key:Nat)(a:AC)(s:St):Option Obj->Option (AX×St)
 |some _=>Bv2 Γ N a (renS s key (I7 s.ob)) (Adi s key (I7 s.ob))
 |none=>exec Γ N a s
theorem Bz0 (a:AC)(s:St):Bv2 Γ N a s true=exec Γ N a s:=by simp only [Bv2]
theorem Bp0 (key:Nat)(a:AC)(s:St)(o:Obj):xRn Γ N key a s (some o)=Bv2 Γ N a (renS s key (I7 s.ob)) (Adi s key (I7 s.ob)):=by simp only [xRn]
theorem Bp1 (key:Nat)(a:AC)(s:St):xRn Γ N key a s none=exec Γ N a s:=by simp only [xRn]
def Bv3 (s:St):Bool->Option (AX×St)
 |true=>some (.norm,s)
 |false=>none
theorem Bz1 (s:St):Bv3 s true=some (.norm,s):=by simp only [Bv3]
def xRT (key:Nat)(s:St):Option Obj->Option (AX×St)
 |some _=>Bv3 (renS s key (I7 s.ob)) (Adi s key (I7 s.ob))
 |none=>some (.norm,s)
theorem Bp2 (key:Nat)(s:St)(o:Obj):xRT key s (some o)=Bv3 (renS s key (I7 s.ob)) (Adi s key (I7 s.ob)):=by simp only [xRT]
theorem Bp3 (key:Nat)(s:St):xRT key s none=some (.norm,s):=by simp only [xRT]
theorem Bv4 (key:Nat)(s:St):Bft key s=xRT key s (get s.ob key):=by
 unfold Bft;cases get s.ob key with
 |none=>simp only [xRT]
 |some o=>simp only [xRT];cases Adi s key (I7 s.ob)<;>simp only [Bv3,B68,B6p,B7d]
def xRA (key:Nat):Option (AX×St)->Option (AX×St)
 |some (.norm,s)=>Bft key s
 |r=>r
theorem Bp4 (key:Nat)(s:St):xRA key (some (.norm,s))=Bft key s:=by simp only [xRA]
theorem Bz2 (key i:Nat)(s:St):xRA key (some (.ex i,s))=some (.ex i,s):=by simp only [xRA]
theorem Bv5 (key:Nat)(s:St):xRA key (some (.ret,s))=some (.ret,s):=by simp only [xRA]
theorem Bjz (key:Nat)(a:AC)(s:St):exec Γ N (.renA key a) s=xRA key (exec Γ N a s):=by
 simp only [exec];cases exec Γ N a s with
 |none=>simp only [xRA]
 |some p=>obtain⟨ax,s'⟩:=p;cases ax<;>simp only [xRA]
def xIA (t off key:Nat):Option (AX×St)->Option (AX×St)
 |some (.norm,s)=>some (.norm,Avg t off key s)
 |r=>r
theorem Bp5 (t off key:Nat)(s:St):xIA t off key (some (.norm,s))=some (.norm,Avg t off key s):=by simp only [xIA]
theorem Bz3 (t off key i:Nat)(s:St):xIA t off key (some (.ex i,s))=some (.ex i,s):=by simp only [xIA]
theorem Bv6 (t off key:Nat)(s:St):xIA t off key (some (.ret,s))=some (.ret,s):=by simp only [xIA]
theorem Bj0 (t off key:Nat)(a:AC)(s:St):exec Γ N (.iceA t off key a) s=xIA t off key (exec Γ N a s):=by
 simp only [exec];cases exec Γ N a s with
 |none=>simp only [xIA]
 |some p=>obtain⟨ax,s'⟩:=p;cases ax<;>simp only [xIA]
theorem Bp6 (key:Nat)(a:AC)(s:St):exec Γ N (.ren key a) s=xRn Γ N key a s (get s.ob key):=by
 simp only [exec];cases get s.ob key with
 |none=>simp only [xRn]
 |some o=>
  grind [xRn,Adi,I7,Bv2]
end
theorem A3j {a b:Nat}:∀{r:List AV},M0 a r=true->r.map (AV.ren a b)=r
 |[],_=>rfl
 |v::r,h=>by
  simp only [M0,B6h,B7b]at h;rw [B6v,A60 h.1,A3j h.2]
theorem Aan {a b:Nat}:∀{r:O4},B5 a r=true->J9 a b r=r
 |[],_=>rfl
 |v::r,h=>by
  simp only [B5,B6h]at h;have:=Aan (b:=b) h.2;grind [J9,A3j]
theorem Ak6 {a b:Nat}:∀{l:FL},K4 a l=true->Ac1 a b l=l
 |[],_=>rfl
 |(i,v)::r,h=>by
  simp only [K4,B6h,B7b]at h;simp only [Ac1,A60 h.1,Ak6 h.2]
theorem Ahs {a b:Nat}:∀{l:OL},B8 a l=true->get l a=none->Ab6 a b l=l
 |[],_,_=>rfl
 |(k,o)::r,h,hg=>by
  simp only [B8,B6h]at h;simp only [get]at hg;split at hg
  ·simp at hg
  ·rename_i hk;simp only [Ab6,Y3 hk,Aan h.1,Ahs h.2 hg]
theorem A8b (a b:Nat):J9 a b []=[]:=rfl
theorem A4k (a b:Nat)(r:List AV)(l:O4):J9 a b (r::l)=r.map (AV.ren a b)::J9 a b l:=rfl
theorem A8c (a b:Nat)(l m:O4):J9 a b (l++m)=J9 a b l++J9 a b m:=by simp [J9]
theorem Bz4 (k:Nat)(l:FL):((ghs l).all λ p=> !p.2.names k)=K4 k (ghs l):=Aqp k _
theorem Bp7 (s:St)(key n:Nat):Adi s key n=(decide (n<1000000000000000000)&&(decide (key<18446744073709551616)||decide (1461501637330902918203684832716283019655932542976<=key)&&decide (key<2923003274661805836407369665432566039311865085952))&&s.free 900000000000000000&&s.free (O9 key n)&&(get s.ob (O9 key n)).isNone&&decide (key≠900000000000000000)&&K4 key (ghs s.fr)):=by
 unfold Adi;rw [Bz4];rfl
theorem Bj1 (key n:Nat):O9 key n=if key<18446744073709551616 then 1000000000000000000+n else 1461501637330902918203684832716283019655932542976+1000000000000000000+n:=rfl
theorem Bv7 (s:St)(key n:Nat):renS s key n=⟨Ac1 key (O9 key n) s.fr,(900000000000000000,⟨n+1,[]⟩)::Ab6 key (O9 key n) (del s.ob 900000000000000000)⟩:=rfl
def Bgk :Option Obj->Nat
 |some o=>o.sz
 |none=>0
theorem Bj2 (o:Obj):Bgk (some o)=o.sz:=rfl
theorem Bj3 :Bgk none=0:=rfl
theorem Ak7 (ob:OL):I7 ob=Bgk (get ob 900000000000000000):=by
 unfold I7 CK Bgk;rfl
attribute [simp] Bp5 Bz3 Bv6 Bj0 Avg Buo Bun Bum Brl Bz1 Bp2 Bp3 Bv4 Bp4 Bz2 Bv5 Bjz Bp6 Bz0 Bp0 Bp1 A8b A4k A8c Bp7 Bj1 Bv7 Bj2 Bj3 Ak7 AV.ren AV.ren1 Avf Ac1 Ab6
end Go.Am
namespace Go.Am
structure D2 where
 id:Int
 arrive:Int
 frm:Int
 to:Int
 car:Int
 board:Int
 alight:Int
def D2.cells (t:D2):List D:=[.int .i64 t.id,.int .i64 t.arrive,.int .i64 t.frm,.int .i64 t.to,.int .i64 t.car,.int .i64 t.board,.int .i64 t.alight]
structure D2.Ok (t:D2):Prop where
 id:U1 t.id
 arrive:U1 t.arrive
 frm:U1 t.frm
 to:U1 t.to
 car:U1 t.car
 board:U1 t.board
 alight:U1 t.alight
abbrev ctI :CT:= .int .i64
structure Leg where
 tick:Int
 pos:Int
 dir:Int
 door:Bool
def Leg.cells (t:Leg):List D:=[.int .i64 t.tick,.int .i64 t.pos,.int .i64 t.dir,.bool t.door]
structure Leg.Ok (t:Leg):Prop where
 tick:U1 t.tick
 pos:U1 t.pos
 dir:U1 t.dir
def Bgl (l:List Leg):List D:=[.vs 4 (l.map Leg.cells)]
structure Log where
 trips:List D2
 legs:List (List Leg)
 used:Int
def Log.cells (l:Log):List D:=[.vs 7 (l.trips.map D2.cells),.vs 1 (l.legs.map Bgl),.int .i64 l.used]
structure Log.Ok (l:Log):Prop where
 ntrips:l.trips.length<=maxLen
 trips:∀t∈l.trips,t.Ok
 nlegs:l.legs.length<=maxLen
 legs:∀g∈l.legs,g.length<=maxLen/\∀x∈g,x.Ok
 used:U1 l.used
structure Seg where
 kind:Int
 ticks:Int
 rate:Int
 deriving DecidableEq
def Seg.cells (g:Seg):List D:=[.int .i64 g.kind,.int .i64 g.ticks,.int .i64 g.rate]
structure Seg.Ok (t:Seg):Prop where
 kind:U1 t.kind
 ticks:U1 t.ticks
 rate:U1 t.rate
def Btw :List CT:=[ctI,ctI,ctI]
theorem Bv8 (r:List D)(h:C9 WT Btw r):∃t:Seg,r=t.cells/\t.Ok:=by
 simp only [Btw,Ad7,Ahr,Au7]at h;obtain⟨_,_,rfl,⟨a,rfl,ha⟩,_,_,rfl,⟨b,rfl,hb⟩,_,_,rfl,⟨c,rfl,hc⟩,rfl⟩:=h;exact⟨⟨a,b,c⟩,rfl,⟨ha,hb,hc⟩⟩
structure S6 where
 floors:Int
 gap:Int
 cars:Int
 capacity:Int
 opn:Int
 dwell:Int
 cls:Int
 transfer:Int
 segs:List Seg
 disp:Int
 horizon:Int
 bins:Int
 width:Int
def S6.cells (s:S6):List D:=[.int .i64 s.floors,.int .i64 s.gap,.int .i64 s.cars,.int .i64 s.capacity,.int .i64 s.opn,.int .i64 s.dwell,.int .i64 s.cls,.int .i64 s.transfer,.vs 3 (s.segs.map Seg.cells),.int .i64 s.disp,.int .i64 s.horizon,.int .i64 s.bins,.int .i64 s.width]
structure S6.Ok (s:S6):Prop where
 floors:U1 s.floors
 gap:U1 s.gap
 cars:U1 s.cars
 capacity:U1 s.capacity
 opn:U1 s.opn
 dwell:U1 s.dwell
 cls:U1 s.cls
 transfer:U1 s.transfer
 nsegs:s.segs.length<=maxLen
 segs:∀g∈s.segs,g.Ok
 disp:U1 s.disp
 horizon:U1 s.horizon
 bins:U1 s.bins
 width:U1 s.width
def Btx :List CT:=[ctI,ctI,ctI,ctI,ctI,ctI,ctI,ctI,.sl Btw,ctI,ctI,ctI,ctI]
theorem Bv9 (r:List D)(h:C9 WT Btx r):∃t:S6,r=t.cells/\t.Ok:=by
 simp only [Btx,Ad7,Ahr,Au7,Byr]at h;obtain⟨_,_,rfl,⟨a,rfl,ha⟩,_,_,rfl,⟨b,rfl,hb⟩,_,_,rfl,⟨c,rfl,hc⟩,_,_,rfl,⟨d,rfl,hd⟩,_,_,rfl,⟨e,rfl,he⟩,_,_,rfl,⟨f,rfl,hf⟩,_,_,rfl,⟨g,rfl,hg⟩,_,_,rfl,⟨i,rfl,hi⟩,
  _,_,rfl,⟨rows,rfl,hl,aQ⟩,_,_,rfl,⟨j,rfl,hj⟩,_,_,rfl,⟨k,rfl,hk⟩,_,_,rfl,⟨m,rfl,hm⟩,_,_,rfl,⟨n,rfl,hn⟩,rfl⟩:=h
 obtain⟨ts,rfl,iT⟩:=Ak4 Bv8 rows aQ;exact⟨⟨a,b,c,d,e,f,g,i,ts,j,k,m,n⟩,rfl,⟨ha,hb,hc,hd,he,hf,hg,hi,by simpa using hl,iT,hj,hk,hm,hn⟩⟩
attribute [simp] Seg.cells S6.cells D2.cells Leg.cells Bgl Log.cells
end Go.Am
namespace Go.Am
def B3b :Option (List AV)->Bool
 |some [.c (.bool b)]=>b
 |_=>false
theorem Bwa {o:Option (List AV)}(h:B3b o=true):o=some [bo true]:=by
 unfold B3b at h;split at h
 ·subst h;rfl
 ·simp at h
end Go.Am
namespace Go.Am
open Go.RowKit
section
variable {P : Program} {B : Bd} {F : A8} {ρ : Map} {s : St} {a : Go.Act} {w : World} {o : Oper}
theorem Bwb (w:World)(ty:TypeId)(r bm since c0:Nat)(seen:Array Nat)(es:Array MapEntry)(clock:Nat)(hi:w.heap[r]? =some (.mapIter (some bm) since seen c0))(hb:w.heap[bm]? =some (.map es clock))(jL:∀x∈es.toList,x.born<since)(lI:since<=c0):
  ((leftOf es seen).size=0/\(Instr.next (.pointer (some ⟨r,0,none⟩)) false ty).run P w= .ok (.tuple #[.bool false]) w)\/
  ∃e∈(leftOf es seen).toList,∃w1:World,(w1=w\/w1=w.drew)/\(Instr.next (.pointer (some ⟨r,0,none⟩)) false ty).run P w= .ok (.tuple #[.bool true,e.key,e.val]) (Amk w1 r (.mapIter (some bm) since (seen.push e.born) clock)):=by
 simp only [Instr.next,getObj,Sem.run_bind,Sem.run,hi,hb,Result.andThen,next_test_false seen es since c0 jL lI,B6p,B7d];unfold leftOf;have bX:∀x∈(Array.filter (λ e=> !seen.contains e.born) es).toList,x.born<since:=λ x hx=>jL x (by simp at hx ⊢;exact hx.1)
 generalize Array.filter (λ e=> !seen.contains e.born) es=L at bX ⊢
 have e1:L.filter (λ x=>decide (x.born<since))=L:=Array.filter_eq_self.2 (λ x hx=>by simpa using bX x (by simpa using hx))
 have e2:L.filter (λ x=>decide (x.born≥since))= #[]:=by
  grind [Array.filter_eq_empty_iff]
 simp only [e1,e2,Array.append_empty];by_cases h0:L.size=0
 ·left;have:L= #[]:=Array.eq_empty_of_size_eq_zero h0;subst this;refine⟨rfl,?_⟩;simp [choose,Sem.run,Question.forced]
 ·right;have aH:L.isEmpty=false:=by simp [Array.isEmpty,h0]
  simp only [aH,B6p,B7d,Array.empty_append,Array.size_map];have yC:∃(j:Nat)(w1:World),j<L.size/\(w1=w\/w1=w.drew)/\(choose (Question.mapNext L.size)).run P w= .ok j w1:=by
   by_cases hf:L.size<=1
   ·exact⟨0,w,by omega,.inl rfl,by simp [choose,Sem.run,Question.forced,hf]⟩
   ·exact⟨_,w.drew,Nat.mod_lt _ (by omega),.inr rfl,by
     simp only [choose,Sem.run,Question.forced,B6o,hf,B7d,Question.cut];rfl⟩
  obtain⟨j,w1,hj,cM,aJ⟩:=yC;have hi1:w1.heap[r]? =some (.mapIter (some bm) since seen c0):=by
   rcases cM with rfl|rfl
   ·exact hi
   ·exact hi
  refine⟨L[j],by simp,w1,cM,?_⟩
  have bZ:(setObj r (.mapIter (some bm) since (seen.push L[j].born) clock)).run P w1= .ok () (Amk w1 r (.mapIter (some bm) since (seen.push L[j].born) clock)):=by
   simp [setObj,Sem.run,hi1,Amk]
  simp only [aJ,Array.getElem?_map,B7o hj,B7h,Sem.run_bind,bZ,Result.andThen];rfl
inductive AW where
 |ac (c:AC)
 |nxt (it d:Nat)(rest:AI)
 |seq (a b:AW)
 |cond (c:J8)(a b:AW)
 |block (id:Nat)(a:AW)
 |loop (a:AW)
 |keepP (ks:List Nat)(lo hi:Nat)(os:List Nat)(a:AW)
 |own (d key:Nat)(a:AW)
def came (seen:O4)(b:Int):Bool:=seen.any λ x=>match x with
 |[.c (.int .i64 c)]=>decide (c=b)
 |_=>false
theorem Azc : ∀ (l : List Nat) (b : Nat), came (l.map λ c : Nat => [AV.c (.int .i64 c)]) (b : Int) = l.contains b
 | [], b => rfl
 | c :: l, b => by
  have ih := Azc l b
  unfold came at ih ⊢
  rw [B6v, List.any_cons, ih, List.contains_cons]
  congr 1
  by_cases h : c = b
  ·simp [h]
  ·have h1 : ¬ (c : Int) = b := by omega
   have h2 : ¬ b = c := by omega
   simp [h1, h2]
def Aqq (s:St)(it:Nat)(K:St->AV->Prop):Prop:=
 match get s.fr it with
 |some (.itr key)=>match get s.ob key with
  |some o=>(o.rows=[[.ot .nm]]/\K s (.tup [.c (.bool false)]))\/
    ∃(mk:Nat)(seen:O4)(om:Obj),o.rows=[.mp mk,.c (.int .i64 o.sz)]::seen/\get s.ob mk=some om/\om.sz=o.sz/\
     ((∀b k v,[.c (.int .i64 b),k,v]∈om.rows->came seen b=true)->K s (.tup [.c (.bool false)]))/\
     ∀b k v,[.c (.int .i64 b),k,v]∈om.rows->came seen b=false->k.isD=true/\v.isD=true/\K (s.obj key ⟨o.sz,o.rows++[[.c (.int .i64 b)]]⟩) (.tup [.c (.bool true),k,v])
  |none=>False
 |_=>False
def lpW (f:St->(AX->St->Prop)->Prop):Nat->St->(AX->St->Prop)->Prop
 |0,_,_=>False
 |n+1,s,K=>f s λ ax s'=>match ax with
  | .norm=>lpW f n s' K
  |ax=>K ax s'
def B7 (Γ:H6)(N:Nat):AW->St->(AX->St->Prop)->Prop
 | .ac c,s,K=>∃ax s',exec Γ N c s=some (ax,s')/\K ax s'
 | .nxt it d rest,s,K=>Aqq s it λ s1 v=>∃s2,ev Γ rest (s1.put (some d) v)=some s2/\K .norm s2
 | .seq a b,s,K=>B7 Γ N a s λ ax s'=>match ax with
  | .norm=>B7 Γ N b s' K
  |ax=>K ax s'
 | .cond c a b,s,K=>match s.opd c with
  |some (.c (.bool t))=>if t then B7 Γ N a s K else B7 Γ N b s K
  |_=>False
 | .block id a,s,K=>B7 Γ N a s λ ax s'=>match ax with
  | .ex i=>if i=id then K .norm s' else K (.ex i) s'
  |ax=>K ax s'
 | .loop a,s,K=>lpW (B7 Γ N a) N s K
 | .keepP ks lo hi os a,s,K=>B7 Γ N a ⟨keep ks s.fr++ghs s.fr,A1 lo hi os s.ob⟩ K
 | .own d key a,s,K=>match get s.fr d with
  |some (.nil sz)=>s.free key=true/\B7 Γ N a ((s.obj key ⟨sz,[]⟩).put (some d) (.sl key 0 0 0)) K
  |_=>False
def Az5 (o:Oper)(it d:Nat):Bool:=match o.op with
 | .next (.tmp n) false=>n==it&&o.dst==some d&&o.guard.isNone&&Bbf o&&Aky o
 |_=>false
def Aao (P:Program)(nm:Nat->Option Nat)(N:Nat):AW->Code->Bool
 | .ac c,x=>E4 P nm N c x
 | .nxt it d rest,.region _ ops false=>(match ops.toList with
  |o::l=>Az5 o it d&&Abe N [] (some d)&&(match U0 P nm N ops rest none [] [] l with|some []=>true|_=>false)
  |[]=>false)
 | .seq a b,.seq x y=>Aao P nm N a x&&Aao P nm N b y
 | .cond c a b,.cond c' x y=>M3 c' c&&oLt c'&&Aao P nm N a x&&Aao P nm N b y
 | .block id a,.block id' x=>id==id'&&Aao P nm N a x
 | .loop a,.loop x=>Aao P nm N a x
 | .keepP _ _ _ _ a,x=>Aao P nm N a x
 | .own _ key a,x=>decide (key<MK)&&Aao P nm N a x
 |_,_=>false
theorem Aif {Γ:H6}{N:Nat}(c:AW):∀{s:St}{K K':AX->St->Prop},(∀ax s',K ax s'->K' ax s')->B7 Γ N c s K->B7 Γ N c s K':=by
 induction c with
 |ac c=>rintro s K K' hk ⟨ax,s',h1,h2⟩;exact⟨ax,s',h1,hk _ _ h2⟩
 |nxt it d rest=>
  intro s K K' hk h;have bG:∀(s1:St)(v:AV),(∃s2,ev Γ rest (s1.put (some d) v)=some s2/\K .norm s2)->∃s2,ev Γ rest (s1.put (some d) v)=some s2/\K' .norm s2:=λ s1 v ⟨s2,h1,h2⟩=>⟨s2,h1,hk _ _ h2⟩
  simp only [B7,Aqq]at h ⊢;split at h
  ·split at h
   all_goals grind
  ·exact h.elim
 |seq c1 c2 ih1 ih2=>
  grind [B7]
 |cond c c1 c2 ih1 ih2=>
  grind [B7]
 |block id c ih=>
  intro s K K' hk h;simp only [B7]at h ⊢;refine ih (λ ax s' h=> ?_) h
  cases ax with
  |norm=>exact hk _ _ h
  |ret=>exact hk _ _ h
  |ex i=>
   grind
 |loop c ih=>
  intro s K K' hk h;simp only [B7]at h ⊢;have:∀n s,lpW (B7 Γ N c) n s K->lpW (B7 Γ N c) n s K':=by
   intro n
   induction n with
   |zero=>intro s h;exact h.elim
   |succ n ihn=>
    grind [lpW]
  exact this N s h
 |keepP ks lo hi os c ih=>intro s K K' hk h;exact ih hk h
 |own d key c ih=>
  grind [B7]
theorem A91 {f:St->(AX->St->Prop)->Prop}{I:Nat->St->Prop}{K:AX->St->Prop}(hf:∀s (K K':AX->St->Prop),(∀ax s',K ax s'->K' ax s')->f s K->f s K')
  (step:∀n s,I n s->f s λ ax s'=>match ax with| .norm=>∃m,m<n/\I m s'|ax=>K ax s'):∀(n M:Nat)(s:St),I n s->n<M->lpW f M s K
 |n,0,s,h,hn=>by omega
 |n,M+1,s,h,hn=>by
  simp only [lpW];refine hf s _ _ (λ ax s' h=> ?_) (step n s h)
  cases ax with
  |norm=>
   obtain⟨m,h1,h2⟩:=h;exact A91 hf step m M s' h2 (by omega)
  |ex i=>exact h
  |ret=>exact h
theorem Bj5 {it d:Nat}{K:St->AV->Prop}(hm:T0 B F ρ s.ob w)(hf:Fr F ρ s.ob s.fr a)(hc:Az5 o it d=true)(h:Aqq s it K):
  Abr P o a w λ u w'=>∃s1 v,s1.fr=s.fr/\K s1 v/\Aby B F w s.fr a s1.ob v u w':=by
 unfold Az5 at hc;split at hc
 case h_2=>simp at hc
 rename_i n aK;simp only [B6h,B62]at hc;obtain⟨⟨⟨⟨rfl,hd⟩,hg⟩,_⟩,_⟩:=hc;unfold Aqq at h;split at h
 case h_2=>exact h.elim
 rename_i key hit;split at h
 case h_2=>exact h.elim
 rename_i ob aD;have hr:=hf n _ hit;obtain⟨p,hρ,mB⟩:=hr.2 ob aD;have h2K:2*MK<=key:=hr.1;obtain⟨y,hy,hI⟩:=(hm.own key ob p aD hρ).2.2.2 h2K;have yD:a.eval (.tmp n)= .pointer (some ⟨p.g,0,none⟩):=mB;have lG:∀{v:AV}{u:Value},AR F ρ s.ob v u->∀w',w'.heap=w.heap->w'.os=w.os->w'.tape=w.tape->w'.output=w.output->Aby B F w s.fr a s.ob v u w':=by
  intro v u hv w' e1 e2 e3 e4;have hb:Bel B w w':=⟨e2,e3,e4,by rw [e1];exact B6u _,λ k _=>by rw [e1]⟩
  have iB:Below w.heap.size w w':=⟨e2,e3,e4,by rw [e1];exact B6u _,λ k _=>by rw [e1]⟩
  exact⟨F,ρ,hm.below iB,hf,hv,.refl F,hb,λ _ _ h=> .inl h⟩
 rcases hI with ⟨h0,rfl⟩|⟨mk',since',seen',g,h3,h4,rfl⟩
 ·rcases h with ⟨_,hK⟩|⟨mk,seen,om,h1,_⟩
  ·refine C5 (w':=w) (u:= .tuple #[.bool false]) ?_ ⟨s,_,rfl,hK,lG (v:= .tup [.c (.bool false)]) ⟨[.bool false],rfl,.cons (DR.bool false) .nil⟩ w rfl rfl rfl rfl⟩;simp [execOp,aK,yD,Instr.next,getObj,Sem.run,hy]
  ·rw [h0]at h1;simp at h1
 ·rcases h with ⟨h0,_⟩|⟨mk,seen,om,h1,h2,h5,h6,h7⟩
  ·rw [h3]at h0;simp at h0
  ·rw [h3]at h1;simp only [B76,AV.mp.injEq,AV.c.injEq,D.int.injEq,B7v,B7w]at h1;obtain⟨⟨rfl,hsi⟩,hseen⟩:=h1;have hsi:since'=ob.sz:=by omega
   subst hsi;obtain⟨pm,hρm,rZ⟩:=h4.2.2 om h2;simp only [Value.map.injEq,B6g]at rZ;subst rZ;obtain⟨_,hM⟩:=hm.map h4.1 h4.2.1 h2 hρm;obtain⟨es,hb,aF,gW,aC,aQ⟩:=hM.list;subst hseen;rcases Bwb (P:=P) w o.type p.g pm.g ob.sz ob.sz seen'.toArray es om.sz hy hb (by rw [<-h5];exact aC) (B6u _)with ⟨iE,aJ⟩|⟨e,he,w1,wM,aJ⟩
   ·have hK:=h6 λ b k v bX=>by
     obtain⟨i,hi⟩:=B7t bX;obtain⟨e,k',v',g1,g2,_,_⟩:=aQ i _ hi;simp only [B76,AV.c.injEq,D.int.injEq,B7w]at g2;rw [g2.1,Azc];cases lJ:seen'.contains e.born with
     |true=>rfl
     |false=>
      have:e∈leftOf es seen'.toArray:=by
       unfold leftOf;grind [List.mem_of_getElem?]
      have h8:=Array.size_pos_of_mem this;omega
    refine C5 (w':=w) (u:= .tuple #[.bool false]) ?_ ⟨s,_,rfl,hK,lG (v:= .tup [.c (.bool false)]) ⟨[.bool false],rfl,.cons (DR.bool false) .nil⟩ w rfl rfl rfl rfl⟩;simp only [execOp,aK,yD,Sem.run_bind,aJ,Result.andThen_ok,Sem.run_pure]
   ·have kS:e∈es/\seen'.contains e.born=false:=by
     unfold leftOf at he;have:=Array.mem_filter.1 (Array.mem_toList_iff.1 he);exact⟨this.1,by simpa using this.2⟩
    obtain⟨i,hi⟩:=B7t (Array.mem_toList_iff.2 kS.1);have dN:i<om.rows.length:=by rw [<-aF];exact(B6n.1 hi).1
    obtain⟨e',k,v,g1,g2,g3,g4⟩:=aQ i _ (B6w dN);rw [hi]at g1;simp only [B6g]at g1;subst g1;obtain⟨k1,v1,hK⟩:=h7 e.born k v (by rw [<-g2];exact B8e dN) (by rw [Azc];exact kS.2)
    have hw1h:w1.heap=w.heap:=by rcases wM with rfl|rfl<;>rfl
    have iU:Below w.heap.size w w1:=by rcases wM with rfl|rfl<;>exact⟨rfl,rfl,rfl,B6u _,λ _ _=>rfl⟩
    have cC:T0 B F ρ s.ob w1:=hm.below iU;have mC:AR F ρ s.ob (.tup [.c (.bool true),k,v]) (.tuple #[.bool true,e.key,e.val]):=⟨[.bool true,e.key,e.val],rfl,.cons (DR.bool true) (.cons (g3.to1 k1) (.cons (g4.to1 v1) .nil))⟩;have kZ:=Aqi (o1:=⟨ob.sz,ob.rows++[[.c (.int .i64 e.born)]]⟩) (x:= .mapIter (some pm.g) ob.sz (seen'.toArray.push e.born) om.sz) cC hf (by unfold MK at h2K ⊢;omega) aD hρ (y:= .mapIter (some pm.g) ob.sz seen'.toArray ob.sz) (by rw [hw1h];exact hy)
     (λ F' ρ' aA hT=>⟨λ h=>by unfold MK at*;omega,λ h h'=>by omega,λ _=>⟨_,rfl,.inr ⟨mk',ob.sz,seen'++[e.born],pm.g,by rw [h3];simp,hT _ _ h4,by rw [h5];simp⟩⟩⟩) mC
    refine C5 (w':=Amk w1 p.g (.mapIter (some pm.g) ob.sz (seen'.toArray.push e.born) om.sz)) (u:= .tuple #[.bool true,e.key,e.val]) ?_ ⟨s.obj key ⟨ob.sz,ob.rows++[[.c (.int .i64 e.born)]]⟩,_,rfl,hK,?_⟩
    ·simp only [execOp,aK,yD,Sem.run_bind,aJ,Result.andThen_ok,Sem.run_pure]
    ·obtain⟨F',ρ',q1,q2,q3,q4⟩:=kZ;exact⟨F',ρ',q1,q2,q3,Ext.trans ⟨.refl F,.of iU hm.big,λ _ _ h=> .inl h⟩ q4⟩
theorem A8d {γ:Array Value}{c:Code}{f:St->(AX->St->Prop)->Prop}{F0:A8}{w0:World}{N:Nat}
  (body:∀(s:St)(K:AX->St->Prop)(a:Go.Act)(w:World)(Q:Exit->Go.Act->World->Prop),f s K->Rel γ B F0 w0 N s a w->(∀ax s' a' w',K ax s'->Rel γ B F0 w0 N s' a' w'->Q (R5 ax) a' w')->c.wp P Q a w):
  ∀(n:Nat)(s:St)(K:AX->St->Prop)(a:Go.Act)(w:World)(Q:Exit->Go.Act->World->Prop),lpW f n s K->Rel γ B F0 w0 N s a w->(∀ax s' a' w',K ax s'->Rel γ B F0 w0 N s' a' w'->Q (R5 ax) a' w')->(Code.loop c).wp P Q a w:=by
 intro n s K a w Q h hr hQ b k cs;have key:∀n s a w,lpW f n s K->Rel γ B F0 w0 N s a w->∃e a' w',Q e a' w'/\Arrives P (lone (b.at a (.code c:: .inLoop c::k)) cs w) b k cs e a' w':=by
  intro n
  induction n with
  |zero=>intro s a w h;exact h.elim
  |succ n ih=>
   intro s a w h hr;simp only [lpW]at h;obtain⟨e,a1,w1,hq,iF⟩:=body s _ a w (λ e a' w'=>(∃s1,e= .normal/\lpW f n s1 K/\Rel γ B F0 w0 N s1 a' w')\/∃ax s1,ax≠ .norm/\e=R5 ax/\K ax s1/\Rel γ B F0 w0 N s1 a' w') h hr (λ ax s' a' w' hk bU=>by
    cases ax with
    |norm=>exact .inl ⟨s',rfl,hk,bU⟩
    |ex i=>exact .inr ⟨.ex i,s',by simp,rfl,hk,bU⟩
    |ret=>exact .inr ⟨.ret,s',by simp,rfl,hk,bU⟩) b (.inLoop c::k) cs
   rcases hq with ⟨s1,rfl,h1,aZ⟩|⟨ax,s1,aH,rfl,h1,aZ⟩
   ·obtain⟨e2,a2,w2,kJ,pW⟩:=ih s1 a1 w1 h1 aZ;exact⟨e2,a2,w2,kJ,.of_steps (Steps.trans iF (.one step_inLoop)) pW⟩
   ·have hq:=hQ ax s1 a1 w1 h1 aZ;cases ax with
    |norm=>exact(aH rfl).elim
    |ex id=>exact⟨_,a1,w1,hq,.pass (x:= .inLoop c) rfl (λ _ _=> .inl (by simp [R5])) iF⟩
    |ret=>exact⟨_,a1,w1,hq,.pass (x:= .inLoop c) rfl (λ _ _=> .inl (by simp [R5])) iF⟩
 obtain⟨e,a',w',hq,iF⟩:=key n s a w h hr;exact⟨e,a',w',hq,.of_steps (.one step_loop) iF⟩
theorem Bj6 {nm:Nat->Option Nat}{N it d:Nat}{rest:AI}{x:Code}(h:Aao P nm N (.nxt it d rest) x=true):
  ∃id ops,x= .region id ops false/\(match ops.toList with
  |o::l=>Az5 o it d&&Abe N [] (some d)&&(match U0 P nm N ops rest none [] [] l with|some []=>true|_=>false)
  |[]=>false)=true:=by
 cases x<;>try (simp [Aao]at h;done)
 rename_i id ops dw
 cases dw
 ·exact⟨id,ops,rfl,by simpa only [Aao]using h⟩
 ·simp [Aao]at h
theorem A8e {nm:Nat->Option Nat}{Γ:H6}{γ:Array Value}{F0:A8}{w0:World}{N M:Nat}(hΓ:Aec P nm Γ)(bY:P.follows .mixedOrders=true)(c:AW):
  ∀(x:Code)(s:St)(K:AX->St->Prop)(a:Go.Act)(w:World)(Q:Exit->Go.Act->World->Prop),Aao P nm N c x=true->B7 Γ M c s K->Rel γ B F0 w0 N s a w->(∀ax s' a' w',K ax s'->Rel γ B F0 w0 N s' a' w'->Q (R5 ax) a' w')->x.wp P Q a w:=by
 induction c with
 |ac c=>
  intro x s K a w Q hc h hr hQ;obtain⟨ax,s',h1,h2⟩:=h;grind [Aog,Aao]
 |nxt it d rest=>
  intro x s K a w Q hc h hr hQ;obtain⟨id,ops,rfl,dL⟩:=Bj6 hc;refine wp_region_list ?_;split at dL
  case h_2=>simp at dL
  rename_i o l xB;simp only [B6h]at dL;obtain⟨⟨hn,hd⟩,jV⟩:=dL;rw [xB];have eU:=hr;obtain⟨hG,F,ρ,hm,hf,he,hN,cX⟩:=eU;have jI:=hn;unfold Az5 at jI;split at jI
  case h_2=>simp at jI
  rename_i nn aK;simp only [B6h,B62,Option.isNone_iff_eq_none]at jI;obtain⟨⟨⟨⟨_,yE⟩,hg⟩,ho1⟩,ho2⟩:=jI;have hw:=A22 (ops:=ops) (g:=none) (o:=o) (s:=s) (by unfold Q4;rw [hg]) trivial hf
  simp only [wpList,hw,B68];left;have nO:∀i,o.dst=some i->i<N:=λ i hi=>by rw [yE]at hi;simp only [B6g]at hi;subst hi;simp [Abe]at hd;exact hd
  have eG:=Bj5 (P:=P) (K:=λ s1 v=>∃s2,ev Γ rest (s1.put (some d) v)=some s2/\K .norm s2) hm ((FrG.pad (γ:=γ) (by omega)).1 hf) hn h
  refine Ahk (by omega) ho1 ho2 (λ i hi=>by rw [hN];exact nO i hi) eG _ _ ?_
  rintro u w' ⟨s1,v,dU,⟨s2,yD,hk⟩,hp⟩;have aZ:=Rel.put1 hG dU he hN cX nO hp;rw [yE]at aZ ⊢;split at jV
  ·rename_i pX;exact Aql hΓ rest pX yD aZ trivial (by simp) λ a' w' bU _=>by simp only [wpList];exact hQ .norm s2 a' w' hk bU
  ·simp at jV
 |seq c1 c2 ih1 ih2=>
  intro x s K a w Q hc h hr hQ;cases x<;>simp only [Aao,B6p]at hc;rename_i x y;simp only [B6h]at hc;simp only [B7]at h;refine wp_seq ?_;refine ih1 x s _ a w _ hc.1 h hr λ ax s1 a1 w1 hk aZ=> ?_
  cases ax with
  |norm=>exact ih2 y s1 K a1 w1 Q hc.2 hk aZ hQ
  |ex id=>exact hQ (.ex id) s1 a1 w1 hk aZ
  |ret=>exact hQ .ret s1 a1 w1 hk aZ
 |cond c c1 c2 ih1 ih2=>
  intro x s K a w Q hc h hr hQ;cases x<;>simp only [Aao,B6p]at hc;rename_i c' x y;simp only [B6h]at hc;simp only [B7]at h;split at h
  ·rename_i t ht;have eU:=hr;obtain⟨hG,F,ρ,hm,hf,he,hN,cX⟩:=hr;have hb:=DR.bool_ (A2 ((FrG.pad (γ:=γ) (by omega)).1 hf) hc.1.1.1 ht)
   rw [A9s (by omega) hc.1.1.2]at hb
   refine wp_cond hb ?_;grind
  ·exact h.elim
 |block id c ih=>
  intro x s K a w Q hc h hr hQ;cases x<;>simp only [Aao,B6p]at hc;rename_i id' x;simp only [B6h,B62]at hc;obtain⟨rfl,hc⟩:=hc;simp only [B7]at h;refine wp_block ?_;refine ih x s _ a w _ hc h hr λ ax s1 a1 w1 hk aZ=> ?_
  cases ax with
  |norm=>exact hQ .norm s1 a1 w1 hk aZ
  |ret=>exact hQ .ret s1 a1 w1 hk aZ
  |ex i=>
   simp only at hk;by_cases hi:i=id
   ·rw [B6l hi]at hk;simp only [R5,Exit.inBlock,hi,B68];exact hQ .norm s1 a1 w1 hk aZ
   ·rw [B6j hi]at hk;simp only [R5,Exit.inBlock,hi,B7d];exact hQ (.ex i) s1 a1 w1 hk aZ
 |loop c ih=>
  intro x s K a w Q hc h hr hQ;cases x<;>simp only [Aao,B6p]at hc;grind [B7,A8d]
 |keepP ks lo hi os c ih=>
  intro x s K a w Q hc h hr hQ;have hc:Aao P nm N c x=true:=by cases x<;>simpa only [Aao]using hc
  exact ih x _ K a w Q hc h (hr.keepP ks lo hi os) hQ
 |own d key c ih=>
  intro x s K a w Q hc h hr hQ;have hc:key<MK/\Aao P nm N c x=true:=by cases x<;>simpa only [Aao,B6h,B6o]using hc
  simp only [B7]at h;split at h
  ·rename_i sz hd;exact ih x _ K a w Q hc.2 h.2 (hr.own hc.1 hd h.1) hQ
  ·exact h.elim
structure Brz where
 body:AW
 results:List Rs
 fin:Nat×Nat×List Nat
def Br0 (P:Program)(nm:Nat->Option Nat)(f:FuncId)(F:Brz):Bool:=
 match P.funcs[f]? with
 |some fn=>(match fn.body with|some c=>Aao P nm fn.ntmps F.body c|none=>false)&&Alv P fn.results.toList F.results&&decide (fn.ntmps<=GB)
 |none=>false
def Bmx (F:Brz)(fr:FL)(rs:List AV)(aA:OL)(ax:AX)(s':St):Prop:=
 (ax= .norm\/ax= .ret)/\s'.slots F.results=some rs/\A1 F.fin.1 F.fin.2.1 F.fin.2.2 s'.ob=aA/\∀i,GB<=i->get s'.fr i=get fr i
theorem Aom {nm:Nat->Option Nat}{Γ:H6}{f:FuncId}{fn:Brz}{M:Nat}(hΓ:Aec P nm Γ)(bY:P.follows .mixedOrders=true)(hc:Br0 P nm f fn=true)(S:PG)
  (hS:∀fr ob rs aA,S ⟨fr,ob⟩=some (rs,aA)->B7 Γ M fn.body ⟨fr,ob⟩ (Bmx fn fr rs aA)):D9 P f S:=by
 intro γ B F ρ fr ob w us rs aA aF cM hm hf h;unfold Br0 at hc;split at hc
 case h_2=>simp at hc
 rename_i fn' jF;simp only [B6h,B6o]at hc;obtain⟨⟨cE,iO⟩,hG⟩:=hc;split at cE
 case h_2=>simp at cE
 rename_i c nG;have hul:=aF fn' jF;have jQ:Rel γ B F w fn'.ntmps ⟨fr,ob⟩ (Adc fn' us) w:=by
  refine⟨hG,F,ρ,hm,?_,.refl _ _ _,by unfold Adc;simp;omega,rfl⟩
  intro i v hi;have:=hf i v hi;unfold Akz;by_cases hiG:i<GB
  ·rw [B6l hiG]at this ⊢;have e:(Adc fn' us).tmps.getD i undef=us.getD i undef:=by
    cases hu:us[i]? with
    |some u=>rw [Akt hu,B8n,hu];rfl
    |none=>
     rw [B8n,hu];have rU:us.length<=i:=by simpa using hu
     unfold Adc;simp only [B61];grind [Array.getElem?_append_right]
   rw [e];exact this
  ·rw [B6j hiG]at this ⊢;exact this
 refine calls_of_wp jF nG ?_;refine A8e hΓ bY fn.body c ⟨fr,ob⟩ _ _ w _ cE (hS fr ob rs aA h) jQ ?_;rintro ax s' a' w' ⟨bN,dR,rfl,lY⟩ hr;obtain⟨_,F2,ρ2,dV,dZ,kS,hN2,hdf2⟩:=hr;obtain⟨us2,fI,fH⟩:=Alw (fn:=fn') dV dZ iO dR;have jM:(fn'.results.mapM fun| .tmp n=>pure (a'.tmps.getD n undef)| .cell n ty=>do loadVar ty (<-asAddr (a'.tmps.getD n undef)):Sem (Array Value)).run P w'= .ok us2.toArray w':=by
  rw [Array.mapM_eq_mapM_toList,Sem.run_map];exact congrArg (λ r=>Result.andThen r λ(a:List Value) w'=>Result.ok a.toArray w') fI
 have h2:(results fn' a'.tmps).run P w'=((fn'.results.mapM fun| .tmp n=>pure (a'.tmps.getD n undef)| .cell n ty=>do loadVar ty (<-asAddr (a'.tmps.getD n undef)):Sem (Array Value)).run P w').andThen
   λ vs w=> .ok (if h:vs.size=1 then vs[0]else .tuple vs) w:=by
  unfold results;rw [Sem.run_bind];rfl
 have bA:=Ag4 fn.fin.1 fn.fin.2.1 fn.fin.2.2 s'.ob;have fin:bodyPost P fn' (λ e w'=>∃qs,e= .returned (A2s qs)/\∃F' ρ',T0 B F' ρ' (A1 fn.fin.1 fn.fin.2.1 fn.fin.2.2 s'.ob) w'/\(∀i v,GB<=i->get fr i=some v->AR F' ρ' (A1 fn.fin.1 fn.fin.2.1 fn.fin.2.2 s'.ob) v (γ.getD (i-GB) undef))/\C9 (AR F' ρ' (A1 fn.fin.1 fn.fin.2.1 fn.fin.2.2 s'.ob)) rs qs/\Ext B F F' w w') .ret a' w':=by
  refine⟨hdf2,A2s us2,?_,us2,rfl,F2,ρ2,dV.sub bA,λ i v hi hv=> ?_,fH.imp λ _ _ h=>h.sub bA,kS⟩
  ·rw [h2,jM];rfl
  have:=dZ i v (by rw [lY i hi];exact hv)
  rw [Akz,B6j (by omega)]at this
  exact this.sub bA
 rcases bN with rfl|rfl
 ·simpa [R5,bodyPost]using fin
 ·simpa [R5]using fin
end
def acK (K:AX->St->Prop):Option (AX×St)->Prop
 |some (ax,s)=>K ax s
 |none=>False
theorem D5 (K:AX->St->Prop)(ax:AX)(s:St):acK K (some (ax,s))=K ax s:=rfl
theorem E3 (Γ:H6)(N:Nat)(c:AC)(s:St)(K:AX->St->Prop):B7 Γ N (.ac c) s K=acK K (exec Γ N c s):=by
 simp only [B7,eq_iff_iff];constructor
 ·rintro⟨ax,s',h1,h2⟩;rw [h1];exact h2
 ·intro h;cases he:exec Γ N c s with
  |none=>rw [he]at h;exact h.elim
  |some p=>obtain⟨ax,s'⟩:=p;rw [he]at h;exact⟨ax,s',rfl,h⟩
def B3c (Γ:H6)(N:Nat)(b:AW)(K:AX->St->Prop):AX->St->Prop
 | .norm,s=>B7 Γ N b s K
 |ax,s=>K ax s
theorem C7 (Γ:H6)(N:Nat)(b:AW)(K:AX->St->Prop)(s:St):B3c Γ N b K .norm s=B7 Γ N b s K:=rfl
theorem F9 (Γ:H6)(N:Nat)(a b:AW)(s:St)(K:AX->St->Prop):B7 Γ N (.seq a b) s K=B7 Γ N a s (B3c Γ N b K):=by
 simp only [B7];congr 1;funext ax s';cases ax<;>rfl
def Br1 (id:Nat)(K:AX->St->Prop):AX->St->Prop
 | .ex i,s=>if i=id then K .norm s else K (.ex i) s
 |ax,s=>K ax s
theorem Agb (id i:Nat)(K:AX->St->Prop)(s:St):Br1 id K (.ex i) s=if i=id then K .norm s else K (.ex i) s:=rfl
theorem I2 (Γ:H6)(N:Nat)(id:Nat)(a:AW)(s:St)(K:AX->St->Prop):B7 Γ N (.block id a) s K=B7 Γ N a s (Br1 id K):=by
 simp only [B7];congr 1;funext ax s';cases ax<;>rfl
theorem D0 (Γ:H6)(N:Nat)(ks:List Nat)(lo hi:Nat)(os:List Nat)(a:AW)(s:St)(K:AX->St->Prop):B7 Γ N (.keepP ks lo hi os a) s K=B7 Γ N a (U9 ks lo hi os s) K:=by simp only [B7,U9]
theorem N8 (Γ:H6)(N:Nat)(d key:Nat)(a:AW)(s:St)(K:AX->St->Prop){sz:Nat}(hd:get s.fr d=some (.nil sz))(hf:s.free key=true):B7 Γ N (.own d key a) s K=B7 Γ N a ((s.obj key ⟨sz,[]⟩).put (some d) (.sl key 0 0 0)) K:=by
 simp only [B7,hd,hf,B7w]
theorem V5 (Γ:H6)(N:Nat)(a:AW)(s:St)(K:AX->St->Prop):B7 Γ N (.loop a) s K=lpW (B7 Γ N a) N s K:=by simp only [B7]
end Go.Am
