import Derived.Test.YtgnjaophoffbbaaGreatB4
import Derived.Test.YtgnjaophoffbbaaGreatK
set_option maxHeartbeats 4000000
set_option maxRecDepth 20000
set_option linter.unusedVariables false
set_option linter.unusedSimpArgs false
set_option linter.unnecessarySimpa false
namespace Go.Am
theorem Af4 {lo hi:Nat}:∀{ob:OL},Kf lo hi ob↔∀p∈ob,p.1%KT<lo\/hi<=p.1%KT
 |[]=>by simp
 |(k,o)::ob=>by
  constructor
  ·intro h p hp;have h0:=h [];simp only [A1,B7a,or_false]at h0;split at h0
   ·rename_i hk;rcases B6r.1 hp with rfl|hp
    ·exact hk
    ·exact(Af4.1 ((Axt hk).1 h)) p hp
   ·exfalso;have hl:∀l:OL,(A1 lo hi [] l).length<=l.length:=by
     intro l
     induction l with
     |nil=>simp [A1]
     |cons q l ih=>
      obtain⟨i,v⟩:=q;simp only [A1];split
      ·simpa using ih
      ·simp only [B8p];omega
    have:=hl ob;rw [h0]at this;simp at this;omega
  ·intro h;exact(Axt (h (k,o) (by simp))).2 (Af4.2 λ p hp=>h p (B7g _ hp))
theorem X8 {lo hi:Nat}{os:List Nat}:∀{ob:OL}{p:Nat×Obj},p∈A1 lo hi os ob->p∈ob
 |[],p,h=>by simp [A1]at h
 |(k,o)::ob,p,h=>by
  simp only [A1]at h;split at h
  ·rcases B6r.1 h with rfl|h
   ·simp
   ·exact B7g _ (X8 h)
  ·exact B7g _ (X8 h)
theorem O3 {k:Nat}:∀{ob:OL}{p:Nat×Obj},p∈del ob k->p∈ob
 |[],p,h=>by simp [del]at h
 |(j,o)::ob,p,h=>by
  simp only [del]at h;split at h
  ·exact B7g _ (O3 h)
  ·rcases B6r.1 h with rfl|h
   ·simp
   ·exact B7g _ (O3 h)
theorem Y6 {lo hi k:Nat}{ob:OL}(h:Kf lo hi ob):Kf lo hi (del ob k):=Af4.2 λ p hp=>Af4.1 h p (O3 hp)
theorem C8 {k:Nat}:∀{ob:OL},B8 k ob=true↔∀p∈ob,B5 k p.2.rows=true
 |[]=>by simp
 |(j,o)::ob=>by simp [B8,C8 (ob:=ob)]
theorem H4 {k lo hi:Nat}{os:List Nat}{ob:OL}(h:B8 k ob=true):B8 k (A1 lo hi os ob)=true:=C8.2 λ p hp=>C8.1 h p (X8 hp)
theorem C3 {k j:Nat}{ob:OL}(h:B8 k ob=true):B8 k (del ob j)=true:=C8.2 λ p hp=>C8.1 h p (O3 hp)
theorem J5 (k:Nat)(v:AV)(h:v.names k=false):v.isLoc k=false:=by
 cases v<;>simp_all [AV.names,AV.isLoc,AV.names1,AV.isLoc1]
 all_goals grind [AV.names1,AV.isLoc1]
theorem A99 (k:Nat):∀r:List AV,M0 k r=true->Al0 k r=true
 |[],_=>rfl
 |v::r,h=>by
  simp only [M0,B6h,B7b]at h;simp only [Al0,J5 k v h.1,A99 k r h.2,B8s,B64]
theorem Acu (k:Nat):∀r:O4,B5 k r=true->P0 k r=true
 |[],_=>rfl
 |v::r,h=>by
  simp only [B5,B6h]at h;simp only [P0,A99 k v h.1,Acu k r h.2,B64]
theorem O7 {k:Nat}:∀{ob:OL},B8 k ob=true->Bmw k ob=true
 |[],_=>rfl
 |(j,o)::r,h=>by
  simp only [B8,B6h]at h;simp only [Bmw,Acu k _ h.1,O7 h.2,B64]
theorem W2 {k:Nat}:∀{l:FL},K4 k l=true->Bmv k l=true
 |[],_=>rfl
 |(j,v)::r,h=>by
  simp only [K4,B6h,B7b]at h;simp only [Bmv,J5 k v h.1,W2 h.2,B8s,B64]
theorem Bz7 {lo hi k:Nat}{ob:OL}(h:Kf lo hi ob)(h1:lo<=k%KT)(h2:k%KT<hi):del ob k=ob:=by
 refine D1 _ _ ?_;cases hg:get ob k with
 |none=>rfl
 |some o=>
  exfalso;have:∀{l:OL}{o:Obj},get l k=some o->∃p∈l,p.1=k:=by
   intro l
   induction l with
   |nil=>intro o h;simp [Go.Am.get]at h
   |cons q l ih=>
    grind [Go.Am.get,List.mem_cons_of_mem]
  grind [Af4]
def M5 (fs:List Nat)(k:Nat):Bool:=fs.contains (k%KT/1000)
def B3f (q:Nat->Bool)(v:AV):Prop:=∀k,q k=true->v.names k=false
def U7 (fs:List Nat)(ob:OL):Prop:=∀p∈ob,M5 fs p.1=false/\∀r∈p.2.rows,∀v∈r,B3f (M5 fs) v
def NoF (fs:List Nat)(gs:FL):Prop:=Gh gs/\∀p∈gs,B3f (M5 fs) p.2
theorem Ahu {fs fs':List Nat}(h:∀f∈fs',f∈fs){k:Nat}(hk:M5 fs' k=true):M5 fs k=true:=by
 grind [M5]
theorem U7.mono {fs fs':List Nat}{ob:OL}(h:U7 fs ob)(hs:∀f∈fs',f∈fs):U7 fs' ob:=λ p hp=>by
 obtain⟨h1,h2⟩:=h p hp;refine⟨?_,λ r hr v hv k hk=>h2 r hr v hv k (Ahu hs hk)⟩
 cases h3:M5 fs' p.1 with
 |false=>rfl
 |true=>rw [Ahu hs h3]at h1;simp at h1
theorem NoF.mono {fs fs':List Nat}{gs:FL}(h:NoF fs gs)(hs:∀f∈fs',f∈fs):NoF fs' gs:=⟨h.1,λ p hp k hk=>h.2 p hp k (Ahu hs hk)⟩
theorem A5 {k:Nat}:∀{rows:O4},B5 k rows=true↔∀r∈rows,∀v∈r,v.names k=false
 |[]=>by simp [B5]
 |r::rows=>by
  have hr:∀r:List AV,M0 k r=true↔∀v∈r,v.names k=false:=λ r=>by
   induction r with
   |nil=>simp [M0]
   |cons v r ih=>simp [M0,ih]
  simp only [B5,B6h,hr,A5 (rows:=rows),B6r,forall_eq_or_imp]
theorem Ae0 {fs:List Nat}{k:Nat}{o:Obj}{ob:OL}:U7 fs ((k,o)::ob)↔M5 fs k=false/\(∀j,M5 fs j=true->B5 j o.rows=true)/\U7 fs ob:=by
 constructor
 ·intro h;obtain⟨h1,h2⟩:=h (k,o) (by simp)
  exact⟨h1,λ j hj=>A5.2 λ r hr v hv=>h2 r hr v hv j hj,λ p hp=>h p (B7g _ hp)⟩
 ·rintro⟨h1,h2,h3⟩ p hp;rcases B6r.1 hp with rfl|hp
  ·exact⟨h1,λ r hr v hv j hj=>A5.1 (h2 j hj) r hr v hv⟩
  ·exact h3 p hp
theorem Bwj (fs:List Nat):U7 fs []:=λ p hp=>by simp at hp
theorem U7.nm {fs:List Nat}{ob:OL}(h:U7 fs ob){k:Nat}(hk:M5 fs k=true):B8 k ob=true:=C8.2 λ p hp=>A5.2 λ r hr v hv=>(h p hp).2 r hr v hv k hk
theorem U7.none {fs:List Nat}{ob:OL}(h:U7 fs ob){k:Nat}(hk:M5 fs k=true):get ob k=none:=by
 cases hg:get ob k with
 |none=>rfl
 |some o=>have:=(h _ (B0 hg)).1;simp only at this;rw [hk]at this;simp at this
theorem U7.del {fs:List Nat}{ob:OL}(h:U7 fs ob){k:Nat}(hk:M5 fs k=true):Am.del ob k=ob:=D1 _ _ (h.none hk)
theorem U7.kf {fs:List Nat}{ob:OL}(h:U7 fs ob){f:Nat}(hf:f∈fs):Kf (1000*f) (1000*f+1000) ob:=Af4.2 λ p hp=>by
 have h1:=(h p hp).1;grind [M5,KT,Nat.not_lt]
theorem Alf {k:Nat}:∀{l:FL},K4 k l=true↔∀p∈l,p.2.names k=false
 |[]=>by simp [K4]
 |(i,v)::l=>by simp [K4,Alf (l:=l)]
theorem Ag7 {d k:Nat}:∀{l:FL},K4 k l=true->A2c d k l=true
 |[],_=>rfl
 |(i,v)::l,h=>by
  simp only [K4,B6h]at h;simp only [A2c,h.1,Ag7 h.2,Bool.or_true,B64]
theorem NoF.nm {fs:List Nat}{gs:FL}(h:NoF fs gs){k:Nat}(hk:M5 fs k=true):K4 k gs=true:=Alf.2 λ p hp=>h.2 p hp k hk
theorem Bg6 {fs:List Nat}{ob:OL}(h:U7 fs ob)(k:Nat):U7 fs (del ob k):=λ p hp=>h p (O3 hp)
abbrev W4 :=Int×Int×Int×Int
def U8 (w:W4):List D:=[.int .i64 w.1,.int .i64 w.2.1,.int .i64 w.2.2.1,.int .i64 w.2.2.2]
def w4R (w:W4):List AV:=A4 (U8 w)
abbrev K3 :=Int×Int×Int
def U5 (k:K3):List D:=[.int .i64 k.1,.int .i64 k.2.1,.int .i64 k.2.2]
abbrev kk3 :KK:=(true,[.int .i64,.int .i64,.int .i64])
structure HQ where
 b:Nat
 k:K3
 ky:Nat
 gone:List W4
 l:List W4
def HQ.val (e:HQ):AV:= .sl e.ky (e.gone.length+e.l.length) e.gone.length e.l.length
def HQ.row (e:HQ):List AV:=[.c (.int .i64 e.b),.agg (U5 e.k),e.val]
def HQ.obj (e:HQ):Obj:=⟨4,(e.gone++e.l).map w4R⟩
def I6 :List HQ->K3->Nat->Option (Nat×HQ)
 |[],_,_=>none
 |e::r,k,i=>if e.k=k then some (i,e)else I6 r k (i+1)
theorem B2n (a b:K3):As5 kk3 (.agg (U5 a)) (.agg (U5 b))=some (decide (a=b)):=by
 obtain⟨a1,a2,a3⟩:=a;obtain⟨b1,b2,b3⟩:=b;simp [As5,U5,L9,eqK,B6k]
theorem Aek (k:K3):∀(qs:List HQ)(i:Nat),Ah5 kk3 (.agg (U5 k)) (qs.map HQ.row) i=some ((I6 qs k i).map λ p=>(p.1,p.2.val))
 |[],i=>rfl
 |e::qs,i=>by
  simp only [B6v,HQ.row,Ah5,B2n,I6];by_cases h:k=e.k
  ·simp [h]
  ·have h':¬e.k=k:=λ h2=>h h2.symm
   simp only [h,decide_false,B6j h'];exact Aek k qs (i+1)
theorem H2 {k:K3}:∀{qs:List HQ}{i j:Nat}{e:HQ},I6 qs k i=some (j,e)->i<=j/\qs[j-i]? =some e/\e.k=k
 |[],i,j,e,h=>by simp [I6]at h
 |x::qs,i,j,e,h=>by
  simp only [I6]at h;split at h
  ·rename_i hk;simp only [B6g,B6k]at h;obtain⟨rfl,rfl⟩:=h;exact⟨B6u _,by simp,hk⟩
  ·obtain⟨h1,h2,h3⟩:=H2 h;refine⟨by omega,?_,h3⟩
   rw [show j-i=(j-(i+1))+1 by omega,B8v];exact h2
theorem Ax2 {k:K3}:∀{qs:List HQ}{i:Nat},I6 qs k i=none->∀e∈qs,e.k≠k
 |[],i,_,e,he=>by simp at he
 |x::qs,i,h,e,he=>by
  simp only [I6]at h;split at h
  ·simp at h
  ·rename_i hk;rcases B6r.1 he with rfl|he
   ·exact hk
   ·exact Ax2 h e he
def L7 :List HQ->K3->List W4
 |[],_=>[]
 |e::r,k=>if e.k=k then e.l else L7 r k
theorem P6 {qs:List HQ}{k:K3}(i:Nat):L7 qs k=match I6 qs k i with|some (_,e)=>e.l|none=>[]:=by
 induction qs generalizing i with
 |nil=>rfl
 |cons x qs ih=>
  simp only [L7,I6];split
  ·rfl
  ·exact ih (i+1)
structure HC where
 b:Nat
 f:Int
 d:Int
 n:Int
 c:Int
def HC.row (e:HC):List AV:=[.c (.int .i64 e.b),.agg [.int .i64 e.f,.int .i64 e.d],.agg [.int .i64 e.n,.int .i64 e.c]]
abbrev kk2 :KK:=(true,[.int .i64,.int .i64])
def P5 :List HC->Int->Int->Nat->Option (Nat×HC)
 |[],_,_,_=>none
 |e::r,f,d,i=>if e.f=f/\e.d=d then some (i,e)else P5 r f d (i+1)
theorem Ajb (f d:Int):∀(cs:List HC)(i:Nat),Ah5 kk2 (.agg [.int .i64 f,.int .i64 d]) (cs.map HC.row) i=some ((P5 cs f d i).map λ p=>(p.1,.agg [.int .i64 p.2.n,.int .i64 p.2.c]))
 |[],i=>rfl
 |e::cs,i=>by
  have h0:As5 kk2 (.agg [.int .i64 f,.int .i64 d]) (.agg [.int .i64 e.f,.int .i64 e.d])=some (decide (e.f=f/\e.d=d)):=by
   simp [As5,L9,eqK,eq_comm (a:=f),eq_comm (a:=d)]
  simp only [B6v,HC.row,Ah5,h0,P5];by_cases h:e.f=f/\e.d=d
  ·simp [h]
  ·simp only [h,decide_false,B7d];exact Ajb f d cs (i+1)
theorem Ax3 {f d:Int}:∀{cs:List HC}{i j:Nat}{e:HC},P5 cs f d i=some (j,e)->i<=j/\cs[j-i]? =some e/\e.f=f/\e.d=d
 |[],i,j,e,h=>by simp [P5]at h
 |x::cs,i,j,e,h=>by
  simp only [P5]at h;split at h
  ·rename_i hk;simp only [B6g,B6k]at h;obtain⟨rfl,rfl⟩:=h;exact⟨B6u _,by simp,hk⟩
  ·obtain⟨h1,h2,h3⟩:=Ax3 h;refine⟨by omega,?_,h3⟩
   rw [show j-i=(j-(i+1))+1 by omega,B8v];exact h2
theorem Ax4 {f d:Int}:∀{cs:List HC}{i:Nat},P5 cs f d i=none->∀e∈cs,¬(e.f=f/\e.d=d)
 |[],i,_,e,he=>by simp at he
 |x::cs,i,h,e,he=>by
  simp only [P5]at h;split at h
  ·simp at h
  ·rename_i hk;rcases B6r.1 he with rfl|he
   ·exact hk
   ·exact Ax4 h e he
def S4 (m:Option Nat)(z:Nat)(rows:O4)(ob:OL):Prop:=match m with
 |none=>rows=[]
 |some key=>get ob key=some ⟨z,rows⟩
def M4 :Option Nat->AV
 |none=> .ot .nm
 |some key=> .mp key
structure Cn (c:Nat)(ob:OL):Prop where
 cnt:I7 ob=c
 le:c<=1000000000
 a:∀n,c<=n->n<DB->get ob (DB+n)=none/\B8 (DB+n) ob=true
 m:∀n,c<=n->n<DB->get ob (MK+DB+n)=none/\B8 (MK+DB+n) ob=true
 nck:B8 CK ob=true
structure Cf (c:Nat)(gs:FL):Prop where
 a:∀n,c<=n->n<DB->K4 (DB+n) gs=true
 m:∀n,c<=n->n<DB->K4 (MK+DB+n) gs=true
 nck:K4 CK gs=true
theorem Cf.le {c c':Nat}{gs:FL}(h:Cf c gs)(hc:c<=c'):Cf c' gs:=⟨λ n h1 h2=>h.a n (by omega) h2,λ n h1 h2=>h.m n (by omega) h2,h.nck⟩
structure F6 (hk:Nat)(wm cm:Option Nat)(qs:List HQ)(cs:List HC)(n:Int)(c:Nat)(ob:OL):Prop where
 hall:get ob hk=some ⟨3,[[M4 wm,M4 cm,i64 n]]⟩
 wz:∃z,S4 wm z (qs.map HQ.row) ob/\∀e∈qs,e.b<z
 cz:∃z,S4 cm z (cs.map HC.row) ob/\∀e∈cs,e.b<z
 wk:∀k,wm=some k->MK+DB<=k/\k<MK+DB+c
 ck:∀k,cm=some k->MK+DB<=k/\k<MK+DB+c
 wc:∀k,wm=some k->cm≠some k
 q:∀e∈qs,get ob e.ky=some e.obj/\DB<=e.ky/\e.ky<DB+c/\e.l≠[]
 qb:(qs.map (·.b)).Nodup
 qy:(qs.map (·.ky)).Nodup
 qk:(qs.map (·.k)).Nodup
 cb:(cs.map (·.b)).Nodup
 cd:(cs.map λ e=>(e.f,e.d)).Nodup
 hb:hk<CK
def Ael (hk:Nat)(wm cm:Option Nat)(qs:List HQ)(k:Nat):Prop:=k=hk\/wm=some k\/cm=some k\/∃e∈qs,e.ky=k
def New (c c' k:Nat):Prop:=(∃n,c<=n/\n<c'/\k=DB+n)\/∃n,c<=n/\n<c'/\k=MK+DB+n
theorem Ajc {fs:List Nat}(hf:∀f∈fs,f<1000000){n:Nat}(hn:n<DB):M5 fs (DB+n)=false/\M5 fs (MK+DB+n)=false/\M5 fs CK=false:=by
 grind [DB,KT,Nat.mod_eq_of_lt,G1,MK,U2,CK,M5]
def A0r (n:Int):Int:=if n<0 then -1 else if 0<n then 1 else 0
def N0 (w:W4):K3:=(w.2.1,A0r (w.2.2.1-w.2.1),w.2.2.2)
def SmF (n:Int):Prop:= -4611686018427387904<=n/\n<=4611686018427387903
def Bwk (g:List AV->Option (List AV)):Prop:=∀n:Int,g [i64 n]=some [i64 (A0r n)]
theorem Av8 (Γ:H6)(M:Nat):Bwk (run Γ M Adk):=by
 intro n;unfold A0r;by_cases h1:n<0
 ·simp -implicitDefEqProofs (disch:=omega) [h1]
 ·by_cases h2:0<n
  ·simp -implicitDefEqProofs (disch:=omega) [h1,h2]
  ·simp -implicitDefEqProofs (disch:=omega) [h1,h2]
def Avm (g:List AV->Option (List AV)):Prop:=∀a b:Int,SmF a->SmF b->g [i64 a,i64 b]=some [i64 (A0r (b-a))]
theorem A0s (Γ:H6)(M:Nat)(hS:Bwk (Γ 178)):Avm (run Γ M Afn):=by
 intro a b ha hb;obtain⟨a1,a2⟩:=ha;obtain⟨b1,b2⟩:=hb;have e:=hS (b-a);simp -implicitDefEqProofs (disch:=omega) [e]
structure SmW (w:W4):Prop where
 a:SmF w.2.1
 b:SmF w.2.2.1
def Bg7 (g:List AV->Option (List AV)):Prop:=∀w:W4,SmW w->g [.agg (U8 w)]=some [.agg (U5 (N0 w))]
theorem A41 (Γ:H6)(M:Nat)(hD:Avm (Γ 173)):Bg7 (run Γ M Aig):=by
 intro w hw;obtain⟨a,b,c,d⟩:=w;have e:=hD b c hw.a hw.b;simp -implicitDefEqProofs (disch:=omega) [e,U8,U5,N0]
def Al4 (g:List AV->Option (List AV)):Prop:=∀a b:Int,g [i64 a,i64 b]=some [.agg [.int .i64 a,.int .i64 b]]
theorem Akf (Γ:H6)(M:Nat):Al4 (run Γ M W9):=by
 intro a b;simp -implicitDefEqProofs (disch:=omega)
def A2d :AC:= .seq (.reg Br4) (.keepP [0,3,8] 508000 509000 [508003,1461501637330902918203684832716283019655933050986,508028] (.cond (.t 8) (.keepP [0,3] 508000 509000 [508003,1461501637330902918203684832716283019655933050986,508028] (.renA 1461501637330902918203684832716283019655933050986 (.reg Br3))) (.skip)))
theorem A7 {α:Type}{l:List (Nat×α)}{j:Nat}(k:Nat)(h:get l j=none):get (del l k) j=none:=by
 rw [B3];split
 ·rfl
 ·exact h
theorem Ai1 {m:Option Nat}{k:Nat}(h:∀j,m=some j->j≠k):(M4 m).names k=false:=by
 cases m with
 |none=>rfl
 |some j=>simp [M4,AV.names,AV.names1,h j rfl]
structure CmO (w:W4)(ob:OL):Prop where
 b:get ob 508003=some ⟨4,[w4R w]⟩
 k:∀os,508003∈os->A1 508000 509000 os ob=ob
 n:∀k,k%KT/1000=508->B8 k ob=true
 x:∀k,k%KT/1000=508->k≠508003->get ob k=none
theorem Bkd (Γ:H6)(M:Nat)(w:W4)(hk:Nat)(cm:Option Nat)(n:Int)(c:Nat)(gs:FL)(ob:OL)(hO:CmO w ob)(hF:NoF [508] gs)(hC:Cn c ob)(jX:Cf c gs)(hh:get ob hk=some ⟨3,[[.ot .nm,M4 cm,i64 n]]⟩)(hb:hk<CK)(aH:hk%KT/1000≠508)(gL:∀k,cm=some k->MK+DB<=k/\k<MK+DB+c):
  exec Γ M A2d ⟨(0,.loc hk 0 0)::(3,.loc 508003 0 0)::gs,ob⟩=some (.norm,⟨(12,.loc hk 0 0)::(11,.loc hk 0 0)::(10,.mp (MK+DB+c))::(9,.loc hk 0 0)::(0,.loc hk 0 0)::(3,.loc 508003 0 0)::gs,(CK,⟨c+1,[]⟩)::(hk,⟨3,[[.mp (MK+DB+c),M4 cm,i64 n]]⟩)::(MK+DB+c,⟨0,[]⟩)::del (del ob hk) CK⟩):=by
 have g:=hF.1;have e1:=hO.k;have e2:=hO.b;have nW:=hO.n 1461501637330902918203684832716283019655933050986 (by rw [G1])
 have xW:=hO.x 1461501637330902918203684832716283019655933050986 (by rw [G1]) (by omega)
 have dW:=D1 _ _ xW;have fW:=hF.nm (k:=1461501637330902918203684832716283019655933050986) (by decide)
 have vG:¬hk=1461501637330902918203684832716283019655933050986:=by rintro rfl;exact aH (by rw [G1])
 have qA:=B6i vG;have sJ:¬hk=900000000000000000:=by unfold CK at hb;omega
 have vH:¬hk=1461501637330902918203684832717283019655932542976+c:=by unfold CK at hb;omega
 have eL:MK+DB+c=1461501637330902918203684832717283019655932542976+c:=by rw [U2];unfold DB;omega
 have hm:=hC.m c (B6u _) (by have:=hC.le;unfold DB;omega)
 have fm:=jX.m c (B6u _) (by have:=hC.le;unfold DB;omega)
 rw [eL]at hm fm ⊢;obtain⟨cC,dV⟩:=hm;have nV:Bgk (get ob 900000000000000000)=c:=by rw [<-Ak7];exact hC.cnt
 have sL:get (del ob hk) 900000000000000000=get ob 900000000000000000:=by rw [B3,B6j (B6i sJ)]
 have bI:B8 900000000000000000 ob=true:=hC.nck;have oF:K4 900000000000000000 gs=true:=jX.nck;have cI:c<1000000000000000000:=by have:=hC.le;omega
 have sM:=λ k=>A7 k (A7 hk cC)
 have gM:=A7 hk cC;have n1:∀k j i,B8 k ob=true->B8 k (del (del ob i) j)=true:=λ k j i h=>C3 (C3 h)
 have n2:∀k i,B8 k ob=true->B8 k (del ob i)=true:=λ k i h=>C3 h
 have eW:=Ahs (a:=1461501637330902918203684832716283019655933050986) (b:=1461501637330902918203684832717283019655932542976+c) (l:=del (del ob hk) 900000000000000000) (n1 _ _ _ nW) (A7 _ (A7 _ xW));have eF:=Ak6 (a:=1461501637330902918203684832716283019655933050986) (b:=1461501637330902918203684832717283019655932542976+c) fW;have fU:del (del ob hk) (1461501637330902918203684832717283019655932542976+c)=del ob hk:=D1 _ _ gM;have vI:¬(1461501637330902918203684832716283019655933050986:Nat)=1461501637330902918203684832717283019655932542976+c:=by omega
 have e3:(M4 cm).names 900000000000000000=false/\(M4 cm).names 1461501637330902918203684832716283019655933050986=false/\(M4 cm).names (1461501637330902918203684832717283019655932542976+c)=false:=by
  grind [MK,DB,U2,Ai1]
 have b1:(hk==900000000000000000)=false:=beq_false_of_ne sJ;have b2:(hk==1461501637330902918203684832717283019655932542976+c)=false:=beq_false_of_ne vH;have b3:((1461501637330902918203684832716283019655933050986:Nat)==1461501637330902918203684832717283019655932542976+c)=false:=beq_false_of_ne vI;have b4:((508003:Nat)==1461501637330902918203684832717283019655932542976+c)=false:=beq_false_of_ne (by omega)
 have aS:MK+DB=1461501637330902918203684832717283019655932542976:=by rw [U2];unfold DB;omega
 cases cm with
 |none=>
  simp only [M4]at hh e3 ⊢;simp -implicitDefEqProofs (disch:=first|omega|(simp [g];done)|assumption) [A2d,g,e1,e2,hh,nW,dW,fW,vG,qA,sJ,vH,nV,sL,bI,oF,cI,sM,gM,n1,n2,cC,dV,fm,eW,eF,fU,vI,e3,b1,b2,b3,b4,CK]
 |some j=>
  have hj:=gL j rfl;rw [aS]at hj;have hjW:¬j=1461501637330902918203684832716283019655933050986:=by omega
  have b5:(j==900000000000000000)=false:=beq_false_of_ne (by omega)
  have b6:(j==1461501637330902918203684832717283019655932542976+c)=false:=beq_false_of_ne (by omega)
  have b7:(j==1461501637330902918203684832716283019655933050986)=false:=beq_false_of_ne (by omega)
  simp only [M4]at hh e3 ⊢;simp -implicitDefEqProofs (disch:=first|omega|(simp [g];done)|assumption) [A2d,g,e1,e2,hh,nW,dW,fW,vG,qA,sJ,vH,nV,sL,bI,oF,cI,sM,gM,n1,n2,cC,dV,fm,eW,eF,fU,vI,e3,b1,b2,b3,b4,b5,b6,b7,hjW,CK]
def A2e :AC:= .renA 508028 (.draw Bgm [] [(15,(some 28),.appM 508028 4 32 (.t 25) (.t 27),[1,2,3],[4,5,6,7,8,9,10,11,12,13,14])] Br2)
theorem X9 (k:Nat)(l:List W4):B5 k (l.map w4R)=true:=A5.2 λ r hr v hv=>by
 obtain⟨w,_,rfl⟩:=B6z.1 hr;simp only [w4R,A4,U8,B6v,B8a,B6r,B7a,or_false]at hv;rcases hv with rfl|rfl|rfl|rfl<;>rfl
theorem Ato {k:Nat}{rows:O4}(h:B5 k rows=true)(i:Nat):B5 k (rows.take i)=true:=A5.2 λ r hr=>A5.1 h r (List.mem_of_mem_take hr)
theorem Atp {k:Nat}{rows:O4}(h:B5 k rows=true)(i:Nat):B5 k (rows.drop i)=true:=A5.2 λ r hr=>A5.1 h r (List.mem_of_mem_drop hr)
theorem Bke (Γ:H6)(M:Nat)(qB:Bg7 (Γ 507))(w:W4)(hw:SmW w)(hk K:Nat)(cv:AV)(n:Int)(c z:Nat)(qs:List HQ)(gs:FL)(ob:OL)(hO:CmO w ob)(hF:NoF [508] gs)(hC:Cn c ob)(jX:Cf c gs)(hh:get ob hk=some ⟨3,[[.mp K,cv,i64 n]]⟩)(cZ:MK+DB<=K)(hm:get ob K=some ⟨z,qs.map HQ.row⟩)(hb:hk<CK)(aH:hk%KT/1000≠508)
  (hf:I6 qs (N0 w) 0=none):
  (exec Γ M A2e ⟨(0,.loc hk 0 0)::(3,.loc 508003 0 0)::gs,ob⟩).map (λ p=>(p.1,p.2.ob))=some (.norm,(CK,⟨c+1,[]⟩)::(K,⟨z+1,qs.map HQ.row++[[.c (.int .i64 z),.agg (U5 (N0 w)),.sl (DB+c) 1 0 1]]⟩)::(DB+c,⟨4,[w4R w]⟩)::del (del ob K) CK):=by
 have g:=hF.1;have e1:=hO.k;have e2:=hO.b;have e4:=qB w hw;have nW:=hO.n 508028 (by rw [G1])
 have xW:=hO.x 508028 (by rw [G1]) (by omega)
 have dW:=D1 _ _ xW;have fW:=hF.nm (k:=508028) (by decide)
 have mf:=Aek (N0 w) qs 0;rw [hf]at mf;simp only [B8t]at mf;have fS:¬hk=K:=by unfold CK at hb;unfold DB at cZ;rw [U2]at cZ;omega
 simp only [U8,U5]at e4 mf;have aS:MK+DB=1461501637330902918203684832717283019655932542976:=by rw [U2];unfold DB;omega
 have fV:DB+c=1000000000000000000+c:=by unfold DB;omega
 rw [aS]at cZ;unfold CK at hb;have k1:¬K=508028:=by omega
 have k2:¬hk=508028:=by rintro rfl;exact aH (by rw [G1])
 have k3:¬K=900000000000000000:=by omega
 have k4:¬K=1000000000000000000+c:=by have:=hC.le;omega
 have k5:¬hk=1000000000000000000+c:=by omega
 have k6:¬hk=900000000000000000:=by omega
 have k1':=B6i k1;have k3':=B6i k3;have k2':=B6i k2;have k4':=B6i k4;obtain⟨mO,qC⟩:=hC.a c (B6u _) (by have:=hC.le;unfold DB;omega)
 have fa:=jX.a c (B6u _) (by have:=hC.le;unfold DB;omega)
 rw [fV]at mO qC fa;have nV:Bgk (get ob 900000000000000000)=c:=by rw [<-Ak7];exact hC.cnt
 have sL:get (del ob K) 900000000000000000=get ob 900000000000000000:=by rw [B3,B6j k3']
 have bI:B8 900000000000000000 ob=true:=hC.nck;have oF:K4 900000000000000000 gs=true:=jX.nck;have cI:c<1000000000000000000:=by have:=hC.le;omega
 have sM:=λ k=>A7 k (A7 K mO)
 have gM:=A7 K mO;have n1:∀k j i,B8 k ob=true->B8 k (del (del ob i) j)=true:=λ k j i h=>C3 (C3 h)
 have n2:∀k i,B8 k ob=true->B8 k (del ob i)=true:=λ k i h=>C3 h
 have aM:∀k,B8 k ob=true->B5 k (qs.map HQ.row)=true:=λ k h=>C8.1 h (K,⟨z,qs.map HQ.row⟩) (B0 hm)
 have aZ:=aM _ nW;have dQ:=aM _ bI;have nP:=aM _ qC;have mY:=Aan (a:=508028) (b:=1000000000000000000+c) aZ;have eW:=Ahs (a:=508028) (b:=1000000000000000000+c) (l:=del (del ob K) 900000000000000000) (n1 _ _ _ nW) (A7 _ (A7 _ xW));have eF:=Ak6 (a:=508028) (b:=1000000000000000000+c) fW;have fU:del (del ob K) (1000000000000000000+c)=del ob K:=D1 _ _ gM;have lL:∀(s:St)(v:AV),Aq3 K (true,[.int .i64,.int .i64,.int .i64]) (.agg [.int .i64 (N0 w).1,.int .i64 (N0 w).2.1,.int .i64 (N0 w).2.2]) v ⟨z,qs.map HQ.row⟩ s=some (s.obj K ⟨z+1,qs.map HQ.row++[[.c (.int .i64 z),.agg [.int .i64 (N0 w).1,.int .i64 (N0 w).2.1,.int .i64 (N0 w).2.2],v]]⟩):=λ s v=>by simp only [Aq3,mf]
 have b1:(hk==900000000000000000)=false:=beq_false_of_ne k6;have b2:(hk==1000000000000000000+c)=false:=beq_false_of_ne k5;have b3:(K==900000000000000000)=false:=beq_false_of_ne k3;have b4:(K==1000000000000000000+c)=false:=beq_false_of_ne k4;have b5:((508028:Nat)==1000000000000000000+c)=false:=beq_false_of_ne (by omega)
 have b6:((508003:Nat)==1000000000000000000+c)=false:=beq_false_of_ne (by omega)
 have b7:(K==508028)=false:=beq_false_of_ne k1;have b8:(hk==508028)=false:=beq_false_of_ne k2;have b9:¬(508028:Nat)=1000000000000000000+c:=by omega
 simp -implicitDefEqProofs (disch:=first|omega|(simp [g];done)|assumption) [A2e,g,e1,e2,hh,hm,e4,nW,dW,fW,mf,w4R,U8,U5,fS,k1,k2,k3,k4,k5,k6,k1',k2',k3',k4',mO,qC,fa,nV,sL,bI,oF,cI,sM,gM,n1,n2,aZ,dQ,nP,mY,eW,eF,fU,b1,b2,b3,b4,b5,b6,b7,b8,b9,lL,CK,fV]
theorem Bkf (Γ:H6)(M:Nat)(qB:Bg7 (Γ 507))(w:W4)(hw:SmW w)(hk K:Nat)(cv:AV)(n:Int)(c z:Nat)(qs:List HQ)(gs:FL)(ob:OL)(hO:CmO w ob)(hF:NoF [508] gs)(hC:Cn c ob)(jX:Cf c gs)(hh:get ob hk=some ⟨3,[[.mp K,cv,i64 n]]⟩)(cZ:MK+DB<=K)(hm:get ob K=some ⟨z,qs.map HQ.row⟩)(hb:hk<CK)(aH:hk%KT/1000≠508)
  (i:Nat)(e:HQ)(hf:I6 qs (N0 w) 0=some (i,e))(hq:get ob e.ky=some e.obj)(tN:DB<=e.ky)(rY:e.ky<DB+c)(hl:e.l≠[])(aF:e.l.length<1000000):
  (exec Γ M A2e ⟨(0,.loc hk 0 0)::(3,.loc 508003 0 0)::gs,ob⟩).map (λ p=>(p.1,p.2.ob))=some (.norm,(CK,⟨c+1,[]⟩)::(K,⟨z,setRow (qs.map HQ.row) i [.c (.int .i64 e.b),.agg (U5 (N0 w)),.sl (DB+c) (e.l.length+1) 0 (e.l.length+1)]⟩)::(DB+c,⟨4,(e.l++[w]).map w4R⟩)::del (del (del ob e.ky) K) CK):=by
 have g:=hF.1;have e1:=hO.k;have e2:=hO.b;have e4:=qB w hw;have nW:=hO.n 508028 (by rw [G1])
 have xW:=hO.x 508028 (by rw [G1]) (by omega)
 have dW:=D1 _ _ xW;have fW:=hF.nm (k:=508028) (by decide)
 have mf:=Aek (N0 w) qs 0;rw [hf]at mf;simp only [B7h]at mf;obtain⟨_,iG,lM⟩:=H2 hf;rw [B78]at iG;have fS:¬hk=K:=by unfold CK at hb;unfold DB at cZ;rw [U2]at cZ;omega
 simp only [U8,U5]at e4 mf;have aS:MK+DB=1461501637330902918203684832717283019655932542976:=by rw [U2];unfold DB;omega
 have fV:DB+c=1000000000000000000+c:=by unfold DB;omega
 rw [aS]at cZ;unfold CK at hb;have k1:¬K=508028:=by omega
 have k2:¬hk=508028:=by rintro rfl;exact aH (by rw [G1])
 have k3:¬K=900000000000000000:=by omega
 have k4:¬K=1000000000000000000+c:=by have:=hC.le;omega
 have k5:¬hk=1000000000000000000+c:=by omega
 have k6:¬hk=900000000000000000:=by omega
 have k1':=B6i k1;have k3':=B6i k3;have k2':=B6i k2;have k4':=B6i k4;obtain⟨mO,qC⟩:=hC.a c (B6u _) (by have:=hC.le;unfold DB;omega)
 have fa:=jX.a c (B6u _) (by have:=hC.le;unfold DB;omega)
 rw [fV]at mO qC fa;have nV:Bgk (get ob 900000000000000000)=c:=by rw [<-Ak7];exact hC.cnt
 have sL:get (del ob K) 900000000000000000=get ob 900000000000000000:=by rw [B3,B6j k3']
 have bI:B8 900000000000000000 ob=true:=hC.nck;have oF:K4 900000000000000000 gs=true:=jX.nck;have cI:c<1000000000000000000:=by have:=hC.le;omega
 have sM:=λ k=>A7 k (A7 K mO)
 have gM:=A7 K mO;have n1:∀k j i,B8 k ob=true->B8 k (del (del ob i) j)=true:=λ k j i h=>C3 (C3 h)
 have n2:∀k i,B8 k ob=true->B8 k (del ob i)=true:=λ k i h=>C3 h
 have aM:∀k,B8 k ob=true->B5 k (qs.map HQ.row)=true:=λ k h=>C8.1 h (K,⟨z,qs.map HQ.row⟩) (B0 hm)
 have aZ:=aM _ nW;have dQ:=aM _ bI;have nP:=aM _ qC;have mY:=Aan (a:=508028) (b:=1000000000000000000+c) aZ;have eW:=Ahs (a:=508028) (b:=1000000000000000000+c) (l:=del (del ob K) 900000000000000000) (n1 _ _ _ nW) (A7 _ (A7 _ xW));have eF:=Ak6 (a:=508028) (b:=1000000000000000000+c) fW;have fU:del (del ob K) (1000000000000000000+c)=del ob K:=D1 _ _ gM;obtain⟨eb,ek,ky,gone,l⟩:=e;simp only at lM tN rY hl aF hq;subst lM;simp only [HQ.val,HQ.obj]at mf hq;rw [show DB=1000000000000000000 from rfl]at tN rY
 have y1:¬ky=508028:=by omega
 have y2:¬ky=hk:=by omega
 have y3:¬ky=K:=by omega
 have y4:¬ky=900000000000000000:=by omega
 have y5:¬ky=1000000000000000000+c:=by omega
 have y2':=B6i y2;have y3':=B6i y3;have y4':=B6i y4;have y5':=B6i y5;have b10:(ky==900000000000000000)=false:=beq_false_of_ne y4;have b11:(ky==1000000000000000000+c)=false:=beq_false_of_ne y5;have b12:(ky==508028)=false:=beq_false_of_ne y1;have iE:0<l.length:=B9e.2 hl;have gU:List.drop gone.length (List.map w4R (gone++l))=List.map w4R l:=by rw [B60,List.drop_left' (by simp)]
 have gX:(List.map w4R (gone++l)).length=gone.length+l.length:=by simp
 have iZ:Ac4 (qs.map HQ.row) i= .c (.int .i64 eb):=by
  unfold Ac4;rw [B7m,iG];rfl
 have lL:∀(s:St)(v:AV),Aq3 K (true,[.int .i64,.int .i64,.int .i64]) (.agg [.int .i64 (N0 w).1,.int .i64 (N0 w).2.1,.int .i64 (N0 w).2.2]) v ⟨z,qs.map HQ.row⟩ s=some (s.obj K ⟨z,setRow (qs.map HQ.row) i [.c (.int .i64 eb),.agg [.int .i64 (N0 w).1,.int .i64 (N0 w).2.1,.int .i64 (N0 w).2.2],v]⟩):=λ s v=>by simp only [Aq3,mf,iZ]
 have dW2:del (del ob ky) 508028=del ob ky:=D1 _ _ (A7 _ xW);have dd2:get (del ob ky) K=get ob K:=by rw [B3,B6j y3']
 have m1:=λ k (h:B5 k (qs.map HQ.row)=true)=>Ato h i
 have m2:=λ k (h:B5 k (qs.map HQ.row)=true)=>Atp h (i+1)
 have m3:=Aan (b:=1000000000000000000+c) (m1 _ aZ);have m4:=Aan (b:=1000000000000000000+c) (m2 _ aZ);have m5:=λ k=>X9 k l
 have m6:=Aan (b:=1000000000000000000+c) (m5 508028);have n3:∀k j i g,B8 k ob=true->B8 k (del (del (del ob g) i) j)=true:=λ k j i g h=>C3 (C3 (C3 h))
 have eW2:=Ahs (a:=508028) (b:=1000000000000000000+c) (l:=del (del (del ob ky) K) 900000000000000000) (n3 _ _ _ _ nW) (A7 _ (A7 _ (A7 _ xW)));have hmd2:=λ k=>A7 k (A7 K (A7 ky mO))
 have yH:=A7 K (A7 ky mO);have hdd2:del (del (del ob ky) K) (1000000000000000000+c)=del (del ob ky) K:=D1 _ _ yH;have hcx2:get (del (del ob ky) K) 900000000000000000=get ob 900000000000000000:=by rw [B3,B6j k3',B3,B6j y4']
 have dd:get (del ob ky) hk=get ob hk:=by rw [B3,B6j y2']
 have b1:(hk==900000000000000000)=false:=beq_false_of_ne k6;have b2:(hk==1000000000000000000+c)=false:=beq_false_of_ne k5;have b3:(K==900000000000000000)=false:=beq_false_of_ne k3;have b4:(K==1000000000000000000+c)=false:=beq_false_of_ne k4;have b5:((508028:Nat)==1000000000000000000+c)=false:=beq_false_of_ne (by omega)
 have b6:((508003:Nat)==1000000000000000000+c)=false:=beq_false_of_ne (by omega)
 have b7:(K==508028)=false:=beq_false_of_ne k1;have b8:(hk==508028)=false:=beq_false_of_ne k2;have b9:¬(508028:Nat)=1000000000000000000+c:=by omega
 simp -implicitDefEqProofs (disch:=first|omega|(simp [g];done)|assumption) [A2e,g,e1,e2,hh,hm,e4,nW,dW,fW,mf,w4R,U8,U5,fS,k1,k2,k3,k4,k5,k6,k1',k2',k3',k4',mO,qC,fa,nV,sL,bI,oF,cI,sM,gM,n1,n2,aZ,dQ,nP,mY,eW,eF,fU,b1,b2,b3,b4,b5,b6,b7,b8,b9,lL,CK,fV,HQ.val,hq,y1,y2,y3,y4,y5,y2',y3',y4',y5',b10,b11,b12,iE,gU,gX,dW2,dd,dd2,m1,m2,m3,m4,m5,m6,n3,eW2,hmd2,yH,hdd2,hcx2]
theorem Bcz {rows:O4}{i:Nat}{r:List AV}(h:i<rows.length):setRow rows i r=rows.set i r:=by
 grind [setRow,List.set_eq_take_append_cons_drop]
def Aco (qs:List HQ)(w:W4)(z c:Nat):List HQ:=match I6 qs (N0 w) 0 with
 |none=>qs++[⟨z,N0 w,DB+c,[],[w]⟩]
 |some (i,e)=>qs.set i ⟨e.b,e.k,DB+c,[],e.l++[w]⟩
theorem A8t (qs:List HQ)(e:HQ)(k:K3):L7 (qs++[e]) k=match I6 qs k 0 with|some (_,x)=>x.l|none=>if e.k=k then e.l else []:=by
 have:∀(qs:List HQ)(i:Nat),L7 (qs++[e]) k=match I6 qs k i with|some (_,x)=>x.l|none=>if e.k=k then e.l else []:=by
  intro qs
  induction qs with
  |nil=>intro i;simp [L7,I6]
  |cons x qs ih=>
   grind [L7,I6]
 exact this qs 0
theorem Baa {k:K3}:∀{qs:List HQ}{i:Nat}{e e':HQ},qs[i]? =some e->e'.k=e.k->(qs.map (·.k)).Nodup->L7 (qs.set i e') k=if e.k=k then e'.l else L7 qs k
 |[],i,e,e',h,_,_=>by simp at h
 |x::qs,0,e,e',h,hk,_=>by
  grind [List.getElem?_cons_zero,L7]
 |x::qs,i+1,e,e',h,hk,hn=>by
  simp only [B8v]at h;simp only [B6v,B83]at hn;simp only [B9i,L7,Baa h hk hn.2];grind [List.mem_of_getElem?]
theorem A3m {qs:List HQ}{w:W4}{z c:Nat}(hn:(qs.map (·.k)).Nodup)(k:K3):L7 (Aco qs w z c) k=if N0 w=k then L7 qs k++[w]else L7 qs k:=by
 unfold Aco;cases hf:I6 qs (N0 w) 0 with
 |none=>
  simp only [A8t];by_cases hk:N0 w=k
  ·subst hk;rw [P6 0,hf];simp
  ·rw [B6j hk,B6j hk,P6 0]<;>cases I6 qs k 0<;>rfl
 |some p=>
  obtain⟨i,e⟩:=p;obtain⟨_,h2,h3⟩:=H2 hf;rw [B78]at h2;simp only;rw [Baa (e':=⟨e.b,e.k,DB+c,[],e.l++[w]⟩) h2 rfl hn,h3];by_cases hk:N0 w=k
  ·subst hk;rw [B6l rfl,B6l rfl,P6 0,hf]
  ·rw [B6j hk,B6j hk]
theorem X2 {α β:Type}(f:α->β):∀{l:List α}{i:Nat}{a b:α},l[i]? =some a->f b=f a->(l.set i b).map f=l.map f
 |[],i,a,b,h,_=>by simp at h
 |x::l,0,a,b,h,hf=>by simp only [B8u,B6g]at h;subst h;simp [hf]
 |x::l,i+1,a,b,h,hf=>by simp only [B8v]at h;simp only [B9i,B6v,X2 f h hf]
theorem Arp {α:Type}{l:List α}{i:Nat}{a x:α}(h:x∈l.set i a):x=a\/∃j,j≠i/\l[j]? =some x:=by
 grind [List.getElem?_of_mem,List.getElem?_set_self',List.getElem?_set_ne]
theorem Bkg {α β:Type}{f:α->β}{l:List α}(hn:(l.map f).Nodup){i j:Nat}{a b:α}(hi:l[i]? =some a)(hj:l[j]? =some b)(h:f a=f b):i=j:=by
 grind [List.length_map,List.getElem?_eq_some_iff,Nat.lt_trichotomy,List.pairwise_iff_getElem]
def Adr (qs:List HQ)(w:W4):Option Nat:=(I6 qs (N0 w) 0).map λ p=>p.2.ky
structure Btz (K:Nat)(qs:List HQ)(w:W4)(z c:Nat)(ob aA:OL):Prop where
 ck:get aA CK=some ⟨c+1,[]⟩
 k:∃z',z<=z'/\(∀e∈Aco qs w z c,(∀x∈qs,x.b<z)->e.b<z')/\get aA K=some ⟨z',(Aco qs w z c).map HQ.row⟩
 new:get aA (DB+c)=some ⟨4,(L7 qs (N0 w)++[w]).map w4R⟩
 gone:∀y,Adr qs w=some y->get aA y=none
 o:∀k,k≠CK->k≠K->k≠DB+c->Adr qs w≠some k->get aA k=get ob k
 key:∀p∈aA,p.1=CK\/p.1=K\/p.1=DB+c\/p∈ob
 nm:∀j,j≠DB+c->B8 j ob=true->B8 j aA=true
theorem Ax5 (Γ:H6)(M:Nat)(qB:Bg7 (Γ 507))(w:W4)(hw:SmW w)(hk K:Nat)(cv:AV)(n:Int)(c z:Nat)(qs:List HQ)(gs:FL)(ob:OL)(hO:CmO w ob)(hF:NoF [508] gs)(hC:Cn c ob)(jX:Cf c gs)(hh:get ob hk=some ⟨3,[[.mp K,cv,i64 n]]⟩)(cZ:MK+DB<=K)(nN:K<MK+DB+c)(hm:get ob K=some ⟨z,qs.map HQ.row⟩)(hb:hk<CK)(aH:hk%KT/1000≠508)
  (hq:∀e∈qs,get ob e.ky=some e.obj/\DB<=e.ky/\e.ky<DB+c/\e.l≠[])(aF:∀e∈qs,e.l.length<1000000):
  ∃aA,(exec Γ M A2e ⟨(0,.loc hk 0 0)::(3,.loc 508003 0 0)::gs,ob⟩).map (λ p=>(p.1,p.2.ob))=some (.norm,aA)/\Btz K qs w z c ob aA:=by
 have aS:MK+DB=1461501637330902918203684832717283019655932542976:=by rw [U2];unfold DB;omega
 have fV:DB=1000000000000000000:=rfl;have nY:CK=900000000000000000:=rfl;have fP:=hC.le;have qD:∀k,B8 k ob=true->B5 k (qs.map HQ.row)=true:=λ k h=>C8.1 h (K,⟨z,qs.map HQ.row⟩) (B0 hm)
 have q1:CK≠K:=by omega
 have q2:CK≠DB+c:=by omega
 have q3:K≠DB+c:=by omega
 cases hf:I6 qs (N0 w) 0 with
 |none=>
  have hg:Adr qs w=none:=by simp [Adr,hf]
  have yI:Aco qs w z c=qs++[⟨z,N0 w,DB+c,[],[w]⟩]:=by simp [Aco,hf]
  have yJ:L7 qs (N0 w)=[]:=by rw [P6 0,hf]
  refine⟨_,Bke Γ M qB w hw hk K cv n c z qs gs ob hO hF hC jX hh cZ hm hb aH hf,?_⟩;refine⟨rfl,⟨z+1,by omega,λ e he hx=> ?_,?_⟩,?_,λ y hy=>by rw [hg]at hy;simp at hy,λ k h1 h2 h3 _=> ?_,λ p hp=> ?_,λ j hj hn=> ?_⟩
  ·rw [yI]at he;rcases B65.1 he with he|he
   ·have:=hx e he;omega
   ·simp only [B6x]at he;subst he;simp
  ·simp only [Go.Am.get];rw [B6j q1,B6l trivial,yI,B60];rfl
  ·simp only [Go.Am.get];rw [B6j q2,B6j q3,B6l trivial,yJ];rfl
  ·simp only [Go.Am.get];rw [B6j (B6i h1),B6j (B6i h2),B6j (B6i h3),B3,B6j h1,B3,B6j h2]
  ·simp only [B6r]at hp;rcases hp with rfl|rfl|rfl|hp
   ·exact .inl rfl
   ·exact .inr (.inl rfl)
   ·exact .inr (.inr (.inl rfl))
   ·exact .inr (.inr (.inr (O3 (O3 hp))))
  ·have hjc:((DB+c)==j)=false:=beq_false_of_ne (B6i hj);have:=X9 j [w];simp only [B6v,B8a,B5,B8m]at this;simp only [B8,B5,M0,this,qD j hn,Af0,C3 (C3 hn),AV.names,AV.names1,hjc,B8m,B8s,B64]
 |some p=>
  obtain⟨i,e⟩:=p;obtain⟨_,iG,lM⟩:=H2 hf;rw [B78]at iG;have xJ:=B6t iG;obtain⟨y0,y1,y2,y3⟩:=hq e xJ;have hg:Adr qs w=some e.ky:=by simp [Adr,hf]
  have yI:Aco qs w z c=qs.set i ⟨e.b,e.k,DB+c,[],e.l++[w]⟩:=by simp [Aco,hf]
  have yJ:L7 qs (N0 w)=e.l:=by rw [P6 0,hf]
  have aM:setRow (qs.map HQ.row) i [.c (.int .i64 e.b),.agg (U5 (N0 w)),.sl (DB+c) (e.l.length+1) 0 (e.l.length+1)]=(Aco qs w z c).map HQ.row:=by
   rw [Bcz (by rw [B6s];exact(B6n.1 iG).1),yI,List.map_set]
   congr 1;simp [HQ.row,HQ.val,lM]
  refine⟨_,Bkf Γ M qB w hw hk K cv n c z qs gs ob hO hF hC jX hh cZ hm hb aH i e hf y0 y1 y2 y3 (aF e xJ),?_⟩;rw [aM];have q4:e.ky≠CK:=by omega
  have q5:e.ky≠K:=by omega
  have q6:e.ky≠DB+c:=by omega
  refine⟨rfl,⟨z,by omega,λ x hx hb=> ?_,?_⟩,?_,λ y hy=> ?_,λ k h1 h2 h3 h4=> ?_,λ p hp=> ?_,λ j hj hn=> ?_⟩
  ·rw [yI]at hx;rcases Arp hx with rfl|⟨j,_,hj⟩
   ·exact hb e xJ
   ·exact hb x (B6t hj)
  ·simp only [Go.Am.get];rw [B6j q1,B6l trivial]
  ·simp only [Go.Am.get];rw [B6j q2,B6j q3,B6l trivial,yJ]
  ·rw [hg]at hy;simp only [B6g]at hy;subst hy;simp only [Go.Am.get];rw [B6j (B6i q4),B6j (B6i q5),B6j (B6i q6),B3,B6j q4,B3,B6j q5,B3,B6l rfl]
  ·rw [hg]at h4;have h4:¬k=e.ky:=λ h=>h4 (by rw [h])
   simp only [Go.Am.get];rw [B6j (B6i h1),B6j (B6i h2),B6j (B6i h3),B3,B6j h1,B3,B6j h2,B3,B6j h4]
  ·simp only [B6r]at hp;rcases hp with rfl|rfl|rfl|hp
   ·exact .inl rfl
   ·exact .inr (.inl rfl)
   ·exact .inr (.inr (.inl rfl))
   ·exact .inr (.inr (.inr (O3 (O3 (O3 hp)))))
  ·have hjc:((DB+c)==j)=false:=beq_false_of_ne (B6i hj);have h1:B5 j ((Aco qs w z c).map HQ.row)=true:=by
    rw [<-aM];unfold setRow;simp only [Af0,B5,M0,Ato (qD j hn) i,Atp (qD j hn) (i+1),AV.names,AV.names1,hjc,B8s,B64]
   simp only [B8,B5,M0,X9,h1,C3 (C3 (C3 hn)),B64]
theorem CmO.of {w:W4}{ob:OL}(h:U7 [508] ob):CmO w ((508003,⟨4,[w4R w]⟩)::ob) where
 b:=rfl
 k:=λ os ho=>by
  have:=h.kf (f:=508) (by simp)
  simp only [A1];rw [B6l (.inr (.inr ho))];congr 1;exact this os
 n:=λ k hk=>by
  have hr:M5 [508] k=true:=by simp only [M5,hk];decide
  have:=X9 k [w];simp only [B6v,B8a]at this;simp only [B8,this,h.nm hr,B64]
 x:=λ k hk aH=>by
  have hr:M5 [508] k=true:=by simp only [M5,hk];decide
  simp only [Go.Am.get];rw [B6j (B6i aH),h.none hr]
theorem Bc0 (Γ:H6)(M:Nat)(w:W4)(hk K:Nat)(cv:AV)(n:Int)(o:Obj)(gs:FL)(ob:OL)(hO:CmO w ob)(hg:Gh gs)(hh:get ob hk=some ⟨3,[[.mp K,cv,i64 n]]⟩)(hK:get ob K=some o):
  exec Γ M A2d ⟨(0,.loc hk 0 0)::(3,.loc 508003 0 0)::gs,ob⟩=some (.norm,⟨(0,.loc hk 0 0)::(3,.loc 508003 0 0)::(8,bo false)::gs,ob⟩):=by
 have e1:=hO.k;simp -implicitDefEqProofs (disch:=first|omega|(simp [hg];done)|assumption) [A2d,hg,e1,hh,hK]
structure Bt0 (hk:Nat)(wm cm:Option Nat)(qs:List HQ)(cs:List HC)(n:Int)(c:Nat)(w:W4)(ob:OL)(wm':Option Nat)(dX:List HQ)(c':Nat)(aA:OL):Prop where
 hall:F6 hk wm' cm dX cs n c' aA
 cn:Cn c' aA
 le:c<c'/\c'<=c+2
 wt:∀k,L7 dX k=if N0 w=k then L7 qs k++[w]else L7 qs k
 fr:∀k,¬Ael hk wm cm qs k->¬New c c' k->k≠CK->get aA k=get ob k
 own:∀k,Ael hk wm' cm dX k->Ael hk wm cm qs k\/New c c' k
 no:∀fs,(∀f∈fs,f<1000000)->U7 fs ob->U7 fs aA
 nm:∀k,¬New c c' k->B8 k ob=true->B8 k aA=true
def Bt1 (g:PG):Prop:=∀(w:W4)(hk:Nat)(wm cm:Option Nat)(qs:List HQ)(cs:List HC)(n:Int)(c:Nat) gs ob,SmW w->U7 [508] ob->NoF [508] gs->Cf c gs->Cn c ob->c+2<=1000000000->F6 hk wm cm qs cs n c ob->(∀e∈qs,e.l.length<1000000)->
 ∃wm' dX c' aA,g ⟨(0,.loc hk 0 0)::(1,.agg (U8 w))::gs,ob⟩=some ([],aA)/\Bt0 hk wm cm qs cs n c w ob wm' dX c' aA
theorem A3n (Γ:H6)(M:Nat)(w:W4)(hk:Nat)(gs:FL)(ob:OL)(hO:U7 [508] ob)(hF:NoF [508] gs)(nZ:¬hk=508003)(fr2:FL)(aR dY:OL)(qE:CmO w aR)(dU:keep [0,3] fr2++ghs fr2=(0,.loc hk 0 0)::(3,.loc 508003 0 0)::gs)
  (hA:exec Γ M A2d ⟨(0,.loc hk 0 0)::(3,.loc 508003 0 0)::gs,(508003,⟨4,[w4R w]⟩)::ob⟩=some (.norm,⟨fr2,aR⟩))
  (hB:(exec Γ M A2e ⟨(0,.loc hk 0 0)::(3,.loc 508003 0 0)::gs,aR⟩).map (λ p=>(p.1,p.2.ob))=some (.norm,dY)):
  H9 Γ M J6 ⟨(0,.loc hk 0 0)::(1,.agg (U8 w))::gs,ob⟩=some ([],A1 508000 509000 [1461501637330902918203684832716283019655933050986,508028] dY):=by
 have g:=hF.1;have k1:=(CmO.of (w:=w) hO).k;have k2:=qE.k;have n1:=hO.nm (k:=508003) (by decide)
 have d1:=hO.del (k:=508003) (by decide)
 have f1:=hF.nm (k:=508003) (by decide)
 simp only [B6m,B6k]at hB;obtain⟨⟨ax,s3⟩,h3,h4,h5⟩:=hB;simp only at h4 h5;subst h4;subst h5;have aH:¬hk=508003\/True:= .inr trivial;have e0:Abb= .seq (.reg Be1) (.keepP [0,3] 508000 509000 [508003,1461501637330902918203684832716283019655933050986,508028] (.seq A2d (.keepP [0,3] 508000 509000 [508003,1461501637330902918203684832716283019655933050986,508028] A2e))):=rfl;have r0:ev Γ Be1 ⟨(0,.loc hk 0 0)::(1,.agg (U8 w))::gs,ob⟩=some ⟨(3,.loc 508003 0 0)::(0,.loc hk 0 0)::(1,.agg (U8 w))::gs,(508003,⟨4,[w4R w]⟩)::ob⟩:=by
  simp -implicitDefEqProofs (disch:=first|omega|(simp [g];done)|assumption) [g,n1,d1,f1,U8,w4R,nZ]
 have s1:(⟨keep [0,3] ((3,AV.loc 508003 0 0)::(0,.loc hk 0 0)::(1,.agg (U8 w))::gs)++ghs ((3,AV.loc 508003 0 0)::(0,.loc hk 0 0)::(1,.agg (U8 w))::gs),A1 508000 509000 [508003,1461501637330902918203684832716283019655933050986,508028] ((508003,⟨4,[w4R w]⟩)::ob)⟩:St)=⟨(0,.loc hk 0 0)::(3,.loc 508003 0 0)::gs,(508003,⟨4,[w4R w]⟩)::ob⟩:=by
  rw [k1 _ (by simp)]
  simp [g]
 have hX:exec Γ M Abb ⟨(0,.loc hk 0 0)::(1,.agg (U8 w))::gs,ob⟩=some (.norm,s3):=by
  rw [e0,Ay9,A90,r0,Axp,Ast,Aol,s1,Ay9,hA,Ast,Aol,dU,k2 _ (by simp),h3]
 unfold H9 J6;simp only [hX,St.slots,Option.map]
theorem C4 {lo hi:Nat}{os:List Nat}:∀(ob:OL)(k:Nat),get (A1 lo hi os ob) k=if k%KT<lo\/hi<=k%KT\/k∈os then get ob k else none
 |[],k=>by simp only [A1,Go.Am.get];split<;>rfl
 |(j,o)::ob,k=>by
  have ih:=C4 (lo:=lo) (hi:=hi) (os:=os) ob k;grind [A1,KT,Go.Am.get]
theorem A3o {α:Type}:∀{l:List α}{i:Nat}{a:α},l.Nodup->a∉l->(l.set i a).Nodup
 |[],i,a,_,_=>by simp
 |x::l,0,a,h,ha=>by
  grind [List.nodup_cons,List.mem_cons_of_mem]
 |x::l,i+1,a,h,ha=>by
  rw [B83]at h;rw [B9i,B83];refine⟨λ hm=> ?_,A3o h.2 λ hm=>ha (B7g _ hm)⟩
  grind [Arp,List.mem_of_getElem?]
theorem Asu {lo hi:Nat}{os:List Nat}:∀{ob:OL}{p:Nat×Obj},p∈A1 lo hi os ob->p.1%KT<lo\/hi<=p.1%KT\/p.1∈os
 |[],p,h=>by simp [A1]at h
 |(k,o)::ob,p,h=>by
  simp only [A1]at h;split at h
  ·rename_i hc;rcases B6r.1 h with rfl|h
   ·exact hc
   ·exact Asu h
  ·exact Asu h
theorem Bab {lo hi:Nat}{os:List Nat}:∀{ob:OL},(∀p∈ob,p.1%KT<lo\/hi<=p.1%KT\/p.1∈os)->A1 lo hi os ob=ob
 |[],_=>rfl
 |(k,o)::ob,h=>by
  simp only [A1];rw [B6l (h (k,o) (by simp)),Bab λ p hp=>h p (B7g _ hp)]
theorem Asv {ob:OL}{c:Nat}(h:get ob CK=some ⟨c,[]⟩):I7 ob=c:=by unfold I7;rw [h]
theorem Afv {n:Nat}(h:n<DB):(DB+n)%KT=DB+n/\(MK+DB+n)%KT=DB+n:=by
 unfold DB at*;rw [G1,U2];omega
abbrev A6i (ob:OL):OL:=A1 508000 509000 [1461501637330902918203684832716283019655933050986,508028] ob
theorem Bac {w:W4}{hk K:Nat}{cm:Option Nat}{qs:List HQ}{cs:List HC}{n:Int}{c z:Nat}{ob dY:OL}(hM:Btz K qs w z c ob dY)(hh:get ob hk=some ⟨3,[[.mp K,M4 cm,i64 n]]⟩)(hz:∀e∈qs,e.b<z)(hc:c+1<=1000000000)(hC:Cn c ob)
  (hcz:∃z,S4 cm z (cs.map HC.row) ob/\∀e∈cs,e.b<z)(hK:MK+DB<=K/\K<MK+DB+c)(gL:∀k,cm=some k->MK+DB<=k/\k<MK+DB+c)(aH:cm≠some K)
  (hq:∀e∈qs,get ob e.ky=some e.obj/\DB<=e.ky/\e.ky<DB+c/\e.l≠[])(qb:(qs.map (·.b)).Nodup)(qy:(qs.map (·.ky)).Nodup)(qk:(qs.map (·.k)).Nodup)(cb:(cs.map (·.b)).Nodup)(cd:(cs.map λ e=>(e.f,e.d)).Nodup)(hb:hk<CK)(hm5:hk%KT/1000≠508):
  F6 hk (some K) cm (Aco qs w z c) cs n (c+1) (A6i dY)/\Cn (c+1) (A6i dY):=by
 have fV:DB=1000000000000000000:=rfl;have bI:CK=900000000000000000:=rfl;have aS:MK=1461501637330902918203684832716283019655932542976:=U2;have aB:KT=18446744073709551616:=G1;have keepB:∀i,i<DB->get (A6i dY) (DB+i)=get dY (DB+i):=λ i hi=>by
  rw [C4,B6l (.inr (.inl (by rw [(Afv hi).1];omega)))]
 have keepM:∀i,i<DB->get (A6i dY) (MK+DB+i)=get dY (MK+DB+i):=λ i hi=>by
  rw [C4,B6l (.inr (.inl (by rw [(Afv hi).2];omega)))]
 have keepH:get (A6i dY) hk=get dY hk:=by
  rw [C4,B6l ?_];have hm:hk%KT=hk:=B74 (by omega)
  rw [hm]at hm5 ⊢;by_cases h1:hk<508000
  ·exact .inl h1
  ·exact .inr (.inl (by omega))
 have A17:get (A6i dY) CK=get dY CK:=by rw [C4,B6l (.inr (.inl (by rw [bI,aB];omega)))]
 have eK:get (A6i dY) K=get dY K:=by
  obtain⟨i,hi⟩:∃i,K=MK+DB+i:=⟨K-(MK+DB),by omega⟩
  rw [hi];exact keepM i (by omega)
 have yK:∀y,Adr qs w=some y->∃e∈qs,e.ky=y:=λ y hy=>by
  unfold Adr at hy;cases hf:I6 qs (N0 w) 0 with
  |none=>rw [hf]at hy;simp at hy
  |some p=>
   rw [hf]at hy;simp only [B7h,B6g]at hy;obtain⟨_,h2,_⟩:=H2 (j:=p.1) (e:=p.2) hf;exact⟨p.2,B6t h2,hy⟩
 have gB:∀k,Adr qs w=some k->DB<=k/\k<DB+c:=λ k hk=>by
  obtain⟨e,he,rfl⟩:=yK k hk;exact⟨(hq e he).2.1,(hq e he).2.2.1⟩
 have oH:get dY hk=get ob hk:=hM.o hk (by omega) (by omega) (by omega) λ h=>by have:=gB hk h;omega
 have oM:∀k,cm=some k->get dY k=get ob k:=λ k hk=>by
  have h1:=gL k hk;have h2:k≠K:=λ h=>aH (by rw [hk,h])
  exact hM.o k (by omega) h2 (by omega) λ h=>by have:=gB k h;omega
 have bT:∀e'∈Aco qs w z c,(e'.ky=DB+c/\e'.gone=[]/\e'.l=L7 qs (N0 w)++[w])\/(e'∈qs/\Adr qs w≠some e'.ky):=by
  intro e' he;unfold Aco at he;cases hf:I6 qs (N0 w) 0 with
  |none=>
   rw [hf]at he;have hg:Adr qs w=none:=by simp [Adr,hf]
   rcases B65.1 he with he|he
   ·exact .inr ⟨he,by rw [hg];simp⟩
   ·simp only [B6x]at he;subst he;exact .inl ⟨rfl,rfl,by rw [P6 0,hf];rfl⟩
  |some p=>
   obtain⟨i,e⟩:=p;rw [hf]at he;obtain⟨_,h2,_⟩:=H2 hf;rw [B78]at h2;have hg:Adr qs w=some e.ky:=by simp [Adr,hf]
   rcases Arp he with rfl|⟨j,hj,hjj⟩
   ·exact .inl ⟨rfl,rfl,by rw [P6 0,hf]⟩
   ·refine .inr ⟨B6t hjj,λ h=> ?_⟩
    rw [hg,B6g]at h;exact hj (Bkg (f:=HQ.ky) qy hjj h2 h.symm)
 obtain⟨z',iQ,iR,hz3⟩:=hM.k;refine⟨⟨by rw [keepH,oH];exact hh,⟨z',by rw [S4,eK];exact hz3,λ e he=>iR e he hz⟩,?_,λ k hk=> ?_,λ k hk=> ?_,λ k hk=> ?_,λ e he=> ?_,?_,?_,?_,cb,cd,hb⟩,?_⟩
 ·obtain⟨zc,h1,h2⟩:=hcz;refine⟨zc,?_,h2⟩;cases hcmv:cm with
  |none=>rw [hcmv]at h1;exact h1
  |some k=>
   rw [hcmv]at h1;simp only [S4]at h1 ⊢;have iB:=gL k hcmv;obtain⟨i,hi⟩:∃i,k=MK+DB+i:=⟨k-(MK+DB),by omega⟩
   have:=oM k hcmv;rw [hi]at this h1 ⊢;rw [keepM i (by omega),this];exact h1
 ·simp only [B6g]at hk;subst hk;omega
 ·have:=gL k hk;omega
 ·simp only [B6g]at hk;subst hk;exact aH
 ·rcases bT e he with ⟨h1,h2,h3⟩|⟨h1,h2⟩
  ·refine⟨?_,by omega,by omega,by rw [h3];simp⟩
   rw [h1,keepB c (by omega),hM.new,HQ.obj,h2,h3];rfl
  ·obtain⟨q1,q2,q3,q4⟩:=hq e h1;refine⟨?_,q2,by omega,q4⟩
   obtain⟨i,hi⟩:∃i,e.ky=DB+i:=⟨e.ky-DB,by omega⟩
   rw [hi,keepB i (by omega),<-hi,hM.o e.ky (by omega) (by omega) (by omega) h2];exact q1
 ·
  unfold Aco;cases hf:I6 qs (N0 w) 0 with
  |none=>
   rw [B60,B82];refine⟨qb,by simp,λ a ha b hb=> ?_⟩
   obtain⟨e,he,rfl⟩:=B6z.1 ha;simp only [B6v,B8a,B6x]at hb;have:=hz e he;omega
  |some p=>
   obtain⟨i,e⟩:=p;obtain⟨_,h2,_⟩:=H2 hf;rw [B78]at h2;simp only;rw [X2 (f:=HQ.b) (b:=⟨e.b,e.k,DB+c,[],e.l++[w]⟩) h2 rfl];exact qb
 ·unfold Aco;cases hf:I6 qs (N0 w) 0 with
  |none=>
   rw [B60,B82];refine⟨qy,by simp,λ a ha b hb=> ?_⟩
   obtain⟨e,he,rfl⟩:=B6z.1 ha;simp only [B6v,B8a,B6x]at hb;have:=(hq e he).2.2.1;omega
  |some p=>
   obtain⟨i,e⟩:=p;simp only;rw [List.map_set];refine A3o qy λ h=> ?_
   obtain⟨x,hx,yL⟩:=B6z.1 h;have:=(hq x hx).2.2.1;simp only at yL;omega
 ·unfold Aco;cases hf:I6 qs (N0 w) 0 with
  |none=>
   rw [B60,B82];refine⟨qk,by simp,λ a ha b hb=> ?_⟩
   obtain⟨e,he,rfl⟩:=B6z.1 ha;simp only [B6v,B8a,B6x]at hb;subst hb;exact Ax2 hf e he
  |some p=>
   obtain⟨i,e⟩:=p;obtain⟨_,h2,_⟩:=H2 hf;rw [B78]at h2;simp only;rw [X2 (f:=HQ.k) (b:=⟨e.b,e.k,DB+c,[],e.l++[w]⟩) h2 rfl];exact qk
 ·refine⟨Asv (by rw [A17];exact hM.ck),hc,λ i h1 h2=>⟨?_,?_⟩,λ i h1 h2=>⟨?_,?_⟩,?_⟩
  ·rw [keepB i h2,hM.o _ (by omega) (by omega) (by omega) λ h=>by have:=gB _ h;omega]
   exact(hC.a i (by omega) h2).1
  ·exact H4 (hM.nm _ (by omega) (hC.a i (by omega) h2).2)
  ·rw [keepM i h2,hM.o _ (by omega) (by omega) (by omega) λ h=>by have:=gB _ h;omega]
   exact(hC.m i (by omega) h2).1
  ·exact H4 (hM.nm _ (by omega) (hC.m i (by omega) h2).2)
  ·exact H4 (hM.nm _ (by omega) hC.nck)
theorem Bz8 {w:W4}{c:Nat}{ob:OL}(h:Cn c ob):Cn c ((508003,⟨4,[w4R w]⟩)::ob):=by
 have fV:DB=1000000000000000000:=rfl;have bI:CK=900000000000000000:=rfl;have hn:∀k,B5 k [w4R w]=true:=λ k=>by have:=X9 k [w];simpa only [B6v,B8a]using this
 refine⟨?_,h.le,λ i h1 h2=>⟨?_,?_⟩,λ i h1 h2=>⟨?_,?_⟩,?_⟩
 ·have:=h.cnt;grind [I7,Go.Am.get]
 ·simp only [Go.Am.get];rw [B6j (by omega)];exact(h.a i h1 h2).1
 ·simp only [B8,hn,(h.a i h1 h2).2,B64]
 ·simp only [Go.Am.get];rw [B6j (by omega)];exact(h.m i h1 h2).1
 ·simp only [B8,hn,(h.m i h1 h2).2,B64]
 ·simp only [B8,hn,h.nck,B64]
theorem Am3 {w:W4}{ob:OL}{k:Nat}(h:k≠508003):get ((508003,(⟨4,[w4R w]⟩:Obj))::ob) k=get ob k:=by
 grind [Go.Am.get]
theorem Alg (Γ:H6)(M:Nat)(qB:Bg7 (Γ 507)):Bt1 (H9 Γ M J6):=by
 intro w hk wm cm qs cs n c gs ob hw hO hF jX hC dL hH aF;have fV:DB=1000000000000000000:=rfl;have nY:CK=900000000000000000:=rfl;have aS:MK=1461501637330902918203684832716283019655932542976:=U2;have aB:KT=18446744073709551616:=G1;have hb:=hH.hb;have lN:hk%KT/1000≠508:=λ h=>by
  have:=(hO _ (B0 hH.hall)).1;simp [M5,h]at this;rw [aB]at h;exact this h
 have nZ:¬hk=508003:=by rintro rfl;exact lN (by rw [aB])
 have rM:∀k,B5 k [w4R w]=true:=λ k=>by have:=X9 k [w];simpa only [B6v,B8a]using this
 have oG:=Bz8 (w:=w) hC;have lT:=CmO.of (w:=w) hO;have qF:get ((508003,(⟨4,[w4R w]⟩:Obj))::ob) hk=some ⟨3,[[M4 wm,M4 cm,i64 n]]⟩:=by rw [Am3 nZ];exact hH.hall
 have nI:∀e∈qs,get ((508003,(⟨4,[w4R w]⟩:Obj))::ob) e.ky=some e.obj/\DB<=e.ky/\e.ky<DB+c/\e.l≠[]:=λ e he=>by
  obtain⟨a1,a2,a3,a4⟩:=hH.q e he;exact⟨by rw [Am3 (by omega)];exact a1,a2,a3,a4⟩
 have yM:∀c':Nat,∃z,S4 cm z (cs.map HC.row) ((508003,(⟨4,[w4R w]⟩:Obj))::ob)/\∀e∈cs,e.b<z:=λ _=>by
  obtain⟨z,h1,h2⟩:=hH.cz;refine⟨z,?_,h2⟩;cases hcv:cm with
  |none=>rw [hcv]at h1;exact h1
  |some k=>
   rw [hcv]at h1;have:=hH.ck k hcv;simp only [S4]at h1 ⊢;rw [Am3 (by omega)];exact h1
 have noFin:∀{K c1 z:Nat}{aR dY:OL},Btz K qs w z c1 aR dY->MK+DB<=K->K<MK+DB+DB->c1<DB->(∀p∈aR,p.1=CK\/p.1=hk\/p.1=K\/p.1=508003\/p∈ob)->(∀fs,(∀f∈fs,f<1000000)->(∀k,M5 fs k=true->B8 k ob=true)->∀k,M5 fs k=true->B8 k aR=true)->∀fs,(∀f∈fs,f<1000000)->U7 fs ob->U7 fs (A6i dY):=by
  intro K c1 z aR dY hM k1 k2 k3 sN cS fs hfs cW p hp;have hp3:=X8 hp;have aI:=Asu hp;have fL:=Ajc hfs k3;obtain⟨i,hi⟩:∃i,K=MK+DB+i:=⟨K-(MK+DB),by omega⟩
  have vJ:=(Ajc hfs (n:=i) (by omega)).2.1
  rw [<-hi]at vJ;refine⟨?_,λ r hr v hv k hk=> ?_⟩
  ·rcases hM.key p hp3 with h|h|h|h
   ·rw [h];exact fL.2.2
   ·rw [h];exact vJ
   ·rw [h];exact fL.1
   ·rcases sN p h with h|h|h|h|h
    ·rw [h];exact fL.2.2
    ·rw [h];exact(cW _ (B0 hH.hall)).1
    ·rw [h];exact vJ
    ·exfalso;rw [h,aB]at aI;simp only [B6r,B7a,or_false]at aI;omega
    ·exact(cW p h).1
  ·have h1:k≠DB+c1:=by rintro rfl;rw [fL.1]at hk;simp at hk
   have h2:=hM.nm k h1 (cS fs hfs (λ k hk=>cW.nm hk) k hk)
   exact A5.1 (C8.1 h2 p hp3) r hr v hv
 have frFin:∀{dY:OL}(k:Nat),get dY k=get ob k->get (A6i dY) k=get ob k:=λ {dY} k h=>by
  rw [C4];split
  ·exact h
  ·rename_i hc;have hr:M5 [508] k=true:=by
    simp only [M5,B63,B6o,B6x];omega
   rw [hO.none hr]
 cases eZ:wm with
 |none=>
  subst eZ;obtain⟨z0,wF,qG⟩:=hH.wz;have eY:qs=[]:=by simpa [S4]using wF
  subst eY;simp only [M4]at qF;have hA:=Bkd Γ M w hk cm n c gs _ lT hF oG jX qF hb lN hH.ck;obtain⟨aR,gJ⟩:∃aR,((CK,(⟨c+1,[]⟩:Obj))::(hk,⟨3,[[.mp (MK+DB+c),M4 cm,i64 n]]⟩)::(MK+DB+c,⟨0,[]⟩)::del (del ((508003,(⟨4,[w4R w]⟩:Obj))::ob) hk) CK)=aR:=⟨_,rfl⟩;rw [gJ]at hA;have g2:∀k,k≠CK->k≠hk->k≠MK+DB+c->get aR k=get ((508003,(⟨4,[w4R w]⟩:Obj))::ob) k:=λ k a1 a2 a3=>by
   rw [<-gJ];simp only [Go.Am.get];rw [B6j (B6i a1),B6j (B6i a2),B6j (B6i a3),B3,B6j a1,B3,B6j a2];simp only [Go.Am.get]
  have key2:∀p∈aR,p.1=CK\/p.1=hk\/p.1=MK+DB+c\/p∈((508003,(⟨4,[w4R w]⟩:Obj))::ob):=λ p hp=>by
   rw [<-gJ]at hp;simp only [B6r]at hp;rcases hp with rfl|rfl|rfl|hp
   ·exact .inl rfl
   ·exact .inr (.inl rfl)
   ·exact .inr (.inr (.inl rfl))
   ·exact .inr (.inr (.inr (O3 (O3 hp))))
  have nm2:∀k,k≠MK+DB+c->B8 k ((508003,(⟨4,[w4R w]⟩:Obj))::ob)=true->B8 k aR=true:=λ k bG h=>by
   have aM:=C8.1 h (hk,⟨3,[[.ot .nm,M4 cm,i64 n]]⟩) (B0 qF);simp only [B5,M0,B8m,B6h]at aM;have iU:((MK+DB+c)==k)=false:=beq_false_of_ne (B6i bG);rw [<-gJ];simp only [B8,B5,M0,B8m,B9m,C3 (C3 h),Aza,iU,B8s,aM.2.1];rfl
  have wO:get aR hk=some ⟨3,[[.mp (MK+DB+c),M4 cm,i64 n]]⟩:=by
   rw [<-gJ];simp only [Go.Am.get];rw [B6j (by omega),B6l trivial]
  have nN:get aR (MK+DB+c)=some ⟨0,([]:List HQ).map HQ.row⟩:=by
   rw [<-gJ];simp only [Go.Am.get];rw [B6j (by omega),B6j (by omega),B6l trivial];rfl
  have rN:Cn (c+1) aR:=by
   refine⟨Asv (by rw [<-gJ];simp only [Go.Am.get];rw [B6l trivial]),by omega,λ i h1 h2=>⟨?_,?_⟩,λ i h1 h2=>⟨?_,?_⟩,?_⟩
   ·rw [g2 _ (by omega) (by omega) (by omega)];exact(oG.a i (by omega) h2).1
   ·exact nm2 _ (by omega) (oG.a i (by omega) h2).2
   ·rw [g2 _ (by omega) (by omega) (by omega)];exact(oG.m i (by omega) h2).1
   ·exact nm2 _ (by omega) (oG.m i (by omega) h2).2
   ·exact nm2 _ (by omega) oG.nck
  have qE:CmO w aR:=by
   refine⟨by rw [g2 _ (by omega) (B6i nZ) (by omega)];exact lT.b,λ os ho=>Bab λ p hp=> ?_,λ k bG=>nm2 k (λ h=> ?_) (lT.n k bG),λ k bG cG=> ?_⟩
   ·rcases key2 p hp with h|h|h|h
    ·exact .inr (.inl (by rw [h,nY,aB];omega))
    ·have hm:hk%KT=hk:=B74 (by omega)
     rw [h];rw [hm]at lN ⊢;by_cases h1:hk<508000
     ·exact .inl h1
     ·exact .inr (.inl (by omega))
    ·exact .inr (.inl (by rw [h,(Afv (n:=c) (by omega)).2];omega))
    ·rcases B6r.1 h with rfl|h
     ·exact .inr (.inr ho)
     ·have:=Af4.1 (hO.kf (f:=508) (by simp)) p h
      rcases this with h|h
      ·exact .inl h
      ·exact .inr (.inl h)
   ·subst h;rw [(Afv (n:=c) (by omega)).2]at bG;omega
   ·rw [g2 k (by rintro rfl;rw [nY,aB]at bG;omega) (by rintro rfl;exact lN bG) (by rintro rfl;rw [(Afv (n:=c) (by omega)).2]at bG;omega)]
    exact lT.x k bG cG
  obtain⟨dY,hB,hM⟩:=Ax5 Γ M qB w hw hk (MK+DB+c) (M4 cm) n (c+1) 0 [] gs aR qE hF rN (jX.le (by omega)) wO (by omega) (by omega) nN hb lN (by simp) (by simp)
  have cE:=A3n Γ M w hk gs ob hO hF nZ _ aR dY qE (by simp [hF.1]) hA hB
  have hcz2:∃z,S4 cm z (cs.map HC.row) aR/\∀e∈cs,e.b<z:=by
   obtain⟨z,a1,a2⟩:=yM c;refine⟨z,?_,a2⟩;cases hcv:cm with
   |none=>rw [hcv]at a1;exact a1
   |some k=>
    rw [hcv]at a1;have:=hH.ck k hcv;simp only [S4]at a1 ⊢;rw [g2 k (by omega) (by omega) (by omega)];exact a1
  obtain⟨r1,r2⟩:=Bac hM wO (by simp) (by omega) rN hcz2 (by omega) (λ k hk=>by have:=hH.ck k hk;omega) (λ h=>by have:=hH.ck _ h;omega) (by simp) (by simp) (by simp) (by simp) hH.cb hH.cd hb lN
  refine⟨some (MK+DB+c),Aco [] w 0 (c+1),c+2,A6i dY,cE,r1,r2,⟨by omega,by omega⟩,λ k=>A3m (by simp) k,λ k a1 a2 a3=> ?_,λ k a1=> ?_,noFin hM (by omega) (by omega) (by omega) (λ p hp=> ?_) (λ fs hfs h k hk=> ?_),λ k a1 a2=> ?_⟩
  ·have e1:k≠MK+DB+c:=λ h=>a2 (.inr ⟨c,by omega,by omega,h⟩)
   have e2:k≠DB+(c+1):=λ h=>a2 (.inl ⟨c+1,by omega,by omega,h⟩)
   have e3:k≠hk:=λ h=>a1 (.inl h)
   by_cases hbx:k=508003
   ·subst hbx;rw [C4,B6j (by rw [aB];simp),hO.none (by decide)]
   ·refine frFin k ?_;rw [hM.o k a3 e1 e2 (by simp [Adr,I6]),g2 k a3 e3 e1,Am3 hbx]
  ·rcases a1 with h|h|h|⟨e,he,h⟩
   ·exact .inl (.inl h)
   ·simp only [B6g]at h;exact .inr (.inr ⟨c,by omega,by omega,h.symm⟩)
   ·exact .inl (.inr (.inr (.inl h)))
   ·simp only [Aco,I6,B7j,B6x]at he;subst he;exact .inr (.inl ⟨c+1,by omega,by omega,h.symm⟩)
  ·rcases key2 p hp with h|h|h|h
   ·exact .inl h
   ·exact .inr (.inl h)
   ·exact .inr (.inr (.inl h))
   ·rcases B6r.1 h with rfl|h
    ·exact .inr (.inr (.inr (.inl rfl)))
    ·exact .inr (.inr (.inr (.inr h)))
  ·refine nm2 k ?_ (by simp only [B8,rM,h k hk,B64])
   rintro rfl;rw [(Ajc hfs (n:=c) (by omega)).2.1]at hk;simp at hk
  ·have e1:k≠MK+DB+c:=λ h=>a1 (.inr ⟨c,by omega,by omega,h⟩)
   have e2:k≠DB+(c+1):=λ h=>a1 (.inl ⟨c+1,by omega,by omega,h⟩)
   exact H4 (hM.nm k e2 (nm2 k e1 (by simp only [B8,rM,a2,B64])))
 |some K=>
  subst eZ;obtain⟨z,hz,qG⟩:=hH.wz;have vJ:=hH.wk K rfl;simp only [M4]at qF;have cZ:get ((508003,(⟨4,[w4R w]⟩:Obj))::ob) K=some ⟨z,qs.map HQ.row⟩:=by rw [Am3 (by omega)];exact hz
  have hA:=Bc0 Γ M w hk K (M4 cm) n _ gs _ lT hF.1 qF cZ;obtain⟨dY,hB,hM⟩:=Ax5 Γ M qB w hw hk K (M4 cm) n c z qs gs _ lT hF oG jX qF (by omega) (by omega) cZ hb lN nI aF
  have cE:=A3n Γ M w hk gs ob hO hF nZ _ _ dY lT (by simp [hF.1]) hA hB
  obtain⟨r1,r2⟩:=Bac hM qF qG (by omega) oG (yM c) (by omega) hH.ck (hH.wc K rfl) nI hH.qb hH.qy hH.qk hH.cb hH.cd hb lN
  have gO:∀k,Adr qs w=some k->∃e∈qs,e.ky=k:=λ k hk=>by
   unfold Adr at hk;cases hf:I6 qs (N0 w) 0 with
   |none=>rw [hf]at hk;simp at hk
   |some p=>
    rw [hf]at hk;simp only [B7h,B6g]at hk;obtain⟨_,h2,_⟩:=H2 (j:=p.1) (e:=p.2) hf;exact⟨p.2,B6t h2,hk⟩
  refine⟨some K,Aco qs w z c,c+1,A6i dY,cE,r1,r2,⟨by omega,by omega⟩,λ k=>A3m hH.qk k,λ k a1 a2 a3=> ?_,λ k a1=> ?_,noFin hM (by omega) (by omega) (by omega) (λ p hp=> ?_) (λ fs hfs h k hk=>by simp only [B8,rM,h k hk,B64]),λ k a1 a2=> ?_⟩
  ·have e1:k≠K:=λ h=>a1 (.inr (.inl (by rw [h])))
   have e2:k≠DB+c:=λ h=>a2 (.inl ⟨c,by omega,by omega,h⟩)
   have e3:Adr qs w≠some k:=λ h=>a1 (.inr (.inr (.inr (gO k h))))
   by_cases hbx:k=508003
   ·subst hbx;rw [C4,B6j (by rw [aB];simp),hO.none (by decide)]
   ·refine frFin k ?_;rw [hM.o k a3 e1 e2 e3,Am3 hbx]
  ·rcases a1 with h|h|h|⟨e,he,h⟩
   ·exact .inl (.inl h)
   ·exact .inl (.inr (.inl h))
   ·exact .inl (.inr (.inr (.inl h)))
   ·unfold Aco at he;cases hf:I6 qs (N0 w) 0 with
    |none=>
     rw [hf]at he;rcases B65.1 he with he|he
     ·exact .inl (.inr (.inr (.inr ⟨e,he,h⟩)))
     ·simp only [B6x]at he;subst he;exact .inr (.inl ⟨c,by omega,by omega,h.symm⟩)
    |some p=>
     obtain⟨i,e0⟩:=p;rw [hf]at he;rcases Arp he with rfl|⟨j,_,hj⟩
     ·exact .inr (.inl ⟨c,by omega,by omega,h.symm⟩)
     ·exact .inl (.inr (.inr (.inr ⟨e,B6t hj,h⟩)))
  ·rcases B6r.1 hp with rfl|h
   ·exact .inr (.inr (.inr (.inl rfl)))
   ·exact .inr (.inr (.inr (.inr h)))
  ·have e2:k≠DB+c:=λ h=>a1 (.inl ⟨c,by omega,by omega,h⟩)
   exact H4 (hM.nm k e2 (by simp only [B8,rM,a2,B64]))
def lS :List W4->W4
 |[]=>(0,0,0,0)
 |w::_=>w
def B1f (g:PG):Prop:=∀(hk:Nat)(wm cm:Option Nat)(qs:List HQ)(cs:List HC)(n:Int)(c:Nat)(k:K3) gs ob,U7 [525] ob->NoF [525] gs->F6 hk wm cm qs cs n c ob->g ⟨(0,.loc hk 0 0)::(1,.agg (U5 k))::gs,ob⟩=some ([i64 (L7 qs k).length],ob)
theorem Aba {fs:List Nat}{hk:Nat}{wm cm:Option Nat}{qs:List HQ}{cs:List HC}{n:Int}{c:Nat}{ob:OL}(hO:U7 fs ob)(hH:F6 hk wm cm qs cs n c ob){k:Nat}(aN:M5 fs k=true):¬hk=k:=by
 rintro rfl;have:=hO.none aN;rw [hH.hall]at this;simp at this
theorem A3 {fs:List Nat}{j:Nat}{o:Obj}{ob:OL}(hO:U7 fs ob)(hj:get ob j=some o){k:Nat}(aN:M5 fs k=true):¬j=k:=by
 rintro rfl;have:=hO.none aN;rw [hj]at this;simp at this
theorem Anx (Γ:H6)(M:Nat):B1f (H9 Γ M V6):=by
 intro hk wm cm qs cs n c k gs ob hO hF hH;have g:=hF.1;have hh:=hH.hall;have n1:=hO.nm (k:=525003) (by decide)
 have d1:=hO.del (k:=525003) (by decide)
 have f1:=hF.nm (k:=525003) (by decide)
 have k1:=hO.kf (f:=525) (by simp)
 have h1:=Aba hO hH (k:=525003) (by decide)
 have gF:=B6i h1;obtain⟨z,hz,_⟩:=hH.wz;cases eZ:wm with
 |none=>
  subst eZ;have eY:qs=[]:=by simpa [S4]using hz
  subst eY;simp only [M4]at hh;simp -implicitDefEqProofs (disch:=first|omega|(simp [g];done)|assumption) [g,n1,d1,f1,k1,h1,gF,hh,U5,L7]
 |some K=>
  subst eZ;have hz:get ob K=some ⟨z,qs.map HQ.row⟩:=hz;simp only [M4]at hh;have h2:=A3 hO hz (k:=525003) (by decide)
  have jK:=B6i h2;have mf:=Aek k qs 0;simp only [U5]at mf ⊢;rw [P6 0];cases hf:I6 qs k 0 with
  |none=>
   rw [hf]at mf;simp only [B8t]at mf;simp -implicitDefEqProofs (disch:=first|omega|(simp [g];done)|assumption) [g,n1,d1,f1,k1,h1,gF,hh,h2,jK,hz,mf]
  |some p=>
   obtain⟨i,e⟩:=p;rw [hf]at mf;simp only [B7h,HQ.val]at mf;obtain⟨_,hq,_⟩:=H2 hf;obtain⟨y0,y1,y2,y3⟩:=hH.q e (B6t hq);have h3:=A3 hO y0 (k:=525003) (by decide)
   have qH:=B6i h3;have aF:(List.map w4R (e.gone++e.l)).length=e.gone.length+e.l.length:=by simp
   simp only [HQ.obj]at y0;simp -implicitDefEqProofs (disch:=first|omega|(simp [g];done)|assumption) [g,n1,d1,f1,k1,h1,gF,hh,h2,jK,hz,mf,y0,h3,qH,aF]
def A0t (g:PG):Prop:=∀(hk:Nat)(wm cm:Option Nat)(qs:List HQ)(cs:List HC)(n:Int)(c:Nat)(k:K3) gs ob,U7 [524] ob->NoF [524] gs->F6 hk wm cm qs cs n c ob->g ⟨(0,.loc hk 0 0)::(1,.agg (U5 k))::gs,ob⟩=some ([.agg (U8 (lS (L7 qs k))),bo (decide (L7 qs k≠[]))],ob)
theorem Ajt (Γ:H6)(M:Nat):A0t (H9 Γ M P7):=by
 intro hk wm cm qs cs n c k gs ob hO hF hH;have g:=hF.1;have hh:=hH.hall;have n1:=hO.nm (k:=524003) (by decide)
 have d1:=hO.del (k:=524003) (by decide)
 have f1:=hF.nm (k:=524003) (by decide)
 have k1:=hO.kf (f:=524) (by simp)
 have h1:=Aba hO hH (k:=524003) (by decide)
 have gF:=B6i h1;have n4:=hO.nm (k:=524004) (by decide)
 have d4:=hO.del (k:=524004) (by decide)
 have f4:=hF.nm (k:=524004) (by decide)
 have h4:=Aba hO hH (k:=524004) (by decide)
 have qI:=B6i h4;obtain⟨z,hz,_⟩:=hH.wz;cases eZ:wm with
 |none=>
  subst eZ;have eY:qs=[]:=by simpa [S4]using hz
  subst eY;simp only [M4]at hh;simp -implicitDefEqProofs (disch:=first|omega|(simp [g];done)|assumption) [g,n1,d1,f1,k1,h1,gF,hh,U5,L7,n4,d4,f4,h4,qI,lS,U8]
 |some K=>
  subst eZ;have hz:get ob K=some ⟨z,qs.map HQ.row⟩:=hz;simp only [M4]at hh;have h2:=A3 hO hz (k:=524003) (by decide)
  have jK:=B6i h2;have h5:=A3 hO hz (k:=524004) (by decide)
  have h5':=B6i h5;have mf:=Aek k qs 0;simp only [U5]at mf ⊢;rw [P6 0];cases hf:I6 qs k 0 with
  |none=>
   rw [hf]at mf;simp only [B8t]at mf;simp -implicitDefEqProofs (disch:=first|omega|(simp [g];done)|assumption) [g,n1,d1,f1,k1,h1,gF,hh,h2,jK,hz,mf,n4,d4,f4,h4,qI,h5,h5',lS,U8]
  |some p=>
   obtain⟨i,e⟩:=p;rw [hf]at mf;simp only [B7h,HQ.val]at mf;obtain⟨_,hq,_⟩:=H2 hf;obtain⟨y0,y1,y2,y3⟩:=hH.q e (B6t hq);have h3:=A3 hO y0 (k:=524003) (by decide)
   have qH:=B6i h3;have h6:=A3 hO y0 (k:=524004) (by decide)
   have sO:=B6i h6;have aF:(List.map w4R (e.gone++e.l)).length=e.gone.length+e.l.length:=by simp
   simp only [HQ.obj]at y0;obtain⟨w,r,hl⟩:∃w r,e.l=w::r:=by
    cases hl:e.l with
    |nil=>exact absurd hl y3
    |cons w r=>exact⟨w,r,rfl⟩
   rw [hl]at y0 mf aF;simp only [hl];have aM:(List.map w4R (e.gone++w::r))[e.gone.length]? =some (w4R w):=by
    grind [List.getElem?_append_right]
   have jW:∀h,(List.map w4R (e.gone++w::r))[e.gone.length]'h=w4R w:=λ h=>by
    grind [List.getElem?_eq_getElem]
   simp only [w4R,U8,A4,B6v,B8a]at aM jW;simp only [B8p]at aF mf;simp -implicitDefEqProofs (disch:=first|omega|(simp [g];done)|assumption) [g,n1,d1,f1,k1,h1,gF,hh,h2,jK,hz,mf,y0,h3,qH,h6,sO,aF,n4,d4,f4,h4,qI,h5,h5',lS,U8,w4R,A4,aM,jW]
def isC (cs:List HC)(f d:Int):Bool:=(P5 cs f d 0).isSome
structure Stp (O O':Nat->Prop)(c c':Nat)(ob aA:OL):Prop where
 fr:∀k,¬O k->¬New c c' k->k≠CK->get aA k=get ob k
 own:∀k,O' k->O k\/New c c' k
 no:∀fs,(∀f∈fs,f<1000000)->U7 fs ob->U7 fs aA
 nm:∀k,¬New c c' k->B8 k ob=true->B8 k aA=true
 cn:Cn c ob->Cn c' aA
theorem Bt0.stp {hk:Nat}{wm cm:Option Nat}{qs:List HQ}{cs:List HC}{n:Int}{c:Nat}{w:W4}{ob aA:OL}{wm':Option Nat}{dX:List HQ}{c':Nat}(h:Bt0 hk wm cm qs cs n c w ob wm' dX c' aA):Stp (Ael hk wm cm qs) (Ael hk wm' cm dX) c c' ob aA:=⟨h.fr,h.own,h.no,h.nm,λ _=>h.cn⟩
theorem Arq {O O':Nat->Prop}{c j:Nat}{o o':Obj}{ob:OL}(hj:get ob j=some o)(hO:O j)(hOO:∀k,O' k->O k)(hn:∀k,B8 k ob=true->B5 k o'.rows=true)(hjc:j≠CK):Stp O O' c c ob ((j,o')::del ob j) where
 fr:=λ k h1 _ _=>by
  grind [Go.Am.get,B3]
 own:=λ k h=> .inl (hOO k h)
 no:=λ fs _ h=>Ae0.2 ⟨(h _ (B0 hj)).1,λ k hk=>hn k (h.nm hk),Bg6 h j⟩
 nm:=λ k _ h=>by simp only [B8,hn k h,C3 h,B64]
 cn:=λ h=>by
  have aH:∀k,get ob k=none->get ((j,o')::del ob j) k=none:=λ k hk=>by
   grind [Go.Am.get,A7]
  have cS:∀k,B8 k ob=true->B8 k ((j,o')::del ob j)=true:=λ k h=>by simp only [B8,hn k h,C3 h,B64]
  refine⟨?_,h.le,λ i a b=>⟨aH _ (h.a i a b).1,cS _ (h.a i a b).2⟩,λ i a b=>⟨aH _ (h.m i a b).1,cS _ (h.m i a b).2⟩,cS _ h.nck⟩
  have:=h.cnt;grind [I7,Go.Am.get,B3]
theorem F6.push {hk:Nat}{wm cm:Option Nat}{qs:List HQ}{cs:List HC}{n:Int}{c k0:Nat}{o:Obj}{ob:OL}(h:F6 hk wm cm qs cs n c ob)(hn:get ob k0=none):F6 hk wm cm qs cs n c ((k0,o)::ob):=by
 have keep:∀{k:Nat}{u:Obj},get ob k=some u->get ((k0,o)::ob) k=some u:=λ {k u} hk=>by
  grind [Go.Am.get]
 refine⟨keep h.hall,?_,?_,h.wk,h.ck,h.wc,λ e he=> ?_,h.qb,h.qy,h.qk,h.cb,h.cd,h.hb⟩
 ·obtain⟨z,h1,h2⟩:=h.wz;refine⟨z,?_,h2⟩;cases wm with
  |none=>exact h1
  |some k=>exact keep h1
 ·obtain⟨z,h1,h2⟩:=h.cz;refine⟨z,?_,h2⟩;cases cm with
  |none=>exact h1
  |some k=>exact keep h1
 ·obtain⟨h1,h2⟩:=h.q e he;exact⟨keep h1,h2⟩
theorem F6.setq {hk K:Nat}{cm:Option Nat}{qs dX:List HQ}{cs:List HC}{n:Int}{c z:Nat}{ob:OL}(h:F6 hk (some K) cm qs cs n c ob)(hz:∀e∈dX,e.b<z)(hq:∀e∈dX,get ob e.ky=some e.obj/\DB<=e.ky/\e.ky<DB+c/\e.l≠[])(hc:c<=1000000000)
  (qb:(dX.map (·.b)).Nodup)(qy:(dX.map (·.ky)).Nodup)(qk:(dX.map (·.k)).Nodup):F6 hk (some K) cm dX cs n c ((K,⟨z,dX.map HQ.row⟩)::del ob K):=by
 have fV:DB=1000000000000000000:=rfl;have bI:CK=900000000000000000:=rfl;have aS:MK=1461501637330902918203684832716283019655932542976:=U2;have hK:=h.wk K rfl;have hb:=h.hb;have keep:∀{k:Nat}{u:Obj},k≠K->get ob k=some u->get ((K,(⟨z,dX.map HQ.row⟩:Obj))::del ob K) k=some u:=λ {k u} h1 h2=>by
  grind [Go.Am.get,B3]
 refine⟨keep (by omega) h.hall,⟨z,by simp only [S4,Go.Am.get];rw [B6l trivial],hz⟩,?_,h.wk,h.ck,h.wc,λ e he=> ?_,qb,qy,qk,h.cb,h.cd,h.hb⟩
 ·obtain⟨zc,h1,h2⟩:=h.cz;refine⟨zc,?_,h2⟩;cases gL:cm with
  |none=>rw [gL]at h1;exact h1
  |some k=>rw [gL]at h1;exact keep (λ hk=>h.wc K rfl (by rw [gL,hk])) h1
 ·obtain⟨h1,h2,h3,h4⟩:=hq e he;exact⟨keep (by omega) h1,h2,h3,h4⟩
theorem Asw {k:K3}:∀{qs:List HQ}{i j:Nat}{e e':HQ},I6 qs k j=some (i+j,e)->e'.k=e.k->I6 (qs.set i e') k j=some (i+j,e')
 |[],i,j,e,e',h,_=>by simp [I6]at h
 |x::qs,0,j,e,e',h,hk=>by
  simp only [I6]at h;split at h
  ·rename_i hx;simp only [B6g,B6k]at h;obtain⟨_,rfl⟩:=h;simp only [List.set_cons_zero,I6];rw [B6l (by rw [hk];exact hx),B7u]
  ·obtain⟨h1,_⟩:=H2 h;omega
 |x::qs,i+1,j,e,e',h,hk=>by
  simp only [I6]at h;split at h
  ·simp only [B6g,B6k]at h;omega
  ·rename_i hx;simp only [B9i,I6];rw [B6j hx,show i+1+j=i+(j+1) by omega]
   rw [show i+1+j=i+(j+1) by omega]at h
   exact Asw h hk
theorem Ax6 {k:K3}:∀{qs:List HQ}{i:Nat}{e:HQ},qs[i]? =some e->(qs.map (·.k)).Nodup->L7 (qs.eraseIdx i) k=if e.k=k then []else L7 qs k
 |[],i,e,h,_=>by simp at h
 |x::qs,0,e,h,hn=>by
  simp only [B8u,B6g]at h;subst h;simp only [B6v,B83]at hn;simp only [List.eraseIdx_cons_zero,L7];by_cases hx:x.k=k
  ·rw [B6l hx];have:∀e∈qs,e.k≠k:=λ e he hk=>hn.1 (B6z.2 ⟨e,he,by rw [hk,hx]⟩)
   have hw:∀qs:List HQ,(∀e∈qs,e.k≠k)->L7 qs k=[]:=by
    intro qs
    induction qs with
    |nil=>intro _;rfl
    |cons y qs ih=>intro h;simp only [L7];rw [B6j (h y (by simp)),ih λ e he=>h e (by simp [he])]
   exact hw qs this
  ·rw [B6j hx,B6j hx]
 |x::qs,i+1,e,h,hn=>by
  simp only [B8v]at h;simp only [B6v,B83]at hn;simp only [List.eraseIdx_cons_succ,L7,Ax6 h hn.2];grind [List.mem_of_getElem?]
theorem Asx {α β:Type}(f:α->β):∀(l:List α)(i:Nat),(l.map f).eraseIdx i=(l.eraseIdx i).map f
 |[],i=>by simp
 |x::l,0=>rfl
 |x::l,i+1=>by simp only [B6v,List.eraseIdx_cons_succ,Asx f l i]
theorem A3p {α:Type}(a:α):∀(l:List α)(i:Nat),(l.set i a).eraseIdx i=l.eraseIdx i
 |[],i=>by simp
 |x::l,0=>rfl
 |x::l,i+1=>by simp only [B9i,List.eraseIdx_cons_succ,A3p a l i]
theorem Aze {fs:List Nat}{i:Nat}{v:AV}{gs:FL}:NoF fs ((i,v)::gs)↔GB<=i/\(∀k,M5 fs k=true->v.names k=false)/\NoF fs gs:=by
 unfold NoF Gh;simp only [ghs];constructor
 ·rintro⟨h1,h2⟩;have hi:GB<=i:=by
   by_cases h:GB<=i
   ·exact h
   ·rw [B6j h]at h1;have:=congrArg List.length h1;have hl:∀l:FL,(ghs l).length<=l.length:=by
     intro l
     induction l with
     |nil=>simp [ghs]
     |cons p l ih=>obtain⟨a,b⟩:=p;simp only [ghs];split<;>simp<;>omega
    have:=hl gs;simp at*;omega
  rw [B6l hi]at h1;simp only [B76,B7w]at h1;exact⟨hi,λ k hk=>h2 (i,v) (by simp) k hk,h1,λ p hp=>h2 p (by simp [hp])⟩
 ·rintro⟨hi,h1,h2,h3⟩;refine⟨by rw [B6l hi,h2],λ p hp=> ?_⟩
  rcases B6r.1 hp with rfl|hp
  ·exact h1
  ·exact h3 p hp
theorem NoF.gho {fs:List Nat}{gs:FL}(h:NoF fs gs):NoF fs (gho gs):=by
 refine⟨Be0 gs,λ p hp=> ?_⟩
 have:∀l:FL,p∈Am.gho l->∃q∈l,p.2=q.2:=by
  intro l
  induction l with
  |nil=>intro h;simp [Am.gho]at h
  |cons q l ih=>
   obtain⟨a,b⟩:=q;intro h;simp only [Am.gho,B6r]at h;rcases h with rfl|h
   ·exact⟨(a,b),by simp,rfl⟩
   all_goals grind
 obtain⟨q,hq,he⟩:=this gs hp;intro k hk;rw [he];exact h.2 q hq k hk
theorem Ajd {fs:List Nat}{j a b:Nat}(h:M5 fs j=false):∀k,M5 fs k=true->(AV.loc j a b).names k=false:=λ k hk=>by
 grind [K2]
theorem A6j {fs:List Nat}{ds:List D}:∀k,M5 fs k=true->(AV.agg ds).names k=false:=λ k hk=>by simp
theorem Bt3 {fs:List Nat}{d:D}:∀k,M5 fs k=true->(AV.c d).names k=false:=λ k hk=>by simp
theorem U7.hall {fs:List Nat}{hk:Nat}{wm cm:Option Nat}{qs:List HQ}{cs:List HC}{n:Int}{c:Nat}{ob:OL}(hO:U7 fs ob)(hH:F6 hk wm cm qs cs n c ob):M5 fs hk=false:=(hO _ (B0 hH.hall)).1
def Bt4 (g:PG):Prop:=∀(hk:Nat)(wm cm:Option Nat)(qs:List HQ)(cs:List HC)(n:Int)(c:Nat)(k:K3) gs ob,U7 [521,524] ob->NoF [521,524] gs->F6 hk wm cm qs cs n c ob->Cn c ob->
 ∃dX aA,g ⟨(0,.loc hk 0 0)::(1,.agg (U5 k))::gs,ob⟩=some ([.agg (U8 (lS (L7 qs k))),bo (decide (L7 qs k≠[]))],aA)/\F6 hk wm cm dX cs n c aA/\(∀k',L7 dX k'=if k'=k then(L7 qs k).tail else L7 qs k')/\Stp (Ael hk wm cm qs) (Ael hk wm cm dX) c c ob aA
def A2f :AC:= .seq (.draw A6f [] [] Be4) (.keepP [0,3,4,6] 521000 522000 [521003,521004,521006] (.seq (.draw A6e [] [] Be3) (.keepP [0,3,4,6,36] 521000 522000 [521003,521004,521006] (.cond (.t 36) (.keepP [0,3,4,6] 521000 522000 [521003,521004,521006] (.draw A6d [] [] Be2)) (.skip)))))
abbrev A2g (k:K3)(w:W4)(ob:OL):OL:=(521006,⟨4,[w4R w]⟩)::(521004,⟨4,[[i64 0,i64 0,i64 0,i64 0]]⟩)::(521003,⟨3,[A4 (U5 k)]⟩)::ob
theorem Bkh (Γ:H6)(M:Nat)(hk K:Nat)(cv:AV)(n:Int)(z:Nat)(qs:List HQ)(k:K3)(w w2:W4)(r:List W4)(i:Nat)(e:HQ)(gs:FL)(ob:OL)(hO:U7 [521] ob)(hF:NoF [521] gs)(hh:get ob hk=some ⟨3,[[.mp K,cv,i64 n]]⟩)(hm:get ob K=some ⟨z,qs.map HQ.row⟩)(hK:522000<=K%KT)(hf:I6 qs k 0=some (i,e))(hq:get ob e.ky=some e.obj)(oJ:e.ky<MK)(hl:e.l=w::w2::r)(aH:e.ky≠K)(fS:hk≠K):
  (exec Γ M A2f ⟨(0,.loc hk 0 0)::(3,.loc 521003 0 0)::(4,.loc 521004 0 0)::(6,.loc 521006 0 0)::gs,A2g k w ob⟩).map (λ p=>(p.1,get p.2.fr 4,get p.2.fr 6,ghs p.2.fr,p.2.ob))=some (.norm,some (.loc 521004 0 0),some (.loc 521006 0 0),gs,(K,⟨z,(qs.set i ⟨e.b,e.k,e.ky,e.gone++[w],w2::r⟩).map HQ.row⟩)::A2g k w (del ob K)):=by
 have g:=hF.1;have n3:=hO.nm (k:=521003) (by decide)
 have d3:=hO.del (k:=521003) (by decide)
 have f3:=hF.nm (k:=521003) (by decide)
 have n4:=hO.nm (k:=521004) (by decide)
 have d4:=hO.del (k:=521004) (by decide)
 have f4:=hF.nm (k:=521004) (by decide)
 have n6:=hO.nm (k:=521006) (by decide)
 have d6:=hO.del (k:=521006) (by decide)
 have f6:=hF.nm (k:=521006) (by decide)
 have k1:=hO.kf (f:=521) (by simp)
 have k2:Kf 521000 522000 (del ob K):=Y6 k1;rw [G1]at hK;have h3:=A3 hO hh (k:=521003) (by decide)
 have h4:=A3 hO hh (k:=521004) (by decide)
 have h6:=A3 hO hh (k:=521006) (by decide)
 have m3:=A3 hO hm (k:=521003) (by decide)
 have m4:=A3 hO hm (k:=521004) (by decide)
 have m6:=A3 hO hm (k:=521006) (by decide)
 have q3:=A3 hO hq (k:=521003) (by decide)
 have q4:=A3 hO hq (k:=521004) (by decide)
 have q6:=A3 hO hq (k:=521006) (by decide)
 have qH:=B6i h3;have qI:=B6i h4;have sO:=B6i h6;have m3':=B6i m3;have m4':=B6i m4;have m6':=B6i m6;have q3':=B6i q3;have q4':=B6i q4;have q6':=B6i q6;have mQ:=B6i aH;have mR:=B6i fS;have dd1:get (del ob K) hk=get ob hk:=by rw [B3,B6j fS]
 have dd2:get (del ob K) e.ky=get ob e.ky:=by rw [B3,B6j aH]
 have mf:=Aek k qs 0;rw [hf]at mf;simp only [B7h]at mf;obtain⟨_,iG,lM⟩:=H2 hf;rw [B78]at iG;obtain⟨eb,ek,ky,gone,l⟩:=e;simp only at dd2 lM oJ hl hq aH mQ q3 q4 q6 q3' q4' q6';subst lM hl;have dZ:=Asw (e':=⟨eb,ek,ky,gone++[w],w2::r⟩) (i:=i) (j:=0) hf rfl;have mf2:=Aek ek (qs.set i ⟨eb,ek,ky,gone++[w],w2::r⟩) 0;rw [dZ]at mf2;simp only [B7h,B8y]at mf2;simp only [HQ.val,HQ.obj,B8p,B67,B88,B7u]at mf mf2 hq;have iZ:Ac4 (qs.map HQ.row) i= .c (.int .i64 eb):=by
  unfold Ac4;rw [B7m,iG];rfl
 have lL:∀(s:St),Aq3 K (true,[.int .i64,.int .i64,.int .i64]) (.agg [.int .i64 ek.1,.int .i64 ek.2.1,.int .i64 ek.2.2]) (.sl ky (gone.length+(r.length+1+1)) (gone.length+1) (r.length+1)) ⟨z,qs.map HQ.row⟩ s=some (s.obj K ⟨z,(qs.set i ⟨eb,ek,ky,gone++[w],w2::r⟩).map HQ.row⟩):=λ s=>by
  simp only [U5]at mf;simp only [Aq3,mf,iZ];congr 2;rw [List.map_set,setRow,B8l,B6l (by rw [B6s];exact(B6n.1 iG).1)]
  simp only [HQ.row,HQ.val,U5,B67,B8p,B88,B7u,B9c,Nat.add_comm 1]
 have aF:(List.map w4R (gone++w::w2::r)).length=gone.length+(r.length+1+1):=by simp
 simp only [U5]at mf mf2;rw [show gone.length+1+(r.length+1)=gone.length+(r.length+1+1) by omega]at mf2
 have cI:gone.length+1+(r.length+1)<=gone.length+(r.length+1+1):=by omega
 generalize List.map HQ.row (qs.set i ⟨eb,ek,ky,gone++[w],w2::r⟩)=R2 at*;simp -implicitDefEqProofs (disch:=first|omega|(simp [g];done)|assumption) [A2f,g,n3,d3,f3,n4,d4,f4,n6,d6,f6,k1,k2,dd1,dd2,h3,h4,h6,m3,m4,m6,q3,q4,q6,qH,qI,sO,m3',m4',m6',q3',q4',q6',aH,mQ,fS,mR,hh,hm,mf,mf2,hq,lL,aF,cI,hK,U5,w4R,U8]
theorem Bqb (Γ:H6)(M:Nat)(hk K:Nat)(cv:AV)(n:Int)(z:Nat)(qs:List HQ)(k:K3)(w:W4)(i:Nat)(e:HQ)(gs:FL)(ob:OL)(hO:U7 [521] ob)(hF:NoF [521] gs)(hh:get ob hk=some ⟨3,[[.mp K,cv,i64 n]]⟩)(hm:get ob K=some ⟨z,qs.map HQ.row⟩)(hK:522000<=K%KT)(hf:I6 qs k 0=some (i,e))(hq:get ob e.ky=some e.obj)(oJ:e.ky<MK)(hl:e.l=[w])(aH:e.ky≠K)(fS:hk≠K):
  (exec Γ M A2f ⟨(0,.loc hk 0 0)::(3,.loc 521003 0 0)::(4,.loc 521004 0 0)::(6,.loc 521006 0 0)::gs,A2g k w ob⟩).map (λ p=>(p.1,get p.2.fr 4,get p.2.fr 6,ghs p.2.fr,p.2.ob))=some (.norm,some (.loc 521004 0 0),some (.loc 521006 0 0),gs,(K,⟨z,(qs.eraseIdx i).map HQ.row⟩)::A2g k w (del ob K)):=by
 have g:=hF.1;have n3:=hO.nm (k:=521003) (by decide)
 have d3:=hO.del (k:=521003) (by decide)
 have f3:=hF.nm (k:=521003) (by decide)
 have n4:=hO.nm (k:=521004) (by decide)
 have d4:=hO.del (k:=521004) (by decide)
 have f4:=hF.nm (k:=521004) (by decide)
 have n6:=hO.nm (k:=521006) (by decide)
 have d6:=hO.del (k:=521006) (by decide)
 have f6:=hF.nm (k:=521006) (by decide)
 have k1:=hO.kf (f:=521) (by simp)
 have k2:Kf 521000 522000 (del ob K):=Y6 k1;rw [G1]at hK;have h3:=A3 hO hh (k:=521003) (by decide)
 have h4:=A3 hO hh (k:=521004) (by decide)
 have h6:=A3 hO hh (k:=521006) (by decide)
 have m3:=A3 hO hm (k:=521003) (by decide)
 have m4:=A3 hO hm (k:=521004) (by decide)
 have m6:=A3 hO hm (k:=521006) (by decide)
 have q3:=A3 hO hq (k:=521003) (by decide)
 have q4:=A3 hO hq (k:=521004) (by decide)
 have q6:=A3 hO hq (k:=521006) (by decide)
 have qH:=B6i h3;have qI:=B6i h4;have sO:=B6i h6;have m3':=B6i m3;have m4':=B6i m4;have m6':=B6i m6;have q3':=B6i q3;have q4':=B6i q4;have q6':=B6i q6;have mQ:=B6i aH;have mR:=B6i fS;have dd1:get (del ob K) hk=get ob hk:=by rw [B3,B6j fS]
 have dd2:get (del ob K) e.ky=get ob e.ky:=by rw [B3,B6j aH]
 have mf:=Aek k qs 0;rw [hf]at mf;simp only [B7h]at mf;obtain⟨_,iG,lM⟩:=H2 hf;rw [B78]at iG;obtain⟨eb,ek,ky,gone,l⟩:=e;simp only at dd2 lM oJ hl hq aH mQ q3 q4 q6 q3' q4' q6';subst lM hl;have dZ:=Asw (e':=⟨eb,ek,ky,gone++[w],[]⟩) (i:=i) (j:=0) hf rfl;have mf2:=Aek ek (qs.set i ⟨eb,ek,ky,gone++[w],[]⟩) 0;rw [dZ]at mf2;simp only [B7h,B8y]at mf2;simp only [HQ.val,HQ.obj,B8p,B67,B88,B7u]at mf mf2 hq;have iZ:Ac4 (qs.map HQ.row) i= .c (.int .i64 eb):=by
  unfold Ac4;rw [B7m,iG];rfl
 have lL:∀(s:St),Aq3 K (true,[.int .i64,.int .i64,.int .i64]) (.agg [.int .i64 ek.1,.int .i64 ek.2.1,.int .i64 ek.2.2]) (.sl ky (gone.length+1) (gone.length+1) 0) ⟨z,qs.map HQ.row⟩ s=some (s.obj K ⟨z,(qs.set i ⟨eb,ek,ky,gone++[w],[]⟩).map HQ.row⟩):=λ s=>by
  simp only [U5]at mf;simp only [Aq3,mf,iZ];congr 2;rw [List.map_set,setRow,B8l,B6l (by rw [B6s];exact(B6n.1 iG).1)]
  simp only [HQ.row,HQ.val,U5,B67,B8p,B88,B7u,B9c,Nat.add_comm 1]
 have aF:(List.map w4R (gone++[w])).length=gone.length+1:=by simp
 simp only [U5]at mf mf2;have vL:(List.map HQ.row (qs.set i ⟨eb,ek,ky,gone++[w],[]⟩)).eraseIdx i=(qs.eraseIdx i).map HQ.row:=by rw [Asx,A3p]
 generalize List.map HQ.row (qs.set i ⟨eb,ek,ky,gone++[w],[]⟩)=R2 at*;simp -implicitDefEqProofs (disch:=first|omega|(simp [g];done)|assumption) [A2f,g,n3,d3,f3,n4,d4,f4,n6,d6,f6,k1,k2,dd1,dd2,h3,h4,h6,m3,m4,m6,q3,q4,q6,qH,qI,sO,m3',m4',m6',q3',q4',q6',aH,mQ,fS,mR,hh,hm,mf,mf2,hq,lL,aF,vL,hK,U5,w4R,U8]
theorem Bad {fs:List Nat}{k:K3}{w:W4}{ob:OL}(h1:M5 fs 521003=false)(h2:M5 fs 521004=false)(h3:U7 fs ob):U7 fs ((521004,⟨4,[[i64 0,i64 0,i64 0,i64 0]]⟩)::(521003,⟨3,[A4 (U5 k)]⟩)::ob):=by
 rw [Ae0,Ae0];exact⟨h2,λ j hj=>by simp,h1,λ j hj=>by simp [U5],h3⟩
theorem A3q (Γ:H6)(M:Nat)(sP:A0t (Γ.pt 524))(hk K:Nat)(oK:Obj)(wm cm:Option Nat)(qs:List HQ)(cs:List HC)(n:Int)(c:Nat)(k:K3)(gs:FL)(ob:OL)(hO:U7 [521,524] ob)(hF:NoF [521,524] gs)(hH:F6 hk wm cm qs cs n c ob)(hw:L7 qs k≠[])
  (hK:522000<=K%KT)(hK6:¬K=521006)(hK3:¬K=521003)(hK4:¬K=521004)
  (hT:(exec Γ M A2f ⟨(0,.loc hk 0 0)::(3,.loc 521003 0 0)::(4,.loc 521004 0 0)::(6,.loc 521006 0 0)::gs,A2g k (lS (L7 qs k)) ob⟩).map (λ p=>(p.1,get p.2.fr 4,get p.2.fr 6,ghs p.2.fr,p.2.ob))=some (.norm,some (.loc 521004 0 0),some (.loc 521006 0 0),gs,(K,oK)::A2g k (lS (L7 qs k)) (del ob K))):
  H9 Γ M H5 ⟨(0,.loc hk 0 0)::(1,.agg (U5 k))::gs,ob⟩=some ([.agg (U8 (lS (L7 qs k))),bo true],(K,oK)::del ob K):=by
 have lT:=hO.mono (fs':=[521]) (by simp)
 have iX:=hF.mono (fs':=[521]) (by simp)
 have vM:=hO.mono (fs':=[524]) (by simp)
 have hF4:=hF.mono (fs':=[524]) (by simp)
 have g:=hF.1;have n3:=hO.nm (k:=521003) (by decide)
 have d3:=hO.del (k:=521003) (by decide)
 have f3:=hF.nm (k:=521003) (by decide)
 have n4:=hO.nm (k:=521004) (by decide)
 have d4:=hO.del (k:=521004) (by decide)
 have f4:=hF.nm (k:=521004) (by decide)
 have n6:=hO.nm (k:=521006) (by decide)
 have d6:=hO.del (k:=521006) (by decide)
 have f6:=hF.nm (k:=521006) (by decide)
 have k1:=hO.kf (f:=521) (by simp)
 have k2:Kf 521000 522000 (del ob K):=Y6 k1;rw [G1]at hK;have hh:=hH.hall;have h3:=A3 hO hh (k:=521003) (by decide)
 have h4:=A3 hO hh (k:=521004) (by decide)
 have h6:=A3 hO hh (k:=521006) (by decide)
 have qH:=B6i h3;have qI:=B6i h4;have sO:=B6i h6;have hK6':=B6i hK6;have hK3':=B6i hK3;have hK4':=B6i hK4;have x3:=hO.none (k:=521003) (by decide)
 have x4:=hO.none (k:=521004) (by decide)
 have x6:=hO.none (k:=521006) (by decide)
 have dd3:=A7 K x3;have dd4:=A7 K x4;have dd6:=A7 K x6;have da3:=D1 _ _ dd3;have da4:=D1 _ _ dd4;have da6:=D1 _ _ dd6;have hr:=vM.hall hH;have hOt:=Bad (k:=k) (w:=(0,0,0,0)) (by decide) (by decide) vM
 have hHt:=(hH.push (o:=⟨3,[A4 (U5 k)]⟩) x3).push (k0:=521004) (o:=⟨4,[[i64 0,i64 0,i64 0,i64 0]]⟩) (by simp only [Go.Am.get];rw [B6j (by omega)];exact x4)
 have e:=λ bJ h=>sP hk wm cm qs cs n c k bJ _ hOt h hHt
 have hb:decide (L7 qs k≠[])=true:=by simpa using hw
 rw [hb]at e;generalize lS (L7 qs k)=w at*;simp only [B6m,B6k]at hT;obtain⟨⟨ax,s3⟩,t1,t2,t3,t5,t6,t4⟩:=hT;simp only at t2 t3 t4 t5 t6;subst t2;have eT:A2f= .seq (.draw A6f [] [] Be4) (.keepP [0,3,4,6] 521000 522000 [521003,521004,521006] (.seq (.draw A6e [] [] Be3) (.keepP [0,3,4,6,36] 521000 522000 [521003,521004,521006] (.cond (.t 36) (.keepP [0,3,4,6] 521000 522000 [521003,521004,521006] (.draw A6d [] [] Be2)) (.skip))))):=rfl;have m1:=Ajd (fs:=[524]) (j:=521003) (a:=0) (b:=0) (by decide)
 have m2:=Ajd (fs:=[524]) (j:=521004) (a:=0) (b:=0) (by decide)
 have m3:=Ajd (fs:=[524]) (j:=hk) (a:=0) (b:=0) hr;have m4:=λ ds=>A6j (fs:=[524]) (ds:=ds)
 have m5:=λ d=>Bt3 (fs:=[524]) (d:=d)
 simp only [U8,U5,A4,B6v,B8a]at e;simp only [U8,U5,w4R,A2g,A4,B6v,B8a]at t1 t4;unfold H9 H5 Ae8
 try simp only [Cx.sr,Cx.pP,Cx.pQ,Cx.p0,Cx.rg,Cx.cd,Nat.reduceMul,Nat.reduceAdd]
 rw [<-eT];generalize A2f=T at*;simp -implicitDefEqProofs (disch:=first|omega|(simp [g]<;>fail)|(simp only [Aze];exact⟨by unfold GB;omega,m4 _,by unfold GB;omega,m3,by unfold GB;omega,m3,by unfold GB;omega,m1,by unfold GB;omega,m2,hF4.gho⟩)|assumption) [g,n3,d3,f3,n4,d4,f4,n6,d6,f6,k1,k2,h3,h4,h6,qH,qI,sO,e,U5,w4R,U8,t1,t3,t4,t5,t6,hK,hK6,hK3,hK4,hK6',hK3',hK4',x3,x4,x6,dd3,dd4,dd6,da3,da4,da6]
theorem Bwl (Γ:H6)(M:Nat)(sP:A0t (Γ.pt 524))(hk:Nat)(wm cm:Option Nat)(qs:List HQ)(cs:List HC)(n:Int)(c:Nat)(k:K3)(gs:FL)(ob:OL)(hO:U7 [521,524] ob)(hF:NoF [521,524] gs)(hH:F6 hk wm cm qs cs n c ob)(hw:L7 qs k=[]):
  H9 Γ M H5 ⟨(0,.loc hk 0 0)::(1,.agg (U5 k))::gs,ob⟩=some ([.agg (U8 (lS (L7 qs k))),bo false],ob):=by
 have lT:=hO.mono (fs':=[521]) (by simp)
 have iX:=hF.mono (fs':=[521]) (by simp)
 have vM:=hO.mono (fs':=[524]) (by simp)
 have hF4:=hF.mono (fs':=[524]) (by simp)
 have g:=hF.1;have n3:=hO.nm (k:=521003) (by decide)
 have d3:=hO.del (k:=521003) (by decide)
 have f3:=hF.nm (k:=521003) (by decide)
 have n4:=hO.nm (k:=521004) (by decide)
 have d4:=hO.del (k:=521004) (by decide)
 have f4:=hF.nm (k:=521004) (by decide)
 have n6:=hO.nm (k:=521006) (by decide)
 have d6:=hO.del (k:=521006) (by decide)
 have f6:=hF.nm (k:=521006) (by decide)
 have k1:=hO.kf (f:=521) (by simp)
 have hh:=hH.hall;have h3:=A3 hO hh (k:=521003) (by decide)
 have h4:=A3 hO hh (k:=521004) (by decide)
 have h6:=A3 hO hh (k:=521006) (by decide)
 have qH:=B6i h3;have qI:=B6i h4;have sO:=B6i h6;have x3:=hO.none (k:=521003) (by decide)
 have x4:=hO.none (k:=521004) (by decide)
 have x6:=hO.none (k:=521006) (by decide)
 have hr:=vM.hall hH;have hOt:=Bad (k:=k) (w:=(0,0,0,0)) (by decide) (by decide) vM
 have hHt:=(hH.push (o:=⟨3,[A4 (U5 k)]⟩) x3).push (k0:=521004) (o:=⟨4,[[i64 0,i64 0,i64 0,i64 0]]⟩) (by simp only [Go.Am.get];rw [B6j (by omega)];exact x4)
 have e:=λ bJ h=>sP hk wm cm qs cs n c k bJ _ hOt h hHt
 have hb:decide (L7 qs k≠[])=false:=by simpa using hw
 rw [hb]at e;generalize lS (L7 qs k)=w at*;have m1:=Ajd (fs:=[524]) (j:=521003) (a:=0) (b:=0) (by decide)
 have m2:=Ajd (fs:=[524]) (j:=521004) (a:=0) (b:=0) (by decide)
 have m3:=Ajd (fs:=[524]) (j:=hk) (a:=0) (b:=0) hr;have m4:=λ ds=>A6j (fs:=[524]) (ds:=ds)
 have m5:=λ d=>Bt3 (fs:=[524]) (d:=d)
 simp only [U8,U5,A4,B6v,B8a]at e;simp -implicitDefEqProofs (disch:=first|omega|(simp [g]<;>fail)|(simp only [Aze];exact⟨by unfold GB;omega,m4 _,by unfold GB;omega,m3,by unfold GB;omega,m3,by unfold GB;omega,m1,by unfold GB;omega,m2,hF4.gho⟩)|assumption) [g,n3,d3,f3,n4,d4,f4,n6,d6,f6,k1,h3,h4,h6,qH,qI,sO,e,U5,w4R,U8,x3,x4,x6]
theorem A3r {k:K3}{l:List W4}:∀{qs:List HQ}{i:Nat}{e e':HQ},qs[i]? =some e->(qs.map (·.k)).Nodup->e'.k=e.k->L7 (qs.set i e') k=if k=e.k then e'.l else L7 qs k
 |[],i,e,e',h,_,_=>by simp at h
 |x::qs,0,e,e',h,hn,hk=>by
  grind [List.getElem?_cons_zero,L7]
 |x::qs,i+1,e,e',h,hn,hk=>by
  simp only [B8v]at h;simp only [B6v,B83]at hn;simp only [B9i,L7,A3r (l:=l) h hn.2 hk];grind [List.mem_of_getElem?]
theorem A3s {α:Type}{l:List α}{i:Nat}{x:α}(h:x∈l.eraseIdx i):x∈l:=(List.eraseIdx_sublist l i).subset h
theorem V2 {α β:Type}(f:α->β){l:List α}(i:Nat)(h:(l.map f).Nodup):((l.eraseIdx i).map f).Nodup:=((List.eraseIdx_sublist l i).map f).nodup h
theorem Am4 {k:Nat}{qs dX:List HQ}(h:B5 k (qs.map HQ.row)=true)(hs:∀e∈dX,∃e0∈qs,e.ky=e0.ky):B5 k (dX.map HQ.row)=true:=A5.2 λ r hr v hv=>by
 obtain⟨e,he,rfl⟩:=B6z.1 hr;obtain⟨e0,he0,hk⟩:=hs e he;have:=A5.1 h e0.row (B6z.2 ⟨e0,he0,rfl⟩) e0.val (by simp [HQ.row])
 simp only [HQ.row,B6r,B7a,or_false]at hv;rcases hv with rfl|rfl|rfl
 ·simp
 ·simp
 all_goals grind [HQ.val,X5]
theorem Alh (Γ:H6)(M:Nat)(sP:A0t (Γ.pt 524)):Bt4 (H9 Γ M H5):=by
 intro hk wm cm qs cs n c k gs ob hO hF hH hC;have lT:=hO.mono (fs':=[521]) (by simp)
 have iX:=hF.mono (fs':=[521]) (by simp)
 have fV:DB=1000000000000000000:=rfl;have bI:CK=900000000000000000:=rfl;have aS:MK=1461501637330902918203684832716283019655932542976:=U2;have aB:KT=18446744073709551616:=G1;have sQ:=hC.le;by_cases hw:L7 qs k=[]
 ·refine⟨qs,ob,?_,hH,λ k'=> ?_,⟨λ _ _ _ _=>rfl,λ _ h=> .inl h,λ _ _ h=>h,λ _ _ h=>h,λ h=>h⟩⟩
  all_goals grind [Bwl]
 ·obtain⟨K,rfl⟩:∃K,wm=some K:=by
   cases eZ:wm with
   |some K=>exact⟨K,rfl⟩
   |none=>
    obtain⟨z,hz,_⟩:=hH.wz;rw [eZ]at hz;have eY:qs=[]:=by simpa [S4]using hz
    rw [eY]at hw;exact absurd rfl hw
  obtain⟨z,hz,qG⟩:=hH.wz;have hz:get ob K=some ⟨z,qs.map HQ.row⟩:=hz;have hh:=hH.hall;simp only [M4]at hh;cases hf:I6 qs k 0 with
  |none=>rw [P6 0,hf]at hw;exact absurd rfl hw
  |some p=>
   obtain⟨i,e⟩:=p;obtain⟨_,iG,lM⟩:=H2 hf;rw [B78]at iG;have yB:L7 qs k=e.l:=by rw [P6 0,hf]
   obtain⟨y0,y1,y2,y3⟩:=hH.q e (B6t iG);have vJ:=hH.wk K rfl;have oA:522000<=K%KT:=by
    obtain⟨j,hj⟩:∃j,K=MK+DB+j:=⟨K-(MK+DB),by omega⟩
    rw [hj,(Afv (n:=j) (by omega)).2];omega
   have fS:hk≠K:=by have:=hH.hb;omega
   have hyK:e.ky≠K:=by omega
   have hi:=(B6n.1 iG).1;obtain⟨w,r,hl⟩:∃w r,e.l=w::r:=by
    cases hl:e.l with
    |nil=>exact absurd hl y3
    |cons w r=>exact⟨w,r,rfl⟩
   have hh0:lS (L7 qs k)=w:=by rw [yB,hl];rfl
   have hdw:decide (L7 qs k≠[])=true:=by simpa using hw
   have cS:∀j,B8 j ob=true->B5 j (qs.map HQ.row)=true:=λ j h=>C8.1 h (K,⟨z,qs.map HQ.row⟩) (B0 hz)
   cases r with
   |nil=>
    have hT:=Bqb Γ M hk K (M4 cm) n z qs k w i e gs ob lT iX hh hz oA hf y0 (by omega) hl hyK fS
    rw [<-hh0]at hT;have hB:=A3q Γ M sP hk K _ (some K) cm qs cs n c k gs ob hO hF hH hw oA (by omega) (by omega) (by omega) hT
    have bX:∀x∈qs.eraseIdx i,x∈qs:=λ x hx=>A3s hx
    refine⟨qs.eraseIdx i,(K,⟨z,(qs.eraseIdx i).map HQ.row⟩)::del ob K,?_,?_,λ k'=> ?_,?_⟩
    ·rw [hdw];exact hB
    ·exact hH.setq (λ x hx=>qG x (bX x hx)) (λ x hx=>hH.q x (bX x hx)) sQ (V2 _ i hH.qb) (V2 _ i hH.qy) (V2 _ i hH.qk)
    ·rw [Ax6 iG hH.qk,lM,yB,hl];by_cases h:k=k'
     ·rw [B6l h,B6l h.symm];rfl
     ·rw [B6j h,B6j (B6i h)]
    ·refine Arq hz (.inr (.inl rfl)) (λ j hj=> ?_) (λ j hj=>Am4 (cS j hj) λ x hx=>⟨x,bX x hx,rfl⟩) (by omega)
     rcases hj with h|h|h|⟨x,hx,h⟩
     ·exact .inl h
     ·exact .inr (.inl h)
     ·exact .inr (.inr (.inl h))
     ·exact .inr (.inr (.inr ⟨x,bX x hx,h⟩))
   |cons w2 r=>
    have hT:=Bkh Γ M hk K (M4 cm) n z qs k w w2 r i e gs ob lT iX hh hz oA hf y0 (by omega) hl hyK fS
    rw [<-hh0]at hT;have hB:=A3q Γ M sP hk K _ (some K) cm qs cs n c k gs ob hO hF hH hw oA (by omega) (by omega) (by omega) hT
    rw [hh0]at hB hT;have bX:∀x∈qs.set i ⟨e.b,e.k,e.ky,e.gone++[w],w2::r⟩,∃x0∈qs,x.ky=x0.ky/\x.b=x0.b/\x.obj=x0.obj/\x.l≠[]:=λ x hx=>by
     rcases Arp hx with rfl|⟨j,_,hj⟩
     ·exact⟨e,B6t iG,rfl,rfl,by simp [HQ.obj,hl],by simp⟩
     ·exact⟨x,B6t hj,rfl,rfl,rfl,(hH.q x (B6t hj)).2.2.2⟩
    refine⟨qs.set i ⟨e.b,e.k,e.ky,e.gone++[w],w2::r⟩,(K,⟨z,(qs.set i ⟨e.b,e.k,e.ky,e.gone++[w],w2::r⟩).map HQ.row⟩)::del ob K,?_,?_,λ k'=> ?_,?_⟩
    ·rw [hdw,hh0];exact hB
    ·refine hH.setq (λ x hx=> ?_) (λ x hx=> ?_) sQ ?_ ?_ ?_
     ·obtain⟨x0,h0,_,hb,_⟩:=bX x hx;rw [hb];exact qG x0 h0
     ·obtain⟨x0,h0,hy,hb,ho,hl'⟩:=bX x hx;obtain⟨a1,a2,a3,_⟩:=hH.q x0 h0;rw [hy,ho];exact⟨a1,a2,a3,hl'⟩
     ·rw [X2 (f:=HQ.b) iG (by rfl)];exact hH.qb
     ·rw [X2 (f:=HQ.ky) iG (by rfl)];exact hH.qy
     ·rw [X2 (f:=HQ.k) iG (by rfl)];exact hH.qk
    ·rw [A3r (l:=[]) (e':=⟨e.b,e.k,e.ky,e.gone++[w],w2::r⟩) iG hH.qk rfl,yB,hl,lM];rfl
    ·refine Arq hz (.inr (.inl rfl)) (λ j hj=> ?_) (λ j hj=>Am4 (cS j hj) λ x hx=> ?_) (by omega)
     ·rcases hj with h|h|h|⟨x,hx,h⟩
      ·exact .inl h
      ·exact .inr (.inl h)
      ·exact .inr (.inr (.inl h))
      ·obtain⟨x0,h0,hy,_⟩:=bX x hx;exact .inr (.inr (.inr ⟨x0,h0,by rw [<-hy];exact h⟩))
     ·obtain⟨x0,h0,hy,_⟩:=bX x hx;exact⟨x0,h0,hy⟩
def Bmy (cs:List HC)(f d:Int):List HC:=match P5 cs f d 0 with|some (i,_)=>cs.eraseIdx i|none=>cs
def Bfi (g:PG):Prop:=∀(hk:Nat)(wm cm:Option Nat)(qs:List HQ)(cs:List HC)(n:Int)(c:Nat)(f d:Int) gs ob,U7 [511] ob->NoF [511] gs->F6 hk wm cm qs cs n c ob->Cn c ob->
 ∃aA,g ⟨(0,.loc hk 0 0)::(1,i64 f)::(2,i64 d)::gs,ob⟩=some ([bo (isC cs f d)],aA)/\F6 hk wm cm qs (Bmy cs f d) n c aA/\Stp (Ael hk wm cm qs) (Ael hk wm cm qs) c c ob aA
theorem F6.setc {hk K:Nat}{wm:Option Nat}{qs:List HQ}{cs bS:List HC}{n:Int}{c z:Nat}{ob:OL}(h:F6 hk wm (some K) qs cs n c ob)(hz:∀e∈bS,e.b<z)(hc:c<=1000000000)
  (cb:(bS.map (·.b)).Nodup)(cd:(bS.map λ e=>(e.f,e.d)).Nodup):F6 hk wm (some K) qs bS n c ((K,⟨z,bS.map HC.row⟩)::del ob K):=by
 have fV:DB=1000000000000000000:=rfl;have bI:CK=900000000000000000:=rfl;have aS:MK=1461501637330902918203684832716283019655932542976:=U2;have hK:=h.ck K rfl;have hb:=h.hb;have keep:∀{k:Nat}{u:Obj},k≠K->get ob k=some u->get ((K,(⟨z,bS.map HC.row⟩:Obj))::del ob K) k=some u:=λ {k u} h1 h2=>by
  grind [Go.Am.get,B3]
 refine⟨keep (by omega) h.hall,?_,⟨z,by simp only [S4,Go.Am.get];rw [B6l trivial],hz⟩,h.wk,h.ck,h.wc,λ e he=> ?_,h.qb,h.qy,h.qk,cb,cd,hb⟩
 ·obtain⟨zc,h1,h2⟩:=h.wz;refine⟨zc,?_,h2⟩;cases eZ:wm with
  |none=>rw [eZ]at h1;exact h1
  |some k=>rw [eZ]at h1;exact keep (λ hk=>h.wc k eZ (by rw [hk])) h1
 ·obtain⟨h1,h2,h3,h4⟩:=h.q e he;exact⟨keep (by omega) h1,h2,h3,h4⟩
theorem A3t (k:Nat)(cs:List HC):B5 k (cs.map HC.row)=true:=A5.2 λ r hr v hv=>by
 obtain⟨e,_,rfl⟩:=B6z.1 hr;simp only [HC.row,B6r,B7a,or_false]at hv;rcases hv with rfl|rfl|rfl<;>rfl
theorem Aju (Γ:H6)(M:Nat)(jY:Al4 (Γ 523)):Bfi (H9 Γ M P8):=by
 intro hk wm cm qs cs n c f d gs ob hO hF hH hC;have g:=hF.1;have hh:=hH.hall;have e:=jY f d;have n1:=hO.nm (k:=511007) (by decide)
 have d1:=hO.del (k:=511007) (by decide)
 have f1:=hF.nm (k:=511007) (by decide)
 have k1:=hO.kf (f:=511) (by simp)
 have h1:=Aba hO hH (k:=511007) (by decide)
 have gF:=B6i h1;have x1:=hO.none (k:=511007) (by decide)
 have fb:=Ag7 (d:=7) f1;have b1:(hk==511007)=false:=beq_false_of_ne h1;have fV:DB=1000000000000000000:=rfl;have bI:CK=900000000000000000:=rfl;have aS:MK=1461501637330902918203684832716283019655932542976:=U2;obtain⟨z,hz,qG⟩:=hH.cz;unfold isC Bmy;cases gL:cm with
 |none=>
  subst gL;have aW:cs=[]:=by simpa [S4]using hz
  subst aW;simp only [M4]at hh;refine⟨ob,?_,hH,⟨λ _ _ _ _=>rfl,λ _ h=> .inl h,λ _ _ h=>h,λ _ _ h=>h,λ h=>h⟩⟩
  simp -implicitDefEqProofs (disch:=first|omega|(simp [g];done)|assumption) [g,n1,d1,f1,k1,h1,gF,hh,e,x1,P5,fb,b1]
 |some K=>
  subst gL;have hz:get ob K=some ⟨z,cs.map HC.row⟩:=hz;simp only [M4]at hh;have h2:=A3 hO hz (k:=511007) (by decide)
  have jK:=B6i h2;have b2:(K==511007)=false:=beq_false_of_ne h2;have mf:=Ajb f d cs 0;have vJ:=hH.ck K rfl;have oA:512000<=K%KT:=by
   obtain⟨j,hj⟩:∃j,K=MK+DB+j:=⟨K-(MK+DB),by omega⟩
   rw [hj,(Afv (n:=j) (by have:=hC.le;omega)).2];omega
  rw [G1]at oA;have k2:Kf 511000 512000 (del ob K):=Y6 k1;have dd1:=A7 K x1;have da1:=D1 _ _ dd1;cases hf:P5 cs f d 0 with
  |none=>
   rw [hf]at mf;simp only [B8t]at mf;refine⟨ob,?_,hH,⟨λ _ _ _ _=>rfl,λ _ h=> .inl h,λ _ _ h=>h,λ _ _ h=>h,λ h=>h⟩⟩
   simp -implicitDefEqProofs (disch:=first|omega|(simp [g];done)|assumption) [g,n1,d1,f1,k1,h1,gF,hh,h2,jK,hz,mf,e,x1,fb,b1,b2]
  |some p=>
   obtain⟨i,e0⟩:=p;rw [hf]at mf;simp only [B7h]at mf;obtain⟨_,iG,_⟩:=Ax3 hf;have vL:(List.map HC.row cs).eraseIdx i=(cs.eraseIdx i).map HC.row:=Asx _ _ _;refine⟨(K,⟨z,(cs.eraseIdx i).map HC.row⟩)::del ob K,?_,hH.setc (λ x hx=>qG x (A3s hx)) hC.le (V2 _ i hH.cb) (V2 _ i hH.cd),?_⟩
   ·simp -implicitDefEqProofs (disch:=first|omega|(simp [g];done)|assumption) [g,n1,d1,f1,k1,h1,gF,hh,h2,jK,hz,mf,e,x1,fb,b1,b2,vL,oA,k2,dd1,da1]
   ·exact Arq hz (.inr (.inr (.inl rfl))) (λ j hj=>hj) (λ j hj=>A3t j _) (by omega)
theorem New.mono {c c' d d' k:Nat}(h:New c c' k)(h1:d<=c)(h2:c'<=d'):New d d' k:=by
 rcases h with ⟨i,a,b,e⟩|⟨i,a,b,e⟩
 ·exact .inl ⟨i,by omega,by omega,e⟩
 ·exact .inr ⟨i,by omega,by omega,e⟩
theorem Stp.trans {O O' O'':Nat->Prop}{c c' c'':Nat}{ob aA ob'':OL}(h1:Stp O O' c c' ob aA)(h2:Stp O' O'' c' c'' aA ob'')(l1:c<=c')(l2:c'<=c''):Stp O O'' c c'' ob ob'' where
 fr:=λ k a b d=>by
  have b1:¬New c c' k:=λ h=>b (h.mono (B6u _) l2)
  have b2:¬New c' c'' k:=λ h=>b (h.mono l1 (B6u _))
  rw [h2.fr k (λ h=>(h1.own k h).elim a b1) b2 d,h1.fr k a b1 d]
 own:=λ k h=>(h2.own k h).elim (λ h=>(h1.own k h).elim .inl λ h=> .inr (h.mono (B6u _) l2)) λ h=> .inr (h.mono l1 (B6u _))
 no:=λ fs hf h=>h2.no fs hf (h1.no fs hf h)
 nm:=λ k a h=>h2.nm k (λ h=>a (h.mono l1 (B6u _))) (h1.nm k (λ h=>a (h.mono (B6u _) l2)) h)
 cn:=λ h=>h2.cn (h1.cn h)
theorem Stp.refl (O:Nat->Prop)(c:Nat)(ob:OL):Stp O O c c ob ob:=⟨λ _ _ _ _=>rfl,λ _ h=> .inl h,λ _ _ h=>h,λ _ _ h=>h,λ h=>h⟩
theorem F6.setn {hk:Nat}{wm cm:Option Nat}{qs:List HQ}{cs:List HC}{n n':Int}{c:Nat}{ob:OL}(h:F6 hk wm cm qs cs n c ob):F6 hk wm cm qs cs n' c ((hk,⟨3,[[M4 wm,M4 cm,i64 n']]⟩)::del ob hk):=by
 have fV:DB=1000000000000000000:=rfl;have bI:CK=900000000000000000:=rfl;have aS:MK=1461501637330902918203684832716283019655932542976:=U2;have hb:=h.hb;have keep:∀{k:Nat}{u:Obj},k≠hk->get ob k=some u->get ((hk,(⟨3,[[M4 wm,M4 cm,i64 n']]⟩:Obj))::del ob hk) k=some u:=λ {k u} h1 h2=>by
  grind [Go.Am.get,B3]
 refine⟨by simp only [Go.Am.get];rw [B6l trivial],?_,?_,h.wk,h.ck,h.wc,λ e he=> ?_,h.qb,h.qy,h.qk,h.cb,h.cd,hb⟩
 ·obtain⟨zc,h1,h2⟩:=h.wz;refine⟨zc,?_,h2⟩;cases eZ:wm with
  |none=>rw [eZ]at h1;exact h1
  |some k=>rw [eZ]at h1 keep;exact keep (by have:=h.wk k eZ;omega) h1
 ·obtain⟨zc,h1,h2⟩:=h.cz;refine⟨zc,?_,h2⟩;cases gL:cm with
  |none=>rw [gL]at h1;exact h1
  |some k=>rw [gL]at h1 keep;exact keep (by have:=h.ck k gL;omega) h1
 ·obtain⟨h1,h2,h3,h4⟩:=h.q e he;exact⟨keep (by omega) h1,h2,h3,h4⟩
abbrev Bs2 (hk:Nat)(wm:Option Nat)(n:Int)(c:Nat)(ob:OL):OL:=(CK,⟨c+1,[]⟩)::(hk,⟨3,[[M4 wm,.mp (MK+DB+c),i64 n]]⟩)::(MK+DB+c,⟨0,[]⟩)::del (del ob hk) CK
theorem Arr {hk:Nat}{wm:Option Nat}{n:Int}{c:Nat}{ob:OL}{k:Nat}(h1:k≠hk)(h2:k≠CK)(h3:k≠MK+DB+c):get (Bs2 hk wm n c ob) k=get ob k:=by
 simp only [Go.Am.get];rw [B6j (B6i h2),B6j (B6i h1),B6j (B6i h3),B3,B6j h2,B3,B6j h1]
theorem F6.mkc {hk:Nat}{wm:Option Nat}{qs:List HQ}{cs:List HC}{n:Int}{c:Nat}{ob:OL}(h:F6 hk wm none qs cs n c ob)(hC:Cn c ob)(hc:c+1<=1000000000):
  F6 hk wm (some (MK+DB+c)) qs cs n (c+1) (Bs2 hk wm n c ob)/\Stp (Ael hk wm none qs) (Ael hk wm (some (MK+DB+c)) qs) c (c+1) ob (Bs2 hk wm n c ob):=by
 have fV:DB=1000000000000000000:=rfl;have bI:CK=900000000000000000:=rfl;have aS:MK=1461501637330902918203684832716283019655932542976:=U2;have hb:=h.hb;obtain⟨zc,hz,qG⟩:=h.cz;have aW:cs=[]:=by simpa [S4]using hz
 subst aW;have aM:∀k,B8 k ob=true->B5 k [[M4 wm,.mp (MK+DB+c),i64 n]]= !(MK+DB+c==k):=λ k aN=>by
  have h1:=C8.1 aN _ (B0 h.hall);grind [B5,M0,Aza,Aa6]
 have cS:∀k,k≠MK+DB+c->B8 k ob=true->B8 k (Bs2 hk wm n c ob)=true:=λ k aN h1=>by
  have b:(MK+DB+c==k)=false:=beq_false_of_ne (B6i aN);have hr:=aM k h1;rw [b]at hr;simp only [B8,hr,C3 (C3 h1)];rfl
 refine⟨⟨?_,?_,⟨0,?_,by simp⟩,λ k aN=> ?_,λ k aN=> ?_,λ k aN=> ?_,λ e he=> ?_,h.qb,h.qy,h.qk,by simp,by simp,hb⟩,⟨λ k a1 a2 a3=> ?_,λ k a1=> ?_,λ fs hfs cW p hp=> ?_,λ k a1 a2=> ?_,λ _=> ?_⟩⟩
 ·simp only [Go.Am.get];rw [B6j (by omega),B6l trivial];rfl
 ·obtain⟨z,h1,h2⟩:=h.wz;refine⟨z,?_,h2⟩;cases eZ:wm with
  |none=>rw [eZ]at h1;exact h1
  |some k=>rw [eZ]at h1;have:=h.wk k eZ;simp only [S4];rw [Arr (by omega) (by omega) (by omega)];exact h1
 ·simp only [S4,Go.Am.get];rw [B6j (by omega),B6j (by omega),B6l trivial];rfl
 ·have:=h.wk k aN;omega
 ·simp only [B6g]at aN;omega
 ·intro h2;simp only [B6g]at h2;have:=h.wk k aN;omega
 ·obtain⟨h1,h2,h3,h4⟩:=h.q e he;exact⟨by rw [Arr (by omega) (by omega) (by omega)];exact h1,h2,by omega,h4⟩
 ·exact Arr (λ h=>a1 (.inl h)) a3 λ h=>a2 (.inr ⟨c,by omega,by omega,h⟩)
 ·rcases a1 with h|h|h|h
  ·exact .inl (.inl h)
  ·exact .inl (.inr (.inl h))
  ·simp only [B6g]at h;exact .inr (.inr ⟨c,by omega,by omega,h.symm⟩)
  ·exact .inl (.inr (.inr (.inr h)))
 ·have fL:=Ajc hfs (n:=c) (by omega)
  refine⟨?_,λ r hr v hv j hj=> ?_⟩
  ·simp only [B6r]at hp;rcases hp with rfl|rfl|rfl|hp
   ·exact fL.2.2
   ·exact(cW _ (B0 h.hall)).1
   ·exact fL.2.1
   ·exact(cW p (O3 (O3 hp))).1
  ·have:j≠MK+DB+c:=by rintro rfl;rw [fL.2.1]at hj;simp at hj
   exact A5.1 (C8.1 (cS j this (cW.nm hj)) p hp) r hr v hv
 ·exact cS k (λ h=>a1 (.inr ⟨c,by omega,by omega,h⟩)) a2
 ·refine⟨Asv (by simp only [Go.Am.get];rw [B6l trivial]),hc,λ i h1 h2=>⟨?_,?_⟩,λ i h1 h2=>⟨?_,?_⟩,?_⟩
  ·rw [Arr (by omega) (by omega) (by omega)];exact(hC.a i (by omega) h2).1
  ·exact cS _ (by omega) (hC.a i (by omega) h2).2
  ·rw [Arr (by omega) (by omega) (by omega)];exact(hC.m i (by omega) h2).1
  ·exact cS _ (by omega) (hC.m i (by omega) h2).2
  ·exact cS _ (by omega) hC.nck
def Aul :AC:= .seq (.reg Be9) (.keepP [0,1,2,3,27] 510000 511000 [1461501637330902918203684832716283019655933053005] (.cond (.t 27) (.keepP [0,1,2,3] 510000 511000 [1461501637330902918203684832716283019655933053005] (.renA 1461501637330902918203684832716283019655933053005 (.reg Be8))) (.skip)))
def A7e :AC:= .seq (.reg Be7) (.keepP [0,1,2,3] 510000 511000 [1461501637330902918203684832716283019655933053005] (.seq (.draw A6g [] [] Be6) (.keepP [] 510000 511000 [1461501637330902918203684832716283019655933053005] (.seq (.reg Be5) (.keepP [8] 510000 511000 [1461501637330902918203684832716283019655933053005] (.ret))))))
def Bt5 (g:PG):Prop:=∀(hk:Nat)(wm cm:Option Nat)(qs:List HQ)(cs:List HC)(n:Int)(c:Nat)(f d v:Int) gs ob,U7 [510] ob->NoF [510] gs->Cf c gs->Cn c ob->c+1<=1000000000->0<=n->n<4611686018427387904->F6 hk wm cm qs cs n c ob->
 ∃cm' bS n' c' aA,g ⟨(0,.loc hk 0 0)::(1,i64 f)::(2,i64 d)::(3,i64 v)::gs,ob⟩=some ([bo (!isC cs f d)],aA)/\F6 hk wm cm' qs bS n' c' aA/\c<=c'/\c'<=c+1/\Stp (Ael hk wm cm qs) (Ael hk wm cm' qs) c c' ob aA/\
  (if isC cs f d then bS=cs/\n'=n else n'=n+1/\∃b,bS=cs++[⟨b,f,d,n+1,v⟩])
theorem Bki (Γ:H6)(M:Nat)(hk:Nat)(wm:Option Nat)(n:Int)(c:Nat)(f d v:Int)(gs:FL)(ob:OL)(hO:U7 [510] ob)(hF:NoF [510] gs)(hC:Cn c ob)(jX:Cf c gs)(hh:get ob hk=some ⟨3,[[M4 wm,.ot .nm,i64 n]]⟩)(hb:hk<CK)(eZ:∀k,wm=some k->MK+DB<=k/\k<MK+DB+c):
  (exec Γ M Aul ⟨(0,.loc hk 0 0)::(1,i64 f)::(2,i64 d)::(3,i64 v)::gs,ob⟩).map (λ p=>(p.1,get p.2.fr 0,get p.2.fr 1,get p.2.fr 2,get p.2.fr 3,ghs p.2.fr,p.2.ob))=some (.norm,some (.loc hk 0 0),some (i64 f),some (i64 d),some (i64 v),gs,Bs2 hk wm n c ob):=by
 have g:=hF.1;have k1:=hO.kf (f:=510) (by simp)
 have nW:=hO.nm (k:=1461501637330902918203684832716283019655933053005) (by decide)
 have xW:=hO.none (k:=1461501637330902918203684832716283019655933053005) (by decide)
 have dW:=D1 _ _ xW;have fW:=hF.nm (k:=1461501637330902918203684832716283019655933053005) (by decide)
 have vG:=A3 hO hh (k:=1461501637330902918203684832716283019655933053005) (by decide)
 have qA:=B6i vG;have sJ:¬hk=900000000000000000:=by unfold CK at hb;omega
 have vH:¬hk=1461501637330902918203684832717283019655932542976+c:=by unfold CK at hb;omega
 have eL:MK+DB+c=1461501637330902918203684832717283019655932542976+c:=by rw [U2];unfold DB;omega
 have hm:=hC.m c (B6u _) (by have:=hC.le;unfold DB;omega)
 have fm:=jX.m c (B6u _) (by have:=hC.le;unfold DB;omega)
 unfold Bs2;rw [eL]at hm fm ⊢;obtain⟨cC,dV⟩:=hm;have nV:Bgk (get ob 900000000000000000)=c:=by rw [<-Ak7];exact hC.cnt
 have sL:get (del ob hk) 900000000000000000=get ob 900000000000000000:=by rw [B3,B6j (B6i sJ)]
 have bI:B8 900000000000000000 ob=true:=hC.nck;have oF:K4 900000000000000000 gs=true:=jX.nck;have cI:c<1000000000000000000:=by have:=hC.le;omega
 have sM:=λ k=>A7 k (A7 hk cC)
 have gM:=A7 hk cC;have n1:∀k j i,B8 k ob=true->B8 k (del (del ob i) j)=true:=λ k j i h=>C3 (C3 h)
 have n2:∀k i,B8 k ob=true->B8 k (del ob i)=true:=λ k i h=>C3 h
 have eW:=Ahs (a:=1461501637330902918203684832716283019655933053005) (b:=1461501637330902918203684832717283019655932542976+c) (l:=del (del ob hk) 900000000000000000) (n1 _ _ _ nW) (A7 _ (A7 _ xW));have eF:=Ak6 (a:=1461501637330902918203684832716283019655933053005) (b:=1461501637330902918203684832717283019655932542976+c) fW;have fU:del (del ob hk) (1461501637330902918203684832717283019655932542976+c)=del ob hk:=D1 _ _ gM;have vI:¬(1461501637330902918203684832716283019655933053005:Nat)=1461501637330902918203684832717283019655932542976+c:=by omega
 have aS:MK+DB=1461501637330902918203684832717283019655932542976:=by rw [U2];unfold DB;omega
 have e3:(M4 wm).names 900000000000000000=false/\(M4 wm).names 1461501637330902918203684832716283019655933053005=false/\(M4 wm).names (1461501637330902918203684832717283019655932542976+c)=false:=by
  grind [Ai1]
 have b1:(hk==900000000000000000)=false:=beq_false_of_ne sJ;have b2:(hk==1461501637330902918203684832717283019655932542976+c)=false:=beq_false_of_ne vH;have b3:((1461501637330902918203684832716283019655933053005:Nat)==1461501637330902918203684832717283019655932542976+c)=false:=beq_false_of_ne vI;cases wm with
 |none=>
  simp only [M4]at hh e3 ⊢;simp -implicitDefEqProofs (disch:=first|omega|(simp [g];done)|assumption) [Aul,g,k1,hh,nW,dW,fW,vG,qA,sJ,vH,nV,sL,bI,oF,cI,sM,gM,n1,n2,cC,dV,fm,eW,eF,fU,vI,e3,b1,b2,b3,CK]
 |some j=>
  have hj:=eZ j rfl;rw [aS]at hj;have hjW:¬j=1461501637330902918203684832716283019655933053005:=by omega
  have b5:(j==900000000000000000)=false:=beq_false_of_ne (by omega)
  have b6:(j==1461501637330902918203684832717283019655932542976+c)=false:=beq_false_of_ne (by omega)
  have b7:(j==1461501637330902918203684832716283019655933053005)=false:=beq_false_of_ne (by omega)
  simp only [M4]at hh e3 ⊢;simp -implicitDefEqProofs (disch:=first|omega|(simp [g];done)|assumption) [Aul,g,k1,hh,nW,dW,fW,vG,qA,sJ,vH,nV,sL,bI,oF,cI,sM,gM,n1,n2,cC,dV,fm,eW,eF,fU,vI,e3,b1,b2,b3,b5,b6,b7,hjW,CK]
theorem Bc1 (Γ:H6)(M:Nat)(hk K:Nat)(wv:AV)(n:Int)(o:Obj)(f d v:Int)(gs:FL)(ob:OL)(hO:U7 [510] ob)(hF:NoF [510] gs)(hh:get ob hk=some ⟨3,[[wv,.mp K,i64 n]]⟩)(hK:get ob K=some o):
  (exec Γ M Aul ⟨(0,.loc hk 0 0)::(1,i64 f)::(2,i64 d)::(3,i64 v)::gs,ob⟩).map (λ p=>(p.1,get p.2.fr 0,get p.2.fr 1,get p.2.fr 2,get p.2.fr 3,ghs p.2.fr,p.2.ob))=some (.norm,some (.loc hk 0 0),some (i64 f),some (i64 d),some (i64 v),gs,ob):=by
 have g:=hF.1;have k1:=hO.kf (f:=510) (by simp)
 simp -implicitDefEqProofs (disch:=first|omega|(simp [g];done)|assumption) [Aul,g,k1,hh,hK]
theorem Bc2 (Γ:H6)(M:Nat)(jY:Al4 (Γ 523))(hk K:Nat)(wv:AV)(n:Int)(z:Nat)(cs:List HC)(f d v:Int)(gs:FL)(ob:OL)(hO:U7 [510] ob)(hF:NoF [510] gs)(hh:get ob hk=some ⟨3,[[wv,.mp K,i64 n]]⟩)(hm:get ob K=some ⟨z,cs.map HC.row⟩)(jI:0<=n)(hn:n<4611686018427387904)(hf:P5 cs f d 0=none)(fS:hk≠K)(oJ:hk%KT<510000\/511000<=hk%KT)(oA:511000<=K%KT):
  (exec Γ M A7e ⟨(0,.loc hk 0 0)::(1,i64 f)::(2,i64 d)::(3,i64 v)::gs,ob⟩).map (λ p=>(p.1,get p.2.fr 8,p.2.ob))=some (.ret,some (bo true),(K,⟨z+1,(cs++[(⟨z,f,d,n+1,v⟩:HC)]).map HC.row⟩)::del ((hk,⟨3,[[wv,.mp K,i64 (n+1)]]⟩)::del ob hk) K):=by
 have g:=hF.1;have k1:=hO.kf (f:=510) (by simp)
 have k2:Kf 510000 511000 (del ob hk):=Y6 k1;have k3:Kf 510000 511000 (del (del ob hk) K):=Y6 k2;rw [G1]at oJ oA;have e:=jY f d;have mf:=Ajb f d cs 0;rw [hf]at mf;simp only [B8t]at mf;have mR:=B6i fS;have dd1:get (del ob hk) K=get ob K:=by rw [B3,B6j mR]
 have lL:∀(s:St)(v:AV),Aq3 K (true,[.int .i64,.int .i64]) (.agg [.int .i64 f,.int .i64 d]) v ⟨z,cs.map HC.row⟩ s=some (s.obj K ⟨z+1,cs.map HC.row++[[.c (.int .i64 z),.agg [.int .i64 f,.int .i64 d],v]]⟩):=λ s v=>by simp only [Aq3,mf]
 rcases oJ with oJ|oJ
 ·simp -implicitDefEqProofs (disch:=first|omega|(simp [g];done)|assumption) [A7e,g,k1,k2,k3,hh,hm,e,mf,fS,mR,oJ,oA,dd1,lL,HC.row]
 ·simp -implicitDefEqProofs (disch:=first|omega|(simp [g];done)|assumption) [A7e,g,k1,k2,k3,hh,hm,e,mf,fS,mR,oJ,oA,dd1,lL,HC.row]
theorem Bkj (Γ:H6)(M:Nat)(jY:Al4 (Γ 523))(hk:Nat)(wm cm:Option Nat)(qs:List HQ)(cs:List HC)(n:Int)(c:Nat)(f d v:Int)(gs:FL)(ob aR dY:OL)(hO:U7 [510] ob)(qE:U7 [510] aR)(nZ:Kf 510000 511000 dY)(hF:NoF [510] gs)(hH:F6 hk wm cm qs cs n c ob)(hi:P5 cs f d 0=none)
  (hA:(exec Γ M Aul ⟨(0,.loc hk 0 0)::(1,i64 f)::(2,i64 d)::(3,i64 v)::gs,ob⟩).map (λ p=>(p.1,get p.2.fr 0,get p.2.fr 1,get p.2.fr 2,get p.2.fr 3,ghs p.2.fr,p.2.ob))=some (.norm,some (.loc hk 0 0),some (i64 f),some (i64 d),some (i64 v),gs,aR))
  (hB:(exec Γ M A7e ⟨(0,.loc hk 0 0)::(1,i64 f)::(2,i64 d)::(3,i64 v)::gs,aR⟩).map (λ p=>(p.1,get p.2.fr 8,p.2.ob))=some (.ret,some (bo true),dY)):
  H9 Γ M G3 ⟨(0,.loc hk 0 0)::(1,i64 f)::(2,i64 d)::(3,i64 v)::gs,ob⟩=some ([bo true],dY):=by
 have g:=hF.1;have hh:=hH.hall;have e:=jY f d;have n1:=hO.nm (k:=510009) (by decide)
 have d1:=hO.del (k:=510009) (by decide)
 have f1:=hF.nm (k:=510009) (by decide)
 have k1:=hO.kf (f:=510) (by simp)
 have k2:=qE.kf (f:=510) (by simp)
 have h1:=Aba hO hH (k:=510009) (by decide)
 have gF:=B6i h1;have x1:=hO.none (k:=510009) (by decide)
 have fb:=Ag7 (d:=9) f1;have b1:(hk==510009)=false:=beq_false_of_ne h1;simp only [B6m,B6k]at hA hB;obtain⟨⟨ax,s2⟩,t1,t2,t3,t4,t5,t6,t7,t8⟩:=hA;simp only at t2 t3 t4 t5 t6 t7 t8;subst t2;obtain⟨⟨ax3,s3⟩,u1,u2,u3,u4⟩:=hB;simp only at u2 u3 u4;subst u2;subst t8;subst u4;have eM:Aul= .seq (.reg Be9) (.keepP [0,1,2,3,27] 510000 511000 [1461501637330902918203684832716283019655933053005] (.cond (.t 27) (.keepP [0,1,2,3] 510000 511000 [1461501637330902918203684832716283019655933053005] (.renA 1461501637330902918203684832716283019655933053005 (.reg Be8))) (.skip))):=rfl;have eB:A7e= .seq (.reg Be7) (.keepP [0,1,2,3] 510000 511000 [1461501637330902918203684832716283019655933053005] (.seq (.draw A6g [] [] Be6) (.keepP [] 510000 511000 [1461501637330902918203684832716283019655933053005] (.seq (.reg Be5) (.keepP [8] 510000 511000 [1461501637330902918203684832716283019655933053005] (.ret)))))):=rfl;unfold H9 G3 Ae9
 try simp only [Cx.sr,Cx.pP,Cx.pQ,Cx.p0,Cx.rg,Cx.cd,Nat.reduceMul,Nat.reduceAdd]
 rw [<-eM,<-eB];generalize Aul=A at*;generalize A7e=B at*;obtain⟨z,hz,_⟩:=hH.cz;cases gL:cm with
 |none=>
  subst gL;simp only [M4]at hh;simp -implicitDefEqProofs (disch:=first|omega|(simp [g];done)|assumption) [g,n1,d1,f1,k1,h1,gF,hh,e,x1,fb,b1,t1,t3,t4,t5,t6,t7,u1,u3,k2,nZ]
 |some K=>
  subst gL;have hz:get ob K=some ⟨z,cs.map HC.row⟩:=hz;simp only [M4]at hh;have h2:=A3 hO hz (k:=510009) (by decide)
  have jK:=B6i h2;have b2:(K==510009)=false:=beq_false_of_ne h2;have mf:=Ajb f d cs 0;rw [hi]at mf;simp only [B8t]at mf;simp -implicitDefEqProofs (disch:=first|omega|(simp [g];done)|assumption) [g,n1,d1,f1,k1,h1,gF,hh,h2,jK,hz,mf,e,x1,fb,b1,b2,t1,t3,t4,t5,t6,t7,u1,u3,k2,nZ]
theorem Bwm (Γ:H6)(M:Nat)(jY:Al4 (Γ 523))(hk:Nat)(wm cm:Option Nat)(qs:List HQ)(cs:List HC)(n:Int)(c:Nat)(f d v:Int)(gs:FL)(ob:OL)(hO:U7 [510] ob)(hF:NoF [510] gs)(hH:F6 hk wm cm qs cs n c ob)(p:Nat×HC)(hi:P5 cs f d 0=some p):
  H9 Γ M G3 ⟨(0,.loc hk 0 0)::(1,i64 f)::(2,i64 d)::(3,i64 v)::gs,ob⟩=some ([bo false],ob):=by
 have g:=hF.1;have hh:=hH.hall;have e:=jY f d;have n1:=hO.nm (k:=510009) (by decide)
 have d1:=hO.del (k:=510009) (by decide)
 have f1:=hF.nm (k:=510009) (by decide)
 have k1:=hO.kf (f:=510) (by simp)
 have h1:=Aba hO hH (k:=510009) (by decide)
 have gF:=B6i h1;have x1:=hO.none (k:=510009) (by decide)
 have fb:=Ag7 (d:=9) f1;have b1:(hk==510009)=false:=beq_false_of_ne h1;obtain⟨z,hz,_⟩:=hH.cz;cases gL:cm with
 |none=>
  subst gL;have aW:cs=[]:=by simpa [S4]using hz
  subst aW;simp [P5]at hi
 |some K=>
  subst gL;have hz:get ob K=some ⟨z,cs.map HC.row⟩:=hz;simp only [M4]at hh;have h2:=A3 hO hz (k:=510009) (by decide)
  have jK:=B6i h2;have b2:(K==510009)=false:=beq_false_of_ne h2;have mf:=Ajb f d cs 0;rw [hi]at mf;simp only [B7h]at mf;simp -implicitDefEqProofs (disch:=first|omega|(simp [g];done)|assumption) [g,n1,d1,f1,k1,h1,gF,hh,h2,jK,hz,mf,e,x1,fb,b1,b2]
theorem Bqc {fs:List Nat}{hk:Nat}{wm cm:Option Nat}{qs:List HQ}{cs:List HC}{n:Int}{c f:Nat}{ob:OL}(hO:U7 fs ob)(hH:F6 hk wm cm qs cs n c ob)(hf:f∈fs):hk%KT<1000*f\/1000*f+1000<=hk%KT:=Af4.1 (hO.kf hf) _ (B0 hH.hall)
theorem Ali (Γ:H6)(M:Nat)(jY:Al4 (Γ 523)):Bt5 (H9 Γ M G3):=by
 intro hk wm cm qs cs n c f d v gs ob hO hF jX hC fF jI hn hH;have fV:DB=1000000000000000000:=rfl;have bI:CK=900000000000000000:=rfl;have aS:MK=1461501637330902918203684832716283019655932542976:=U2;have hb:=hH.hb;have oJ:=Bqc hO hH (f:=510) (by simp)
 cases hi:P5 cs f d 0 with
 |some p=>
  have hs:isC cs f d=true:=by simp [isC,hi]
  exact⟨cm,cs,n,c,ob,by rw [hs];exact Bwm Γ M jY hk wm cm qs cs n c f d v gs ob hO hF hH p hi,hH,B6u _,by omega,.refl _ _ _,by rw [hs];simp⟩
 |none=>
  have hs:isC cs f d=false:=by simp [isC,hi]
  rw [hs];have main:∀(c1 K:Nat)(aR:OL),c<=c1->c1<=c+1->F6 hk wm (some K) qs cs n c1 aR->Cn c1 aR->U7 [510] aR->Stp (Ael hk wm cm qs) (Ael hk wm (some K) qs) c c1 ob aR->
    (exec Γ M Aul ⟨(0,.loc hk 0 0)::(1,i64 f)::(2,i64 d)::(3,i64 v)::gs,ob⟩).map (λ p=>(p.1,get p.2.fr 0,get p.2.fr 1,get p.2.fr 2,get p.2.fr 3,ghs p.2.fr,p.2.ob))=some (.norm,some (.loc hk 0 0),some (i64 f),some (i64 d),some (i64 v),gs,aR)->
    ∃cm' bS n' c' aA,H9 Γ M G3 ⟨(0,.loc hk 0 0)::(1,i64 f)::(2,i64 d)::(3,i64 v)::gs,ob⟩=some ([bo !false],aA)/\F6 hk wm cm' qs bS n' c' aA/\c<=c'/\c'<=c+1/\Stp (Ael hk wm cm qs) (Ael hk wm cm' qs) c c' ob aA/\
  (if false=true then bS=cs/\n'=n else n'=n+1/\∃b,bS=cs++[⟨b,f,d,n+1,v⟩]):=by
   intro c1 K aR l1 l2 qJ rN qE hS2 hA;obtain⟨z,hz,qG⟩:=qJ.cz;have hz:get aR K=some ⟨z,cs.map HC.row⟩:=hz;have vJ:=qJ.ck K rfl;have sQ:=rN.le;have oA:511000<=K%KT:=by
    obtain⟨j,hj⟩:∃j,K=MK+DB+j:=⟨K-(MK+DB),by omega⟩
    rw [hj,(Afv (n:=j) (by omega)).2];omega
   have fS:hk≠K:=by omega
   have hh:=qJ.hall;simp only [M4]at hh;have hB:=Bc2 Γ M jY hk K (M4 wm) n z cs f d v gs aR qE hF hh hz jI hn hi fS oJ oA;have hH3:=qJ.setn (n':=n+1);have yN:Stp (Ael hk wm (some K) qs) (Ael hk wm (some K) qs) c1 c1 aR ((hk,⟨3,[[M4 wm,.mp K,i64 (n+1)]]⟩)::del aR hk):=Arq hh (.inl rfl) (λ _ h=>h) (λ k h=>by
    have:=C8.1 h _ (B0 hh);simp only [B5,M0,B8m,B6h]at this ⊢;exact⟨this.1,this.2.1,rfl⟩) (by omega)
   have hz3:get ((hk,(⟨3,[[M4 wm,.mp K,i64 (n+1)]]⟩:Obj))::del aR hk) K=some ⟨z,cs.map HC.row⟩:=by
    grind [Go.Am.get,B3]
   have bT:∀e∈cs++[(⟨z,f,d,n+1,v⟩:HC)],e.b<z+1:=λ e he=>by
    grind [List.mem_singleton]
   have hH4:=hH3.setc (z:=z+1) (bS:=cs++[(⟨z,f,d,n+1,v⟩:HC)]) bT sQ (by
    rw [B60,B82];refine⟨qJ.cb,by simp,λ a ha b hb=> ?_⟩
    obtain⟨e,he,rfl⟩:=B6z.1 ha;simp only [B6v,B8a,B6x]at hb;have:=qG e he;omega) (by
    rw [B60,B82];refine⟨qJ.cd,by simp,λ a ha b hb=> ?_⟩
    obtain⟨e,he,rfl⟩:=B6z.1 ha;simp only [B6v,B8a,B6x]at hb;subst hb;intro h;simp only [B6k]at h;exact Ax4 hi e he h)
   have hS4:=Arq (O:=Ael hk wm (some K) qs) (O':=Ael hk wm (some K) qs) (c:=c1) (o':=⟨z+1,(cs++[(⟨z,f,d,n+1,v⟩:HC)]).map HC.row⟩) hz3 (.inr (.inr (.inl rfl))) (λ _ h=>h) (λ k h=>A3t k _) (by omega)
   have hS:=(hS2.trans (yN.trans hS4 (B6u _) (B6u _)) l1 (B6u _));have vM:=hS.no [510] (by simp) hO
   exact⟨some K,_,n+1,c1,_,Bkj Γ M jY hk wm cm qs cs n c f d v gs ob aR _ hO qE (vM.kf (f:=510) (by simp)) hF hH hi hA hB,hH4,l1,l2,hS,by simp⟩
  cases gL:cm with
  |none=>
   subst gL;obtain⟨h1,h2⟩:=hH.mkc hC fF;have hh:=hH.hall;simp only [M4]at hh;exact main (c+1) _ _ (by omega) (by omega) h1 (h2.cn hC) (h2.no [510] (by simp) hO) h2 (Bki Γ M hk wm n c f d v gs ob hO hF hC jX hh hb hH.wk)
  |some K=>
   subst gL;obtain⟨z,hz,qG⟩:=hH.cz;have hh:=hH.hall;simp only [M4]at hh;exact main c K ob (B6u _) (by omega) hH hC hO (.refl _ _ _) (Bc1 Γ M hk K (M4 wm) n _ f d v gs ob hO hF hh hz)
end Go.Am
