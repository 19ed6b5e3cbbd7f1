import Derived.Test.YtgnjaophoffbbaaGreatB1
import Derived.Laws.MakeOwn
import Derived.MapKept
import Derived.Maps.RangeRun
import Derived.Lib.Builder
import Derived.Lib.UnsafeStr
import Derived.Laws.Externs
import Derived.Orders
set_option maxHeartbeats 4000000
set_option maxRecDepth 20000
set_option linter.unusedVariables false
set_option linter.unusedSimpArgs false
namespace Go.Am
open Go.RowKit
section
variable {P : Program} {B : Bd} {F F' : A8} {ρ ρ' : Map} {s : St} {a : Go.Act} {w w' : World} {o : Oper} {ob aA : OL}
theorem Asf {g:Nat}{cs:Array Value}(hB:¬B g):Bel B w (w.setRow g cs):=
 ⟨rfl,rfl,rfl,by simp [World.setRow],λ k hk=>setRow_other w g k cs (λ e=>hB (e▸hk))⟩
def Ap5 (P:Program)(o:Oper)(sz:Nat)(x v:J8):Bool:=match o.op with| .store t x' v'=>Abw P t sz&&M3 x' x&&M3 v' v&&o.dst.isNone|_=>false
theorem Aed {α:Type}{cs xs:List α}{off j:Nat}(h:off+xs.length<=cs.length):(O8 cs off xs)[j]? =if off<=j/\j<off+xs.length then xs[j-off]? else cs[j]? :=by
 grind [O8,List.getElem?_append_left,List.getElem?_append_right]
theorem Ami {α:Type}{cs xs:List α}{off:Nat}(h:off+xs.length<=cs.length):(O8 cs off xs).length=cs.length:=by
 unfold O8;simp;omega
theorem An8 {rows:O4}{i k:Nat}{r:List AV}(h:i<rows.length):(setRow rows i r)[k]? =if k=i then some r else rows[k]? :=by
 grind [setRow,List.getElem?_append_left,List.getElem?_append_right,List.length_take,Nat.min_eq_left,List.getElem?_cons_succ]
theorem Afz {rows:O4}{i:Nat}{r:List AV}(h:i<rows.length):(setRow rows i r).length=rows.length:=by
 unfold setRow;simp;omega
theorem Awu {key row off:Nat}{obj:Obj}{p:N4}{r cs:List AV}{us:List Value}(hK:key<MK)(hm:T0 B F ρ s.ob w)(hf:Fr F ρ s.ob s.fr a)(aD:get s.ob key=some obj)(hρ:ρ key=some p)(aM:obj.rows[row]? =some r)(cI:off+cs.length<=r.length)
  (aW:C9 (AR F ρ s.ob) cs us)(cA:∀c∈cs,c.one=true)(h1:∀u∈us,u.oneCell'=true):
  ∃w',(storeCells ⟨p.g,p.o+row*p.sz+off,none⟩ us).run P w= .ok () w'/\∀v u,AR F ρ s.ob v u->Aby B F w s.fr a (s.obj key ⟨obj.sz,setRow obj.rows row (O8 r off cs)⟩).ob v u w':=by
 obtain⟨g1,g2,g3,g4,cur,et,hh,g5,g6⟩:=hm.cells hK aD hρ;have eQ:=g4 r (B6t aM);have aC:=(B6n.1 aM).1;have aF:=aW.length;have fA:p.o+row*p.sz+p.sz<=cur.size:=by
  have:(row+1)*p.sz<=p.cap*p.sz:=B79 _ (by omega)
  grind [Nat.add_mul]
 have dB:=run_storeCells_at P p.g (p.o+row*p.sz+off) et us 0 cur w hh (by omega) h1
 simp only [B8y]at dB;refine⟨_,dB,λ v u hvu=> ?_⟩
 have bW:∀{x:AV}{v:Value},AR F ρ s.ob x v->AR F (K0 ρ key (some p)) (s.obj key ⟨obj.sz,setRow obj.rows row (O8 r off cs)⟩).ob x v:=by
  intro x v hx;have he:K0 ρ key (some p)=ρ:=by
   grind [K0]
  rw [he];refine hx.same λ k o' aT=> ?_
  grind [N9,Afz,N7]
 have dA:KT<=key->et+1=key/KT:=λ h=>hm.typed hK aD hρ h _ _ _ hh
 refine⟨F,K0 ρ key (some p),?_,λ i v hi=>bW (hf i v hi),bW hvu,.refl F,Asf g1,λ _ _ h=> .inl h⟩
 refine T0.change (et:=et) hK dA (hm.typed0 hK aD hρ) hm g1 (.inl ⟨obj,p,aD,hρ,rfl⟩) (by simp [World.setRow]) (λ k hk aH=>setRow_other w _ k _ aH) (setRow_heap w _ cur _ et _ hh) ?_ ?_ g3 ?_ (λ k o hk ho r hr x hx v hv=>bW hv) ?_
 ·simp only [B9a,B67,B7l,B70,Array.length_toList];rw [<-g5];omega
 ·rw [Afz aC];exact g2
 ·intro r' bU;obtain⟨i,hi⟩:=B7t bU;rw [An8 aC]at hi;split at hi
  ·simp only [B6g]at hi;subst hi;rw [Ami cI];exact eQ
  ·exact g4 r' (B6t hi)
 ·intro i r' j x hi hj;have pE:∀q,(cur.toList.take (p.o+row*p.sz+off)++us++cur.toList.drop (p.o+row*p.sz+off+us.length))[q]? =if p.o+row*p.sz+off<=q/\q<p.o+row*p.sz+off+us.length then us[q-(p.o+row*p.sz+off)]? else cur[q]? :=by
   intro q;have:=Aed (cs:=cur.toList) (xs:=us) (off:=p.o+row*p.sz+off) (j:=q) (by simp;omega)
   grind [O8]
  rw [An8 aC]at hi;simp only [List.getElem?_toArray];rw [pE];split at hi
  ·rename_i rV;subst rV;simp only [B6g]at hi;subst hi;rw [Aed cI]at hj;split at hj
   ·rename_i aP;obtain⟨u',qY,fH⟩:=aW.get? _ _ hj;refine⟨cA x (B6t hj),u',?_,bW fH⟩;rw [B6l (by omega),show p.o+i*p.sz+j-(p.o+i*p.sz+off)=j-off by omega];exact qY
   ·rename_i aP;obtain⟨q1,u',q2,q3⟩:=g6 i r j x aM hj;refine⟨q1,u',?_,bW q3⟩;rw [B6j (by omega)];exact q2
  ·rename_i rV;obtain⟨q1,u',q2,q3⟩:=g6 i r' j x hi hj;refine⟨q1,u',?_,bW q3⟩;have dT:j<p.sz:=by rw [<-g4 r' (B6t hi)];exact(B6n.1 hj).1
   rw [B6j ?_];exact q2;intro hc;rcases Nat.lt_or_gt_of_ne rV with h|h
   ·have:i*p.sz+p.sz<=row*p.sz:=by rw [<-Nat.succ_mul];exact B79 _ h
    omega
   ·have:row*p.sz+p.sz<=i*p.sz:=by rw [<-Nat.succ_mul];exact B79 _ h
    omega
theorem A9e {sz:Nat}{x v:J8}{p q:AV}{s':St}(hm:T0 B F ρ s.ob w)(hf:Fr F ρ s.ob s.fr a)(hc:Ap5 P o sz x v=true)(h1:s.opd x=some p)(h2:s.opd v=some q)(h:s.store sz p q=some s'):
  s'.fr=s.fr/\Abr P o a w (Aby B F w s.fr a s'.ob (.tup [])):=by
 unfold Ap5 at hc;split at hc
 ·rename_i t x' v' aK;simp only [B6h]at hc;obtain⟨⟨⟨aL,hx⟩,hv⟩,hd⟩:=hc;have aZ:=A2 hf hx h1;have dQ:=A2 hf hv h2;unfold St.store at h;split at h
  ·rename_i key row off;split at h
   ·rename_i obj cs aD aW;split at h
    ·rename_i r aM;split at h
     ·rename_i aI;simp only [B6g]at h;subst h;obtain⟨us,fI,hall,gF,cA,_⟩:=Ab7 aW dQ;obtain⟨hK,aZ⟩:=aZ;obtain⟨pl,hρ,hpv⟩:=aZ obj aD;obtain⟨w',dB,kZ⟩:=Awu (P:=P) (row:=row) (off:=off) hK hm hf aD hρ aM aI.2 hall cA gF;refine⟨rfl,Alo (w':=w') ?_ (kZ (.tup []) undef ⟨[],rfl,.nil⟩)⟩;have hl:(a.eval v').cells.size=sz:=by rw [fI];simp;rw [<-hall.length];exact aI.1
      simp [execOp,aK,hpv,Instr.storeAt,N5,storeVar,X7 aL,hl];rw [fI];simp [dB]
     ·simp at h
    ·simp at h
   ·simp at h
  ·simp at h
 ·simp at hc
theorem Bh5 {sz:Nat}{x v:J8}{p q d:AV}{k:Option Nat}{s':St}(hm:T0 B F ρ s.ob w)(hf:Fr F ρ s.ob s.fr a)(hc:Ap5 P o sz x v=true)(h1:s.opd x=some p)(h2:s.opd v=some q)(h3:s.frz q=some (d,k))(h:(kill s k.toList).store sz p d=some s'):
  s'.fr=s.fr/\Abr P o a w (Aby B F w s.fr a s'.ob (.tup [])):=by
 unfold Ap5 at hc;split at hc
 ·rename_i t x' v' aK;simp only [B6h]at hc;obtain⟨⟨⟨aL,hx⟩,hv⟩,hd⟩:=hc;have cC:T0 B (F5 F ρ s.ob k.toList w) ρ (kill s k.toList).ob w:=hm.kill;have rA:Fr (F5 F ρ s.ob k.toList w) ρ (kill s k.toList).ob (kill s k.toList).fr a:=by rw [Q3];exact(hf.mono F5.le).sub (I3 _ s)
  have aZ:AR (F5 F ρ s.ob k.toList w) ρ (kill s k.toList).ob p (a.eval x'):=((A2 hf hx h1).mono F5.le).sub (I3 _ s);have dQ:AR (F5 F ρ s.ob k.toList w) ρ (kill s k.toList).ob d (a.eval v'):=AR.of_RR (Agy hm h3 (A2 hf hv h2));unfold St.store at h;split at h
  ·rename_i key row off;split at h
   ·rename_i obj cs aD aW;split at h
    ·rename_i r aM;split at h
     ·rename_i aI;simp only [B6g]at h;subst h;obtain⟨us,fI,hall,gF,cA,_⟩:=Ab7 aW dQ;obtain⟨hK,aZ⟩:=aZ;obtain⟨pl,hρ,hpv⟩:=aZ obj aD;obtain⟨w',dB,kZ⟩:=Awu (P:=P) (row:=row) (off:=off) hK cC rA aD hρ aM aI.2 hall cA gF;refine⟨Q3 _ _,Alo (w':=w') ?_ ?_⟩
      ·have hl:(a.eval v').cells.size=sz:=by rw [fI];simp;rw [<-hall.length];exact aI.1
       simp [execOp,aK,hpv,Instr.storeAt,N5,storeVar,X7 aL,hl];rw [fI];simp [dB]
      ·obtain⟨F',ρ',g1,g2,g3,g4⟩:=kZ (.tup []) undef ⟨[],rfl,.nil⟩;rw [Q3]at g2;exact⟨F',ρ',g1,g2,g3,(Ext.trans ⟨F5.le,.refl _ _,λ ad u hu=>F5.new hm hu⟩ g4)⟩
     ·simp at h
    ·simp at h
   ·simp at h
  ·simp at h
 ·simp at hc
theorem A2w {y:AV}{v:Value}{sz:Nat}{ys:List (List D)}{tx:TypeId}(cB:0<sz)(hm:T0 B F ρ s.ob w)(h:Y2 s y=some (sz,ys))(hr:AR F ρ s.ob y v)(hk:(∃e',P.underlying tx=some (.slice e'))\/P.underlying tx=some .string):
  ∃news:List Value,Src P sz tx v ys.length news w/\(∀r∈ys,r.length=sz)/\∀(i:Nat)(r:List D)(j:Nat)(d:D),ys[i]? =some r->r[j]? =some d->∃u,news[i*sz+j]? =some u/\DR F d u:=by
 unfold Y2 at h;split at h
 ·rename_i l;simp only [B6g,B6k]at h;obtain⟨rfl,rfl⟩:=h;obtain rfl:=DR.str_ hr;have aL:(ByteArray.mk l.toArray).size=l.length:=by simp [ByteArray.size]
  refine⟨byteCells ⟨l.toArray⟩,?_,by simp [Bl4],?_⟩
  ·have h1:=firstCells_string (P:=P) ⟨l.toArray⟩;have h2:=byteCells_length ⟨l.toArray⟩;rw [aL]at h1 h2;exact⟨hk,λ w'=>by simp [Builtin.lenOf,aL],by simpa using h1 w,by simpa using h1 w.drew,by simp [h2],λ u hu=>by
    obtain⟨_,_,rfl⟩:=B6z.1 hu;rfl⟩
  ·intro i r j d hi hj;simp only [B7m,B6m]at hi;obtain⟨b,hb,rfl⟩:=hi;cases j with
   |zero=>
    simp [Bl4]at hj;subst hj;exact⟨.int .u8 b.toNat,by simp [byteCells,hb],.int _ _⟩
   |succ j=>simp [Bl4]at hj
 ·obtain⟨x,cap,ad,u,rfl,bM,ha,aL,hc⟩:=Awq hm h hr;by_cases aH:ys=[]
  ·subst aH;refine⟨[],?_,by simp,by simp⟩
   cases x with
   |none=>exact⟨hk,λ w'=>by simp [Builtin.lenOf],by simp [Builtin.firstCells],by simp [Builtin.firstCells],by simp,by simp⟩
   |some b=>exact⟨hk,λ w'=>by simp [Builtin.lenOf],by simp [Builtin.firstCells,loadCells,loadCellsFrom],by simp [Builtin.firstCells,loadCells,loadCellsFrom],by simp,by simp⟩
  ·obtain rfl:=ha aH;have cell:∀q,q<ys.length*sz->∃d,w.cell? (ad.add q)=some (u (q/sz) (q%sz))/\DR F d (u (q/sz) (q%sz)):=by
    intro q hq;have h1:q/sz<ys.length:=Nat.div_lt_of_lt_mul (by rw [Nat.mul_comm];exact hq)
    have h2:q%sz<sz:=Nat.mod_lt _ cB;have hi:ys[q/sz]? =some (ys[q/sz]):=B6w h1;have hl:=aL _ (B8e h1);have hj:(ys[q/sz])[q%sz]? =some ((ys[q/sz])[q%sz]'(by omega)):=B6w _
    grind [Nat.mul_comm,Nat.div_add_mod]
   refine⟨(List.range (ys.length*sz)).map λ q=>u (q/sz) (q%sz),?_,aL,?_⟩
   ·have tK:∀j v,((List.range (ys.length*sz)).map λ q=>u (q/sz) (q%sz))[j]? =some v->w.cell? (ad.add j)=some v:=by
     intro j v hj;have dT:j<ys.length*sz:=by have:=(B6n.1 hj).1;simpa using this
     simp [dT]at hj;subst hj;exact(cell j dT).choose_spec.1
    have h1:∀v∈((List.range (ys.length*sz)).map λ q=>u (q/sz) (q%sz)),v.oneCell'=true:=by
     grind [DR.one]
    exact⟨hk,λ _=>rfl,run_firstCells_some w sz _ ad _ cap _ (by simp) tK,run_firstCells_some w.drew sz _ ad _ cap _ (by simp) (by simpa using tK),by simp,h1⟩
   ·intro i r j d hi hj;have dN:=(B6n.1 hi).1;have dT:j<sz:=by rw [<-aL r (B6t hi)];exact(B6n.1 hj).1
    have aC:i*sz+j<ys.length*sz:=by
     have:(i+1)*sz<=ys.length*sz:=B79 _ dN;rw [B7z,B8z]at this;omega
    refine⟨u i j,?_,(hc i r j d hi hj).2⟩;have hdiv:(i*sz+j)/sz=i:=by rw [Nat.mul_comm,Nat.mul_add_div cB,Nat.div_eq_of_lt dT];rfl
    have nL:(i*sz+j)%sz=j:=by rw [Nat.mul_comm,Nat.mul_add_mod,B74 dT]
    simp [aC,hdiv,nL]
theorem T0.congr (hm:T0 B F ρ ob w)(aV:∀k,get aA k=get ob k):T0 B F ρ aA w:=
 ⟨hm.facts,hm.big,λ k o h=>hm.bare k o (by rw [<-aV];exact h),λ k o p h h'=>by
  obtain⟨q1,q2⟩:=hm.own k o p (by rw [<-aV];exact h) h'
  exact⟨q1,q2.imp λ r hr x hx v hv=>hv.sub λ k o h=>by rw [<-aV];exact h⟩,λ k o p h h'=>hm.apart k o p (by rw [<-aV];exact h) h',
  λ k o p k2 o2 p2 h h' h2 jK=>hm.inj k o p k2 o2 p2 (by rw [<-aV];exact h) h' (by rw [<-aV];exact h2) jK⟩
theorem T0.newBare {key sz:Nat}(hm:T0 B F ρ s.ob w)(aG:s.free key=true):T0 B F (K0 ρ key none) (s.obj key ⟨sz,[]⟩).ob w where
 facts:=hm.facts
 big:=hm.big
 bare:=λ k o ho hk=>by
  rw [J2]at ho;by_cases h:key=k
  ·rw [B6l h]at ho;simp only [B6g]at ho;subst ho;rfl
  ·rw [B6j h]at ho;rw [D6 _ (B6i h)]at hk;exact hm.bare k o ho hk
 own:=λ k o p ho hk=>by
  rw [J2]at ho;by_cases h:key=k
  ·subst h;rw [E6]at hk;simp at hk
  ·rw [B6j h]at ho;rw [D6 _ (B6i h)]at hk;obtain⟨g1,g2⟩:=hm.own k o p ho hk;exact⟨g1,g2.imp λ r hr x hx v hv=>(S5 (a:=⟨#[],[]⟩) aG).1 k o (B6i h) ho r hr x hx v hv⟩
 apart:=λ k o p ho hk ad u hu=>by
  rw [J2]at ho;by_cases h:key=k
  ·subst h;rw [E6]at hk;simp at hk
  ·rw [B6j h]at ho;rw [D6 _ (B6i h)]at hk;exact hm.apart k o p ho hk ad u hu
 inj:=λ k o p k2 o2 p2 ho hk ho2 cG he=>by
  rw [J2]at ho ho2;by_cases h:key=k
  ·subst h;rw [E6]at hk;simp at hk
  ·by_cases h2:key=k2
   ·subst h2;rw [E6]at cG;simp at cG
   ·rw [B6j h]at ho;rw [B6j h2]at ho2;rw [D6 _ (B6i h)]at hk;rw [D6 _ (B6i h2)]at cG;exact hm.inj k o p k2 o2 p2 ho hk ho2 cG he
theorem A19 {key n:Nat}{p:N4}{o':Obj}{aA:OL}(hK:key<MK)(hl:o'.rows.length=n)(h:get aA key=some o')(hρ:ρ key=some p)(bM:n<=p.cap):AR F ρ aA (.sl key n 0 n) (.slice (some ⟨p.g,p.o,none⟩) n p.cap):=by
 refine⟨hK,λ o ho=> ?_⟩
 grind [SlR]
theorem Asg {rows:List (List D)}{sz:Nat}{us:List Value}(h:∀(i:Nat)(r:List D)(j:Nat)(d:D),rows[i]? =some r->r[j]? =some d->∃u,us[i*sz+j]? =some u/\DR F d u):
  ∀(i:Nat)(r:List AV)(j:Nat)(x:AV),(rows.map A4)[i]? =some r->r[j]? =some x->x.one=true/\∃u,us[i*sz+j]? =some u/\AR F ρ ob x u:=by
 intro i r j x hi hj;simp only [B7m,B6m]at hi;obtain⟨r0,eU,rfl⟩:=hi;simp only [A4,B7m,B6m]at hj;obtain⟨d,hd,rfl⟩:=hj;obtain⟨u,hu,gU⟩:=h i r0 j d eU hd;exact⟨rfl,u,hu,gU⟩
def Au3 (P:Program)(o:Oper)(sz bytes:Nat)(x y:J8):Bool:=match o.op with
 | .call {callee:= .builtin .append,args,argTypes}=>G0 args.toList [x,y]&&(match argTypes.toList with
  |[t,tx]=>(Byi P tx||Bl5 P tx)&&(match P.underlying t with
   |some (.slice e)=>(match P.info? e with|some i=>i.size==sz&&i.bytes==bytes&&(match i.zero with|some z=>z.cells.size==sz|none=>false)|none=>false)
   |_=>false)
  |_=>false)&&decide (0<sz)&&decide (0<bytes)
 |_=>false
theorem Ag1 {n bytes:Nat}(h:A2m n bytes=true):n*bytes<=140737488355328:=by simpa [A2m]using h
theorem Ash {key n sz m cap:Nat}{e:TypeId}{olds news:List Value}{z:Value}{rows:O4}{ys:List (List D)}(hK:key<MK)(dA:KT<=key->e+1=key/KT)(hm:T0 B F ρ s.ob w)(cB:0<sz)
  (eQ:∀r∈rows,r.length=sz)(hn:rows.length=n)(xB:olds.length=n*sz)(jH:news.length=m*sz)(hml:ys.length=m)(oD:∀r∈ys,r.length=sz)(mZ:z.cells.size=sz)(bM:n+m<=cap)
  (hT:∀k o,k≠key->get s.ob k=some o->∀r∈o.rows,∀x∈r,∀v,AR F ρ s.ob x v->AR F (K0 ρ key (some ⟨w.heap.size,sz,cap,0⟩)) (s.obj key ⟨sz,rows++ys.map A4⟩).ob x v)
  (dU:Fr F (K0 ρ key (some ⟨w.heap.size,sz,cap,0⟩)) (s.obj key ⟨sz,rows++ys.map A4⟩).ob s.fr a)
  (jL:∀(i:Nat)(r:List AV)(j:Nat)(x:AV),rows[i]? =some r->r[j]? =some x->x.one=true/\∃u,olds[i*sz+j]? =some u/\AR F (K0 ρ key (some ⟨w.heap.size,sz,cap,0⟩)) (s.obj key ⟨sz,rows++ys.map A4⟩).ob x u)
  (bT:∀(i:Nat)(r:List D)(j:Nat)(d:D),ys[i]? =some r->r[j]? =some d->∃u,news[i*sz+j]? =some u/\DR F d u):
  Aby B F w s.fr a (s.obj key ⟨sz,rows++ys.map A4⟩).ob (.sl key (n+m) 0 (n+m)) (.slice (some ⟨w.heap.size,0,none⟩) (n+m) cap) (w.drew.alloc (.cells ((olds++news).toArray++Builtin.zeroCells z.cells (cap-(n+m))) e)):=by
 have aF:(rows++ys.map A4).length=n+m:=by simp [hn,hml]
 refine⟨F,K0 ρ key (some ⟨w.heap.size,sz,cap,0⟩),?_,dU,A19 hK aF N9 (E6 _ _) bM,.refl F,?_,λ _ _ h=> .inl h⟩
 ·refine T0.change0 (cs:=(olds++news).toArray++Builtin.zeroCells z.cells (cap-(n+m))) (et:=e) hK dA hm hm.big.self (.inr (B6u _)) (by simp) (λ k hk _=>Below.heap_alloc w.drew _ k hk) (heap_alloc_new w.drew _) ?_ (by rw [aF];exact bM) rfl ?_ hT ?_
  ·simp only [Array.size_append,B9a,B67,size_zeroCells,mZ,xB,jH,<-B7z];congr 1;omega
  ·intro r hr;rcases B65.1 hr with hr|hr
   ·exact eQ r hr
   ·obtain⟨r0,eU,rfl⟩:=B6z.1 hr;simp [A4,oD r0 eU]
  ·intro i r j x hi hj;have dT:j<sz:=by
    grind [A4,List.mem_of_getElem?,List.getElem?_eq_some_iff]
   have bV:∀(q:Nat)(u:Value),(olds++news)[q]? =some u->((olds++news).toArray++Builtin.zeroCells z.cells (cap-(n+m)))[q]? =some u:=by
    grind [List.getElem?_eq_some_iff,Array.getElem?_append_left]
   rcases B7f i n with aP|aP
   ·rw [B8k (by omega)]at hi
    obtain⟨q1,u,q2,q3⟩:=jL i r j x hi hj;refine⟨q1,u,bV _ _ ?_,q3⟩;have:=(B6n.1 q2).1;rw [B8k this];exact q2
   ·rw [B73 (by omega),hn]at hi
    obtain⟨q1,u,q2,q3⟩:=Asg bT (i-n) r j x hi hj;refine⟨q1,u,bV _ _ ?_,q3⟩;have he:i*sz=n*sz+(i-n)*sz:=by rw [<-B7z];congr 1;omega
    rw [B73 (by rw [xB,he];omega),xB]
    rw [show i*sz+j-n*sz=(i-n)*sz+j by omega];exact q2
 ·exact(Bel.refl B w).trans ⟨rfl,rfl,rfl,by simp,λ k hk=>Below.heap_alloc w.drew _ k (hm.big k hk)⟩
theorem Aal {x y:Operand}{t tx:TypeId}(aK:o.op= .call {callee:= .builtin .append,args:= #[x,y],argTypes:= #[t,tx]}){u:Value}(h:(Builtin.append_ #[t,tx] o.type #[a.eval x,a.eval y]).run P w= .ok u w'):
  (execOp a.eval o).run P w= .ok (.value u) w':=by
 simp [execOp,aK,resolve,invoke,builtin,h]
theorem Adv (w:World)(t tx ty e:TypeId)(i:TypeInfo)(ht:P.underlying t=some (.slice e))(hi:P.info? e=some i)(base:Option Addr)(n c:Nat)(cI:n<=c)(x:Value)(hs:Src P i.size tx x 0 [] w):
  (Builtin.append_ #[t,tx] ty #[.slice base n c,x]).run P w= .ok (.slice base n c) w:=by
 rcases hs.kind with ⟨e',hk⟩|hk<;>cases base<;>simp [Builtin.append_,run_underlying ht,run_underlying hk,sizeOf,typeInfo,hi,hs.len,cI,hs.cells,storeCells]
theorem Akl {x y:Operand}{t tx e:TypeId}{i:TypeInfo}{z:Value}{key sz:Nat}{ys:List (List D)}{news:List Value}(hK:key<MK)(dA:KT<=key->e+1=key/KT)(hm:T0 B F ρ s.ob w)
  (aK:o.op= .call {callee:= .builtin .append,args:= #[x,y],argTypes:= #[t,tx]})(ht:P.underlying t=some (.slice e))(hi:P.info? e=some i)(hz:i.zero=some z)(aL:i.size=sz)(mZ:z.cells.size=sz)(cB:0<sz)(hb:0<i.bytes)
  (hx:a.eval x= .slice none 0 0)(hs:Src P sz tx (a.eval y) ys.length news w)(oD:∀r∈ys,r.length=sz)(bT:∀(i:Nat)(r:List D)(j:Nat)(d:D),ys[i]? =some r->r[j]? =some d->∃u,news[i*sz+j]? =some u/\DR F d u)
  (cQ:ys.length*i.bytes<=140737488355328)
  (hT0:ys=[]->T0 B F (K0 ρ key none) (s.obj key ⟨sz,[]⟩).ob w/\Fr F (K0 ρ key none) (s.obj key ⟨sz,[]⟩).ob s.fr a)
  (hT:ys≠[]->∀p',(∀k o,k≠key->get s.ob k=some o->∀r∈o.rows,∀x∈r,∀v,AR F ρ s.ob x v->AR F (K0 ρ key (some p')) (s.obj key ⟨sz,ys.map A4⟩).ob x v)/\Fr F (K0 ρ key (some p')) (s.obj key ⟨sz,ys.map A4⟩).ob s.fr a):
  Abr P o a w (Aby B F w s.fr a (s.obj key ⟨sz,ys.map A4⟩).ob (.sl key ys.length 0 ys.length)):=by
 by_cases aH:ys=[]
 ·subst aH;have jI:news=[]:=B66 (by simpa using hs.newsLen)
  subst jI;subst aL;have aJ:=Adv (P:=P) w t tx o.type e i ht hi none 0 0 (B6u _) (a.eval y) hs;refine C5 (Aal aK (by rw [hx];exact aJ)) ⟨F,K0 ρ key none,(hT0 rfl).1,(hT0 rfl).2,?_,.refl B F w⟩
  refine⟨hK,λ o ho=> ?_⟩
  rw [N9]at ho;simp only [B6g]at ho;subst ho;exact⟨by simp,λ _ _=>by unfold SlR;rw [E6];exact⟨rfl,rfl⟩⟩
 ·subst aL;have bK:0<ys.length:=B9e.2 aH;have h1:ys.length<=ys.length*i.bytes:=Nat.le_mul_of_pos_right _ hb;have aJ:=run_append_grow_src (P:=P) w t tx o.type e i z ht hi hz none 0 0 [] (by simp [Builtin.firstCells,loadCells,loadCellsFrom]) (a.eval y) ys.length news hs (by omega) (by omega) (growslice_fits (by omega) (by rw [B7u];exact cQ))
  refine C5 (Aal aK (by rw [hx];exact aJ)) ?_
  have:=Ash (a:=a) (key:=key) (n:=0) (m:=ys.length) (cap:=grownCap w (0+ys.length) 0 e) (e:=e) (olds:=[]) (news:=news) (z:=z) (rows:=[]) (ys:=ys) hK dA hm cB (by simp) rfl (by simp) hs.newsLen rfl oD mZ (grownCap_ge w _ _ _)
   (by simpa using (hT aH ⟨w.heap.size,i.size,grownCap w (0+ys.length) 0 e,0⟩).1) (by simpa using (hT aH ⟨w.heap.size,i.size,grownCap w (0+ys.length) 0 e,0⟩).2) (by simp) bT
  simpa using this
theorem Atb {sz bytes:Nat}{x y:J8}(hc:Au3 P o sz bytes x y=true):∃x' y' t tx e i z,o.op= .call {callee:= .builtin .append,args:= #[x',y'],argTypes:= #[t,tx]}/\M3 x' x=true/\M3 y' y=true/\
  ((∃e',P.underlying tx=some (.slice e'))\/P.underlying tx=some .string)/\P.underlying t=some (.slice e)/\P.info? e=some i/\i.zero=some z/\i.size=sz/\i.bytes=bytes/\z.cells.size=sz/\0<sz/\0<bytes:=by
 unfold Au3 at hc;split at hc
 ·rename_i args ats aK;simp only [B6h,B6o]at hc;obtain⟨⟨⟨dF,tL⟩,jG⟩,hp2⟩:=hc;obtain⟨l⟩:=args
  match l,dF with
  |[x',y'],dF=>
   simp only [G0,B6h]at dF;split at tL
   ·rename_i t tx uL;have et:ats= #[t,tx]:=by rw [<-B8w];exact uL
    grind [A2r,Awo]
   ·simp at tL
  |[],dF=>simp [G0]at dF
  |[_],dF=>simp [G0]at dF
  |_::_::_::_,dF=>simp [G0]at dF
 ·simp at hc
theorem Bnn {key sz bytes:Nat}{x y:J8}{p q v:AV}{s':St}{ys:List (List D)}(nM:key<MK)(hT:Ac3 P o key=true)(hm:T0 B F ρ s.ob w)(hf:Fr F ρ s.ob s.fr a)(hc:Au3 P o sz bytes x y=true)(h1:s.opd x=some p)(h2:s.opd y=some q)(h3:Y2 s q=some (sz,ys))
  (h:S9 s key sz bytes p ys=some (v,s')):s'.fr=s.fr/\Abr P o a w (Aby B F w s.fr a s'.ob v):=by
 obtain⟨x',y',t,tx,e,i,z,aK,hx,hy,hk,ht,hi,hz,aL,rW,mZ,cB,wE⟩:=Atb hc;have aZ:=A2 hf hx h1;have dQ:=A2 hf hy h2;have rX:KT<=key->e+1=key/KT:=by simp only [Ac3,aK,ht]at hT;exact Ahi (o:=o) hT rfl
 obtain⟨news,hs,oD,bT⟩:=A2w (tx:=tx) cB hm h3 dQ hk;unfold S9 at h;split at h
 ·rename_i z0;split at h
  ·rename_i aI;simp only [B6h]at aI;obtain⟨rfl,cQ,aG⟩:=aI;simp only [B6g,B6k]at h;obtain⟨rfl,rfl⟩:=h;have hb:a.eval x'= .slice none 0 0:=aZ;refine⟨rfl,Akl nM rX hm aK ht hi hz aL mZ cB (by omega) hb hs oD bT (by rw [rW];exact Ag1 cQ) (λ _=>⟨hm.newBare aG,(S5 aG).2 hf⟩) λ _ p'=> ?_⟩
   exact⟨(S5 (a:=a) aG).1,(S5 aG).2 hf⟩
  ·simp at h
 ·rename_i k ver n;split at h
  ·rename_i obj aD;split at h
   ·rename_i aI;obtain⟨iA,rfl,uN⟩:=aI;split at h
    ·rename_i iM;simp only [B6h]at iM;obtain⟨⟨cQ,jH⟩,hteq⟩:=iM;have dA:KT<=k->e+1=k/KT:=by
      intro h;simp only [Bms,B7n,B6o,B62]at hteq;rcases hteq with h1|h1
      ·omega
      ·rw [h1];refine rX ?_;have h2:1<=k/KT:=(Nat.one_le_div_iff (by unfold KT;omega)).2 h
       rw [h1]at h2;exact(Nat.one_le_div_iff (by unfold KT;omega)).1 h2
     simp only [B6g,B6k]at h;obtain⟨rfl,rfl⟩:=h;refine⟨rfl,?_⟩;obtain⟨hK,aZ⟩:=aZ;have dR:=(aZ obj aD).2 iA (by omega)
     have cQ:=Ag1 cQ;obtain⟨dP,fB⟩:=Bbc jH;unfold SlR at dR;have more:∀(p':Option N4),ys≠[]->∀{x:AV}{v:Value},x.isLoc k=false->AR F ρ s.ob x v->AR F (K0 ρ k p') (s.obj k ⟨sz,obj.rows++ys.map A4⟩).ob x v:=by
      intro p' aH x v hxl hv;exact hv.more hK hxl (λ k hk=>D6 _ hk) (λ k hk=>N7 hk) aD N9 (by have:=B9e.2 aH;simp;omega)
     cases hρ:ρ k with
     |none=>
      rw [hρ]at dR;obtain⟨rfl,hb⟩:=dR;have aQ:=hm.bare k obj aD hρ;have hobj:obj=⟨sz,[]⟩:=by cases obj;simp_all
      subst hobj;have xC:K0 ρ k none=ρ:=by funext j;unfold K0;split<;>simp_all
      have aV:∀j,get (s.obj k ⟨sz,[]⟩).ob j=get s.ob j:=by
       intro j;rw [J2];split
       ·rename_i hj;subst hj;exact aD.symm
       ·rfl
      simp only [B7u,B7j]at*;refine Akl hK dA hm aK ht hi hz aL mZ cB (by omega) hb hs oD bT (by rw [rW];exact cQ) (λ _=>⟨?_,?_⟩) λ aH p'=>⟨?_,?_⟩
      ·rw [xC];exact hm.congr aV
      ·rw [xC];exact hf.sub λ k o h=>by rw [<-aV];exact h
      ·intro k' o' aN aT r hr x hx v hv;have:=more (some p') aH (fB k' o' aT r hr x hx) hv;simpa using this
      ·intro i v hi;have:=more (some p') aH (dP i v hi) (hf i v hi);simpa using this
     |some pl=>
      rw [hρ]at dR;obtain⟨bM,b,hb,ha⟩:=dR;obtain rfl:=ha (.inr rfl);rw [B78,Nat.zero_mul,B8y]at hb;obtain⟨g1,g2,g3,g4,cs,et,hh,g5,g6⟩:=hm.cells hK aD hρ;have dO:pl.sz=sz:=by rw [g3,uN]
      by_cases aH:ys=[]
      ·subst aH;have jI:news=[]:=B66 (by simpa using hs.newsLen)
       subst jI;subst aL;have aJ:=Adv (P:=P) w t tx o.type e i ht hi (some ⟨pl.g,pl.o,none⟩) n pl.cap (by omega) (a.eval y') hs
       have aV:∀j,get (s.obj k ⟨i.size,obj.rows++List.map A4 []⟩).ob j=get s.ob j:=by
        intro j;rw [J2];split
        ·rename_i hj;subst hj;rw [aD];cases obj;simp_all
        ·rfl
       refine C5 (Aal aK (by rw [hb];exact aJ)) ⟨F,ρ,hm.congr aV,hf.sub λ k o h=>by rw [<-aV];exact h,?_,.refl B F w⟩
       simp only [B88,B8y];exact A19 hK (o':=⟨i.size,obj.rows++List.map A4 []⟩) (by simpa using iA) N9 hρ (by omega)
      ·have bK:0<ys.length:=B9e.2 aH;have fZ:n+ys.length<=(n+ys.length)*bytes:=Nat.le_mul_of_pos_right _ wE;have hT:∀p',∀k' o,k'≠k->get s.ob k'=some o->∀r∈o.rows,∀x∈r,∀v,AR F ρ s.ob x v->AR F (K0 ρ k (some p')) (s.obj k ⟨sz,obj.rows++ys.map A4⟩).ob x v:=
        λ p' k' o' aN aT r hr x hx v hv=>more (some p') aH (fB k' o' aT r hr x hx) hv
       have qZ:∀p',Fr F (K0 ρ k (some p')) (s.obj k ⟨sz,obj.rows++ys.map A4⟩).ob s.fr a:=λ p' i v hi=>more (some p') aH (dP i v hi) (hf i v hi)
       have hnsz:pl.o+n*sz<=cs.size:=by have:=B79 sz (show n<=pl.cap by omega);rw [g5,dO];omega
       have kD:∀p',∀(i:Nat)(r:List AV)(j:Nat)(x:AV),obj.rows[i]? =some r->r[j]? =some x->x.one=true/\∃u,cs[pl.o+i*sz+j]? =some u/\i*sz+j<n*sz/\AR F (K0 ρ k (some p')) (s.obj k ⟨sz,obj.rows++ys.map A4⟩).ob x u:=by
        intro p' i r j x hi hj;obtain⟨q1,u,q2,q3⟩:=g6 i r j x hi hj;rw [dO]at q2;have dN:=(B6n.1 hi).1;have dT:j<sz:=by rw [<-dO,<-g4 r (B6t hi)];exact(B6n.1 hj).1
        refine⟨q1,u,q2,?_,more (some p') aH (fB k obj aD r (B6t hi) x (B6t hj)) q3⟩;have:(i+1)*sz<=n*sz:=B79 _ (by omega)
        rw [B7z,B8z]at this;omega
       by_cases hfit:n+ys.length<=pl.cap
       ·have dA:KT<=k->et+1=k/KT:=λ h=>hm.typed hK aD hρ h _ _ _ hh
        have aW:pl.o+n*sz+news.length<=cs.size:=by have:=B79 sz hfit;rw [B7z]at this;rw [hs.newsLen,g5,dO];omega
        have dB:=run_storeCells_at P pl.g (pl.o+n*sz) et news 0 cs w hh (by simpa using aW) hs.one
        simp only [B8y]at dB;have aJ:(Builtin.append_ #[t,tx] o.type #[.slice (some ⟨pl.g,pl.o,none⟩) n pl.cap,a.eval y']).run P w= .ok (.slice (some ⟨pl.g,pl.o,none⟩) (n+ys.length) pl.cap) (w.setRow pl.g (cs.toList.take (pl.o+n*sz)++news++cs.toList.drop (pl.o+n*sz+news.length)).toArray):=by
         subst aL;rcases hs.kind with ⟨e',hk⟩|hk<;>simp [Builtin.append_,run_underlying ht,run_underlying hk,sizeOf,typeInfo,hi,hs.len,hfit,hs.cells,Addr.add_mk,dB]
        refine C5 (Aal aK (by rw [hb];exact aJ)) ⟨F,K0 ρ k (some pl),?_,qZ pl,?_,.refl F,Asf g1,λ _ _ h=> .inl h⟩
        ·have pE:∀q,(cs.toList.take (pl.o+n*sz)++news++cs.toList.drop (pl.o+n*sz+news.length))[q]? =if pl.o+n*sz<=q/\q<pl.o+n*sz+news.length then news[q-(pl.o+n*sz)]? else cs[q]? :=by
          intro q;have:=Aed (cs:=cs.toList) (xs:=news) (off:=pl.o+n*sz) (j:=q) (by simpa using aW)
          unfold O8 at this;rw [this,<-Array.getElem?_toList]
         refine T0.change (et:=et) hK dA (hm.typed0 hK aD hρ) hm g1 (.inl ⟨obj,pl,aD,hρ,rfl⟩) (by simp [World.setRow]) (λ k hk aH=>setRow_other w _ k _ aH) (setRow_heap w _ cs _ et _ hh) ?_ (by simp;omega) dO ?_ (hT pl) ?_
         ·simp only [B9a,B67,B7l,B70,Array.length_toList];rw [<-g5];omega
         ·intro r hr;rcases B65.1 hr with hr|hr
          ·exact g4 r hr
          ·obtain⟨r0,eU,rfl⟩:=B6z.1 hr;simp [A4,oD r0 eU,dO]
         ·intro i r j x hi hj;simp only [List.getElem?_toArray,dO];rw [pE];rcases B7f i obj.rows.length with aP|aP
          ·rw [B8k aP]at hi;obtain⟨q1,u,q2,q3,q4⟩:=kD pl i r j x hi hj;exact⟨q1,u,by rw [B6j (by omega)];exact q2,q4⟩
          ·rw [B73 aP,iA]at hi;obtain⟨q1,u,q2,q3⟩:=Asg bT (i-n) r j x hi hj;have he:i*sz=n*sz+(i-n)*sz:=by rw [<-B7z];congr 1;omega
           have hql:=(B6n.1 q2).1;refine⟨q1,u,?_,q3⟩;rw [B6l (by omega),show pl.o+i*sz+j-(pl.o+n*sz)=(i-n)*sz+j by omega];exact q2
        ·exact A19 hK (o':=⟨sz,obj.rows++ys.map A4⟩) (by simp;omega) N9 (E6 _ _) hfit
       ·have jL:(Builtin.firstCells i.size n (.slice (some ⟨pl.g,pl.o,none⟩) n pl.cap)).run P w.drew= .ok ((cs.toList.drop pl.o).take (n*sz)).toArray w.drew:=by
         rw [aL];refine run_firstCells_some w.drew sz n ⟨pl.g,pl.o,none⟩ n pl.cap _ (by simp;omega) λ j v hj=> ?_
         rw [B77]at hj;split at hj
         ·rw [Addr.add_mk]
          show w.cell? _=_
          simp only [World.cell?,hh];simpa [B7x]using hj
         ·simp at hj
        have aJ:=run_append_grow_src (P:=P) w t tx o.type e i z ht hi hz (some ⟨pl.g,pl.o,none⟩) n pl.cap _ jL (a.eval y') ys.length news (by rw [aL];exact hs) (by omega) (by omega) (growslice_fits (by omega) (by rw [rW];exact cQ))
        refine C5 (Aal aK (by rw [hb];exact aJ)) ?_
        refine Ash (e:=e) (z:=z) hK dA hm cB (λ r hr=>by rw [<-dO];exact g4 r hr) iA (by simp;omega) hs.newsLen rfl oD mZ (grownCap_ge w _ _ _) (hT _) (qZ _) ?_ bT
        intro i r j x hi hj;obtain⟨q1,u,q2,q3,q4⟩:=kD ⟨w.heap.size,sz,grownCap w (n+ys.length) pl.cap e,0⟩ i r j x hi hj;exact⟨q1,u,by rw [B77,B6l q3,B7x];simpa [B9c]using q2,q4⟩
    ·simp at h
   ·simp at h
  ·simp at h
 ·simp at h
theorem Bh6 {key sz bytes:Nat}{x y:J8}{p q v:AV}{s':St}{ys:List (List D)}(nM:key<MK)(hT:Ac3 P o key=true)(hm:T0 B F ρ s.ob w)(hf:Fr F ρ s.ob s.fr a)(hc:Au3 P o sz bytes x y=true)(h1:s.opd x=some p)(h2:s.opd y=some q)(h3:Y2 s q=some (sz,ys))
  (h:Aea s key sz bytes p ys=some (v,s')):s'.fr=s.fr/\Abr P o a w (Aby B F w s.fr a s'.ob v):=by
 obtain⟨x',y',t,tx,e,i,z,aK,hx,hy,hk,ht,hi,hz,aL,rW,mZ,cB,wE⟩:=Atb hc;have aZ:=A2 hf hx h1;have dQ:=A2 hf hy h2;have rX:KT<=key->e+1=key/KT:=by simp only [Ac3,aK,ht]at hT;exact Ahi (o:=o) hT rfl
 obtain⟨news,hs,oD,bT⟩:=A2w (tx:=tx) cB hm h3 dQ hk;unfold Aea at h;split at h
 ·rename_i z0;split at h
  ·rename_i aI;simp only [B6h]at aI;obtain⟨rfl,cQ,aG⟩:=aI;simp only [B6g,B6k]at h;obtain⟨rfl,rfl⟩:=h;have hb:a.eval x'= .slice none 0 0:=aZ;refine⟨rfl,Akl nM rX hm aK ht hi hz aL mZ cB (by omega) hb hs oD bT (by rw [rW];exact Ag1 cQ) (λ _=>⟨hm.newBare aG,(S5 aG).2 hf⟩) λ _ p'=> ?_⟩
   exact⟨(S5 (a:=a) aG).1,(S5 aG).2 hf⟩
  ·simp at h
 ·rename_i k ver st n;split at h
  ·rename_i obj aD;split at h
   ·rename_i aI;obtain⟨iA,hstn,hn,uN,hkne,aB⟩:=aI;split at h
    ·rename_i iM;simp only [B6h]at iM;obtain⟨cQ,aG⟩:=iM;simp only [B6g,B6k]at h;obtain⟨rfl,rfl⟩:=h;refine⟨rfl,?_⟩;obtain⟨hK,aZ⟩:=aZ;have dR:=(aZ obj aD).2 iA (by omega)
     have cQ:=Ag1 cQ;have pF:=Bnk (k:=k) aG;have dV:T0 B F ρ (⟨s.fr,del s.ob k⟩:St).ob w:=hm.fewer (Awt s.ob k);have dZ:Fr F ρ (⟨s.fr,del s.ob k⟩:St).ob (⟨s.fr,del s.ob k⟩:St).fr a:=hf.sub (Awt s.ob k);have dA:KT<=key->e+1=key/KT:=λ h=>by omega
     unfold SlR at dR;cases hρ:ρ k with
     |none=>rw [hρ]at dR;omega
     |some pl=>
      rw [hρ]at dR;obtain⟨bM,b,hb,ha⟩:=dR;obtain rfl:=ha (.inl hn);obtain⟨g1,g2,g3,g4,cs,et,hh,g5,g6⟩:=hm.cells hK aD hρ;have dO:pl.sz=sz:=by rw [g3,uN]
      rw [dO]at hb g5 g6;obtain⟨b0,uO⟩:∃b0,pl.o+st*sz=b0:=⟨_,rfl⟩;obtain⟨cp,hcp⟩:∃cp,pl.cap-st=cp:=⟨_,rfl⟩;rw [uO,hcp]at hb;have uP:cs.size=b0+cp*sz:=by
       have:pl.cap*sz=st*sz+cp*sz:=by rw [<-B7z];congr 1;omega
       rw [g5,this,<-uO];omega
      have hncp:n<=cp:=by omega
      have eQ:∀r∈obj.rows.drop st,r.length=sz:=λ r hr=>by rw [<-dO];exact g4 r (List.mem_of_mem_drop hr)
      have jJ:(obj.rows.drop st).length=n:=by rw [B70];omega
      have hf3:∀p',Fr F (K0 ρ key (some p')) ((⟨s.fr,del s.ob k⟩:St).obj key ⟨sz,obj.rows.drop st++ys.map A4⟩).ob s.fr a:=λ p'=>(S5 pF).2 dZ
      have hT:∀p',∀k' o,k'≠key->get (⟨s.fr,del s.ob k⟩:St).ob k'=some o->∀r∈o.rows,∀x∈r,∀v,AR F ρ (⟨s.fr,del s.ob k⟩:St).ob x v->AR F (K0 ρ key (some p')) ((⟨s.fr,del s.ob k⟩:St).obj key ⟨sz,obj.rows.drop st++ys.map A4⟩).ob x v:=λ p'=>(S5 (a:=a) pF).1
      have kD:∀p',∀(i:Nat)(r:List AV)(j:Nat)(x:AV),(obj.rows.drop st)[i]? =some r->r[j]? =some x->x.one=true/\∃u,cs[b0+i*sz+j]? =some u/\i*sz+j<n*sz/\AR F (K0 ρ key (some p')) ((⟨s.fr,del s.ob k⟩:St).obj key ⟨sz,obj.rows.drop st++ys.map A4⟩).ob x u:=by
       intro p' i r j x hi hj;rw [B7x]at hi;obtain⟨q1,u,q2,q3⟩:=g6 _ r j x hi hj;have dN:=(B6n.1 hi).1;have dT:j<sz:=by rw [<-dO,<-g4 r (B6t hi)];exact(B6n.1 hj).1
       have cS:x.names key=false:=(Ag0 aG).2 k obj hkne aD r (B6t hi) x (B6t hj);refine⟨q1,u,?_,?_,(q3.sub (Awt s.ob k)).upd cS (λ k hk=>D6 _ hk) (λ k hk=>N7 hk)⟩
       ·rw [<-uO,<-q2];congr 1;rw [B7z];omega
       ·have:(i+1)*sz<=n*sz:=B79 _ (by omega)
        rw [B7z,B8z]at this;omega
      have hnsz:b0+n*sz<=cs.size:=by have:=B79 sz hncp;rw [uP];omega
      have jG:∀k2 o p,key≠k2->get (⟨s.fr,del s.ob k⟩:St).ob k2=some o->ρ k2=some p->p.g≠pl.g:=by
       intro k2 o p _ ho hp he;have:=hm.inj k2 o p k obj pl (Awt s.ob k k2 o ho) hp aD hρ he;subst this;simp [B3]at ho
      by_cases hfit:n+ys.length<=cp
      ·have aW:b0+n*sz+news.length<=cs.size:=by have:=B79 sz hfit;rw [B7z]at this;rw [hs.newsLen,uP];omega
       have dB:=run_storeCells_at P pl.g (b0+n*sz) et news 0 cs w hh (by simpa using aW) hs.one
       simp only [B8y]at dB;have aJ:(Builtin.append_ #[t,tx] o.type #[.slice (some ⟨pl.g,b0,none⟩) n cp,a.eval y']).run P w= .ok (.slice (some ⟨pl.g,b0,none⟩) (n+ys.length) cp) (w.setRow pl.g (cs.toList.take (b0+n*sz)++news++cs.toList.drop (b0+n*sz+news.length)).toArray):=by
        subst aL;rcases hs.kind with ⟨e',hk⟩|hk<;>simp [Builtin.append_,run_underlying ht,run_underlying hk,sizeOf,typeInfo,hi,hs.len,hfit,hs.cells,Addr.add_mk,dB]
       obtain⟨pn,hpn⟩:∃pn:N4,(⟨pl.g,sz,cp,b0⟩:N4)=pn:=⟨_,rfl⟩;have ep:pn.g=pl.g/\pn.sz=sz/\pn.cap=cp/\pn.o=b0:=by rw [<-hpn];exact⟨rfl,rfl,rfl,rfl⟩
       obtain⟨ep1,ep2,ep3,ep4⟩:=ep;refine C5 (Aal aK (by rw [hb];exact aJ)) ⟨F,K0 ρ key (some pn),?_,hf3 pn,?_,.refl F,Asf g1,λ _ _ h=> .inl h⟩
       ·have pE:∀q,(cs.toList.take (b0+n*sz)++news++cs.toList.drop (b0+n*sz+news.length))[q]? =if b0+n*sz<=q/\q<b0+n*sz+news.length then news[q-(b0+n*sz)]? else cs[q]? :=by
         intro q;have:=Aed (cs:=cs.toList) (xs:=news) (off:=b0+n*sz) (j:=q) (by simpa using aW)
         unfold O8 at this;rw [this,<-Array.getElem?_toList]
        refine T0.changeG dV (by rw [ep1];exact g1) (λ k2 o p q1 q2 q3=>by rw [ep1];exact jG k2 o p q1 q2 q3) (λ ad u hu=>by rw [ep1];exact hm.apart k obj pl aD hρ ad u hu) (by simp [World.setRow]) (λ k2 _ aH=>setRow_other w _ k2 _ (by rw [<-ep1];exact aH)) (hT pn) ⟨λ _=>⟨⟨?_,ep2,?_,_,et,by rw [ep1];exact setRow_heap w _ cs _ et _ hh,?_,?_⟩,λ h=>by omega⟩,λ h=>by omega,λ h=>by omega⟩
        ·rw [B67,jJ,B6s,ep3];exact hfit
        ·intro r hr;rw [ep2];rcases B65.1 hr with hr|hr
         ·exact eQ r hr
         ·obtain⟨r0,eU,rfl⟩:=B6z.1 hr;simp [A4,oD r0 eU]
        ·rw [ep4,ep3,ep2,<-uP];simp only [B9a,B67,B7l,B70,Array.length_toList];omega
        ·intro i r j x hi hj;simp only [List.getElem?_toArray];rw [pE,ep4,ep2];rcases B7f i n with aP|aP
         ·rw [B8k (by omega)]at hi
          obtain⟨q1,u,q2,q3,q4⟩:=kD pn i r j x hi hj;exact⟨q1,u,by rw [B6j (by omega)];exact q2,q4⟩
         ·rw [B73 (by omega),jJ]at hi
          obtain⟨q1,u,q2,q3⟩:=Asg bT (i-n) r j x hi hj;have he:i*sz=n*sz+(i-n)*sz:=by rw [<-B7z];congr 1;omega
          have hql:=(B6n.1 q2).1;refine⟨q1,u,?_,q3⟩;rw [B6l (by omega),show b0+i*sz+j-(b0+n*sz)=(i-n)*sz+j by omega];exact q2
       ·have:=A19 (F:=F) (ρ:=K0 ρ key (some pn)) (p:=pn) (n:=n+ys.length) nM (o':=⟨sz,obj.rows.drop st++ys.map A4⟩) (by rw [B67,jJ,B6s]) (N9 (s:=⟨s.fr,del s.ob k⟩)) (E6 _ _) (by rw [ep3];exact hfit)
        rw [ep1,ep3,ep4]at this;exact this
      ·have jL:(Builtin.firstCells i.size n (.slice (some ⟨pl.g,b0,none⟩) n cp)).run P w.drew= .ok ((cs.toList.drop b0).take (n*sz)).toArray w.drew:=by
        rw [aL];refine run_firstCells_some w.drew sz n ⟨pl.g,b0,none⟩ n cp _ (by simp;omega) λ j v hj=> ?_
        rw [B77]at hj;split at hj
        ·rw [Addr.add_mk]
         show w.cell? _=_
         simp only [World.cell?,hh];simpa [B7x]using hj
        ·simp at hj
       have fZ:n+ys.length<=(n+ys.length)*bytes:=Nat.le_mul_of_pos_right _ wE;have bK:0<ys.length:=by omega
       have aJ:=run_append_grow_src (P:=P) w t tx o.type e i z ht hi hz (some ⟨pl.g,b0,none⟩) n cp _ jL (a.eval y') ys.length news (by rw [aL];exact hs) (by omega) (by omega) (growslice_fits (by omega) (by rw [rW];exact cQ))
       refine C5 (Aal aK (by rw [hb];exact aJ)) ?_
       refine Ash (s:=⟨s.fr,del s.ob k⟩) (e:=e) (z:=z) nM dA dV cB eQ jJ (by simp;omega) hs.newsLen rfl oD mZ (grownCap_ge w _ _ _) (hT _) (hf3 _) ?_ bT
       intro i r j x hi hj;obtain⟨q1,u,q2,q3,q4⟩:=kD ⟨w.heap.size,sz,grownCap w (n+ys.length) cp e,0⟩ i r j x hi hj;exact⟨q1,u,by rw [B77,B6l q3,B7x];simpa [B9c]using q2,q4⟩
    ·simp at h
   ·simp at h
  ·simp at h
 ·simp at h
end
end Go.Am
namespace Go.Am
open Go.RowKit
section
variable {P : Program} {B : Bd} {F F' : A8} {ρ ρ' : Map} {s : St} {a : Go.Act} {w w' : World} {o : Oper} {ob aA : OL}
theorem A9f {k:IntKind}:∀{vs:List AV}{us:List Value}{x m:Int},Amf k x vs=some m->C9 (AR F ρ ob) vs us->(us.foldlM Builtin.min2 (.int k x)).run P w= .ok (.int k m) w
 |[],us,x,m,h,hr=>by cases hr;simp only [Amf,B6g]at h;subst h;simp
 | .c (.int k' b)::vs,us,x,m,h,hr=>by
  simp only [Amf]at h;split at h
  ·rename_i hk;subst hk;cases hr with
   |cons h1 h2=>
    have e1:=DR.int_ h1;subst e1;simp only [List.foldlM_cons,Sem.run_bind,Builtin.min2,Sem.run_pure,Result.andThen_ok];exact A9f h h2
  ·simp at h
 | .c (.bool _)::_,_,_,_,h,_=>by simp [Amf]at h
 | .c (.str _)::_,_,_,_,h,_=>by simp [Amf]at h
 | .c (.vs _ _)::_,_,_,_,h,_=>by simp [Amf]at h
 | .agg _::_,_,_,_,h,_=>by simp [Amf]at h
 | .nil _::_,_,_,_,h,_=>by simp [Amf]at h
 | .sl .. ::_,_,_,_,h,_=>by simp [Amf]at h
 | .loc .. ::_,_,_,_,h,_=>by simp [Amf]at h
 | .vp .. ::_,_,_,_,h,_=>by simp [Amf]at h
 | .tup _::_,_,_,_,h,_=>by simp [Amf]at h
 | .mp _::_,_,_,_,h,_=>by simp [Amf]at h
 | .itr _::_,_,_,_,h,_=>by simp [Amf]at h
 | .ags _::_,_,_,_,h,_=>by simp [Amf]at h
 | .clo _ _::_,_,_,_,h,_=>by simp [Amf]at h
def Btu (o:Oper)(x:J8)(xs:List J8):Bool:=match o.op with
 | .call {callee:= .builtin .min,args,argTypes:=_}=>G0 args.toList (x::xs)
 |_=>false
theorem Bus {x:J8}{xs:List J8}{k:IntKind}{n m:Int}{vs:List AV}(hf:Fr F ρ s.ob s.fr a)(hc:Btu o x xs=true)(h1:s.opd x=some (.c (.int k n)))(h2:s.opds xs=some vs)(h:Amf k n vs=some m):Ac5 P o a w F ρ s (.c (.int k m)):=by
 unfold Btu at hc;split at hc
 ·rename_i args ats aK;obtain⟨l⟩:=args
  match l,hc with
  |x'::xs',hc=>
   simp only [G0,B6h]at hc;have e1:=DR.int_ (A2 hf hc.1 h1);have hall:=Aeb hf hc.2 h2;refine F4 (u:= .int k m) ?_ (.int _ _);have:=A9f (P:=P) (w:=w) h hall;simp [execOp,aK,resolve,invoke,builtin,Builtin.min_,e1,this]
  |[],hc=>simp [G0]at hc
 ·simp at hc
def Beo (P:Program)(o:Oper)(bytes:Nat)(zero:List AV)(n c:J8):Bool:=match o.op with
 | .makeSlice t n' c'=>M3 n' n&&M3 c' c&&(match P.underlying t with
  |some (.slice e)=>(match P.info? e with|some i=>i.size==zero.length&&i.bytes==bytes&&(match i.zero with|some z=>Bf0 zero z.cells.toList|none=>false)|none=>false)
  |_=>false)&&decide (0<bytes)&&decide (0<zero.length)
 |_=>false
theorem Bno {key bytes m k:Nat}{zero:List AV}{n c:J8}{p q:AV}(hK:key<MK)(hTy:Ac3 P o key=true)(hm:T0 B F ρ s.ob w)(hf:Fr F ρ s.ob s.fr a)(hc:Beo P o bytes zero n c=true)(h1:s.opd n=some p)(h2:s.opd c=some q)(hp:Adg p=some m)(hq:Adg q=some k)
  (aS:m<=k)(cQ:A2m k bytes=true)(aG:s.free key=true):Abr P o a w (Aby B F w s.fr a (s.obj key ⟨zero.length,List.replicate m zero⟩).ob (.sl key m 0 m)):=by
 unfold Beo at hc;split at hc
 ·rename_i t n' c' aK;simp only [B6h,B6o]at hc;obtain⟨⟨⟨⟨hn,fO⟩,ht⟩,hb⟩,wF⟩:=hc;split at ht
  ·rename_i e he;split at ht
   ·rename_i i hi;simp only [B6h,B62]at ht;obtain⟨⟨aL,rW⟩,hz⟩:=ht;split at hz
    ·rename_i z lR;obtain⟨g1,g2,g3⟩:=Ah8 (F:=F) (ρ:=ρ) (ob:=s.ob) hz;obtain⟨kl,l,e1,hl,rfl⟩:=R4 hp (A2 hf hn h1);obtain⟨kc,c0,e2,nA,rfl⟩:=R4 hq (A2 hf fO h2);have hr:=Ag1 cQ;have hkb:c0.toNat<=c0.toNat*bytes:=Nat.le_mul_of_pos_right _ hb;have hbb:(i.bytes:Int)*c0<=281474976710656:=by
      grind [Nat.mul_comm,Int.natCast_mul,Int.toNat_of_nonneg]
     have aJ:=run_make (P:=P) w t e i z he hi lR kl kc l c0 hl (by omega) hbb (by omega)
     obtain⟨hT,qZ⟩:=S5 (F:=F) (ρ:=ρ) (a:=a) (o':=⟨zero.length,List.replicate l.toNat zero⟩) (p':=some ⟨w.heap.size,zero.length,c0.toNat,0⟩) aG;refine C5 (w':=w.alloc (.cells (madeCells z.cells (c0.toNat*i.size)) e)) (u:= .slice (some ⟨w.heap.size,0,none⟩) l.toNat c0.toNat) ?_ ⟨F,K0 ρ key (some ⟨w.heap.size,zero.length,c0.toNat,0⟩),?_,qZ hf,A19 hK (p:=⟨w.heap.size,zero.length,c0.toNat,0⟩) (by simp) N9 (E6 _ _) aS,.refl F,(Bel.refl _ _).alloc hm.big _,λ _ _ h=> .inl h⟩
     ·simp [execOp,aK,e1,e2,aJ]
     ·have kP:zero.length=z.cells.size:=by rw [g1.length];simp
      refine T0.change0 (et:=e) hK (by simp only [Ac3,aK,he]at hTy;exact Ahi (o:=o) hTy rfl) hm hm.big.self (.inr (B6u _)) (by simp) (λ k hk _=>Below.heap_alloc w _ k hk) (heap_alloc_new w _) (by rw [size_madeCells,aL]) (by simpa using aS) rfl (λ r hr=>by rw [(List.mem_replicate.1 hr).2]) hT ?_
      intro i' r j x lQ hj;have bU:=(List.mem_replicate.1 (B6t lQ)).2;subst bU;have dN:i'<l.toNat:=by have:=(B6n.1 lQ).1;simpa using this
      have dT:=(B6n.1 hj).1;obtain⟨u,hu,fH⟩:=g1.get? j x hj;have hx:=B6t hj;refine⟨g2 x hx,u,?_,fH.upd (g3 key x hx) (λ k hk=>D6 _ hk) (λ k hk=>N7 hk)⟩
      have aC:i'*r.length+j<c0.toNat*i.size:=by
       rw [aL];have h4:(i'+1)*r.length<=c0.toNat*r.length:=B79 _ (by omega)
       rw [B7z,B8z]at h4;omega
      have nL:(i'*r.length+j)%z.cells.size=j:=by rw [<-kP,Nat.mul_comm,Nat.mul_add_mod,B74 dT]
      have qY:z.cells[j]? =some u:=by simpa using hu
      have hjz:j<z.cells.size:=by rw [<-kP];exact dT
      simp only [madeCells,Array.getElem?_map,Array.getElem?_range,aC,B68,B7h,nL];rw [getElem!_pos z.cells j hjz];rw [B7o hjz]at qY;exact qY
    ·simp at hz
   ·simp at ht
  ·simp at ht
 ·simp at hc
theorem Ah1 (off:Nat):∀(us:List Value)(k:Nat)(cells:Array Value),off+k+us.length<=cells.size->
  (((us.zipIdx k).foldl (λ(cs:Array Value)(p:Value×Nat)=>cs.setIfInBounds (off+p.2) p.1) cells).toList=O8 cells.toList (off+k) us)
 |[],k,cells,h=>by simp [O8]
 |u::us,k,cells,h=>by
  simp only [List.zipIdx_cons,List.foldl_cons];simp only [B8p]at h;rw [Ah1 off us (k+1) _ (by simp;omega)]
  apply List.ext_getElem?;grind [Aed,List.length_cons,List.getElem?_cons_succ]
def T2 (place:Nat->Option (Nat×Nat)):List (Nat×Operand)->List (Nat×Nat×J8)->Bool
 |[],[]=>true
 |(i,x)::xs,(off,sz,y)::ys=>(match place i with|some (o,z)=>o==off&&z==sz|none=>false)&&M3 x y&&T2 place xs ys
 |_,_=>false
theorem A4f {x:AV}{cs:List D}{v:Value}(h:x.dcells=some cs)(hr:RR F x v):∃us:List Value,v.cells=us.toArray/\C9 (DR F) cs us:=by
 unfold AV.dcells at h;split at h
 ·simp only [B6g]at h;subst h;exact⟨[v],DR.cells hr,.cons hr .nil⟩
 ·simp only [B6g]at h;subst h;obtain⟨us,rfl,fI⟩:=hr;exact⟨us,rfl,fI⟩
 ·simp [RR]at hr
 ·simp at h
theorem Akm {place:Nat->Option (Nat×Nat)}(hm:T0 B F ρ s.ob w)(hf:Fr F ρ s.ob s.fr a):∀{xs:List (Nat×Operand)}{ys:List (Nat×Nat×J8)}{ps:List (Nat×List D)}{ks:List Nat}{zero cs:List D}{us:List Value}{G:A8},
  T2 place xs ys=true->s.parts ys=some (ps,ks)->H1 zero ps=some cs->C9 (DR G) zero us->(F5 F ρ s.ob ks w).le G->
  ∃us':List Value,Instr.fill place us.toArray (xs.map λ p=>(p.1,a.eval p.2))=some us'.toArray/\C9 (DR G) cs us'
 |[],[],ps,ks,zero,cs,us,G,_,h,hp,hz,hG=>by
  simp only [St.parts,B6g,B6k]at h;obtain⟨rfl,rfl⟩:=h;simp only [H1,B6g]at hp;subst hp;exact⟨us,rfl,hz⟩
 |(i,x)::xs,(off,sz,y)::ys,ps,ks,zero,cs,us,G,hc,h,hp,hz,hG=>by
  simp only [T2,B6h]at hc;obtain⟨⟨iN,hx⟩,hc⟩:=hc;simp only [St.parts]at h;split at h
  ·simp at h
  ·rename_i v hv;split at h
   ·simp at h
   ·rename_i d k uQ;split at h
    ·rename_i ds ps' bE hd gA;split at h
     ·rename_i aF;simp only [B6g,B6k]at h;obtain⟨rfl,rfl⟩:=h;simp only [H1]at hp;split at hp
      ·rename_i cI;have mY:=(Agy hm uQ (A2 hf hx hv)).mono ((F5.mono (bE:=k.toList++bE) (by intro k' aN;simp at aN;simp [aN])).trans hG)
       obtain⟨vs,eV,hall⟩:=A4f hd mY;split at iN
       ·rename_i o' z' lZ;simp only [B6h,B62]at iN;obtain⟨rfl,rfl⟩:=iN;have kP:=hz.length;have rB:=hall.length;have oE:C9 (DR G) (O8 zero o' ds) (O8 us o' vs):=by
         unfold O8;rw [<-rB];exact((hz.take _).append hall).append (hz.drop _)
        obtain⟨us',eA,iO⟩:=Akm hm hf hc gA hp oE ((F5.mono (by intro k' aN;simp [aN])).trans hG)
        refine⟨us',?_,iO⟩;simp only [B6v,Instr.fill,lZ];have uR:(a.eval x).cells.size=vs.length:=by rw [eV];simp
        rw [B6j (by rw [uR];simp;omega)]
        rw [<-eA];congr 1;rw [<-B8w];rw [eV];have:=Ah1 o' vs 0 us.toArray (by simp;omega)
        have uS:vs.toArray.zipIdx=vs.zipIdx.toArray:=by rw [<-B8w,Array.toList_zipIdx]
        rw [uS,List.foldl_toArray];exact this
       ·simp at iN
      ·simp at hp
     ·simp at h
    ·simp at h
 |[],_::_,_,_,_,_,_,_,hc,_,_,_,_=>by simp [T2]at hc
 |_::_,[],_,_,_,_,_,_,hc,_,_,_,_=>by simp [T2]at hc
def T3 (P:Program)(t:TypeId):Nat->Option (Nat×Nat):=λ i=>match P.underlying t with
 |some (.struct fs)=>(fs[i]?).map λ f=>(f.offset,P.cellsOf f.type)
 |some (.array _ e)=>some (i*P.cellsOf e,P.cellsOf e)
 |_=>none
def Byj (P:Program)(t:TypeId):Bool:=match P.underlying t with
 |some (.struct fs)=>fs.toList.all λ f=>(P.info? f.type).isSome
 |some (.array _ e)=>(P.info? e).isSome
 |_=>false
def Bep (P:Program)(o:Oper)(zero:List D)(ps:List (Nat×Nat×J8)):Bool:=match o.op with
 | .build t parts=>Byj P t&&Ap4 P t (λ z=>Awm zero z.cells.toList)&&T2 (T3 P t) parts.toList ps
 |_=>false
theorem Akn {t:TypeId}{i:TypeInfo}(h:P.info? t=some i):(sizeOf t).run P w= .ok (P.cellsOf t) w:=by simp [sizeOf,typeInfo,h,Program.cellsOf]
theorem Ako (w:World):∀(fs:List Field),(∀f∈fs,(P.info? f.type).isSome=true)->(fs.mapM λ f=>do pure (f.offset,<-sizeOf f.type):Sem (List (Nat×Nat))).run P w= .ok (fs.map λ f=>(f.offset,P.cellsOf f.type)) w
 |[],_=>by simp
 |f::fs,h=>by
  obtain⟨i,hi⟩:=B8h.1 (h f (by simp))
  have ih:=Ako w fs (λ f hf=>h f (by simp [hf]))
  simp only [List.mapM_cons,Sem.run_bind,Akn hi,Result.andThen_ok,Sem.run_pure,ih,B6v]
theorem Bnp {zero cs:List D}{ps:List (Nat×Nat×J8)}{xs:List (Nat×List D)}{ks:List Nat}(hm:T0 B F ρ s.ob w)(hf:Fr F ρ s.ob s.fr a)(hc:Bep P o zero ps=true)(h1:s.parts ps=some (xs,ks))(h2:H1 zero xs=some cs):
  Abr P o a w (Aby B F w s.fr a (kill s ks).ob (.agg cs)):=by
 unfold Bep at hc;split at hc
 ·rename_i t parts aK;simp only [B6h]at hc;obtain⟨⟨dA,hz⟩,hparts⟩:=hc;obtain⟨i,z,hi,lR,rC⟩:=Acy hz;have nB:=Afj (F:=F5 F ρ s.ob ks w) rC;obtain⟨us,eA,hall⟩:=Akm hm hf hparts h1 h2 nB (.refl _);have iP:Instr.fill (T3 P t) z.cells (parts.toList.map λ p=>(p.1,a.eval p.2))=some us.toArray:=by simpa using eA
  refine C5 (w':=w) (u:= .agg us.toArray) ?_ ⟨F5 F ρ s.ob ks w,ρ,hm.kill,(hf.mono F5.le).sub (I3 ks s),⟨us,rfl,hall⟩,F5.le,.refl B w,λ _ _ h=>F5.new hm h⟩
  have jM:(Array.map (λ(p:Nat×Operand)=>(p.1,a.eval p.2)) parts).toList=parts.toList.map λ p=>(p.1,a.eval p.2):=by simp
  unfold Byj at dA;split at dA
  ·rename_i fs ht;have iN:(λ(i:Nat)=>(fs.toList.map λ f=>(f.offset,P.cellsOf f.type)).toArray[i]?)=T3 P t:=by
    funext i;simp [T3,ht]
   have dV:=Ako (P:=P) w fs.toList (B6q.1 dA);have aJ:(fs.mapM λ f=>do pure (f.offset,<-sizeOf f.type):Sem (Array (Nat×Nat))).run P w= .ok (fs.toList.map λ f=>(f.offset,P.cellsOf f.type)).toArray w:=by
    rw [Array.mapM_eq_mapM_toList,Sem.run_map,dV];rfl
   simp only [execOp,aK,Sem.run_bind,Instr.build,zeroValue,typeInfo,run_program,Result.andThen_ok,hi,Sem.run_pure,lR,run_underlying ht,aJ,iN,jM,iP]
  ·rename_i n e ht;obtain⟨ie,hie⟩:=B8h.1 dA;have iN:(λ(i:Nat)=>some (i*P.cellsOf e,P.cellsOf e))=T3 P t:=by
    funext i;simp [T3,ht]
   simp only [execOp,aK,Sem.run_bind,Instr.build,zeroValue,typeInfo,run_program,Result.andThen_ok,hi,Sem.run_pure,lR,run_underlying ht,Akn hie,iN,jM,iP]
  ·simp at dA
 ·simp at hc
theorem AR.one1 {x:AV}{v:Value}(h1:x.one=true)(h:AR F ρ s.ob x v):AR1 F ρ s.ob x v:=
 h.to1 (by cases x<;>simp_all [AV.one,AV.isD])
theorem C9.one1 :∀{cs:List AV}{vs:List Value},C9 (AR F ρ s.ob) cs vs->(∀c∈cs,c.one=true)->C9 (AR1 F ρ s.ob) cs vs
 |_,_,.nil,_=> .nil
 |_,_,.cons h r,hc=> .cons (AR.one1 (hc _ (by simp)) h) (C9.one1 r λ c h=>hc c (by simp [h]))
theorem Apj {place:Nat->Option (Nat×Nat)}(hf:Fr F ρ s.ob s.fr a):∀{xs:List (Nat×Operand)}{ys:List (Nat×Nat×J8)}{ps:List (Nat×List AV)}{zero cs:List AV}{us:List Value},
  T2 place xs ys=true->s.partsA ys=some ps->H1 zero ps=some cs->C9 (AR1 F ρ s.ob) zero us->(∀u∈us,u.oneCell'=true)->
  ∃us':List Value,Instr.fill place us.toArray (xs.map λ p=>(p.1,a.eval p.2))=some us'.toArray/\C9 (AR1 F ρ s.ob) cs us'/\∀u∈us',u.oneCell'=true
 |[],[],ps,zero,cs,us,_,h,hp,hz,ho=>by
  simp only [St.partsA,B6g]at h;subst h;simp only [H1,B6g]at hp;subst hp;exact⟨us,rfl,hz,ho⟩
 |(i,x)::xs,(off,sz,y)::ys,ps,zero,cs,us,hc,h,hp,hz,ho=>by
  simp only [T2,B6h]at hc;obtain⟨⟨iN,hx⟩,hc⟩:=hc;simp only [St.partsA]at h;split at h
  ·simp at h
  ·rename_i v hv;split at h
   ·rename_i ds ps' hd gA;split at h
    ·rename_i aF;simp only [B6g]at h;subst h;simp only [H1]at hp;split at hp
     ·rename_i cI;obtain⟨vs,eV,hall,hvo,cA,_⟩:=Ab7 hd (A2 hf hx hv);have hall:=C9.one1 hall cA;split at iN
      ·rename_i o' z' lZ;simp only [B6h,B62]at iN;obtain⟨rfl,rfl⟩:=iN;have kP:=hz.length;have rB:=hall.length;have oE:C9 (AR1 F ρ s.ob) (O8 zero o' ds) (O8 us o' vs):=by
        unfold O8;rw [<-rB];exact((hz.take _).append hall).append (hz.drop _)
       have hso:∀u∈O8 us o' vs,u.oneCell'=true:=by
        intro u hu;simp only [O8,B65]at hu;rcases hu with (hu|hu)|hu
        ·exact ho u (List.mem_of_mem_take hu)
        ·exact hvo u hu
        ·exact ho u (List.mem_of_mem_drop hu)
       obtain⟨us',eA,iO⟩:=Apj hf hc gA hp oE hso;refine⟨us',?_,iO⟩;simp only [B6v,Instr.fill,lZ];have uR:(a.eval x).cells.size=vs.length:=by rw [eV];simp
       rw [B6j (by rw [uR];simp;omega)]
       rw [<-eA];congr 1;rw [<-B8w];rw [eV];have:=Ah1 o' vs 0 us.toArray (by simp;omega)
       have uS:vs.toArray.zipIdx=vs.zipIdx.toArray:=by rw [<-B8w,Array.toList_zipIdx]
       rw [uS,List.foldl_toArray];exact this
      ·simp at iN
     ·simp at hp
    ·simp at h
   ·simp at h
 |[],_::_,_,_,_,_,hc,_,_,_,_=>by simp [T2]at hc
 |_::_,[],_,_,_,_,hc,_,_,_,_=>by simp [T2]at hc
def A56 (P:Program)(o:Oper)(zero:List AV)(ps:List (Nat×Nat×J8)):Bool:=match o.op with
 | .build t parts=>Byj P t&&Ap4 P t (λ z=>Bf0 zero z.cells.toList&&z.cells.toList.all Value.oneCell')&&T2 (T3 P t) parts.toList ps
 |_=>false
theorem Bh7 {zero cs:List AV}{ps:List (Nat×Nat×J8)}{xs:List (Nat×List AV)}(hm:T0 B F ρ s.ob w)(hf:Fr F ρ s.ob s.fr a)(hc:A56 P o zero ps=true)(h1:s.partsA ps=some xs)(h2:H1 zero xs=some cs):
  Abr P o a w (Aby B F w s.fr a s.ob (.ags cs)):=by
 unfold A56 at hc;split at hc
 ·rename_i t parts aK;simp only [B6h]at hc;obtain⟨⟨dA,hz⟩,hparts⟩:=hc;obtain⟨i,z,hi,lR,rC⟩:=Acy hz;simp only [B6h,B6q]at rC;obtain⟨g1,g2,_⟩:=Ah8 (F:=F) (ρ:=ρ) (ob:=s.ob) rC.1;obtain⟨us,eA,hall,cA⟩:=Apj hf hparts h1 h2 (C9.one1 g1 g2) rC.2;have iP:Instr.fill (T3 P t) z.cells (parts.toList.map λ p=>(p.1,a.eval p.2))=some us.toArray:=by simpa using eA
  refine C5 (w':=w) (u:= .agg us.toArray) ?_ ⟨F,ρ,hm,hf,⟨us,rfl,hall,cA⟩,.refl B F w⟩;have jM:(Array.map (λ(p:Nat×Operand)=>(p.1,a.eval p.2)) parts).toList=parts.toList.map λ p=>(p.1,a.eval p.2):=by simp
  unfold Byj at dA;split at dA
  ·rename_i fs ht;have iN:(λ(i:Nat)=>(fs.toList.map λ f=>(f.offset,P.cellsOf f.type)).toArray[i]?)=T3 P t:=by
    funext i;simp [T3,ht]
   have dV:=Ako (P:=P) w fs.toList (B6q.1 dA);have aJ:(fs.mapM λ f=>do pure (f.offset,<-sizeOf f.type):Sem (Array (Nat×Nat))).run P w= .ok (fs.toList.map λ f=>(f.offset,P.cellsOf f.type)).toArray w:=by
    rw [Array.mapM_eq_mapM_toList,Sem.run_map,dV];rfl
   simp only [execOp,aK,Sem.run_bind,Instr.build,zeroValue,typeInfo,run_program,Result.andThen_ok,hi,Sem.run_pure,lR,run_underlying ht,aJ,iN,jM,iP]
  ·rename_i n e ht;obtain⟨ie,hie⟩:=B8h.1 dA;have iN:(λ(i:Nat)=>some (i*P.cellsOf e,P.cellsOf e))=T3 P t:=by
    funext i;simp [T3,ht]
   simp only [execOp,aK,Sem.run_bind,Instr.build,zeroValue,typeInfo,run_program,Result.andThen_ok,hi,Sem.run_pure,lR,run_underlying ht,Akn hie,iN,jM,iP]
  ·simp at dA
 ·simp at hc
theorem Bnq {x:J8}{sz:Nat}{p:AV}{q:List D×List Nat}(hm:T0 B F ρ s.ob w)(hf:Fr F ρ s.ob s.fr a)(hc:Aqg P o x sz true=true)(h1:s.opd x=some p)(h:s.loadF p sz=some q):
  Abr P o a w (Aby B F w s.fr a (kill s q.2).ob (.agg q.1)):=by
 unfold Aqg at hc;split at hc
 ·rename_i t x' aK;simp only [B6h,B7n,B62]at hc;obtain⟨⟨⟨hx,aL⟩,dJ⟩,_⟩:=hc;have hr:=A2 hf hx h1;unfold St.loadF at h;split at h
  ·rename_i key row off;split at h
   ·simp at h
   ·rename_i ob aD;split at h
    ·simp at h
    ·rename_i r aM;split at h
     ·rename_i cI;split at h
      ·rename_i ds ks fT;simp only [B6m]at h;obtain⟨cs,aW,rfl⟩:=h;obtain⟨pl,hρ,hv⟩:=hr.2 ob aD;have pG:((r.drop off).take sz).length=sz:=by simp;omega
       have bV:∀(j:Nat)(y:AV),((r.drop off).take sz)[j]? =some y->∃u,w.cell? ⟨pl.g,pl.o+row*pl.sz+off+j,none⟩=some u/\AR F ρ s.ob y u:=by
        intro j y hy;have hj:j<sz:=by rw [<-pG];exact(B6n.1 hy).1
        rw [B77,B6l hj,B7x]at hy;obtain⟨u,hu,fH,_⟩:=hm.cell hr.1 aD hρ aM hy;grind [Nat.add_assoc]
       obtain⟨us,fI⟩:∃us:List Value,(List.range sz).map (λ j=>(w.cell? ⟨pl.g,pl.o+row*pl.sz+off+j,none⟩).getD undef)=us:=⟨_,rfl⟩
       have pH:us.length=sz:=by rw [<-fI];simp
       have hall:C9 (AR F ρ s.ob) ((r.drop off).take sz) us:=by
        grind [C9.of_get,List.getElem?_eq_some_iff]
       have dZ:=V4 hm fT hall;obtain⟨hl,aV⟩:=Ahh aW;have iO:C9 (DR (F5 F ρ s.ob ks w)) cs us:=by
        refine C9.of_get (by rw [<-hl,dZ.length]) λ j d hd=> ?_
        obtain⟨y,hy,hyd⟩:=aV j d hd;obtain⟨u,hu,mY⟩:=dZ.get? j y hy;grind [RR]
       refine C5 (w':=w) (u:= .agg us.toArray) ?_ ⟨F5 F ρ s.ob ks w,ρ,hm.kill,(hf.mono F5.le).sub (I3 ks s),⟨us,rfl,iO⟩,F5.le,.refl B w,λ _ _ h=>F5.new hm h⟩
       have jT:=run_loadCells_list (P:=P) w ⟨pl.g,pl.o+row*pl.sz+off,none⟩ us (by
        intro j y hj;have oZ:j<sz:=by rw [<-pH];exact(B6n.1 hj).1
        rw [<-fI]at hj;simp [oZ]at hj;subst hj;obtain⟨u,hu,_⟩:=bV j (((r.drop off).take sz)[j]'(by omega)) (B6w (by omega))
        rw [Addr.add_mk,hu];rfl)
       rw [pH]at jT;simp [execOp,aK,hv,Instr.loadAt,N5,loadVar,T1 dJ,X7 aL,jT]
      ·simp at h
     ·simp at h
  ·simp at h
 ·simp at hc
theorem An9 (sz:Nat):∀(n:Nat)(cs:List D),cs.length=n*sz->(Aas sz n cs).length=n/\(∀r∈Aas sz n cs,r.length=sz)/\∀(i:Nat)(r:List D)(j:Nat)(d:D),(Aas sz n cs)[i]? =some r->r[j]? =some d->cs[i*sz+j]? =some d/\j<sz/\i<n
 |0,cs,h=>by simp [Aas]
 |n+1,cs,h=>by
  have hl:sz<=cs.length:=by rw [h,B7z,B8z];omega
  obtain⟨h1,h2,h3⟩:=An9 sz n (cs.drop sz) (by rw [B70,h,B7z,B8z];omega)
  refine⟨by simp [Aas,h1],?_,?_⟩
  ·intro r hr;simp only [Aas,B6r]at hr;rcases hr with rfl|hr
   ·simp;omega
   ·exact h2 r hr
  ·intro i r j d hi hj;cases i with
   |zero=>
    simp [Aas]at hi;subst hi;rw [B77]at hj;split at hj
    ·rename_i oZ;exact⟨by simpa using hj,oZ,by omega⟩
    ·simp at hj
   |succ i=>
    simp [Aas]at hi;obtain⟨q1,q2,q3⟩:=h3 i r j d hi hj;rw [B7x]at q1;exact⟨by rw [B7z,B8z,show i*sz+sz+j=sz+(i*sz+j) by omega];exact q1,q2,by omega⟩
theorem A9g {R:D->Value->Prop}{zero:List D}{z:List Value}(h:C9 R zero z):∀n,C9 R (A9a zero n) (List.replicate n z).flatten
 |0=> .nil
 |n+1=>by simp only [A9a,List.replicate_succ,B9n];exact h.append (A9g h n)
theorem Ah9 {z:List Value}(hz:0<z.length):∀(n q:Nat),q<n*z.length->(List.replicate n z).flatten[q]? =z[q%z.length]?
 |0,q,h=>by simp at h
 |n+1,q,h=>by
  rw [List.replicate_succ,B9n];by_cases hq:q<z.length
  ·rw [B8k hq,B74 hq]
  ·rw [B73 (by omega),Ah9 hz n _ (by rw [B7z,B8z]at h;omega)]
   rw [<-Nat.mod_eq_sub_mod (by omega)]
def Au4 (P:Program)(o:Oper)(sz:Nat)(zero:List D)(n:Nat)(ps:List (Nat×Nat×J8)):Bool:=match o.op with
 | .buildSlice t n' parts=>n'==n&&Bup P t sz&&(match P.underlying t with|some (.slice e)=>Ap4 P e (λ z=>Awm zero z.cells.toList&&z.cells.size==sz)|_=>false)&&T2 (λ i=>some (i*sz,sz)) parts.toList ps&&
  decide (0<sz)&&decide (n*sz<=16777216)
 |_=>false
theorem Bf1 {sz n:Nat}{zero cs:List D}{ps:List (Nat×Nat×J8)}{xs:List (Nat×List D)}{ks:List Nat}(hm:T0 B F ρ s.ob w)(hf:Fr F ρ s.ob s.fr a)(hc:Au4 P o sz zero n ps=true)(h1:s.parts ps=some (xs,ks))(h2:H1 (A9a zero n) xs=some cs):
  ∃us e,C9 (DR (F5 F ρ s.ob ks w)) cs us/\cs.length=n*sz/\(execOp a.eval o).run P w= .ok (.value (.slice (some ⟨w.heap.size,0,none⟩) n n)) (w.alloc (.cells us.toArray e))/\∀key,Ac3 P o key=true->KT<=key->e+1=key/KT:=by
 unfold Au4 at hc;split at hc
 ·rename_i t n' parts aK;simp only [B6h,B6o,B62]at hc;obtain⟨⟨⟨⟨⟨rfl,dR⟩,hz⟩,hparts⟩,cB⟩,fL⟩:=hc;obtain⟨e,ti,ht,kC,aL⟩:=Ad5 dR;rw [ht]at hz;simp only at hz;obtain⟨i,z,hi,lR,rC⟩:=Acy hz;simp only [B6h,B62]at rC;obtain⟨rC,xD⟩:=rC;rw [kC]at hi;simp only [B6g]at hi;subst hi;have kP:z.cells.toList.length=sz:=by simpa using xD
  have nB:=A9g (Afj (F:=F5 F ρ s.ob ks w) rC) n';obtain⟨us,eA,hall⟩:=Akm hm hf hparts h1 h2 nB (.refl _);have aF:cs.length=n'*sz:=by
   have hp:∀(l:List (Nat×List D))(c c':List D),H1 c l=some c'->c'.length=c.length:=by
    intro l
    induction l with
    |nil=>intro c c' h;simp only [H1,B6g]at h;rw [h]
    |cons p l ih=>
     intro c c' h;obtain⟨off,ds⟩:=p;simp only [H1]at h;split at h
     ·rename_i cI;rw [ih _ _ h,Ami cI]
     ·simp at h
   rw [hp _ _ _ h2,nB.length];simp [kP]
  have iJ:((Array.range (n'*sz)).map (z.cells[· %z.cells.size]!))=((List.replicate n' z.cells.toList).flatten).toArray:=by
   rw [<-B8w];apply List.ext_getElem?;intro q;by_cases hq:q<n'*sz
   ·have hm:=Ah9 (z:=z.cells.toList) (by omega) n' q (by rw [kP];exact hq)
    have nL:q%z.cells.size<z.cells.size:=Nat.mod_lt _ (by omega)
    simp only [Array.toList_map,Array.toList_range,B7m,List.getElem?_range,hq,B7h];rw [hm,kP,<-xD,getElem!_pos z.cells _ nL];simp [nL]
   ·rw [List.getElem?_eq_none (by simp;omega),List.getElem?_eq_none (by simp [kP];omega)]
  have aJ:(Instr.buildSlice t n' (parts.map λ p=>(p.1,a.eval p.2))).run P w= .ok (.slice (some ⟨w.heap.size,0,none⟩) n' n') (w.alloc (.cells us.toArray e)):=by
   have jM:(Array.map (λ(p:Nat×Operand)=>(p.1,a.eval p.2)) parts).toList=parts.toList.map λ p=>(p.1,a.eval p.2):=by simp
   have hnb:¬(2^24<n'*sz):=by omega
   have xE:(sizeOf e).run P w= .ok sz w:=by simp [sizeOf,typeInfo,kC,aL]
   by_cases h0:n'*sz=0
   ·have fI:us=[]:=B66 (by rw [<-hall.length,aF,h0])
    have jI:n'=0:=by
     rcases Nat.eq_zero_or_pos n' with h|h
     ·exact h
     ·have:=Nat.mul_pos h cB;omega
    subst jI;have eU:(List.replicate 0 z.cells.toList).flatten.toArray= #[]:=rfl;rw [eU]at eA;simp [Instr.buildSlice,run_underlying ht,xE,newRow,Array.range_zero',eA]
   ·simp [Instr.buildSlice,run_underlying ht,xE,hnb,h0,zeroValue,typeInfo,kC,lR,newRow];rw [iJ,eA];rfl
  exact⟨us,e,hall,aF,by simp only [execOp,aK,Sem.run_bind,aJ,Result.andThen_ok,Sem.run_pure],λ key hT=>by simp only [Ac3,aK,ht]at hT;exact Ahi (o:=o) hT rfl⟩
 ·simp at hc
theorem Bnr {sz n:Nat}{zero cs:List D}{ps:List (Nat×Nat×J8)}{xs:List (Nat×List D)}{ks:List Nat}(hm:T0 B F ρ s.ob w)(hf:Fr F ρ s.ob s.fr a)(hc:Au4 P o sz zero n ps=true)(h1:s.parts ps=some (xs,ks))(h2:H1 (A9a zero n) xs=some cs):
  Abr P o a w (Aby B F w s.fr a (kill s ks).ob (.c (.vs sz (Aas sz n cs)))):=by
 obtain⟨us,e,hall,aF,aJ,_⟩:=Bf1 hm hf hc h1 h2;obtain⟨r1,r2,r3⟩:=An9 sz n cs aF;have dE:Below w.heap.size w (w.alloc (.cells us.toArray e)):=(Below.refl _ _).alloc (B6u _) _
 let F2:A8:=λ ad u=>F5 F ρ s.ob ks w ad u\/(ad.block=w.heap.size/\(w.alloc (.cells us.toArray e)).cell? ad=some u)
 have mA:(F5 F ρ s.ob ks w).le F2:=λ _ _ h=> .inl h
 have cC:=(hm.kill (ks:=ks)).below dE;have bX:T0 B F2 ρ (kill s ks).ob (w.alloc (.cells us.toArray e)):={
  facts:=⟨λ ad u hu=>hu.elim (cC.facts ad u) (·.2),cC.facts.glob.mono mA⟩
  big:=cC.big
  bare:=cC.bare
  own:=λ k o p g1 g2=>by
   obtain⟨q1,q2⟩:=cC.own k o p g1 g2;exact⟨q1,q2.imp λ r hr x hx v hv=>hv.mono mA⟩
  apart:=λ k o p g1 g2 ad v hv=>by
   rcases hv with hv|⟨hv,_⟩
   ·exact cC.apart k o p g1 g2 ad v hv
   ·have:=hm.lt (I3 ks s k o g1) g2;omega
  inj:=cC.inj}
 refine C5 (w':=w.alloc (.cells us.toArray e)) (u:= .slice (some ⟨w.heap.size,0,none⟩) n n) ?_ ⟨F2,ρ,bX,((hf.mono (F5.le.trans mA)).sub (I3 ks s)),?_,F5.le.trans mA,(Bel.refl _ _).alloc hm.big _,λ ad v hv=> ?_⟩
 ·exact aJ
 ·have key:=DR.vs (F:=F2) sz (Aas sz n cs) (some ⟨w.heap.size,0,none⟩) n ⟨w.heap.size,0,none⟩ (λ i j=>us.getD (i*sz+j) undef) (by rw [r1];exact B6u _) (λ _=>rfl) r2
   (λ i r j x hi hj=>by
    obtain⟨q1,_,_⟩:=r3 i r j x hi hj;obtain⟨u,hu,_⟩:=hall.get? _ _ q1;refine .inr ⟨by rw [Addr.add_mk],?_⟩
    rw [Addr.add_mk,World.cell?_alloc_new];simp [hu])
   (λ i r j x hi hj=>by
    obtain⟨q1,_,_⟩:=r3 i r j x hi hj;obtain⟨u,hu,hd⟩:=hall.get? _ _ q1;simp only [B8n,hu,Option.getD_some];exact hd.mono mA)
  rw [r1]at key;exact key
 ·rcases hv with hv|⟨hv,_⟩
  ·exact F5.new hm hv
  ·exact .inr (by rw [hv];exact hm.big.self)
theorem Bns {key sz n:Nat}{zero cs:List D}{ps:List (Nat×Nat×J8)}{xs:List (Nat×List D)}{ks:List Nat}(hK:key<MK)(hTy:Ac3 P o key=true)(hm:T0 B F ρ s.ob w)(hf:Fr F ρ s.ob s.fr a)(hc:Au4 P o sz zero n ps=true)(h1:s.parts ps=some (xs,ks))(h2:H1 (A9a zero n) xs=some cs)
  (aG:(kill s ks).free key=true):Abr P o a w (Aby B F w s.fr a ((kill s ks).obj key ⟨sz,(Aas sz n cs).map A4⟩).ob (.sl key n 0 n)):=by
 obtain⟨us,e,hall,aF,aJ,hety⟩:=Bf1 hm hf hc h1 h2;obtain⟨r1,r2,r3⟩:=An9 sz n cs aF;have cC:=hm.kill (ks:=ks);have rA:Fr (F5 F ρ s.ob ks w) ρ (kill s ks).ob (kill s ks).fr a:=by rw [Q3];exact(hf.mono F5.le).sub (I3 ks s)
 obtain⟨hT,qZ⟩:=S5 (F:=F5 F ρ s.ob ks w) (ρ:=ρ) (a:=a) (s:=kill s ks) (o':=⟨sz,(Aas sz n cs).map A4⟩) (p':=some ⟨w.heap.size,sz,n,0⟩) aG;have hF3:=qZ rA;rw [Q3]at hF3;refine C5 (w':=w.alloc (.cells us.toArray e)) (u:= .slice (some ⟨w.heap.size,0,none⟩) n n) aJ ⟨F5 F ρ s.ob ks w,K0 ρ key (some ⟨w.heap.size,sz,n,0⟩),?_,hF3,A19 hK (p:=⟨w.heap.size,sz,n,0⟩) (by simp [r1]) N9 (E6 _ _) (B6u _),F5.le,(Bel.refl _ _).alloc hm.big _,λ ad v hv=>F5.new hm hv⟩
 refine T0.change0 (et:=e) hK (hety key hTy) cC hm.big.self (.inr (B6u _)) (by simp) (λ k hk _=>Below.heap_alloc w _ k hk) (heap_alloc_new w _) (by simp [<-hall.length,aF]) (by simp [r1]) rfl (λ r hr=> ?_) hT ?_
 ·obtain⟨r',bU,rfl⟩:=B6z.1 hr;simp [A4,r2 r' bU]
 ·intro i r j x hi hj;simp only [B7m,B6m]at hi;obtain⟨r',bU,rfl⟩:=hi;simp only [A4,B7m,B6m]at hj;obtain⟨d,hd,rfl⟩:=hj;obtain⟨q1,_,_⟩:=r3 i r' j d bU hd;obtain⟨u,hu,gU⟩:=hall.get? _ _ q1;exact⟨rfl,u,by simpa using hu,gU⟩
end
end Go.Am
namespace Go.Am
open Go.RowKit
section
variable {P : Program} {B : Bd} {F : A8} {ρ : Map} {s : St} {a : Go.Act} {w w' : World} {o : Oper}
theorem A70 {x:AV}{u:Value}(h1:x.one=true)(hl:(s.cellsOf x).isSome=true)(h:AR F ρ s.ob x u):u.oneCell'=true:=by
 have h:=AR.one1 h1 h;cases x<;>simp only [AV.one,B6p]at h1<;>simp only [St.cellsOf]at hl<;>simp only [AR1]at h
 case c d=>exact DR.one h
 case nil=>subst h;rfl
 case sl k v st n=>
  split at hl
  ·rename_i o' ho;split at hl
   ·rename_i hc;have:=(h.2 o' ho).2 hc.1 hc.2;unfold SlR at this;split at this
    ·rw [this.2];rfl
    ·obtain⟨_,a',rfl,_⟩:=this;rfl
   ·simp at hl
  ·simp at hl
 case loc k r f=>
  simp only [Option.isSome_map,B8h]at hl;obtain⟨o',ho⟩:=hl;obtain⟨p,_,rfl⟩:=h.2 o' ho;rfl
 case ot x=>exact(Oth.one h).1
 case mp k=>
  simp only [Option.isSome_map,B8h]at hl;obtain⟨o',ho⟩:=hl;obtain⟨p,_,rfl⟩:=h.2.2 o' ho;rfl
theorem Bnt {x:J8}{sz:Nat}{p:AV}{cs:List AV}(hm:T0 B F ρ s.ob w)(hf:Fr F ρ s.ob s.fr a)(hc:Aqg P o x sz true=true)(h1:s.opd x=some p)(h:s.loadA p sz=some cs):
  Abr P o a w (Aby B F w s.fr a s.ob (.ags cs)):=by
 unfold Aqg at hc;split at hc
 ·rename_i t x' aK;simp only [B6h,B7n,B62]at hc;obtain⟨⟨⟨hx,aL⟩,dJ⟩,_⟩:=hc;have hr:=A2 hf hx h1;unfold St.loadA at h;split at h
  ·rename_i key row off;split at h
   ·simp at h
   ·rename_i ob aD;split at h
    ·simp at h
    ·rename_i r aM;split at h
     ·rename_i cI;obtain⟨cI,tM⟩:=cI;simp only [B6g]at h;subst h;rw [B6q]at tM;obtain⟨pl,hρ,hv⟩:=hr.2 ob aD;have pG:((r.drop off).take sz).length=sz:=by simp;omega
      have bV:∀(j:Nat)(y:AV),((r.drop off).take sz)[j]? =some y->∃u,w.cell? ⟨pl.g,pl.o+row*pl.sz+off+j,none⟩=some u/\AR1 F ρ s.ob y u/\u.oneCell'=true:=by
       intro j y hy;have hl:=tM y (B6t hy);have hj:j<sz:=by rw [<-pG];exact(B6n.1 hy).1
       rw [B77,B6l hj,B7x]at hy;obtain⟨u,hu,fH,cA⟩:=hm.cell hr.1 aD hρ aM hy;grind [Nat.add_assoc,AR.one1,A70]
      obtain⟨us,fI⟩:∃us:List Value,(List.range sz).map (λ j=>(w.cell? ⟨pl.g,pl.o+row*pl.sz+off+j,none⟩).getD undef)=us:=⟨_,rfl⟩
      have pH:us.length=sz:=by rw [<-fI];simp
      have hall:C9 (AR1 F ρ s.ob) ((r.drop off).take sz) us:=by
       grind [C9.of_get,List.getElem?_eq_some_iff]
      have cA:∀u∈us,u.oneCell'=true:=by
       intro u hu;obtain⟨j,hj,rfl⟩:=List.getElem_of_mem hu;obtain⟨v,hv,_,h1⟩:=bV j (((r.drop off).take sz)[j]'(by omega)) (B6w (by omega))
       grind [List.getElem?_eq_getElem]
      refine C5 (w':=w) (u:= .agg us.toArray) ?_ ⟨F,ρ,hm,hf,⟨us,rfl,hall,cA⟩,.refl B F w⟩;have jT:=run_loadCells_list (P:=P) w ⟨pl.g,pl.o+row*pl.sz+off,none⟩ us (by
       intro j y hj;have oZ:j<sz:=by rw [<-pH];exact(B6n.1 hj).1
       rw [<-fI]at hj;simp [oZ]at hj;subst hj;obtain⟨u,hu,_⟩:=bV j (((r.drop off).take sz)[j]'(by omega)) (B6w (by omega))
       rw [Addr.add_mk,hu];rfl)
      rw [pH]at jT;simp [execOp,aK,hv,Instr.loadAt,N5,loadVar,T1 dJ,X7 aL,jT]
     ·simp at h
  ·simp at h
 ·simp at hc
end
end Go.Am
namespace Go.Am
open Go.RowKit
section
variable {P : Program} {B : Bd} {F F' : A8} {ρ ρ' : Map} {s : St} {a : Go.Act} {w w' : World} {o : Oper} {ob aA : OL}
def Beq (P:Program)(o:Oper)(l:Bool)(x y:J8):Bool:=match o.op with
 | .binOp op _ x' y' _=>(match op with| .shl=>l| .shr=> !l|_=>false)&&M3 x' x&&M3 y' y
 |_=>false
theorem Bnu {l:Bool}{x y:J8}{k k':IntKind}{m n:Int}{d:D}(hf:Fr F ρ s.ob s.fr a)(hc:Beq P o l x y=true)(h1:s.opd x=some (.c (.int k m)))(h2:s.opd y=some (.c (.int k' n)))(h:Byc l k m n=some d):Ac5 P o a w F ρ s (.c d):=by
 unfold Beq at hc;split at hc
 ·rename_i op t x' y' t' aK;simp only [B6h]at hc;obtain⟨⟨hl,hx⟩,hy⟩:=hc;have e1:=DR.int_ (A2 hf hx h1);have e2:=DR.int_ (A2 hf hy h2);unfold Byc at h;split at h
  ·simp at h
  ·rename_i hn;simp only [B6g]at h;subst h;refine F4 (u:= .int k (if l then k.wrap (m*2^(min n.toNat k.bits))else m.fdiv (2^(min n.toNat k.bits)))) ?_ (.int _ _)
   split at hl
   ·subst hl;simp [execOp,aK,e1,e2,eqGuard,binOp,Op.shift,hn]
   ·simp only [B7b]at hl;subst hl;simp [execOp,aK,e1,e2,eqGuard,binOp,Op.shift,hn]
   ·simp at hl
 ·simp at hc
def Ber :Nat->Operand->Bool
 |0,.const (.pointer none)=>true
 |1,.const (.map none)=>true
 |2,.const (.slice none 0 0)=>true
 |_,_=>false
def Bl6 (P:Program)(t:TypeId):Nat->Bool
 |0=>match P.underlying t with|some (.pointer e)=>(P.info? e).isSome|_=>false
 |1=>match P.underlying t with|some (.map _ _)=>true|_=>false
 |2=>match P.underlying t with|some (.slice _)=>true|_=>false
 |_=>false
def Bes (P:Program)(o:Oper)(k:Nat)(neg:Bool)(x:J8):Bool:=match o.op with
 | .binOp op t x' y' _=>Brn op neg&&Bl6 P t k&&M3 x' x&&Ber k y'
 |_=>false
theorem A71 {k:Nat}{y:Operand}(h:Ber k y=true):(k=0->a.eval y= .pointer none)/\(k=1->a.eval y= .map none)/\(k=2->a.eval y= .slice none 0 0):=by
 unfold Ber at h;split at h
 ·exact⟨λ _=>rfl,λ h=>by omega,λ h=>by omega⟩
 ·exact⟨λ h=>by omega,λ _=>rfl,λ h=>by omega⟩
 ·exact⟨λ h=>by omega,λ h=>by omega,λ _=>rfl⟩
 ·simp at h
theorem Ayu {t:TypeId}{u v:Value}{r:Bool}(h:∀d,(Op.equalIn (d+1) t u v).run P w= .ok r w):(Op.equal t u v).run P w= .ok r w:=by
 simp only [Op.equal,Op.maxDepth];exact h 9999
theorem Bnv {k:Nat}{neg b:Bool}{x:J8}{v:AV}(hf:Fr F ρ s.ob s.fr a)(hc:Bes P o k neg x=true)(h1:s.opd x=some v)(h:An3 s k v=some b):Ac5 P o a w F ρ s (.c (.bool (if neg then !b else b))):=by
 unfold Bes at hc;split at hc
 ·rename_i op t x' y' t' aK;simp only [B6h]at hc;obtain⟨⟨⟨heq,href⟩,hx⟩,hn⟩:=hc;have hr:=A2 hf hx h1;refine F4 (u:= .bool (if neg then !b else b)) ?_ (.bool _)
  have hE:∀(u n:Value),a.eval x'=u->a.eval y'=n->(∀op,(eqGuard op t x' y' u n).run P w= .ok () w)->(binOp .eql t u n=(do let r <-Op.equal t u n;pure (.bool r)))->(binOp .neq t u n=(do let r <-Op.equal t u n;pure (.bool (!r))))->(Op.equal t u n).run P w= .ok b w->
    (execOp a.eval o).run P w= .ok (.value (.bool (if neg then !b else b))) w:=by
   intro u n hu hnv hg hb iB he;unfold Brn at heq;split at heq
   ·simp [execOp,aK,hu,hnv,hg,hb,he]
   ·simp [execOp,aK,hu,hnv,hg,iB,he]
   ·simp at heq
  have hE0:∀(u:Value)(j:TypeId),P.underlying t=some (.pointer j)->a.eval x'=u->a.eval y'= .pointer none->(∃q,u= .pointer q/\b=q.isNone)->(execOp a.eval o).run P w= .ok (.value (.bool (if neg then !b else b))) w:=by
   rintro u j ht hu hy ⟨q,rfl,rfl⟩;refine hE _ _ hu hy (λ op=> ?_) rfl rfl ?_
   ·unfold eqGuard;split<;>simp
   ·refine Ayu λ d=> ?_
    cases q<;>simp [Op.equalIn,run_underlying ht]
  have hE1:∀(u:Value)(i j:TypeId),P.underlying t=some (.map i j)->a.eval x'=u->a.eval y'= .map none->(∃q,u= .map q/\b=q.isNone)->(execOp a.eval o).run P w= .ok (.value (.bool (if neg then !b else b))) w:=by
   rintro u i j ht hu hy ⟨q,rfl,rfl⟩;refine hE _ _ hu hy (λ op=> ?_) rfl rfl ?_
   ·unfold eqGuard;split<;>simp
   ·refine Ayu λ d=> ?_
    cases q<;>simp [Op.equalIn,run_underlying ht]
  have hE2:∀(u:Value)(j:TypeId),P.underlying t=some (.slice j)->a.eval x'=u->a.eval y'= .slice none 0 0->(∃q m c,u= .slice q m c/\b=q.isNone)->(execOp a.eval o).run P w= .ok (.value (.bool (if neg then !b else b))) w:=by
   rintro u j ht hu hy ⟨q,m,c,rfl,rfl⟩;refine hE _ _ hu hy (λ op=> ?_) rfl rfl ?_
   ·unfold eqGuard;split<;>simp
   ·refine Ayu λ d=> ?_
    cases q<;>simp [Op.equalIn,run_underlying ht]
  obtain⟨n0,n1,n2⟩:=A71 (a:=a) hn;have hy0:k=0->a.eval y'= .pointer none/\∃j,P.underlying t=some (.pointer j):=by
   grind [Bl6]
  have tN:k=1->a.eval y'= .map none/\∃i j,P.underlying t=some (.map i j):=by
   grind [Bl6]
  have rY:k=2->a.eval y'= .slice none 0 0/\∃j,P.underlying t=some (.slice j):=by
   grind [Bl6]
  unfold An3 at h;split at h
  ·obtain⟨q1,j,q2⟩:=hy0 rfl;simp only [B6g]at h;subst h;exact hE0 _ j q2 rfl q1 ⟨none,hr,rfl⟩
  ·obtain⟨q1,i,j,q2⟩:=tN rfl;simp only [B6g]at h;subst h;exact hE1 _ i j q2 rfl q1 ⟨none,hr,rfl⟩
  ·obtain⟨q1,j,q2⟩:=hy0 rfl;simp only [B6m]at h;obtain⟨o0,ho,rfl⟩:=h;obtain⟨p,_,hv⟩:=hr.2 o0 ho;exact hE0 _ j q2 rfl q1 ⟨_,hv,rfl⟩
  ·obtain⟨q1,i,j,q2⟩:=tN rfl;simp only [B6m]at h;obtain⟨o0,ho,rfl⟩:=h;obtain⟨p,_,hv⟩:=hr.2.2 o0 ho;exact hE1 _ i j q2 rfl q1 ⟨_,hv,rfl⟩
  ·obtain⟨q1,j,q2⟩:=rY rfl;simp only [B6g]at h;subst h;rename_i sz r rows;have hr:DR F (.vs sz (r::rows)) (a.eval x'):=hr;generalize hv:a.eval x'=v at hr;cases hr with
   |vs _ _ y cap ad u bM ha _ _ _=>exact hE2 _ j q2 hv q1 ⟨some ad,_,_,by rw [ha (by simp)],rfl⟩
  ·obtain⟨q1,j,q2⟩:=rY rfl;split at h
   ·rename_i o0 ho;split at h
    ·rename_i aI;simp only [B6g]at h;subst h;have hs:=(hr.2 o0 ho).2 aI.1 aI.2.2;grind [SlR]
    ·simp at h
   ·simp at h
  ·obtain⟨q1,j,q2⟩:=rY rfl;simp only [B6g]at h;subst h;exact hE2 _ j q2 rfl q1 ⟨none,0,0,hr,rfl⟩
  ·obtain⟨q1,j,q2⟩:=rY rfl;simp only [B6g]at h;subst h;rename_i sz;have hr:DR F (.nil sz) (a.eval x'):=hr;generalize hv:a.eval x'=v at hr;cases hr with
   |nil=>exact hE2 _ j q2 hv q1 ⟨none,0,0,rfl,rfl⟩
  ·simp at h
 ·simp at hc
def Ab8 (P:Program)(t:TypeId):Bool:=match P.underlying t with|some (.int _)|some .string|some .bool=>true|_=>false
def Aee (P:Program)(t:TypeId)(ks:KK):Bool:=decide (Abx P 8 t=some ks.2)&&Aa0 P t==ks.1&&(Ab8 P t||(match P.underlying t with|some (.struct fs)=>fs.toList.all (λ f=>f.name != "_" &&Ab8 P f.type&&Abw P f.type 1)|_=>false))
theorem Amj {t:TypeId}(h:Ab8 P t=true)(em:Bool)(n:Nat){d:D}{v:Value}(hd:DR F d v)(w:World):(Instr.checkKey em (n+1) t v).run P w= .ok () w:=by
 unfold Ab8 at h;split at h
 ·rename_i k hk;unfold Instr.checkKey;cases hd<;>simp [run_underlying hk]
 ·rename_i hk;unfold Instr.checkKey;cases hd<;>simp [run_underlying hk]
 ·rename_i hk;unfold Instr.checkKey;cases hd<;>simp [run_underlying hk]
 ·simp at h
def AV.kcells :AV->List D
 | .c d=>[d]
 | .agg ds=>ds
 |_=>[]
theorem Awv {t:TypeId}{ks:KK}(hk:Aee P t ks=true){x:AV}{v:Value}(hx:kOk ks x=true)(hr:AR F ρ ob x v):∃vs,C9 (DR F) x.kcells vs/\v=Ac2 P t vs/\x.kcells.length=ks.2.length/\L9 ks.2 x.kcells x.kcells≠none:=by
 simp only [Aee,B6h,B62]at hk;obtain⟨⟨_,dJ⟩,_⟩:=hk;unfold kOk As5 at hx;split at hx
 ·rename_i d;split at hx
  ·simp at hx
  ·rename_i hf;have dJ:Aa0 P t=false:=by rw [dJ];simpa using hf
   rw [B8h]at hx;obtain⟨b,hb⟩:=hx;refine⟨[v],.cons hr .nil,by simp [Ac2,dJ],(L4 hb).1,by simp [AV.kcells,hb]⟩
 ·rename_i ds;split at hx
  ·rename_i hf;have dJ:Aa0 P t=true:=by rw [dJ];exact hf
   rw [B8h]at hx;obtain⟨b,hb⟩:=hx;obtain⟨vs,rfl,eV⟩:=hr;grind [Ac2,L4,AV.kcells]
  ·simp at hx
 ·simp at hx
theorem A4g {n:Nat}{t:TypeId}{ks:List Kd}{fs:Array Field}(h:Abx P (n+1) t=some ks)(ht:P.underlying t=some (.struct fs)):Abx.kindsF (λ u=>match Abx P n u with
    |some ks=>if Abw P u ks.length&& !ks.isEmpty then some ks else none
    |none=>none) fs.toList 0=some ks:=by
 rw [Abx]at h;rw [ht]at h;simp only at h;split at h
 ·simp at h
 ·exact h
theorem Q9 {t:TypeId}{ks:KK}(hk:Aee P t ks=true){x:AV}{v:Value}(hx:kOk ks x=true)(hr:AR F ρ ob x v)(em:Bool)(w:World):(Instr.checkKey em 10000 t v).run P w= .ok () w:=by
 obtain⟨vs,eV,rfl,aF,_⟩:=Awv hk hx hr;simp only [Aee,B6h,B62,B6o,B7n]at hk;obtain⟨⟨xF,dJ⟩,dM⟩:=hk;rcases dM with dM|dM
 ·have ha:Aa0 P t=false:=by
   unfold Ab8 at dM;split at dM
   all_goals first|(rename_i h;simp [Aa0,h];done)|(rename_i k h;simp [Aa0,h];done)|simp at dM
  have h1:=(Asc xF).2 ha;rw [h1]at aF
  match hc:x.kcells,vs,eV,aF with
  |[d],[v],.cons hd .nil,_=>
   simp only [Ac2,ha,B6p,B7d,List.getD_cons_zero];exact Amj dM em 9999 hd w
 ·split at dM
  ·rename_i fs ht;have ha:Aa0 P t=true:=by simp [Aa0,ht]
   simp only [Ac2,ha,B68];have hkd':=A4g (n:=7) xF ht;have oY:∀(L:List Field)(off:Nat)(bE:List Kd)(g:TypeId->Option (List Kd)),(∀u k,g u=some k->Abw P u 1=true->k.length=1)->Abx.kindsF g L off=some bE->(∀f∈L,Abw P f.type 1=true)->off+bE.length=vs.length->∀f∈L,f.offset<vs.length:=by
    intro L
    induction L with
    |nil=>intro off bE g _ _ _ _ f hf;simp at hf
    |cons f0 L ih=>
     intro off bE g hg bG hs hl f hf;simp only [Abx.kindsF]at bG;split at bG
     ·rename_i aI;simp only [B6h,B62]at aI;split at bG
      ·rename_i k1 dK;simp only [B6m]at bG;obtain⟨k2,cG,rfl⟩:=bG;have h1:=hg _ _ dK (hs f0 (by simp))
       rw [B67,h1]at hl;rcases B6r.1 hf with rfl|hf
       ·rw [aI.2];omega
       ·exact ih (off+k1.length) k2 g hg cG (λ f hf=>hs f (by simp [hf])) (by rw [h1];omega) f hf
      ·simp at bG
     ·simp at bG
   have hlv:=eV.length;have aP:=oY fs.toList 0 ks.2 _ (λ u k hu hs=>by
    split at hu
    ·rename_i k' aN;split at hu
     ·rename_i hc;simp only [B6g]at hu;subst hu;simp only [B6h]at hc;obtain⟨i1,h1,h2⟩:=Ah6 hc.1;obtain⟨i2,h3,h4⟩:=Ah6 hs;rw [h1]at h3;simp only [B6g]at h3;subst h3;omega
     ·simp at hu
    ·simp at hu) hkd' (λ f hf=>by
     have:=B6q.1 dM f hf;simp only [B6h]at this;exact this.2) (by omega)
   rw [show (10000:Nat)=9999+1 from rfl,Instr.checkKey]
   simp only [Sem.run_bind,run_underlying ht,Result.andThen_ok];rw [<-Array.forIn_toList];have deep:∀f∈fs.toList,f.name≠ "_" /\Ab8 P f.type=true/\f.offset<vs.length:=λ f hf=>by
    have:=B6q.1 dM f hf;simp only [B6h,bne_iff_ne,ne_eq]at this;exact⟨this.1.1,this.1.2,aP f hf⟩
   generalize fs.toList=L at deep
   induction L with
   |nil=>simp
   |cons f L ih=>
    obtain⟨hn,hp,ho⟩:=deep f (by simp)
    have hf0:Aa0 P f.type=false:=by
     unfold Ab8 at hp;split at hp
     all_goals first|(rename_i h;simp [Aa0,h];done)|(rename_i k h;simp [Aa0,h];done)|simp at hp
    have xG:(Go.part f.type vs.toArray f.offset).run P w= .ok (vs[f.offset]) w:=by
     have hs:Avh P f.type false=true:=by
      simp only [Avh,B6p,B7d,A6v];unfold Ab8 at hp;split at hp<;>simp_all
     unfold Go.part;simp only [Sem.run_bind,T1 hs,Result.andThen_ok,B6p,B7d];have:vs.toArray[f.offset]? =some vs[f.offset]:=by simp [ho]
     rw [this];simp
    have fP:f.offset<x.kcells.length:=by omega
    obtain⟨u,hu,hd⟩:=eV.get? f.offset (x.kcells[f.offset]) (B6w fP);have qY:vs[f.offset]=u:=by
     rw [B6w ho]at hu;simpa using hu
    have bI:=Amj hp em 9998 hd w;simp only [List.forIn_cons,Sem.run_bind,hn,ne_eq,not_false_eq_true,B68,Result.andThen_ok,xG,qY,bI,Sem.run_pure];exact ih (λ y hy=>deep y (by simp [hy]))
  ·simp at dM
theorem DR.flat_eq {d:D}{u v:Value}{k:Kd}{x:D}{b:Bool}(h:eqK k d x=some b)(h1:DR F d u)(h2:DR F d v):u=v:=by
 cases k<;>cases d<;>cases x<;>simp only [eqK,reduceCtorEq]at h<;>cases h1<;>cases h2<;>rfl
theorem Bnw {k:Kd}{x y:D}(h:eqK k x y=some true):x=y:=by
 cases k<;>cases x<;>cases y<;>simp only [eqK,reduceCtorEq]at h
 all_goals grind
theorem Asi :∀{ks:List Kd}{xs ys:List D},L9 ks xs ys=some true->xs=ys
 |[],[],[],_=>rfl
 |k::ks,x::xs,y::ys,h=>by
  simp only [L9]at h;split at h
  ·rename_i p q hp hq;simp only [B6g,B6h]at h;obtain⟨rfl,rfl⟩:=h;rw [Bnw hp,Asi hq]
  ·simp at h
 |[],[],_::_,h=>by simp [L9]at h
 |[],_::_,_,h=>by simp [L9]at h
 |_::_,[],_,h=>by simp [L9]at h
 |_::_,_::_,[],h=>by simp [L9]at h
theorem Bf2 :∀{ks:List Kd}{xs ys:List D}{b:Bool}{us vs:List Value},L9 ks xs ys=some b->C9 (DR F) xs us->C9 (DR F) xs vs->us=vs
 |[],[],_,_,us,vs,_,h1,h2=>by cases h1;cases h2;rfl
 |k::ks,x::xs,y::ys,b,us,vs,h,h1,h2=>by
  simp only [L9]at h;split at h
  ·rename_i p q hp hq;cases h1 with
   |cons a1 b1=>cases h2 with
    |cons a2 b2=>rw [DR.flat_eq hp a1 a2,Bf2 hq b1 b2]
  ·simp at h
 |[],_::_,ys,_,_,_,h,_,_=>by cases ys<;>simp [L9]at h
 |_::_,[],_,_,_,_,h,_,_=>by simp [L9]at h
 |_::_,_::_,[],_,_,_,h,_,_=>by simp [L9]at h
theorem Aww {ks:KK}{x y:AV}{b:Bool}(h:As5 ks x y=some b):L9 ks.2 x.kcells y.kcells=some b/\(b=true->x=y):=by
 unfold As5 at h;split at h
 ·split at h
  ·simp at h
  ·exact⟨h,λ hb=>by subst hb;have:=Asi h;simp at this;rw [this]⟩
 ·split at h
  ·exact⟨h,λ hb=>by subst hb;rw [Asi h]⟩
  ·simp at h
 ·simp at h
theorem Bnx {t:TypeId}{ks:KK}(hk:Aee P t ks=true){x:AV}{u v:Value}(hx:kOk ks x=true)(h1:AR F ρ ob x u)(h2:AR F ρ ob x v):u=v:=by
 obtain⟨us,a1,rfl,_,aH⟩:=Awv hk hx h1;obtain⟨vs,a2,rfl,_,_⟩:=Awv hk hx h2;cases he:L9 ks.2 x.kcells x.kcells with
 |none=>exact(aH he).elim
 |some b=>rw [Bf2 he a1 a2]
theorem A2x {t:TypeId}{ks:KK}(hk:Aee P t ks=true){x y:AV}{u v:Value}{b:Bool}(hx:kOk ks x=true)(hy:∃us,C9 (DR F) y.kcells us/\v=Ac2 P t us)(h:As5 ks x y=some b)(h1:AR F ρ ob x u)(w:World):
  (Op.equal t u v).run P w= .ok b w:=by
 obtain⟨us,a1,rfl,_,_⟩:=Awv hk hx h1;obtain⟨vs,a2,rfl⟩:=hy;simp only [Aee,B6h,B6o]at hk;have:=As7 (F:=F) 8 t ks.2 9992 hk.1.1 x.kcells y.kcells us vs b w a1 a2 (Aww h).1;exact this
theorem A2y {t:TypeId}{ks:KK}(hk:Aee P t ks=true){x y:AV}{v:Value}{b:Bool}(h:As5 ks x y=some b)(hr:AR F ρ ob y v):∃us,C9 (DR F) y.kcells us/\v=Ac2 P t us:=by
 simp only [Aee,B6h,B62]at hk;unfold As5 at h;split at h
 ·split at h
  ·simp at h
  ·rename_i hf;exact⟨[v],.cons hr .nil,by simp [Ac2,hk.1.2,hf]⟩
 ·split at h
  ·rename_i hf;obtain⟨vs,rfl,eV⟩:=hr;exact⟨vs,eV,by simp [Ac2,hk.1.2,hf]⟩
  ·simp at h
 ·simp at h
theorem Bf3 {t:TypeId}{ks:KK}{desc:TypeDesc}(hd:P.underlying t=some desc)(hk:Aee P t ks=true)(hf:Ab8 P t=true){x y:AV}{u v:Value}{b:Bool}(h:As5 ks x y=some b)(h1:AR F ρ ob x u)(h2:AR F ρ ob y v):Instr.sameNow desc u v=some b:=by
 simp only [Aee,B6h,B62,B6o]at hk;obtain⟨⟨xF,dJ⟩,_⟩:=hk;have ha:Aa0 P t=false:=by
  grind [Ab8,Aa0]
 unfold As5 at h;split at h
 ·split at h
  ·simp at h
  ·have hl:=L4 h;rename_i d d' _;have h1:DR F d u:=h1;have h2:DR F d' v:=h2;unfold Ab8 at hf;rw [hd]at hf
   match eE:ks.2,hl.1 with
   |[k],_=>
    rw [eE]at h;simp only [L9]at h;cases hq:eqK k d d' with
    |none=>rw [hq]at h;simp at h
    |some q=>
     rw [hq]at h;simp only [B8m,B6g]at h;subst h;rw [eE]at xF;have fM:Abx P (7+1) t=some [k]:=xF;rw [Abx,hd]at fM;cases desc<;>simp only [B6p]at hf<;>simp only [B6g,B76,B7v]at fM<;>subst fM<;>cases d<;>cases d'<;>simp only [eqK,reduceCtorEq]at hq<;>cases h1<;>cases h2
     ·simp only [B6g]at hq;subst hq;simp [Instr.sameNow];rfl
     ·split at hq
      ·rename_i fM;obtain⟨rfl,rfl⟩:=fM;simp only [B6g]at hq;subst hq;simp [Instr.sameNow];rfl
      ·simp at hq
     ·simp only [B6g]at hq;subst hq;simp only [Instr.sameNow,B6g];rw [Bool.eq_iff_iff,MapKept.bytes_beq];simp
 all_goals grind
theorem Ad6 {t:TypeId}{ks:KK}{desc:TypeDesc}(hd:P.underlying t=some desc)(hk:Aee P t ks=true){k:AV}{kv:Value}(hx:kOk ks k=true)(xH:AR F ρ ob k kv)(w:World):∀(rows:O4)(es:List MapEntry)(i:Nat)(r:Option (Nat×AV)),
  es.length=rows.length->(∀(j:Nat)(row:List AV),rows[j]? =some row->∃e k' v,es[j]? =some e/\row=[.c (.int .i64 e.born),k',v]/\AR F ρ ob k' e.key/\AR F ρ ob v e.val)->Ah5 ks k rows i=some r->
  ∃q,(Instr.findAsking t kv es i).run P w= .ok q w/\(Ab8 P t=true->Instr.findNow desc kv es i=some q)/\(∀j v,r=some (j,v)->∃e k',q=some (j,e.val)/\i<=j/\es[j-i]? =some e/\AR F ρ ob v e.val/\rows[j-i]? =some [.c (.int .i64 e.born),k',v]/\e.key=kv/\k'=k)/\(r=none->q=none)
 |[],es,i,r,hl,_,h=>by
  simp only [Ah5,B6g]at h;subst h;have:es=[]:=B66 (by simpa using hl)
  subst this;exact⟨none,by simp [Instr.findAsking],λ _=>rfl,λ _ _ h=>by simp at h,λ _=>rfl⟩
 |row::rows,[],i,r,hl,_,h=>by simp at hl
 |row::rows,e::es,i,r,hl,hr,h=>by
  obtain⟨e',k',v,he,rfl,h1,h2⟩:=hr 0 row rfl;simp only [B8u,B6g]at he;subst he;simp only [Ah5]at h;split at h
  ·rename_i hm;simp only [B6g]at h;subst h;have hq:=A2x hk hx (A2y hk hm h1) hm xH w;have fM:=(Aww hm).2 rfl;subst fM;refine⟨some (i,e.val),by simp [Instr.findAsking,hq],λ hf=>by simp [Instr.findNow,Bf3 hd hk hf hm xH h1],λ j v' h=> ?_,λ h=>by simp at h⟩
   grind [Bnx]
  ·rename_i hm;have hq:=A2x hk hx (A2y hk hm h1) hm xH w;obtain⟨q,g1,g2,g3,g4⟩:=Ad6 hd hk hx xH w rows es (i+1) r (by simpa using hl) (λ j row hj=>hr (j+1) row (by simpa using hj)) h
   refine⟨q,by simp [Instr.findAsking,hq,g1],λ hf=>by simp [Instr.findNow,Bf3 hd hk hf hm xH h1,g2 hf],λ j v2 hj=> ?_,g4⟩
   grind
  ·simp at h
theorem V3 {t:TypeId}{ks:KK}{desc:TypeDesc}(hd:P.underlying t=some desc)(hk:Aee P t ks=true){kv:Value}{es:List MapEntry}{q:Option (Nat×Value)}(h:(Instr.findAsking t kv es).run P w= .ok q w)(hn:Ab8 P t=true->Instr.findNow desc kv es 0=some q):
  (Instr.findKey t kv es).run P w= .ok q w:=by
 simp only [Instr.findKey,Sem.run_bind,run_underlying hd,Result.andThen_ok];cases hf:Ab8 P t with
 |true=>rw [hn hf];simp
 |false=>
  simp only [Aee,hf,Bool.false_or,B6h]at hk;have dB:=hk.2;rw [hd]at dB;cases desc<;>simp only [B6p]at dB;cases es with
  |nil=>simp only [Instr.findNow];simp [Instr.findAsking]at h;subst h;simp
  |cons e es=>simp only [Instr.findNow,Instr.sameNow];exact h
theorem T0.map (hm:T0 B F ρ ob w){key:Nat}{o:Obj}{p:N4}(h1:MK<=key)(h2:key<2*MK)(aD:get ob key=some o)(hρ:ρ key=some p):¬B p.g/\Bye F ρ ob w.heap[p.g]? o:=
 ⟨(hm.own key o p aD hρ).1,(hm.own key o p aD hρ).2.2.1 h1 h2⟩
def Amk (w:World)(g:Nat)(x:Go.Obj):World:={w with heap:=w.heap.setIfInBounds g x}
theorem A2z {w:World}{g:Nat}{x y:Go.Obj}(h:w.heap[g]? =some y):(Amk w g x).heap[g]? =some x:=by
 grind [Array.getElem?_eq_some_iff,Amk]
theorem Aoa {w:World}{g k:Nat}{x:Go.Obj}(h:k≠g):(Amk w g x).heap[k]? =w.heap[k]? :=by simp [Amk,B6i h]
theorem Asj {w:World}{g:Nat}{x:Go.Obj}:(Amk w g x).heap.size=w.heap.size:=by simp [Amk]
theorem Bbd {g:Nat}{x:Go.Obj}(hB:¬B g):Bel B w (Amk w g x):=⟨rfl,rfl,rfl,by rw [Asj];exact B6u _,λ k hk=>Aoa (λ e=>hB (e▸hk))⟩
theorem Aqi {key:Nat}{o0 o1:Obj}{p:N4}{x y:Go.Obj}(hm:T0 B F ρ s.ob w)(hf:Fr F ρ s.ob s.fr a)(hK:MK<=key)(aD:get s.ob key=some o0)(hρ:ρ key=some p)(hy:w.heap[p.g]? =some y)
  (hC:∀(F':A8)(ρ':Map)(aA:OL),(∀x v,AR F ρ s.ob x v->AR F' ρ' aA x v)->Aph F' ρ' aA (some x) key o1 p){v:AV}{u:Value}(hv:AR F ρ s.ob v u):Aby B F w s.fr a (s.obj key o1).ob v u (Amk w p.g x):=by
 have he:K0 ρ key (some p)=ρ:=by
  grind [K0]
 have bW:∀{x:AV}{v:Value},AR F ρ s.ob x v->AR F (K0 ρ key (some p)) (s.obj key o1).ob x v:=by
  intro x v hx;rw [he];refine hx.same λ k o' aT=> ?_
  grind [N7]
 have g1:=(hm.own key o0 p aD hρ).1;refine⟨F,K0 ρ key (some p),?_,λ i v hi=>bW (hf i v hi),bW hv,.refl F,Bbd g1,λ _ _ h=> .inl h⟩
 refine T0.changeC hm g1 (.inl ⟨o0,p,aD,hρ,rfl⟩) (by rw [Asj];exact B6u _) (λ k _ aH=>Aoa aH) (λ k o hk ho r hr x hx v hv=>bW hv) ?_
 rw [A2z hy];exact hC _ _ _ λ x v hv=>bW hv
theorem Bf4 {key:Nat}{o1:Obj}{x:Go.Obj}(hm:T0 B F ρ s.ob w)(hf:Fr F ρ s.ob s.fr a)(aG:s.free key=true)
  (hC:∀(F':A8)(ρ':Map)(aA:OL),(∀x v,x.names key=false->AR F ρ s.ob x v->AR F' ρ' aA x v)->Aph F' ρ' aA (some x) key o1 ⟨w.heap.size,0,0,0⟩):
  T0 B F (K0 ρ key (some ⟨w.heap.size,0,0,0⟩)) (s.obj key o1).ob (w.alloc x)/\Fr F (K0 ρ key (some ⟨w.heap.size,0,0,0⟩)) (s.obj key o1).ob s.fr a:=by
 obtain⟨hT,qZ⟩:=S5 (F:=F) (ρ:=ρ) (a:=a) (o':=o1) (p':=some ⟨w.heap.size,0,0,0⟩) aG;refine⟨?_,qZ hf⟩;refine T0.changeC hm hm.big.self (.inr (B6u _)) (by simp) (λ k hk _=>Below.heap_alloc w _ k hk) hT ?_
 rw [heap_alloc_new];exact hC _ _ _ λ x v hx hv=>hv.upd hx (λ k hk=>D6 _ hk) (λ k hk=>N7 hk)
def Aqj (P:Program)(t:TypeId)(ks:KK):Bool:=match P.underlying t with|some (.map k _)=>Aee P k ks&&(P.underlying k).isSome|_=>false
theorem Aam {t:TypeId}{ks:KK}(h:Aqj P t ks=true):∃k e d,P.underlying t=some (.map k e)/\Aee P k ks=true/\P.underlying k=some d:=by
 grind [Aqj,Option.isSome_iff_exists]
def Ahj (P:Program)(t:TypeId)(zero:AV):Bool:=match P.underlying t with|some (.map _ e)=>Ap4 P e (λ z=>cst zero z)|_=>false
def Bet (o:Oper):Bool:=match o.op with| .makeMap _ none=>true|_=>false
def Aq7 (P:Program)(o:Oper)(ks:KK)(zero:AV)(ok:Bool)(x i:J8):Bool:=match o.op with
 | .lookup t x' i' ok'=>Aqj P t ks&&Ahj P t zero&&ok==ok'&&M3 x' x&&M3 i' i
 |_=>false
def A57 (P:Program)(o:Oper)(ks:KK)(x i v:J8):Bool:=match o.op with
 | .mapUpdate t x' i' v'=>Aqj P t ks&&M3 x' x&&M3 i' i&&M3 v' v&&o.dst.isNone
 | .insert t x' i' v'=>Aqj P t ks&&M3 x' x&&M3 i' i&&M3 v' v&&o.dst.isNone
 |_=>false
def Aq8 (P:Program)(o:Oper)(ks:KK)(x i:J8):Bool:=match o.op with
 | .call {callee:= .builtin .delete,args:=as,argTypes:=ts}=>G0 as.toList [x,i]&&(match ts.toList with|t::_=>Aqj P t ks|[]=>false)
 |_=>false
def Beu (P:Program)(o:Oper)(x:J8):Bool:=match o.op with
 | .range t x'=>(match P.underlying t with|some (.map _ _)=>true|_=>false)&&M3 x' x
 |_=>false
def Bev (o:Oper)(x:J8):Bool:=match o.op with
 | .entry x'=>M3 x' x
 |_=>false
theorem Bny {key:Nat}(hm:T0 B F ρ s.ob w)(hf:Fr F ρ s.ob s.fr a)(h1:MK<=key)(h2:key<2*MK)(hc:Bet o=true)(aG:s.free key=true):Abr P o a w (Aby B F w s.fr a (s.obj key ⟨0,[]⟩).ob (.mp key)):=by
 unfold Bet at hc;split at hc
 ·rename_i t aK;obtain⟨g1,g2⟩:=Bf4 (key:=key) (o1:=⟨0,[]⟩) (x:= .map #[] 0) hm hf aG λ F' ρ' aA _=>⟨λ h=>by omega,λ _ _=>⟨#[],rfl,rfl,by simp,by simp,λ i r hi=>by simp at hi⟩,λ h=>by omega⟩
  refine C5 (w':=w.alloc (.map #[] 0)) (u:= .map (some w.heap.size)) ?_ ⟨F,_,g1,g2,⟨h1,h2,λ o ho=>⟨_,E6 _ _,rfl⟩⟩,.refl F,(Bel.refl _ _).alloc hm.big _,λ _ _ h=> .inl h⟩
  simp [execOp,aK,Instr.makeMap]
 ·simp at hc
theorem Ab9 {t k e:TypeId}{zero:AV}(ht:P.underlying t=some (.map k e))(h:Ahj P t zero=true):∃z,(zeroValue e).run P w= .ok z w/\AR F ρ ob zero z:=by
 unfold Ahj at h;rw [ht]at h;simp only at h;obtain⟨i,z,hi,hz,aW⟩:=Acy h;exact⟨z,by simp [zeroValue,typeInfo,hi,hz],Asb aW⟩
theorem A58 {ok b:Bool}{v x:AV}{u:Value}(h:Ba5 ok b v=some x)(hr:AR F ρ ob v u):AR F ρ ob x (if ok then .tuple #[u,.bool b]else u):=by
 unfold Ba5 at h;cases ok
 ·grind
 ·simp only [B68]at h ⊢;split at h
  ·rename_i hv;simp only [B6g]at h;subst h;exact⟨[u,.bool b],rfl,.cons (hr.to1 hv) (.cons (DR.bool b) .nil)⟩
  ·simp at h
theorem Azy {ks:KK}{zero k v:AV}{ok:Bool}{x i:J8}(hf:Fr F ρ s.ob s.fr a)(hc:Aq7 P o ks zero ok x i=true)(h1:s.opd x=some (.ot .nm))(h2:s.opd i=some k)(hk:kOk ks k=true)(hv:Ba5 ok false zero=some v):Ac5 P o a w F ρ s v:=by
 unfold Aq7 at hc;split at hc
 ·rename_i t x' i' ok' aK;simp only [B6h,B62]at hc;obtain⟨⟨⟨⟨ht,hz⟩,rfl⟩,hx⟩,hi⟩:=hc;obtain⟨kt,e,d,ht,gC,hd⟩:=Aam ht;obtain⟨z,iQ,iR⟩:=Ab9 (w:=w) (F:=F) (ρ:=ρ) (ob:=s.ob) ht hz;have hr:=A2 hf hx h1;have jN:=A2 hf hi h2;have mB:a.eval x'= .map none:=hr;have bI:=Q9 gC hk jN true w;have jU:(Instr.findKey kt (a.eval i') []).run P w= .ok none w:=by
   refine V3 hd gC (by simp [Instr.findAsking]) λ _=>rfl
  refine F4 (u:=if ok then .tuple #[z,.bool false]else z) ?_ (A58 hv iR)
  have iS:(Instr.lookup t (a.eval x') (a.eval i') ok).run P w= .ok (if ok then .tuple #[z,.bool false]else z) w:=by
   simp [Instr.lookup,run_underlying ht,mB,bI,jU,iQ]
  simp only [execOp,aK,Sem.run_bind,iS,Result.andThen_ok,Sem.run_pure]
 ·simp at hc
theorem Bye.list {o0:Obj}{b:Option Go.Obj}(h:Bye F ρ ob b o0):∃es:Array MapEntry,b=some (.map es o0.sz)/\es.toList.length=o0.rows.length/\(es.toList.map (·.born)).Nodup/\(∀e∈es.toList,e.born<o0.sz)/\
  ∀(i:Nat)(r:List AV),o0.rows[i]? =some r->∃e k v,es.toList[i]? =some e/\r=[.c (.int .i64 e.born),k,v]/\AR F ρ ob k e.key/\AR F ρ ob v e.val:=by
 obtain⟨es,h1,h2,h3,h4,h5⟩:=h;exact⟨es,h1,by simpa using h2,h3,h4,λ i r hi=>by simpa using h5 i r hi⟩
theorem A20 {ks:KK}{zero k v:AV}{ok:Bool}{x i:J8}{key:Nat}{o0:Obj}{r:Option (Nat×AV)}(hm:T0 B F ρ s.ob w)(hf:Fr F ρ s.ob s.fr a)(hc:Aq7 P o ks zero ok x i=true)(h1:s.opd x=some (.mp key))(h2:s.opd i=some k)(aD:get s.ob key=some o0)(hk:kOk ks k=true)
  (gV:Ah5 ks k o0.rows 0=some r)(hv:(match r with|some (_,u)=>Ba5 ok true u|none=>Ba5 ok false zero)=some v):Ac5 P o a w F ρ s v:=by
 unfold Aq7 at hc;split at hc
 ·rename_i t x' i' ok' aK;simp only [B6h,B62]at hc;obtain⟨⟨⟨⟨ht,hz⟩,rfl⟩,hx⟩,hi⟩:=hc;obtain⟨kt,e,d,ht,gC,hd⟩:=Aam ht;obtain⟨z,iQ,iR⟩:=Ab9 (w:=w) (F:=F) (ρ:=ρ) (ob:=s.ob) ht hz;have hr:=A2 hf hx h1;have jN:=A2 hf hi h2;obtain⟨p,hρ,mB⟩:=hr.2.2 o0 aD;obtain⟨_,hM⟩:=hm.map hr.1 hr.2.1 aD hρ;obtain⟨es,hb,hl,_,_,aQ⟩:=hM.list;obtain⟨q,q1,q2,q3,q4⟩:=Ad6 hd gC hk jN w o0.rows es.toList 0 r hl aQ gV;have bI:=Q9 gC hk jN es.isEmpty w;have jU:=V3 hd gC q1 q2;have iS:∀(y:Value×Bool),(match q with|some (_,v)=>(v,true)|none=>(z,false))=y->(Instr.lookup t (a.eval x') (a.eval i') ok).run P w= .ok (if ok then .tuple #[y.1,.bool y.2]else y.1) w:=by
   rintro y rfl;have hg:(getObj p.g).run P w= .ok (.map es o0.sz) w:=by simp [getObj,Sem.run,hb]
   cases q<;>simp [Instr.lookup,run_underlying ht,mB,hg,bI,jU,iQ]
  cases r with
  |none=>
   obtain rfl:=q4 rfl;refine F4 (u:=if ok then .tuple #[z,.bool false]else z) ?_ (A58 hv iR)
   simp only [execOp,aK,Sem.run_bind,iS _ rfl,Result.andThen_ok,Sem.run_pure]
  |some jv=>
   obtain⟨j,u⟩:=jv;obtain⟨e1,k1,rfl,_,_,fH,_⟩:=q3 j u rfl;refine F4 (u:=if ok then .tuple #[e1.val,.bool true]else e1.val) ?_ (A58 hv fH)
   simp only [execOp,aK,Sem.run_bind,iS _ rfl,Result.andThen_ok,Sem.run_pure]
 ·simp at hc
theorem DR.bits {d x:D}{v:Value}{k:Kd}{b:Bool}(h:eqK k d x=some b)(h1:DR F d v)(n:Nat):Instr.sameBits n v v=true:=by
 cases k<;>cases d<;>cases x<;>simp only [eqK,reduceCtorEq]at h<;>cases h1<;>cases n<;>simp [Instr.sameBits,MapKept.bytes_beq]
theorem A9h (n:Nat):∀{ks:List Kd}{xs ys:List D}{b:Bool}{vs:List Value},L9 ks xs ys=some b->C9 (DR F) xs vs->((vs.zip vs).all λ(x,y)=>Instr.sameBits n x y)=true
 |[],[],_,_,vs,_,h1=>by cases h1;rfl
 |k::ks,x::xs,y::ys,b,vs,h,h1=>by
  simp only [L9]at h;split at h
  ·rename_i p q hp hq;cases h1 with
   |cons a1 b1=>simp only [List.zip_cons_cons,B7r,DR.bits hp a1 n,A9h n hq b1,B64]
  ·simp at h
 |[],_::_,ys,_,_,h,_=>by cases ys<;>simp [L9]at h
 |_::_,[],_,_,_,h,_=>by simp [L9]at h
 |_::_,_::_,[],_,_,h,_=>by simp [L9]at h
theorem Bnz {t:TypeId}{ks:KK}(hk:Aee P t ks=true){x:AV}{v:Value}(hx:kOk ks x=true)(hr:AR F ρ ob x v):Instr.sameBits 10000 v v=true:=by
 have hx0:=hx;unfold kOk As5 at hx;split at hx
 ·rename_i d;split at hx
  ·simp at hx
  ·obtain⟨b,hb⟩:=B8h.1 hx;have hl:=(L4 hb).1
   match eE:ks.2,hl with
   |[k],_=>
    rw [eE]at hb;simp only [L9]at hb;cases hq:eqK k d d with
    |none=>rw [hq]at hb;simp at hb
    |some q=>exact DR.bits hq hr 10000
 ·rename_i ds;split at hx
  ·obtain⟨b,hb⟩:=B8h.1 hx;obtain⟨vs,rfl,eV⟩:=hr;have:=A9h 9999 hb eV;rw [show (10000:Nat)=9999+1 from rfl]
   simp only [Instr.sameBits,beq_self_eq_true,B9m];exact this
  ·simp at hx
 ·simp at hx
theorem Aqk {g:Nat}{y:Go.Obj}(h:w.heap[g]? =some y)(x:Go.Obj)(hy:∃es c,y= .map es c):(setObj g x).run P w= .ok () (Amk w g x):=by
 obtain⟨es,c,rfl⟩:=hy;simp [setObj,Sem.run,h,Amk]
theorem Akp (es:Array MapEntry)(i:Nat)(f:MapEntry->MapEntry):(es.modify i f).toList=es.toList.modify i f:=by simp
theorem Atc (l:List MapEntry)(i:Nat)(f:MapEntry->MapEntry)(hf:∀e,(f e).born=e.born):(l.modify i f).map (·.born)=l.map (·.born):=by
 apply List.ext_getElem?;intro j;simp only [B7m,List.getElem?_modify];cases l[j]? with
 |none=>rfl
 |some e=>simp only [B7h];split<;>simp [hf]
theorem Bn0 {key i:Nat}{o0:Obj}{p:N4}{es:Array MapEntry}{e:MapEntry}{k' v':AV}{f:MapEntry->MapEntry}(hK:MK<=key)(nN:key<2*MK)(hl:es.toList.length=o0.rows.length)(gW:(es.toList.map (·.born)).Nodup)(aC:∀e∈es.toList,e.born<o0.sz)
  (aQ:∀(i:Nat)(r:List AV),o0.rows[i]? =some r->∃e k v,es.toList[i]? =some e/\r=[.c (.int .i64 e.born),k,v]/\AR F ρ ob k e.key/\AR F ρ ob v e.val)(hi:es.toList[i]? =some e)(hf:∀e,(f e).born=e.born)(h1:AR F ρ ob k' (f e).key)(h2:AR F ρ ob v' (f e).val)
  (F':A8)(ρ':Map)(aA:OL)(hT:∀x v,AR F ρ ob x v->AR F' ρ' aA x v):Aph F' ρ' aA (some (.map (es.modify i f) o0.sz)) key ⟨o0.sz,setRow o0.rows i [.c (.int .i64 e.born),k',v']⟩ p:=by
 have dN:i<o0.rows.length:=by rw [<-hl];exact(B6n.1 hi).1
 refine⟨λ h=>by omega,λ _ _=>⟨es.modify i f,rfl,?_,?_,?_,?_⟩,λ h=>by omega⟩
 ·rw [Array.size_modify,Afz dN,<-hl];simp
 ·rw [Akp,Atc _ _ _ hf];exact gW
 ·intro e' wG;have:e'.born∈(es.modify i f).toList.map (·.born):=B6z.2 ⟨e',wG,rfl⟩;rw [Akp,Atc _ _ _ hf]at this;obtain⟨e2,h3,h4⟩:=B6z.1 this;rw [<-h4];exact aC e2 h3
 ·intro j r hj;simp only at hj;rw [An8 dN]at hj;have hg:(es.modify i f)[j]? =(es.toList.modify i f)[j]? :=by rw [<-Akp,Array.getElem?_toList]
  rw [hg,List.getElem?_modify];split at hj
  ·rename_i hji;subst hji;simp only [B6g]at hj;subst hj;rw [hi];exact⟨f e,k',v',by simp,by rw [hf],hT _ _ h1,hT _ _ h2⟩
  ·rename_i hji;obtain⟨e2,k2,v2,g1,rfl,g2,g3⟩:=aQ j r hj;rw [g1];exact⟨e2,k2,v2,by simp [B6i hji],rfl,hT _ _ g2,hT _ _ g3⟩
theorem Bh8 {key:Nat}{o0:Obj}{p:N4}{es:Array MapEntry}{kv vv:Value}{k' v':AV}(hK:MK<=key)(nN:key<2*MK)(hl:es.toList.length=o0.rows.length)(gW:(es.toList.map (·.born)).Nodup)(aC:∀e∈es.toList,e.born<o0.sz)
  (aQ:∀(i:Nat)(r:List AV),o0.rows[i]? =some r->∃e k v,es.toList[i]? =some e/\r=[.c (.int .i64 e.born),k,v]/\AR F ρ ob k e.key/\AR F ρ ob v e.val)(h1:AR F ρ ob k' kv)(h2:AR F ρ ob v' vv)
  (F':A8)(ρ':Map)(aA:OL)(hT:∀x v,AR F ρ ob x v->AR F' ρ' aA x v):Aph F' ρ' aA (some (.map (es.push {key:=kv,val:=vv,born:=o0.sz}) (o0.sz+1))) key ⟨o0.sz+1,o0.rows++[[.c (.int .i64 o0.sz),k',v']]⟩ p:=by
 have aL:es.size=o0.rows.length:=by simpa using hl
 refine⟨λ h=>by omega,λ _ _=>⟨_,rfl,by simp [aL],?_,?_,?_⟩,λ h=>by omega⟩
 ·simp only [Array.toList_push,B60,B6v,B8a];refine B82.2 ⟨gW,by simp,?_⟩
  intro x hx y hy;simp only [B6x]at hy;subst hy;obtain⟨e,he,rfl⟩:=B6z.1 hx;have:=aC e he;omega
 ·intro e he;simp only [Array.toList_push,B65,B6x]at he;rcases he with he|rfl
  ·have:=aC e he;simp only;omega
  ·simp
 ·intro j r hj;simp only at hj;rcases B7f j o0.rows.length with h|h
  ·rw [B8k h]at hj;obtain⟨e2,k2,v2,g1,rfl,g2,g3⟩:=aQ j r hj;exact⟨e2,k2,v2,by rw [Array.getElem?_push,B6j (by omega)];simpa using g1,rfl,hT _ _ g2,hT _ _ g3⟩
  ·rw [B73 h]at hj;have hj0:j=o0.rows.length:=by
    grind [List.getElem?_eq_some_iff]
   subst hj0;simp at hj;subst hj;exact⟨_,k',v',by rw [Array.getElem?_push,B6l aL.symm],rfl,hT _ _ h1,hT _ _ h2⟩
theorem Bh9 {ks:KK}{k u:AV}{x i v:J8}{key:Nat}{o0:Obj}{s':St}(hm:T0 B F ρ s.ob w)(hf:Fr F ρ s.ob s.fr a)(hc:A57 P o ks x i v=true)(h1:s.opd x=some (.mp key))(h2:s.opd i=some k)(h3:s.opd v=some u)(aD:get s.ob key=some o0)(hk:kOk ks k=true)
  (h:Aq3 key ks k u o0 s=some s'):s'.fr=s.fr/\Abr P o a w (Aby B F w s.fr a s'.ob (.tup [])):=by
 have main:∀(t:TypeId)(x' i' v':Operand),Aqj P t ks=true->M3 x' x=true->M3 i' i=true->M3 v' v=true->(∀w',(Instr.mapUpdate t (a.eval x') (a.eval i') (a.eval v')).run P w= .ok () w'->(execOp a.eval o).run P w= .ok .skip w')->s'.fr=s.fr/\Abr P o a w (Aby B F w s.fr a s'.ob (.tup [])):=by
  intro t x' i' v' ht hx hi hv kE;obtain⟨kt,e,d,ht,gC,hd⟩:=Aam ht;have hr:=A2 hf hx h1;have jN:=A2 hf hi h2;have hrv:=A2 hf hv h3;obtain⟨p,hρ,mB⟩:=hr.2.2 o0 aD;obtain⟨_,hM⟩:=hm.map hr.1 hr.2.1 aD hρ;obtain⟨es,hb,hl,gW,aC,aQ⟩:=hM.list;have hg:(getObj p.g).run P w= .ok (.map es o0.sz) w:=by simp [getObj,Sem.run,hb]
  have bI:=Q9 gC hk jN false w;unfold Aq3 at h;split at h
  ·rename_i j u0 gV;simp only [B6g]at h;subst h;obtain⟨q,q1,q2,q3,q4⟩:=Ad6 hd gC hk jN w o0.rows es.toList 0 _ hl aQ gV;have jU:=V3 hd gC q1 q2;obtain⟨e1,k1,rfl,_,g1,_,g2,g3,rfl⟩:=q3 j u0 rfl;simp only [B78]at g1 g2;have eE:(Instr.keyThatStays (((es[j]?).map (·.key)).getD (a.eval i')) (a.eval i')).run P w= .ok (a.eval i') w:=by
    have:es[j]? =some e1:=by simpa using g1
    rw [this];simp [Instr.keyThatStays,g3,Bnz gC hk jN]
   refine⟨rfl,Alo (kE (Amk w p.g (.map (es.modify j λ e=>{e with key:=a.eval i',val:=a.eval v'}) o0.sz)) ?_) ?_⟩
   ·simp [Instr.mapUpdate,run_underlying ht,mB,hg,bI,jU,eE,Aqk hb _ ⟨_,_,rfl⟩]
   ·have dB:Ac4 o0.rows j= .c (.int .i64 e1.born):=by simp [Ac4,g2]
    rw [dB];exact Aqi (v:= .tup []) (u:=undef) hm hf hr.1 aD hρ hb (Bn0 (f:=λ e=>{e with key:=a.eval i',val:=a.eval v'}) hr.1 hr.2.1 hl gW aC aQ g1 (λ _=>rfl) jN hrv) ⟨[],rfl,.nil⟩
  ·rename_i gV;simp only [B6g]at h;subst h;obtain⟨q,q1,q2,q3,q4⟩:=Ad6 hd gC hk jN w o0.rows es.toList 0 _ hl aQ gV;obtain rfl:=q4 rfl;have jU:=V3 hd gC q1 q2;refine⟨rfl,Alo (kE (Amk w p.g (.map (es.push {key:=a.eval i',val:=a.eval v',born:=o0.sz}) (o0.sz+1))) ?_) ?_⟩
   ·simp [Instr.mapUpdate,run_underlying ht,mB,hg,bI,jU,Aqk hb _ ⟨_,_,rfl⟩]
   ·exact Aqi (v:= .tup []) (u:=undef) hm hf hr.1 aD hρ hb (Bh8 hr.1 hr.2.1 hl gW aC aQ jN hrv) ⟨[],rfl,.nil⟩
  ·simp at h
 unfold A57 at hc;split at hc
 ·rename_i t x' i' v' aK;simp only [B6h]at hc;exact main t x' i' v' hc.1.1.1.1 hc.1.1.1.2 hc.1.1.2 hc.1.2 λ w' aJ=>by simp only [execOp,aK,Sem.run_bind,aJ,Result.andThen_ok,Sem.run_pure]
 ·rename_i t x' i' v' aK;simp only [B6h]at hc;exact main t x' i' v' hc.1.1.1.1 hc.1.1.1.2 hc.1.1.2 hc.1.2 λ w' aJ=>by simp only [execOp,aK,Sem.run_bind,aJ,Result.andThen_ok,Sem.run_pure]
 ·simp at hc
theorem Bbe {key i:Nat}{o0:Obj}{p:N4}{es:Array MapEntry}(hK:MK<=key)(nN:key<2*MK)(hl:es.toList.length=o0.rows.length)(gW:(es.toList.map (·.born)).Nodup)(aC:∀e∈es.toList,e.born<o0.sz)
  (aQ:∀(i:Nat)(r:List AV),o0.rows[i]? =some r->∃e k v,es.toList[i]? =some e/\r=[.c (.int .i64 e.born),k,v]/\AR F ρ ob k e.key/\AR F ρ ob v e.val)(hi:i<es.size)
  (F':A8)(ρ':Map)(aA:OL)(hT:∀x v,AR F ρ ob x v->AR F' ρ' aA x v):Aph F' ρ' aA (some (.map (es.eraseIdxIfInBounds i) o0.sz)) key ⟨o0.sz,o0.rows.eraseIdx i⟩ p:=by
 have he:(es.eraseIdxIfInBounds i).toList=es.toList.eraseIdx i:=by
  unfold Array.eraseIdxIfInBounds;rw [dif_pos hi];simp
 have hs:(es.toList.eraseIdx i).Sublist es.toList:=List.eraseIdx_sublist _ _;refine⟨λ h=>by omega,λ _ _=>⟨_,rfl,?_,?_,?_,?_⟩,λ h=>by omega⟩
 ·rw [<-Array.length_toList,he];simp only [List.length_eraseIdx,hl]
 ·rw [he];exact(hs.map _).nodup gW
 ·intro e' wG;rw [he]at wG;exact aC e' (hs.subset wG)
 ·intro j r hj;simp only at hj;have hg:(es.eraseIdxIfInBounds i)[j]? =(es.toList.eraseIdx i)[j]? :=by rw [<-he,Array.getElem?_toList]
  rw [hg];rw [List.getElem?_eraseIdx]at hj ⊢;split at hj
  ·rename_i h;rw [B6l h];obtain⟨e,k,v,b1,b2,b3,b4⟩:=aQ j r hj;exact⟨e,k,v,b1,b2,hT _ _ b3,hT _ _ b4⟩
  ·rename_i h;rw [B6j h];obtain⟨e,k,v,b1,b2,b3,b4⟩:=aQ (j+1) r hj;exact⟨e,k,v,b1,b2,hT _ _ b3,hT _ _ b4⟩
theorem Azz {ks:KK}{k:AV}{x i:J8}(hm:T0 B F ρ s.ob w)(hf:Fr F ρ s.ob s.fr a)(hc:Aq8 P o ks x i=true)(h1:s.opd x=some (.ot .nm))(h2:s.opd i=some k)(hk:kOk ks k=true):Ac5 P o a w F ρ s (.tup []):=by
 unfold Aq8 at hc;split at hc
 ·rename_i as ts aK;simp only [B6h]at hc;obtain⟨fJ,iT⟩:=hc;obtain⟨l⟩:=as;obtain⟨tl⟩:=ts
  match l,fJ with
  |[x',i'],fJ=>
   simp only [G0,B8m,B6h]at fJ;split at iT
   ·rename_i t r lA;simp only at lA;subst lA;obtain⟨kt,e,d,ht,gC,hd⟩:=Aam iT;have mB:a.eval x'= .map none:=A2 hf fJ.1 h1;have jN:=A2 hf fJ.2 h2;have bI:=Q9 gC hk jN true w;refine F4 (u:= .tuple #[]) ?_ ⟨[],rfl,.nil⟩;simp [execOp,aK,resolve,invoke,builtin,Builtin.delete_,mB,run_underlying ht,bI]
   ·simp at iT
  |[],fJ=>simp [G0]at fJ
  |[_],fJ=>simp [G0]at fJ
  |_::_::_::_,fJ=>simp [G0]at fJ
 ·simp at hc
theorem A21 {ks:KK}{k:AV}{x i:J8}{key:Nat}{o0:Obj}{r:Option (Nat×AV)}(hm:T0 B F ρ s.ob w)(hf:Fr F ρ s.ob s.fr a)(hc:Aq8 P o ks x i=true)(h1:s.opd x=some (.mp key))(h2:s.opd i=some k)(aD:get s.ob key=some o0)(hk:kOk ks k=true)
  (gV:Ah5 ks k o0.rows 0=some r):Abr P o a w (Aby B F w s.fr a (match r with|some (j,_)=>(s.obj key ⟨o0.sz,o0.rows.eraseIdx j⟩).ob|none=>s.ob) (.tup [])):=by
 unfold Aq8 at hc;split at hc
 ·rename_i as ts aK;simp only [B6h]at hc;obtain⟨fJ,iT⟩:=hc;obtain⟨l⟩:=as;obtain⟨tl⟩:=ts
  match l,fJ with
  |[x',i'],fJ=>
   simp only [G0,B8m,B6h]at fJ;split at iT
   ·rename_i t tr lA;simp only at lA;subst lA;obtain⟨kt,e,d,ht,gC,hd⟩:=Aam iT;have hr:=A2 hf fJ.1 h1;have jN:=A2 hf fJ.2 h2;obtain⟨p,hρ,mB⟩:=hr.2.2 o0 aD;obtain⟨gB,hM⟩:=hm.map hr.1 hr.2.1 aD hρ;obtain⟨es,hb,hl,gW,aC,aQ⟩:=hM.list;have hg:(getObj p.g).run P w= .ok (.map es o0.sz) w:=by simp [getObj,Sem.run,hb]
    have bI:=Q9 gC hk jN es.isEmpty w;obtain⟨q,q1,q2,q3,q4⟩:=Ad6 hd gC hk jN w o0.rows es.toList 0 _ hl aQ gV;have jU:=V3 hd gC q1 q2;cases r with
    |none=>
     obtain rfl:=q4 rfl;have bZ:∀k':Nat,(Amk w p.g (.map es o0.sz)).heap[k']? =w.heap[k']? :=by
      intro k';by_cases aN:k'=p.g
      ·subst aN;rw [A2z hb,hb]
      ·exact Aoa aN
     refine C5 (w':=Amk w p.g (.map es o0.sz)) (u:= .tuple #[]) ?_ ?_
     ·simp [execOp,aK,resolve,invoke,builtin,Builtin.delete_,mB,run_underlying ht,hg,bI,jU,Aqk hb _ ⟨_,_,rfl⟩]
     ·have dE:Below w.heap.size w (Amk w p.g (.map es o0.sz)):=⟨rfl,rfl,rfl,by rw [Asj];exact B6u _,λ k _=>bZ k⟩
      exact⟨F,ρ,hm.below dE,hf,⟨[],rfl,.nil⟩,.refl F,.of dE hm.big,λ _ _ h=> .inl h⟩
    |some jv=>
     obtain⟨j,u0⟩:=jv;obtain⟨e1,k1,rfl,_,g1,fH,g2,g3,rfl⟩:=q3 j u0 rfl;simp only [B78]at g1 g2;refine C5 (w':=Amk w p.g (.map (es.eraseIdxIfInBounds j) o0.sz)) (u:= .tuple #[]) ?_ ?_
     ·simp [execOp,aK,resolve,invoke,builtin,Builtin.delete_,mB,run_underlying ht,hg,bI,jU,Aqk hb _ ⟨_,_,rfl⟩]
     ·exact Aqi (v:= .tup []) hm hf hr.1 aD hρ hb (Bbe hr.1 hr.2.1 hl gW aC aQ (by simpa using (B6n.1 g1).1)) ⟨[],rfl,.nil⟩
   ·simp at iT
  |[],fJ=>simp [G0]at fJ
  |[_],fJ=>simp [G0]at fJ
  |_::_::_::_,fJ=>simp [G0]at fJ
 ·simp at hc
theorem A9i {key:Nat}{x:J8}{v:AV}{o1:Obj}(h2K:2*MK<=key)(hm:T0 B F ρ s.ob w)(hf:Fr F ρ s.ob s.fr a)(hc:Beu P o x=true)(h1:s.opd x=some v)(aG:s.free key=true)
  (h:v= .ot .nm/\o1=⟨0,[[.ot .nm]]⟩\/∃k o0,v= .mp k/\get s.ob k=some o0/\o1=⟨o0.sz,[[.mp k,.c (.int .i64 o0.sz)]]⟩):Abr P o a w (Aby B F w s.fr a (s.obj key o1).ob (.itr key)):=by
 unfold Beu at hc;split at hc
 ·rename_i t x' aK;simp only [B6h]at hc;obtain⟨ht,hx⟩:=hc;have hr:=A2 hf hx h1;have hn:=A2v (key:=key) hx h1 aG;split at ht
  ·rename_i kt e gE;have fin:∀it:Go.Obj,(Instr.range t (a.eval x')).run P w= .ok (.pointer (some ⟨w.heap.size,0,none⟩)) (w.alloc it)->(∀(F':A8)(ρ':Map)(aA:OL),(∀x v,x.names key=false->AR F ρ s.ob x v->AR F' ρ' aA x v)->Byf F' ρ' aA (some it) o1)->
     Abr P o a w (Aby B F w s.fr a (s.obj key o1).ob (.itr key)):=by
    intro it aJ hI;obtain⟨g1,g2⟩:=Bf4 (key:=key) (o1:=o1) (x:=it) hm hf aG λ F' ρ' aA hT=>⟨λ h=>by omega,λ h h'=>by omega,λ _=>hI F' ρ' aA hT⟩
    refine C5 (w':=w.alloc it) (u:= .pointer (some ⟨w.heap.size,0,none⟩)) ?_ ⟨F,_,g1,g2,⟨h2K,λ o ho=>⟨_,E6 _ _,rfl⟩⟩,.refl F,(Bel.refl _ _).alloc hm.big _,λ _ _ h=> .inl h⟩
    simp only [execOp,aK,Sem.run_bind,aJ,Result.andThen_ok,Sem.run_pure]
   rcases h with ⟨rfl,rfl⟩|⟨k,o0,rfl,aD,rfl⟩
   ·have hv:a.eval x'= .map none:=hr;refine fin (.mapIter none 0 #[] 0) (by simp [Instr.range,run_underlying gE,hv]) λ F' ρ' aA _=>⟨_,rfl,.inl ⟨rfl,rfl⟩⟩
   ·obtain⟨p,hρ,hv⟩:=hr.2.2 o0 aD;obtain⟨_,hM⟩:=hm.map hr.1 hr.2.1 aD hρ;obtain⟨es,hb,_⟩:=hM.list;have hg:(getObj p.g).run P w= .ok (.map es o0.sz) w:=by simp [getObj,Sem.run,hb]
    refine fin (.mapIter (some p.g) o0.sz #[] o0.sz) (by simp [Instr.range,run_underlying gE,hv,hg]) λ F' ρ' aA hT=>⟨_,rfl,.inr ⟨k,o0.sz,[],p.g,rfl,hT _ _ hn (by rw [<-hv];exact hr),rfl⟩⟩
  ·simp at ht
 ·simp at hc
theorem Bn1 {x:J8}{key mk:Nat}{o0 om:Obj}{since st k v:AV}{seen:O4}{b:Int}(hm:T0 B F ρ s.ob w)(hf:Fr F ρ s.ob s.fr a)(hc:Bev o x=true)(h1:s.opd x=some (.itr key))(aD:get s.ob key=some o0)(eU:o0.rows=[.mp mk,since]::seen)(hom:get s.ob mk=some om)
  (hl:seen.getLast? =some [.c (.int .i64 b)])(gV:om.rows.find? (Amg b)=some [st,k,v])(hk:k.isD=true)(hv:v.isD=true)(aL:om.sz=o0.sz):Ac5 P o a w F ρ s (.tup [k,v]):=by
 unfold Bev at hc;split at hc
 ·rename_i x' aK;have hr:=A2 hf hc h1;obtain⟨p,hρ,mB⟩:=hr.2 o0 aD;obtain⟨y,hy,hI⟩:=(hm.own key o0 p aD hρ).2.2.2 hr.1;rcases hI with ⟨h0,_⟩|⟨mk',since',seen',g,h3,h4,rfl⟩
  ·rw [eU]at h0;simp at h0
  ·rw [eU]at h3;simp only [B76,AV.mp.injEq,B7v]at h3;obtain⟨⟨rfl,rfl⟩,rfl⟩:=h3;obtain⟨pm,hρm,rZ⟩:=h4.2.2 om hom;simp only [Value.map.injEq,B6g]at rZ;subst rZ;obtain⟨_,hM⟩:=hm.map h4.1 h4.2.1 hom hρm;obtain⟨es,hb,aF,gW,aC,aQ⟩:=hM.list;obtain⟨iU,as,bs,fJ,cW⟩:=List.find?_eq_some_iff_append.1 gV;have hj:om.rows[as.length]? =some [st,k,v]:=by rw [fJ];simp
   obtain⟨e,k',v',g1,g2,g3,g4⟩:=aQ _ _ hj;simp only [B76,B7v]at g2;obtain⟨rfl,rfl,rfl⟩:=g2;simp only [Amg,B6o]at iU;subst iU;obtain⟨ys,hys⟩:∃ys,seen'=ys++[e.born]:=by
    rw [List.getLast?_map]at hl;simp only [B6m]at hl;obtain⟨b0,uO,iB⟩:=hl;simp only [B76,AV.c.injEq,D.int.injEq,B7w,B7v]at iB;have:b0=e.born:=by omega
    grind [List.getLast?_eq_some_iff]
   subst hys;have aJ:=run_entry_at (P:=P) w p.g pm.g since' ys.toArray es o0.sz e (by rw [hy];simp) (by rw [hb,aL]) (B6t g1) gW
   refine F4 (u:= .tuple #[e.key,e.val]) ?_ ⟨[e.key,e.val],rfl,.cons (g3.to1 hk) (.cons (g4.to1 hv) .nil)⟩;simp only [execOp,aK,mB,Sem.run_bind,aJ,Result.andThen_ok,Sem.run_pure]
 ·simp at hc
end
end Go.Am
namespace Go.Am
open Go.RowKit
def Aia (a:Go.Act)(γ:Array Value):Go.Act:={a with tmps:=a.tmps++Array.replicate (GB-a.tmps.size) undef++γ}
def Az0 (n:Nat)(b:Go.Act):Go.Act:={b with tmps:=b.tmps.extract 0 n}
theorem Alq (a:Go.Act)(γ:Array Value):Az0 a.tmps.size (Aia a γ)=a:=by
 unfold Az0 Aia;cases a;simp [Array.append_assoc]
theorem Bf5 (a:Go.Act)(γ:Array Value)(d:Option Nat)(u:Value)(hd:∀i,d=some i->i<a.tmps.size):(Aia a γ).put d u=Aia (a.put d u) γ:=by
 cases d with
 |none=>rfl
 |some i=>
  have:=hd i rfl;unfold Aia Go.Act.put;simp [Array.setIfInBounds_append_left,this,Array.append_assoc]
theorem Akq (a:Go.Act)(γ:Array Value)(i:Nat)(hs:a.tmps.size<=GB)(h:i<GB):(Aia a γ).tmps.getD i undef=a.tmps.getD i undef:=by
 unfold Aia;simp only [B61];rw [B85 (by simp;omega)]
 by_cases hi:i<a.tmps.size
 ·rw [B85 hi]
 ·rw [Array.getElem?_append_right (by omega)]
  rw [Array.getElem?_eq_none (xs:=a.tmps) (by omega)]
  simp only [Array.getElem?_replicate];split<;>rfl
theorem A72 (a:Go.Act)(γ:Array Value)(i:Nat)(hs:a.tmps.size<=GB):(Aia a γ).tmps.getD (GB+i) undef=γ.getD i undef:=by
 unfold Aia;simp only [B61];rw [Array.getElem?_append_right (by simp;omega)]
 congr 2;simp;omega
def Bbf (o:Oper):Bool:=o.op.operands.all fun| .tmp n=>decide (n<GB)|_=>true
def Aky (o:Oper):Bool:=match o.op with| .select _ _=>false|_=>true
theorem Bn2 {o:Oper}{a:Go.Act}{γ:Array Value}(hs:a.tmps.size<=GB)(ho:Bbf o=true)(hn:Aky o=true):execOp (Aia a γ).eval o=execOp a.eval o:=by
 refine execOp_congr o (λ cs b h=>by simp [Aky,h]at hn) λ x hx=> ?_
 cases x with
 |tmp n=>
  have:n<GB:=by
   unfold Bbf at ho;rw [Array.all_eq_true']at ho;simpa using ho _ hx
  exact Akq a γ n hs this
 |_=>rfl
theorem Ahk {P:Program}{o:Oper}{a:Go.Act}{γ:Array Value}{w:World}{R:Value->World->Prop}(hs:a.tmps.size<=GB)(ho:Bbf o=true)(hn:Aky o=true)(hd:∀i,o.dst=some i->i<a.tmps.size)(h:Abr P o (Aia a γ) w R):Abr P o a w R:=by
 intro next Q pI;have pJ:∀u,Az0 a.tmps.size ((Aia a γ).put o.dst u)=a.put o.dst u:=λ u=>by
  rw [Bf5 a γ o.dst u hd];have:a.tmps.size=(a.put o.dst u).tmps.size:=by cases o.dst<;>simp [Go.Act.put]
  rw [this,Alq]
 have:=h (λ b w'=>next (Az0 a.tmps.size b) w') (λ e b w'=>Q e (Az0 a.tmps.size b) w') (λ u w' hu=>by rw [pJ];exact pI u w' hu)
 unfold Oper.wp at this ⊢;rw [Bn2 hs ho hn]at this;generalize (execOp a.eval o).run P w=r at*;have wC:∀b:Go.Act,(Aia b γ).defers=b.defers:=λ _=>rfl
 cases r with
 |ok nx w'=>
  cases nx with
  |value v=>simp only [Oper.upon]at this ⊢;rwa [pJ]at this
  |skip=>simp only [Oper.upon]at this ⊢;rwa [pJ]at this
  |defer d=>
   simp only [Oper.upon]at this ⊢;have e:({Aia a γ with defers:=d::(Aia a γ).defers}:Go.Act)=Aia {a with defers:=d::a.defers} γ:=rfl
   rw [e,Bf5 {a with defers:=d::a.defers} γ o.dst undef hd]at this
   have e2:a.tmps.size=(({a with defers:=d::a.defers}:Go.Act).put o.dst undef).tmps.size:=by cases o.dst<;>simp [Go.Act.put]
   rwa [e2,Alq]at this
  |enter f args=>
   simp only [Oper.upon]at this ⊢;refine this.mono λ e w'' he=> ?_
   cases e with
   |returned v=>simp only at he ⊢;rwa [pJ]at he
   |panicked ch=>simp only at he ⊢;rwa [Alq]at he
   |outgrown=>
    simp only at he ⊢;obtain⟨b,w3,h3⟩:=he;exact⟨_,w3,h3⟩
  |row rw_ args=>
   simp only [Oper.upon]at this ⊢;refine this.mono λ v w'' he=> ?_
   rwa [pJ]at he
  |_=>simp only [Oper.upon]at this
 |halt x w'=>
  cases x<;>simp only [Oper.upon]at this ⊢ <;>first|(exact this.elim)|(rwa [Alq]at this)
end Go.Am
namespace Go.Am
open Go.RowKit
def Bew (o:Oper)(g:Nat)(xs:List J8):Bool:=match o.op with
 | .makeFunc (.func g') first captured=>g'==g&&first.isEmpty&&G0 captured.toList xs
 |_=>false
def Bex (P:Program)(nm:Nat->Option Nat)(o:Oper):Act->Bool
 | .mov x=>Azv o x
 | .frz x=>Azv o x
 | .pick c x y=>A51 o c x y
 | .bin op x y=>Bed o op x y
 | .eqs neg ks x y=>Bef P o neg ks x y
 | .beq neg x y=>Bee P o neg x y
 | .un op x=>Bts o op x
 | .ext x i=>Beg o x i
 | .fld x off sz ag=>Beh P o x off sz ag
 | .idx x i n sz ag=>Bei P o x i n sz ag
 | .iad x i sz=>Azw P o x i sz
 | .iadA x i n sz=>A52 P o x i n sz
 | .fad x off=>Azx P o x off
 | .ld x sz ag=>Aqg P o x sz ag
 | .sto sz x v=>Ap5 P o sz x v
 | .stoG sz x v=>Ap5 P o sz x v
 | .stoF sz x v=>Ap5 P o sz x v
 | .ldF x sz=>Aqg P o x sz true
 | .ldA x sz=>Aqg P o x sz true
 | .alc key cs=>decide (key<MK)&&Ac3 P o key&&Ben P o cs
 | .box key x=>decide (key<MK)&&Ac3 P o key&&Bem o x
 | .bld zero ps=>Bep P o zero ps
 | .bldA zero ps=>A56 P o zero ps
 | .bsl sz zero n ps=>Au4 P o sz zero n ps
 | .bso key sz zero n ps=>decide (key<MK)&&Ac3 P o key&&Au4 P o sz zero n ps
 | .appM key sz bytes x y=>decide (key<MK)&&Ac3 P o key&&Au3 P o sz bytes x y
 | .lsl sz x lo hi=>Ap3 P o sz x lo hi
 | .len b x=>Bej P o b x
 | .app key sz bytes x y=>decide (key<MK)&&Ac3 P o key&&Au3 P o sz bytes x y
 | .mks key bytes zero n c=>decide (key<MK)&&Ac3 P o key&&Beo P o bytes zero n c
 | .mkf g xs=>Bew o g xs
 | .call f args=>Aq4 P nm o f args
 | .callP f xs=>Aqh P nm o f xs
 | .callQ f xs=>Aqh P nm o f xs
 | .mn x xs=>Btu o x xs
 | .nilc x=>A53 o x
 | .shf l x y=>Beq P o l x y
 | .isn k neg x=>Bes P o k neg x
 | .mmk key=>decide (MK<=key)&&decide (key<2*MK)&&Bet o
 | .mget ks zero ok x i=>Aq7 P o ks zero ok x i
 | .mset ks x i v=>A57 P o ks x i v
 | .mdel ks x i=>Aq8 P o ks x i
 | .rng key x=>decide (2*MK<=key)&&Beu P o x
 | .ent x=>Bev o x
section
variable {P : Program} {B : Bd} {F F' : A8} {ρ ρ' : Map} {s : St} {a : Go.Act} {w w' : World} {o : Oper}
set_option maxHeartbeats 1000000 in
theorem Bn3 {P:Program}{F:A8}{ρ:Map}{s:St}{a:Go.Act}{w:World}{o:Oper}{g:Nat}{xs:List J8}{vs:List AV}(hf:Fr F ρ s.ob s.fr a)(hc:Bew o g xs=true)(h1:s.opds xs=some vs)(hD:vs.all AV.isD=true):Ac5 P o a w F ρ s (.clo g vs):=by
 unfold Bew at hc;split at hc
 ·rename_i g' first captured aK;simp only [B6h,B62]at hc;obtain⟨⟨rfl,hfst⟩,bM⟩:=hc;have hv:=Aeb hf bM h1;have hfe:first= #[]:=by simpa using hfst
  subst hfe;refine F4 (u:= .func (.func g') #[] (captured.toList.map a.eval).toArray) ?_ ⟨_,rfl,?_⟩
  ·simp [execOp,aK,Instr.makeFunc];rw [<-B8w];simp
  ·refine C9.of_get hv.length λ i x hx=> ?_
   obtain⟨u,hu,hr⟩:=hv.get? i x hx;grind [AR.to1,List.all_eq_true,List.mem_of_getElem?]
 ·simp at hc
theorem Ag2 {nm:Nat->Option Nat}{Γ:H6}{A:Act}{v:AV}{s':St}(hΓ:Aec P nm Γ)(hm:T0 B F ρ s.ob w)(hf:Fr F ρ s.ob s.fr a)(hc:Bex P nm o A=true)(h:act Γ s A=some (v,s')):
  s'.fr=s.fr/\Abr P o a w (Aby B F w s.fr a s'.ob v):=by
 have pure_:∀{v':AV},Ac5 P o a w F ρ s v'->v'=v->s=s'->s'.fr=s.fr/\Abr P o a w (Aby B F w s.fr a s'.ob v):=by
  rintro v' hp rfl rfl;exact⟨rfl,hp.post hm hf⟩
 cases A<;>simp only [Bex]at hc<;>simp only [act]at h
 case mov x=>
  grind [Option.map_eq_some_iff,A9b]
 case frz x=>
  split at h
  ·rename_i v0 wH;simp only [B6m,B6k]at h;obtain⟨p,hp,rfl,rfl⟩:=h;grind [Q3,Bnj]
  ·simp at h
 case pick c x y=>
  grind [Option.map_eq_some_iff,Bh1]
 case bin op x y=>
  grind [Option.map_eq_some_iff,Bnb]
 case eqs neg ks x y=>
  grind [Option.map_eq_some_iff,Bnd]
 case beq neg x y=>
  split at h
  ·rename_i p q hp hq;simp only [B6g,B6k]at h;obtain⟨rfl,rfl⟩:=h;exact pure_ (Bnc hf hc hp hq) rfl rfl
  ·simp at h
 case un op x=>
  grind [Option.map_eq_some_iff,Buq]
 case ext x i=>
  grind [Option.map_eq_some_iff,Bne]
 case fld x off sz ag=>
  grind [Option.map_eq_some_iff,Bnf]
 case idx x i n sz ag=>
  split at h
  ·rename_i cs p hp hi;split at h
   ·rename_i j hj;split at h
    ·rename_i hn;simp only [B6m,B6k]at h;obtain⟨d,hd,rfl,rfl⟩:=h;grind [Bng]
    ·simp at h
   ·simp at h
  ·simp at h
 case iad x i sz=>
  grind [Option.map_eq_some_iff,A7x,A7y]
 case iadA x i n sz=>
  grind [Bh3]
 case fad x off=>
  grind [Option.map_eq_some_iff,A4e,A7z]
 case ld x sz ag=>
  grind [Option.map_eq_some_iff,Bfv]
 case sto sz x y=>
  grind [Option.map_eq_some_iff,A9e]
 case ldF x sz=>
  split at h
  ·rename_i p hp;simp only [B6m,B6k]at h;obtain⟨q,hq,rfl,rfl⟩:=h;grind [Q3,Bnq]
  ·simp at h
 case ldA x sz=>
  grind [Option.map_eq_some_iff,Bnt]
 case stoF sz x y=>
  grind [Option.map_eq_some_iff,Bh5]
 case stoG sz x y=>
  grind [Option.map_eq_some_iff,A9e]
 case alc key cs=>
  split at h
  ·rename_i aG;simp only [B6g,B6k]at h;obtain⟨rfl,rfl⟩:=h;simp only [B6h,B6o]at hc;exact⟨rfl,Bnm hc.1.1 hc.1.2 hm hf hc.2 aG⟩
  ·simp at h
 case box key x=>
  split at h
  ·rename_i p hp;split at h
   ·rename_i cs aW;split at h
    ·rename_i aG;simp only [B6g,B6k]at h;obtain⟨rfl,rfl⟩:=h;simp only [B6h,B6o]at hc;exact⟨rfl,Bnl hc.1.1 hc.1.2 hm hf hc.2 hp aW aG⟩
    ·simp at h
   ·simp at h
  ·simp at h
 case bld zero ps=>
  grind [Option.map_eq_some_iff,Q3,Bnp]
 case bldA zero ps=>
  grind [Option.map_eq_some_iff,Bh7]
 case bsl sz zero n ps=>
  grind [Option.map_eq_some_iff,Q3,Bnr]
 case appM key sz bytes x y=>
  grind [Bh6]
 case bso key sz zero n ps=>
  split at h
  ·rename_i xs ks gA;split at h
   ·rename_i cs aW;split at h
    ·rename_i aG;simp only [B6g,B6k]at h;obtain⟨rfl,rfl⟩:=h;simp only [B6h,B6o]at hc;exact⟨Q3 _ _,Bns hc.1.1 hc.1.2 hm hf hc.2 gA aW aG⟩
    ·simp at h
   ·simp at h
  ·simp at h
 case lsl sz x lo hi=>
  grind [Option.map_eq_some_iff,A7v,A7w,A4d]
 case len b x=>
  grind [Option.map_eq_some_iff,Bni]
 case app key sz bytes x y=>
  grind [Bnn]
 case mks key bytes zero n c=>
  split at h
  ·rename_i p q hp hq;split at h
   ·rename_i m k cJ hk;split at h
    ·rename_i aI;simp only [B6h]at aI;simp only [B6g,B6k]at h;obtain⟨rfl,rfl⟩:=h;simp only [B6h,B6o]at hc;exact⟨rfl,Bno hc.1.1 hc.1.2 hm hf hc.2 hp hq cJ hk aI.1 aI.2.1 aI.2.2⟩
    ·simp at h
   ·simp at h
  ·simp at h
 case mkf g xs=>
  grind [Bn3]
 case call f args=>
  split at h
  ·simp at h
  ·rename_i vs eV;split at h
   ·simp at h
   ·rename_i ds ks jE;split at h
    ·simp at h
    ·rename_i rs iK;simp only [B6g,B6k]at h;obtain⟨rfl,rfl⟩:=h;refine⟨?_,Bbb hm hf hΓ.fn hc eV jE iK⟩;split
     ·rfl
     ·exact Q3 _ _
 case callP f xs=>
  grind [Option.map_eq_some_iff,Aws]
 case callQ f xs=>
  grind [Bfy,Option.map_eq_some_iff,Aws]
 case mn x xs=>
  grind [Option.map_eq_some_iff,Bus]
 case nilc x=>
  grind [Option.map_eq_some_iff,Bh4]
 case shf l x y=>
  grind [Option.map_eq_some_iff,Bnu]
 case isn k neg x=>
  grind [Option.map_eq_some_iff,Bnv]
 case mmk key=>
  simp only [B6h,B6o]at hc;split at h
  ·rename_i aG;simp only [B6g,B6k]at h;obtain⟨rfl,rfl⟩:=h;exact⟨rfl,Bny hm hf hc.1.1 hc.1.2 hc.2 aG⟩
  ·simp at h
 case mget ks zero ok x i=>
  split at h
  ·rename_i k hp hq;split at h
   ·rename_i hk;simp only [B6m,B6k]at h;obtain⟨u,hu,rfl,rfl⟩:=h;grind [Azy]
   ·simp at h
  ·rename_i key k hp hq;split at h
   ·rename_i o0 aD;split at h
    ·rename_i hk;split at h
     ·rename_i j u gV;simp only [B6m,B6k]at h;obtain⟨y,hy,rfl,rfl⟩:=h;exact pure_ (A20 hm hf hc hp hq aD hk gV hy) rfl rfl
     ·rename_i gV;simp only [B6m,B6k]at h;obtain⟨y,hy,rfl,rfl⟩:=h;exact pure_ (A20 hm hf hc hp hq aD hk gV hy) rfl rfl
     ·simp at h
    ·simp at h
   ·simp at h
  ·simp at h
 case mset ks x i y=>
  grind [Option.map_eq_some_iff,Bh9]
 case mdel ks x i=>
  split at h
  ·grind [Azz]
  ·rename_i key k hp hq;split at h
   ·rename_i o0 aD;split at h
    ·rename_i hk;split at h
     ·rename_i j u gV;simp only [B6g,B6k]at h;obtain⟨rfl,rfl⟩:=h;exact⟨rfl,A21 hm hf hc hp hq aD hk gV⟩
     ·rename_i gV;simp only [B6g,B6k]at h;obtain⟨rfl,rfl⟩:=h;exact⟨rfl,A21 hm hf hc hp hq aD hk gV⟩
     ·simp at h
    ·simp at h
   ·simp at h
  ·simp at h
 case rng key x=>
  simp only [B6h,B6o]at hc;split at h
  ·rename_i hp;split at h
   ·rename_i aG;simp only [B6g,B6k]at h;obtain⟨rfl,rfl⟩:=h;exact⟨rfl,A9i hc.1 hm hf hc.2 hp aG (.inl ⟨rfl,rfl⟩)⟩
   ·simp at h
  ·rename_i k hp;split at h
   ·rename_i o0 aD;split at h
    ·rename_i aG;simp only [B6g,B6k]at h;obtain⟨rfl,rfl⟩:=h;exact⟨rfl,A9i hc.1 hm hf hc.2 hp aG (.inr ⟨k,o0,rfl,aD,rfl⟩)⟩
    ·simp at h
   ·simp at h
  ·simp at h
 case ent x=>
  split at h
  ·rename_i key hp;split at h
   all_goals grind [Bn1]
  ·simp at h
def Akz (γ:Array Value)(a:Go.Act)(i:Nat):Value:=if i<GB then a.tmps.getD i undef else γ.getD (i-GB) undef
def FrG (γ:Array Value)(F:A8)(ρ:Map)(ob:OL)(fr:FL)(a:Go.Act):Prop:=∀i v,get fr i=some v->AR F ρ ob v (Akz γ a i)
theorem Buu {γ:Array Value}{a:Go.Act}(hs:a.tmps.size<=GB)(i:Nat):(Aia a γ).tmps.getD i undef=Akz γ a i:=by
 unfold Akz;by_cases h:i<GB
 ·rw [B6l h,Akq a γ i hs h]
 ·rw [B6j h];have:=A72 a γ (i-GB) hs
  rwa [show GB+(i-GB)=i by omega]at this
theorem FrG.pad {γ:Array Value}{F:A8}{ρ:Map}{ob:OL}{fr:FL}{a:Go.Act}(hs:a.tmps.size<=GB):FrG γ F ρ ob fr a↔Fr F ρ ob fr (Aia a γ):=by
 grind [FrG,Fr,Buu]
def Rel (γ:Array Value)(B:Bd)(F0:A8)(w0:World)(N:Nat)(s:St)(a:Go.Act)(w:World):Prop:=
 N<=GB/\∃F ρ,T0 B F ρ s.ob w/\FrG γ F ρ s.ob s.fr a/\Ext B F0 F w0 w/\a.tmps.size=N/\a.defers=[]
theorem Bn4 (a:Go.Act)(d i:Nat)(u:Value)(hd:d<a.tmps.size):(a.put (some d) u).tmps.getD i undef=if i=d then u else a.tmps.getD i undef:=by
 simp only [Go.Act.put,B61,B9f];grind
theorem A9j (a:Go.Act)(d:Option Nat)(u:Value):(a.put d u).tmps.size=a.tmps.size:=by cases d<;>simp [Go.Act.put]
theorem Awx (a:Go.Act)(d:Option Nat)(u:Value):(a.put d u).defers=a.defers:=by cases d<;>rfl
theorem Bn5 (γ:Array Value)(a:Go.Act)(d i:Nat)(u:Value)(hd:d<a.tmps.size)(hs:a.tmps.size<=GB):Akz γ (a.put (some d) u) i=if i=d then u else Akz γ a i:=by
 unfold Akz;by_cases h:i<GB
 ·rw [B6l h,B6l h,Bn4 a d i u hd]
 ·rw [B6j h,B6j h,B6j (by omega)]
theorem Rel.put1 {γ:Array Value}{B:Bd}{F0 F:A8}{w0 w w':World}{N:Nat}{s s':St}{a:Go.Act}{d:Option Nat}{v:AV}{u:Value}(hG:N<=GB)(dU:s'.fr=s.fr)(he:Ext B F0 F w0 w)(hN:a.tmps.size=N)(cX:a.defers=[])(hd:∀i,d=some i->i<N)
  (hp:Aby B F w s.fr (Aia a γ) s'.ob v u w'):Rel γ B F0 w0 N (s'.put d v) (a.put d u) w':=by
 obtain⟨F',ρ',cJ,rD,hv,wG⟩:=hp;have rD:=(FrG.pad (by omega)).2 rD
 refine⟨hG,F',ρ',by cases d<;>exact cJ,?_,he.trans wG,by rw [A9j,hN],by rw [Awx,cX]⟩
 cases d with
 |none=>simp only [St.put,Go.Act.put,dU];exact rD
 |some d=>
  intro i x hx;simp only [St.put,G2,dU]at hx ⊢;have nO:=hd d rfl;rw [Bn5 _ _ _ _ _ (by omega) (by omega)]
  by_cases hdi:d=i
  ·grind
  ·rw [B6j hdi]at hx;rw [B6j (B6i hdi)];exact rD i x hx
theorem Rel.put {γ:Array Value}{B:Bd}{F0:A8}{w0:World}{N:Nat}{s s':St}{a:Go.Act}{w w':World}{d:Option Nat}{v:AV}{u:Value}(hr:Rel γ B F0 w0 N s a w)(hd:∀i,d=some i->i<N)(dU:s'.fr=s.fr)
  (h:∀F ρ,T0 B F ρ s.ob w->Fr F ρ s.ob s.fr (Aia a γ)->Ext B F0 F w0 w->Aby B F w s.fr (Aia a γ) s'.ob v u w'):Rel γ B F0 w0 N (s'.put d v) (a.put d u) w':=by
 obtain⟨hG,F,ρ,hm,hf,he,hN,cX⟩:=hr;exact Rel.put1 hG dU he hN cX hd (h F ρ hm ((FrG.pad (by omega)).1 hf) he)
def Q4 (ops:Array Oper)(g:Option (Nat×Bool))(o:Oper):Bool:=
 match g,o.guard with
 |none,none=>true
 |some (t,want),some (j,want')=>want==want'&&(ops[j]?).bind (·.dst)==some t&&decide (t<GB)
 |_,_=>false
def Abe (N:Nat)(gs:List Nat)(d:Option Nat):Bool:=match d with|none=>true|some i=>decide (i<N)&& !gs.contains i
def Ahl (c:J8)(want:Bool)(x:J8):Act:=if want then .pick c x (.k (.c (.bool false)))else .pick c (.k (.c (.bool true))) x
def Act.still :Act->Bool
 | .frz .. | .sto .. | .stoG .. | .stoF .. | .ldF .. | .ldA .. | .alc .. | .box .. | .bld .. | .bldA .. | .bsl .. | .bso .. | .appM .. | .app .. | .mks .. | .call .. | .callP .. | .callQ .. | .mmk .. | .mset .. | .mdel .. | .rng .. =>false
 |_=>true
def AI.still :AI->Bool
 | .done=>true
 | .op _ a r=>a.still&&r.still
 | .sc _ _ _ sub _ r=>sub.still&&r.still
 | .scs _ _ _ sub _ r=>sub.still&&r.still
def Aa2 (P:Program)(nm:Nat->Option Nat)(o:Oper)(A:Act):Bool:=Bex P nm o A&&Bbf o&&Aky o
def U0 (P:Program)(nm:Nat->Option Nat)(N:Nat)(ops:Array Oper):AI->Option (Nat×Bool)->List Nat->List Nat->List Oper->Option (List Oper)
 | .done,_,_,_,l=>some l
 | .op d A r,g,gs,loc,l=>match l with
  |[]=>none
  |o::l=>if Q4 ops g o&&o.dst==d&&Abe N gs d&&Aa2 P nm o A then U0 P nm N ops r g gs (d.toList++loc) l else none
 | .sc d c want sub x r,g,gs,loc,l=>match c with
  | .k _=>none
  | .t t=>if (g.isNone||loc.contains t)&&decide (t<GB)then match U0 P nm N ops sub (some (t,want)) (t::gs) [] l with
    |some (o::l')=>if Q4 ops g o&&o.dst==some d&&Abe N gs (some d)&&Aa2 P nm o (Ahl (.t t) want x)then U0 P nm N ops r g gs (d::loc) l' else none
    |_=>none
   else none
 | .scs d c want sub x r,g,gs,loc,l=>match c with
  | .k _=>none
  | .t t=>if (g.isNone||loc.contains t)&&decide (t<GB)&&sub.still then match U0 P nm N ops sub (some (t,want)) (t::gs) [] l with
    |some (o::l')=>if Q4 ops g o&&o.dst==some d&&Abe N gs (some d)&&Aa2 P nm o (Ahl (.t t) want x)then U0 P nm N ops r g gs (d::loc) l' else none
    |_=>none
   else none
def Met (g:Option (Nat×Bool))(s:St):Prop:=match g with|none=>True|some (t,want)=>get s.fr t=some (.c (.bool want))
theorem A22 {ops:Array Oper}{g:Option (Nat×Bool)}{o:Oper}{s:St}{a:Go.Act}{γ:Array Value}{F:A8}{ρ:Map}(hg:Q4 ops g o=true)(hM:Met g s)(hf:FrG γ F ρ s.ob s.fr a):Region.wanted o (yielded ops a.tmps)=true:=by
 unfold Q4 at hg;split at hg
 ·rename_i h;simp [Region.wanted,h]
 ·rename_i t want j want' h;simp only [B6h,B62,B6o]at hg;obtain⟨⟨rfl,hj⟩,tO⟩:=hg;have hv:=DR.bool_ (hf t _ hM);rw [Akz,B6l tO]at hv;have:a.tmps[t]? =some (.bool want):=by
   rw [B61]at hv;cases hx:a.tmps[t]? with
   |none=>rw [hx]at hv;simp [undef]at hv
   |some y=>rw [hx]at hv;simp at hv;rw [hv]
  simp [Region.wanted,h,yielded,hj,this]
 ·simp at hg
def But (ds:List Nat)(a a':Go.Act):Prop:=a'.tmps.size=a.tmps.size/\a'.defers=a.defers/\(∀i,i∉ds->a'.tmps.getD i undef=a.tmps.getD i undef)/\∀i,a'.tmps.getD i undef=a.tmps.getD i undef\/a'.tmps.getD i undef=undef
theorem But.refl (ds:List Nat)(a:Go.Act):But ds a a:=⟨rfl,rfl,λ _ _=>rfl,λ _=> .inl rfl⟩
theorem But.trans {ds es:List Nat}{a b c:Go.Act}(h:But ds a b)(k:But es b c):But (ds++es) a c:=
 ⟨k.1.trans h.1,k.2.1.trans h.2.1,λ i hi=>by rw [k.2.2.1 i (by simp at hi;exact hi.2),h.2.2.1 i (by simp at hi;exact hi.1)],λ i=>by
  rcases k.2.2.2 i with h1|h1
  ·rw [h1];exact h.2.2.2 i
  ·exact .inr h1⟩
theorem But.put {a:Go.Act}(d:Option Nat):But d.toList a (a.put d undef):=by
 refine⟨A9j a d _,Awx a d _,λ i hi=> ?_,λ i=> ?_⟩
 ·cases d with
  |none=>rfl
  |some d=>
   have aH:d≠i:=by simp at hi;exact λ h=>hi h.symm
   simp only [Go.Act.put,B61,B9f];rw [B6j aH]
 ·cases d with
  |none=>exact .inl rfl
  |some d=>
   simp only [Go.Act.put,B61,B9f];by_cases hd:d=i
   ·rw [B6l hd];right;split<;>rfl
   ·rw [B6j hd];exact .inl rfl
theorem But.mono {ds es:List Nat}{a b:Go.Act}(h:But ds a b)(hs:∀i∈ds,i∈es):But es a b:=⟨h.1,h.2.1,λ i hi=>h.2.2.1 i λ hd=>hi (hs i hd),h.2.2.2⟩
theorem But.undef {ds:List Nat}{a b:Go.Act}(h:But ds a b){i:Nat}(hi:a.tmps.getD i undef=undef):b.tmps.getD i undef=undef:=by
 rcases h.2.2.2 i with h1|h1
 ·rw [h1,hi]
 ·exact h1
theorem Ask (a:Go.Act)(d:Nat):(a.put (some d) undef).tmps.getD d undef=undef:=by
 simp only [Go.Act.put,B61,B9f];simp;split<;>rfl
theorem Ahm {nm:Nat->Option Nat}{N:Nat}{ops:Array Oper}(ai:AI):∀{g:Option (Nat×Bool)}{gs loc:List Nat}{l l':List Oper},U0 P nm N ops ai g gs loc l=some l'->∀d∈ai.dsts,d∉gs/\d<N:=by
 induction ai with
 |done=>intro g gs loc l l' h d hd;simp [AI.dsts]at hd
 |op e A r ih=>
  intro g gs loc l l' h d hd;simp only [U0]at h;split at h
  ·simp at h
  ·split at h
   ·rename_i aI;simp only [B6h]at aI;cases e with
    |none=>exact ih h d (by simpa [AI.dsts]using hd)
    |some e=>
     simp only [AI.dsts,B6r]at hd;rcases hd with rfl|hd
     ·have:=aI.1.2;simp [Abe]at this;exact⟨this.2,this.1⟩
     ·exact ih h d hd
   ·simp at h
 |sc e c wt sub x r ihs ihr=>
  intro g gs loc l l' h d hd;simp only [U0]at h;grind [AI.dsts,List.mem_cons_of_mem,Abe]
 |scs e c wt sub x r ihs ihr=>
  intro g gs loc l l' h d hd;simp only [U0]at h;grind [AI.dsts,List.mem_cons_of_mem,Abe]
theorem Awy {nm:Nat->Option Nat}{N:Nat}{ops:Array Oper}{Q:Exit->Go.Act->World->Prop}(ai:AI):∀{t:Nat}{want:Bool}{gs loc:List Nat}{l l':List Oper}{a:Go.Act}{w:World},
  U0 P nm N ops ai (some (t,want)) (t::gs) loc l=some l'->a.tmps.getD t undef≠ .bool want->(∀q∈loc,a.tmps.getD q undef=undef)->
  (∀a',But ai.dsts a a'->wpList P ops Q l' a' w)->wpList P ops Q l a w:=by
 have one:∀{t:Nat}{want:Bool}{o:Oper}{l:List Oper}{a:Go.Act}{w:World},Q4 ops (some (t,want)) o=true->a.tmps.getD t undef≠ .bool want->wpList P ops Q l (a.put o.dst undef) w->wpList P ops Q (o::l) a w:=by
  intro t want o l a w hg hn h;have hw:Region.wanted o (yielded ops a.tmps)=false:=by
   unfold Q4 at hg;split at hg
   ·rename_i h1 h2;simp at h1
   ·rename_i t' want' j want'' h1 h2;simp only [B6g,B6k]at h1;obtain⟨rfl,rfl⟩:=h1;simp only [B6h,B62]at hg;obtain⟨⟨rfl,hj⟩,_⟩:=hg;simp only [Region.wanted,h2,yielded,hj,Option.bind_some];split
    ·rename_i b hb;have:a.tmps.getD t undef= .bool b:=by rw [B61,hb];rfl
     grind
    ·simp
   ·simp at hg
  simp only [wpList,hw,B6p,B7d];exact h
 induction ai with
 |done=>
  intro t want gs loc l l' a w h hn hl hk;simp only [U0,B6g]at h;subst h;exact hk a (.refl _ _)
 |op d A r ih=>
  intro t want gs loc l l' a w h hn hl hk;simp only [U0]at h;split at h
  ·simp at h
  ·rename_i o l0;split at h
   ·rename_i aI;simp only [B6h,B62]at aI;obtain⟨⟨⟨hg,hd⟩,gG⟩,_⟩:=aI;subst hd;refine one hg hn (ih h ?_ ?_ λ a' hb=>hk a' ?_)
    ·cases hd:o.dst with
     |none=>exact hn
     |some i=>
      have hit:t≠i:=by rw [hd]at gG;simp [Abe]at gG;exact λ h=>gG.2.1 h.symm
      rw [(But.put (a:=a) (some i)).2.2.1 t (by simpa using hit)];exact hn
    ·intro q hq;cases hd:o.dst with
     |none=>rw [hd]at hq;exact hl q (by simpa using hq)
     |some i=>
      rw [hd]at hq;simp at hq;rcases hq with rfl|hq
      ·exact Ask a q
      ·exact(But.put (a:=a) (some i)).undef (hl q hq)
    ·refine((But.put o.dst).trans hb).mono λ i hi=> ?_
     cases hd:o.dst<;>rw [hd]at hi<;>simp [AI.dsts]at hi ⊢ <;>exact hi
   ·simp at h
 |sc d c wt sub x r ihs ihr=>
  intro t want gs loc l l' a w h hn hl hk;simp only [U0]at h;split at h
  ·simp at h
  ·rename_i t2;split at h
   ·rename_i hc;simp only [B6h]at hc;have hc:t2∈loc:=by first|(simpa using hc.1)|(simpa using hc.1.1)
    split at h
    ·rename_i o l0 bA;split at h
     ·rename_i aI;simp only [B6h,B62]at aI;obtain⟨⟨⟨hg,hd⟩,gG⟩,_⟩:=aI;have jO:t≠d:=by simp [Abe]at gG;exact λ h=>gG.2.1 h.symm
      have iT:t∉sub.dsts:=λ hm=>(Ahm sub bA t hm).1 (by simp)
      refine ihs bA (by rw [hl t2 hc];simp [undef]) (by simp) λ a1 iU=> ?_
      have uT:a1.tmps.getD t undef≠ .bool want:=by rw [iU.2.2.1 t iT];exact hn
      refine one hg uT ?_;rw [hd];refine ihr h (by rw [(But.put (a:=a1) (some d)).2.2.1 t (by simpa using jO)];exact uT) ?_ λ a2 iB=>hk a2 ?_
      ·intro q hq;simp only [B6r]at hq;rcases hq with rfl|hq
       ·exact Ask a1 q
       ·exact(But.put (a:=a1) (some d)).undef (iU.undef (hl q hq))
      ·exact(iU.trans ((But.put (some d)).trans iB)).mono λ i hi=>by simpa [AI.dsts]using hi
     ·simp at h
    ·simp at h
   ·simp at h
 |scs d c wt sub x r ihs ihr=>
  intro t want gs loc l l' a w h hn hl hk;simp only [U0]at h;split at h
  ·simp at h
  ·rename_i t2;split at h
   ·rename_i hc;simp only [B6h]at hc;have hc:t2∈loc:=by first|(simpa using hc.1)|(simpa using hc.1.1)
    split at h
    ·rename_i o l0 bA;split at h
     ·rename_i aI;simp only [B6h,B62]at aI;obtain⟨⟨⟨hg,hd⟩,gG⟩,_⟩:=aI;have jO:t≠d:=by simp [Abe]at gG;exact λ h=>gG.2.1 h.symm
      have iT:t∉sub.dsts:=λ hm=>(Ahm sub bA t hm).1 (by simp)
      refine ihs bA (by rw [hl t2 hc];simp [undef]) (by simp) λ a1 iU=> ?_
      have uT:a1.tmps.getD t undef≠ .bool want:=by rw [iU.2.2.1 t iT];exact hn
      refine one hg uT ?_;rw [hd];refine ihr h (by rw [(But.put (a:=a1) (some d)).2.2.1 t (by simpa using jO)];exact uT) ?_ λ a2 iB=>hk a2 ?_
      ·intro q hq;simp only [B6r]at hq;rcases hq with rfl|hq
       ·exact Ask a1 q
       ·exact(But.put (a:=a1) (some d)).undef (iU.undef (hl q hq))
      ·exact(iU.trans ((But.put (some d)).trans iB)).mono λ i hi=>by simpa [AI.dsts]using hi
     ·simp at h
    ·simp at h
   ·simp at h
theorem Bia {Γ:H6}{s s':St}{A:Act}{v:AV}(hA:A.still=true)(h:act Γ s A=some (v,s')):s'=s:=by
 cases A<;>simp only [Act.still,B6p]at hA<;>simp only [act]at h<;>(repeat' split at h)<;>(try simp only [B6m,B6k,B6g,reduceCtorEq]at h)<;>
  first
  |(obtain⟨_,_,_,rfl⟩:=h;rfl)
  |(obtain⟨_,rfl⟩:=h;rfl)
  |exact h.elim
theorem Bn6 {Γ:H6}(ai:AI):∀{s s':St},ai.still=true->ev Γ ai s=some s'->s'.ob=s.ob:=by
 induction ai with
 |done=>intro s s' _ h;simp only [ev,B6g]at h;rw [h]
 |op d A r ih=>
  intro s s' hs h;simp only [AI.still,B6h]at hs;simp only [ev]at h;split at h
  ·rename_i v s1 h1;have:=Bia hs.1 h1;subst this;rw [ih hs.2 h];cases d<;>rfl
  ·simp at h
 |sc d c want sub x r ihs ihr=>
  intro s s' hs h;simp only [AI.still,B6h]at hs;simp only [ev]at h;split at h
  ·split at h
   ·split at h
    ·rename_i s1 h1;split at h
     ·rw [ihr hs.2 h];show s1.ob=s.ob;exact ihs hs.1 h1
     ·simp at h
    ·simp at h
   ·rw [ihr hs.2 h];rfl
  ·simp at h
 |scs d c want sub x r ihs ihr=>
  intro s s' hs h;simp only [AI.still,B6h]at hs;simp only [ev]at h;split at h
  ·split at h
   ·rw [ihr hs.2 h];rfl
   ·simp at h
  ·simp at h
theorem E7 {α:Type}:∀(ks:List Nat)(l:List (Nat×α))(i:Nat),get (E1 ks l) i=if i∈ks then none else get l i
 |[],l,i=>by simp [E1]
 |k::ks,l,i=>by
  simp only [E1];rw [E7 ks,B3];grind
theorem Rel.drop {γ:Array Value}{B:Bd}{F0:A8}{w0:World}{N:Nat}{s s1:St}{a a1:Go.Act}{w:World}{ai:AI}(hr:Rel γ B F0 w0 N s1 a w)(aD:s1.ob=s.ob)(hg:∀i,i∉ai.dsts->get s1.fr i=get s.fr i)(ha:But ai.dsts a a1):Rel γ B F0 w0 N (s.drop ai) a1 w:=by
 obtain⟨hG,F,ρ,hm,hf,he,hN,cX⟩:=hr;refine⟨hG,F,ρ,by simpa [St.drop,<-aD]using hm,λ i v hi=> ?_,he,by rw [ha.1,hN],by rw [ha.2.1,cX]⟩
 simp only [St.drop,E7]at hi;split at hi
 ·simp at hi
 ·rename_i iC;rw [<-hg i iC]at hi;have:=hf i v hi;rw [aD]at this;have hv:Akz γ a1 i=Akz γ a i:=by
   unfold Akz;split
   ·exact ha.2.2.1 i iC
   ·rfl
  rw [hv];exact this
set_option maxHeartbeats 1000000 in
theorem Aql {nm:Nat->Option Nat}{Γ:H6}{γ:Array Value}{B:Bd}{N:Nat}{F0:A8}{w0:World}{ops:Array Oper}{Q:Exit->Go.Act->World->Prop}(hΓ:Aec P nm Γ)(ai:AI):
  ∀{g:Option (Nat×Bool)}{gs loc:List Nat}{l l':List Oper}{s s':St}{a:Go.Act}{w:World},
   U0 P nm N ops ai g gs loc l=some l'->ev Γ ai s=some s'->Rel γ B F0 w0 N s a w->Met g s->(∀t want,g=some (t,want)->t∈gs)->
   (∀a' w',Rel γ B F0 w0 N s' a' w'->(∀i,i∉ai.dsts->get s'.fr i=get s.fr i)->wpList P ops Q l' a' w')->wpList P ops Q l a w:=by
 have one:∀{g:Option (Nat×Bool)}{gs:List Nat}{o:Oper}{A:Act}{v:AV}{l:List Oper}{s s1:St}{a:Go.Act}{w:World},Q4 ops g o=true->Abe N gs o.dst=true->Aa2 P nm o A=true->act Γ s A=some (v,s1)->Rel γ B F0 w0 N s a w->Met g s->
   (∀a' w',Rel γ B F0 w0 N (s1.put o.dst v) a' w'->s1.fr=s.fr->wpList P ops Q l a' w')->wpList P ops Q (o::l) a w:=by
  intro g gs o A v l s s1 a w hg hd hc h hr hM hk;have eU:=hr;obtain⟨hG,F,ρ,hm,hf,he,hN,cX⟩:=eU;have hw:=A22 hg hM hf;simp only [wpList,hw,B68];left;simp only [Aa2,B6h]at hc;have nO:∀i,o.dst=some i->i<N:=λ i hi=>by rw [hi]at hd;simp [Abe]at hd;exact hd.1
  obtain⟨dU,eG⟩:=Ag2 hΓ hm ((FrG.pad (γ:=γ) (by omega)).1 hf) hc.1.1 h
  exact Ahk (by omega) hc.1.2 hc.2 (λ i hi=>by rw [hN];exact nO i hi) eG _ _ λ u w' hp=>hk _ _ (Rel.put1 hG dU he hN cX nO hp) dU
 have met_:∀{g:Option (Nat×Bool)}{gs:List Nat}{s s1:St},Met g s->(∀t want,g=some (t,want)->t∈gs)->(∀t∈gs,get s1.fr t=get s.fr t)->Met g s1:=by
  intro g gs s s1 hM aP hk;cases g with
  |none=>trivial
  |some p=>obtain⟨t,want⟩:=p;simp only [Met]at hM ⊢;rw [hk t (aP t want rfl)];exact hM
 have put_get:∀{d:Option Nat}{v:AV}{s:St}{t:Nat}{gs:List Nat},Abe N gs d=true->t∈gs->get (s.put d v).fr t=get s.fr t:=by
  intro d v s t gs hd ht;cases d with
  |none=>rfl
  |some d=>
   grind [Abe,St.put,G2]
 induction ai with
 |done=>
  grind [U0,ev]
 |op d A r ih=>
  intro g gs loc l l' s s' a w hc h hr hM gH hk;simp only [U0]at hc;split at hc
  ·simp at hc
  ·rename_i o l0;split at hc
   ·rename_i aI;simp only [B6h,B62]at aI;obtain⟨⟨⟨hg,hd⟩,gG⟩,cY⟩:=aI;subst hd;simp only [ev]at h;split at h
    ·rename_i v s1 h1;refine one hg gG cY h1 hr hM λ a1 w1 aZ dU=> ?_
     refine ih hc h aZ (met_ hM gH λ t ht=>by rw [put_get gG ht,dU]) gH λ a2 w2 dQ fQ=>hk a2 w2 dQ λ i hi=> ?_
     rw [fQ i (by intro hm;apply hi;cases o.dst<;>simp [AI.dsts,hm])]
     cases fU:o.dst with
     |none=>simp only [St.put,dU]
     |some d=>
      rw [fU]at hi;simp only [AI.dsts,B6r,not_or]at hi;simp only [St.put,G2,dU];rw [B6j (B6i hi.1)]
    ·simp at h
   ·simp at hc
 |sc d c want sub x r ihs ihr=>
  intro g gs loc l l' s s' a w hc h hr hM gH hk;simp only [U0]at hc;split at hc
  ·simp at hc
  ·rename_i t;split at hc
   ·rename_i htc;have tO:t<GB:=by simp only [B6h,B6o]at htc;exact htc.2
    split at hc
    ·rename_i o l0 bA;split at hc
     ·rename_i aI;simp only [B6h,B62]at aI;obtain⟨⟨⟨hg,hd⟩,gG⟩,cY⟩:=aI;have hsd:=Ahm sub bA;simp only [ev]at h;split at h
      ·rename_i b hb;split at h
       ·rename_i sA;subst sA;split at h
        ·rename_i s1 h1;split at h
         ·rename_i v hv;refine ihs bA h1 hr hb (λ t' w' he=>by simp only [B6g,B6k]at he;rw [<-he.1];simp) λ a1 w1 aZ jP=> ?_
          have sB:Met g s1:=met_ hM gH λ t' gE=>jP t' λ hm=>(hsd t' hm).1 (B7g _ gE)
          have iU:s1.opd (.t t)=some (.c (.bool b)):=by
           grind [St.opd]
          have iV:act Γ s1 (Ahl (.t t) b x)=some (v,s1):=by
           cases b<;>simp [Ahl,act,iU,hv]
          refine one hg (by rw [hd];exact gG) cY iV aZ sB λ a2 w2 dQ _=> ?_
          rw [hd]at dQ;refine ihr hc h dQ (met_ sB gH λ t' gE=>put_get gG gE) gH λ a3 w3 nP nQ=>hk a3 w3 nP λ i hi=> ?_
          grind [AI.dsts,St.put,G2]
         ·simp at h
        ·simp at h
       ·rename_i sA;obtain⟨hG,F,ρ,hm,hf,he,hN,cX⟩:=hr;have xI:=DR.bool_ (hf t _ hb);rw [Akz,B6l tO]at xI;refine Awy sub (gs:=gs) (loc:=[]) bA (by rw [xI];simpa using sA) (by simp) λ a1 iU=> ?_
        have aZ:Rel γ B F0 w0 N (s.drop sub) a1 w:=Rel.drop ⟨hG,F,ρ,hm,hf,he,hN,cX⟩ rfl (λ _ _=>rfl) iU
        have tP:∀t'∈t::gs,get (s.drop sub).fr t'=get s.fr t':=λ t' gE=>by
         grind [St.drop,E7]
        have sB:Met g (s.drop sub):=met_ hM gH λ t' gE=>tP t' (B7g _ gE)
        have wI:(s.drop sub).opd (.t t)=some (.c (.bool b)):=by simp only [St.opd]at hb ⊢;rw [tP t (by simp)];exact hb
        have iV:act Γ (s.drop sub) (Ahl (.t t) want x)=some (.c (.bool b),s.drop sub):=by
         cases want<;>cases b<;>simp at sA<;>simp [Ahl,act,wI]<;>rfl
        refine one hg (by rw [hd];exact gG) cY iV aZ sB λ a2 w2 dQ _=> ?_
        rw [hd]at dQ;refine ihr hc h dQ (met_ sB gH λ t' gE=>put_get gG gE) gH λ a3 w3 nP nQ=>hk a3 w3 nP λ i hi=> ?_
        grind [AI.dsts,St.put,G2,St.drop,E7]
      ·simp at h
     ·simp at hc
    ·simp at hc
   ·simp at hc
 |scs d c want sub x r ihs ihr=>
  intro g gs loc l l' s s' a w hc h hr hM gH hk;simp only [U0]at hc;split at hc
  ·simp at hc
  ·rename_i t;split at hc
   ·rename_i dB;simp only [B6h,B6o]at dB;have tO:t<GB:=dB.1.2;split at hc
    ·rename_i o l0 bA;split at hc
     ·rename_i aI;simp only [B6h,B62]at aI;obtain⟨⟨⟨hg,hd⟩,gG⟩,cY⟩:=aI;have hsd:=Ahm sub bA;have tP:∀t'∈t::gs,get (s.drop sub).fr t'=get s.fr t':=λ t' gE=>by
       grind [St.drop,E7]
      have sB:Met g (s.drop sub):=met_ hM gH λ t' gE=>tP t' (B7g _ gE)
      simp only [ev]at h;split at h
      ·rename_i b s1 hb h1;split at h
       ·rename_i y hy;by_cases sA:b=want
        ·subst sA;refine ihs bA h1 hr hb (λ t' w' he=>by simp only [B6g,B6k]at he;rw [<-he.1];simp) λ a1 w1 aZ jP=> ?_
         have hM2:Met g s1:=met_ hM gH λ t' gE=>jP t' λ hm=>(hsd t' hm).1 (B7g _ gE)
         have iU:s1.opd (.t t)=some (.c (.bool b)):=by
          grind [St.opd]
         have mC:(if b then b&&y else b||y)=y:=by cases b<;>simp
         rw [mC]at h;have iV:act Γ s1 (Ahl (.t t) b x)=some (.c (.bool y),s1):=by
          cases b<;>simp [Ahl,act,iU,hy]
         refine one hg (by rw [hd];exact gG) cY iV aZ hM2 λ a2 w2 dQ _=> ?_
         rw [hd]at dQ;have nP:Rel γ B F0 w0 N ((s.drop sub).put (some d) (.c (.bool y))) a2 w2:=by
          obtain⟨hG,F,ρ,hm,hf,he,hN,cX⟩:=dQ;have aD:=Bn6 sub dB.2 h1;refine⟨hG,F,ρ,by simpa [St.put,St.drop,aD]using hm,λ i v hi=> ?_,he,hN,cX⟩
          simp only [St.put,G2]at hi;have:get (s1.put (some d) (.c (.bool y))).fr i=some v:=by
           grind [St.put,G2,St.drop,E7]
          have:=hf i v this;simpa [St.put,St.drop,aD]using this
         refine ihr hc h nP (met_ sB gH λ t' gE=>put_get gG gE) gH λ a3 w3 nP nQ=>hk a3 w3 nP λ i hi=> ?_
         grind [AI.dsts,St.put,G2,St.drop,E7]
        ·obtain⟨hG,F,ρ,hm,hf,he,hN,cX⟩:=hr;have xI:=DR.bool_ (hf t _ hb);rw [Akz,B6l tO]at xI;refine Awy sub (gs:=gs) (loc:=[]) bA (by rw [xI];simpa using sA) (by simp) λ a1 iU=> ?_
         have aZ:Rel γ B F0 w0 N (s.drop sub) a1 w:=Rel.drop ⟨hG,F,ρ,hm,hf,he,hN,cX⟩ rfl (λ _ _=>rfl) iU
         have wI:(s.drop sub).opd (.t t)=some (.c (.bool b)):=by simp only [St.opd]at hb ⊢;rw [tP t (by simp)];exact hb
         have mC:(if want then b&&y else b||y)=b:=by cases want<;>cases b<;>simp at sA ⊢
         rw [mC]at h;have iV:act Γ (s.drop sub) (Ahl (.t t) want x)=some (.c (.bool b),s.drop sub):=by
          cases want<;>cases b<;>simp at sA<;>simp [Ahl,act,wI]<;>rfl
         refine one hg (by rw [hd];exact gG) cY iV aZ sB λ a2 w2 dQ _=> ?_
         rw [hd]at dQ;refine ihr hc h dQ (met_ sB gH λ t' gE=>put_get gG gE) gH λ a3 w3 nP nQ=>hk a3 w3 nP λ i hi=> ?_
         grind [AI.dsts,St.put,G2,St.drop,E7]
       ·simp at h
      ·simp at h
     ·simp at hc
    ·simp at hc
   ·simp at hc
end
end Go.Am
