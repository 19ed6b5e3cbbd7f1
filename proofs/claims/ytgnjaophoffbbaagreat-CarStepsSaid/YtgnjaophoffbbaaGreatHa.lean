import Derived.Test.YtgnjaophoffbbaaGreatK
import Derived.Test.YtgnjaophoffbbaaGreatB4
set_option maxRecDepth 20000
set_option maxHeartbeats 4000000
set_option linter.unusedVariables false
set_option linter.unusedSimpArgs false
namespace Go.Am
def wb (p:Nat->Bool)(a:Nat):Nat->Nat
 |0=>0
 |k+1=>wb p a k+(if p (a+k)then 2^k else 0)
theorem Acl (p:Nat->Bool)(a:Nat):∀k,wb p a k<2^k
 |0=>by simp [wb]
 |k+1=>by
  have:=Acl p a k;simp only [wb,Nat.pow_succ];split<;>omega
theorem Acm (p:Nat->Bool)(a:Nat):∀k j,(wb p a k).testBit j=(decide (j<k)&&p (a+j))
 |0,j=>by simp [wb]
 |k+1,j=>by
  have ih:=Acm p a k;have aC:=Acl p a k;simp only [wb];have hz:(wb p a k).testBit k=false:=Nat.testBit_lt_two_pow aC;split
  ·rename_i hp;rw [Nat.add_comm];rcases Nat.lt_trichotomy j k with h|rfl|h
   ·rw [Nat.testBit_two_pow_add_gt h,ih,B8f h,B8f (by omega:j<k+1)]
   ·rw [Nat.testBit_two_pow_add_eq,hz,hp];simp
   ·rw [B7y (by omega),Bool.false_and]
    refine Nat.testBit_lt_two_pow ?_;have:2^(k+1)<=2^j:=B9o (by omega) h
    rw [Nat.pow_succ]at this;omega
  ·rename_i hp;rw [B8y,ih];by_cases h:j=k
   ·subst h;simp [hp]
   ·rw [decide_eq_decide.2 (show j<k↔j<k+1 by omega)]
theorem Bct (p:Nat->Bool)(a:Nat):∀k,wb p a (k+1)=2*wb p (a+1) k+(if p a then 1 else 0)
 |0=>by simp [wb]
 |k+1=>by
  have ih:=Bct p a k;grind [wb,Nat.pow_succ]
theorem Aah {p q:Nat->Bool}{a:Nat}:∀{k:Nat},(∀j,j<k->p (a+j)=q (a+j))->wb p a k=wb q a k
 |0,_=>rfl
 |k+1,h=>by
  rw [wb,wb,Aah λ j hj=>h j (by omega),h k (by omega)]
abbrev Q7 (p:Nat->Bool):List D:=[.int .u64 (wb p 0 64:Nat),.int .u64 (wb p 64 64:Nat)]
abbrev E0 (p:Nat->Bool):AV:= .agg (Q7 p)
def Amz (p:Nat->Bool)(n:Int):Nat->Bool:=λ m=>p m||decide ((m:Int)=n)
def A67 (g:List AV->Option (List AV)):Prop:=∀(p:Nat->Bool)(n:Int),g [E0 p,i64 n]=some [E0 (Amz p n)]
theorem A68 (x y:Nat)(hx:x<2^64)(hy:y<2^64):Ags .or .u64 x y=((x|||y:Nat):Int):=by
 have tX:IntKind.u64.bits=64:=rfl;have e:(BitVec.ofInt IntKind.u64.bits (x:Int)|||BitVec.ofInt IntKind.u64.bits (y:Int)).toNat=x|||y:=by
  grind
 have h3:x|||y<2^64:=Nat.or_lt_two_pow hx hy;simp only [Ags,e,IntKind.wrap_u64];omega
theorem Bfh (m:Nat)(h:m<128):Ags .and .i64 m 63=((m%64:Nat):Int):=by
 have tX:IntKind.i64.bits=64:=rfl;have e:(BitVec.ofInt IntKind.i64.bits (m:Int)&&&BitVec.ofInt IntKind.i64.bits 63).toNat=m%64:=by
  have h1:(BitVec.ofInt IntKind.i64.bits (m:Int)).toNat=m:=by simp only [BitVec.toNat_ofInt,tX];omega
  have h2:(BitVec.ofInt IntKind.i64.bits (63:Int)).toNat=2^6-1:=by decide
  rw [BitVec.toNat_and,h1,h2,Nat.and_two_pow_sub_one_eq_mod]
 simp only [Ags,e,IntKind.wrap_i64];omega
theorem Bsw (p:Nat->Bool)(a j:Nat)(hj:j<64):wb p a 64|||2^j=wb (λ m=>p m||decide ((m:Int)=(a+j:Nat))) a 64:=by
 refine B9p λ i=> ?_
 grind [Acm]
theorem Am0 (Γ:H6)(M:Nat):A67 (run Γ M Aau):=by
 intro p n;have w0:=Acl p 0 64;have w1:=Acl p 64 64;by_cases h0:0<=n/\n<128
 ·obtain⟨m,rfl⟩:∃m:Nat,n=m:=⟨n.toNat,by omega⟩
  have hm:m<128:=by omega
  have e2:=Bfh m hm;have e3:(2:Nat)^(m%64)<2^64:=Nat.pow_lt_pow_right (by omega) (Nat.mod_lt _ (by omega))
  have e4:=A68 (wb p 0 64) (2^(m%64)) w0 e3;have e5:=A68 (wb p 64 64) (2^(m%64)) w1 e3;have e6:min (m%64) IntKind.u64.bits=m%64:=by have:IntKind.u64.bits=64:=rfl;omega
  have e7:(2^(m%64):Int)=((2^(m%64):Nat):Int):=by simp
  have e8:∀x:Nat,x<2^64->IntKind.u64.wrap (x:Int)=x:=λ x hx=>by rw [IntKind.wrap_u64];omega
  have e9:=e8 _ e3;have yF:(2:Int)^min 6 IntKind.i64.bits=64:=by decide
  by_cases h1:m<64
  ·have e1:((m:Int)).fdiv (2^min 6 IntKind.i64.bits)=0:=by rw [yF,Int.fdiv_eq_ediv_of_nonneg _ (by omega)];omega
   have f0:wb (Amz p m) 0 64=wb p 0 64|||2^(m%64):=by rw [Bsw p 0 _ (by omega)];unfold Amz;congr 1;funext x;rw [show (0+m%64:Nat)=m by omega]
   have f1:wb (Amz p m) 64 64=wb p 64 64:=Aah λ j _=>by unfold Amz;simp;omega
   rw [E0,E0,Q7,Q7,f0,f1];generalize wb p 0 64=x0 at*;generalize wb p 64 64=x1 at*;rw [<-e4];rw [<-e7]at*;generalize hj:m%64=j at*;have jR:¬(j:Int)<0:=by omega
   simp -implicitDefEqProofs (disch:=first|omega|(simp;done)|assumption) [h0,h1,e1,e2,e6,e9,jR]
  ·have e1:((m:Int)).fdiv (2^min 6 IntKind.i64.bits)=1:=by rw [yF,Int.fdiv_eq_ediv_of_nonneg _ (by omega)];omega
   have f0:wb (Amz p m) 0 64=wb p 0 64:=Aah λ j _=>by unfold Amz;simp;omega
   have f1:wb (Amz p m) 64 64=wb p 64 64|||2^(m%64):=by rw [Bsw p 64 _ (by omega)];unfold Amz;congr 1;funext x;rw [show (64+m%64:Nat)=m by omega]
   rw [E0,E0,Q7,Q7,f0,f1];generalize wb p 0 64=x0 at*;generalize wb p 64 64=x1 at*;rw [<-e5];rw [<-e7]at*;generalize hj:m%64=j at*;have jR:¬(j:Int)<0:=by omega
   simp -implicitDefEqProofs (disch:=first|omega|(simp;done)|assumption) [h0,h1,e1,e2,e6,e9,jR]
 ·have f0:wb (Amz p n) 0 64=wb p 0 64:=Aah λ j _=>by unfold Amz;simp;omega
  have f1:wb (Amz p n) 64 64=wb p 64 64:=Aah λ j _=>by unfold Amz;simp;omega
  rw [E0,E0,Q7,Q7,f0,f1];generalize wb p 0 64=x0 at*;generalize wb p 64 64=x1 at*;by_cases h1:0<=n
  ·have h2:¬n<128:=by omega
   simp -implicitDefEqProofs (disch:=first|omega|(simp;done)|assumption) [h1,h2]
  ·simp -implicitDefEqProofs (disch:=first|omega|(simp;done)|assumption) [h1]
def B4 (l:List Int):Nat->Bool:=λ m=>l.any λ n=>decide ((m:Int)=n)
theorem Aiv (l:List Int)(n:Int):Amz (B4 l) n=B4 (l++[n]):=by
 funext m;simp [Amz,B4]
abbrev z2R :List AV:=[.c (.int .u64 0),.c (.int .u64 0)]
abbrev Af2 (p:Nat->Bool):List AV:=[.c (.int .u64 (wb p 0 64:Nat)),.c (.int .u64 (wb p 64 64:Nat))]
def iD (n:Int):List D:=[.int .i64 n]
theorem A69 {x:Nat}:BitVec.ofInt IntKind.u64.bits (x:Int)=BitVec.ofNat IntKind.u64.bits x:=by
 grind
theorem A0l (x:Nat)(h:x<2^64):IntKind.u64.wrap (x:Int)=x:=by rw [IntKind.wrap_u64];omega
theorem A6h {x y:Nat}(hx:x<2^64)(hy:y<2^64):Ags .and .u64 x y=((x&&&y:Nat):Int):=by
 have h3:x&&&y<2^64:=Nat.and_lt_two_pow _ hy;have e:(BitVec.ofInt IntKind.u64.bits (x:Int)&&&BitVec.ofInt IntKind.u64.bits (y:Int)).toNat=x&&&y:=by
  rw [A69,A69,BitVec.toNat_and,BitVec.toNat_ofNat,BitVec.toNat_ofNat,show IntKind.u64.bits=64 from rfl,B74 hx,B74 hy]
 simp only [Ags,e];exact A0l _ h3
theorem Axy (p q : Nat -> Bool) (a : Nat) : Ags .andNot .u64 (wb p a 64 : Nat) (wb q a 64 : Nat) = ((wb (λ m => p m && !q m) a 64 : Nat) : Int) := by
 have hx := Acl p a 64
 have hy := Acl q a 64
 have e : (BitVec.ofInt IntKind.u64.bits (wb p a 64 : Nat) &&& ~~~BitVec.ofInt IntKind.u64.bits (wb q a 64 : Nat)).toNat = wb (λ m => p m && !q m) a 64 := by
  rw [A69, A69]
  apply B9p
  intro i
  rw [BitVec.testBit_toNat, BitVec.getLsbD_and, BitVec.getLsbD_not, BitVec.getLsbD_ofNat, BitVec.getLsbD_ofNat, Acm, Acm, Acm, show IntKind.u64.bits = 64 from rfl]
  cases decide (i < 64) <;> simp
 simp only [Ags, e]
 exact A0l _ (Acl _ _ _)
theorem Bys (p q:Nat->Bool)(a:Nat):wb p a 64|||wb q a 64=wb (λ m=>p m||q m) a 64:=by
 refine B9p λ i=> ?_
 grind [Acm]
theorem Bg0 (p:Nat->Bool)(a j:Nat)(hj:j<64):wb p a 64&&&(2^j-1)=wb (λ m=>p m&&decide (m<a+j)) a 64:=by
 refine B9p λ i=> ?_
 rw [Nat.testBit_and,Acm,Acm,Nat.testBit_two_pow_sub_one,Bool.and_assoc];congr 2;exact decide_eq_decide.2 (by omega)
theorem Aiw {p q:Nat->Bool}(h:∀m,m<128->p m=q m):E0 p=E0 q:=by
 have h0:wb p 0 64=wb q 0 64:=Aah λ j hj=>h _ (by omega)
 have h1:wb p 64 64=wb q 64 64:=Aah λ j hj=>h _ (by omega)
 unfold E0 Q7;rw [h0,h1]
theorem Ago {p:Nat->Bool}{a:Nat}(h:∀j,j<64->p (a+j)=false):wb p a 64=0:=by
 refine B9p λ i=> ?_
 grind [Acm]
theorem Bg1 {p:Nat->Bool}{a:Nat}(h:wb p a 64=0)(j:Nat)(hj:j<64):p (a+j)=false:=by
 have:=Acm p a 64 j;grind
def Ala (p:Nat->Bool)(n:Int):Bool:=decide (0<=n)&&decide (n<128)&&p n.toNat
def orP (p q:Nat->Bool):Nat->Bool:=λ m=>p m||q m
def Bwc (p q:Nat->Bool):Nat->Bool:=λ m=>p m&& !q m
def Aon (p:Nat->Bool)(n:Int):Nat->Bool:=λ m=>p m&&decide ((m:Int)<n)
def Bsx (p:Nat->Bool)(n:Int):Nat->Bool:=λ m=>p m&&decide (n<=(m:Int))
def Aix (g:List AV->Option (List AV)):Prop:=∀(p:Nat->Bool)(n:Int),g [E0 p,i64 n]=some [bo (Ala p n)]
def Bwd (g:List AV->Option (List AV)):Prop:=∀(p q:Nat->Bool),g [E0 p,E0 q]=some [E0 (orP p q)]
def Bcu (g:List AV->Option (List AV)):Prop:=∀(p q:Nat->Bool),g [E0 p,E0 q]=some [E0 (Bwc p q)]
def A7a (g:List AV->Option (List AV)):Prop:=∀(p:Nat->Bool)(n:Int),g [E0 p,i64 n]=some [E0 (Aon p n)]
def Bcv (g:List AV->Option (List AV)):Prop:=∀(p:Nat->Bool)(n:Int),g [E0 p,i64 n]=some [E0 (Bsx p n)]
theorem A8r (Γ:H6)(M:Nat):Bwd (run Γ M Al1):=by
 intro p q;have e0:=A68 _ _ (Acl p 0 64) (Acl q 0 64);have e1:=A68 _ _ (Acl p 64 64) (Acl q 64 64);have f0:wb (orP p q) 0 64=wb p 0 64|||wb q 0 64:=(Bys p q 0).symm;have f1:wb (orP p q) 64 64=wb p 64 64|||wb q 64 64:=(Bys p q 64).symm;rw [E0,E0,E0,Q7,Q7,Q7,f0,f1,<-e0,<-e1];generalize wb p 0 64=x0 at*;generalize wb p 64 64=x1 at*;generalize wb q 0 64=y0 at*;generalize wb q 64 64=y1 at*;simp -implicitDefEqProofs (disch:=first|omega|(simp;done)|assumption)
theorem A4y (Γ : H6) (M : Nat) : Bcu (run Γ M Aij) := by
 intro p q
 have e0 := Axy p q 0
 have e1 := Axy p q 64
 have f0 : wb (Bwc p q) 0 64 = wb (λ m => p m && !q m) 0 64 := rfl
 have f1 : wb (Bwc p q) 64 64 = wb (λ m => p m && !q m) 64 64 := rfl
 rw [E0, E0, E0, Q7, Q7, Q7, f0, f1, <- e0, <- e1]
 generalize wb p 0 64 = x0 at *
 generalize wb p 64 64 = x1 at *
 generalize wb q 0 64 = y0 at *
 generalize wb q 64 64 = y1 at *
 simp -implicitDefEqProofs (disch := first | omega | (simp <;> fail) | assumption)
theorem Bsy (x j:Nat)(hx:x<2^64)(hj:j<64):Ags .and .u64 ((x:Int).fdiv (2^min j IntKind.u64.bits)) 1=if x.testBit j then 1 else 0:=by
 have tX:min j IntKind.u64.bits=j:=by have:IntKind.u64.bits=64:=rfl;omega
 have e1:(x:Int).fdiv (2^min j IntKind.u64.bits)=((x/2^j:Nat):Int):=by
  grind [Int.fdiv_eq_ediv_of_nonneg,Int.natCast_nonneg]
 have h2:x/2^j<2^64:=Nat.lt_of_le_of_lt (Nat.div_le_self _ _) hx;have e2:=A6h h2 (show 1<2^64 by decide)
 grind [Nat.mod_lt]
theorem A4z (Γ:H6)(M:Nat):Aix (run Γ M Aii):=by
 intro p n;have w0:=Acl p 0 64;have w1:=Acl p 64 64;by_cases h0:0<=n
 case neg=>
  unfold Ala;simp -implicitDefEqProofs (disch:=first|omega|(simp;done)|assumption) [h0]
 by_cases h1:n<128
 case neg=>
  unfold Ala;simp -implicitDefEqProofs (disch:=first|omega|(simp;done)|assumption) [h0,h1]
 obtain⟨m,rfl⟩:∃m:Nat,n=m:=⟨n.toNat,by omega⟩
 have hm:m<128:=by omega
 have e2:=Bfh m hm;have yF:(2:Int)^min 6 IntKind.i64.bits=64:=by decide
 have hj:m%64<64:=Nat.mod_lt _ (by decide)
 have jR:¬((m%64:Nat):Int)<0:=by omega
 by_cases h2:m<64
 ·have e1:((m:Int)).fdiv (2^min 6 IntKind.i64.bits)=0:=by rw [yF,Int.fdiv_eq_ediv_of_nonneg _ (by omega)];omega
  have e3:=Bsy _ _ w0 hj;have e4:(wb p 0 64).testBit (m%64)=p m:=by rw [Acm,B8f hj,B9m];congr 1;omega
  have e5:Ala p m=p m:=by unfold Ala;simp;omega
  rw [e4]at e3;rw [E0,Q7,e5];generalize wb p 0 64=x0 at*;generalize wb p 64 64=x1 at*;generalize hjj:m%64=j at*;rw [show (if p m=true then(1:Int)else 0)=if p m then 1 else 0 from rfl]at e3
  generalize p m=b at*;cases b<;>simp at e3<;>simp -implicitDefEqProofs (disch:=first|omega|(simp;done)|assumption) [h0,h1,e1,e2,e3,jR]
 ·have e1:((m:Int)).fdiv (2^min 6 IntKind.i64.bits)=1:=by rw [yF,Int.fdiv_eq_ediv_of_nonneg _ (by omega)];omega
  have e3:=Bsy _ _ w1 hj;have e4:(wb p 64 64).testBit (m%64)=p m:=by rw [Acm,B8f hj,B9m];congr 1;omega
  have e5:Ala p m=p m:=by unfold Ala;simp;omega
  rw [e4]at e3;rw [E0,Q7,e5];generalize wb p 0 64=x0 at*;generalize wb p 64 64=x1 at*;generalize hjj:m%64=j at*;rw [show (if p m=true then(1:Int)else 0)=if p m then 1 else 0 from rfl]at e3
  generalize p m=b at*;cases b<;>simp at e3<;>simp -implicitDefEqProofs (disch:=first|omega|(simp;done)|assumption) [h0,h1,e1,e2,e3,jR]
theorem Bsz (j:Nat)(hj:j<64):IntKind.u64.wrap (2^j:Int)-1=((2^j-1:Nat):Int):=by
 have h:(2:Nat)^j<2^64:=Nat.pow_lt_pow_right (by decide) hj
 grind [A0l,Nat.one_le_two_pow]
theorem Av4 (Γ:H6)(M:Nat):A7a (run Γ M Adl):=by
 intro p n;by_cases h0:n<=0
 ·have e:E0 (Aon p n)= .agg [.int .u64 0,.int .u64 0]:=by
   unfold E0 Q7;grind [Ago,Aon]
  rw [e,E0,Q7];simp -implicitDefEqProofs (disch:=first|omega|(simp;done)|assumption) [h0]
 by_cases h1:128<=n
 ·have e:E0 (Aon p n)=E0 p:=Aiw λ m hm=>by unfold Aon;simp;omega
  rw [e,E0,Q7];simp -implicitDefEqProofs (disch:=first|omega|(simp;done)|assumption) [h0,h1]
 obtain⟨m,rfl⟩:∃m:Nat,n=m:=⟨n.toNat,by omega⟩
 have hm:m<128:=by omega
 have w0:=Acl p 0 64;have w1:=Acl p 64 64;by_cases h2:64<=m
 ·have e2:=Bfh m hm;have hj:m%64<64:=Nat.mod_lt _ (by decide)
  have f0:wb (Aon p m) 0 64=wb p 0 64:=Aah λ j _=>by unfold Aon;simp;omega
  have f1:wb (Aon p m) 64 64=wb p 64 64&&&(2^(m%64)-1):=by
   rw [Bg0 _ _ _ hj];refine Aah λ j _=> ?_
   unfold Aon;congr 1;exact decide_eq_decide.2 (by omega)
  have aC:2^(m%64)-1<2^64:=Nat.lt_of_le_of_lt (Nat.sub_le _ _) (Nat.pow_lt_pow_right (by decide) hj)
  have e3:=A6h w1 aC;have e4:=Bsz _ hj;have jR:¬((m%64:Nat):Int)<0:=by omega
  have e6:min (m%64) IntKind.u64.bits=m%64:=by have:IntKind.u64.bits=64:=rfl;omega
  have e7:Ac0 .u64 (((2^(m%64)-1:Nat)):Int)=((2^(m%64)-1:Nat):Int):=A0l _ aC;rw [E0,E0,Q7,Q7,f0,f1];generalize wb p 0 64=x0 at*;generalize wb p 64 64=x1 at*;rw [<-e3];generalize ((2^(m%64)-1:Nat):Int)=K at*;generalize hjj:m%64=j at*;simp -implicitDefEqProofs (disch:=first|omega|(simp;done)|assumption) [h0,h1,h2,e2,e4,e6,e7,jR]
 ·have f0:wb (Aon p m) 0 64=wb p 0 64&&&(2^m-1):=by
   rw [Bg0 _ _ _ (by omega)]
   refine Aah λ j _=> ?_
   unfold Aon;congr 1;exact decide_eq_decide.2 (by omega)
  have f1:wb (Aon p m) 64 64=0:=Ago λ j _=>by unfold Aon;simp;omega
  have aC:2^m-1<2^64:=Nat.lt_of_le_of_lt (Nat.sub_le _ _) (Nat.pow_lt_pow_right (by decide) (by omega))
  have e3:=A6h w0 aC;have e4:=Bsz m (by omega)
  have jR:¬(m:Int)<0:=by omega
  have e6:min m IntKind.u64.bits=m:=by have:IntKind.u64.bits=64:=rfl;omega
  have e7:Ac0 .u64 (((2^m-1:Nat)):Int)=((2^m-1:Nat):Int):=A0l _ aC;rw [E0,E0,Q7,Q7,f0,f1];generalize wb p 0 64=x0 at*;generalize wb p 64 64=x1 at*;rw [<-e3];generalize ((2^m-1:Nat):Int)=K at*;simp -implicitDefEqProofs (disch:=first|omega|(simp;done)|assumption) [h0,h1,h2,e4,e6,e7,jR]
theorem A0m (Γ:H6)(M:Nat)(hB:A7a (Γ 615))(hS:Bcu (Γ 617)):Bcv (run Γ M Afo):=by
 intro p n;have e1:=hB p n;have e2:=hS p (Aon p n);have e:E0 (Bsx p n)=E0 (Bwc p (Aon p n)):=Aiw λ m _=>by
  grind [Bsx,Bwc,Aon]
 rw [e];simp only [E0,Q7]at e1 e2 ⊢;generalize wb p 0 64=x0 at*;generalize wb p 64 64=x1 at*;simp -implicitDefEqProofs (disch:=first|omega|(simp;done)|assumption) [e1,e2]
def bD (p:Nat->Bool):List D:=(List.range 128).map λ m=>D.bool (p m)
def bR (p:Nat->Bool):List AV:=(List.range 128).map λ m=>AV.c (.bool (p m))
theorem Aay (p:Nat->Bool):(bR p).length=128:=by simp [bR]
theorem A0n (p:Nat->Bool):(bD p).length=128:=by simp [bD]
theorem Au8 (p:Nat->Bool){m:Nat}(h:m<128):(bR p)[m]? =some (.c (.bool (p m))):=by simp [bR,h]
theorem Bwe (p:Nat->Bool):A4 (bD p)=bR p:=by simp [bD,bR,A4]
theorem Aai (k:Nat)(p:Nat->Bool):M0 k (bR p)=true:=by
 unfold bR;generalize List.range 128=l
 induction l<;>simp_all
theorem Axz (p:Nat->Bool):List.map D.cell (bD p)=bR p:=by
 unfold bD bR;rw [B8c];rfl
theorem Bg2 (p:Nat->Bool):Agx (bR p)=some (bD p):=by rw [<-Bwe];exact Aly _
theorem Bz5 (p:Nat->Bool)(n:Nat)(h:n<128):(bR p).take n++AV.c (.bool true)::(bR p).drop (n+1)=bR (Amz p n):=by
 apply List.ext_getElem?;grind [Aay,Au8,Nat.lt_trichotomy,List.getElem?_append_left,List.length_take,Amz,List.getElem?_append_right,Nat.min_eq_left,List.getElem?_cons_succ,List.getElem?_eq_none,bR,List.length_append,List.length_cons,List.length_drop]
def Aoo (g:List AV->Option (List AV)):Prop:=∀p:Nat->Bool,g [.agg (bD p)]=some [E0 p]
def Aej (p:Nat->Bool)(c:Nat):Nat:=wb p c (64-c)
def Adf (p:Nat->Bool)(c:Nat):Nat:=if c<64 then wb p 64 64 else wb p c (128-c)
theorem Ad4 (Γ:H6)(M:Nat)(hM:200<M):Aoo (run Γ M N2):=by
 intro p;have aP:∃ax s',(ax= .ex 0/\s'=⟨[(2,.loc 2 0 0),(3,.loc 3 0 0)],[(2,⟨2,[z2R]⟩),(3,⟨2,[Af2 p]⟩)]⟩)/\∀s0,nrm [1,2,3,4] [1,2,3] s0=⟨[(1,.loc 1 0 0),(2,.loc 2 0 0),(3,.loc 3 0 0),(4,i64 ((128:Nat)-1:Int))],[(1,⟨128,[bR p]⟩),(2,⟨2,[z2R]⟩),(3,⟨2,[[.c (.int .u64 (Aej p 128:Nat)),.c (.int .u64 (Adf p 128:Nat))]]⟩)]⟩->lp (exec Γ M Amu) M s0=some (ax,s'):=by
  refine Add (λ c:Nat=>⟨[(1,.loc 1 0 0),(2,.loc 2 0 0),(3,.loc 3 0 0),(4,i64 ((c:Nat)-1:Int))],[(1,⟨128,[bR p]⟩),(2,⟨2,[z2R]⟩),(3,⟨2,[[.c (.int .u64 (Aej p c:Nat)),.c (.int .u64 (Adf p c:Nat))]]⟩)]⟩) (λ c=>c<=128) (λ c=>c) _ 128 M (by simp) (by omega) (by omega) ?_
  intro c hc;by_cases h0:c=0
  ·subst h0;have e0:Aej p 0=wb p 0 64:=rfl;have e1:Adf p 0=wb p 64 64:=rfl;rw [e0,e1];simp -implicitDefEqProofs (disch:=first|omega|(simp;done)|assumption)
  ·obtain⟨n,rfl⟩:∃n,c=n+1:=⟨c-1,by omega⟩
   have e:(((n+1:Nat):Int))-1=n:=by omega
   have hn:n<128:=by omega
   have wN:n<=127:=by omega
   have hb:=Au8 p hn;have fZ:=Aay p;have iB:∀h,(bR p)[n]'h= .c (.bool (p n)):=λ h=>by rw [B6w h]at hb;simpa using hb
   rw [e];generalize bR p=R at*;by_cases tX:n<64
   ·have d0:(n:Int)/64=0:=by omega
    have u1:Adf p (n+1)=Adf p n:=by
     grind [Adf]
    have u0:Aej p n=2*Aej p (n+1)+(if p n then 1 else 0):=by
     unfold Aej;rw [show 64-n=(64-(n+1))+1 by omega,Bct]
    have lt0:Aej p (n+1)<=9223372036854775807:=by
     have:=Acl p (n+1) (64-(n+1));have h2:2^(64-(n+1))<=2^63:=B9o (by omega) (by omega)
     unfold Aej;omega
    generalize Adf p (n+1)=x1 at u1 ⊢;generalize Aej p (n+1)=x0 at u0 lt0 ⊢;cases hp:p n
    ·rw [hp]at hb iB;simp -implicitDefEqProofs (disch:=first|omega|(simp;done)|assumption) [hn,wN,hb,iB,fZ,d0];grind
    ·rw [hp]at hb iB;simp -implicitDefEqProofs (disch:=first|omega|(simp;done)|assumption) [hn,wN,hb,iB,fZ,d0];grind
   ·have d0:(n:Int)/64=1:=by omega
    have u0:Aej p n=0/\Aej p (n+1)=0:=by
     unfold Aej;rw [show 64-n=0 by omega,show 64-(n+1)=0 by omega]
     exact⟨rfl,rfl⟩
    have u1:Adf p n=2*Adf p (n+1)+(if p n then 1 else 0):=by
     unfold Adf;rw [B6j tX,B6j (by omega),show 128-n=(128-(n+1))+1 by omega,Bct]
    have lt1:Adf p (n+1)<=9223372036854775807:=by
     have:=Acl p (n+1) (128-(n+1));have h2:2^(128-(n+1))<=2^63:=B9o (by omega) (by omega)
     unfold Adf;rw [B6j (by omega)]
     omega
    obtain⟨u2,u3⟩:=u0;rw [u3];generalize Adf p (n+1)=x0 at u1 lt1 ⊢;cases hp:p n
    ·rw [hp]at hb iB;simp -implicitDefEqProofs (disch:=first|omega|(simp;done)|assumption) [hn,wN,hb,iB,fZ,d0];grind
    ·rw [hp]at hb iB;simp -implicitDefEqProofs (disch:=first|omega|(simp;done)|assumption) [hn,wN,hb,iB,fZ,d0];grind
 obtain⟨ax,s',⟨rfl,rfl⟩,bK⟩:=aP;have z0:Aej p 128=0:=rfl;have z1:Adf p 128=0:=by unfold Adf;rw [B6j (by omega)];rfl
 rw [z0,z1]at bK;have hbt:List.map D.cell (bD p)=bR p:=Axz p;have cS:∀k,M0 k (bR p)=true:=λ k=>Aai k p
 have aO:=bK ⟨[(1,.loc 1 0 0),(2,.loc 2 0 0),(3,.loc 3 0 0),(4,i64 127)],[(1,⟨128,[bR p]⟩),(2,⟨2,[z2R]⟩),(3,⟨2,[z2R]⟩)]⟩ (by simp)
 have jJ:=A0n p;have eQ:=Aay p;generalize bD p=B at*;generalize bR p=R at*;simp -implicitDefEqProofs (disch:=first|omega|(simp;done)|assumption) [aO,jJ,hbt,cS,eQ]
def Avi (g:List AV->Option (List AV)):Prop:=∀l:List Int,l.length<=1000->g [.c (.vs 1 (l.map iD))]=some [E0 (B4 l)]
theorem A7b :List.replicate 128 (AV.c (.bool false))=bR (B4 []):=by
 have:∀m,B4 [] m=false:=λ m=>by simp [B4]
 unfold bR;simp only [this];rfl
theorem Ah2 (Γ:H6)(M:Nat)(hM:2000<M)(hMk:Aoo (Γ 533)):Avi (run Γ M V7):=by
 intro l hl;have aZ:Bfc= .op (some 3) (.alc 3 (List.replicate 128 (AV.c (.bool false)))) .done:=rfl;rw [A7b]at aZ;have uO:bR (B4 (l.take 0))=bR (B4 []):=rfl;have aP:∃ax s',(ax= .ex 0/\s'=⟨[(2,.loc 2 0 0),(3,.loc 3 0 0)],[(2,⟨2,[z2R]⟩),(3,⟨128,[bR (B4 l)]⟩)]⟩)/\∀s0,nrm [0,2,3,4] [2,3] s0=⟨[(0,.c (.vs 1 (l.map iD))),(2,.loc 2 0 0),(3,.loc 3 0 0),(4,i64 (0:Nat))],[(2,⟨2,[z2R]⟩),(3,⟨128,[bR (B4 (l.take 0))]⟩)]⟩->lp (exec Γ M Atm) M s0=some (ax,s'):=by
  refine Add (λ q:Nat=>⟨[(0,.c (.vs 1 (l.map iD))),(2,.loc 2 0 0),(3,.loc 3 0 0),(4,i64 q)],[(2,⟨2,[z2R]⟩),(3,⟨128,[bR (B4 (l.take q))]⟩)]⟩) (λ q=>q<=l.length) (λ q=>l.length-q) _ 0 M (by simp) (by omega) (by omega) ?_
  intro q hq;by_cases aC:q<l.length
  ·obtain⟨n,hn⟩:∃n,l[q]=n:=⟨_,rfl⟩;have aM:(l.map iD)[q]? =some [.int .i64 n]:=by simp [aC,hn,iD]
   have jW:∀h,(l.map iD)[q]'h=[.int .i64 n]:=λ h=>by rw [B6w h]at aM;simpa using aM
   have aY:B4 (l.take (q+1))=Amz (B4 (l.take q)) n:=by rw [Aiv,B75 aC,hn]
   have fZ:=Aay (B4 (l.take q));have cS:∀k,M0 k (bR (B4 (l.take q)))=true:=λ k=>Aai k _
   by_cases h0:0<=n/\n<128
   ·obtain⟨m,rfl⟩:∃m:Nat,n=m:=⟨n.toNat,by omega⟩
    have hm:m<128:=by omega
    have cJ:m<=127:=by omega
    have bZ:=Bz5 (B4 (l.take q)) m hm;rw [<-aY]at bZ;generalize bR (B4 (l.take q))=R at*;simp -implicitDefEqProofs (disch:=first|omega|(simp;done)|assumption) [aC,hn,aM,jW,fZ,hm,cJ,bZ];grind
   ·have lG:bR (B4 (l.take (q+1)))=bR (B4 (l.take q)):=by
     rw [aY];unfold bR;grind [List.map_congr_left,Amz]
    generalize bR (B4 (l.take q))=R at*;by_cases h1:0<=n
    ·have h2:¬n<128:=by omega
     simp -implicitDefEqProofs (disch:=first|omega|(simp;done)|assumption) [aC,hn,aM,jW,fZ,h1,h2];grind
    ·simp -implicitDefEqProofs (disch:=first|omega|(simp;done)|assumption) [aC,hn,aM,jW,fZ,h1];grind
  ·obtain rfl:q=l.length:=by omega
   rw [B7s];generalize bR (B4 l)=R at*;simp -implicitDefEqProofs (disch:=first|omega|(simp;done)|assumption)
 obtain⟨ax,s',⟨rfl,rfl⟩,bK⟩:=aP;rw [uO]at bK;have aO:=bK ⟨[(0,.c (.vs 1 (l.map iD))),(2,.loc 2 0 0),(3,.loc 3 0 0),(4,i64 0)],[(2,⟨2,[z2R]⟩),(3,⟨128,[bR (B4 [])]⟩)]⟩ (by generalize bR (B4 [])=R;simp)
 have fZ:=Aay (B4 []);have mM:=Aay (B4 l);have cS:∀k,M0 k (bR (B4 []))=true:=λ k=>Aai k _
 have hall:=Bg2 (B4 l);have aS:=hMk (B4 l);have jJ:=A0n (B4 l);have dC:List.take 128 (bR (B4 l))=bR (B4 l):=B6y (by omega)
 generalize bR (B4 [])=R0 at*;generalize bR (B4 l)=R1 at*;generalize bD (B4 l)=B1 at*;simp -implicitDefEqProofs (disch:=first|omega|(simp;done)|assumption) [-Bfc,aZ,aO,fZ,mM,cS,hall,aS,jJ,dC]
def A6 (p:Nat->Bool)(k:Nat):List Int:=((List.range k).filter p).map λ(m:Nat)=>(m:Int)
theorem Atn (p:Nat->Bool)(k:Nat):A6 p (k+1)=A6 p k++if p k=true then [(k:Int)]else []:=by
 grind [A6,List.range_succ]
theorem M1 (p:Nat->Bool)(k:Nat):(A6 p k).length<=k:=by
 grind [A6,List.length_map,Nat.le_trans,List.length_filter_le,List.length_range]
theorem Aop {p:Nat->Bool}{k:Nat}{n:Int}:n∈A6 p k↔∃m:Nat,m<k/\p m=true/\n=m:=by
 grind [A6]
def Al3 (g:List AV->Option (List AV)):Prop:=∀p:Nat->Bool,g [E0 p]=some [.agg (bD p)]
def Aqr (g:List AV->Option (List AV)):Prop:=∀p:Nat->Bool,g [E0 p]=some [.c (.vs 1 ((A6 p 128).map iD))]
theorem Bz6 (q:Nat->Bool)(n:Nat)(b:Bool)(h:n<128):(bR q).take n++AV.c (.bool b)::(bR q).drop (n+1)=bR (λ m=>if m=n then b else q m):=by
 apply List.ext_getElem?;grind [Aay,Au8,Nat.lt_trichotomy,List.getElem?_append_left,List.length_take,List.getElem?_append_right,Nat.min_eq_left,List.getElem?_cons_succ,List.getElem?_eq_none,bR,List.length_append,List.length_cons,List.length_drop]
theorem A97 {p q:Nat->Bool}(h:∀m,m<128->p m=q m):bR p=bR q:=by
 grind [bR,List.map_congr_left]
def Aoq (p:Nat->Bool)(c:Nat):Nat->Bool:=λ m=>p m&&decide (m<c)
theorem Bka (p:Nat->Bool)(c:Nat):(λ m=>if m=c then p c else Aoq p c m)=Aoq p (c+1):=by
 grind [Aoq]
theorem Af3 (Γ:H6)(M:Nat)(hM:200<M):Al3 (run Γ M Q6):=by
 intro p;have hr:Bfe= .op (some 1) (.box 1 (.t 0)) (.op (some 2) (.alc 2 (List.replicate 128 (AV.c (.bool false)))) .done):=rfl;have aZ:Bfd= .op (some 3) (.alc 3 (List.replicate 128 (AV.c (.bool false)))) .done:=rfl;rw [A7b]at hr aZ;have aP:∃ax s',(ax= .ex 0/\s'=⟨[(2,.loc 2 0 0),(3,.loc 3 0 0)],[(2,⟨128,[bR (B4 [])]⟩),(3,⟨128,[bR (Aoq p 128)]⟩)]⟩)/\∀s0,nrm [1,2,3,4] [1,2,3] s0=⟨[(1,.loc 1 0 0),(2,.loc 2 0 0),(3,.loc 3 0 0),(4,i64 (0:Nat))],[(1,⟨2,[[.c (.int .u64 (Aej p 0:Nat)),.c (.int .u64 (Adf p 0:Nat))]]⟩),(2,⟨128,[bR (B4 [])]⟩),(3,⟨128,[bR (Aoq p 0)]⟩)]⟩->lp (exec Γ M Apm) M s0=some (ax,s'):=by
  generalize bR (B4 [])=R0;refine Add (λ c:Nat=>⟨[(1,.loc 1 0 0),(2,.loc 2 0 0),(3,.loc 3 0 0),(4,i64 c)],[(1,⟨2,[[.c (.int .u64 (Aej p c:Nat)),.c (.int .u64 (Adf p c:Nat))]]⟩),(2,⟨128,[R0]⟩),(3,⟨128,[bR (Aoq p c)]⟩)]⟩) (λ c=>c<=128) (λ c=>128-c) _ 0 M (by simp) (by omega) (by omega) ?_
  intro c hc;by_cases aC:c<128
  ·have bZ:=λ b=>Bz6 (Aoq p c) c b aC
   have nH:=Bka p c;have fZ:=Aay (Aoq p c);have mN:c<=127:=by omega
   by_cases tX:c<64
   ·have d0:(c:Int)/64=0:=by omega
    have u0:Aej p c=2*Aej p (c+1)+(if p c then 1 else 0):=by
     unfold Aej;rw [show 64-c=(64-(c+1))+1 by omega,Bct]
    have u1:Adf p (c+1)=Adf p c:=by
     grind [Adf]
    have lt0:Aej p c<18446744073709551616:=by
     have h1:=Acl p c (64-c);have h2:2^(64-c)<=2^64:=B9o (by omega) (by omega)
     unfold Aej;omega
    have hq:∃q':Nat,q'=c+1/\Adf p q'=Adf p c/\Aej p q'=Aej p (c+1)/\bR (Aoq p q')=bR (λ m=>if m=c then p c else Aoq p c m):=⟨c+1,rfl,u1,rfl,by rw [nH]⟩
    obtain⟨q',rJ,v1,v0,vb⟩:=hq;clear u1 nH;generalize hb:bR (Aoq p c)=R at*;have bZ:=bZ (p c);rw [<-vb]at bZ;rw [<-v0]at u0;rw [<-v1];cases hp:p c
    all_goals
     rw [hp]at u0 bZ;simp only [B6p,B7d,B68,B8y]at u0;rw [u0]at lt0 ⊢;generalize hD:Aej p q'=D at*;simp -implicitDefEqProofs (disch:=first|omega|(simp;done)|assumption) [aC,mN,d0,bZ,fZ];refine⟨q',?_,by omega,by omega⟩
     rw [hD];simp;omega
   ·have d0:(c:Int)/64=1:=by omega
    have u1:Adf p c=2*Adf p (c+1)+(if p c then 1 else 0):=by
     unfold Adf;rw [B6j tX,B6j (by omega),show 128-c=(128-(c+1))+1 by omega,Bct]
    have u0:Aej p (c+1)=Aej p c:=by
     unfold Aej;rw [show 64-c=0 by omega,show 64-(c+1)=0 by omega]
     rfl
    have lt1:Adf p c<18446744073709551616:=by
     have h1:=Acl p c (128-c);have h2:2^(128-c)<=2^64:=B9o (by omega) (by omega)
     unfold Adf;rw [B6j tX];omega
    have hq:∃q':Nat,q'=c+1/\Aej p q'=Aej p c/\Adf p q'=Adf p (c+1)/\bR (Aoq p q')=bR (λ m=>if m=c then p c else Aoq p c m):=⟨c+1,rfl,u0,rfl,by rw [nH]⟩
    obtain⟨q',rJ,v0,v1,vb⟩:=hq;clear u0 nH;generalize hb:bR (Aoq p c)=R at*;have bZ:=bZ (p c);rw [<-vb]at bZ;rw [<-v1]at u1;rw [<-v0];cases hp:p c
    all_goals
     rw [hp]at u1 bZ;simp only [B6p,B7d,B68,B8y]at u1;rw [u1]at lt1 ⊢;generalize hD:Adf p q'=D at*;simp -implicitDefEqProofs (disch:=first|omega|(simp;done)|assumption) [aC,mN,d0,bZ,fZ];refine⟨q',?_,by omega,by omega⟩
     rw [hD];simp;omega
  ·obtain rfl:c=128:=by omega
   generalize bR (Aoq p 128)=R1;simp -implicitDefEqProofs (disch:=first|omega|(simp;done)|assumption)
 obtain⟨ax,s',⟨rfl,rfl⟩,bK⟩:=aP;have b0:bR (Aoq p 0)=bR (B4 []):=A97 λ m _=>by simp [Aoq,B4]
 have b1:bR (Aoq p 128)=bR p:=A97 λ m hm=>by simp [Aoq,hm]
 have z0:Aej p 0=wb p 0 64:=rfl;have z1:Adf p 0=wb p 64 64:=rfl;rw [b0,b1,z0,z1]at bK;have fZ:=Aay (B4 []);have mM:=Aay p;have cS:∀k,M0 k (bR (B4 []))=true:=λ k=>Aai k _
 have hall:=Bg2 p;have jJ:=A0n p;have dC:List.take 128 (bR p)=bR p:=B6y (by omega)
 have fP:=Axz p;rw [E0,Q7];generalize wb p 0 64=x0 at*;generalize wb p 64 64=x1 at*;generalize bR (B4 [])=R0 at*;generalize bR p=R1 at*;generalize bD p=B1 at*;have aO:=bK ⟨[(1,.loc 1 0 0),(2,.loc 2 0 0),(3,.loc 3 0 0),(4,i64 0)],[(1,⟨2,[[.c (.int .u64 (x0:Nat)),.c (.int .u64 (x1:Nat))]]⟩),(2,⟨128,[R0]⟩),(3,⟨128,[R0]⟩)]⟩ (by simp)
 simp -implicitDefEqProofs (disch:=first|omega|(simp;done)|assumption) [hr,aZ,aO,fZ,mM,cS,hall,jJ,dC,fP]
theorem A98 (k:Nat)(p:Nat->Bool):Al0 k (bR p)=true:=by
 unfold bR;generalize List.range 128=l
 induction l<;>simp_all
theorem Byt (p:Nat->Bool)(m:Nat)(h:m<128):∀h2,(bR p)[m]'h2= .c (.bool (p m)):=λ h2=>by
 have:=Au8 p h;grind [List.getElem?_eq_getElem]
theorem Aiy (Γ:H6)(M:Nat)(hM:200<M)(hR:Al3 (Γ 616)):Aqr (run Γ M R6):=by
 intro p;have aZ:Bff= .op (some 6) (.ld (.t 1) 2 true) (.op (some 7) (.call 616 [.t 6]) (.op (some 3) (.alc 3 (List.replicate 128 (AV.c (.bool false)))) (.op none (.sto 128 (.t 3) (.t 7)) .done))):=rfl;rw [A7b]at aZ;have aM:=hR p;obtain⟨ax,s',⟨rfl,rfl⟩,aP⟩:∃ax s',(ax= .ex 0/\s'=⟨[(4,.sl 4 (A6 p 128).length 0 (A6 p 128).length)],[(4,⟨1,(A6 p 128).map (A4∘iD)⟩)]⟩)/\∀s0,nrm [3,4,5] [3,4,18] s0=⟨[(3,.loc 3 0 0),(4,.sl 4 (A6 p 0).length 0 (A6 p 0).length),(5,i64 (0:Nat))],[(3,⟨128,[bR p]⟩),(4,⟨1,(A6 p 0).map (A4∘iD)⟩)]⟩->lp (exec Γ M Aj3) M s0=some (ax,s'):=by
  refine Add (λ c:Nat=>⟨[(3,.loc 3 0 0),(4,.sl 4 (A6 p c).length 0 (A6 p c).length),(5,i64 c)],[(3,⟨128,[bR p]⟩),(4,⟨1,(A6 p c).map (A4∘iD)⟩)]⟩) (λ c=>c<=128) (λ c=>128-c) _ 0 M (by simp) (by omega) (by omega) ?_
  intro c hc;by_cases aC:c<128
  ·have mN:c<=127:=by omega
   have hs:=Atn p c;have cI:=M1 p c;have tL:=Byt p c aC;have aV:=Au8 p aC;have fZ:=Aay p;have hlc:∀k,Al0 k (bR p)=true:=λ k=>A98 k p
   have cS:∀k,M0 k (bR p)=true:=λ k=>Aai k p
   have w1:((A6 p c).map (A4∘iD)).length=(A6 p c).length:=B6s _;have v1:=λ k=>J4 k iD (A6 p c)
   have v2:=λ k=>L6 k iD (A6 p c)
   have hq:∃q':Nat,q'=c+1/\A6 p q'=A6 p c++if p c=true then [(c:Int)]else []:=⟨c+1,rfl,hs⟩
   obtain⟨q',rJ,s1⟩:=hq;clear hs;generalize hW:A6 p q'=W at*;generalize A6 p c=V at*;generalize bR p=R at*;cases hp:p c
   all_goals
    rw [hp]at s1 tL aV;simp only [B6p,B7d,B68,B71]at s1;simp -implicitDefEqProofs (disch:=first|omega|(simp;done)|assumption) [aC,mN,tL,aV,fZ,w1,v1,v2,hlc,cS];refine⟨q',?_,by omega,by omega⟩
    rw [hW];simp [s1,iD,A4];omega
  ·obtain rfl:c=128:=by omega
   generalize bR p=R at*;simp -implicitDefEqProofs (disch:=first|omega|(simp;done)|assumption)
 have aO:=aP ⟨[(3,.loc 3 0 0),(4,.sl 4 0 0 0),(5,i64 0)],[(3,⟨128,[bR p]⟩),(4,⟨1,[]⟩)]⟩ (by generalize bR p=R;simp [A6])
 have fZ:=Aay (B4 []);have mM:=Aay p;have cS:∀k,M0 k (bR (B4 []))=true:=λ k=>Aai k _
 have vA:∀k,M0 k (bR p)=true:=λ k=>Aai k _
 have jJ:=A0n p;have fP:=Axz p;have ha:=G7 iD (A6 p 128);have cI:=M1 p 128;have w1:((A6 p 128).map (A4∘iD)).length=(A6 p 128).length:=B6s _;have ht:((A6 p 128).map iD).take (A6 p 128).length=(A6 p 128).map iD:=by rw [B6y];rw [B6s];omega
 have gU:(bR (B4 [])).drop 128=[]:=B84 (by omega)
 rw [E0,Q7]at*;generalize wb p 0 64=x0 at*;generalize wb p 64 64=x1 at*;generalize bR (B4 [])=R0 at*;generalize bR p=R1 at*;generalize bD p=B1 at*;simp -implicitDefEqProofs (disch:=first|omega|(simp;done)|assumption) [aZ,gU,aM,aO,fZ,mM,cS,vA,jJ,fP,ha,w1,ht]
def Bmd (g:PG):Prop:=∀p:Nat->Bool,g ⟨[(0,E0 p)],[]⟩=some ([.sl 741004 (A6 p 128).length 0 (A6 p 128).length],[(741004,⟨1,(A6 p 128).map (A4∘iD)⟩)])
theorem Apa (Γ:H6)(M:Nat)(hM:200<M)(hR:Al3 (Γ 616)):Bmd (H9 Γ M Z0):=by
 intro p;have aZ:Bfg= .op (some 6) (.ld (.t 1) 2 true) (.op (some 7) (.call 616 [.t 6]) (.op (some 3) (.alc 741003 (List.replicate 128 (AV.c (.bool false)))) (.op none (.sto 128 (.t 3) (.t 7)) .done))):=rfl;rw [A7b]at aZ;have aM:=hR p;obtain⟨ax,s',⟨rfl,rfl⟩,aP⟩:∃ax s',(ax= .ex 0/\s'=⟨[(4,.sl 741004 (A6 p 128).length 0 (A6 p 128).length)],[(741004,⟨1,(A6 p 128).map (A4∘iD)⟩)]⟩)/\∀s0,U9 [3,4,5] 741000 742000 [741003,741004,741018] s0=⟨[(3,.loc 741003 0 0),(4,.sl 741004 (A6 p 0).length 0 (A6 p 0).length),(5,i64 (0:Nat))],[(741004,⟨1,(A6 p 0).map (A4∘iD)⟩),(741003,⟨128,[bR p]⟩)]⟩->lp (exec Γ M Agd) M s0=some (ax,s'):=by
  refine I0 (λ c:Nat=>⟨[(3,.loc 741003 0 0),(4,.sl 741004 (A6 p c).length 0 (A6 p c).length),(5,i64 c)],[(741004,⟨1,(A6 p c).map (A4∘iD)⟩),(741003,⟨128,[bR p]⟩)]⟩) (λ c=>c<=128) (λ c=>128-c) _ 0 M (by omega) (by omega) ?_
  intro c hc;by_cases aC:c<128
  ·have mN:c<=127:=by omega
   have hs:=Atn p c;have cI:=M1 p c;have tL:=Byt p c aC;have aV:=Au8 p aC;have fZ:=Aay p;have hlc:∀k,Al0 k (bR p)=true:=λ k=>A98 k p
   have cS:∀k,M0 k (bR p)=true:=λ k=>Aai k p
   have w1:((A6 p c).map (A4∘iD)).length=(A6 p c).length:=B6s _;have v1:=λ k=>J4 k iD (A6 p c)
   have v2:=λ k=>L6 k iD (A6 p c)
   have hq:∃q':Nat,q'=c+1/\A6 p q'=A6 p c++if p c=true then [(c:Int)]else []:=⟨c+1,rfl,hs⟩
   obtain⟨q',rJ,s1⟩:=hq;clear hs;generalize hW:A6 p q'=W at*;generalize A6 p c=V at*;generalize bR p=R at*;cases hp:p c
   all_goals
    rw [hp]at s1 tL aV;simp only [B6p,B7d,B68,B71]at s1;simp -implicitDefEqProofs (disch:=first|omega|(simp;done)|assumption) [aC,mN,tL,aV,fZ,w1,v1,v2,hlc,cS];refine⟨q',?_,by omega,by omega⟩
    rw [hW];simp [s1,iD,A4];omega
  ·obtain rfl:c=128:=by omega
   generalize bR p=R at*;simp -implicitDefEqProofs (disch:=first|omega|(simp;done)|assumption)
 have aO:=aP ⟨[(3,.loc 741003 0 0),(4,.sl 741004 0 0 0),(5,i64 0)],[(741004,⟨1,[]⟩),(741003,⟨128,[bR p]⟩)]⟩ (by generalize bR p=R;simp [A6])
 have fZ:=Aay (B4 []);have mM:=Aay p;have cS:∀k,M0 k (bR (B4 []))=true:=λ k=>Aai k _
 have vA:∀k,M0 k (bR p)=true:=λ k=>Aai k _
 have jJ:=A0n p;have fP:=Axz p;have ha:=G7 iD (A6 p 128);have cI:=M1 p 128;have w1:((A6 p 128).map (A4∘iD)).length=(A6 p 128).length:=B6s _;have ht:((A6 p 128).map iD).take (A6 p 128).length=(A6 p 128).map iD:=by rw [B6y];rw [B6s];omega
 have gU:(bR (B4 [])).drop 128=[]:=B84 (by omega)
 rw [E0,Q7]at*;generalize wb p 0 64=x0 at*;generalize wb p 64 64=x1 at*;generalize bR (B4 [])=R0 at*;generalize bR p=R1 at*;generalize bD p=B1 at*;simp -implicitDefEqProofs (disch:=first|omega|(simp;done)|assumption) [aZ,gU,aM,aO,fZ,mM,cS,vA,jJ,fP,ha,w1,ht]
theorem Am1 (Γ:H6)(M:Nat)(hM:200<M):Aix (run Γ M Aav):=by
 intro p n;by_cases h0:n<0
 ·have e:Ala p n=false:=by unfold Ala;simp;omega
  rw [e];simp -implicitDefEqProofs (disch:=first|omega|(simp;done)|assumption) [h0]
 by_cases h1:127<n
 ·have e:Ala p n=false:=by unfold Ala;simp;omega
  rw [e];simp -implicitDefEqProofs (disch:=first|omega|(simp;done)|assumption) [h0,h1]
 obtain⟨m,rfl⟩:∃m:Nat,n=m:=⟨n.toNat,by omega⟩
 have hm:m<128:=by omega
 have e:Ala p m=p m:=by unfold Ala;simp;omega
 rw [e];obtain⟨a,ha,haw,eP⟩:∃a,(m<64->a=0)/\(64<=m->a=64)/\(wb p a 64).testBit (m%64)=p m:=by
  by_cases h:m<64
  ·exact⟨0,λ _=>rfl,λ h=>by omega,by rw [Acm,B8f (by omega),B9m];congr 1;omega⟩
  ·exact⟨64,λ h=>by omega,λ _=>rfl,by rw [Acm,B8f (by omega),B9m];congr 1;omega⟩
 have hw:wb p a 64<=18446744073709551615:=by have:=Acl p a 64;omega
 have aP:∃ax s',(ax= .ex 0/\s'=⟨[(5,.c (.int .u64 (wb p a 64/2^(m%64):Nat)))],[]⟩)/\∀s0,nrm [1,5,6] [] s0=⟨[(1,i64 m),(5,.c (.int .u64 (wb p a 64/2^0:Nat))),(6,i64 (0:Nat))],[]⟩->lp (exec Γ M Apn) M s0=some (ax,s'):=by
  refine Add (λ c:Nat=>⟨[(1,i64 m),(5,.c (.int .u64 (wb p a 64/2^c:Nat))),(6,i64 c)],[]⟩) (λ c=>c<=m%64) (λ c=>m%64-c) _ 0 M (by simp) (by omega) (by omega) ?_
  intro c hc;have cI:wb p a 64/2^c<=wb p a 64:=Nat.div_le_self _ _;by_cases aC:c<m%64
  ·have bO:(c:Int)<(m:Int)%64:=by omega
   have hd:wb p a 64/2^(c+1)=wb p a 64/2^c/2:=by rw [Nat.pow_succ,Nat.div_div_eq_div_mul]
   have hq:∃q':Nat,q'=c+1/\wb p a 64/2^q'=wb p a 64/2^c/2:=⟨c+1,rfl,hd⟩;obtain⟨q',rJ,s1⟩:=hq;clear hd;generalize hD:wb p a 64/2^q'=D at*;generalize wb p a 64/2^c=E at*;simp -implicitDefEqProofs (disch:=first|omega|(simp;done)|assumption) [bO];grind [wb]
  ·have bO:¬(c:Int)<(m:Int)%64:=by omega
   obtain rfl:c=m%64:=by omega
   generalize wb p a 64/2^(m%64)=E at*;simp -implicitDefEqProofs (disch:=first|omega|(simp;done)|assumption) [bO]
 obtain⟨ax,s',⟨rfl,rfl⟩,bK⟩:=aP;rw [Nat.testBit_eq_decide_div_mod_eq]at eP;have hE:wb p a 64/2^(m%64)<=wb p a 64:=Nat.div_le_self _ _;rw [Nat.pow_zero,Nat.div_one]at bK;generalize wb p a 64/2^(m%64)=E at*;have aO:=bK ⟨[(1,i64 m),(5,.c (.int .u64 (wb p a 64:Nat))),(6,i64 0)],[]⟩ (by simp)
 have hEm:((E:Int)%2=1)↔p m=true:=by rw [<-eP];simp;omega
 by_cases h2:m<64
 ·obtain rfl:=ha h2;have d0:(m:Int)/64=0:=by omega
  rw [E0,Q7];generalize wb p 0 64=x0 at*;generalize wb p 64 64=x1 at*;simp -implicitDefEqProofs (disch:=first|omega|(simp;done)|assumption) [h0,h1,d0,aO];grind
 ·obtain rfl:=haw (by omega)
  have d0:(m:Int)/64=1:=by omega
  rw [E0,Q7];generalize wb p 0 64=x0 at*;generalize wb p 64 64=x1 at*;simp -implicitDefEqProofs (disch:=first|omega|(simp;done)|assumption) [h0,h1,d0,aO];grind
structure Rd where
 id:Int
 to:Int
 deriving DecidableEq
def Rd.cells (r:Rd):List D:=[.int .i64 r.id,.int .i64 r.to]
structure Cr where
 pos:Int
 dir:Int
 mode:Int
 left:Int
 waited:Bool
 rid:List Rd
 deriving DecidableEq
def Cr.cells (c:Cr):List D:=[.int .i64 c.pos,.int .i64 c.dir,.int .i64 c.mode,.int .i64 c.left,.bool c.waited,.vs 2 (c.rid.map Rd.cells)]
attribute [simp] Rd.cells Cr.cells
def noP :Nat->Bool:=λ _=>false
def Acn (c:Cr):Nat->Bool:=B4 (c.rid.map (·.to))
def Aff (c:Cr)(cap:Int)(p:Nat->Bool):Nat->Bool:=if cap<=c.rid.length then noP else p
def Ax0 (c:Cr)(cap:Int)(p q:Nat->Bool):Nat->Bool:=orP (Acn c) (Aff c cap (orP p q))
def Bcw (p:Nat->Bool)(f d:Int):Nat->Bool:=if 0<d then Bsx p (f+1)else if d<0 then Aon p f else noP
def Bwf (p:Nat->Bool):Bool:=(List.range 128).any p
theorem Azd {p:Nat->Bool}:Bwf p=true↔∃m,m<128/\p m=true:=by
 grind [Bwf,List.any_eq_true]
theorem Bg3 :E0 noP= .agg [.int .u64 0,.int .u64 0]:=by
 unfold E0 Q7;rw [Ago λ j _=>rfl,Ago λ j _=>rfl];rfl
theorem Bkb (k:Nat):A6 noP k=[]:=by unfold A6 noP;simp
theorem Aft (p:Nat->Bool){m:Nat}(hm:m<128):B4 (A6 p 128) m=p m:=by
 grind [B4,List.any_eq_true,Aop]
theorem A3k (a b:List Int):B4 (a++b)=orP (B4 a) (B4 b):=by
 funext m;simp [B4,orP,List.any_append]
abbrev nuL (l:List Int):AV:= .c (.vs 1 (l.map iD))
def A7c (g:List AV->Option (List AV)):Prop:=∀c:Cr,c.rid.length<=100->g [.agg c.cells]=some [E0 (Acn c)]
def A0o (g:List AV->Option (List AV)):Prop:=∀c:Cr,c.rid.length<=100->g [.agg c.cells]=some [nuL (A6 (Acn c) 128)]
def Agt (g:List AV->Option (List AV)):Prop:=∀(c:Cr)(cap:Int),c.rid.length<=100->g [.agg c.cells,i64 cap]=some [bo (decide (cap<=c.rid.length))]
def Bs0 (g:List AV->Option (List AV)):Prop:=∀(c:Cr)(cap:Int)(p:Nat->Bool),c.rid.length<=100->g [.agg c.cells,i64 cap,E0 p]=some [E0 (Aff c cap p)]
def Aug (g:List AV->Option (List AV)):Prop:=∀(c:Cr)(cap:Int)(p:Nat->Bool),c.rid.length<=100->g [.agg c.cells,i64 cap,E0 p]=some [nuL (A6 (Aff c cap p) 128)]
def Ajs (g:List AV->Option (List AV)):Prop:=∀(c:Cr)(cap:Int)(p q:Nat->Bool),c.rid.length<=100->g [.agg c.cells,i64 cap,E0 p,E0 q]=some [E0 (Ax0 c cap p q)]
def Bwg (g:List AV->Option (List AV)):Prop:=∀(p:Nat->Bool)(f d:Int),(-1000000<=f/\f<=1000000)->g [E0 p,i64 f,i64 d]=some [E0 (Bcw p f d)]
def Ax1 (g:List AV->Option (List AV)):Prop:=∀(p:Nat->Bool)(f d:Int),∃L:List Int,g [E0 p,i64 f,i64 d]=some [nuL L]/\L.length<=128/\(0<L.length↔Bwf (Bcw p f d)=true)
theorem Av5 (Γ:H6)(M:Nat)(hM:200<M)(hW:A67 (Γ 527)):A7c (run Γ M Adm):=by
 rintro⟨ps,di,mo,le,wa,rs⟩ hl;dsimp only at hl;have z0:Af2 (B4 [])=z2R:=by
  have:B4 []=noP:=by funext m;simp [B4,noP]
  rw [this];unfold Af2;rw [Ago λ j _=>rfl,Ago λ j _=>rfl];rfl
 obtain⟨F,hF⟩:∃F:Nat->(Nat->Bool),∀k,F k=B4 ((rs.take k).map (·.to)):=⟨_,λ _=>rfl⟩
 have vB:∀k (h:k<rs.length),F (k+1)=Amz (F k) rs[k].to:=λ k h=>by
  rw [hF,hF,Aiv,B75 h,B60];rfl
 have kR:F 0=B4 []:=by rw [hF];simp
 have vC:F rs.length=Acn ⟨ps,di,mo,le,wa,rs⟩:=by rw [hF,B7s];rfl
 clear hF;obtain⟨ax,s',⟨rfl,rfl⟩,aP⟩:∃ax s',(ax= .ex 0/\s'=⟨[(2,.loc 2 0 0),(3,.loc 3 0 0)],[(2,⟨2,[z2R]⟩),(3,⟨2,[Af2 (F rs.length)]⟩)]⟩)/\∀s0,nrm [2,3,7,8,9] [2,3] s0=⟨[(2,.loc 2 0 0),(3,.loc 3 0 0),(7,.c (.vs 2 (rs.map Rd.cells))),(8,i64 rs.length),(9,i64 (0:Nat))],[(2,⟨2,[z2R]⟩),(3,⟨2,[Af2 (F 0)]⟩)]⟩->lp (exec Γ M Amv) M s0=some (ax,s'):=by
  refine Add (λ q:Nat=>⟨[(2,.loc 2 0 0),(3,.loc 3 0 0),(7,.c (.vs 2 (rs.map Rd.cells))),(8,i64 rs.length),(9,i64 q)],[(2,⟨2,[z2R]⟩),(3,⟨2,[Af2 (F q)]⟩)]⟩) (λ q=>q<=rs.length) (λ q=>rs.length-q) _ 0 M (by simp) (by omega) (by omega) ?_
  intro k hk;by_cases aC:k<rs.length
  ·obtain⟨r,hr⟩:∃r,rs[k]'aC=r:=⟨_,rfl⟩;have hs:=vB k aC;rw [hr]at hs;have e:=hW (F k) r.to;rw [<-hs]at e;simp -implicitDefEqProofs (disch:=first|omega|(simp;done)|assumption) [aC,hr,e];grind
  ·obtain rfl:k=rs.length:=by omega
   simp -implicitDefEqProofs (disch:=first|omega|(simp;done)|assumption)
 rw [kR,z0]at aP;have bK:=aP ⟨[(2,.loc 2 0 0),(3,.loc 3 0 0),(7,.c (.vs 2 (rs.map Rd.cells))),(8,i64 rs.length),(9,i64 0)],[(2,⟨2,[z2R]⟩),(3,⟨2,[z2R]⟩)]⟩ (by simp)
 rw [vC]at bK;generalize Acn ⟨ps,di,mo,le,wa,rs⟩=P at*;simp -implicitDefEqProofs (disch:=first|omega|(simp;done)|assumption) [bK]
theorem A0p (Γ:H6)(M:Nat):Agt (run Γ M Afp):=by
 rintro⟨ps,di,mo,le,wa,rs⟩ cap hl;simp -implicitDefEqProofs (disch:=first|omega|(simp;done)|assumption)
theorem Akd (Γ:H6)(M:Nat):Agt (run Γ M X0):=by
 rintro⟨ps,di,mo,le,wa,rs⟩ cap hl;simp -implicitDefEqProofs (disch:=first|omega|(simp;done)|assumption)
theorem Av6 (Γ:H6)(M:Nat)(hF:Agt (Γ 599)):Bs0 (run Γ M Adn):=by
 intro c cap p hl;have e:=hF c cap hl;unfold Aff;by_cases h:cap<=c.rid.length
 ·rw [B6l h,Bg3];simp only [h,decide_true]at e;simp only [E0,Q7];simp -implicitDefEqProofs (disch:=first|omega|(simp;done)|assumption)at e;simp -implicitDefEqProofs (disch:=first|omega|(simp;done)|assumption) [e]
 ·rw [B6j h];simp only [h,decide_false]at e;simp only [E0,Q7];simp -implicitDefEqProofs (disch:=first|omega|(simp;done)|assumption)at e;simp -implicitDefEqProofs (disch:=first|omega|(simp;done)|assumption) [e]
theorem Aiz (Γ:H6)(M:Nat)(hF:Agt (Γ 608))(hI:Aqr (Γ 611)):Aug (run Γ M R7):=by
 intro c cap p hl;have e:=hF c cap hl;have e2:=hI p;unfold Aff;by_cases h:cap<=c.rid.length
 ·rw [B6l h,Bkb];simp only [h,decide_true]at e;simp -implicitDefEqProofs (disch:=first|omega|(simp;done)|assumption)at e;simp -implicitDefEqProofs (disch:=first|omega|(simp;done)|assumption) [e]
 ·rw [B6j h];simp only [h,decide_false]at e;simp -implicitDefEqProofs (disch:=first|omega|(simp;done)|assumption)at e;simp -implicitDefEqProofs (disch:=first|omega|(simp;done)|assumption) [e,e2]
theorem A8s (Γ:H6)(M:Nat)(hR:A7c (Γ 596))(hL:Bs0 (Γ 592))(hO:Bwd (Γ 609)):Ajs (run Γ M Al2):=by
 intro c cap p q hl;have e1:=hR c hl;have e2:=hO p q;have e3:=hL c cap (orP p q) hl;have e4:=hO (Acn c) (Aff c cap (orP p q));unfold Ax0;generalize Aff c cap (orP p q)=L at*;generalize Acn c=R at*;simp -implicitDefEqProofs (disch:=first|omega|(simp;done)|assumption)at e1 e2 e3 e4;simp -implicitDefEqProofs (disch:=first|omega|(simp;done)|assumption) [e1,e2,e3,e4]
theorem Auh (Γ:H6)(M:Nat)(hF:Bcv (Γ 614))(hB:A7a (Γ 615)):Bwg (run Γ M Acd):=by
 intro p f d hf;unfold Bcw;by_cases h1:0<d
 ·rw [B6l h1];have e:=hF p (f+1);simp -implicitDefEqProofs (disch:=first|omega|(simp;done)|assumption) [h1,e]
 rw [B6j h1];by_cases h2:d<0
 ·rw [B6l h2];have e:=hB p f;simp -implicitDefEqProofs (disch:=first|omega|(simp;done)|assumption) [h1,h2,e]
 ·rw [B6j h2,Bg3];simp -implicitDefEqProofs (disch:=first|omega|(simp;done)|assumption) [h1,h2]
open Go.RowKit
def AV.in1 (K:List Nat):AV->Bool
 | .sl k _ _ _=>K.contains k
 | .loc k _ _=>K.contains k
 | .mp k=>K.contains k
 | .itr k=>K.contains k
 |_=>true
def AV.inn (K:List Nat):AV->Bool
 | .tup vs=>vs.all (in1 K)
 | .ags vs=>vs.all (in1 K)
 | .clo _ vs=>vs.all (in1 K)
 |x=>x.in1 K
theorem AR1.cong {F:A8}{ρ ρ':Map}{ob aA:OL}{x:AV}{v:Value}(hn:∀k,x.names1 k=true->ρ' k=ρ k/\∀o,get aA k=some o->get ob k=some o)(h:AR1 F ρ ob x v):AR1 F ρ' aA x v:=by
 cases x<;>simp only [AR1]at h ⊢
 ·exact h
 ·exact h
 ·exact h
 ·rename_i k ver start len;obtain⟨h1,h2⟩:=hn k (by simp [AV.names1])
  refine⟨h.1,λ o aD=> ?_⟩
  obtain⟨g1,g2⟩:=h.2 o (h2 o aD);refine⟨g1,λ a b=> ?_⟩
  have:=g2 a b;unfold SlR at this ⊢;rw [h1];exact this
 ·rename_i k row off;obtain⟨h1,h2⟩:=hn k (by simp [AV.names1])
  exact⟨h.1,λ o aD=>by rw [h1];exact h.2 o (h2 o aD)⟩
 ·exact h
 ·exact h
 ·rename_i k;obtain⟨h1,h2⟩:=hn k (by simp [AV.names1])
  exact⟨h.1,h.2.1,λ o aD=>by rw [h1];exact h.2.2 o (h2 o aD)⟩
 ·rename_i k;obtain⟨h1,h2⟩:=hn k (by simp [AV.names1])
  exact⟨h.1,λ o aD=>by rw [h1];exact h.2 o (h2 o aD)⟩
theorem AV.all1_in {K:List Nat}{x:AV}(h:x.inn K=true):x.all1 λ y=>∀k,y.names1 k=true->k∈K:=by
 have key:∀y:AV,y.in1 K=true->∀k,y.names1 k=true->k∈K:=λ y hy k hk=>by
  cases y<;>simp only [AV.names1,B62,reduceCtorEq,B6p]at hk
  all_goals subst hk;simpa [AV.in1]using hy
 cases x<;>simp only [AV.inn,B6q]at h<;>first|exact λ y hy=>key y (h y hy)|exact key _ h
theorem AV.all1_no {K:List Nat}{x:AV}(h:∀k∈K,x.names k=false):x.all1 λ y=>∀k,y.names1 k=true->k∉K:=by
 cases x
 case tup vs=>exact λ y hy k hk hK=>by have:=h k hK;simp only [AV.names,B7p]at this;exact this y hy hk
 case ags vs=>exact λ y hy k hk hK=>by have:=h k hK;simp only [AV.names,B7p]at this;exact this y hy hk
 case clo g vs=>exact λ y hy k hk hK=>by have:=h k hK;simp only [AV.names,B7p]at this;exact this y hy hk
 all_goals exact λ k hk hK=>by have:=h k hK;simp only [AV.names]at this;rw [this]at hk;simp at hk
def Aap (fr:FL):Nat->Nat->Option (List AV)
 |_,0=>some []
 |i,c+1=>match get fr i,Aap fr (i+1) c with
  |some v,some vs=>some (v::vs)
  |_,_=>none
def X6 :Nat->List AV->FL
 |_,[]=>[]
 |i,v::vs=>(i,v)::X6 (i+1) vs
theorem Aaq {fr:FL}:∀{i c:Nat}{vs:List AV},Aap fr i c=some vs->vs.length=c/\∀j,j<c->get fr (i+j)=vs[j]?
 |i,0,vs,h=>by simp only [Aap,B6g]at h;subst h;exact⟨rfl,λ j hj=>absurd hj (by omega)⟩
 |i,c+1,vs,h=>by
  simp only [Aap]at h;split at h
  case h_2=>simp at h
  rename_i v vs' h1 h2;simp only [B6g]at h;subst h;obtain⟨g1,g2⟩:=Aaq h2;refine⟨by simp [g1],λ j hj=> ?_⟩
  cases j with
  |zero=>simpa using h1
  |succ j=>have:=g2 j (by omega);rw [show i+(j+1)=i+1+j by omega];simpa using this
theorem Aaj :∀(vs:List AV)(i j:Nat),get (X6 i vs) j=if i<=j then vs[j-i]? else none
 |[],i,j=>by simp [X6,Go.Am.get]
 |v::vs,i,j=>by
  simp only [X6,Go.Am.get,Aaj vs (i+1) j];grind
def U4 (n:Nat)(K:List Nat)(S:PG)(s:St):Option (List AV×OL):=
 if n<GB/\(get s.fr n).isNone=true then
  match Aap s.fr 0 n with
  |some vs=>match s.frzs vs with
   |some (ds,ks)=>match S ⟨X6 0 ds,[]⟩with
    |some (rs,aU)=>
     if ((aU.filter λ p=>K.contains p.1).all λ p=>p.2.rows.all λ r=>r.all λ v=>v.inn K)=true/\(rs.all λ v=>v.inn K)=true/\(K.all λ k=>(get (kill s ks).ob k).isNone&&K4 k s.fr&&B8 k (kill s ks).ob)=true then
      some (rs,(aU.filter λ p=>K.contains p.1)++(kill s ks).ob)else none
    |none=>none
   |none=>none
  |none=>none
 else none
theorem Alb {K:List Nat}:∀(ob:OL)(k:Nat),get (ob.filter λ p=>K.contains p.1) k=if k∈K then get ob k else none
 |[],k=>by simp [Go.Am.get]
 |(j,o)::ob,k=>by
  have ih:=Alb (K:=K) ob k;grind [List.filter_cons_of_pos,Go.Am.get,List.filter_cons_of_neg]
theorem Bp9 {k:Nat}{fr:FL}(h:K4 k fr=true){i:Nat}{v:AV}(hv:get fr i=some v):v.names k=false:=by
 rw [<-Aqp,B6q]at h;simpa using h (i,v) (B0 hv)
theorem Bqa {k:Nat}{ob:OL}(h:B8 k ob=true){i:Nat}{o:Obj}(hv:get ob i=some o):∀r∈o.rows,∀x∈r,AV.names k x=false:=by
 rw [<-Ak5,B6q]at h;have:=h (i,o) (B0 hv);grind [List.all_eq_true]
theorem Bcx {n:Nat}{K:List Nat}{S:PG}{s:St}{rs:List AV}{aA:OL}(h:U4 n K S s=some (rs,aA)):
  n<GB/\get s.fr n=none/\∃vs ds ks aU,Aap s.fr 0 n=some vs/\s.frzs vs=some (ds,ks)/\S ⟨X6 0 ds,[]⟩=some (rs,aU)/\aA=(aU.filter λ p=>K.contains p.1)++(kill s ks).ob/\
   (∀k o,k∈K->get aU k=some o->∀r∈o.rows,∀x∈r,AV.inn K x=true)/\(∀v∈rs,AV.inn K v=true)/\∀k∈K,get (kill s ks).ob k=none/\K4 k s.fr=true/\B8 k (kill s ks).ob=true:=by
 unfold U4 at h;split at h
 case isFalse=>simp at h
 rename_i h0;split at h
 case h_2=>simp at h
 rename_i vs h1;split at h
 case h_2=>simp at h
 rename_i ds ks h2;split at h
 case h_2=>simp at h
 rename_i rs0 aU h3;split at h
 case isFalse=>simp at h
 rename_i h4;simp only [B6g,B6k]at h;obtain⟨rfl,rfl⟩:=h;obtain⟨a1,a2,a3⟩:=h4;refine⟨h0.1,by simpa using h0.2,vs,ds,ks,aU,h1,h2,h3,rfl,λ k o hk ho r hr x hx=> ?_,by simpa using a2,λ k hk=> ?_⟩
 ·simp only [B6q]at a1;have hg:get (aU.filter λ p=>K.contains p.1) k=some o:=by rw [Alb,B6l hk];exact ho
  exact a1 _ (B0 hg) r hr x hx
 ·simp only [B6q,B6h,Option.isNone_iff_eq_none]at a3;obtain⟨⟨b1,b2⟩,b3⟩:=a3 k hk;exact⟨b1,b2,b3⟩
theorem D9.own {P:Program}{f:FuncId}{n:Nat}{K:List Nat}{S:PG}(h:D9 P f S):D9 P f (U4 n K S):=by
 intro γ B F ρ fr ob w us rs aA aF cM hm hf hS;obtain⟨hn,cT,vs,ds,ks,aU,hv,fT,aJ,rfl,aP,hrin,hK⟩:=Bcx hS;obtain⟨rB,vD⟩:=Aaq hv;have hul:us.length<=n:=by
  rcases B7f n us.length with h1|h1
  ·obtain⟨v,h2⟩:=cM n h1;rw [cT]at h2;simp at h2
  ·exact h1
 have eV:C9 (AR F ρ ob) vs ((List.range n).map λ j=>us.getD j undef):=by
  refine C9.of_get (by simp [rB]) λ i v hi=> ?_
  have xX:i<n:=by have:=(B6n.1 hi).1;omega
  refine⟨us.getD i undef,by simp [xX],?_⟩
  have:=hf i v (by rw [<-hi,<-vD i xX,B7u])
  rwa [B6l (by omega)]at this
 have jE:=V4 (s:=⟨fr,ob⟩) hm fT eV;have jJ:ds.length=n:=by have:=jE.length;simpa using this
 obtain⟨F1,iX⟩:∃F1,F5 F ρ ob ks w=F1:=⟨_,rfl⟩;have bG:=T0.kill (s:=⟨fr,ob⟩) (ks:=ks) hm;have lW:F.le F1:=iX▸F5.le;have yG:∀a u,F1 a u->F a u\/¬B a.block:=λ a u hu=>F5.new hm (by rw [iX];exact hu)
 have bA:=I3 ks (⟨fr,ob⟩:St);simp only [iX]at jE bG;generalize (kill ⟨fr,ob⟩ ks).ob=bL at*;have cC:T0 (λ k=>k<w.heap.size) F1 ρ [] w:=⟨bG.facts,Big.lt _,λ k o h=>by simp [Go.Am.get]at h,λ k o p h=>by simp [Go.Am.get]at h,λ k o p h=>by simp [Go.Am.get]at h,λ k o p k' o' p' h=>by simp [Go.Am.get]at h⟩
 have rH:∀i v,get (X6 0 ds) i=some v->i<n/\ds[i]? =some v:=λ i v hi=>by
  rw [Aaj,B6l (B81 _),B78]at hi;exact⟨by have:=(B6n.1 hi).1;omega,hi⟩
 refine(h #[] (λ k=>k<w.heap.size) F1 ρ (X6 0 ds) [] w us rs aU aF (λ i hi=> ?_) cC (λ i v hi=> ?_) aJ).mono ?_
 ·have:i<ds.length:=by omega
  exact⟨ds[i],by rw [Aaj,B6l (B81 _),B78];exact B6w this⟩
 ·obtain⟨h1,h2⟩:=rH i v hi;obtain⟨u,h3,h4⟩:=jE.get? i v h2;rw [B6l (by omega)]
  simp [h1]at h3;subst h3;exact AR.of_RR h4
 rintro e w' ⟨qs,rfl,F',ρ',cJ,-,bU,hx⟩;have vE:∀k,k∈K->get ((aU.filter λ p=>K.contains p.1)++bL) k=get aU k:=λ k hk=>by
  rw [E5,Alb,B6l hk];cases get aU k with
  |some o=>rfl
  |none=>exact(hK k hk).1
 have vF:∀k,k∉K->get ((aU.filter λ p=>K.contains p.1)++bL) k=get bL k:=λ k hk=>by rw [E5,Alb,B6j hk]
 have cN:∀{x:AV}{v:Value},AV.inn K x=true->AR F' ρ' aU x v->AR F' (λ k=>if k∈K then ρ' k else ρ k) ((aU.filter λ p=>K.contains p.1)++bL) x v:=λ {x v} hi ha=>
  ha.lift _ (AV.all1_in hi) λ y u hq h=>h.cong λ k hk=>⟨by simp [hq k hk],λ o ho=>by rw [vE k (hq k hk)]at ho;exact ho⟩
 have cO:∀{x:AV}{v:Value},(∀k∈K,AV.names k x=false)->AR F1 ρ bL x v->AR F' (λ k=>if k∈K then ρ' k else ρ k) ((aU.filter λ p=>K.contains p.1)++bL) x v:=λ {x v} hi ha=>
  (ha.mono hx.le).lift _ (AV.all1_no hi) λ y u hq h=>h.cong λ k hk=>⟨by simp [hq k hk],λ o ho=>by rw [vF k (hq k hk)]at ho;exact ho⟩
 refine⟨qs,rfl,F',λ k=>if k∈K then ρ' k else ρ k,⟨cJ.facts,hm.big.le hx.below.size,λ k o h1 h2=> ?_,λ k o p h1 h2=> ?_,λ k o p h1 h2 a u hu=> ?_,λ k o p k' o' p' h1 h2 h3 h4 h5=> ?_⟩,λ i v hi hv=> ?_,?_,⟨lW.trans hx.le,.of hx.below.to hm.big,λ a u hu=> ?_⟩⟩
 ·by_cases hk:k∈K
  ·rw [vE k hk]at h1;rw [B6l hk]at h2;exact cJ.bare k o h1 h2
  ·rw [vF k hk]at h1;rw [B6j hk]at h2;exact bG.bare k o h1 h2
 ·by_cases hk:k∈K
  ·rw [vE k hk]at h1;rw [B6l hk]at h2;obtain⟨g1,g2⟩:=cJ.own k o p h1 h2;exact⟨hm.big.out (Nat.le_of_not_lt g1),g2.imp λ r hr x hxx v hv=>cN (aP k o hk h1 r hr x hxx) hv⟩
  ·rw [vF k hk]at h1;rw [B6j hk]at h2;obtain⟨g1,g2⟩:=bG.own k o p h1 h2;rw [hx.below.block _ (bG.lt h1 h2)];exact⟨g1,g2.imp λ r hr x hxx v hv=>cO (λ j hj=>Bqa (hK j hj).2.2 h1 r hr x hxx) hv⟩
 ·by_cases hk:k∈K
  ·rw [vE k hk]at h1;rw [B6l hk]at h2;exact cJ.apart k o p h1 h2 a u hu
  ·rw [vF k hk]at h1;rw [B6j hk]at h2;rcases hx.new a u hu with h3|h3
   ·exact bG.apart k o p h1 h2 a u h3
   ·have:=bG.lt h1 h2;omega
 ·by_cases hk:k∈K
  ·rw [vE k hk]at h1;rw [B6l hk]at h2;by_cases aN:k'∈K
   ·rw [vE k' aN]at h3;rw [B6l aN]at h4;exact cJ.inj k o p k' o' p' h1 h2 h3 h4 h5
   ·rw [vF k' aN]at h3;rw [B6j aN]at h4;have a1:=(cJ.own k o p h1 h2).1;have a2:=bG.lt h3 h4;omega
  ·rw [vF k hk]at h1;rw [B6j hk]at h2;by_cases aN:k'∈K
   ·rw [vE k' aN]at h3;rw [B6l aN]at h4;have a1:=(cJ.own k' o' p' h3 h4).1;have a2:=bG.lt h1 h2;omega
   ·rw [vF k' aN]at h3;rw [B6j aN]at h4;exact bG.inj k o p k' o' p' h1 h2 h3 h4 h5
 ·have:=hf i v hv;rw [B6j (by omega)]at this
  exact cO (λ j hj=>Bp9 (hK j hj).2.1 hv) ((this.mono lW).sub bA)
 ·refine C9.of_get bU.length λ i v hi=> ?_
  obtain⟨u,h1,h2⟩:=bU.get? i v hi;exact⟨u,h1,cN (hrin v (B6t hi)) h2⟩
 ·rcases hx.new a u hu with h3|h3
  ·exact yG a u h3
  ·exact .inr (hm.big.out (Nat.le_of_not_lt h3))
theorem Bcy {n:Nat}{K:List Nat}{S:PG}(s:St)(rs:List AV)(ob:OL)(R:List Nat)(hR:∀r∈R,GB<=r)(hs:U4 n K S s=some (rs,ob)):U4 n K S ⟨E1 R s.fr,s.ob⟩=some (rs,ob):=by
 have tP:∀i,i<GB->get (E1 R s.fr) i=get s.fr i:=λ i hi=>by rw [E7,B6j λ h=>by have:=hR _ h;omega]
 have ha:∀c i,i+c<=GB->Aap (E1 R s.fr) i c=Aap s.fr i c:=by
  intro c
  induction c with
  |zero=>intro i _;rfl
  |succ c ih=>intro i hi;simp only [Aap];rw [tP i (by omega),ih (i+1) (by omega)]
 have fT:∀vs,St.frzs ⟨E1 R s.fr,s.ob⟩ vs=s.frzs vs:=by
  intro vs
  induction vs with
  |nil=>rfl
  |cons v vs ih=>
   simp only [St.frzs,ih];rfl
 have lK:∀ks (f1 f2:FL)(o:OL),(kill ⟨f1,o⟩ ks).ob=(kill ⟨f2,o⟩ ks).ob:=by
  intro ks
  induction ks with
  |nil=>intro f1 f2 o;rfl
  |cons k ks ih=>intro f1 f2 o;exact ih f1 f2 _
 have sD:∀k,K4 k s.fr=true->K4 k (E1 R s.fr)=true:=λ k h=>by
  rw [<-Aqp,B6q]at h ⊢;exact λ p hp=>h p (Q2 hp).1
 unfold U4 at hs ⊢;split at hs
 case isFalse=>simp at hs
 rename_i h0;rw [B6l (by rw [tP n h0.1];exact h0),ha n 0 (by omega)]
 split at hs
 case h_2=>simp at hs
 rename_i vs h1;simp only [fT];split at hs
 case h_2=>simp at hs
 rename_i ds ks h2;simp only [lK ks (E1 R s.fr) s.fr s.ob];split at hs
 case h_2=>simp at hs
 rename_i rs0 aU h3;split at hs
 case isFalse=>simp at hs
 rename_i h4;have h5:(K.all λ k=>(get (kill s ks).ob k).isNone&&K4 k (E1 R s.fr)&&B8 k (kill s ks).ob)=true:=by
  grind [List.all_eq_true]
 exact(B6l ⟨h4.1,h4.2.1,h5⟩).trans hs
theorem Aui (Γ:H6)(M:Nat)(hM:200<M)(hO:Avi (Γ 528))(hI:Aqr (Γ 611)):A0o (run Γ M Ace):=by
 rintro⟨ps,di,mo,le,wa,rs⟩ hl;dsimp only at hl;have e1:=hO (rs.map (·.to)) (by rw [B6s];omega)
 have e2:=hI (Acn ⟨ps,di,mo,le,wa,rs⟩);have hR:B4 (rs.map (·.to))=Acn ⟨ps,di,mo,le,wa,rs⟩:=rfl;rw [hR]at e1;obtain⟨co,rL⟩:∃co:Obj,co=⟨6,[A4 (Cr.cells ⟨ps,di,mo,le,wa,rs⟩)]⟩:=⟨_,rfl⟩;obtain⟨F,hF⟩:∃F:Nat->List Int,∀k,F k=(rs.take k).map (·.to):=⟨_,λ _=>rfl⟩
 have vB:∀k (h:k<rs.length),F (k+1)=F k++[rs[k].to]:=λ k h=>by
  rw [hF,hF,B75 h,B60];rfl
 have kR:F 0=[]:=by rw [hF];simp
 have vC:F rs.length=rs.map (·.to):=by rw [hF,B7s]
 have tY:∀k,k<=rs.length->(F k).length=k:=λ k h=>by rw [hF,B6s,B7l];omega
 clear hF;obtain⟨ax,s',⟨rfl,rfl⟩,aP⟩:∃ax s',(ax= .ex 0/\s'=⟨[(3,.sl 3 (F rs.length).length 0 (F rs.length).length)],[(3,⟨1,(F rs.length).map (A4∘iD)⟩)]⟩)/\∀s0,nrm [1,3,4] [1,3,20] s0=⟨[(1,.loc 1 0 0),(3,.sl 3 (F 0).length 0 (F 0).length),(4,i64 (0:Nat))],[(1,co),(3,⟨1,(F 0).map (A4∘iD)⟩)]⟩->lp (exec Γ M Aj5) M s0=some (ax,s'):=by
  refine Add (λ q:Nat=>⟨[(1,.loc 1 0 0),(3,.sl 3 (F q).length 0 (F q).length),(4,i64 q)],[(1,co),(3,⟨1,(F q).map (A4∘iD)⟩)]⟩) (λ q=>q<=rs.length) (λ q=>rs.length-q) _ 0 M (by simp) (by omega) (by omega) ?_
  intro k hk;subst rL;by_cases aC:k<rs.length
  ·obtain⟨r,hr⟩:∃r,rs[k]'aC=r:=⟨_,rfl⟩;have hs:=vB k aC;rw [hr]at hs;have iS:=tY k (by omega)
   have w1:((F k).map (A4∘iD)).length=k:=by rw [B6s];exact iS
   have v1:=λ j=>J4 j iD (F k)
   have v2:=λ j=>L6 j iD (F k)
   simp -implicitDefEqProofs (disch:=first|omega|(simp;done)|assumption) [aC,hr,iS,w1,v1,v2];grind [iD,A4]
  ·obtain rfl:k=rs.length:=by omega
   simp -implicitDefEqProofs (disch:=first|omega|(simp;done)|assumption)
 have bK:=aP ⟨[(1,.loc 1 0 0),(3,.sl 3 0 0 0),(4,i64 0)],[(1,co),(3,⟨1,[]⟩)]⟩ (by rw [kR];simp)
 subst rL;rw [vC]at bK;have ha:=G7 iD (rs.map (·.to));have w1:((rs.map (·.to)).map (A4∘iD)).length=(rs.map (·.to)).length:=B6s _;have ht:((rs.map (·.to)).map iD).take (rs.map (·.to)).length=(rs.map (·.to)).map iD:=by rw [B6y];rw [B6s];exact B6u _
 simp only [E0,Q7]at e1 e2;generalize rs.map (·.to)=T at*;generalize Acn ⟨ps,di,mo,le,wa,rs⟩=P at*;simp -implicitDefEqProofs (disch:=first|omega|(simp;done)|assumption)at bK;simp -implicitDefEqProofs (disch:=first|omega|(simp;done)|assumption) [bK,e1,e2,ha,w1,ht]
def B3d (g:PG):Prop:=∀(p:Nat->Bool)(gs:FL)(ob:OL),Gh gs->get ob 741004=none->K4 741004 gs=true->B8 741004 ob=true->
 g ⟨(0,E0 p)::gs,ob⟩=some ([.sl 741004 (A6 p 128).length 0 (A6 p 128).length],(741004,⟨1,(A6 p 128).map (A4∘iD)⟩)::ob)
theorem Bg4 {g:PG}{a:AV}(ha:∀s:St,s.frz a=some (a,none)){L:List Int}(e:g ⟨[(0,a)],[]⟩=some ([.sl 741004 L.length 0 L.length],[(741004,⟨1,L.map (A4∘iD)⟩)]))(gs:FL)(ob:OL)(hn:∀k,AV.names k a=false)(hg:Gh gs)(h1:get ob 741004=none)(h2:K4 741004 gs=true)(h3:B8 741004 ob=true):
  U4 1 [741004] g ⟨(0,a)::gs,ob⟩=some ([.sl 741004 L.length 0 L.length],(741004,⟨1,L.map (A4∘iD)⟩)::ob):=by
 have g3:get gs 1=none:=Gh.get hg (by omega)
 have aP:((L.map (A4∘iD)).all λ r=>r.all λ v=>v.inn [741004])=true:=by
  rw [B6q];intro r hr;obtain⟨z,hz,rfl⟩:=B6z.1 hr;rfl
 generalize L.map (A4∘iD)=G at*;generalize L.length=n at*;unfold U4;rw [B6l ⟨by decide,by simp only [Go.Am.get];rw [B6j (by omega),g3];rfl⟩]
 have mO:Aap ((0,a)::gs) 0 1=some [a]:=rfl;have hf:(⟨(0,a)::gs,ob⟩:St).frzs [a]=some ([a],[]):=by simp only [St.frzs,ha];rfl
 simp only [mO,hf];have e':g ⟨X6 0 [a],[]⟩=some ([.sl 741004 n 0 n],[(741004,⟨1,G⟩)]):=e;simp only [e',kill];refine(B6l ?_).trans rfl;refine⟨?_,rfl,?_⟩
 ·show ((([(741004,(⟨1,G⟩:Obj))]).filter λ p=>[741004].contains p.1).all λ p=>p.2.rows.all λ r=>r.all λ v=>v.inn [741004])=true
  have:([(741004,(⟨1,G⟩:Obj))]).filter (λ p=>[741004].contains p.1)=[(741004,⟨1,G⟩)]:=rfl
  rw [this];simp only [B7r,List.all_nil,B8m];exact aP
 ·simp only [B7r,List.all_nil,B8m,h1,K4,h2,h3,hn,Option.isNone];rfl
theorem Bwh {g:PG}(h:Bmd g):B3d (U4 1 [741004] g):=λ p gs ob hg h1 h2 h3=>Bg4 (λ _=>rfl) (h p) gs ob (λ _=>rfl) hg h1 h2 h3
def Bme (g:PG):Prop:=∀c:Cr,c.rid.length<=100->g ⟨[(0,.agg c.cells)],[]⟩=some ([.sl 741004 (A6 (Acn c) 128).length 0 (A6 (Acn c) 128).length],[(741004,⟨1,(A6 (Acn c) 128).map (A4∘iD)⟩)])
def B3e (g:PG):Prop:=∀(c:Cr)(gs:FL)(ob:OL),c.rid.length<=100->Gh gs->get ob 741004=none->K4 741004 gs=true->B8 741004 ob=true->
 g ⟨(0,.agg c.cells)::gs,ob⟩=some ([.sl 741004 (A6 (Acn c) 128).length 0 (A6 (Acn c) 128).length],(741004,⟨1,(A6 (Acn c) 128).map (A4∘iD)⟩)::ob)
theorem Bg5 {g:PG}(h:Bme g):B3e (U4 1 [741004] g):=λ c gs ob hl hg h1 h2 h3=>Bg4 (λ _=>rfl) (h c hl) gs ob (λ _=>rfl) hg h1 h2 h3
theorem Apb (Γ:H6)(M:Nat)(hM:200<M)(hO:Avi (Γ 528))(hI:B3d (Γ.pt 741)):Bme (H9 Γ M Z1):=by
 rintro⟨ps,di,mo,le,wa,rs⟩ hl;dsimp only at hl;have e1:=hO (rs.map (·.to)) (by rw [B6s];omega)
 have e2:=λ gs ob a b c d=>hI (Acn ⟨ps,di,mo,le,wa,rs⟩) gs ob a b c d
 have hR:B4 (rs.map (·.to))=Acn ⟨ps,di,mo,le,wa,rs⟩:=rfl;rw [hR]at e1;obtain⟨co,rL⟩:∃co:Obj,co=⟨6,[A4 (Cr.cells ⟨ps,di,mo,le,wa,rs⟩)]⟩:=⟨_,rfl⟩;obtain⟨F,hF⟩:∃F:Nat->List Int,∀k,F k=(rs.take k).map (·.to):=⟨_,λ _=>rfl⟩
 have vB:∀k (h:k<rs.length),F (k+1)=F k++[rs[k].to]:=λ k h=>by
  rw [hF,hF,B75 h,B60];rfl
 have kR:F 0=[]:=by rw [hF];simp
 have vC:F rs.length=rs.map (·.to):=by rw [hF,B7s]
 have tY:∀k,k<=rs.length->(F k).length=k:=λ k h=>by rw [hF,B6s,B7l];omega
 clear hF;obtain⟨ax,s',⟨rfl,rfl⟩,aP⟩:∃ax s',(ax= .ex 0/\s'=⟨[(3,.sl 740003 (F rs.length).length 0 (F rs.length).length)],[(740003,⟨1,(F rs.length).map (A4∘iD)⟩)]⟩)/\∀s0,U9 [1,3,4] 740000 741000 [740001,740003,740020] s0=⟨[(1,.loc 740001 0 0),(3,.sl 740003 (F 0).length 0 (F 0).length),(4,i64 (0:Nat))],[(740003,⟨1,(F 0).map (A4∘iD)⟩),(740001,co)]⟩->lp (exec Γ M Agf) M s0=some (ax,s'):=by
  refine I0 (λ q:Nat=>⟨[(1,.loc 740001 0 0),(3,.sl 740003 (F q).length 0 (F q).length),(4,i64 q)],[(740003,⟨1,(F q).map (A4∘iD)⟩),(740001,co)]⟩) (λ q=>q<=rs.length) (λ q=>rs.length-q) _ 0 M (by omega) (by omega) ?_
  intro k hk;subst rL;by_cases aC:k<rs.length
  ·obtain⟨r,hr⟩:∃r,rs[k]'aC=r:=⟨_,rfl⟩;have hs:=vB k aC;rw [hr]at hs;have iS:=tY k (by omega)
   have w1:((F k).map (A4∘iD)).length=k:=by rw [B6s];exact iS
   have v1:=λ j=>J4 j iD (F k)
   have v2:=λ j=>L6 j iD (F k)
   simp -implicitDefEqProofs (disch:=first|omega|(simp;done)|assumption) [aC,hr,iS,w1,v1,v2];grind [iD,A4]
  ·obtain rfl:k=rs.length:=by omega
   simp -implicitDefEqProofs (disch:=first|omega|(simp;done)|assumption)
 have bK:=aP ⟨[(1,.loc 740001 0 0),(3,.sl 740003 0 0 0),(4,i64 0)],[(740003,⟨1,[]⟩),(740001,co)]⟩ (by rw [kR];simp)
 subst rL;rw [vC]at bK;have ha:=G7 iD (rs.map (·.to));have w1:((rs.map (·.to)).map (A4∘iD)).length=(rs.map (·.to)).length:=B6s _;have ht:((rs.map (·.to)).map iD).take (rs.map (·.to)).length=(rs.map (·.to)).map iD:=by rw [B6y];rw [B6s];exact B6u _
 simp only [E0,Q7]at e1 e2;generalize rs.map (·.to)=T at*;generalize Acn ⟨ps,di,mo,le,wa,rs⟩=P at*;simp -implicitDefEqProofs (disch:=first|omega|(simp;done)|assumption)at bK;simp -implicitDefEqProofs (disch:=first|omega|(simp;done)|assumption) [bK,e1,e2,ha,w1,ht]
theorem Apr (Γ:H6)(M:Nat)(hR:B3e (Γ.pt 740))(hL:Aug (Γ 600))(hO:Avi (Γ 528)):Ajs (run Γ M Acf):=by
 intro c cap p q hl;have e1:=λ gs ob a b c' d=>hR c gs ob hl a b c' d
 have e2:=hL c cap p hl;have e3:=hL c cap q hl;have l1:=M1 (Acn c) 128;have l2:=M1 (Aff c cap p) 128;have l3:=M1 (Aff c cap q) 128;have e4:=hO (A6 (Acn c) 128++(A6 (Aff c cap p) 128++A6 (Aff c cap q) 128)) (by rw [B67,B67];omega)
 have hP:E0 (B4 (A6 (Acn c) 128++(A6 (Aff c cap p) 128++A6 (Aff c cap q) 128)))=E0 (Ax0 c cap p q):=Aiw λ m hm=>by
  rw [A3k,A3k];unfold orP Ax0;rw [Aft _ hm,Aft _ hm,Aft _ hm];unfold Aff orP;split<;>simp [noP]
 rw [hP]at e4;have w1:((A6 (Acn c) 128).map (A4∘iD)).length=(A6 (Acn c) 128).length:=B6s _;have v1:=J4 741004 iD;have v2:=λ k=>L6 k iD (A6 (Acn c) 128)
 generalize A6 (Acn c) 128=A at*;generalize A6 (Aff c cap p) 128=B at*;generalize A6 (Aff c cap q) 128=C at*;generalize Ax0 c cap p q=W at*;have f0:A.length+(B.length+C.length)=A.length+B.length+C.length:=by omega
 have f1:(A.map iD++(B.map iD++C.map iD)).take (A.length+B.length+C.length)=A.map iD++(B.map iD++C.map iD):=B6y (by simp only [B67,B6s];omega)
 have f2:F7 (A.map (A4∘iD)++(B.map (A4∘iD)++C.map (A4∘iD)))=some (A.map iD++(B.map iD++C.map iD)):=by
  rw [<-B60,<-B60,<-B60,<-B60];exact G7 iD _
 simp only [Cr.cells]at e1;simp -implicitDefEqProofs (disch:=first|omega|(simp;done)|assumption)at e2 e3 e4;simp -implicitDefEqProofs (disch:=first|omega|(simp;done)|assumption) [e1,e2,e3,e4,w1,v1,v2,f0,f1,f2]
def Ai0 (f d x:Int):Bool:=decide (0<d)&&decide (f<x)||decide (d<0)&&decide (x<f)
theorem Agp (Γ:H6)(M:Nat)(hM:200<M)(hI:Aqr (Γ 611)):Ax1 (run Γ M P3):=by
 intro p f d;have e1:=hI p;have hl:=M1 p 128;have bX:∀n,n∈A6 p 128↔∃m:Nat,m<128/\p m=true/\n=m:=λ n=>Aop
 generalize hT:A6 p 128=T at*;obtain⟨U,hU,hUl,hUm⟩:∃U:List Int,(∀k (h:k<T.length)(h2:k<U.length),U[k]=if d<0 then T[T.length-1-k]else T[k])/\U.length=T.length/\∀n,n∈U↔n∈T:=by
  by_cases hd:d<0
  ·exact⟨T.reverse,λ k h h2=>by rw [B6l hd,List.getElem_reverse],by simp,by simp⟩
  all_goals grind
 obtain⟨F,hF⟩:∃F:Nat->List Int,∀k,F k=(U.take k).filter (Ai0 f d):=⟨_,λ _=>rfl⟩
 have vB:∀k (h:k<U.length),F (k+1)=F k++if Ai0 f d U[k]=true then [U[k]]else []:=λ k h=>by
  rw [hF,hF,B75 h,B8i];congr 1;cases hb:Ai0 f d U[k]<;>simp [hb]
 have kR:F 0=[]:=by rw [hF];simp
 have vC:F T.length=U.filter (Ai0 f d):=by rw [hF,B6y (by omega)]
 have tY:∀k,k<=T.length->(F k).length<=k:=λ k h=>by rw [hF];exact Nat.le_trans (List.length_filter_le _ _) (by rw [B7l];omega)
 clear hF;obtain⟨ax,s',⟨rfl,rfl⟩,aP⟩:∃ax s',(ax= .ex 0/\s'=⟨[(8,.sl 8 (F T.length).length 0 (F T.length).length)],[(8,⟨1,(F T.length).map (A4∘iD)⟩)]⟩)/\∀s0,nrm [1,2,7,8,9] [8,52] s0=⟨[(1,i64 f),(2,i64 d),(7,nuL T),(8,.sl 8 (F 0).length 0 (F 0).length),(9,i64 (0:Nat))],[(8,⟨1,(F 0).map (A4∘iD)⟩)]⟩->lp (exec Γ M Ail) M s0=some (ax,s'):=by
  refine Add (λ q:Nat=>⟨[(1,i64 f),(2,i64 d),(7,nuL T),(8,.sl 8 (F q).length 0 (F q).length),(9,i64 q)],[(8,⟨1,(F q).map (A4∘iD)⟩)]⟩) (λ q=>q<=T.length) (λ q=>T.length-q) _ 0 M (by simp) (by omega) (by omega) ?_
  intro k hk;by_cases aC:k<T.length
  ·have hku:k<U.length:=by omega
   have hs:=vB k hku;have hu:=hU k aC hku;have iS:=tY k hk;have w1:((F k).map (A4∘iD)).length=(F k).length:=B6s _;have v1:=λ j=>J4 j iD (F k)
   obtain⟨x,hx⟩:∃x,U[k]'hku=x:=⟨_,rfl⟩;rw [hx]at hs hu;have fin:Ai0 f d x=false->∃q':Nat,(F k=F q'/\(k:Int)+1=q')/\q'<=T.length/\T.length-q'<T.length-k:=λ h=>⟨k+1,⟨by rw [hs,h];simp,by omega⟩,by omega,by omega⟩
   have fin2:Ai0 f d x=true->∃q':Nat,F q'=F k++[x]/\(k:Int)+1=q'/\q'<=T.length/\T.length-q'<T.length-k:=λ h=>⟨k+1,by rw [hs,h];rfl,by omega,by omega,by omega⟩
   obtain⟨y,hy⟩:∃y,T[k]'aC=y:=⟨_,rfl⟩;have wrap:(F k++[x]).length=(F k).length+1/\(F k++[x]).map (A4∘iD)=(F k).map (A4∘iD)++[[AV.c (D.int .i64 x)]]:=by simp [iD,A4]
   by_cases hd:d<0
   ·have jO:¬0<d:=by omega
    have bG:((T.length:Int)-1-(k:Int)).toNat=T.length-1-k:=by omega
    have cG:T.length-1-k<T.length:=by omega
    rw [B6l hd]at hu;have hu:=hu.symm;by_cases c:x<f
    ·obtain⟨q',g1,g2,g3,g4⟩:=fin2 (by unfold Ai0;simp [hd,jO,c])
     simp -implicitDefEqProofs (disch:=first|omega|(simp;done)|assumption) [iD,aC,hy,hd,jO,bG,cG,hu,c,w1,v1];grind
    ·obtain⟨q',⟨g1,g2⟩,g3,g4⟩:=fin (by unfold Ai0;simp [hd,jO];omega)
     simp -implicitDefEqProofs (disch:=first|omega|(simp;done)|assumption) [iD,aC,hy,hd,jO,bG,cG,hu,c,w1,v1];grind
   ·rw [B6j hd,hy]at hu;by_cases jO:0<d
    ·by_cases c:f<x
     ·obtain⟨q',g1,g2,g3,g4⟩:=fin2 (by unfold Ai0;simp [jO,c])
      rw [hu]at c;simp -implicitDefEqProofs (disch:=first|omega|(simp;done)|assumption) [iD,aC,hy,hd,jO,c,w1,v1];grind
     ·obtain⟨q',⟨g1,g2⟩,g3,g4⟩:=fin (by unfold Ai0;simp [hd];omega)
      rw [hu]at c;simp -implicitDefEqProofs (disch:=first|omega|(simp;done)|assumption) [iD,aC,hy,hd,jO,c,w1,v1];grind
    ·obtain⟨q',⟨g1,g2⟩,g3,g4⟩:=fin (by unfold Ai0;simp [hd,jO])
     simp -implicitDefEqProofs (disch:=first|omega|(simp;done)|assumption) [iD,aC,hy,hd,jO,w1,v1];grind
  ·obtain rfl:k=T.length:=by omega
   simp -implicitDefEqProofs (disch:=first|omega|(simp;done)|assumption)
 have bK:=aP ⟨[(1,i64 f),(2,i64 d),(7,nuL T),(8,.sl 8 0 0 0),(9,i64 0)],[(8,⟨1,[]⟩)]⟩ (by rw [kR];simp)
 have ha:=G7 iD (F T.length);have dM:=tY T.length (B6u _);have w1:((F T.length).map (A4∘iD)).length=(F T.length).length:=B6s _;have ht:((F T.length).map iD).take (F T.length).length=(F T.length).map iD:=by rw [B6y];rw [B6s];exact B6u _
 refine⟨F T.length,?_,by omega,?_⟩
 ·generalize F T.length=G at*;simp -implicitDefEqProofs (disch:=first|omega|(simp;done)|assumption) [e1,bK,ha,w1,ht]
 ·rw [vC,Azd,List.length_pos_iff_exists_mem];constructor
  ·rintro⟨n,hn⟩;obtain⟨h1,h2⟩:=B7c.1 hn;obtain⟨m,h3,h4,rfl⟩:=(bX n).1 ((hUm n).1 h1);refine⟨m,h3,?_⟩;unfold Bcw Bsx Aon;unfold Ai0 at h2;simp only [B7n,B6h,B6o]at h2;rcases h2 with h2|h2
   ·rw [B6l h2.1];simp [h4];omega
   all_goals grind
  ·rintro⟨m,h1,h2⟩;unfold Bcw Bsx Aon at h2;split at h2
   ·rename_i hd;simp only [B6h,B6o]at h2;exact⟨m,B7c.2 ⟨(hUm _).2 ((bX _).2 ⟨m,h1,h2.1,rfl⟩),by unfold Ai0;simp;omega⟩⟩
   split at h2
   ·rename_i lS hd;simp only [B6h,B6o]at h2;exact⟨m,B7c.2 ⟨(hUm _).2 ((bX _).2 ⟨m,h1,h2.1,rfl⟩),by unfold Ai0;simp;omega⟩⟩
   ·simp [noP]at h2
structure Sg where
 w:Nat->Bool
 u:Nat->Bool
 d:Nat->Bool
abbrev sgD (s:Sg):List D:=[.int .u64 (wb s.w 0 64:Nat),.int .u64 (wb s.w 64 64:Nat),.int .u64 (wb s.u 0 64:Nat),.int .u64 (wb s.u 64 64:Nat),.int .u64 (wb s.d 0 64:Nat),.int .u64 (wb s.d 64 64:Nat)]
def Alc (c:Cr)(cap:Int)(p q:Nat->Bool):Sg:=⟨Ax0 c cap p q,Aff c cap p,Aff c cap q⟩
def callP (s:Sg)(f d:Int):Bool:=if 0<d then Ala s.u f else if d<0 then Ala s.d f else false
def byP (s:Sg)(f d:Int):Bool:=Bwf (Bcw s.w f d)
def Agu (s:Sg)(f d:Int):Int:=
 if d=0 then if callP s f 1 then 1 else if callP s f (-1)then -1 else if byP s f 1 then 1 else if byP s f (-1)then -1 else 0
 else if callP s f d||byP s f d then d else if callP s f (-d)||byP s f (-d)then -d else 0
def A7d (s:Sg)(c:Cr)(f:Int):Bool:=Ala (Acn c) f||(if c.dir=0 then callP s f 1||callP s f (-1)else callP s f c.dir||(!byP s f c.dir&&callP s f (-c.dir)))
def Avj (g:List AV->Option (List AV)):Prop:=∀(c:Cr)(cap:Int)(p q:Nat->Bool),c.rid.length<=100->g [.agg c.cells,i64 cap,E0 p,E0 q]=some [.agg (sgD (Alc c cap p q))]
def Abq (g:List AV->Option (List AV)):Prop:=∀(s:Sg)(f d:Int),g [.agg (sgD s),i64 f,i64 d]=some [bo (callP s f d)]
def Avk (g:List AV->Option (List AV)):Prop:=∀(s:Sg)(f d:Int),(-1000000<=f/\f<=1000000)->g [.agg (sgD s),i64 f,i64 d]=some [bo (byP s f d)]
def Avl (g:List AV->Option (List AV)):Prop:=∀(s:Sg)(f d:Int),(-1000000<=f/\f<=1000000)->(-1<=d/\d<=1)->g [.agg (sgD s),i64 f,i64 d]=some [i64 (Agu s f d)]
def Aht (g:List AV->Option (List AV)):Prop:=∀(s:Sg)(c:Cr)(f:Int),(-1000000<=f/\f<=1000000)->(-1<=c.dir/\c.dir<=1)->c.rid.length<=100->g [.agg (sgD s),.agg c.cells,i64 f]=some [bo (A7d s c f)]
theorem A40 (Γ:H6)(M:Nat)(hW:Ajs (Γ 593))(hL:Bs0 (Γ 592)):Avj (run Γ M Aim):=by
 intro c cap p q hl;have e1:=hW c cap p q hl;have e2:=hL c cap p hl;have e3:=hL c cap q hl;unfold Alc;generalize Ax0 c cap p q=W at*;generalize Aff c cap p=A at*;generalize Aff c cap q=B at*;simp only [Cr.cells,E0,Q7]at e1 e2 e3;simp -implicitDefEqProofs (disch:=first|omega|(simp;done)|assumption) [e1,e2,e3]
theorem Am2 (Γ:H6)(M:Nat)(hW:Ajs (Γ 601))(hL:Aug (Γ 600))(hO:Avi (Γ 528)):Avj (run Γ M Aaw):=by
 intro c cap p q hl;have e1:=hW c cap p q hl;have e2:=hL c cap p hl;have e3:=hL c cap q hl;have l2:=M1 (Aff c cap p) 128;have l3:=M1 (Aff c cap q) 128;have e4:=hO (A6 (Aff c cap p) 128) (by omega)
 have e5:=hO (A6 (Aff c cap q) 128) (by omega)
 have hP:∀r:Nat->Bool,E0 (B4 (A6 r 128))=E0 r:=λ r=>Aiw λ m hm=>Aft r hm
 rw [hP]at e4 e5;unfold Alc;generalize Ax0 c cap p q=W at*;generalize A6 (Aff c cap p) 128=X at*;generalize A6 (Aff c cap q) 128=Y at*;generalize Aff c cap p=A at*;generalize Aff c cap q=B at*;simp only [Cr.cells,E0,Q7]at e1 e2 e3 e4 e5;simp -implicitDefEqProofs (disch:=first|omega|(simp;done)|assumption) [e1,e2,e3,e4,e5]
theorem Ald (Γ:H6)(M:Nat)(hB:Aix (Γ 597)):Abq (run Γ M R9):=by
 rintro⟨w,u,dn⟩ f d;have e1:=hB u f;have e2:=hB dn f;unfold callP;simp only [E0,Q7]at e1 e2;by_cases h1:0<d
 ·rw [B6l h1];simp -implicitDefEqProofs (disch:=first|omega|(simp;done)|assumption) [h1,e1]
 rw [B6j h1];by_cases h2:d<0
 ·rw [B6l h2];simp -implicitDefEqProofs (disch:=first|omega|(simp;done)|assumption) [h1,h2,e2]
 ·rw [B6j h2];simp -implicitDefEqProofs (disch:=first|omega|(simp;done)|assumption) [h1,h2]
theorem Agq (Γ:H6)(M:Nat)(hB:Aix (Γ 612)):Abq (run Γ M P4):=by
 rintro⟨w,u,dn⟩ f d;have e1:=hB u f;have e2:=hB dn f;unfold callP;simp only [E0,Q7]at e1 e2;by_cases h1:0<d
 ·rw [B6l h1];have h2:¬d<0:=by omega
  cases hu:Ala u f<;>rw [hu]at e1<;>simp -implicitDefEqProofs (disch:=first|omega|(simp;done)|assumption) [h1,h2,e1,e2]
 rw [B6j h1];by_cases h2:d<0
 ·rw [B6l h2];simp -implicitDefEqProofs (disch:=first|omega|(simp;done)|assumption) [h1,h2,e1,e2]
 ·rw [B6j h2];simp -implicitDefEqProofs (disch:=first|omega|(simp;done)|assumption) [h1,h2,e1,e2]
theorem Bkc (p:Nat->Bool):(decide (wb p 0 64=0)&&decide (wb p 64 64=0))= !Bwf p:=by
 rw [Bool.eq_iff_iff,B6h,decide_eq_true_iff,decide_eq_true_iff,B7b];constructor
 ·rintro⟨h1,h2⟩;rw [<-Bool.not_eq_true,Azd];rintro⟨m,hm,hp⟩;rcases B7f m 64 with h|h
  ·have:=Bg1 (p:=p) (a:=0) h1 m h;rw [B7u,hp]at this;simp at this
  ·have:=Bg1 (p:=p) (a:=64) h2 (m-64) (by omega)
   rw [show 64+(m-64)=m by omega,hp]at this;simp at this
 ·intro h;rw [<-Bool.not_eq_true,Azd]at h;have hz:∀m,m<128->p m=false:=λ m hm=>by
   cases hp:p m with
   |false=>rfl
   |true=>exact absurd ⟨m,hm,hp⟩ h
  rw [Ago λ j hj=>hz _ (by omega),Ago λ j hj=>hz _ (by omega)]
  exact⟨rfl,rfl⟩
theorem Ai8 (Γ:H6)(M:Nat)(hB:Bwg (Γ 610)):Avk (run Γ M O2):=by
 rintro⟨w,u,dn⟩ f d hf;have e1:=hB w f d hf;have hw:=Bkc (Bcw w f d);unfold byP;dsimp only;simp only [E0,Q7]at e1;generalize Bcw w f d=B at*;simp -implicitDefEqProofs (disch:=first|omega|(simp;done)|assumption) [e1];rw [<-Bool.not_and,hw,Bool.not_not]
theorem Ad3 (Γ:H6)(M:Nat)(hB:Ax1 (Γ 613)):Avk (run Γ M L0):=by
 rintro⟨w,u,dn⟩ f d hf;obtain⟨L,e1,h1,h2⟩:=hB w f d;unfold byP;dsimp only;simp only [E0,Q7]at e1;generalize Bcw w f d=B at*;simp -implicitDefEqProofs (disch:=first|omega|(simp;done)|assumption) [e1];grind
theorem Apc (Γ:H6)(M:Nat)(hM:20<M)(hC:Abq (Γ 595))(hB:Avk (Γ 594)):Avl (run Γ M Z3):=by
 intro s f d hf hd;obtain⟨M,rfl⟩:∃m,M=m+20:=⟨M-20,by omega⟩
 have c1:=hC s f 1;have c2:=hC s f (-1);have b1:=hB s f 1 hf;have b2:=hB s f (-1) hf;unfold Agu;simp only [sgD]at c1 c2 b1 b2 ⊢;have fU:d= -1\/d=0\/d=1:=by omega
 rcases fU with rfl|rfl|rfl
 all_goals
  try rw [show (-(-1):Int)=1 from rfl]
  generalize callP s f 1=C1 at*;generalize callP s f (-1)=C2 at*;generalize byP s f 1=B1 at*;generalize byP s f (-1)=B2 at*;cases C1<;>cases C2<;>cases B1<;>cases B2<;>simp -implicitDefEqProofs (disch:=first|omega|(simp;done)|assumption) [c1,c2,b1,b2,E8,Anr,Ans,Ant]
theorem Ale (Γ:H6)(M:Nat)(hR:A7c (Γ 596))(hH:Aix (Γ 597))(hC:Abq (Γ 595))(hB:Avk (Γ 594)):Aht (run Γ M S0):=by
 intro s c f hf hd hl;have r1:=hR c hl;have h1:=hH (Acn c) f;have c1:=hC s f 1;have c2:=hC s f (-1);have b1:=hB s f c.dir hf;have d1:=hC s f c.dir;have d2:=hC s f (-c.dir);unfold A7d;obtain⟨ps,di,mo,le,wa,rs⟩:=c;dsimp only at*;simp only [sgD,E0,Q7,Cr.cells]at r1 h1 c1 c2 b1 d1 d2 ⊢;generalize Acn ⟨ps,di,mo,le,wa,rs⟩=P at*;generalize Ala P f=H at*;cases H
 case true=>simp -implicitDefEqProofs (disch:=first|omega|(simp;done)|assumption) [r1,h1]
 by_cases h0:di=0
 ·subst h0;generalize callP s f 1=C1 at*;generalize callP s f (-1)=C2 at*;cases C1<;>cases C2<;>simp -implicitDefEqProofs (disch:=first|omega|(simp;done)|assumption) [r1,h1,c1,c2]
 ·generalize callP s f di=C1 at*;generalize callP s f (-di)=C2 at*;generalize byP s f di=B1 at*;cases C1<;>cases C2<;>cases B1<;>simp -implicitDefEqProofs (disch:=first|omega|(simp;done)|assumption) [r1,h1,h0,d1,d2,b1]
theorem Ake (Γ:H6)(M:Nat)(hC:Abq (Γ 602))(hB:Avk (Γ 603)):Avl (run Γ M X1):=by
 intro s f d hf hd;have c1:=hC s f 1;have c2:=hC s f (-1);have b1:=hB s f 1 hf;have b2:=hB s f (-1) hf;unfold Agu;simp only [sgD]at c1 c2 b1 b2 ⊢;have fU:d= -1\/d=0\/d=1:=by omega
 rcases fU with rfl|rfl|rfl
 all_goals
  try rw [show (-(-1):Int)=1 from rfl]
  generalize callP s f 1=C1 at*;generalize callP s f (-1)=C2 at*;generalize byP s f 1=B1 at*;generalize byP s f (-1)=B2 at*;cases C1<;>cases C2<;>cases B1<;>cases B2<;>simp -implicitDefEqProofs (disch:=first|omega|(simp;done)|assumption) [c1,c2,b1,b2]
theorem Aro (Γ:H6)(M:Nat)(hM:200<M)(hR:A0o (Γ 604))(hC:Abq (Γ 602))(hB:Avk (Γ 603)):Aht (run Γ M Abf):=by
 intro s c f hf hd hl;have r1:=hR c hl;have c1:=hC s f 1;have c2:=hC s f (-1);have b1:=hB s f c.dir hf;have d1:=hC s f c.dir;have d2:=hC s f (-c.dir);have hll:=M1 (Acn c) 128;have bX:f∈A6 (Acn c) 128↔Ala (Acn c) f=true:=by
  grind [Aop,Ala]
 unfold A7d;obtain⟨ps,di,mo,le,wa,rs⟩:=c;dsimp only at*;obtain⟨so,hso⟩:∃so:Obj,so=⟨6,[A4 (sgD s)]⟩:=⟨_,rfl⟩;obtain⟨co,rL⟩:∃co:Obj,co=⟨6,[A4 (Cr.cells ⟨ps,di,mo,le,wa,rs⟩)]⟩:=⟨_,rfl⟩;generalize Ala (Acn ⟨ps,di,mo,le,wa,rs⟩) f=H at*;generalize A6 (Acn ⟨ps,di,mo,le,wa,rs⟩) 128=T at*;obtain⟨ax,s',bN,aP⟩:∃ax s',((ax= .ret/\s'=⟨[(6,bo true)],[]⟩/\f∈T)\/(ax= .ex 0/\s'=⟨[(2,i64 f),(3,.loc 3 0 0),(4,.loc 4 0 0)],[(3,so),(4,co)]⟩/\f∉T))/\∀s0,nrm [2,3,4,7,8] [3,4] s0=⟨[(2,i64 f),(3,.loc 3 0 0),(4,.loc 4 0 0),(7,nuL T),(8,i64 (0:Nat))],[(3,so),(4,co)]⟩->lp (exec Γ M Ain) M s0=some (ax,s'):=by
  refine Add (λ q:Nat=>⟨[(2,i64 f),(3,.loc 3 0 0),(4,.loc 4 0 0),(7,nuL T),(8,i64 q)],[(3,so),(4,co)]⟩) (λ q=>q<=T.length/\∀j (h:j<T.length),j<q->T[j]≠f) (λ q=>T.length-q) _ 0 M (by simp) ⟨by omega,λ j _ h=>by omega⟩ (by omega) ?_
  rintro k ⟨hk,hj⟩;by_cases aC:k<T.length
  ·obtain⟨x,hx⟩:∃x,T[k]'aC=x:=⟨_,rfl⟩;by_cases hxf:x=f
   ·simp -implicitDefEqProofs (disch:=first|omega|(simp;done)|assumption) [iD,aC,hx,hxf];grind [List.getElem_mem]
   ·simp -implicitDefEqProofs (disch:=first|omega|(simp;done)|assumption) [iD,aC,hx,hxf];refine⟨k+1,by omega,⟨by omega,λ j eJ fR=> ?_⟩,by omega⟩
    grind [Nat.lt_or_ge]
  ·obtain rfl:k=T.length:=by omega
   simp -implicitDefEqProofs (disch:=first|omega|(simp;done)|assumption);grind [List.getElem_of_mem]
 have bK:=aP ⟨[(2,i64 f),(3,.loc 3 0 0),(4,.loc 4 0 0),(7,nuL T),(8,i64 0)],[(3,so),(4,co)]⟩ (by simp)
 subst hso rL;simp only [sgD,Cr.cells]at r1 c1 c2 b1 d1 d2 bK ⊢;rcases bN with ⟨rfl,rfl,hm⟩|⟨rfl,rfl,hm⟩
 ·have hH:H=true:=bX.1 hm;subst hH;simp -implicitDefEqProofs (disch:=first|omega|(simp;done)|assumption)at bK;simp -implicitDefEqProofs (disch:=first|omega|(simp;done)|assumption) [r1,bK]
 ·have hH:H=false:=by cases H with
   |false=>rfl
   |true=>exact absurd (bX.2 rfl) hm
  subst hH;simp -implicitDefEqProofs (disch:=first|omega|(simp;done)|assumption)at bK;by_cases h0:di=0
  ·subst h0;generalize callP s f 1=C1 at*;generalize callP s f (-1)=C2 at*;cases C1<;>cases C2<;>simp -implicitDefEqProofs (disch:=first|omega|(simp;done)|assumption) [r1,bK,c1,c2]
  ·generalize callP s f di=C1 at*;generalize callP s f (-di)=C2 at*;generalize byP s f di=B1 at*;cases C1<;>cases C2<;>cases B1<;>simp -implicitDefEqProofs (disch:=first|omega|(simp;done)|assumption) [r1,bK,h0,d1,d2,b1]
structure ScG (s:S6):Prop where
 floors:2<=s.floors/\s.floors<=128
 gap:1<=s.gap/\s.gap<=16
 cars:1<=s.cars/\s.cars<=16
 capacity:1<=s.capacity/\s.capacity<=64
 opn:1<=s.opn/\s.opn<=64
 dwell:1<=s.dwell/\s.dwell<=64
 cls:1<=s.cls/\s.cls<=64
 transfer:1<=s.transfer/\s.transfer<=64
structure CrG (c:Cr):Prop where
 pos:0<=c.pos/\c.pos<=100000
 dir: -1<=c.dir/\c.dir<=1
 rid:c.rid.length<=100
def Auj (s:S6)(c:Cr)(p q:Nat->Bool):Cr:=
 if c.pos%s.gap≠0 then⟨c.pos+c.dir,c.dir,c.mode,c.left,c.waited,c.rid⟩
 else if A7d (Alc c s.capacity p q) c (c.pos/s.gap)then⟨c.pos,Agu (Alc c s.capacity p q) (c.pos/s.gap) c.dir,2,s.opn,c.waited,c.rid⟩
 else if Agu (Alc c s.capacity p q) (c.pos/s.gap) c.dir=0 then⟨c.pos,0,0,c.left,c.waited,c.rid⟩
 else⟨c.pos+Agu (Alc c s.capacity p q) (c.pos/s.gap) c.dir,Agu (Alc c s.capacity p q) (c.pos/s.gap) c.dir,1,c.left,c.waited,c.rid⟩
theorem A3l (g:Sg)(f d:Int)(hd: -1<=d/\d<=1): -1<=Agu g f d/\Agu g f d<=1:=by
 grind [Agu]
def Bs1 (g:List AV->Option (List AV)):Prop:=∀pos gap:Int,(0<=pos/\pos<=1000000)->(1<=gap/\gap<=100)->g [i64 pos,i64 gap]=some [i64 (pos/gap),bo (decide (pos%gap=0))]
theorem Auk (Γ:H6)(M:Nat):Bs1 (run Γ M Ach):=by
 intro pos gap hp hg;have h1:0<=pos/gap:=B89 hp.1 (by omega)
 have h2:pos/gap<=pos:=B9h _ hp.1;simp -implicitDefEqProofs (disch:=first|omega|(simp;done)|assumption)
def Aqs (g:List AV->Option (List AV)):Prop:=∀(s:S6)(c:Cr)(p q:Nat->Bool),ScG s->CrG c->g [.agg s.cells,.agg c.cells,E0 p,E0 q]=some [.agg (Auj s c p q).cells]
theorem A0q (Γ:H6)(M:Nat)(hF:Bs1 (Γ 583))(hS:Avj (Γ 582))(hO:Avl (Γ 581))(hT:Aht (Γ 580)):Aqs (run Γ M Afq):=by
 intro s c p q hs hc;have hgap:=hs.gap;have cB:=hc.pos;have mP:=hc.dir;have h1:0<=c.pos/s.gap:=B89 cB.1 (by omega)
 have h2:c.pos/s.gap<=c.pos:=B9h _ cB.1;have e1:=hF c.pos s.gap (by omega) (by omega)
 have e2:=hS c s.capacity p q hc.rid;have e3:=hO (Alc c s.capacity p q) (c.pos/s.gap) c.dir (by omega) mP
 have e4:=hT (Alc c s.capacity p q) c (c.pos/s.gap) (by omega) mP hc.rid
 have gV:=A3l (Alc c s.capacity p q) (c.pos/s.gap) c.dir mP;unfold Auj;obtain⟨ps,di,mo,le,wa,rs⟩:=c;dsimp only at*;simp only [Cr.cells,E0,Q7,sgD]at e2 e3 e4;generalize Alc ⟨ps,di,mo,le,wa,rs⟩ s.capacity p q=G at*;generalize Agu G (ps/s.gap) di=FD at*;generalize A7d G ⟨ps,di,mo,le,wa,rs⟩ (ps/s.gap)=ST at*;generalize ps/s.gap=FL at*;by_cases h0:ps%s.gap=0
 ·simp only [h0,ne_eq,not_true_eq_false,B7d,decide_true]at e1 ⊢;cases ST
  ·by_cases h3:FD=0
   ·subst h3;simp -implicitDefEqProofs (disch:=first|omega|(simp;done)|assumption) [e1,e2,e3,e4]
   ·simp -implicitDefEqProofs (disch:=first|omega|(simp;done)|assumption) [e1,e2,e3,e4,h3]
  ·simp -implicitDefEqProofs (disch:=first|omega|(simp;done)|assumption) [e1,e2,e3,e4]
 ·simp only [h0,ne_eq,not_false_eq_true,B68,decide_false]at e1 ⊢;simp -implicitDefEqProofs (disch:=first|omega|(simp;done)|assumption) [e1]
theorem Av7 (Γ:H6)(M:Nat)(hS:Avj (Γ 588))(hO:Avl (Γ 586))(hT:Aht (Γ 587)):Aqs (run Γ M Adp):=by
 intro s c p q hs hc;have hgap:=hs.gap;have cB:=hc.pos;have mP:=hc.dir;have h1:0<=c.pos/s.gap:=B89 cB.1 (by omega)
 have h2:c.pos/s.gap<=c.pos:=B9h _ cB.1;have e2:=hS c s.capacity p q hc.rid;have e3:=hO (Alc c s.capacity p q) (c.pos/s.gap) c.dir (by omega) mP
 have e4:=hT (Alc c s.capacity p q) c (c.pos/s.gap) (by omega) mP hc.rid
 have gV:=A3l (Alc c s.capacity p q) (c.pos/s.gap) c.dir mP;unfold Auj;obtain⟨ps,di,mo,le,wa,rs⟩:=c;dsimp only at*;simp only [Cr.cells,E0,Q7,sgD]at e2 e3 e4;generalize Alc ⟨ps,di,mo,le,wa,rs⟩ s.capacity p q=G at*;generalize hFD:Agu G (ps/s.gap) di=FD at*;generalize hST:A7d G ⟨ps,di,mo,le,wa,rs⟩ (ps/s.gap)=ST at*;obtain⟨FL,kT⟩:∃FL,ps/s.gap=FL:=⟨_,rfl⟩;rw [kT]at h1 h2 e3 e4;by_cases h0:ps%s.gap=0
 ·rw [B6j (by simp [h0])]
  cases ST
  ·by_cases h3:FD=0
   ·subst h3;simp -implicitDefEqProofs (disch:=first|omega|(simp;done)|assumption) [h0,kT,e2,e3,e4]
   ·simp -implicitDefEqProofs (disch:=first|omega|(simp;done)|assumption) [h0,kT,e2,e3,e4,h3]
  ·simp -implicitDefEqProofs (disch:=first|omega|(simp;done)|assumption) [h0,kT,e2,e3,e4]
 ·rw [B6l h0];simp -implicitDefEqProofs (disch:=first|omega|(simp;done)|assumption) [h0]
end Go.Am
