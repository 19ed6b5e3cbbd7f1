import Derived.Test.YtgnjaophoffbbaaGreatHa
import Derived.Test.YtgnjaophoffbbaaGreatXa
import Derived.Test.YtgnjaophoffbbaaGreatB4
import Derived.Test.YtgnjaophoffbbaaGreatLayCl
import Derived.Test.YtgnjaophoffbbaaGreatSa
set_option maxHeartbeats 4000000
set_option maxRecDepth 20000
set_option linter.unusedVariables false
set_option linter.unusedSimpArgs false
namespace Go.Am
abbrev PF :=PG
abbrev DF :=List AV->Option (List AV)
def A2l :List (Nat×PF)->Nat->PF
 |[],_=>λ _=>none
 |(k,S)::r,f=>if f=k then S else A2l r f
def A7r :List (Nat×DF)->Nat->DF
 |[],_=>λ _=>none
 |(k,S)::r,f=>if f=k then S else A7r r f
def xl (D:List (Nat×DF))(L:List (Nat×PF)):H6:=⟨A7r D,A2l L,λ _ _=>none⟩
abbrev Buh (S:PF):Prop:=∀(s:St)(rs:List AV)(ob:OL)(R:List Nat),(∀r∈R,GB<=r)->S s=some (rs,ob)->S ⟨E1 R s.fr,s.ob⟩=some (rs,ob)
def OkP (P:Program)(nm:Nat->Option Nat):List (Nat×PF)->Prop
 |[]=>True
 |(k,S)::r=>(∀g,nm k=some g->D9 P g S)/\Buh S/\OkP P nm r
def OkD (P:Program)(nm:Nat->Option Nat):List (Nat×DF)->Prop
 |[]=>True
 |(k,S)::r=>(∀g,nm k=some g->Api P g S)/\OkD P nm r
theorem Azu {P:Program}{nm:Nat->Option Nat}:∀{L:List (Nat×PF)},OkP P nm L->∀f,(∀g,nm f=some g->D9 P g (A2l L f))/\Buh (A2l L f)
 |[],_,f=>⟨λ g _=>D9.none,λ s rs ob R _ h=>by simp [A2l]at h⟩
 |(k,S)::r,h,f=>by
  unfold A2l;split
  ·rename_i e;subst e;exact⟨h.1,h.2.1⟩
  ·exact Azu h.2.2 f
theorem Ba2 {P:Program}{nm:Nat->Option Nat}:∀{L:List (Nat×DF)},OkD P nm L->∀f,∀g,nm f=some g->Api P g (A7r L f)
 |[],_,f=>λ g _ F w ds vs rs _ _ h=>by simp [A7r]at h
 |(k,S)::r,h,f=>by
  unfold A7r;split
  ·rename_i e;subst e;exact h.1
  ·exact Ba2 h.2 f
theorem Bmq {P:Program}{nm:Nat->Option Nat}{T:Tab}{D:List (Nat×DF)}{L:List (Nat×PF)}(hD:OkD P nm D)(hL:OkP P nm L):XOk P nm T (xl D L):=⟨λ f g h _=>Ba2 hD f g h,λ f g h _=>(Azu hL f).1 g h,λ f=>(Azu hL f).2⟩
theorem X3 {T:Tab}{I:List (Nat×Nat)}{M n f:Nat}{D:List (Nat×DF)}{L:List (Nat×PF)}(h:get T f=none):(env T I (xl D L) M n).pt f=A2l L f:=by
 funext s;cases n<;>simp [env,Ajo,h,xl]
theorem B0z {T:Tab}{I:List (Nat×Nat)}{M n f:Nat}{D:List (Nat×DF)}{L:List (Nat×PF)}(h:get T f=none):(env T I (xl D L) M n).fn f=A7r D f:=by
 funext s;cases n<;>simp [env,A2a,h,xl]
abbrev e0T :Tab:=[(616,Q6,1),(741,Z0,1),(178,Adk,1),(173,Afn,2),(507,Aig,1),(523,W9,2),(508,J6,2),(510,G3,4)]
abbrev B3m :List (Nat×Nat):=[]
noncomputable abbrev e0E :Nat->H6:=env e0T B3m Axn 4000
noncomputable def e0 :H6:=e0E 4
theorem A1b (n:Nat):Al3 (e0E (n+1) 616):=by
  have h:Al3 (run (e0E (n)) 4000 Q6):=Af3 _ _ (by omega)
  unfold Al3 at h ⊢;intros;rw [A9 rfl rfl];apply h<;>assumption
theorem A1c (n:Nat):Bmd ((e0E (n+2)).pt 741):=by
  rw [show (e0E (n+2)).pt 741=H9 (e0E (n+1)) 4000 Z0 from funext λ s=>E2 (k:=1) rfl (by decide+kernel)];exact Apa _ _ (by omega) (A1b (n+0))
theorem A5f (n:Nat):Bwk (e0E (n+1) 178):=by
  have h:Bwk (run (e0E (n)) 4000 Adk):=Av8 _ _;unfold Bwk at h ⊢;intros;rw [A9 rfl rfl];apply h<;>assumption
theorem A5g (n:Nat):Avm (e0E (n+2) 173):=by
  have h:Avm (run (e0E (n+1)) 4000 Afn):=A0s _ _ (A5f (n+0));unfold Avm at h ⊢;intros;rw [A9 rfl rfl];apply h<;>assumption
theorem A5h (n:Nat):Bg7 (e0E (n+3) 507):=by
  have h:Bg7 (run (e0E (n+2)) 4000 Aig):=A41 _ _ (A5g (n+0));unfold Bg7 at h ⊢;intros;rw [A9 rfl rfl];apply h<;>assumption
theorem A1d (n:Nat):Al4 (e0E (n+1) 523):=by
  have h:Al4 (run (e0E (n)) 4000 W9):=Akf _ _;unfold Al4 at h ⊢;intros;rw [A9 rfl rfl];apply h<;>assumption
theorem A1e (n:Nat):Bt1 ((e0E (n+4)).pt 508):=by
  rw [show (e0E (n+4)).pt 508=H9 (e0E (n+3)) 4000 J6 from funext λ s=>E2 (k:=2) rfl (by decide+kernel)];exact Alg _ _ (A5h (n+0))
theorem A1f (n:Nat):Bt5 ((e0E (n+2)).pt 510):=by
  rw [show (e0E (n+2)).pt 510=H9 (e0E (n+1)) 4000 G3 from funext λ s=>E2 (k:=4) rfl (by decide+kernel)];exact Ali _ _ (A1d (n+0))
theorem B00 :Bmd (e0.pt 741):=(A1c 2)
theorem Bxx :A2h (e0.pt 508):=B0c (A1e 0)
theorem Bxy :A7j (e0.pt 510):=B0d (A1f 2)
abbrev e1T :Tab:=[(533,N2,1),(528,V7,1),(740,Z1,1)]
abbrev B3n :List (Nat×Nat):=[]
noncomputable abbrev e1E :Nat->H6:=env e1T B3n (xl [] [(741,U4 1 [741004] (e0.pt 741))]) 4000
noncomputable def e1 :H6:=e1E 3
theorem A1g (n:Nat):Aoo (e1E (n+1) 533):=by
  have h:Aoo (run (e1E (n)) 4000 N2):=Ad4 _ _ (by omega)
  unfold Aoo at h ⊢;intros;rw [A9 rfl rfl];apply h<;>assumption
theorem A5i (n:Nat):Avi (e1E (n+2) 528):=by
  have h:Avi (run (e1E (n+1)) 4000 V7):=Ah2 _ _ (by omega) (A1g (n+0))
  unfold Avi at h ⊢;intros;rw [A9 rfl rfl];apply h<;>assumption
theorem A1h (n:Nat):Bme ((e1E (n+3)).pt 740):=by
  rw [show (e1E (n+3)).pt 740=H9 (e1E (n+2)) 4000 Z1 from funext λ s=>E2 (k:=1) rfl (by decide+kernel)];exact Apb _ _ (by omega) (A5i (n+0)) (by rw [X3 rfl];exact Bwh B00)
theorem Btq :Bme (e1.pt 740):=(A1h 0)
abbrev e2T :Tab:=[(616,Q6,1),(611,R6,1),(533,N2,1),(528,V7,1),(612,Aav,2),(608,X0,2),(600,R7,3),(601,Acf,4),(613,P3,3),(588,Aaw,4),(602,P4,3),(603,L0,3),(586,X1,3),(164,Aax,2),(589,Z5,4),(607,Abj,3),(590,Z6,3),(606,Ack,3),(575,M9,3),(605,Acj,3),(576,Z7,3)]
abbrev B3p :List (Nat×Nat):=[]
noncomputable abbrev e2E :Nat->H6:=env e2T B3p (xl [] [(740,U4 1 [741004] (e1.pt 740))]) 4000
noncomputable def e2 :H6:=e2E 7
theorem A1i (n:Nat):Al3 (e2E (n+1) 616):=by
  have h:Al3 (run (e2E (n)) 4000 Q6):=Af3 _ _ (by omega)
  unfold Al3 at h ⊢;intros;rw [A9 rfl rfl];apply h<;>assumption
theorem Anf (n:Nat):Aqr (e2E (n+2) 611):=by
  have h:Aqr (run (e2E (n+1)) 4000 R6):=Aiy _ _ (by omega) (A1i (n+0))
  unfold Aqr at h ⊢;intros;rw [A9 rfl rfl];apply h<;>assumption
theorem A1j (n:Nat):Aoo (e2E (n+1) 533):=by
  have h:Aoo (run (e2E (n)) 4000 N2):=Ad4 _ _ (by omega)
  unfold Aoo at h ⊢;intros;rw [A9 rfl rfl];apply h<;>assumption
theorem Ah4 (n:Nat):Avi (e2E (n+2) 528):=by
  have h:Avi (run (e2E (n+1)) 4000 V7):=Ah2 _ _ (by omega) (A1j (n+0))
  unfold Avi at h ⊢;intros;rw [A9 rfl rfl];apply h<;>assumption
theorem A1k (n:Nat):Aix (e2E (n+1) 612):=by
  have h:Aix (run (e2E (n)) 4000 Aav):=Am1 _ _ (by omega)
  unfold Aix at h ⊢;intros;rw [A9 rfl rfl];apply h<;>assumption
theorem Ang (n:Nat):Agt (e2E (n+1) 608):=by
  have h:Agt (run (e2E (n)) 4000 X0):=Akd _ _;unfold Agt at h ⊢;intros;rw [A9 rfl rfl];apply h<;>assumption
theorem Anh (n:Nat):Aug (e2E (n+3) 600):=by
  have h:Aug (run (e2E (n+2)) 4000 R7):=Aiz _ _ (Ang (n+1)) (Anf (n+0));unfold Aug at h ⊢;intros;rw [A9 rfl rfl];apply h<;>assumption
theorem A1l (n:Nat):Ajs (e2E (n+4) 601):=by
  have h:Ajs (run (e2E (n+3)) 4000 Acf):=Apr _ _ (by rw [X3 rfl];exact Bg5 Btq) (Anh (n+0)) (Ah4 (n+1))
  unfold Ajs at h ⊢;intros;rw [A9 rfl rfl];apply h<;>assumption
theorem A1m (n:Nat):Ax1 (e2E (n+3) 613):=by
  have h:Ax1 (run (e2E (n+2)) 4000 P3):=Agp _ _ (by omega) (Anf (n+0))
  unfold Ax1 at h ⊢;intros;rw [A9 rfl rfl];apply h<;>assumption
theorem A5j (n:Nat):Avj (e2E (n+5) 588):=by
  have h:Avj (run (e2E (n+4)) 4000 Aaw):=Am2 _ _ (A1l (n+0)) (Anh (n+1)) (Ah4 (n+2));unfold Avj at h ⊢;intros;rw [A9 rfl rfl];apply h<;>assumption
theorem Awa (n:Nat):Abq (e2E (n+2) 602):=by
  have h:Abq (run (e2E (n+1)) 4000 P4):=Agq _ _ (A1k (n+0));unfold Abq at h ⊢;intros;rw [A9 rfl rfl];apply h<;>assumption
theorem A5k (n:Nat):Avk (e2E (n+4) 603):=by
  have h:Avk (run (e2E (n+3)) 4000 L0):=Ad3 _ _ (A1m (n+0));unfold Avk at h ⊢;intros;rw [A9 rfl rfl];apply h<;>assumption
theorem A5l (n:Nat):Avl (e2E (n+5) 586):=by
  have h:Avl (run (e2E (n+4)) 4000 X1):=Ake _ _ (Awa (n+2)) (A5k (n+0));unfold Avl at h ⊢;intros;rw [A9 rfl rfl];apply h<;>assumption
theorem Apw (n:Nat):Avm (e2E (n+1) 164):=by
  have h:Avm (run (e2E (n)) 4000 Aax):=Am7 _ _;unfold Avm at h ⊢;intros;rw [A9 rfl rfl];apply h<;>assumption
theorem A5m (n:Nat):B1n ((e2E (n+2)).pt 589):=by
  rw [show (e2E (n+2)).pt 589=H9 (e2E (n+1)) 4000 Z5 from funext λ s=>E2 (k:=4) rfl (by decide+kernel)];exact Ape _ _ (by omega) (Apw (n+0))
theorem Ani (n:Nat):Bmi ((e2E (n+1)).pt 607):=by
  rw [show (e2E (n+1)).pt 607=H9 (e2E (n)) 4000 Abj from funext λ s=>E2 (k:=3) rfl (by decide+kernel)];exact Aru _ _
theorem A1n (n:Nat):Bt9 ((e2E (n+1)).pt 590):=by
  rw [show (e2E (n+1)).pt 590=H9 (e2E (n)) 4000 Z6 from funext λ s=>E2 (k:=3) rfl (by decide+kernel)];exact Apf _ _ (by omega)
theorem A1o (n:Nat):Bua ((e2E (n+2)).pt 606):=by
  rw [show (e2E (n+2)).pt 606=H9 (e2E (n+1)) 4000 Ack from funext λ s=>E2 (k:=3) rfl (by decide+kernel)];exact Aup _ _ (by omega) (Ani (n+0))
theorem Au0 (n:Nat):Arv ((e2E (n+3)).pt 575):=by
  rw [show (e2E (n+3)).pt 575=H9 (e2E (n+2)) 4000 M9 from funext λ s=>E2 (k:=3) rfl (by decide+kernel)];exact Afg _ _ (by omega) (Apw (n+1)) (Ah4 (n+0))
theorem A1p (n:Nat):Bub ((e2E (n+6)).pt 605):=by
  rw [show (e2E (n+6)).pt 605=H9 (e2E (n+5)) 4000 Acj from funext λ s=>E2 (k:=3) rfl (by decide+kernel)];exact Auq _ _ (Au0 (n+2)) (A5j (n+0))
theorem Awb (n:Nat):A04 ((e2E (n+7)).pt 576):=by
  rw [show (e2E (n+7)).pt 576=H9 (e2E (n+6)) 4000 Z7 from funext λ s=>E2 (k:=3) rfl (by decide+kernel)];exact Auy _ _ (by omega) (A1p (n+0)) (A5l (n+1)) (A1o (n+4)) (A5m (n+4)) (Ang (n+5)) (Ani (n+5)) (A1n (n+5))
theorem Brc :A04 (e2.pt 576):=(Awb 0)
def Bui (g:PF):Prop:=∀s p,ScG s->p.c.rid.length<=100->(p.ws.length<=20/\p.ks.length<=20/\0<=p.i/\p.i<s.cars/\(∀k∈p.ks,Afy s k)/\(∀w∈p.ws,W6 s w)/\Bd0 s p g)\/Ba0 s p g
theorem Brd (Γ:H6)(M:Nat)(hM:200<M){SS SC:PF}(eS:Γ.pt 510=U6 4 SS)(oX:A7j SS)(eC:Γ.pt 508=U6 2 SC)(hCm:A2h SC):Bui (H9 Γ M R3):=λ s p hs hr=>by
 by_cases h:p.ws.length<=20/\p.ks.length<=20/\0<=p.i/\p.i<s.cars
 ·obtain⟨a,b,c,d⟩:=h;rcases A5d Γ M hM eS oX eC hCm s hs p hr a b c d with ⟨h1,h2,h3⟩|⟨_,h⟩
  ·exact .inl ⟨a,b,c,d,h1,h2,h3⟩
  ·exact .inr h
 ·exact .inr (A5c Γ M hM s hs p h)
abbrev e3T :Tab:=[(616,Q6,1),(611,R6,1),(533,N2,1),(528,V7,1),(612,Aav,2),(608,X0,2),(600,R7,3),(601,Acf,4),(604,Ace,1),(613,P3,3),(588,Aaw,4),(602,P4,3),(603,L0,3),(586,X1,3),(587,Abf,3),(574,Adp,4),(164,Aax,2),(575,M9,3),(573,Adq,2),(609,Al1,2),(617,Aij,2),(597,Aii,2),(615,Adl,2),(614,Afo,2),(527,Aau,2),(596,Adm,1),(599,Afp,2),(592,Adn,3),(593,Al2,4),(610,Acd,3),(582,Aim,4),(595,R9,3),(594,O2,3),(581,Z3,3),(580,S0,3),(583,Ach,2),(571,Afq,4),(523,W9,2),(524,P7,2),(521,H5,2),(525,V6,2),(511,P8,3),(598,V8,3),(585,V9,3),(584,Z4,3),(572,Q1,2),(570,O5,2),(49,V1,3),(3,Y4,3),(127,Aei,2),(568,Ag6,1),(129,Afs,1),(566,R3,2),(560,S1,1)]
abbrev B3q :List (Nat×Nat):=[]
noncomputable abbrev Z8 :Nat->H6:=env e3T B3q (xl [] [(740,U4 1 [741004] (e1.pt 740)),(518,Ab2),(514,U6 1 (Al8 Ajw)),(516,U6 1 (Al8 Aen)),(510,U6 4 (e0.pt 510)),(508,U6 2 (e0.pt 508)),(576,Amd 3 (e2.pt 576))]) 4000
noncomputable def e3 :H6:=Z8 7
theorem A1q (n:Nat):Al3 (Z8 (n+1) 616):=by
  have h:Al3 (run (Z8 (n)) 4000 Q6):=Af3 _ _ (by omega)
  unfold Al3 at h ⊢;intros;rw [A9 rfl rfl];apply h<;>assumption
theorem Af5 (n:Nat):Aqr (Z8 (n+2) 611):=by
  have h:Aqr (run (Z8 (n+1)) 4000 R6):=Aiy _ _ (by omega) (A1q (n+0))
  unfold Aqr at h ⊢;intros;rw [A9 rfl rfl];apply h<;>assumption
theorem A1r (n:Nat):Aoo (Z8 (n+1) 533):=by
  have h:Aoo (run (Z8 (n)) 4000 N2):=Ad4 _ _ (by omega)
  unfold Aoo at h ⊢;intros;rw [A9 rfl rfl];apply h<;>assumption
theorem Adu (n:Nat):Avi (Z8 (n+2) 528):=by
  have h:Avi (run (Z8 (n+1)) 4000 V7):=Ah2 _ _ (by omega) (A1r (n+0))
  unfold Avi at h ⊢;intros;rw [A9 rfl rfl];apply h<;>assumption
theorem A1s (n:Nat):Aix (Z8 (n+1) 612):=by
  have h:Aix (run (Z8 (n)) 4000 Aav):=Am1 _ _ (by omega)
  unfold Aix at h ⊢;intros;rw [A9 rfl rfl];apply h<;>assumption
theorem A1t (n:Nat):Agt (Z8 (n+1) 608):=by
  have h:Agt (run (Z8 (n)) 4000 X0):=Akd _ _;unfold Agt at h ⊢;intros;rw [A9 rfl rfl];apply h<;>assumption
theorem Anj (n:Nat):Aug (Z8 (n+3) 600):=by
  have h:Aug (run (Z8 (n+2)) 4000 R7):=Aiz _ _ (A1t (n+1)) (Af5 (n+0));unfold Aug at h ⊢;intros;rw [A9 rfl rfl];apply h<;>assumption
theorem A1u (n:Nat):Ajs (Z8 (n+4) 601):=by
  have h:Ajs (run (Z8 (n+3)) 4000 Acf):=Apr _ _ (by rw [X3 rfl];exact Bg5 Btq) (Anj (n+0)) (Adu (n+1))
  unfold Ajs at h ⊢;intros;rw [A9 rfl rfl];apply h<;>assumption
theorem Awc (n:Nat):A0o (Z8 (n+3) 604):=by
  have h:A0o (run (Z8 (n+2)) 4000 Ace):=Aui _ _ (by omega) (Adu (n+0)) (Af5 (n+0))
  unfold A0o at h ⊢;intros;rw [A9 rfl rfl];apply h<;>assumption
theorem A1v (n:Nat):Ax1 (Z8 (n+3) 613):=by
  have h:Ax1 (run (Z8 (n+2)) 4000 P3):=Agp _ _ (by omega) (Af5 (n+0))
  unfold Ax1 at h ⊢;intros;rw [A9 rfl rfl];apply h<;>assumption
theorem A5n (n:Nat):Avj (Z8 (n+5) 588):=by
  have h:Avj (run (Z8 (n+4)) 4000 Aaw):=Am2 _ _ (A1u (n+0)) (Anj (n+1)) (Adu (n+2));unfold Avj at h ⊢;intros;rw [A9 rfl rfl];apply h<;>assumption
theorem Akh (n:Nat):Abq (Z8 (n+2) 602):=by
  have h:Abq (run (Z8 (n+1)) 4000 P4):=Agq _ _ (A1s (n+0));unfold Abq at h ⊢;intros;rw [A9 rfl rfl];apply h<;>assumption
theorem Apx (n:Nat):Avk (Z8 (n+4) 603):=by
  have h:Avk (run (Z8 (n+3)) 4000 L0):=Ad3 _ _ (A1v (n+0));unfold Avk at h ⊢;intros;rw [A9 rfl rfl];apply h<;>assumption
theorem A5o (n:Nat):Avl (Z8 (n+5) 586):=by
  have h:Avl (run (Z8 (n+4)) 4000 X1):=Ake _ _ (Akh (n+2)) (Apx (n+0));unfold Avl at h ⊢;intros;rw [A9 rfl rfl];apply h<;>assumption
theorem Awd (n:Nat):Aht (Z8 (n+5) 587):=by
  have h:Aht (run (Z8 (n+4)) 4000 Abf):=Aro _ _ (by omega) (Awc (n+1)) (Akh (n+2)) (Apx (n+0))
  unfold Aht at h ⊢;intros;rw [A9 rfl rfl];apply h<;>assumption
theorem A1w (n:Nat):Aqs (Z8 (n+6) 574):=by
  have h:Aqs (run (Z8 (n+5)) 4000 Adp):=Av7 _ _ (A5n (n+0)) (A5o (n+0)) (Awd (n+0));unfold Aqs at h ⊢;intros;rw [A9 rfl rfl];apply h<;>assumption
theorem A5p (n:Nat):Avm (Z8 (n+1) 164):=by
  have h:Avm (run (Z8 (n)) 4000 Aax):=Am7 _ _;unfold Avm at h ⊢;intros;rw [A9 rfl rfl];apply h<;>assumption
theorem Au1 (n:Nat):Arv ((Z8 (n+3)).pt 575):=by
  rw [show (Z8 (n+3)).pt 575=H9 (Z8 (n+2)) 4000 M9 from funext λ s=>E2 (k:=3) rfl (by decide+kernel)];exact Afg _ _ (by omega) (A5p (n+1)) (Adu (n+0))
theorem Au2 (n:Nat):Anc ((Z8 (n+7)).pt 573):=by
  rw [show (Z8 (n+7)).pt 573=H9 (Z8 (n+6)) 4000 Adq from funext λ s=>E2 (k:=2) rfl (by decide+kernel)];exact A48 _ _ (by omega) (A1w (n+0)) (Au1 (n+3)) (by rw [X3 rfl];rfl) Brc
theorem A5q (n:Nat):Bwd (Z8 (n+1) 609):=by
  have h:Bwd (run (Z8 (n)) 4000 Al1):=A8r _ _;unfold Bwd at h ⊢;intros;rw [A9 rfl rfl];apply h<;>assumption
theorem A1x (n:Nat):Bcu (Z8 (n+1) 617):=by
  have h:Bcu (run (Z8 (n)) 4000 Aij):=A4y _ _;unfold Bcu at h ⊢;intros;rw [A9 rfl rfl];apply h<;>assumption
theorem Ank (n:Nat):Aix (Z8 (n+1) 597):=by
  have h:Aix (run (Z8 (n)) 4000 Aii):=A4z _ _;unfold Aix at h ⊢;intros;rw [A9 rfl rfl];apply h<;>assumption
theorem Anl (n:Nat):A7a (Z8 (n+1) 615):=by
  have h:A7a (run (Z8 (n)) 4000 Adl):=Av4 _ _;unfold A7a at h ⊢;intros;rw [A9 rfl rfl];apply h<;>assumption
theorem A1y (n:Nat):Bcv (Z8 (n+2) 614):=by
  have h:Bcv (run (Z8 (n+1)) 4000 Afo):=A0m _ _ (Anl (n+0)) (A1x (n+0));unfold Bcv at h ⊢;intros;rw [A9 rfl rfl];apply h<;>assumption
theorem A1z (n:Nat):A67 (Z8 (n+1) 527):=by
  have h:A67 (run (Z8 (n)) 4000 Aau):=Am0 _ _;unfold A67 at h ⊢;intros;rw [A9 rfl rfl];apply h<;>assumption
theorem Anm (n:Nat):A7c (Z8 (n+2) 596):=by
  have h:A7c (run (Z8 (n+1)) 4000 Adm):=Av5 _ _ (by omega) (A1z (n+0))
  unfold A7c at h ⊢;intros;rw [A9 rfl rfl];apply h<;>assumption
theorem Ann (n:Nat):Agt (Z8 (n+1) 599):=by
  have h:Agt (run (Z8 (n)) 4000 Afp):=A0p _ _;unfold Agt at h ⊢;intros;rw [A9 rfl rfl];apply h<;>assumption
theorem Apy (n:Nat):Bs0 (Z8 (n+2) 592):=by
  have h:Bs0 (run (Z8 (n+1)) 4000 Adn):=Av6 _ _ (Ann (n+0));unfold Bs0 at h ⊢;intros;rw [A9 rfl rfl];apply h<;>assumption
theorem A10 (n:Nat):Ajs (Z8 (n+3) 593):=by
  have h:Ajs (run (Z8 (n+2)) 4000 Al2):=A8s _ _ (Anm (n+0)) (Apy (n+0)) (A5q (n+1));unfold Ajs at h ⊢;intros;rw [A9 rfl rfl];apply h<;>assumption
theorem A5r (n:Nat):Bwg (Z8 (n+3) 610):=by
  have h:Bwg (run (Z8 (n+2)) 4000 Acd):=Auh _ _ (A1y (n+0)) (Anl (n+1));unfold Bwg at h ⊢;intros;rw [A9 rfl rfl];apply h<;>assumption
theorem Apz (n:Nat):Avj (Z8 (n+4) 582):=by
  have h:Avj (run (Z8 (n+3)) 4000 Aim):=A40 _ _ (A10 (n+0)) (Apy (n+1));unfold Avj at h ⊢;intros;rw [A9 rfl rfl];apply h<;>assumption
theorem Aki (n:Nat):Abq (Z8 (n+2) 595):=by
  have h:Abq (run (Z8 (n+1)) 4000 R9):=Ald _ _ (Ank (n+0));unfold Abq at h ⊢;intros;rw [A9 rfl rfl];apply h<;>assumption
theorem Ap0 (n:Nat):Avk (Z8 (n+4) 594):=by
  have h:Avk (run (Z8 (n+3)) 4000 O2):=Ai8 _ _ (A5r (n+0));unfold Avk at h ⊢;intros;rw [A9 rfl rfl];apply h<;>assumption
theorem Ap1 (n:Nat):Avl (Z8 (n+5) 581):=by
  have h:Avl (run (Z8 (n+4)) 4000 Z3):=Apc _ _ (by omega) (Aki (n+2)) (Ap0 (n+0))
  unfold Avl at h ⊢;intros;rw [A9 rfl rfl];apply h<;>assumption
theorem Awe (n:Nat):Aht (Z8 (n+5) 580):=by
  have h:Aht (run (Z8 (n+4)) 4000 S0):=Ale _ _ (Anm (n+2)) (Ank (n+3)) (Aki (n+2)) (Ap0 (n+0));unfold Aht at h ⊢;intros;rw [A9 rfl rfl];apply h<;>assumption
theorem Ap2 (n:Nat):Bs1 (Z8 (n+1) 583):=by
  have h:Bs1 (run (Z8 (n)) 4000 Ach):=Auk _ _;unfold Bs1 at h ⊢;intros;rw [A9 rfl rfl];apply h<;>assumption
theorem A11 (n:Nat):Aqs (Z8 (n+6) 571):=by
  have h:Aqs (run (Z8 (n+5)) 4000 Afq):=A0q _ _ (Ap2 (n+4)) (Apz (n+1)) (Ap1 (n+0)) (Awe (n+0));unfold Aqs at h ⊢;intros;rw [A9 rfl rfl];apply h<;>assumption
theorem A12 (n:Nat):Al4 (Z8 (n+1) 523):=by
  have h:Al4 (run (Z8 (n)) 4000 W9):=Akf _ _;unfold Al4 at h ⊢;intros;rw [A9 rfl rfl];apply h<;>assumption
theorem Awf (n:Nat):A0t ((Z8 (n+1)).pt 524):=by
  rw [show (Z8 (n+1)).pt 524=H9 (Z8 (n)) 4000 P7 from funext λ s=>E2 (k:=2) rfl (by decide+kernel)];exact Ajt _ _
theorem A13 (n:Nat):Bt4 ((Z8 (n+2)).pt 521):=by
  rw [show (Z8 (n+2)).pt 521=H9 (Z8 (n+1)) 4000 H5 from funext λ s=>E2 (k:=2) rfl (by decide+kernel)];exact Alh _ _ (Awf (n+0))
theorem A5s (n:Nat):B1f ((Z8 (n+1)).pt 525):=by
  rw [show (Z8 (n+1)).pt 525=H9 (Z8 (n)) 4000 V6 from funext λ s=>E2 (k:=2) rfl (by decide+kernel)];exact Anx _ _
theorem Awg (n:Nat):Bfi ((Z8 (n+2)).pt 511):=by
  rw [show (Z8 (n+2)).pt 511=H9 (Z8 (n+1)) 4000 P8 from funext λ s=>E2 (k:=3) rfl (by decide+kernel)];exact Aju _ _ (A12 (n+0))
theorem A5t (n:Nat):B1l ((Z8 (n+1)).pt 598):=by
  rw [show (Z8 (n+1)).pt 598=H9 (Z8 (n)) 4000 V8 from funext λ s=>E2 (k:=3) rfl (by decide+kernel)];exact Any _ _
theorem A5u (n:Nat):B1m ((Z8 (n+1)).pt 585):=by
  rw [show (Z8 (n+1)).pt 585=H9 (Z8 (n)) 4000 V9 from funext λ s=>E2 (k:=3) rfl (by decide+kernel)];exact An0 _ _ (by omega)
theorem A87 (n:Nat):InC ((Z8 (n+3)).pt 584):=by
  rw [show (Z8 (n+3)).pt 584=H9 (Z8 (n+2)) 4000 Z4 from funext λ s=>E2 (k:=3) rfl (by decide+kernel)];exact Apd _ _ (by omega) (Ann (n+1)) (A5t (n+1)) (B0b (A13 (n+0))) (B2p (A5s (n+1))) (Bwv (Awg (n+0)))
theorem Awh (n:Nat):Bfn ((Z8 (n+6)).pt 572):=by
  rw [show (Z8 (n+6)).pt 572=H9 (Z8 (n+5)) 4000 Q1 from funext λ s=>E2 (k:=2) rfl (by decide+kernel)];exact Ajx _ _ (by omega) (Ap2 (n+4)) (Apz (n+1)) (Ap1 (n+0)) (by rw [X3 rfl];exact Bhf) (A5u (n+4)) (A87 (n+2))
theorem A14 (n:Nat):A2i ((Z8 (n+7)).pt 570):=by
  rw [show (Z8 (n+7)).pt 570=H9 (Z8 (n+6)) 4000 O5 from funext λ s=>E2 (k:=2) rfl (by decide+kernel)];exact An1 _ _ (by omega) (A11 (n+0)) (by rw [X3 rfl];exact Bhf) (Awh (n+0))
theorem A5v (n:Nat):Bdf (Z8 (n+1) 49):=by
  have h:Bdf (run (Z8 (n)) 4000 V1):=Ary _ _;unfold Bdf at h ⊢;intros;rw [A9 rfl rfl];apply h<;>assumption
theorem A88 (n:Nat):Bdg (Z8 (n+2) 3):=by
  have h:Bdg (run (Z8 (n+1)) 4000 Y4):=Aur _ _ (A5v (n+0));unfold Bdg at h ⊢;intros;rw [A9 rfl rfl];apply h<;>assumption
theorem A89 (n:Nat):AtC (Z8 (n+1) 127):=by
  have h:AtC (run (Z8 (n)) 4000 Aei):=A46 _ _;unfold AtC at h ⊢;intros;rw [A9 rfl rfl];apply h<;>assumption
theorem A5w (n:Nat):Bs8 ((Z8 (n+3)).pt 568):=by
  rw [show (Z8 (n+3)).pt 568=H9 (Z8 (n+2)) 4000 Ag6 from funext λ s=>E2 (k:=1) rfl (by decide+kernel)];exact Bk0 _ _ (by omega) (A88 (n+0)) (A89 (n+1))
theorem A15 (n:Nat):A7m ((Z8 (n+1)).pt 129):=by
  rw [show (Z8 (n+1)).pt 129=H9 (Z8 (n)) 4000 Afs from funext λ s=>E2 (k:=1) rfl (by decide+kernel)];exact A84 _ _ (by omega)
theorem A16 (n:Nat):Bui ((Z8 (n+1)).pt 566):=by
  rw [show (Z8 (n+1)).pt 566=H9 (Z8 (n)) 4000 R3 from funext λ s=>E2 (k:=2) rfl (by decide+kernel)];exact Brd _ _ (by omega) (by rw [X3 rfl];rfl) Bxy (by rw [X3 rfl];rfl) Bxx
theorem A5x (n:Nat):Btm ((Z8 (n+1)).pt 560):=by
  rw [show (Z8 (n+1)).pt 560=H9 (Z8 (n)) 4000 S1 from funext λ s=>E2 (k:=1) rfl (by decide+kernel)];exact Apg _ _ (by omega) (by rw [X3 rfl];rfl) B0e (by rw [X3 rfl];rfl) Bww
theorem Bxz :A2i (e3.pt 570):=(A14 0)
theorem Bre :Anc (e3.pt 573):=(Au2 0)
theorem B01 :Bs8 (e3.pt 568):=(A5w 4)
theorem Bx0 :A7m (e3.pt 129):=(A15 6)
theorem Bx1 :Bui (e3.pt 566):=(A16 6)
theorem Brf :Btm (e3.pt 560):=(A5x 6)
open Go.Proofs Go.Shelf Go.RowKit
abbrev alT :Tab:=[(558,Amy,0),(568,Ag6,1),(3,Y4,3),(49,V1,3),(127,Aei,2),(570,O5,2),(579,Axw,1)]
theorem Bd8 :(env alT [] Axn 4000 9).fn 558 []=some [bo true]:=Bwa (by decide+kernel)
noncomputable abbrev crX :H6:=xl [(558,(env alT [] Axn 4000 9).fn 558)] [(743,M6 743000 2),(742,M6 742000 7),(566,Aqe (e3.pt 566)),(568,U4 1 [568009,1000567,568007] (e3.pt 568)),(129,U4 1 [129008,1000240] (e3.pt 129)),(570,Ajy (e3.pt 570)),(573,Amd 2 (e3.pt 573)),(560,Aji (e3.pt 560))]
theorem Brh :D9 Tryz.prog 5 (M6 743000 2):=
 Atv Tryz.cloneRd Tryz.t38 (.agg #[.int .i64 0,.int .i64 0]) 2 16 (by kernel_rfl) (by kernel_rfl) (by kernel_rfl) (by kernel_rfl) (by kernel_rfl) (by omega) (by omega) Tryz.sizeOf38 743000 (by decide)
theorem Bri :D9 Tryz.prog 9 (M6 742000 7):=
 Atv Tryz.cloneTr Tryz.t53 (.agg #[.int .i64 0,.int .i64 0,.int .i64 0,.int .i64 0,.int .i64 0,.int .i64 0,.int .i64 0]) 7 56 (by kernel_rfl) (by kernel_rfl) (by kernel_rfl) (by kernel_rfl) (by kernel_rfl) (by omega) (by omega) Tryz.sizeOf53 742000 (by decide)
theorem Ahf {n:Nat}{K:List Nat}{S:PF}:Buh (U4 n K S):=λ s rs ob R hR h=>Bcy s rs ob R hR h
theorem B02 {nm:Nat->Option Nat}{T:Tab}(bY:Tryz.prog.follows .mixedOrders=true)(c1:nm 743=some 5)(c2:nm 742=some 9)(h1:nm 514=some 27)(h2:nm 516=some 28)(h3:nm 518=some 22)
  (hT:Ahq Tryz.prog nm (alT++e0T++e1T++e2T++e3T)=true):XOk Tryz.prog nm T crX:=by
 have sp:∀A B:Tab,Ahq Tryz.prog nm (A++B)=true->Ahq Tryz.prog nm A=true/\Ahq Tryz.prog nm B=true:=λ A B h=>by
  induction A with
  |nil=>exact⟨rfl,h⟩
  |cons p A ih=>
   simp only [B7i,Ahq,B6h]at h ⊢;exact⟨⟨h.1,(ih h.2).1⟩,(ih h.2).2⟩
 obtain⟨hT,t3⟩:=sp _ _ hT;obtain⟨hT,t2⟩:=sp _ _ hT;obtain⟨hT,t1⟩:=sp _ _ hT;obtain⟨ta,t0⟩:=sp _ _ hT;have ea:=Amr bY (Azb (T:=alT)) ta (I:=[]) rfl 4000 9;have k0:=Amr bY (Azb (T:=e0T)) t0 (I:=B3m) rfl 4000 4;have x1:XOk Tryz.prog nm e1T (xl [] [(741,U4 1 [741004] (e0.pt 741))]):=Bmq trivial ⟨λ g hg=>(k0.pt _ g hg).own,Ahf,trivial⟩
 have k1:=Amr bY x1 t1 (I:=B3n) rfl 4000 3;have x2:XOk Tryz.prog nm e2T (xl [] [(740,U4 1 [741004] (e1.pt 740))]):=Bmq trivial ⟨λ g hg=>(k1.pt _ g hg).own,Ahf,trivial⟩
 have k2:=Amr bY x2 t2 (I:=B3p) rfl 4000 7;have x3:XOk Tryz.prog nm e3T (xl [] [(740,U4 1 [741004] (e1.pt 740)),(518,Ab2),(514,U6 1 (Al8 Ajw)),(516,U6 1 (Al8 Aen)),(510,U6 4 (e0.pt 510)),(508,U6 2 (e0.pt 508)),(576,Amd 3 (e2.pt 576))]):=
  Bmq trivial ⟨λ g hg=>(k1.pt _ g hg).own,Ahf,
   λ g hg=>by rw [h3]at hg;simp only [B6g]at hg;subst hg;exact A82,λ s rs ob R hR h=>A45 s rs ob R hR h,
   λ g hg=>by rw [h1]at hg;simp only [B6g]at hg;subst hg;exact Ame Bc8.frz,Ai6,
   λ g hg=>by rw [h2]at hg;simp only [B6g]at hg;subst hg;exact Ame A80.frz,Ai6,
   λ g hg=>Ame (k0.pt _ g hg),Ai6,λ g hg=>Ame (k0.pt _ g hg),Ai6,λ g hg=>A37 (k2.pt _ g hg),Aym,trivial⟩
 have k3:=Amr bY x3 t3 (I:=B3q) rfl 4000 7;exact Bmq ⟨λ g hg=>ea.fn _ g hg,trivial⟩ ⟨λ g hg=>by rw [c1]at hg;simp only [B6g]at hg;subst hg;exact Brh,λ s rs ob R hR h=>Ayp _ _ s rs ob R hR h,
  λ g hg=>by rw [c2]at hg;simp only [B6g]at hg;subst hg;exact Bri,λ s rs ob R hR h=>Ayp _ _ s rs ob R hR h,
  λ g hg=>Bd2 (k3.pt _ g hg),Blp,λ g hg=>(k3.pt _ g hg).own,Ahf,λ g hg=>(k3.pt _ g hg).own,Ahf,λ g hg=>Bdq (k3.pt _ g hg),A85,λ g hg=>A37 (k3.pt _ g hg),Aym,λ g hg=>A86 (k3.pt _ g hg),A5e,trivial⟩
def B1q :List CT:=[ctI,ctI]
def B1r :List CT:=[ctI,ctI,ctI,ctI]
def B1s :List CT:=[ctI,ctI,ctI]
abbrev Buj :List CT:=[ctI,ctI,ctI,ctI,.bool,.sl B1q,.sl B1r,.sl B1s,ctI,ctI]
theorem B03 (r:List D)(h:C9 WT B1q r):∃o:Rd,r=o.cells/\True:=by
 simp only [B1q,Ad7,Ahr,Au7]at h;obtain⟨_,_,rfl,⟨a,rfl,_⟩,_,_,rfl,⟨b,rfl,_⟩,rfl⟩:=h;exact⟨⟨a,b⟩,rfl,trivial⟩
theorem B04 (r:List D)(h:C9 WT B1r r):∃o:W4,r=U8 o/\True:=by
 simp only [B1r,Ad7,Ahr,Au7]at h;obtain⟨_,_,rfl,⟨a,rfl,_⟩,_,_,rfl,⟨b,rfl,_⟩,_,_,rfl,⟨c,rfl,_⟩,_,_,rfl,⟨d,rfl,_⟩,rfl⟩:=h;exact⟨(a,b,c,d),rfl,trivial⟩
theorem B05 (r:List D)(h:C9 WT B1s r):∃o:K3,r=U5 o/\True:=by
 simp only [B1s,Ad7,Ahr,Au7]at h;obtain⟨_,_,rfl,⟨a,rfl,_⟩,_,_,rfl,⟨b,rfl,_⟩,_,_,rfl,⟨c,rfl,_⟩,rfl⟩:=h;exact⟨(a,b,c),rfl,trivial⟩
theorem B06 {ds:List D}(h:C9 WT Buj ds):∃p:Plc,ds=p.cells/\p.c.rid.length<=maxLen:=by
 simp only [Buj,Ad7,Ahr,Au7,Bu1,Byr]at h;obtain⟨_,_,rfl,⟨a,rfl,_⟩,_,_,rfl,⟨b,rfl,_⟩,_,_,rfl,⟨c,rfl,_⟩,_,_,rfl,⟨d,rfl,_⟩,_,_,rfl,⟨e,rfl⟩,_,_,rfl,⟨r1,rfl,l1,h1⟩,_,_,rfl,⟨r2,rfl,l2,h2⟩,_,_,rfl,⟨r3,rfl,l3,h3⟩,_,_,rfl,⟨f,rfl,_⟩,_,_,rfl,⟨g,rfl,_⟩,rfl⟩:=h;obtain⟨t1,rfl,_⟩:=Ak4 B03 r1 h1;obtain⟨t2,rfl,_⟩:=Ak4 B04 r2 h2;obtain⟨t3,rfl,_⟩:=Ak4 B05 r3 h3;exact⟨⟨⟨a,b,c,d,e,t1⟩,t2,t3,f,g⟩,rfl,by simpa using l1⟩
abbrev crT :Tab:=[(0,O6,2),(23,Abg,1),(21,Aip,2),(26,Acg,1),(562,Abh,2),(591,Abi,2),(578,Afr,2),(559,Ado,2),(561,Y5,2)]
abbrev Ano :List (Nat×Nat):=[]
theorem A5y (s:S6)(p:Plc)(hs:s.segs.length<=maxLen)(hr:p.c.rid.length<=maxLen):env crT Ano crX 120000 (5) 0 [.agg s.cells,.agg p.cells]=some [bo true]:=by
 have c23_Bnd20 (n:Nat):Bdw (env crT Ano crX 120000 (n+1) 23):=by
  have h:Bdw (run (env crT Ano crX 120000 (n+0)) 120000 Abg):=Ar1 _ 119980;unfold Bdw at h ⊢;intros;rw [A9 rfl rfl];apply h<;>assumption
 have c21_In20C (n:Nat):A7q (env crT Ano crX 120000 (n+2) 21):=by
  have h:A7q (run (env crT Ano crX 120000 (n+1)) 120000 Aip):=A49 (c23_Bnd20 (n+0));unfold A7q at h ⊢;intros;rw [A9 rfl rfl];apply h<;>assumption
 have c26_ChkC (n:Nat):Bxp (env crT Ano crX 120000 (n+3) 26):=by
  have h:Bxp (run (env crT Ano crX 120000 (n+2)) 120000 Acg):=Auz (M:=119900) (c21_In20C (n+0));unfold Bxp at h ⊢;intros;rw [A9 rfl rfl];apply h<;>assumption
 have c562_WthC (n:Nat):Bti (env crT Ano crX 120000 (n+4) 562):=by
  have h:Bti (run (env crT Ano crX 120000 (n+3)) 120000 Abh):=Ar3 _ _ (by omega) (c26_ChkC (n+0))
  unfold Bti at h ⊢;intros;rw [A9 rfl rfl];apply h<;>assumption
 have c591_RidersC (n:Nat):Arw (env crT Ano crX 120000 (n+1) 591):=by
  have h:Arw (run (env crT Ano crX 120000 (n+0)) 120000 Abi):=Arx _ _ (by omega)
  unfold Arw at h ⊢;intros;rw [A9 rfl rfl];apply h<;>assumption
 have c578_CarEC (n:Nat):Bde (env crT Ano crX 120000 (n+2) 578):=by
  have h:Bde (run (env crT Ano crX 120000 (n+1)) 120000 Afr):=A0z _ _ (c591_RidersC (n+0));unfold Bde at h ⊢;intros;rw [A9 rfl rfl];apply h<;>assumption
 have c559_CarsEC (n:Nat):Aqb (env crT Ano crX 120000 (n+3) 559):=by
  have h:Aqb (run (env crT Ano crX 120000 (n+2)) 120000 Ado):=Av9 _ _ (by omega) (c578_CarEC (n+0))
  unfold Aqb at h ⊢;intros;rw [A9 rfl rfl];apply h<;>assumption
 have c561_StatRC (n:Nat):A7n ((env crT Ano crX 120000 (n+4)).pt 561):=by
  rw [show (env crT Ano crX 120000 (n+4)).pt 561=H9 (env crT Ano crX 120000 (n+3)) 120000 Y5 from funext λ s=>E2 (k:=2) rfl (by decide+kernel)];exact Aus _ _ (by omega) (c559_CarsEC (n+0))
 rw [A9 rfl rfl];exact An2 _ _ (by omega) ⟨(c562_WthC 0),(by rw [X3 rfl];rfl),(by rw [X3 rfl];rfl),_,(by rw [X3 rfl];rfl),Bx1,_,(by rw [X3 rfl];rfl),B01,_,(by rw [X3 rfl];rfl),Bx0,_,(by rw [X3 rfl];rfl),Bxz,_,(by rw [X3 rfl];rfl),Bre,_,(by rw [X3 rfl];rfl),Brf,(c561_StatRC 0),(c559_CarsEC 1),(by rw [B0z rfl];exact Bd8)⟩ s p hs hr
end Go.Am
