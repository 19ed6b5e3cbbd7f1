/- The row of the law CarSteps: it answers true, whatever the input. -/
import Derived.Test.YtgnjaophoffbbaaGreatRows
import Derived.Test.YtgnjaophoffbbaaGreatXc
set_option linter.unusedVariables false
set_option linter.unusedSimpArgs false
namespace Go.Proofs.YtgnjaophoffbbaaGreat.carSteps
open Go.ChangeShapes Go.WideShapes Go.ChangeAt Go.RowKit Go.Am
theorem own :ownKnob Tryz.prog.godebug=none:=by kernel_rfl
theorem laid :laidOutB Tryz.prog=true:=by kernel_rfl
def nums :Nat->Option Nat:=get [(0,3),(23,59),(21,31),(26,16),(562,4),(591,58),(578,29),(559,14),(561,12),(616,109),(741,86),(178,82),(173,60),(507,33),(523,32),(508,18),(510,17),(533,77),(528,46),(740,74),(611,86),(612,87),(608,50),(600,73),(601,72),(613,88),(588,42),(602,75),(603,76),(586,44),(164,45),(589,49),(607,51),(590,52),(606,48),(575,25),(605,47),(576,26),(604,74),(587,43),(574,24),(573,11),(609,83),(617,118),(597,65),(615,108),(614,107),(527,39),(596,66),(599,67),(592,62),(593,61),(610,84),(582,36),(595,63),(594,64),(581,37),(580,38),(583,35),(571,21),(524,85),(521,69),(525,70),(511,71),(598,68),(585,40),(584,41),(572,23),(570,10),(49,34),(3,20),(127,19),(568,7),(129,8),(566,6),(560,13),(558,15),(579,30),(514,27),(516,28),(518,22),(743,5),(742,9)]
theorem spec :Go.Am.Api Tryz.prog 3 (env crT Ano crX 120000 5 0):=
 Boh (nm:=nums) (T:=crT) (I:=Ano) (X:=crX) Tryz.checked.mixed (B02 Tryz.checked.mixed (by decide) (by decide) (by decide) (by decide) (by decide) (by decide+kernel)) (by decide+kernel) (by decide+kernel) _ _ 0 3 (by decide)
set_option maxRecDepth 100000 in
theorem lifted (os:Os)(started:os.Started)(H:Type)(enc:TypeId×Value->H):
  ReturnsInHanded {} Tryz.checked os 3 .any (Rows.carStepsSpec.pre6 enc Tryz.prog Tryz.f3 Rows.carStepsRow.domain false) (Rows.carStepsSpec.post enc Tryz.prog Tryz.f3 false true false false):=by
 refine returnsInHanded_of_change (C:=Tryz.checked) own started (by kernel_rfl) Tryz.func3
  (ChangeSpec.witness6 (enc:=enc) (C:=Tryz.checked) false ⟨#[],#[.agg #[.int .i64 0,.int .i64 0,.int .i64 0,.int .i64 0,.int .i64 0,.int .i64 0,.int .i64 0,.int .i64 0,.slice none 0 0,.int .i64 0,.int .i64 0,.int .i64 0,.int .i64 0],.agg #[.int .i64 0,.int .i64 0,.int .i64 0,.int .i64 0,.bool false,.slice none 0 0,.slice none 0 0,.slice none 0 0,.int .i64 0,.int .i64 0]],[]⟩ 8 (by kernel_rfl) (by kernel_rfl) (by kernel_rfl) (by kernel_rfl)) ?_
 intro W base args ds gs before zY hW hcnd _;have mC:∀(j:Nat) t v,Tryz.f3.params[j]? =some t->args[j]? =some v->Value.okWide Tryz.prog W .any base t v:=zY;obtain⟨p,q,hA,hV,nU,_⟩:=id hW;have hA:DataW.TrodAll enc Tryz.prog W 0 (λ _=>true) true Tryz.f3.params.toList args.toList ds p:=hA
 rw [Tryz.params3]at hA;obtain⟨v0,vs0,d0,ds0,p0,q0,-,rfl,rfl,-,r0⟩:=trodAll_cons hA;obtain⟨v1,vs1,d1,ds1,p1,q1,-,rfl,rfl,-,r1⟩:=trodAll_cons r0;obtain⟨-,rfl,rfl⟩:=trodAll_nil r1;obtain⟨rfl,rfl⟩:=trodVars_none hV;exact Bim (ks:=[(true,Btx),(true,Buj)]) spec hW mC (λ b h=>by simp [Bfu]at h) rfl rfl rfl rfl laid (by kernel_rfl) rfl Tryz.underlying4 (by kernel_rfl) λ xs fJ=>by
    cases fJ with
    |cons h1 h2=>
     cases h2 with
     |cons h3 h4=>
      cases h4;obtain⟨ds,rfl,jE⟩:=A9z h1;obtain⟨es,rfl,hes⟩:=A9z h3;obtain⟨s,rfl,hs⟩:=Bv9 _ jE;obtain⟨p,rfl,hp⟩:=B06 hes;exact A5y s p hs.nsegs hp
theorem over :Rows.carStepsRow.holds Tryz.pinned (OpenSpec.ofChange Rows.carStepsSpec):=
 OpenClaim.holds_of_wide 3 Tryz.f3 rfl rfl rfl rfl rfl rfl rfl ⟨rfl,rfl,rfl,rfl,rfl⟩ rfl rfl rfl rfl rfl (by kernel_rfl) Tryz.func3 (by kernel_rfl)
  (of_decide_eq_true (by kernel_rfl)) (by unfold Func.isWrapper;first|(rw [B6l (by decide+kernel)];kernel_rfl)|(rw [B6j (by decide+kernel)];exact⟨rfl,rfl⟩))
  (λ os started H enc _=>lifted os started H enc)
theorem proved :Rows.CarStepsSaid:=over
end Go.Proofs.YtgnjaophoffbbaaGreat.carSteps
