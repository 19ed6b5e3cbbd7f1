import Derived.Shelf.SlicesE.Clone
import Derived.Ground.SlgnProg
import Derived.Test.YtgnjaophoffbbaaGreatProg
set_option linter.unusedVariables false
set_option linter.unusedSimpArgs false
namespace Go.Proofs
open Go.Shelf
def Tryz.cloneRd_ren :Go.Shelf.Ren:=⟨fun|41=>5|n=>n,fun|22=>27|23=>38|4=>4|n=>n,fun|n=>n⟩
theorem Tryz.cloneRd :Go.Proofs.SlLaysE0.n41 Tryz.prog Tryz.cloneRd_ren:={
 mixed:=by kernel_rfl
 f41:=⟨Tryz.f5.name,by decide,Tryz.func5.trans (congrArg some (by kernel_rfl))⟩
 t4:=Tryz.underlying4
 a4:=Tryz.isAgg4
 z4:=Tryz.sizeOf4
 v4:=Tryz.zeroValue4
 t22:=Tryz.underlying27
 a22:=Tryz.isAgg27
 z22:=Tryz.sizeOf27
 v22:=Tryz.zeroValue27}
def Tryz.cloneTr_ren :Go.Shelf.Ren:=⟨fun|41=>9|n=>n,fun|22=>45|23=>53|4=>4|n=>n,fun|n=>n⟩
theorem Tryz.cloneTr :Go.Proofs.SlLaysE0.n41 Tryz.prog Tryz.cloneTr_ren:={
 mixed:=by kernel_rfl
 f41:=⟨Tryz.f9.name,by decide,Tryz.func9.trans (congrArg some (by kernel_rfl))⟩
 t4:=Tryz.underlying4
 a4:=Tryz.isAgg4
 z4:=Tryz.sizeOf4
 v4:=Tryz.zeroValue4
 t22:=Tryz.underlying45
 a22:=Tryz.isAgg45
 z22:=Tryz.sizeOf45
 v22:=Tryz.zeroValue45}
end Go.Proofs
