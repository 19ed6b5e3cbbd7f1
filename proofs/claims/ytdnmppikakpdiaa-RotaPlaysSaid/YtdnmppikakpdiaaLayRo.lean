import Derived.Shelf.SlSortCmp.NoneTotal
import Derived.Shelf.SlicesG.Cmp
import Derived.Shelf.SlicesE.Clone
import Derived.Ground.SlsfProg
import Derived.Ground.SlgcProg
import Derived.Ground.SlgnProg
import Derived.Test.YtdnmppikakpdiaaProg
import Derived.Test.YtdnmppikakpdiaaRB

namespace Go.Proofs
open Go.Shelf
def Try.sortSpan_ren : Go.Shelf.Ren := ⟨fun | 6 => 59 | 15 => 78 | 14 => 77 | 28 => 95 | 29 => 96 | 20 => 87 | 21 => 88 | 22 => 89 | 23 => 90 | 24 => 91 | 25 => 92 | 26 => 93 | 27 => 94 | 46 => 116 | 47 => 117 | 48 => 118 | 49 => 119 | 50 => 120 | 57 => 128 | n => n, fun | 22 => 35 | 24 => 24 | 25 => 114 | 3 => 3 | 39 => 136 | 0 => 0 | 53 => 154 | 55 => 101 | 4 => 4 | 46 => 148 | 45 => 147 | 50 => 94 | 5 => 5 | 9 => 9 | 66 => 168 | 70 => 172 | 76 => 179 | 77 => 180 | n => n, fun | n => n⟩
theorem Try.sortSpan : Go.Proofs.SlLaysF0.n6 Try.prog Try.sortSpan_ren := {
 mixed := by kernel_rfl
 f6 := ⟨Try.f59.name, by decide, Try.func59.trans (congrArg some (by kernel_rfl))⟩
 f14 := ⟨Try.f77.name, by decide, Try.func77.trans (congrArg some (by kernel_rfl))⟩
 f15 := Try.func78.trans (congrArg some (by kernel_rfl))
 f20 := ⟨Try.f87.name, by decide, Try.func87.trans (congrArg some (by kernel_rfl))⟩
 f21 := ⟨Try.f88.name, by decide, Try.func88.trans (congrArg some (by kernel_rfl))⟩
 f22 := ⟨Try.f89.name, by decide, Try.func89.trans (congrArg some (by kernel_rfl))⟩
 f23 := ⟨Try.f90.name, by decide, Try.func90.trans (congrArg some (by kernel_rfl))⟩
 f24 := ⟨Try.f91.name, by decide, Try.func91.trans (congrArg some (by kernel_rfl))⟩
 f25 := ⟨Try.f92.name, by decide, Try.func92.trans (congrArg some (by kernel_rfl))⟩
 f26 := ⟨Try.f93.name, by decide, Try.func93.trans (congrArg some (by kernel_rfl))⟩
 f27 := ⟨Try.f94.name, by decide, Try.func94.trans (congrArg some (by kernel_rfl))⟩
 f28 := Try.func95.trans (congrArg some (by kernel_rfl))
 f29 := Try.func96.trans (congrArg some (by kernel_rfl))
 f46 := ⟨Try.f116.name, by decide, Try.func116.trans (congrArg some (by kernel_rfl))⟩
 f47 := Try.func117.trans (congrArg some (by kernel_rfl))
 f48 := Try.func118.trans (congrArg some (by kernel_rfl))
 f49 := ⟨Try.f119.name, by decide, Try.func119.trans (congrArg some (by kernel_rfl))⟩
 f50 := ⟨Try.f120.name, by decide, Try.func120.trans (congrArg some (by kernel_rfl))⟩
 f57 := ⟨Try.f128.name, by decide, Try.func128.trans (congrArg some (by kernel_rfl))⟩
 t0 := Try.underlying0
 a0 := Try.isAgg0
 z0 := Try.sizeOf0
 v0 := Try.zeroValue0
 t3 := Try.underlying3
 a3 := Try.isAgg3
 z3 := Try.sizeOf3
 v3 := Try.zeroValue3
 t4 := Try.underlying4
 a4 := Try.isAgg4
 z4 := Try.sizeOf4
 v4 := Try.zeroValue4
 t5 := Try.underlying5
 a5 := Try.isAgg5
 z5 := Try.sizeOf5
 v5 := Try.zeroValue5
 t9 := Try.underlying9
 a9 := Try.isAgg9
 z9 := Try.sizeOf9
 v9 := Try.zeroValue9
 t22 := Try.underlying35
 a22 := Try.isAgg35
 z22 := Try.sizeOf35
 v22 := Try.zeroValue35
 t25 := Try.underlying114
 a25 := Try.isAgg114
 z25 := Try.sizeOf114
 v25 := Try.zeroValue114
 t39 := Try.underlying136
 a39 := Try.isAgg136
 z39 := Try.sizeOf136
 v39 := Try.zeroValue136
 t45 := Try.underlying147
 a45 := Try.isAgg147
 z45 := Try.sizeOf147
 v45 := Try.zeroValue147
 t46 := Try.underlying148
 a46 := Try.isAgg148
 z46 := Try.sizeOf148
 v46 := Try.zeroValue148
 t50 := Try.underlying94
 a50 := Try.isAgg94
 z50 := Try.sizeOf94
 v50 := Try.zeroValue94
 t53 := Try.underlying154
 a53 := Try.isAgg154
 z53 := Try.sizeOf154
 v53 := Try.zeroValue154
 t55 := Try.underlying101
 a55 := Try.isAgg101
 z55 := Try.sizeOf101
 v55 := Try.zeroValue101
 t66 := Try.underlying168
 a66 := Try.isAgg168
 z66 := Try.sizeOf168
 v66 := Try.zeroValue168
 t70 := Try.underlying172
 a70 := Try.isAgg172
 z70 := Try.sizeOf172
 v70 := Try.zeroValue172
 t76 := Try.underlying179
 a76 := Try.isAgg179
 z76 := Try.sizeOf179
 v76 := Try.zeroValue179
 t77 := Try.underlying180
 a77 := Try.isAgg180
 z77 := Try.sizeOf180
 v77 := Try.zeroValue180 }
def Try.cmpIntR_ren : Go.Shelf.Ren := ⟨fun | 5 => 61 | 7 => 79 | n => n, fun | 22 => 3 | 3 => 3 | 4 => 4 | n => n, fun | n => n⟩
theorem Try.cmpIntR : Go.Proofs.SlLaysC2.n5 Try.prog Try.cmpIntR_ren := {
 mixed := by kernel_rfl
 f5 := ⟨Try.f61.name, by decide, Try.func61.trans (congrArg some (by kernel_rfl))⟩
 f7 := ⟨Try.f79.name, by decide, Try.func79.trans (congrArg some (by kernel_rfl))⟩
 t3 := Try.underlying3
 a3 := Try.isAgg3
 z3 := Try.sizeOf3
 v3 := Try.zeroValue3
 t4 := Try.underlying4
 a4 := Try.isAgg4
 z4 := Try.sizeOf4
 v4 := Try.zeroValue4
 t22 := Try.underlying3
 a22 := Try.isAgg3
 z22 := Try.sizeOf3
 v22 := Try.zeroValue3 }
def Try.cloneSpan_ren : Go.Shelf.Ren := ⟨fun | 41 => 58 | n => n, fun | 22 => 35 | 23 => 24 | 4 => 4 | n => n, fun | n => n⟩
theorem Try.cloneSpan : Go.Proofs.SlLaysE0.n41 Try.prog Try.cloneSpan_ren := {
 mixed := by kernel_rfl
 f41 := ⟨Try.f58.name, by decide, Try.func58.trans (congrArg some (by kernel_rfl))⟩
 t4 := Try.underlying4
 a4 := Try.isAgg4
 z4 := Try.sizeOf4
 v4 := Try.zeroValue4
 t22 := Try.underlying35
 a22 := Try.isAgg35
 z22 := Try.sizeOf35
 v22 := Try.zeroValue35 }
end Go.Proofs
