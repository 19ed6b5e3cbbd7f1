import Derived.Test.YtkhbfjmckgddeaaDoorData
set_option maxRecDepth 100000
namespace Go.Am
def ref02_plain_r3 : AI := .op (some 19) (.bin .add (.t 12) (.t 18)) (.op (some 2) (.mov (.t 19)) .done)
def ref02_plain_r2 : AI := .op (some 5) (.mov (.t 0)) (.op (some 6) (.bin .add (.k (.c (.int .u64 48))) (.t 5)) (.op (some 7) (.conv (.int .u8) (.t 6)) (.op (some 8) (.bsl 1 [.int .u8 0] 1 [(0, 1, (.t 7))]) (.op (some 9) (.conv .toStr (.t 8)) (.op (some 2) (.mov (.t 9)) .done)))))
def ref02_plain_r1 : AI := .op (some 3) (.mov (.t 0)) (.op (some 4) (.bin .lss (.t 3) (.k (.c (.int .u64 10)))) .done)
def ref02_plain_r0 : AI := .op (some 2) (.mov (.k (.c (.str [])))) .done
def ref02_plain_r3q : List DIt := [⟨(some 10), .mov (.t 0), none⟩, ⟨(some 11), .bin .quo (.t 10) (.k (.c (.int .u64 10))), none⟩, ⟨(some 12), .call 73 [(.t 11)], none⟩, ⟨(some 13), .mov (.t 0), none⟩, ⟨(some 14), .bin .rem (.t 13) (.k (.c (.int .u64 10))), none⟩, ⟨(some 15), .bin .add (.k (.c (.int .u64 48))) (.t 14), none⟩, ⟨(some 16), .conv (.int .u8) (.t 15), none⟩, ⟨(some 17), .bsl 1 [.int .u8 0] 1 [(0, 1, (.t 16))], none⟩, ⟨(some 18), .conv .toStr (.t 17), none⟩]
def ref02_plain_c : AC := .seq (.reg ref02_plain_r0) (.keep [0] [] (.seq (.seq (.reg ref02_plain_r1) (.keep [0, 4] [] (.cond (.t 4) (.keep [0] [] (.seq (.reg ref02_plain_r2) (.keep [2] [] (.ret)))) (.skip)))) (.keep [0] [] (.seq (.draw ref02_plain_r3q [] [] ref02_plain_r3) (.keep [2] [] (.ret))))))
def ref02_plain_f : AFn := ⟨ref02_plain_c, [.t 2], 0, 0, []⟩
def digits_plain_r7 : AI := .op (some 17) (.mov (.t 3)) (.op (some 18) (.conv .toStr (.t 17)) (.op (some 2) (.mov (.t 18)) .done))
def digits_plain_r4 : AI := .op (some 6) (.mov (.t 0)) (.op (some 7) (.bin .gtr (.t 6) (.k (.c (.int .u64 0)))) (.op (some 4) (.mov (.t 7)) .done))
def digits_plain_r6 : AI := .op (some 15) (.mov (.t 0)) (.op (some 16) (.bin .quo (.t 15) (.k (.c (.int .u64 10)))) (.op (some 0) (.mov (.t 16)) .done))
def digits_plain_r5 : AI := .op (some 8) (.mov (.t 0)) (.op (some 9) (.bin .rem (.t 8) (.k (.c (.int .u64 10)))) (.op (some 10) (.bin .add (.k (.c (.int .u64 48))) (.t 9)) (.op (some 11) (.conv (.int .u8) (.t 10)) (.op (some 12) (.bso 12 1 [.int .u8 0] 1 [(0, 1, (.t 11))]) (.op (some 13) (.mov (.t 3)) (.op (some 14) (.app 14 1 1 (.t 12) (.t 13)) (.op (some 3) (.frz (.t 14)) .done)))))))
def digits_plain_r3 : AI := .op (some 5) (.mov (.t 4)) .done
def digits_plain_r2 : AI := .op (some 4) (.mov (.k (.c (.bool true)))) .done
def digits_plain_r1 : AI := .op (some 3) (.mov (.k (.nil 1))) .done
def digits_plain_r0 : AI := .op (some 2) (.mov (.k (.c (.str [])))) .done
def digits_plain_l1b : AC := .seq (.seq (.reg digits_plain_r3) (.keep [0, 3, 5] [] (.cond (.t 5) (.skip) (.keep [3] [] (.exit 0))))) (.keep [0, 3] [] (.seq (.block 1 (.seq (.reg digits_plain_r5) (.keep [0, 3] [] (.reg digits_plain_r6)))) (.keep [0, 3] [] (.reg digits_plain_r4))))
def digits_plain_l1 : AC := .keep [0, 3, 4] [] (digits_plain_l1b)
def digits_plain_c : AC := .seq (.reg digits_plain_r0) (.keep [0] [] (.seq (.reg digits_plain_r1) (.keep [0, 3] [] (.seq (.seq (.reg digits_plain_r2) (.keep [0, 3, 4] [] (.block 0 (.loop digits_plain_l1)))) (.keep [3] [] (.seq (.reg digits_plain_r7) (.keep [2] [] (.ret))))))))
def digits_plain_f : AFn := ⟨digits_plain_c, [.t 2], 0, 0, []⟩
def nums_Size_r3 : AI := .op (some 9) (.mov (.t 0)) (.op (some 10) (.conv (.int .u64) (.t 9)) (.op (some 2) (.mov (.t 10)) .done))
def nums_Size_r2 : AI := .op (some 5) (.mov (.t 0)) (.op (some 6) (.un .xor (.t 5)) (.op (some 7) (.conv (.int .u64) (.t 6)) (.op (some 8) (.bin .add (.t 7) (.k (.c (.int .u64 1)))) (.op (some 2) (.mov (.t 8)) .done))))
def nums_Size_r1 : AI := .op (some 3) (.mov (.t 0)) (.op (some 4) (.bin .lss (.t 3) (.k (.c (.int .i64 0)))) .done)
def nums_Size_r0 : AI := .op (some 2) (.mov (.k (.c (.int .u64 0)))) .done
def nums_Size_c : AC := .seq (.reg nums_Size_r0) (.keep [0] [] (.seq (.seq (.reg nums_Size_r1) (.keep [0, 4] [] (.cond (.t 4) (.keep [0] [] (.seq (.reg nums_Size_r2) (.keep [2] [] (.ret)))) (.skip)))) (.keep [0] [] (.seq (.reg nums_Size_r3) (.keep [2] [] (.ret))))))
def nums_Size_f : AFn := ⟨nums_Size_c, [.t 2], 0, 0, []⟩
def ref01_Size_r5 : AI := .op (some 10) (.mov (.t 0)) (.op (some 11) (.conv (.int .u64) (.t 10)) (.op (some 2) (.mov (.t 11)) .done))
def ref01_Size_r4 : AI := .op (some 7) (.mov (.t 0)) (.op (some 8) (.un .neg (.t 7)) (.op (some 9) (.conv (.int .u64) (.t 8)) (.op (some 2) (.mov (.t 9)) .done)))
def ref01_Size_r3 : AI := .op (some 5) (.mov (.t 0)) (.op (some 6) (.bin .lss (.t 5) (.k (.c (.int .i64 0)))) .done)
def ref01_Size_r2 : AI := .op (some 2) (.mov (.k (.c (.int .u64 9223372036854775808)))) .done
def ref01_Size_r1 : AI := .op (some 3) (.mov (.t 0)) (.op (some 4) (.bin .eql (.t 3) (.k (.c (.int .i64 (-9223372036854775808))))) .done)
def ref01_Size_r0 : AI := .op (some 2) (.mov (.k (.c (.int .u64 0)))) .done
def ref01_Size_c : AC := .seq (.reg ref01_Size_r0) (.keep [0] [] (.seq (.seq (.reg ref01_Size_r1) (.keep [0, 4] [] (.cond (.t 4) (.keep [] [] (.seq (.reg ref01_Size_r2) (.keep [2] [] (.ret)))) (.skip)))) (.keep [0] [] (.seq (.seq (.reg ref01_Size_r3) (.keep [0, 6] [] (.cond (.t 6) (.keep [0] [] (.seq (.reg ref01_Size_r4) (.keep [2] [] (.ret)))) (.skip)))) (.keep [0] [] (.seq (.reg ref01_Size_r5) (.keep [2] [] (.ret))))))))
def ref01_Size_f : AFn := ⟨ref01_Size_c, [.t 2], 0, 0, []⟩
def digits_Text_r3 : AI := .op (some 9) (.mov (.t 0)) (.op (some 10) (.conv (.int .u64) (.t 9)) (.op (some 11) (.call 80 [(.t 10)]) (.op (some 2) (.mov (.t 11)) .done)))
def digits_Text_r2 : AI := .op (some 5) (.mov (.t 0)) (.op (some 6) (.call 81 [(.t 5)]) (.op (some 7) (.call 80 [(.t 6)]) (.op (some 8) (.bin .add (.k (.c (.str [45]))) (.t 7)) (.op (some 2) (.mov (.t 8)) .done))))
def digits_Text_r1 : AI := .op (some 3) (.mov (.t 0)) (.op (some 4) (.bin .lss (.t 3) (.k (.c (.int .i64 0)))) .done)
def digits_Text_r0 : AI := .op (some 2) (.mov (.k (.c (.str [])))) .done
def digits_Text_c : AC := .seq (.reg digits_Text_r0) (.keep [0] [] (.seq (.seq (.reg digits_Text_r1) (.keep [0, 4] [] (.cond (.t 4) (.keep [0] [] (.seq (.reg digits_Text_r2) (.keep [2] [] (.ret)))) (.skip)))) (.keep [0] [] (.seq (.reg digits_Text_r3) (.keep [2] [] (.ret))))))
def digits_Text_f : AFn := ⟨digits_Text_c, [.t 2], 0, 0, []⟩
def ref02_Text_r3 : AI := .op (some 9) (.mov (.t 0)) (.op (some 10) (.conv (.int .u64) (.t 9)) (.op (some 11) (.call 73 [(.t 10)]) (.op (some 2) (.mov (.t 11)) .done)))
def ref02_Text_r2 : AI := .op (some 5) (.mov (.t 0)) (.op (some 6) (.call 74 [(.t 5)]) (.op (some 7) (.call 73 [(.t 6)]) (.op (some 8) (.bin .add (.k (.c (.str [45]))) (.t 7)) (.op (some 2) (.mov (.t 8)) .done))))
def ref02_Text_r1 : AI := .op (some 3) (.mov (.t 0)) (.op (some 4) (.bin .lss (.t 3) (.k (.c (.int .i64 0)))) .done)
def ref02_Text_r0 : AI := .op (some 2) (.mov (.k (.c (.str [])))) .done
def ref02_Text_c : AC := .seq (.reg ref02_Text_r0) (.keep [0] [] (.seq (.seq (.reg ref02_Text_r1) (.keep [0, 4] [] (.cond (.t 4) (.keep [0] [] (.seq (.reg ref02_Text_r2) (.keep [2] [] (.ret)))) (.skip)))) (.keep [0] [] (.seq (.reg ref02_Text_r3) (.keep [2] [] (.ret))))))
def ref02_Text_f : AFn := ⟨ref02_Text_c, [.t 2], 0, 0, []⟩
def digits_Of_r1 : AI := .op (some 3) (.mov (.t 0)) (.op (some 4) (.call 72 [(.t 3)]) (.op (some 2) (.mov (.t 4)) .done))
def digits_Of_r0 : AI := .op (some 2) (.mov (.k (.c (.str [])))) .done
def digits_Of_c : AC := .seq (.reg digits_Of_r0) (.keep [0] [] (.seq (.reg digits_Of_r1) (.keep [2] [] (.ret))))
def digits_Of_f : AFn := ⟨digits_Of_c, [.t 2], 0, 0, []⟩
def ref02_Of_r1 : AI := .op (some 3) (.mov (.t 0)) (.op (some 4) (.call 52 [(.t 3)]) (.op (some 2) (.mov (.t 4)) .done))
def ref02_Of_r0 : AI := .op (some 2) (.mov (.k (.c (.str [])))) .done
def ref02_Of_c : AC := .seq (.reg ref02_Of_r0) (.keep [0] [] (.seq (.reg ref02_Of_r1) (.keep [2] [] (.ret))))
def ref02_Of_f : AFn := ⟨ref02_Of_c, [.t 2], 0, 0, []⟩
theorem ref02_plain_c_x (Γ : Env) (N : Nat) (s : St) : exec Γ N ref02_plain_c s = exec Γ N (.seq (.reg ref02_plain_r0) (.keep [0] [] (.seq (.seq (.reg ref02_plain_r1) (.keep [0, 4] [] (.cond (.t 4) (.keep [0] [] (.seq (.reg ref02_plain_r2) (.keep [2] [] (.ret)))) (.skip)))) (.keep [0] [] (.seq (.draw ref02_plain_r3q [] [] ref02_plain_r3) (.keep [2] [] (.ret))))))) s := rfl
theorem digits_plain_l1b_x (Γ : Env) (N : Nat) (s : St) : exec Γ N digits_plain_l1b s = exec Γ N (.seq (.seq (.reg digits_plain_r3) (.keep [0, 3, 5] [] (.cond (.t 5) (.skip) (.keep [3] [] (.exit 0))))) (.keep [0, 3] [] (.seq (.block 1 (.seq (.reg digits_plain_r5) (.keep [0, 3] [] (.reg digits_plain_r6)))) (.keep [0, 3] [] (.reg digits_plain_r4))))) s := rfl
theorem digits_plain_l1_x (Γ : Env) (N : Nat) (s : St) : exec Γ N digits_plain_l1 s = exec Γ N (.keep [0, 3, 4] [] (digits_plain_l1b)) s := rfl
theorem digits_plain_c_x (Γ : Env) (N : Nat) (s : St) : exec Γ N digits_plain_c s = exec Γ N (.seq (.reg digits_plain_r0) (.keep [0] [] (.seq (.reg digits_plain_r1) (.keep [0, 3] [] (.seq (.seq (.reg digits_plain_r2) (.keep [0, 3, 4] [] (.block 0 (.loop digits_plain_l1)))) (.keep [3] [] (.seq (.reg digits_plain_r7) (.keep [2] [] (.ret))))))))) s := rfl
theorem nums_Size_c_x (Γ : Env) (N : Nat) (s : St) : exec Γ N nums_Size_c s = exec Γ N (.seq (.reg nums_Size_r0) (.keep [0] [] (.seq (.seq (.reg nums_Size_r1) (.keep [0, 4] [] (.cond (.t 4) (.keep [0] [] (.seq (.reg nums_Size_r2) (.keep [2] [] (.ret)))) (.skip)))) (.keep [0] [] (.seq (.reg nums_Size_r3) (.keep [2] [] (.ret))))))) s := rfl
theorem ref01_Size_c_x (Γ : Env) (N : Nat) (s : St) : exec Γ N ref01_Size_c s = exec Γ N (.seq (.reg ref01_Size_r0) (.keep [0] [] (.seq (.seq (.reg ref01_Size_r1) (.keep [0, 4] [] (.cond (.t 4) (.keep [] [] (.seq (.reg ref01_Size_r2) (.keep [2] [] (.ret)))) (.skip)))) (.keep [0] [] (.seq (.seq (.reg ref01_Size_r3) (.keep [0, 6] [] (.cond (.t 6) (.keep [0] [] (.seq (.reg ref01_Size_r4) (.keep [2] [] (.ret)))) (.skip)))) (.keep [0] [] (.seq (.reg ref01_Size_r5) (.keep [2] [] (.ret))))))))) s := rfl
theorem digits_Text_c_x (Γ : Env) (N : Nat) (s : St) : exec Γ N digits_Text_c s = exec Γ N (.seq (.reg digits_Text_r0) (.keep [0] [] (.seq (.seq (.reg digits_Text_r1) (.keep [0, 4] [] (.cond (.t 4) (.keep [0] [] (.seq (.reg digits_Text_r2) (.keep [2] [] (.ret)))) (.skip)))) (.keep [0] [] (.seq (.reg digits_Text_r3) (.keep [2] [] (.ret))))))) s := rfl
theorem ref02_Text_c_x (Γ : Env) (N : Nat) (s : St) : exec Γ N ref02_Text_c s = exec Γ N (.seq (.reg ref02_Text_r0) (.keep [0] [] (.seq (.seq (.reg ref02_Text_r1) (.keep [0, 4] [] (.cond (.t 4) (.keep [0] [] (.seq (.reg ref02_Text_r2) (.keep [2] [] (.ret)))) (.skip)))) (.keep [0] [] (.seq (.reg ref02_Text_r3) (.keep [2] [] (.ret))))))) s := rfl
theorem digits_Of_c_x (Γ : Env) (N : Nat) (s : St) : exec Γ N digits_Of_c s = exec Γ N (.seq (.reg digits_Of_r0) (.keep [0] [] (.seq (.reg digits_Of_r1) (.keep [2] [] (.ret))))) s := rfl
theorem ref02_Of_c_x (Γ : Env) (N : Nat) (s : St) : exec Γ N ref02_Of_c s = exec Γ N (.seq (.reg ref02_Of_r0) (.keep [0] [] (.seq (.reg ref02_Of_r1) (.keep [2] [] (.ret))))) s := rfl
attribute [simp] ref02_plain_r3 ref02_plain_r2 ref02_plain_r1 ref02_plain_r0 ref02_plain_r3q ref02_plain_c_x ref02_plain_f digits_plain_r7 digits_plain_r4 digits_plain_r6 digits_plain_r5 digits_plain_r3 digits_plain_r2 digits_plain_r1 digits_plain_r0 digits_plain_l1b_x digits_plain_c_x digits_plain_f nums_Size_r3 nums_Size_r2 nums_Size_r1 nums_Size_r0 nums_Size_c_x nums_Size_f ref01_Size_r5 ref01_Size_r4 ref01_Size_r3 ref01_Size_r2 ref01_Size_r1 ref01_Size_r0 ref01_Size_c_x ref01_Size_f digits_Text_r3 digits_Text_r2 digits_Text_r1 digits_Text_r0 digits_Text_c_x digits_Text_f ref02_Text_r3 ref02_Text_r2 ref02_Text_r1 ref02_Text_r0 ref02_Text_c_x ref02_Text_f digits_Of_r1 digits_Of_r0 digits_Of_c_x digits_Of_f ref02_Of_r1 ref02_Of_r0 ref02_Of_c_x ref02_Of_f
end Go.Am
