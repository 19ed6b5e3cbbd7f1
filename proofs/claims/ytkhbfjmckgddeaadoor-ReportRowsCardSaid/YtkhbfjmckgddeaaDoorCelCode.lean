import Derived.Test.YtkhbfjmckgddeaaDoorColsL
set_option maxRecDepth 100000
namespace Go.Am
def cols_Cells_r10 : AI := .op (some 34) (.mov (.t 3)) (.op (some 2) (.mov (.t 34)) .done)
def cols_Cells_r5 : AI := .op (some 10) (.mov (.t 5)) (.op (some 11) (.bin .add (.t 10) (.k (.c (.int .i64 1)))) (.op (some 5) (.mov (.t 11)) .done))
def cols_Cells_r9 : AI := .op (some 32) (.mov (.t 5)) (.op (some 33) (.bin .add (.t 32) (.k (.c (.int .i64 1)))) (.op (some 4) (.mov (.t 33)) .done))
def cols_Cells_r8 : AI := .op (some 25) (.mov (.t 3)) (.op (some 26) (.mov (.t 0)) (.op (some 27) (.mov (.t 4)) (.op (some 28) (.mov (.t 5)) (.op (some 29) (.ssl (.t 26) (some (.t 27)) (some (.t 28))) (.op (some 30) (.bsl 1 [.str []] 1 [(0, 1, (.t 29))]) (.op (some 31) (.app 31 1 16 (.t 25) (.t 30)) (.op (some 3) (.mov (.t 31)) .done)))))))
def cols_Cells_r7 : AI := .op (some 22) (.mov (.t 5)) (.op (some 23) (.mov (.t 4)) (.op (some 24) (.bin .gtr (.t 22) (.t 23)) .done))
def cols_Cells_r6 : AI := .op (some 12) (.mov (.t 5)) (.op (some 13) (.mov (.t 0)) (.op (some 14) (.len true (.t 13)) (.op (some 15) (.bin .lss (.t 12) (.t 14)) (.op (some 16) (.mov (.t 15)) (.sc 21 (.t 16) true (.op (some 17) (.mov (.t 0)) (.op (some 18) (.mov (.t 5)) (.op (some 19) (.sidx (.t 17) (.t 18)) (.op (some 20) (.bin .neq (.t 19) (.k (.c (.int .u8 32)))) .done)))) (.t 20) (.done))))))
def cols_Cells_r4 : AI := .op (some 6) (.mov (.t 5)) (.op (some 7) (.mov (.t 0)) (.op (some 8) (.len true (.t 7)) (.op (some 9) (.bin .leq (.t 6) (.t 8)) .done)))
def cols_Cells_r3 : AI := .op (some 5) (.mov (.k (.c (.int .i64 0)))) .done
def cols_Cells_r2 : AI := .op (some 4) (.mov (.k (.c (.int .i64 0)))) .done
def cols_Cells_r1 : AI := .op (some 3) (.mov (.k (.nil 1))) .done
def cols_Cells_r0 : AI := .op (some 2) (.mov (.k (.nil 1))) .done
def cols_Cells_l1b : AC := .seq (.seq (.reg cols_Cells_r4) (.keep [0, 3, 4, 5, 9] [3, 31] (.cond (.t 9) (.skip) (.keep [3] [3, 31] (.exit 0))))) (.keep [0, 3, 4, 5] [3, 31] (.seq (.block 1 (.seq (.seq (.reg cols_Cells_r6) (.keep [0, 3, 4, 5, 21] [3, 31] (.cond (.t 21) (.keep [0, 3, 4, 5] [3, 31] (.exit 1)) (.skip)))) (.keep [0, 3, 4, 5] [3, 31] (.seq (.seq (.reg cols_Cells_r7) (.keep [0, 3, 4, 5, 24] [3, 31] (.cond (.t 24) (.keep [0, 3, 4, 5] [3, 31] (.reg cols_Cells_r8)) (.skip)))) (.keep [0, 3, 5] [3, 31] (.reg cols_Cells_r9)))))) (.keep [0, 3, 4, 5] [3, 31] (.reg cols_Cells_r5))))
def cols_Cells_l1 : AC := .keep [0, 3, 4, 5] [3, 31] (cols_Cells_l1b)
def cols_Cells_c : AC := .seq (.reg cols_Cells_r0) (.keep [0] [] (.seq (.reg cols_Cells_r1) (.keep [0, 3] [3, 31] (.own 3 3 (.seq (.reg cols_Cells_r2) (.keep [0, 3, 4] [3, 31] (.seq (.seq (.reg cols_Cells_r3) (.keep [0, 3, 4, 5] [3, 31] (.block 0 (.loop cols_Cells_l1)))) (.keep [3] [3, 31] (.seq (.reg cols_Cells_r10) (.keep [2] [3, 31] (.ret)))))))))))
def cols_Cells_f : AFn := ⟨cols_Cells_c, [.t 2], 0, 0, []⟩
theorem cols_Cells_l1b_x (Γ : Env) (N : Nat) (s : St) : exec Γ N cols_Cells_l1b s = exec Γ N (.seq (.seq (.reg cols_Cells_r4) (.keep [0, 3, 4, 5, 9] [3, 31] (.cond (.t 9) (.skip) (.keep [3] [3, 31] (.exit 0))))) (.keep [0, 3, 4, 5] [3, 31] (.seq (.block 1 (.seq (.seq (.reg cols_Cells_r6) (.keep [0, 3, 4, 5, 21] [3, 31] (.cond (.t 21) (.keep [0, 3, 4, 5] [3, 31] (.exit 1)) (.skip)))) (.keep [0, 3, 4, 5] [3, 31] (.seq (.seq (.reg cols_Cells_r7) (.keep [0, 3, 4, 5, 24] [3, 31] (.cond (.t 24) (.keep [0, 3, 4, 5] [3, 31] (.reg cols_Cells_r8)) (.skip)))) (.keep [0, 3, 5] [3, 31] (.reg cols_Cells_r9)))))) (.keep [0, 3, 4, 5] [3, 31] (.reg cols_Cells_r5))))) s := rfl
theorem cols_Cells_l1_x (Γ : Env) (N : Nat) (s : St) : exec Γ N cols_Cells_l1 s = exec Γ N (.keep [0, 3, 4, 5] [3, 31] (cols_Cells_l1b)) s := rfl
theorem cols_Cells_c_x (Γ : Env) (N : Nat) (s : St) : exec Γ N cols_Cells_c s = exec Γ N (.seq (.reg cols_Cells_r0) (.keep [0] [] (.seq (.reg cols_Cells_r1) (.keep [0, 3] [3, 31] (.own 3 3 (.seq (.reg cols_Cells_r2) (.keep [0, 3, 4] [3, 31] (.seq (.seq (.reg cols_Cells_r3) (.keep [0, 3, 4, 5] [3, 31] (.block 0 (.loop cols_Cells_l1)))) (.keep [3] [3, 31] (.seq (.reg cols_Cells_r10) (.keep [2] [3, 31] (.ret)))))))))))) s := rfl
attribute [simp] cols_Cells_r10 cols_Cells_r5 cols_Cells_r9 cols_Cells_r8 cols_Cells_r7 cols_Cells_r6 cols_Cells_r4 cols_Cells_r3 cols_Cells_r2 cols_Cells_r1 cols_Cells_r0 cols_Cells_l1b_x cols_Cells_c_x cols_Cells_f
end Go.Am
