import Derived.Test.YtdhlplgkpgbpjaaRead
set_option maxRecDepth 100000
namespace Go.Am
@[simp] abbrev kt_buf : Nat := 110680464442258309910
@[simp] abbrev ty_strings_Builder : Nat := 143
@[simp] abbrev ty_u8 : Nat := 5
def strings_Builder_copyCheck_r1 : AI := .op (some 7) (.mov (.t 0)) (.op (some 8) (.mov (.t 0)) (.op (some 9) (.idp ty_strings_Builder 2 (.t 8)) (.op (some 10) (.idp ty_strings_Builder 2 (.t 9)) (.op (some 11) (.idp ty_strings_Builder 2 (.t 10)) (.op (some 12) (.nilc (.t 7)) (.op (some 13) (.fad (.t 12) 0) (.op none (.sto 1 (.t 13) (.t 11)) .done)))))))
def strings_Builder_copyCheck_r2 : AI := .op (some 14) (.mov (.t 0)) (.op (some 15) (.nilc (.t 14)) (.op (some 16) (.fad (.t 15) 0) (.op (some 17) (.ld (.t 16) 1 false) (.op (some 18) (.mov (.t 0)) (.op (some 19) (.peq true (.t 17) (.t 18)) .done)))))
def strings_Builder_copyCheck_r0 : AI := .op (some 2) (.mov (.t 0)) (.op (some 3) (.nilc (.t 2)) (.op (some 4) (.fad (.t 3) 0) (.op (some 5) (.ld (.t 4) 1 false) (.op (some 6) (.isn 0 false (.t 5)) .done))))
def strings_Builder_copyCheck_c : AC := .seq (.reg strings_Builder_copyCheck_r0) (.keepP [0, 6] 0 0 [] (.cond (.t 6) (.keepP [0] 0 0 [] (.reg strings_Builder_copyCheck_r1)) (.keepP [0] 0 0 [] (.seq (.reg strings_Builder_copyCheck_r2) (.keepP [19] 0 0 [] (.cond (.t 19) (.keepP [] 0 0 [] (.any)) (.skip)))))))
def strings_Builder_copyCheck_f : AFn := ⟨strings_Builder_copyCheck_c, [], 0, 0, []⟩
def strings_Builder_WriteString_r3 : AI := .op (some 17) (.mov (.t 1)) (.op (some 18) (.len true (.t 17)) (.op (some 4) (.mov (.t 18)) (.op (some 5) (.mov (.k (.ot .ni))) .done)))
def strings_Builder_WriteString_r2 : AI := .op (some 8) (.mov (.t 0)) (.op (some 9) (.mov (.t 0)) (.op (some 10) (.nilc (.t 9)) (.op (some 11) (.fad (.t 10) 1) (.op (some 12) (.ld (.t 11) 1 false) (.op (some 13) (.mov (.t 1)) (.op (some 14) (.app kt_buf 1 1 (.t 12) (.t 13)) (.op (some 15) (.nilc (.t 8)) (.op (some 16) (.fad (.t 15) 1) (.op none (.sto 1 (.t 16) (.t 14)) .done)))))))))
def strings_Builder_WriteString_r1 : AI := .op (some 6) (.mov (.t 0)) (.op (some 7) (.callP 228 [(.t 6)]) .done)
def strings_Builder_WriteString_r0 : AI := .op (some 4) (.mov (.k (.c (.int .i64 0)))) (.op (some 5) (.mov (.k (.ot .ni))) .done)
def strings_Builder_WriteString_c : AC := .seq (.reg strings_Builder_WriteString_r0) (.keepP [0, 1] 0 0 [] (.seq (.reg strings_Builder_WriteString_r1) (.keepP [0, 1] 0 0 [] (.seq (.reg strings_Builder_WriteString_r2) (.keepP [1] 0 0 [] (.seq (.reg strings_Builder_WriteString_r3) (.keepP [4, 5] 0 0 [] (.ret))))))))
def strings_Builder_WriteString_f : AFn := ⟨strings_Builder_WriteString_c, [.t 4, .t 5], 0, 0, []⟩
def strings_Builder_String_r1 : AI := .op (some 13) (.ustr ty_u8 (.t 7) (.t 12)) (.op (some 2) (.mov (.t 13)) .done)
def strings_Builder_String_r0 : AI := .op (some 2) (.mov (.k (.c (.str [])))) .done
def strings_Builder_String_r1q : List DIt := [⟨(some 3), .mov (.t 0), none⟩, ⟨(some 4), .nilc (.t 3), none⟩, ⟨(some 5), .fad (.t 4) 1, none⟩, ⟨(some 6), .ld (.t 5) 1 false, none⟩, ⟨(some 7), .sdat (.t 6), none⟩, ⟨(some 8), .mov (.t 0), none⟩, ⟨(some 9), .nilc (.t 8), none⟩, ⟨(some 10), .fad (.t 9) 1, none⟩, ⟨(some 11), .ld (.t 10) 1 false, none⟩, ⟨(some 12), .len false (.t 11), none⟩]
def strings_Builder_String_c : AC := .seq (.reg strings_Builder_String_r0) (.keepP [0] 0 0 [] (.seq (.draw strings_Builder_String_r1q [] [] strings_Builder_String_r1) (.keepP [2] 0 0 [] (.ret))))
def strings_Builder_String_f : AFn := ⟨strings_Builder_String_c, [.t 2], 0, 0, []⟩
theorem strings_Builder_copyCheck_c_x (Γ : Env) (N : Nat) (s : St) : exec Γ N strings_Builder_copyCheck_c s = exec Γ N (.seq (.reg strings_Builder_copyCheck_r0) (.keepP [0, 6] 0 0 [] (.cond (.t 6) (.keepP [0] 0 0 [] (.reg strings_Builder_copyCheck_r1)) (.keepP [0] 0 0 [] (.seq (.reg strings_Builder_copyCheck_r2) (.keepP [19] 0 0 [] (.cond (.t 19) (.keepP [] 0 0 [] (.any)) (.skip)))))))) s := rfl
theorem strings_Builder_WriteString_c_x (Γ : Env) (N : Nat) (s : St) : exec Γ N strings_Builder_WriteString_c s = exec Γ N (.seq (.reg strings_Builder_WriteString_r0) (.keepP [0, 1] 0 0 [] (.seq (.reg strings_Builder_WriteString_r1) (.keepP [0, 1] 0 0 [] (.seq (.reg strings_Builder_WriteString_r2) (.keepP [1] 0 0 [] (.seq (.reg strings_Builder_WriteString_r3) (.keepP [4, 5] 0 0 [] (.ret))))))))) s := rfl
theorem strings_Builder_String_c_x (Γ : Env) (N : Nat) (s : St) : exec Γ N strings_Builder_String_c s = exec Γ N (.seq (.reg strings_Builder_String_r0) (.keepP [0] 0 0 [] (.seq (.draw strings_Builder_String_r1q [] [] strings_Builder_String_r1) (.keepP [2] 0 0 [] (.ret))))) s := rfl
attribute [simp] strings_Builder_copyCheck_r1 strings_Builder_copyCheck_r2 strings_Builder_copyCheck_r0 strings_Builder_copyCheck_c_x strings_Builder_copyCheck_f strings_Builder_WriteString_r3 strings_Builder_WriteString_r2 strings_Builder_WriteString_r1 strings_Builder_WriteString_r0 strings_Builder_WriteString_c_x strings_Builder_WriteString_f strings_Builder_String_r1 strings_Builder_String_r0 strings_Builder_String_r1q strings_Builder_String_c_x strings_Builder_String_f
end Go.Am
