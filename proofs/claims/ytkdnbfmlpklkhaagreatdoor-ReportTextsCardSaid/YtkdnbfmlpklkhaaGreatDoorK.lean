import Derived.Test.YtkdnbfmlpklkhaaGreatDoorUt
set_option maxRecDepth 100000
namespace Go.Am.Cx
open Go.Am
abbrev ki (n : Int) : Opd := .k (.c (.int .i64 n))
abbrev kb (b : Bool) : Opd := .k (.c (.bool b))
abbrev ks (s : List UInt8) : Opd := .k (.c (.str s))
abbrev o (n : Nat) (a : Act) (k : AI) : AI := .op (some n) a k
abbrev so (k x y : Nat) (r : AI) : AI := .op none (.sto k (.t x) (.t y)) r
abbrev m (n : Nat) : Act := .mov (.t n)
abbrev fa (n f : Nat) : Act := .fad (.t n) f
abbrev l1 (n : Nat) : Act := .ld (.t n) 1 false
abbrev ln (n k : Nat) : Act := .ld (.t n) k true
abbrev ex (n k : Nat) : Act := .ext (.t n) k
abbrev le (n : Nat) : Act := .len false (.t n)
abbrev ia (n i k : Nat) : Act := .iad (.t n) (.t i) k
abbrev nc (n : Nat) : Act := .nilc (.t n)
abbrev b2 (b : Go.BinOp) (x y : Nat) : Act := .bin b (.t x) (.t y)
abbrev bk (b : Go.BinOp) (x : Nat) (n : Int) : Act := .bin b (.t x) (ki n)
abbrev c1 (f x : Nat) : Act := .call f [.t x]
abbrev c2 (f x y : Nat) : Act := .call f [.t x, .t y]
abbrev d (n : Nat) (a : Act) : DIt := ⟨some n, a, none⟩
abbrev sr (o : AI) (c : AC) : AC := .seq (.reg o) c
abbrev rg (o : AI) : AC := .reg o
abbrev cd (x : Nat) (a b : AC) : AC := .cond (.t x) a b
abbrev za1 : List AV := [.c (.int .i64 0)]
abbrev zd1 : List D := [.int .i64 0]
abbrev za2 : List AV := [.c (.int .i64 0), .c (.int .i64 0)]
abbrev zd2 : List D := [.int .i64 0, .int .i64 0]
abbrev za3 : List AV := [.c (.int .i64 0), .c (.int .i64 0), .c (.int .i64 0)]
abbrev zd3 : List D := [.int .i64 0, .int .i64 0, .int .i64 0]
abbrev za4 : List AV := [.c (.int .i64 0), .c (.int .i64 0), .c (.int .i64 0), .c (.int .i64 0)]
abbrev zd4 : List D := [.int .i64 0, .int .i64 0, .int .i64 0, .int .i64 0]
abbrev za5 : List AV := [.c (.int .i64 0), .c (.int .i64 0), .c (.int .i64 0), .c (.int .i64 0), .c (.int .i64 0)]
abbrev zd5 : List D := [.int .i64 0, .int .i64 0, .int .i64 0, .int .i64 0, .int .i64 0]
abbrev za6 : List AV := [.c (.int .i64 0), .c (.int .i64 0), .c (.int .i64 0), .c (.int .i64 0), .c (.int .i64 0), .c (.int .i64 0)]
abbrev zd6 : List D := [.int .i64 0, .int .i64 0, .int .i64 0, .int .i64 0, .int .i64 0, .int .i64 0]
abbrev za7 : List AV := [.c (.int .i64 0), .c (.int .i64 0), .c (.int .i64 0), .c (.int .i64 0), .c (.int .i64 0), .c (.int .i64 0), .c (.int .i64 0)]
abbrev zd7 : List D := [.int .i64 0, .int .i64 0, .int .i64 0, .int .i64 0, .int .i64 0, .int .i64 0, .int .i64 0]
abbrev za8 : List AV := [.c (.int .i64 0), .c (.int .i64 0), .c (.int .i64 0), .c (.int .i64 0), .c (.int .i64 0), .c (.int .i64 0), .c (.int .i64 0), .c (.int .i64 0)]
abbrev zd8 : List D := [.int .i64 0, .int .i64 0, .int .i64 0, .int .i64 0, .int .i64 0, .int .i64 0, .int .i64 0, .int .i64 0]
abbrev za9 : List AV := [.c (.int .i64 0), .c (.int .i64 0), .c (.int .i64 0), .c (.int .i64 0), .c (.int .i64 0), .c (.int .i64 0), .c (.int .i64 0), .c (.int .i64 0), .c (.int .i64 0)]
abbrev zd9 : List D := [.int .i64 0, .int .i64 0, .int .i64 0, .int .i64 0, .int .i64 0, .int .i64 0, .int .i64 0, .int .i64 0, .int .i64 0]
abbrev za10 : List AV := [.c (.int .i64 0), .c (.int .i64 0), .c (.int .i64 0), .c (.int .i64 0), .c (.int .i64 0), .c (.int .i64 0), .c (.int .i64 0), .c (.int .i64 0), .c (.int .i64 0), .c (.int .i64 0)]
abbrev zd10 : List D := [.int .i64 0, .int .i64 0, .int .i64 0, .int .i64 0, .int .i64 0, .int .i64 0, .int .i64 0, .int .i64 0, .int .i64 0, .int .i64 0]
abbrev za11 : List AV := [.c (.int .i64 0), .c (.int .i64 0), .c (.int .i64 0), .c (.int .i64 0), .c (.int .i64 0), .c (.int .i64 0), .c (.int .i64 0), .c (.int .i64 0), .c (.int .i64 0), .c (.int .i64 0), .c (.int .i64 0)]
abbrev zd11 : List D := [.int .i64 0, .int .i64 0, .int .i64 0, .int .i64 0, .int .i64 0, .int .i64 0, .int .i64 0, .int .i64 0, .int .i64 0, .int .i64 0, .int .i64 0]
abbrev za12 : List AV := [.c (.int .i64 0), .c (.int .i64 0), .c (.int .i64 0), .c (.int .i64 0), .c (.int .i64 0), .c (.int .i64 0), .c (.int .i64 0), .c (.int .i64 0), .c (.int .i64 0), .c (.int .i64 0), .c (.int .i64 0), .c (.int .i64 0)]
abbrev zd12 : List D := [.int .i64 0, .int .i64 0, .int .i64 0, .int .i64 0, .int .i64 0, .int .i64 0, .int .i64 0, .int .i64 0, .int .i64 0, .int .i64 0, .int .i64 0, .int .i64 0]
abbrev za13 : List AV := [.c (.int .i64 0), .c (.int .i64 0), .c (.int .i64 0), .c (.int .i64 0), .c (.int .i64 0), .c (.int .i64 0), .c (.int .i64 0), .c (.int .i64 0), .c (.int .i64 0), .c (.int .i64 0), .c (.int .i64 0), .c (.int .i64 0), .c (.int .i64 0)]
abbrev zd13 : List D := [.int .i64 0, .int .i64 0, .int .i64 0, .int .i64 0, .int .i64 0, .int .i64 0, .int .i64 0, .int .i64 0, .int .i64 0, .int .i64 0, .int .i64 0, .int .i64 0, .int .i64 0]
attribute [simp] ki kb ks o so m fa l1 ln ex le ia nc b2 bk c1 c2 d sr rg cd za1 zd1 za2 zd2 za3 zd3 za4 zd4 za5 zd5 za6 zd6 za7 zd7 za8 zd8 za9 zd9 za10 zd10 za11 zd11 za12 zd12 za13 zd13
end Go.Am.Cx
namespace Go.Am
open Cx
abbrev r73_3 : AI := o 19 (b2 .add 12 18) (o 2 (m 19) .done)
abbrev r73_2 : AI := o 5 (m 0) (o 6 (.bin .add (.k (.c (.int .u64 48))) (.t 5)) (o 7 (.conv (.int .u8) (.t 6)) (o 8 (.bsl 1 [.int .u8 0] 1 [(0, 1, (.t 7))]) (o 9 (.conv .toStr (.t 8)) (o 2 (m 9) .done)))))
abbrev r73_1 : AI := o 3 (m 0) (o 4 (.bin .lss (.t 3) (.k (.c (.int .u64 10)))) .done)
abbrev r73_0 : AI := o 2 (.mov (ks [])) .done
abbrev r73_3q : List DIt := [d 10 (m 0), d 11 (.bin .quo (.t 10) (.k (.c (.int .u64 10)))), d 12 (c1 73 11), d 13 (m 0), d 14 (.bin .rem (.t 13) (.k (.c (.int .u64 10)))), d 15 (.bin .add (.k (.c (.int .u64 48))) (.t 14)), d 16 (.conv (.int .u8) (.t 15)), d 17 (.bsl 1 [.int .u8 0] 1 [(0, 1, (.t 16))]), d 18 (.conv .toStr (.t 17))]
abbrev ref02_plain_c_y : AC := sr r73_0 (.keep [0] [] (.seq (sr r73_1 (.keep [0, 4] [] (cd 4 (.keep [0] [] (sr r73_2 (.keep [2] [] .ret))) .skip))) (.keep [0] [] (.seq (.draw r73_3q [] [] r73_3) (.keep [2] [] .ret)))))
def ref02_plain_c : AC := ref02_plain_c_y
def ref02_plain_f : AFn := ⟨ref02_plain_c, [.t 2], 0, 0, []⟩
abbrev r80_7 : AI := o 17 (m 3) (o 18 (.conv .toStr (.t 17)) (o 2 (m 18) .done))
abbrev r80_4 : AI := o 6 (m 0) (o 7 (.bin .gtr (.t 6) (.k (.c (.int .u64 0)))) (o 4 (m 7) .done))
abbrev r80_6 : AI := o 15 (m 0) (o 16 (.bin .quo (.t 15) (.k (.c (.int .u64 10)))) (o 0 (m 16) .done))
abbrev r80_5 : AI := o 8 (m 0) (o 9 (.bin .rem (.t 8) (.k (.c (.int .u64 10)))) (o 10 (.bin .add (.k (.c (.int .u64 48))) (.t 9)) (o 11 (.conv (.int .u8) (.t 10)) (o 12 (.bso 12 1 [.int .u8 0] 1 [(0, 1, (.t 11))]) (o 13 (m 3) (o 14 (.app 14 1 1 (.t 12) (.t 13)) (o 3 (.frz (.t 14)) .done)))))))
abbrev r80_3 : AI := o 5 (m 4) .done
abbrev r80_2 : AI := o 4 (.mov (kb true)) .done
abbrev r80_1 : AI := o 3 (.mov (.k (.nil 1))) .done
abbrev r80_0 : AI := o 2 (.mov (ks [])) .done
abbrev digits_plain_l1b_y : AC := .seq (sr r80_3 (.keep [0, 3, 5] [] (cd 5 .skip (.keep [3] [] (.exit 0))))) (.keep [0, 3] [] (.seq (.block 1 (sr r80_5 (.keep [0, 3] [] (rg r80_6)))) (.keep [0, 3] [] (rg r80_4))))
def digits_plain_l1b : AC := digits_plain_l1b_y
abbrev digits_plain_l1_y : AC := .keep [0, 3, 4] [] (digits_plain_l1b)
def digits_plain_l1 : AC := digits_plain_l1_y
abbrev digits_plain_c_y : AC := sr r80_0 (.keep [0] [] (sr r80_1 (.keep [0, 3] [] (.seq (sr r80_2 (.keep [0, 3, 4] [] (.block 0 (.loop digits_plain_l1)))) (.keep [3] [] (sr r80_7 (.keep [2] [] .ret)))))))
def digits_plain_c : AC := digits_plain_c_y
def digits_plain_f : AFn := ⟨digits_plain_c, [.t 2], 0, 0, []⟩
abbrev r81_3 : AI := o 9 (m 0) (o 10 (.conv (.int .u64) (.t 9)) (o 2 (m 10) .done))
abbrev r81_2 : AI := o 5 (m 0) (o 6 (.un .xor (.t 5)) (o 7 (.conv (.int .u64) (.t 6)) (o 8 (.bin .add (.t 7) (.k (.c (.int .u64 1)))) (o 2 (m 8) .done))))
abbrev r81_1 : AI := o 3 (m 0) (o 4 (bk .lss 3 0) .done)
abbrev r81_0 : AI := o 2 (.mov (.k (.c (.int .u64 0)))) .done
abbrev nums_Size_c_y : AC := sr r81_0 (.keep [0] [] (.seq (sr r81_1 (.keep [0, 4] [] (cd 4 (.keep [0] [] (sr r81_2 (.keep [2] [] .ret))) .skip))) (.keep [0] [] (sr r81_3 (.keep [2] [] .ret)))))
def nums_Size_c : AC := nums_Size_c_y
def nums_Size_f : AFn := ⟨nums_Size_c, [.t 2], 0, 0, []⟩
abbrev r74_5 : AI := o 10 (m 0) (o 11 (.conv (.int .u64) (.t 10)) (o 2 (m 11) .done))
abbrev r74_4 : AI := o 7 (m 0) (o 8 (.un .neg (.t 7)) (o 9 (.conv (.int .u64) (.t 8)) (o 2 (m 9) .done)))
abbrev r74_3 : AI := o 5 (m 0) (o 6 (bk .lss 5 0) .done)
abbrev r74_2 : AI := o 2 (.mov (.k (.c (.int .u64 9223372036854775808)))) .done
abbrev r74_1 : AI := o 3 (m 0) (o 4 (.bin .eql (.t 3) (.k (.c (.int .i64 (-9223372036854775808))))) .done)
abbrev r74_0 : AI := o 2 (.mov (.k (.c (.int .u64 0)))) .done
abbrev ref01_Size_c_y : AC := sr r74_0 (.keep [0] [] (.seq (sr r74_1 (.keep [0, 4] [] (cd 4 (.keep [] [] (sr r74_2 (.keep [2] [] .ret))) .skip))) (.keep [0] [] (.seq (sr r74_3 (.keep [0, 6] [] (cd 6 (.keep [0] [] (sr r74_4 (.keep [2] [] .ret))) .skip))) (.keep [0] [] (sr r74_5 (.keep [2] [] .ret)))))))
def ref01_Size_c : AC := ref01_Size_c_y
def ref01_Size_f : AFn := ⟨ref01_Size_c, [.t 2], 0, 0, []⟩
abbrev r72_3 : AI := o 9 (m 0) (o 10 (.conv (.int .u64) (.t 9)) (o 11 (c1 80 10) (o 2 (m 11) .done)))
abbrev r72_2 : AI := o 5 (m 0) (o 6 (c1 81 5) (o 7 (c1 80 6) (o 8 (.bin .add (ks [45]) (.t 7)) (o 2 (m 8) .done))))
abbrev r72_1 : AI := o 3 (m 0) (o 4 (bk .lss 3 0) .done)
abbrev r72_0 : AI := o 2 (.mov (ks [])) .done
abbrev digits_Text_c_y : AC := sr r72_0 (.keep [0] [] (.seq (sr r72_1 (.keep [0, 4] [] (cd 4 (.keep [0] [] (sr r72_2 (.keep [2] [] .ret))) .skip))) (.keep [0] [] (sr r72_3 (.keep [2] [] .ret)))))
def digits_Text_c : AC := digits_Text_c_y
def digits_Text_f : AFn := ⟨digits_Text_c, [.t 2], 0, 0, []⟩
abbrev r52_3 : AI := o 9 (m 0) (o 10 (.conv (.int .u64) (.t 9)) (o 11 (c1 73 10) (o 2 (m 11) .done)))
abbrev r52_2 : AI := o 5 (m 0) (o 6 (c1 74 5) (o 7 (c1 73 6) (o 8 (.bin .add (ks [45]) (.t 7)) (o 2 (m 8) .done))))
abbrev r52_1 : AI := o 3 (m 0) (o 4 (bk .lss 3 0) .done)
abbrev r52_0 : AI := o 2 (.mov (ks [])) .done
abbrev ref02_Text_c_y : AC := sr r52_0 (.keep [0] [] (.seq (sr r52_1 (.keep [0, 4] [] (cd 4 (.keep [0] [] (sr r52_2 (.keep [2] [] .ret))) .skip))) (.keep [0] [] (sr r52_3 (.keep [2] [] .ret)))))
def ref02_Text_c : AC := ref02_Text_c_y
def ref02_Text_f : AFn := ⟨ref02_Text_c, [.t 2], 0, 0, []⟩
abbrev r50_1 : AI := o 3 (m 0) (o 4 (c1 72 3) (o 2 (m 4) .done))
abbrev r50_0 : AI := o 2 (.mov (ks [])) .done
abbrev digits_Of_c_y : AC := sr r50_0 (.keep [0] [] (sr r50_1 (.keep [2] [] .ret)))
def digits_Of_c : AC := digits_Of_c_y
def digits_Of_f : AFn := ⟨digits_Of_c, [.t 2], 0, 0, []⟩
abbrev r6_1 : AI := o 3 (m 0) (o 4 (c1 52 3) (o 2 (m 4) .done))
abbrev r6_0 : AI := o 2 (.mov (ks [])) .done
abbrev ref02_Of_c_y : AC := sr r6_0 (.keep [0] [] (sr r6_1 (.keep [2] [] .ret)))
def ref02_Of_c : AC := ref02_Of_c_y
def ref02_Of_f : AFn := ⟨ref02_Of_c, [.t 2], 0, 0, []⟩
theorem ref02_plain_c_x (Γ : Env) (N : Nat) (s : St) : exec Γ N ref02_plain_c s = exec Γ N ref02_plain_c_y s := rfl
theorem digits_plain_l1b_x (Γ : Env) (N : Nat) (s : St) : exec Γ N digits_plain_l1b s = exec Γ N digits_plain_l1b_y s := rfl
theorem digits_plain_l1_x (Γ : Env) (N : Nat) (s : St) : exec Γ N digits_plain_l1 s = exec Γ N digits_plain_l1_y s := rfl
theorem digits_plain_c_x (Γ : Env) (N : Nat) (s : St) : exec Γ N digits_plain_c s = exec Γ N digits_plain_c_y s := rfl
theorem nums_Size_c_x (Γ : Env) (N : Nat) (s : St) : exec Γ N nums_Size_c s = exec Γ N nums_Size_c_y s := rfl
theorem ref01_Size_c_x (Γ : Env) (N : Nat) (s : St) : exec Γ N ref01_Size_c s = exec Γ N ref01_Size_c_y s := rfl
theorem digits_Text_c_x (Γ : Env) (N : Nat) (s : St) : exec Γ N digits_Text_c s = exec Γ N digits_Text_c_y s := rfl
theorem ref02_Text_c_x (Γ : Env) (N : Nat) (s : St) : exec Γ N ref02_Text_c s = exec Γ N ref02_Text_c_y s := rfl
theorem digits_Of_c_x (Γ : Env) (N : Nat) (s : St) : exec Γ N digits_Of_c s = exec Γ N digits_Of_c_y s := rfl
theorem ref02_Of_c_x (Γ : Env) (N : Nat) (s : St) : exec Γ N ref02_Of_c s = exec Γ N ref02_Of_c_y s := rfl
attribute [simp] ref02_plain_c_y digits_plain_l1b_y digits_plain_l1_y digits_plain_c_y nums_Size_c_y ref01_Size_c_y digits_Text_c_y ref02_Text_c_y digits_Of_c_y ref02_Of_c_y
attribute [simp] ref02_plain_c_x ref02_plain_f digits_plain_l1b_x digits_plain_c_x digits_plain_f nums_Size_c_x nums_Size_f ref01_Size_c_x ref01_Size_f digits_Text_c_x digits_Text_f ref02_Text_c_x ref02_Text_f digits_Of_c_x digits_Of_f ref02_Of_c_x ref02_Of_f
end Go.Am
namespace Go.Am
open Cx
abbrev r24_24 : AI := o 2 (.mov (ki 0)) (o 3 (.mov (ki 0)) (o 4 (.mov (kb false)) .done))
abbrev r24_3 : AI := o 2 (.mov (ki 2)) (o 3 (.mov (ki 128)) (o 4 (.mov (kb true)) .done))
abbrev r24_5 : AI := o 2 (.mov (ki 1)) (o 3 (.mov (ki 16)) (o 4 (.mov (kb true)) .done))
abbrev r24_7 : AI := o 2 (.mov (ki 1)) (o 3 (.mov (ki 16)) (o 4 (.mov (kb true)) .done))
abbrev r24_9 : AI := o 2 (.mov (ki 1)) (o 3 (.mov (ki 64)) (o 4 (.mov (kb true)) .done))
abbrev r24_14 : AI := o 2 (.mov (ki 1)) (o 3 (.mov (ki 64)) (o 4 (.mov (kb true)) .done))
abbrev r24_17 : AI := o 2 (.mov (ki 1)) (o 3 (.mov (ki 1048576)) (o 4 (.mov (kb true)) .done))
abbrev r24_19 : AI := o 2 (.mov (ki 0)) (o 3 (.mov (ki 4000)) (o 4 (.mov (kb true)) .done))
abbrev r24_21 : AI := o 2 (.mov (ki 1)) (o 3 (.mov (ki 64)) (o 4 (.mov (kb true)) .done))
abbrev r24_23 : AI := o 2 (.mov (ki 1)) (o 3 (.mov (ki 4096)) (o 4 (.mov (kb true)) .done))
abbrev r24_22 : AI := o 27 (.bin .eql (.t 5) (ks [119, 105, 100, 116, 104])) (o 26 (m 27) .done)
abbrev r24_20 : AI := o 25 (.bin .eql (.t 5) (ks [98, 105, 110, 115])) (o 24 (m 25) .done)
abbrev r24_18 : AI := o 23 (.bin .eql (.t 5) (ks [114, 97, 116, 101])) (o 22 (m 23) .done)
abbrev r24_16 : AI := o 21 (.bin .eql (.t 5) (ks [104, 111, 114, 105, 122, 111, 110])) (o 19 (m 21) .done)
abbrev r24_15 : AI := o 20 (.bin .eql (.t 5) (ks [116, 105, 99, 107, 115])) (o 19 (m 20) .done)
abbrev r24_13 : AI := o 18 (.bin .eql (.t 5) (ks [116, 114, 97, 110, 115, 102, 101, 114])) (o 14 (m 18) .done)
abbrev r24_12 : AI := o 17 (.bin .eql (.t 5) (ks [99, 108, 111, 115, 101])) (o 14 (m 17) .done)
abbrev r24_11 : AI := o 16 (.bin .eql (.t 5) (ks [100, 119, 101, 108, 108])) (o 14 (m 16) .done)
abbrev r24_10 : AI := o 15 (.bin .eql (.t 5) (ks [111, 112, 101, 110])) (o 14 (m 15) .done)
abbrev r24_8 : AI := o 13 (.bin .eql (.t 5) (ks [99, 97, 112, 97, 99, 105, 116, 121])) (o 12 (m 13) .done)
abbrev r24_6 : AI := o 11 (.bin .eql (.t 5) (ks [99, 97, 114, 115])) (o 10 (m 11) .done)
abbrev r24_4 : AI := o 9 (.bin .eql (.t 5) (ks [103, 97, 112])) (o 8 (m 9) .done)
abbrev r24_2 : AI := o 7 (.bin .eql (.t 5) (ks [102, 108, 111, 111, 114, 115])) (o 6 (m 7) .done)
abbrev r24_1 : AI := o 5 (m 0) .done
abbrev r24_0 : AI := o 2 (.mov (ki 0)) (o 3 (.mov (ki 0)) (o 4 (.mov (kb false)) .done))
abbrev vet_Bounds_c_y : AC := sr r24_0 (.keep [0] [] (.seq (sr r24_1 (.keep [5] [] (.block 0 (sr r24_2 (.keep [5, 6] [] (cd 6 (.keep [] [] (sr r24_3 (.keep [2, 3, 4] [] .ret))) (.keep [5] [] (sr r24_4 (.keep [5, 8] [] (cd 8 (.keep [] [] (sr r24_5 (.keep [2, 3, 4] [] .ret))) (.keep [5] [] (sr r24_6 (.keep [5, 10] [] (cd 10 (.keep [] [] (sr r24_7 (.keep [2, 3, 4] [] .ret))) (.keep [5] [] (sr r24_8 (.keep [5, 12] [] (cd 12 (.keep [] [] (sr r24_9 (.keep [2, 3, 4] [] .ret))) (.keep [5] [] (.seq (sr r24_10 (.keep [5, 14] [] (cd 14 .skip (.keep [5] [] (sr r24_11 (.keep [5, 14] [] (cd 14 .skip (.keep [5] [] (sr r24_12 (.keep [5, 14] [] (cd 14 .skip (.keep [5] [] (rg r24_13))))))))))))) (.keep [5, 14] [] (cd 14 (.keep [] [] (sr r24_14 (.keep [2, 3, 4] [] .ret))) (.keep [5] [] (.seq (sr r24_15 (.keep [5, 19] [] (cd 19 .skip (.keep [5] [] (rg r24_16))))) (.keep [5, 19] [] (cd 19 (.keep [] [] (sr r24_17 (.keep [2, 3, 4] [] .ret))) (.keep [5] [] (sr r24_18 (.keep [5, 22] [] (cd 22 (.keep [] [] (sr r24_19 (.keep [2, 3, 4] [] .ret))) (.keep [5] [] (sr r24_20 (.keep [5, 24] [] (cd 24 (.keep [] [] (sr r24_21 (.keep [2, 3, 4] [] .ret))) (.keep [5] [] (sr r24_22 (.keep [26] [] (cd 26 (.keep [] [] (sr r24_23 (.keep [2, 3, 4] [] .ret))) .skip)))))))))))))))))))))))))))))))))))))) (.keep [] [] (sr r24_24 (.keep [2, 3, 4] [] .ret)))))
def vet_Bounds_c : AC := vet_Bounds_c_y
def vet_Bounds_f : AFn := ⟨vet_Bounds_c, [.t 2, .t 3, .t 4], 0, 0, []⟩
abbrev r20_2 : AI := o 14 (m 7) (o 15 (m 14) (.scs 19 (.t 15) true (o 16 (m 1) (o 17 (m 5) (o 18 (b2 .geq 16 17) .done))) (.t 18) (o 20 (m 19) (.scs 24 (.t 20) true (o 21 (m 1) (o 22 (m 6) (o 23 (b2 .leq 21 22) .done))) (.t 23) (o 4 (m 24) .done)))))
abbrev r20_1 : AI := o 9 (m 0) (o 10 (c1 24 9) (o 8 (m 10) (o 11 (ex 8 0) (o 12 (ex 8 1) (o 13 (ex 8 2) (o 5 (m 11) (o 6 (m 12) (o 7 (m 13) .done))))))))
abbrev r20_0 : AI := o 4 (.mov (kb false)) .done
abbrev vet_In_c_y : AC := sr r20_0 (.keep [0, 1] [] (sr r20_1 (.keep [1, 5, 6, 7] [] (sr r20_2 (.keep [4] [] .ret)))))
def vet_In_c : AC := vet_In_c_y
def vet_In_f : AFn := ⟨vet_In_c, [.t 4], 0, 0, []⟩
abbrev r63_5 : AI := o 2 (.mov (ki 0)) .done
abbrev r63_4 : AI := o 2 (.mov (ki 264)) .done
abbrev r63_3 : AI := o 11 (fa 1 1) (o 12 (l1 11) (o 13 (.call 20 [(ks [116, 105, 99, 107, 115]), (.t 12)]) (o 14 (.un .not (.t 13)) (o 15 (m 14) (.sc 20 (.t 15) false (o 16 (fa 1 2) (o 17 (l1 16) (o 18 (.call 20 [(ks [114, 97, 116, 101]), (.t 17)]) (o 19 (.un .not (.t 18)) .done)))) (.t 19) .done)))))
abbrev r63_2 : AI := o 2 (.mov (ki 260)) .done
abbrev r63_1 : AI := o 3 (fa 1 0) (o 4 (l1 3) (o 5 (bk .lss 4 1) (o 6 (m 5) (.scs 10 (.t 6) false (o 7 (fa 1 0) (o 8 (l1 7) (o 9 (bk .gtr 8 4) .done))) (.t 9) .done))))
abbrev r63_0 : AI := o 1 (.box 1 (.t 0)) (o 2 (.mov (ki 0)) .done)
abbrev vet_segment_c_y : AC := sr r63_0 (.keep [1] [1] (.seq (sr r63_1 (.keep [1, 10] [1] (cd 10 (.keep [] [] (sr r63_2 (.keep [2] [] .ret))) .skip))) (.keep [1] [1] (.seq (sr r63_3 (.keep [20] [] (cd 20 (.keep [] [] (sr r63_4 (.keep [2] [] .ret))) .skip))) (.keep [] [] (sr r63_5 (.keep [2] [] .ret)))))))
def vet_segment_c : AC := vet_segment_c_y
def vet_segment_f : AFn := ⟨vet_segment_c, [.t 2], 0, 0, []⟩
abbrev r64_1 : AI := o 3 (fa 1 0) (o 4 (l1 3) (o 5 (.call 20 [(ks [102, 108, 111, 111, 114, 115]), (.t 4)]) (o 6 (m 5) (.sc 10 (.t 6) true (o 7 (fa 1 1) (o 8 (l1 7) (o 9 (.call 20 [(ks [103, 97, 112]), (.t 8)]) .done))) (.t 9) (o 11 (m 10) (.sc 15 (.t 11) true (o 12 (fa 1 2) (o 13 (l1 12) (o 14 (.call 20 [(ks [99, 97, 114, 115]), (.t 13)]) .done))) (.t 14) (o 16 (m 15) (.sc 20 (.t 16) true (o 17 (fa 1 3) (o 18 (l1 17) (o 19 (.call 20 [(ks [99, 97, 112, 97, 99, 105, 116, 121]), (.t 18)]) .done))) (.t 19) (o 21 (m 20) (.sc 25 (.t 21) true (o 22 (fa 1 4) (o 23 (l1 22) (o 24 (.call 20 [(ks [111, 112, 101, 110]), (.t 23)]) .done))) (.t 24) (o 26 (m 25) (.sc 30 (.t 26) true (o 27 (fa 1 5) (o 28 (l1 27) (o 29 (.call 20 [(ks [100, 119, 101, 108, 108]), (.t 28)]) .done))) (.t 29) (o 31 (m 30) (.sc 35 (.t 31) true (o 32 (fa 1 6) (o 33 (l1 32) (o 34 (.call 20 [(ks [99, 108, 111, 115, 101]), (.t 33)]) .done))) (.t 34) (o 36 (m 35) (.sc 40 (.t 36) true (o 37 (fa 1 7) (o 38 (l1 37) (o 39 (.call 20 [(ks [116, 114, 97, 110, 115, 102, 101, 114]), (.t 38)]) .done))) (.t 39) (o 41 (m 40) (.sc 45 (.t 41) true (o 42 (fa 1 10) (o 43 (l1 42) (o 44 (.call 20 [(ks [104, 111, 114, 105, 122, 111, 110]), (.t 43)]) .done))) (.t 44) (o 46 (m 45) (.sc 50 (.t 46) true (o 47 (fa 1 11) (o 48 (l1 47) (o 49 (.call 20 [(ks [98, 105, 110, 115]), (.t 48)]) .done))) (.t 49) (o 51 (m 50) (.sc 55 (.t 51) true (o 52 (fa 1 12) (o 53 (l1 52) (o 54 (.call 20 [(ks [119, 105, 100, 116, 104]), (.t 53)]) .done))) (.t 54) (o 2 (m 55) .done)))))))))))))))))))))))
abbrev r64_0 : AI := o 1 (.box 1 (.t 0)) (o 2 (.mov (kb false)) .done)
abbrev vet_numbers_c_y : AC := sr r64_0 (.keep [1] [1] (sr r64_1 (.keep [2] [] .ret)))
def vet_numbers_c : AC := vet_numbers_c_y
def vet_numbers_f : AFn := ⟨vet_numbers_c, [.t 2], 0, 0, []⟩
abbrev r25_16 : AI := o 2 (.mov (ki 0)) .done
abbrev r25_15 : AI := o 41 (bk .add 32 1) (o 32 (m 41) .done)
abbrev r25_14 : AI := o 40 (m 5) (o 2 (m 40) .done)
abbrev r25_13 : AI := o 38 (m 5) (o 39 (bk .neq 38 0) .done)
abbrev r25_12 : AI := o 36 (ln 4 3) (o 37 (c1 63 36) (o 5 (m 37) .done))
abbrev r25_11 : AI := o 34 (ia 30 32 3) (o 35 (ln 34 3) (o 4 (.alc 4 za3) (so 3 4 35 .done)))
abbrev r25_10 : AI := o 33 (b2 .lss 32 31) .done
abbrev r25_9 : AI := o 29 (fa 1 8) (o 30 (l1 29) (o 31 (le 30) (o 32 (.mov (ki 0)) .done)))
abbrev r25_2 : AI := o 2 (.mov (ki 264)) .done
abbrev r25_4 : AI := o 2 (.mov (ki 260)) .done
abbrev r25_6 : AI := o 2 (.mov (ki 263)) .done
abbrev r25_8 : AI := o 2 (.mov (ki 21)) .done
abbrev r25_7 : AI := o 25 (fa 1 8) (o 26 (l1 25) (o 27 (le 26) (o 28 (bk .gtr 27 8) (o 24 (m 28) .done))))
abbrev r25_5 : AI := o 20 (fa 1 8) (o 21 (l1 20) (o 22 (le 21) (o 23 (bk .eql 22 0) (o 19 (m 23) .done))))
abbrev r25_3 : AI := o 11 (fa 1 9) (o 12 (l1 11) (o 13 (bk .lss 12 1) (o 14 (m 13) (.scs 18 (.t 14) false (o 15 (fa 1 9) (o 16 (l1 15) (o 17 (bk .gtr 16 4) .done))) (.t 17) (o 10 (m 18) .done)))))
abbrev r25_1 : AI := o 7 (ln 1 13) (o 8 (c1 64 7) (o 9 (.un .not (.t 8)) (o 6 (m 9) .done)))
abbrev r25_0 : AI := o 1 (.box 1 (.t 0)) (o 2 (.mov (ki 0)) .done)
abbrev vet_Check_l1b_y : AC := sr r25_10 (.keep [30, 31, 32, 33] [] (.seq (cd 33 .skip (.keep [] [] (.exit 1))) (.keep [30, 31, 32] [] (.seq (.block 2 (sr r25_11 (.keep [4, 30, 31, 32] [4] (sr r25_12 (.keep [5, 30, 31, 32] [] (sr r25_13 (.keep [5, 30, 31, 32, 39] [] (cd 39 (.keep [5] [] (sr r25_14 (.keep [2] [] .ret))) .skip)))))))) (.keep [30, 31, 32] [] (rg r25_15))))))
def vet_Check_l1b : AC := vet_Check_l1b_y
abbrev vet_Check_l1_y : AC := .keep [30, 31, 32] [] (vet_Check_l1b)
def vet_Check_l1 : AC := vet_Check_l1_y
abbrev vet_Check_c_y : AC := sr r25_0 (.keep [1] [1] (.seq (.block 0 (sr r25_1 (.keep [1, 6] [1] (cd 6 (.keep [] [] (sr r25_2 (.keep [2] [] .ret))) (.keep [1] [1] (sr r25_3 (.keep [1, 10] [1] (cd 10 (.keep [] [] (sr r25_4 (.keep [2] [] .ret))) (.keep [1] [1] (sr r25_5 (.keep [1, 19] [1] (cd 19 (.keep [] [] (sr r25_6 (.keep [2] [] .ret))) (.keep [1] [1] (sr r25_7 (.keep [1, 24] [1] (cd 24 (.keep [] [] (sr r25_8 (.keep [2] [] .ret))) .skip)))))))))))))))) (.keep [1] [1] (.seq (sr r25_9 (.keep [30, 31, 32] [] (.block 1 (.loop vet_Check_l1)))) (.keep [] [] (sr r25_16 (.keep [2] [] .ret)))))))
def vet_Check_c : AC := vet_Check_c_y
def vet_Check_f : AFn := ⟨vet_Check_c, [.t 2], 0, 0, []⟩
abbrev r23_9 : AI := o 2 (.mov (ki 0)) (o 3 (.mov (ki 0)) (o 4 (.mov (kb false)) .done))
abbrev r23_6 : AI := o 14 (m 8) (o 15 (bk .add 14 1) (o 8 (m 15) .done))
abbrev r23_8 : AI := o 3 (m 26) (o 4 (.mov (kb true)) .done)
abbrev r23_7 : AI := o 16 (m 8) (o 17 (.iadA (.t 5) (.t 16) 13 1) (o 18 (l1 17) (o 19 (m 0) (o 20 (b2 .eql 18 19) .done))))
abbrev r23_5 : AI := o 12 (m 8) (o 13 (bk .lss 12 13) .done)
abbrev r23_4 : AI := o 8 (.mov (ki 0)) .done
abbrev r23_3 : AI := o 11 (.bld zd13 [(0, 1, (ki 128)), (1, 1, (ki 16)), (2, 1, (ki 16)), (3, 1, (ki 64)), (4, 1, (ki 64)), (5, 1, (ki 64)), (6, 1, (ki 64)), (7, 1, (ki 64)), (8, 1, (ki 1048576)), (9, 1, (ki 1048576)), (10, 1, (ki 4000)), (11, 1, (ki 64)), (12, 1, (ki 4096))]) (o 7 (.alc 7 za13) (so 13 7 11 .done))
abbrev r23_2 : AI := o 10 (.bld zd13 [(0, 1, (ki 2)), (1, 1, (ki 1)), (2, 1, (ki 1)), (3, 1, (ki 1)), (4, 1, (ki 1)), (5, 1, (ki 1)), (6, 1, (ki 1)), (7, 1, (ki 1)), (8, 1, (ki 1)), (9, 1, (ki 1)), (10, 1, (ki 0)), (11, 1, (ki 1)), (12, 1, (ki 1))]) (o 6 (.alc 6 za13) (so 13 6 10 .done))
abbrev r23_1 : AI := o 9 (.bld [.str [], .str [], .str [], .str [], .str [], .str [], .str [], .str [], .str [], .str [], .str [], .str [], .str []] [(0, 1, (ks [102, 108, 111, 111, 114, 115])), (1, 1, (ks [103, 97, 112])), (2, 1, (ks [99, 97, 114, 115])), (3, 1, (ks [99, 97, 112, 97, 99, 105, 116, 121])), (4, 1, (ks [111, 112, 101, 110])), (5, 1, (ks [100, 119, 101, 108, 108])), (6, 1, (ks [99, 108, 111, 115, 101])), (7, 1, (ks [116, 114, 97, 110, 115, 102, 101, 114])), (8, 1, (ks [116, 105, 99, 107, 115])), (9, 1, (ks [104, 111, 114, 105, 122, 111, 110])), (10, 1, (ks [114, 97, 116, 101])), (11, 1, (ks [98, 105, 110, 115])), (12, 1, (ks [119, 105, 100, 116, 104]))]) (o 5 (.alc 5 [.c (.str []), .c (.str []), .c (.str []), .c (.str []), .c (.str []), .c (.str []), .c (.str []), .c (.str []), .c (.str []), .c (.str []), .c (.str []), .c (.str []), .c (.str [])]) (so 13 5 9 .done))
abbrev r23_0 : AI := o 2 (.mov (ki 0)) (o 3 (.mov (ki 0)) (o 4 (.mov (kb false)) .done))
abbrev r23_8q : List DIt := [d 21 (m 8), d 22 (.iadA (.t 6) (.t 21) 13 1), d 23 (l1 22), d 24 (m 8), d 25 (.iadA (.t 7) (.t 24) 13 1), d 26 (l1 25), d 2 (m 23)]
abbrev ref20_Bounds_l1b_y : AC := .seq (sr r23_5 (.keep [0, 5, 6, 7, 8, 13] [5, 6, 7] (cd 13 .skip (.keep [] [] (.exit 0))))) (.keep [0, 5, 6, 7, 8] [5, 6, 7] (.seq (.block 1 (sr r23_7 (.keep [0, 5, 6, 7, 8, 20] [5, 6, 7] (cd 20 (.keep [6, 7, 8] [6, 7] (.seq (.draw r23_8q [] [] r23_8) (.keep [2, 3, 4] [] .ret))) .skip)))) (.keep [0, 5, 6, 7, 8] [5, 6, 7] (rg r23_6))))
def ref20_Bounds_l1b : AC := ref20_Bounds_l1b_y
abbrev ref20_Bounds_l1_y : AC := .keep [0, 5, 6, 7, 8] [5, 6, 7] (ref20_Bounds_l1b)
def ref20_Bounds_l1 : AC := ref20_Bounds_l1_y
abbrev ref20_Bounds_c_y : AC := sr r23_0 (.keep [0] [] (sr r23_1 (.keep [0, 5] [5] (sr r23_2 (.keep [0, 5, 6] [5, 6] (sr r23_3 (.keep [0, 5, 6, 7] [5, 6, 7] (.seq (sr r23_4 (.keep [0, 5, 6, 7, 8] [5, 6, 7] (.block 0 (.loop ref20_Bounds_l1)))) (.keep [] [] (sr r23_9 (.keep [2, 3, 4] [] .ret)))))))))))
def ref20_Bounds_c : AC := ref20_Bounds_c_y
def ref20_Bounds_f : AFn := ⟨ref20_Bounds_c, [.t 2, .t 3, .t 4], 0, 0, []⟩
abbrev r21_2 : AI := o 14 (m 7) (o 15 (m 14) (.scs 19 (.t 15) true (o 16 (m 5) (o 17 (m 1) (o 18 (b2 .leq 16 17) .done))) (.t 18) (o 20 (m 19) (.scs 24 (.t 20) true (o 21 (m 1) (o 22 (m 6) (o 23 (b2 .leq 21 22) .done))) (.t 23) (o 4 (m 24) .done)))))
abbrev r21_1 : AI := o 9 (m 0) (o 10 (c1 23 9) (o 8 (m 10) (o 11 (ex 8 0) (o 12 (ex 8 1) (o 13 (ex 8 2) (o 5 (m 11) (o 6 (m 12) (o 7 (m 13) .done))))))))
abbrev r21_0 : AI := o 4 (.mov (kb false)) .done
abbrev ref20_In_c_y : AC := sr r21_0 (.keep [0, 1] [] (sr r21_1 (.keep [1, 5, 6, 7] [] (sr r21_2 (.keep [4] [] .ret)))))
def ref20_In_c : AC := ref20_In_c_y
def ref20_In_f : AFn := ⟨ref20_In_c, [.t 4], 0, 0, []⟩
abbrev r26_22 : AI := o 2 (.mov (ki 0)) .done
abbrev r26_16 : AI := o 65 (m 6) (o 66 (bk .add 65 1) (o 6 (m 66) .done))
abbrev r26_21 : AI := o 2 (.mov (ki 264)) .done
abbrev r26_20 : AI := o 80 (fa 7 1) (o 81 (l1 80) (o 82 (.call 21 [(ks [116, 105, 99, 107, 115]), (.t 81)]) (o 83 (.un .not (.t 82)) (o 84 (m 83) (.sc 89 (.t 84) false (o 85 (fa 7 2) (o 86 (l1 85) (o 87 (.call 21 [(ks [114, 97, 116, 101]), (.t 86)]) (o 88 (.un .not (.t 87)) .done)))) (.t 88) .done)))))
abbrev r26_19 : AI := o 2 (.mov (ki 260)) .done
abbrev r26_18 : AI := o 72 (fa 7 0) (o 73 (l1 72) (o 74 (bk .lss 73 1) (o 75 (m 74) (.scs 79 (.t 75) false (o 76 (fa 7 0) (o 77 (l1 76) (o 78 (bk .gtr 77 4) .done))) (.t 78) .done))))
abbrev r26_17 : AI := o 67 (fa 1 8) (o 68 (l1 67) (o 69 (m 6) (o 70 (ia 68 69 3) (o 71 (ln 70 3) (o 7 (.alc 7 za3) (so 3 7 71 .done))))))
abbrev r26_15 : AI := o 60 (m 6) (o 61 (fa 1 8) (o 62 (l1 61) (o 63 (le 62) (o 64 (b2 .lss 60 63) .done))))
abbrev r26_14 : AI := o 6 (.mov (ki 0)) .done
abbrev r26_13 : AI := o 2 (.mov (ki 21)) .done
abbrev r26_12 : AI := o 56 (fa 1 8) (o 57 (l1 56) (o 58 (le 57) (o 59 (bk .gtr 58 8) .done)))
abbrev r26_11 : AI := o 2 (.mov (ki 263)) .done
abbrev r26_10 : AI := o 52 (fa 1 8) (o 53 (l1 52) (o 54 (le 53) (o 55 (bk .eql 54 0) .done)))
abbrev r26_9 : AI := o 2 (.mov (ki 260)) .done
abbrev r26_8 : AI := o 44 (fa 1 9) (o 45 (l1 44) (o 46 (bk .lss 45 1) (o 47 (m 46) (.scs 51 (.t 47) false (o 48 (fa 1 9) (o 49 (l1 48) (o 50 (bk .gtr 49 4) .done))) (.t 50) .done))))
abbrev r26_5 : AI := o 34 (m 5) (o 35 (bk .add 34 1) (o 5 (m 35) .done))
abbrev r26_7 : AI := o 2 (.mov (ki 264)) .done
abbrev r26_6 : AI := o 42 (c2 21 38 41) (o 43 (.un .not (.t 42)) .done)
abbrev r26_4 : AI := o 32 (m 5) (o 33 (bk .lss 32 11) .done)
abbrev r26_3 : AI := o 5 (.mov (ki 0)) .done
abbrev r26_2 : AI := o 9 (fa 1 0) (o 10 (l1 9) (o 11 (fa 1 1) (o 12 (l1 11) (o 13 (fa 1 2) (o 14 (l1 13) (o 15 (fa 1 3) (o 16 (l1 15) (o 17 (fa 1 4) (o 18 (l1 17) (o 19 (fa 1 5) (o 20 (l1 19) (o 21 (fa 1 6) (o 22 (l1 21) (o 23 (fa 1 7) (o 24 (l1 23) (o 25 (fa 1 10) (o 26 (l1 25) (o 27 (fa 1 11) (o 28 (l1 27) (o 29 (fa 1 12) (o 30 (l1 29) (o 31 (.bld zd11 [(0, 1, (.t 10)), (1, 1, (.t 12)), (2, 1, (.t 14)), (3, 1, (.t 16)), (4, 1, (.t 18)), (5, 1, (.t 20)), (6, 1, (.t 22)), (7, 1, (.t 24)), (8, 1, (.t 26)), (9, 1, (.t 28)), (10, 1, (.t 30))]) (o 4 (.alc 4 za11) (so 11 4 31 .done))))))))))))))))))))))))
abbrev r26_1 : AI := o 8 (.bld [.str [], .str [], .str [], .str [], .str [], .str [], .str [], .str [], .str [], .str [], .str []] [(0, 1, (ks [102, 108, 111, 111, 114, 115])), (1, 1, (ks [103, 97, 112])), (2, 1, (ks [99, 97, 114, 115])), (3, 1, (ks [99, 97, 112, 97, 99, 105, 116, 121])), (4, 1, (ks [111, 112, 101, 110])), (5, 1, (ks [100, 119, 101, 108, 108])), (6, 1, (ks [99, 108, 111, 115, 101])), (7, 1, (ks [116, 114, 97, 110, 115, 102, 101, 114])), (8, 1, (ks [104, 111, 114, 105, 122, 111, 110])), (9, 1, (ks [98, 105, 110, 115])), (10, 1, (ks [119, 105, 100, 116, 104]))]) (o 3 (.alc 3 [.c (.str []), .c (.str []), .c (.str []), .c (.str []), .c (.str []), .c (.str []), .c (.str []), .c (.str []), .c (.str []), .c (.str []), .c (.str [])]) (so 11 3 8 .done))
abbrev r26_0 : AI := o 1 (.box 1 (.t 0)) (o 2 (.mov (ki 0)) .done)
abbrev r26_6q : List DIt := [d 36 (m 5), d 37 (.iadA (.t 3) (.t 36) 11 1), d 38 (l1 37), d 39 (m 5), d 40 (.iadA (.t 4) (.t 39) 11 1), d 41 (l1 40)]
abbrev ref20_Check_l1b_y : AC := .seq (sr r26_15 (.keep [1, 6, 64] [1] (cd 64 .skip (.keep [] [] (.exit 2))))) (.keep [1, 6] [1] (.seq (.block 3 (sr r26_17 (.keep [1, 6, 7] [1, 7] (.seq (sr r26_18 (.keep [1, 6, 7, 79] [1, 7] (cd 79 (.keep [] [] (sr r26_19 (.keep [2] [] .ret))) .skip))) (.keep [1, 6, 7] [1, 7] (sr r26_20 (.keep [1, 6, 89] [1] (cd 89 (.keep [] [] (sr r26_21 (.keep [2] [] .ret))) .skip)))))))) (.keep [1, 6] [1] (rg r26_16))))
def ref20_Check_l1b : AC := ref20_Check_l1b_y
abbrev ref20_Check_l1_y : AC := .keep [1, 6] [1] (ref20_Check_l1b)
def ref20_Check_l1 : AC := ref20_Check_l1_y
abbrev ref20_Check_l2b_y : AC := .seq (sr r26_4 (.keep [1, 3, 4, 5, 33] [1, 3, 4] (cd 33 .skip (.keep [1] [1] (.exit 0))))) (.keep [1, 3, 4, 5] [1, 3, 4] (.seq (.block 1 (.seq (.draw r26_6q [] [] r26_6) (.keep [1, 3, 4, 5, 43] [1, 3, 4] (cd 43 (.keep [] [] (sr r26_7 (.keep [2] [] .ret))) .skip)))) (.keep [1, 3, 4, 5] [1, 3, 4] (rg r26_5))))
def ref20_Check_l2b : AC := ref20_Check_l2b_y
abbrev ref20_Check_l2_y : AC := .keep [1, 3, 4, 5] [1, 3, 4] (ref20_Check_l2b)
def ref20_Check_l2 : AC := ref20_Check_l2_y
abbrev ref20_Check_c_y : AC := sr r26_0 (.keep [1] [1] (sr r26_1 (.keep [1, 3] [1, 3] (sr r26_2 (.keep [1, 3, 4] [1, 3, 4] (.seq (sr r26_3 (.keep [1, 3, 4, 5] [1, 3, 4] (.block 0 (.loop ref20_Check_l2)))) (.keep [1] [1] (.seq (sr r26_8 (.keep [1, 51] [1] (cd 51 (.keep [] [] (sr r26_9 (.keep [2] [] .ret))) .skip))) (.keep [1] [1] (.seq (sr r26_10 (.keep [1, 55] [1] (cd 55 (.keep [] [] (sr r26_11 (.keep [2] [] .ret))) .skip))) (.keep [1] [1] (.seq (sr r26_12 (.keep [1, 59] [1] (cd 59 (.keep [] [] (sr r26_13 (.keep [2] [] .ret))) .skip))) (.keep [1] [1] (.seq (sr r26_14 (.keep [1, 6] [1] (.block 2 (.loop ref20_Check_l1)))) (.keep [] [] (sr r26_22 (.keep [2] [] .ret)))))))))))))))))
def ref20_Check_c : AC := ref20_Check_c_y
def ref20_Check_f : AFn := ⟨ref20_Check_c, [.t 2], 0, 0, []⟩
theorem vet_Bounds_c_x (Γ : Env) (N : Nat) (s : St) : exec Γ N vet_Bounds_c s = exec Γ N vet_Bounds_c_y s := rfl
theorem vet_In_c_x (Γ : Env) (N : Nat) (s : St) : exec Γ N vet_In_c s = exec Γ N vet_In_c_y s := rfl
theorem vet_segment_c_x (Γ : Env) (N : Nat) (s : St) : exec Γ N vet_segment_c s = exec Γ N vet_segment_c_y s := rfl
theorem vet_numbers_c_x (Γ : Env) (N : Nat) (s : St) : exec Γ N vet_numbers_c s = exec Γ N vet_numbers_c_y s := rfl
theorem vet_Check_l1b_x (Γ : Env) (N : Nat) (s : St) : exec Γ N vet_Check_l1b s = exec Γ N vet_Check_l1b_y s := rfl
theorem vet_Check_l1_x (Γ : Env) (N : Nat) (s : St) : exec Γ N vet_Check_l1 s = exec Γ N vet_Check_l1_y s := rfl
theorem vet_Check_c_x (Γ : Env) (N : Nat) (s : St) : exec Γ N vet_Check_c s = exec Γ N vet_Check_c_y s := rfl
theorem ref20_Bounds_l1b_x (Γ : Env) (N : Nat) (s : St) : exec Γ N ref20_Bounds_l1b s = exec Γ N ref20_Bounds_l1b_y s := rfl
theorem ref20_Bounds_l1_x (Γ : Env) (N : Nat) (s : St) : exec Γ N ref20_Bounds_l1 s = exec Γ N ref20_Bounds_l1_y s := rfl
theorem ref20_Bounds_c_x (Γ : Env) (N : Nat) (s : St) : exec Γ N ref20_Bounds_c s = exec Γ N ref20_Bounds_c_y s := rfl
theorem ref20_In_c_x (Γ : Env) (N : Nat) (s : St) : exec Γ N ref20_In_c s = exec Γ N ref20_In_c_y s := rfl
theorem ref20_Check_l1b_x (Γ : Env) (N : Nat) (s : St) : exec Γ N ref20_Check_l1b s = exec Γ N ref20_Check_l1b_y s := rfl
theorem ref20_Check_l1_x (Γ : Env) (N : Nat) (s : St) : exec Γ N ref20_Check_l1 s = exec Γ N ref20_Check_l1_y s := rfl
theorem ref20_Check_l2b_x (Γ : Env) (N : Nat) (s : St) : exec Γ N ref20_Check_l2b s = exec Γ N ref20_Check_l2b_y s := rfl
theorem ref20_Check_l2_x (Γ : Env) (N : Nat) (s : St) : exec Γ N ref20_Check_l2 s = exec Γ N ref20_Check_l2_y s := rfl
theorem ref20_Check_c_x (Γ : Env) (N : Nat) (s : St) : exec Γ N ref20_Check_c s = exec Γ N ref20_Check_c_y s := rfl
attribute [simp] vet_Bounds_c_y vet_In_c_y vet_segment_c_y vet_numbers_c_y vet_Check_l1b_y vet_Check_l1_y vet_Check_c_y ref20_Bounds_l1b_y ref20_Bounds_l1_y ref20_Bounds_c_y ref20_In_c_y ref20_Check_l1b_y ref20_Check_l1_y ref20_Check_l2b_y ref20_Check_l2_y ref20_Check_c_y
attribute [simp] vet_Bounds_c_x vet_Bounds_f vet_In_c_x vet_In_f vet_segment_c_x vet_segment_f vet_numbers_c_x vet_numbers_f vet_Check_l1b_x vet_Check_c_x vet_Check_f ref20_Bounds_l1b_x ref20_Bounds_c_x ref20_Bounds_f ref20_In_c_x ref20_In_f ref20_Check_l1b_x ref20_Check_l2b_x ref20_Check_c_x ref20_Check_f
end Go.Am
namespace Go.Am
open Cx
@[simp] abbrev kt_buf : Nat := 110680464442258309910
@[simp] abbrev kt_show_Text_5 : Nat := 1254378597012249509893
@[simp] abbrev ty_strings_Builder : Nat := 67
@[simp] abbrev ty_u8 : Nat := 5
abbrev r228_1 : AI := o 7 (m 0) (o 8 (m 0) (o 9 (.idp ty_strings_Builder 2 (.t 8)) (o 10 (.idp ty_strings_Builder 2 (.t 9)) (o 11 (.idp ty_strings_Builder 2 (.t 10)) (o 12 (nc 7) (o 13 (fa 12 0) (so 1 13 11 .done)))))))
abbrev r228_2 : AI := o 14 (m 0) (o 15 (nc 14) (o 16 (fa 15 0) (o 17 (l1 16) (o 18 (m 0) (o 19 (.peq true (.t 17) (.t 18)) .done)))))
abbrev r228_0 : AI := o 2 (m 0) (o 3 (nc 2) (o 4 (fa 3 0) (o 5 (l1 4) (o 6 (.isn 0 false (.t 5)) .done))))
abbrev strings_Builder_copyCheck_c_y : AC := sr r228_0 (.keepP [0, 6] 0 0 [] (cd 6 (.keepP [0] 0 0 [] (rg r228_1)) (.keepP [0] 0 0 [] (sr r228_2 (.keepP [19] 0 0 [] (cd 19 (.keepP [] 0 0 [] (.any)) .skip))))))
def strings_Builder_copyCheck_c : AC := strings_Builder_copyCheck_c_y
def strings_Builder_copyCheck_f : AFn := ⟨strings_Builder_copyCheck_c, [], 0, 0, []⟩
abbrev r79_3 : AI := o 17 (m 1) (o 18 (.len true (.t 17)) (o 4 (m 18) (o 5 (.mov (.k (.ot .ni))) .done)))
abbrev r79_2 : AI := o 8 (m 0) (o 9 (m 0) (o 10 (nc 9) (o 11 (fa 10 1) (o 12 (l1 11) (o 13 (m 1) (o 14 (.app kt_buf 1 1 (.t 12) (.t 13)) (o 15 (nc 8) (o 16 (fa 15 1) (so 1 16 14 .done)))))))))
abbrev r79_1 : AI := o 6 (m 0) (o 7 (.callP 228 [.t 6]) .done)
abbrev r79_0 : AI := o 4 (.mov (ki 0)) (o 5 (.mov (.k (.ot .ni))) .done)
abbrev strings_Builder_WriteString_c_y : AC := sr r79_0 (.keepP [0, 1] 0 0 [] (sr r79_1 (.keepP [0, 1] 0 0 [] (sr r79_2 (.keepP [1] 0 0 [] (sr r79_3 (.keepP [4, 5] 0 0 [] .ret)))))))
def strings_Builder_WriteString_c : AC := strings_Builder_WriteString_c_y
def strings_Builder_WriteString_f : AFn := ⟨strings_Builder_WriteString_c, [.t 4, .t 5], 0, 0, []⟩
abbrev r69_1 : AI := o 13 (.ustr ty_u8 (.t 7) (.t 12)) (o 2 (m 13) .done)
abbrev r69_0 : AI := o 2 (.mov (ks [])) .done
abbrev r69_1q : List DIt := [d 3 (m 0), d 4 (.nilc (.t 3)), d 5 (fa 4 1), d 6 (l1 5), d 7 (.sdat (.t 6)), d 8 (m 0), d 9 (.nilc (.t 8)), d 10 (fa 9 1), d 11 (l1 10), d 12 (.len false (.t 11))]
abbrev strings_Builder_String_c_y : AC := sr r69_0 (.keepP [0] 0 0 [] (.seq (.draw r69_1q [] [] r69_1) (.keepP [2] 0 0 [] .ret)))
def strings_Builder_String_c : AC := strings_Builder_String_c_y
def strings_Builder_String_f : AFn := ⟨strings_Builder_String_c, [.t 2], 0, 0, []⟩
abbrev r42_10 : AI := o 2 (.mov (ks [])) .done
abbrev r42_3 : AI := o 2 (.mov (ks [117, 112, 112, 101, 97, 107])) .done
abbrev r42_5 : AI := o 2 (.mov (ks [108, 117, 110, 99, 104])) .done
abbrev r42_7 : AI := o 2 (.mov (ks [100, 111, 119, 110, 112, 101, 97, 107])) .done
abbrev r42_9 : AI := o 2 (.mov (ks [105, 110, 116, 101, 114, 102, 108, 111, 111, 114])) .done
abbrev r42_8 : AI := o 11 (bk .eql 3 4) (o 10 (m 11) .done)
abbrev r42_6 : AI := o 9 (bk .eql 3 3) (o 8 (m 9) .done)
abbrev r42_4 : AI := o 7 (bk .eql 3 2) (o 6 (m 7) .done)
abbrev r42_2 : AI := o 5 (bk .eql 3 1) (o 4 (m 5) .done)
abbrev r42_1 : AI := o 3 (m 0) .done
abbrev r42_0 : AI := o 2 (.mov (ks [])) .done
abbrev show_Template_c_y : AC := sr r42_0 (.keep [0] [] (.seq (sr r42_1 (.keep [3] [] (.block 0 (sr r42_2 (.keep [3, 4] [] (cd 4 (.keep [] [] (sr r42_3 (.keep [2] [] .ret))) (.keep [3] [] (sr r42_4 (.keep [3, 6] [] (cd 6 (.keep [] [] (sr r42_5 (.keep [2] [] .ret))) (.keep [3] [] (sr r42_6 (.keep [3, 8] [] (cd 8 (.keep [] [] (sr r42_7 (.keep [2] [] .ret))) (.keep [3] [] (sr r42_8 (.keep [10] [] (cd 10 (.keep [] [] (sr r42_9 (.keep [2] [] .ret))) .skip)))))))))))))))))) (.keep [] [] (sr r42_10 (.keep [2] [] .ret)))))
def show_Template_c : AC := show_Template_c_y
def show_Template_f : AFn := ⟨show_Template_c, [.t 2], 0, 0, []⟩
abbrev r44_10 : AI := o 2 (.mov (ks [])) .done
abbrev r44_3 : AI := o 2 (.mov (ks [99, 111, 108, 108, 101, 99, 116, 105, 118, 101])) .done
abbrev r44_5 : AI := o 2 (.mov (ks [115, 101, 99, 116, 111, 114, 115])) .done
abbrev r44_7 : AI := o 2 (.mov (ks [115, 111, 111, 110, 101, 115, 116])) .done
abbrev r44_9 : AI := o 2 (.mov (ks [100, 101, 115, 116, 105, 110, 97, 116, 105, 111, 110])) .done
abbrev r44_8 : AI := o 11 (bk .eql 3 4) (o 10 (m 11) .done)
abbrev r44_6 : AI := o 9 (bk .eql 3 3) (o 8 (m 9) .done)
abbrev r44_4 : AI := o 7 (bk .eql 3 2) (o 6 (m 7) .done)
abbrev r44_2 : AI := o 5 (bk .eql 3 1) (o 4 (m 5) .done)
abbrev r44_1 : AI := o 3 (m 0) .done
abbrev r44_0 : AI := o 2 (.mov (ks [])) .done
abbrev show_Dispatcher_c_y : AC := sr r44_0 (.keep [0] [] (.seq (sr r44_1 (.keep [3] [] (.block 0 (sr r44_2 (.keep [3, 4] [] (cd 4 (.keep [] [] (sr r44_3 (.keep [2] [] .ret))) (.keep [3] [] (sr r44_4 (.keep [3, 6] [] (cd 6 (.keep [] [] (sr r44_5 (.keep [2] [] .ret))) (.keep [3] [] (sr r44_6 (.keep [3, 8] [] (cd 8 (.keep [] [] (sr r44_7 (.keep [2] [] .ret))) (.keep [3] [] (sr r44_8 (.keep [10] [] (cd 10 (.keep [] [] (sr r44_9 (.keep [2] [] .ret))) .skip)))))))))))))))))) (.keep [] [] (sr r44_10 (.keep [2] [] .ret)))))
def show_Dispatcher_c : AC := show_Dispatcher_c_y
def show_Dispatcher_f : AFn := ⟨show_Dispatcher_c, [.t 2], 0, 0, []⟩
abbrev r70_13 : AI := o 38 (m 0) (o 39 (.callP 79 [.t 38, ks [10]]) .done)
abbrev r70_12 : AI := o 37 (bk .add 27 1) (o 27 (m 37) .done)
abbrev r70_11 : AI := o 33 (m 0) (o 34 (m 9) (o 35 (c1 50 34) (o 36 (.callP 79 [.t 33, .t 35]) .done)))
abbrev r70_10 : AI := o 31 (m 0) (o 32 (.callP 79 [.t 31, ks [32]]) .done)
abbrev r70_9 : AI := o 29 (ia 25 27 1) (o 30 (l1 29) (o 9 (m 30) .done))
abbrev r70_8 : AI := o 28 (b2 .lss 27 26) .done
abbrev r70_7 : AI := o 25 (m 2) (o 26 (le 25) (o 27 (.mov (ki 0)) .done))
abbrev r70_6 : AI := o 24 (bk .add 12 1) (o 12 (m 24) .done)
abbrev r70_5 : AI := o 21 (m 0) (o 22 (m 7) (o 23 (.callP 79 [.t 21, .t 22]) .done))
abbrev r70_4 : AI := o 19 (m 0) (o 20 (.callP 79 [.t 19, ks [32]]) .done)
abbrev r70_3 : AI := o 17 (m 6) (o 18 (bk .gtr 17 0) .done)
abbrev r70_2 : AI := o 14 (m 12) (o 15 (ia 10 12 1) (o 16 (l1 15) (o 6 (m 14) (o 7 (m 16) .done))))
abbrev r70_1 : AI := o 13 (b2 .lss 12 11) .done
abbrev r70_0 : AI := o 10 (m 1) (o 11 (le 10) (o 12 (.mov (ki 0)) .done))
abbrev show_line_l1b_y : AC := sr r70_8 (.keepP [0, 25, 26, 27, 28] 0 0 [] (.seq (cd 28 .skip (.keepP [0] 0 0 [] (.exit 2))) (.keepP [0, 25, 26, 27] 0 0 [] (.seq (.block 3 (sr r70_9 (.keepP [0, 9, 25, 26, 27] 0 0 [] (sr r70_10 (.keepP [0, 9, 25, 26, 27] 0 0 [] (rg r70_11)))))) (.keepP [0, 25, 26, 27] 0 0 [] (rg r70_12))))))
def show_line_l1b : AC := show_line_l1b_y
abbrev show_line_l1_y : AC := .keepP [0, 25, 26, 27] 0 0 [] (show_line_l1b)
def show_line_l1 : AC := show_line_l1_y
abbrev show_line_l2b_y : AC := sr r70_1 (.keepP [0, 2, 10, 11, 12, 13] 0 0 [] (.seq (cd 13 .skip (.keepP [0, 2] 0 0 [] (.exit 0))) (.keepP [0, 2, 10, 11, 12] 0 0 [] (.seq (.block 1 (sr r70_2 (.keepP [0, 2, 6, 7, 10, 11, 12] 0 0 [] (.seq (sr r70_3 (.keepP [0, 2, 7, 10, 11, 12, 18] 0 0 [] (cd 18 (.keepP [0, 2, 7, 10, 11, 12] 0 0 [] (rg r70_4)) .skip))) (.keepP [0, 2, 7, 10, 11, 12] 0 0 [] (rg r70_5)))))) (.keepP [0, 2, 10, 11, 12] 0 0 [] (rg r70_6))))))
def show_line_l2b : AC := show_line_l2b_y
abbrev show_line_l2_y : AC := .keepP [0, 2, 10, 11, 12] 0 0 [] (show_line_l2b)
def show_line_l2 : AC := show_line_l2_y
abbrev show_line_c_y : AC := .seq (sr r70_0 (.keepP [0, 2, 10, 11, 12] 0 0 [] (.block 0 (.loop show_line_l2)))) (.keepP [0, 2] 0 0 [] (.seq (sr r70_7 (.keepP [0, 25, 26, 27] 0 0 [] (.block 2 (.loop show_line_l1)))) (.keepP [0] 0 0 [] (rg r70_13))))
def show_line_c : AC := show_line_c_y
def show_line_f : AFn := ⟨show_line_c, [], 0, 0, []⟩
abbrev r48_16 : AI := o 73 (.callP 69 [.t 5]) (o 2 (m 73) (o 3 (.mov (ki 0)) .done))
abbrev r48_15 : AI := o 66 (.bsl 1 [.str []] 1 [(0, 1, (ks [98, 105, 110, 115]))]) (o 67 (fa 1 11) (o 68 (l1 67) (o 69 (fa 1 12) (o 70 (l1 69) (o 71 (.bsl 1 zd1 2 [(0, 1, (.t 68)), (1, 1, (.t 70))]) (o 72 (.callP 70 [.t 5, .t 66, .t 71]) .done))))))
abbrev r48_14 : AI := o 61 (.bsl 1 [.str []] 1 [(0, 1, (ks [104, 111, 114, 105, 122, 111, 110]))]) (o 62 (fa 1 10) (o 63 (l1 62) (o 64 (.bsl 1 zd1 1 [(0, 1, (.t 63))]) (o 65 (.callP 70 [.t 5, .t 61, .t 64]) .done))))
abbrev r48_13 : AI := o 56 (fa 1 9) (o 57 (l1 56) (o 58 (c1 44 57) (o 59 (.bsl 1 [.str []] 2 [(0, 1, (ks [100, 105, 115, 112, 97, 116, 99, 104, 101, 114])), (1, 1, (.t 58))]) (o 60 (.callP 70 [(.t 5), (.t 59), (.k (.nil 1))]) .done))))
abbrev r48_12 : AI := o 55 (bk .add 41 1) (o 41 (m 55) .done)
abbrev r48_11 : AI := o 54 (.callP 70 [.t 5, .t 48, .t 53]) .done
abbrev r48_10 : AI := o 43 (ia 39 41 3) (o 44 (ln 43 3) (o 7 (.alc 7 za3) (so 3 7 44 .done)))
abbrev r48_9 : AI := o 42 (b2 .lss 41 40) .done
abbrev r48_8 : AI := o 38 (fa 1 8) (o 39 (l1 38) (o 40 (le 39) (o 41 (.mov (ki 0)) .done)))
abbrev r48_7 : AI := o 27 (.bsl 1 [.str []] 1 [(0, 1, (ks [100, 111, 111, 114, 115]))]) (o 28 (fa 1 4) (o 29 (l1 28) (o 30 (fa 1 5) (o 31 (l1 30) (o 32 (fa 1 6) (o 33 (l1 32) (o 34 (fa 1 7) (o 35 (l1 34) (o 36 (.bsl 1 zd1 4 [(0, 1, (.t 29)), (1, 1, (.t 31)), (2, 1, (.t 33)), (3, 1, (.t 35))]) (o 37 (.callP 70 [.t 5, .t 27, .t 36]) .done))))))))))
abbrev r48_6 : AI := o 20 (.bsl 1 [.str []] 1 [(0, 1, (ks [99, 97, 114, 115]))]) (o 21 (fa 1 2) (o 22 (l1 21) (o 23 (fa 1 3) (o 24 (l1 23) (o 25 (.bsl 1 zd1 2 [(0, 1, (.t 22)), (1, 1, (.t 24))]) (o 26 (.callP 70 [.t 5, .t 20, .t 25]) .done))))))
abbrev r48_5 : AI := o 13 (.bsl 1 [.str []] 1 [(0, 1, (ks [98, 117, 105, 108, 100, 105, 110, 103]))]) (o 14 (fa 1 0) (o 15 (l1 14) (o 16 (fa 1 1) (o 17 (l1 16) (o 18 (.bsl 1 zd1 2 [(0, 1, (.t 15)), (1, 1, (.t 17))]) (o 19 (.callP 70 [.t 5, .t 13, .t 18]) .done))))))
abbrev r48_4 : AI := o 5 (.alc kt_show_Text_5 [.ot .np, .nil 1]) .done
abbrev r48_3 : AI := o 12 (m 4) (o 2 (.mov (ks [])) (o 3 (m 12) .done))
abbrev r48_2 : AI := o 10 (m 4) (o 11 (bk .neq 10 0) .done)
abbrev r48_1 : AI := o 8 (ln 1 13) (o 9 (c1 25 8) (o 4 (m 9) .done))
abbrev r48_0 : AI := o 1 (.box 1 (.t 0)) (o 2 (.mov (ks [])) (o 3 (.mov (ki 0)) .done))
abbrev r48_11q : List DIt := [d 45 (fa 7 0), d 46 (l1 45), d 47 (c1 42 46), d 48 (.bsl 1 [.str []] 2 [(0, 1, (ks [116, 114, 97, 102, 102, 105, 99])), (1, 1, (.t 47))]), d 49 (fa 7 1), d 50 (l1 49), d 51 (fa 7 2), d 52 (l1 51), d 53 (.bsl 1 zd1 2 [(0, 1, (.t 50)), (1, 1, (.t 52))])]
abbrev show_Text_l1b_y : AC := sr r48_9 (.keepP [1, 5, 39, 40, 41, 42] 0 1000 [1, kt_show_Text_5] (.seq (cd 42 .skip (.keepP [1, 5] 0 1000 [1, kt_show_Text_5] (.exit 0))) (.keepP [1, 5, 39, 40, 41] 0 1000 [1, kt_show_Text_5] (.seq (.block 1 (sr r48_10 (.keepP [1, 5, 7, 39, 40, 41] 0 1000 [1, kt_show_Text_5, 7] (.draw r48_11q [] [] r48_11)))) (.keepP [1, 5, 39, 40, 41] 0 1000 [1, kt_show_Text_5] (rg r48_12))))))
def show_Text_l1b : AC := show_Text_l1b_y
abbrev show_Text_l1_y : AC := .keepP [1, 5, 39, 40, 41] 0 1000 [1, kt_show_Text_5] (show_Text_l1b)
def show_Text_l1 : AC := show_Text_l1_y
abbrev show_Text_c_y : AC := sr r48_0 (.keepP [1] 0 1000 [1] (.seq (sr r48_1 (.keepP [1, 4] 0 1000 [1] (sr r48_2 (.keepP [1, 4, 11] 0 1000 [1] (cd 11 (.keepP [4] 0 1000 [] (sr r48_3 (.keepP [2, 3] 0 1000 [] .ret))) .skip))))) (.keepP [1] 0 1000 [1] (sr r48_4 (.keepP [1, 5] 0 1000 [1, kt_show_Text_5] (sr r48_5 (.keepP [1, 5] 0 1000 [1, kt_show_Text_5] (sr r48_6 (.keepP [1, 5] 0 1000 [1, kt_show_Text_5] (sr r48_7 (.keepP [1, 5] 0 1000 [1, kt_show_Text_5] (.seq (sr r48_8 (.keepP [1, 5, 39, 40, 41] 0 1000 [1, kt_show_Text_5] (.block 0 (.loop show_Text_l1)))) (.keepP [1, 5] 0 1000 [1, kt_show_Text_5] (sr r48_13 (.keepP [1, 5] 0 1000 [1, kt_show_Text_5] (sr r48_14 (.keepP [1, 5] 0 1000 [1, kt_show_Text_5] (sr r48_15 (.keepP [5] 0 1000 [kt_show_Text_5] (sr r48_16 (.keepP [2, 3] 0 1000 [] .ret)))))))))))))))))))))
def show_Text_c : AC := show_Text_c_y
def show_Text_f : AFn := ⟨show_Text_c, [.t 2, .t 3], 0, 0, []⟩
abbrev r43_4 : AI := o 11 (m 0) (o 12 (.iadA (.t 3) (.t 11) 5 1) (o 13 (l1 12) (o 2 (m 13) .done)))
abbrev r43_3 : AI := o 2 (.mov (ks [])) .done
abbrev r43_2 : AI := o 5 (m 0) (o 6 (bk .lss 5 1) (o 7 (m 6) (.scs 10 (.t 7) false (o 8 (m 0) (o 9 (bk .gtr 8 4) .done)) (.t 9) .done)))
abbrev r43_1 : AI := o 4 (.bld [.str [], .str [], .str [], .str [], .str []] [(0, 1, (ks [])), (1, 1, (ks [117, 112, 112, 101, 97, 107])), (2, 1, (ks [108, 117, 110, 99, 104])), (3, 1, (ks [100, 111, 119, 110, 112, 101, 97, 107])), (4, 1, (ks [105, 110, 116, 101, 114, 102, 108, 111, 111, 114]))]) (o 3 (.alc 3 [.c (.str []), .c (.str []), .c (.str []), .c (.str []), .c (.str [])]) (so 5 3 4 .done))
abbrev r43_0 : AI := o 2 (.mov (ks [])) .done
abbrev ref27_Template_c_y : AC := sr r43_0 (.keep [0] [] (sr r43_1 (.keep [0, 3] [3] (.seq (sr r43_2 (.keep [0, 3, 10] [3] (cd 10 (.keep [] [] (sr r43_3 (.keep [2] [] .ret))) .skip))) (.keep [0, 3] [3] (sr r43_4 (.keep [2] [] .ret)))))))
def ref27_Template_c : AC := ref27_Template_c_y
def ref27_Template_f : AFn := ⟨ref27_Template_c, [.t 2], 0, 0, []⟩
abbrev r45_4 : AI := o 11 (m 0) (o 12 (.iadA (.t 3) (.t 11) 5 1) (o 13 (l1 12) (o 2 (m 13) .done)))
abbrev r45_3 : AI := o 2 (.mov (ks [])) .done
abbrev r45_2 : AI := o 5 (m 0) (o 6 (bk .lss 5 1) (o 7 (m 6) (.scs 10 (.t 7) false (o 8 (m 0) (o 9 (bk .gtr 8 4) .done)) (.t 9) .done)))
abbrev r45_1 : AI := o 4 (.bld [.str [], .str [], .str [], .str [], .str []] [(0, 1, (ks [])), (1, 1, (ks [99, 111, 108, 108, 101, 99, 116, 105, 118, 101])), (2, 1, (ks [115, 101, 99, 116, 111, 114, 115])), (3, 1, (ks [115, 111, 111, 110, 101, 115, 116])), (4, 1, (ks [100, 101, 115, 116, 105, 110, 97, 116, 105, 111, 110]))]) (o 3 (.alc 3 [.c (.str []), .c (.str []), .c (.str []), .c (.str []), .c (.str [])]) (so 5 3 4 .done))
abbrev r45_0 : AI := o 2 (.mov (ks [])) .done
abbrev ref27_Dispatcher_c_y : AC := sr r45_0 (.keep [0] [] (sr r45_1 (.keep [0, 3] [3] (.seq (sr r45_2 (.keep [0, 3, 10] [3] (cd 10 (.keep [] [] (sr r45_3 (.keep [2] [] .ret))) .skip))) (.keep [0, 3] [3] (sr r45_4 (.keep [2] [] .ret)))))))
def ref27_Dispatcher_c : AC := ref27_Dispatcher_c_y
def ref27_Dispatcher_f : AFn := ⟨ref27_Dispatcher_c, [.t 2], 0, 0, []⟩
abbrev r71_5 : AI := o 20 (m 0) (o 21 (.bin .add (.t 20) (ks [10])) (o 4 (m 21) .done))
abbrev r71_3 : AI := o 10 (m 5) (o 11 (bk .add 10 1) (o 5 (m 11) .done))
abbrev r71_4 : AI := o 12 (m 0) (o 13 (m 1) (o 14 (m 5) (o 15 (ia 13 14 1) (o 16 (l1 15) (o 17 (c1 6 16) (o 18 (.bin .add (ks [32]) (.t 17)) (o 19 (b2 .add 12 18) (o 0 (m 19) .done))))))))
abbrev r71_2 : AI := o 6 (m 5) (o 7 (m 1) (o 8 (le 7) (o 9 (b2 .lss 6 8) .done)))
abbrev r71_1 : AI := o 5 (.mov (ki 0)) .done
abbrev r71_0 : AI := o 4 (.mov (ks [])) .done
abbrev ref27_line_l1b_y : AC := .seq (sr r71_2 (.keep [0, 1, 5, 9] [] (cd 9 .skip (.keep [0] [] (.exit 0))))) (.keep [0, 1, 5] [] (.seq (.block 1 (rg r71_4)) (.keep [0, 1, 5] [] (rg r71_3))))
def ref27_line_l1b : AC := ref27_line_l1b_y
abbrev ref27_line_l1_y : AC := .keep [0, 1, 5] [] (ref27_line_l1b)
def ref27_line_l1 : AC := ref27_line_l1_y
abbrev ref27_line_c_y : AC := sr r71_0 (.keep [0, 1] [] (.seq (sr r71_1 (.keep [0, 1, 5] [] (.block 0 (.loop ref27_line_l1)))) (.keep [0] [] (sr r71_5 (.keep [4] [] .ret)))))
def ref27_line_c : AC := ref27_line_c_y
def ref27_line_f : AFn := ⟨ref27_line_c, [.t 4], 0, 0, []⟩
abbrev r47_9 : AI := o 85 (b2 .add 78 84) (o 2 (m 85) (o 3 (.mov (ki 0)) .done))
abbrev r47_7 : AI := o 41 (m 6) (o 42 (bk .add 41 1) (o 6 (m 42) .done))
abbrev r47_8 : AI := o 66 (b2 .add 43 65) (o 5 (m 66) .done)
abbrev r47_6 : AI := o 36 (m 6) (o 37 (fa 1 8) (o 38 (l1 37) (o 39 (le 38) (o 40 (b2 .lss 36 39) .done))))
abbrev r47_5 : AI := o 6 (.mov (ki 0)) .done
abbrev r47_4 : AI := o 35 (b2 .add 24 34) (o 5 (m 35) .done)
abbrev r47_3 : AI := o 11 (m 4) (o 2 (.mov (ks [])) (o 3 (m 11) .done))
abbrev r47_2 : AI := o 9 (m 4) (o 10 (bk .neq 9 0) .done)
abbrev r47_1 : AI := o 7 (ln 1 13) (o 8 (c1 26 7) (o 4 (m 8) .done))
abbrev r47_0 : AI := o 1 (.box 1 (.t 0)) (o 2 (.mov (ks [])) (o 3 (.mov (ki 0)) .done))
abbrev r47_9q : List DIt := [d 67 (m 5), d 68 (fa 1 9), d 69 (l1 68), d 70 (c1 45 69), d 71 (.bin .add (ks [100, 105, 115, 112, 97, 116, 99, 104, 101, 114, 32]) (.t 70)), d 72 (.call 71 [(.t 71), (.k (.nil 1))]), d 73 (.bin .add (.t 67) (.t 72)), d 74 (fa 1 10), d 75 (l1 74), d 76 (.bsl 1 zd1 1 [(0, 1, (.t 75))]), d 77 (.call 71 [(ks [104, 111, 114, 105, 122, 111, 110]), (.t 76)]), d 78 (.bin .add (.t 73) (.t 77)), d 79 (fa 1 11), d 80 (l1 79), d 81 (fa 1 12), d 82 (l1 81), d 83 (.bsl 1 zd1 2 [(0, 1, (.t 80)), (1, 1, (.t 82))]), d 84 (.call 71 [(ks [98, 105, 110, 115]), (.t 83)])]
abbrev r47_8q : List DIt := [d 43 (m 5), d 44 (fa 1 8), d 45 (l1 44), d 46 (m 6), d 47 (ia 45 46 3), d 48 (fa 47 0), d 49 (l1 48), d 50 (c1 43 49), d 51 (.bin .add (ks [116, 114, 97, 102, 102, 105, 99, 32]) (.t 50)), d 52 (fa 1 8), d 53 (l1 52), d 54 (m 6), d 55 (ia 53 54 3), d 56 (fa 55 1), d 57 (l1 56), d 58 (fa 1 8), d 59 (l1 58), d 60 (m 6), d 61 (ia 59 60 3), d 62 (fa 61 2), d 63 (l1 62), d 64 (.bsl 1 zd1 2 [(0, 1, (.t 57)), (1, 1, (.t 63))]), d 65 (c2 71 51 64)]
abbrev r47_4q : List DIt := [d 12 (fa 1 0), d 13 (l1 12), d 14 (fa 1 1), d 15 (l1 14), d 16 (.bsl 1 zd1 2 [(0, 1, (.t 13)), (1, 1, (.t 15))]), d 17 (.call 71 [(ks [98, 117, 105, 108, 100, 105, 110, 103]), (.t 16)]), d 18 (fa 1 2), d 19 (l1 18), d 20 (fa 1 3), d 21 (l1 20), d 22 (.bsl 1 zd1 2 [(0, 1, (.t 19)), (1, 1, (.t 21))]), d 23 (.call 71 [(ks [99, 97, 114, 115]), (.t 22)]), d 24 (.bin .add (.t 17) (.t 23)), d 25 (fa 1 4), d 26 (l1 25), d 27 (fa 1 5), d 28 (l1 27), d 29 (fa 1 6), d 30 (l1 29), d 31 (fa 1 7), d 32 (l1 31), d 33 (.bsl 1 zd1 4 [(0, 1, (.t 26)), (1, 1, (.t 28)), (2, 1, (.t 30)), (3, 1, (.t 32))]), d 34 (.call 71 [(ks [100, 111, 111, 114, 115]), (.t 33)])]
abbrev ref27_Text_l1b_y : AC := .seq (sr r47_6 (.keep [1, 5, 6, 40] [1] (cd 40 .skip (.keep [1, 5] [1] (.exit 0))))) (.keep [1, 5, 6] [1] (.seq (.block 1 (.draw r47_8q [] [] r47_8)) (.keep [1, 5, 6] [1] (rg r47_7))))
def ref27_Text_l1b : AC := ref27_Text_l1b_y
abbrev ref27_Text_l1_y : AC := .keep [1, 5, 6] [1] (ref27_Text_l1b)
def ref27_Text_l1 : AC := ref27_Text_l1_y
abbrev ref27_Text_c_y : AC := sr r47_0 (.keep [1] [1] (sr r47_1 (.keep [1, 4] [1] (.seq (sr r47_2 (.keep [1, 4, 10] [1] (cd 10 (.keep [4] [] (sr r47_3 (.keep [2, 3] [] .ret))) .skip))) (.keep [1] [1] (.seq (.draw r47_4q [] [] r47_4) (.keep [1, 5] [1] (.seq (sr r47_5 (.keep [1, 5, 6] [1] (.block 0 (.loop ref27_Text_l1)))) (.keep [1, 5] [1] (.seq (.draw r47_9q [] [] r47_9) (.keep [2, 3] [] .ret)))))))))))
def ref27_Text_c : AC := ref27_Text_c_y
def ref27_Text_f : AFn := ⟨ref27_Text_c, [.t 2, .t 3], 0, 0, []⟩
theorem strings_Builder_copyCheck_c_x (Γ : Env) (N : Nat) (s : St) : exec Γ N strings_Builder_copyCheck_c s = exec Γ N strings_Builder_copyCheck_c_y s := rfl
theorem strings_Builder_WriteString_c_x (Γ : Env) (N : Nat) (s : St) : exec Γ N strings_Builder_WriteString_c s = exec Γ N strings_Builder_WriteString_c_y s := rfl
theorem strings_Builder_String_c_x (Γ : Env) (N : Nat) (s : St) : exec Γ N strings_Builder_String_c s = exec Γ N strings_Builder_String_c_y s := rfl
theorem show_Template_c_x (Γ : Env) (N : Nat) (s : St) : exec Γ N show_Template_c s = exec Γ N show_Template_c_y s := rfl
theorem show_Dispatcher_c_x (Γ : Env) (N : Nat) (s : St) : exec Γ N show_Dispatcher_c s = exec Γ N show_Dispatcher_c_y s := rfl
theorem show_line_l1b_x (Γ : Env) (N : Nat) (s : St) : exec Γ N show_line_l1b s = exec Γ N show_line_l1b_y s := rfl
theorem show_line_l1_x (Γ : Env) (N : Nat) (s : St) : exec Γ N show_line_l1 s = exec Γ N show_line_l1_y s := rfl
theorem show_line_l2b_x (Γ : Env) (N : Nat) (s : St) : exec Γ N show_line_l2b s = exec Γ N show_line_l2b_y s := rfl
theorem show_line_l2_x (Γ : Env) (N : Nat) (s : St) : exec Γ N show_line_l2 s = exec Γ N show_line_l2_y s := rfl
theorem show_line_c_x (Γ : Env) (N : Nat) (s : St) : exec Γ N show_line_c s = exec Γ N show_line_c_y s := rfl
theorem show_Text_l1b_x (Γ : Env) (N : Nat) (s : St) : exec Γ N show_Text_l1b s = exec Γ N show_Text_l1b_y s := rfl
theorem show_Text_l1_x (Γ : Env) (N : Nat) (s : St) : exec Γ N show_Text_l1 s = exec Γ N show_Text_l1_y s := rfl
theorem show_Text_c_x (Γ : Env) (N : Nat) (s : St) : exec Γ N show_Text_c s = exec Γ N show_Text_c_y s := rfl
theorem ref27_Template_c_x (Γ : Env) (N : Nat) (s : St) : exec Γ N ref27_Template_c s = exec Γ N ref27_Template_c_y s := rfl
theorem ref27_Dispatcher_c_x (Γ : Env) (N : Nat) (s : St) : exec Γ N ref27_Dispatcher_c s = exec Γ N ref27_Dispatcher_c_y s := rfl
theorem ref27_line_l1b_x (Γ : Env) (N : Nat) (s : St) : exec Γ N ref27_line_l1b s = exec Γ N ref27_line_l1b_y s := rfl
theorem ref27_line_l1_x (Γ : Env) (N : Nat) (s : St) : exec Γ N ref27_line_l1 s = exec Γ N ref27_line_l1_y s := rfl
theorem ref27_line_c_x (Γ : Env) (N : Nat) (s : St) : exec Γ N ref27_line_c s = exec Γ N ref27_line_c_y s := rfl
theorem ref27_Text_l1b_x (Γ : Env) (N : Nat) (s : St) : exec Γ N ref27_Text_l1b s = exec Γ N ref27_Text_l1b_y s := rfl
theorem ref27_Text_l1_x (Γ : Env) (N : Nat) (s : St) : exec Γ N ref27_Text_l1 s = exec Γ N ref27_Text_l1_y s := rfl
theorem ref27_Text_c_x (Γ : Env) (N : Nat) (s : St) : exec Γ N ref27_Text_c s = exec Γ N ref27_Text_c_y s := rfl
attribute [simp] strings_Builder_copyCheck_c_y strings_Builder_WriteString_c_y strings_Builder_String_c_y show_Template_c_y show_Dispatcher_c_y show_line_l1b_y show_line_l1_y show_line_l2b_y show_line_l2_y show_line_c_y show_Text_l1b_y show_Text_l1_y show_Text_c_y ref27_Template_c_y ref27_Dispatcher_c_y ref27_line_l1b_y ref27_line_l1_y ref27_line_c_y ref27_Text_l1b_y ref27_Text_l1_y ref27_Text_c_y
attribute [simp] strings_Builder_copyCheck_c_x strings_Builder_copyCheck_f strings_Builder_WriteString_c_x strings_Builder_WriteString_f strings_Builder_String_c_x strings_Builder_String_f show_Template_c_x show_Template_f show_Dispatcher_c_x show_Dispatcher_f show_line_l1b_x show_line_l2b_x show_line_c_x show_line_f show_Text_l1b_x show_Text_c_x show_Text_f ref27_Template_c_x ref27_Template_f ref27_Dispatcher_c_x ref27_Dispatcher_f ref27_line_l1b_x ref27_line_c_x ref27_line_f ref27_Text_l1b_x ref27_Text_c_x ref27_Text_f
end Go.Am
namespace Go.Am
open Cx
@[simp] abbrev kt_cols_Line_5 : Nat := 1254378597012249509893
@[simp] abbrev kt_cols_Text_4 : Nat := 1254378597012249509892
abbrev r192_7 : AI := o 22 (m 5) (o 23 (m 0) (o 24 (.app 24 1 1 (.t 22) (.t 23)) (o 25 (.conv .toStr (.t 24)) (o 4 (m 25) .done))))
abbrev r192_6 : AI := o 21 (bk .add 16 1) (o 16 (m 21) .done)
abbrev r192_5 : AI := o 18 (m 5) (o 19 (.bsl 1 [.int .u8 0] 1 [(0, 1, (.k (.c (.int .u8 32))))]) (o 20 (.app 20 1 1 (.t 18) (.t 19)) (o 5 (m 20) .done)))
abbrev r192_4 : AI := o 17 (b2 .lss 16 15) .done
abbrev r192_3 : AI := o 12 (m 1) (o 13 (m 0) (o 14 (.len true (.t 13)) (o 15 (b2 .sub 12 14) (o 16 (.mov (ki 0)) .done))))
abbrev r192_2 : AI := o 9 (m 0) (o 10 (.len true (.t 9)) (o 11 (.mks 11 1 [.c (.int .u8 0)] (ki 0) (.t 10)) (o 5 (m 11) .done)))
abbrev r192_1 : AI := o 6 (m 1) (o 7 (.mx (.t 6) [.k (.c (.int .i64 0))]) (o 8 (.mn (.t 7) [.k (.c (.int .i64 65536))]) (o 1 (m 8) .done)))
abbrev r192_0 : AI := o 4 (.mov (ks [])) .done
abbrev digits_Pad_l1b_y : AC := sr r192_4 (.keep [0, 5, 15, 16, 17] [5, 11, 20] (.seq (cd 17 .skip (.keep [0, 5] [5, 11, 20] (.exit 0))) (.keep [0, 5, 15, 16] [5, 11, 20] (.seq (.block 1 (rg r192_5)) (.keep [0, 5, 15, 16] [5, 11, 20] (rg r192_6))))))
def digits_Pad_l1b : AC := digits_Pad_l1b_y
abbrev digits_Pad_l1_y : AC := .keep [0, 5, 15, 16] [5, 11, 20] (digits_Pad_l1b)
def digits_Pad_l1 : AC := digits_Pad_l1_y
abbrev digits_Pad_c_y : AC := sr r192_0 (.keep [0, 1] [] (sr r192_1 (.keep [0, 1] [] (sr r192_2 (.keep [0, 1, 5] [5, 11, 20] (.seq (sr r192_3 (.keep [0, 5, 15, 16] [5, 11, 20] (.block 0 (.loop digits_Pad_l1)))) (.keep [0, 5] [5, 11, 20] (sr r192_7 (.keep [4] [5, 11, 20, 24] .ret)))))))))
def digits_Pad_c : AC := digits_Pad_c_y
def digits_Pad_f : AFn := ⟨digits_Pad_c, [.t 4], 0, 0, []⟩
abbrev r197_3 : AI := o 22 (m 0) (o 4 (m 22) .done)
abbrev r197_2 : AI := o 17 (m 0) (o 18 (m 0) (o 19 (.len true (.t 18)) (o 20 (bk .sub 19 1) (o 21 (.ssl (.t 17) none (some (.t 20))) (o 0 (m 21) .done)))))
abbrev r197_1 : AI := o 5 (m 0) (o 6 (.len true (.t 5)) (o 7 (bk .gtr 6 0) (o 8 (m 7) (.sc 16 (.t 8) true (o 9 (m 0) (o 10 (m 0) (o 11 (.len true (.t 10)) (o 12 (bk .sub 11 1) (o 13 (.sidx (.t 9) (.t 12)) (o 14 (m 1) (o 15 (b2 .eql 13 14) .done))))))) (.t 15) .done))))
abbrev r197_0 : AI := o 4 (.mov (ks [])) .done
abbrev strings_trimRightByte_l1b_y : AC := .seq (sr r197_1 (.keep [0, 1, 16] [] (cd 16 .skip (.keep [0] [] (.exit 0))))) (.keep [0, 1] [] (.block 1 (rg r197_2)))
def strings_trimRightByte_l1b : AC := strings_trimRightByte_l1b_y
abbrev strings_trimRightByte_l1_y : AC := .keep [0, 1] [] (strings_trimRightByte_l1b)
def strings_trimRightByte_l1 : AC := strings_trimRightByte_l1_y
abbrev strings_trimRightByte_c_y : AC := sr r197_0 (.keep [0, 1] [] (.seq (.block 0 (.loop strings_trimRightByte_l1)) (.keep [0] [] (sr r197_3 (.keep [4] [] .ret)))))
def strings_trimRightByte_c : AC := strings_trimRightByte_c_y
def strings_trimRightByte_f : AFn := ⟨strings_trimRightByte_c, [.t 4], 0, 0, []⟩
abbrev r191_8 : AI := o 34 (m 0) (o 35 (m 1) (o 36 (c2 194 34 35) (o 4 (m 36) .done)))
abbrev r191_7 : AI := o 32 (m 0) (o 33 (.callP 195 [.t 32, .t 5]) (o 4 (m 33) .done))
abbrev r191_6 : AI := o 31 (m 6) .done
abbrev r191_5 : AI := o 27 (m 1) (o 28 (c1 196 27) (o 26 (m 28) (o 29 (ex 26 0) (o 30 (ex 26 1) (o 5 (.alc 5 [.c (.bool false), .c (.bool false), .c (.bool false), .c (.bool false), .c (.bool false), .c (.bool false), .c (.bool false), .c (.bool false), .c (.bool false), .c (.bool false), .c (.bool false), .c (.bool false), .c (.bool false), .c (.bool false), .c (.bool false), .c (.bool false), .c (.bool false), .c (.bool false), .c (.bool false), .c (.bool false), .c (.bool false), .c (.bool false), .c (.bool false), .c (.bool false), .c (.bool false), .c (.bool false), .c (.bool false), .c (.bool false), .c (.bool false), .c (.bool false), .c (.bool false), .c (.bool false), .c (.bool false), .c (.bool false), .c (.bool false), .c (.bool false), .c (.bool false), .c (.bool false), .c (.bool false), .c (.bool false), .c (.bool false), .c (.bool false), .c (.bool false), .c (.bool false), .c (.bool false), .c (.bool false), .c (.bool false), .c (.bool false), .c (.bool false), .c (.bool false), .c (.bool false), .c (.bool false), .c (.bool false), .c (.bool false), .c (.bool false), .c (.bool false), .c (.bool false), .c (.bool false), .c (.bool false), .c (.bool false), .c (.bool false), .c (.bool false), .c (.bool false), .c (.bool false), .c (.bool false), .c (.bool false), .c (.bool false), .c (.bool false), .c (.bool false), .c (.bool false), .c (.bool false), .c (.bool false), .c (.bool false), .c (.bool false), .c (.bool false), .c (.bool false), .c (.bool false), .c (.bool false), .c (.bool false), .c (.bool false), .c (.bool false), .c (.bool false), .c (.bool false), .c (.bool false), .c (.bool false), .c (.bool false), .c (.bool false), .c (.bool false), .c (.bool false), .c (.bool false), .c (.bool false), .c (.bool false), .c (.bool false), .c (.bool false), .c (.bool false), .c (.bool false), .c (.bool false), .c (.bool false), .c (.bool false), .c (.bool false), .c (.bool false), .c (.bool false), .c (.bool false), .c (.bool false), .c (.bool false), .c (.bool false), .c (.bool false), .c (.bool false), .c (.bool false), .c (.bool false), .c (.bool false), .c (.bool false), .c (.bool false), .c (.bool false), .c (.bool false), .c (.bool false), .c (.bool false), .c (.bool false), .c (.bool false), .c (.bool false), .c (.bool false), .c (.bool false), .c (.bool false), .c (.bool false), .c (.bool false), .c (.bool false), .c (.bool false), .c (.bool false), .c (.bool false), .c (.bool false), .c (.bool false), .c (.bool false), .c (.bool false), .c (.bool false), .c (.bool false), .c (.bool false), .c (.bool false), .c (.bool false), .c (.bool false), .c (.bool false), .c (.bool false), .c (.bool false), .c (.bool false), .c (.bool false), .c (.bool false), .c (.bool false), .c (.bool false), .c (.bool false), .c (.bool false), .c (.bool false), .c (.bool false), .c (.bool false), .c (.bool false), .c (.bool false), .c (.bool false), .c (.bool false), .c (.bool false), .c (.bool false), .c (.bool false), .c (.bool false), .c (.bool false), .c (.bool false), .c (.bool false), .c (.bool false), .c (.bool false), .c (.bool false), .c (.bool false), .c (.bool false), .c (.bool false), .c (.bool false), .c (.bool false), .c (.bool false), .c (.bool false), .c (.bool false), .c (.bool false), .c (.bool false), .c (.bool false), .c (.bool false), .c (.bool false), .c (.bool false), .c (.bool false), .c (.bool false), .c (.bool false), .c (.bool false), .c (.bool false), .c (.bool false), .c (.bool false), .c (.bool false), .c (.bool false), .c (.bool false), .c (.bool false), .c (.bool false), .c (.bool false), .c (.bool false), .c (.bool false), .c (.bool false), .c (.bool false), .c (.bool false), .c (.bool false), .c (.bool false), .c (.bool false), .c (.bool false), .c (.bool false), .c (.bool false), .c (.bool false), .c (.bool false), .c (.bool false), .c (.bool false), .c (.bool false), .c (.bool false), .c (.bool false), .c (.bool false), .c (.bool false), .c (.bool false), .c (.bool false), .c (.bool false), .c (.bool false), .c (.bool false), .c (.bool false), .c (.bool false), .c (.bool false), .c (.bool false), .c (.bool false), .c (.bool false), .c (.bool false), .c (.bool false), .c (.bool false), .c (.bool false), .c (.bool false), .c (.bool false), .c (.bool false), .c (.bool false), .c (.bool false), .c (.bool false), .c (.bool false), .c (.bool false), .c (.bool false), .c (.bool false), .c (.bool false), .c (.bool false), .c (.bool false), .c (.bool false), .c (.bool false), .c (.bool false), .c (.bool false), .c (.bool false), .c (.bool false), .c (.bool false), .c (.bool false), .c (.bool false), .c (.bool false), .c (.bool false), .c (.bool false), .c (.bool false), .c (.bool false), .c (.bool false)]) (so 256 5 29 (o 6 (m 30) .done)))))))
abbrev r191_4 : AI := o 22 (m 0) (o 23 (m 1) (o 24 (.sidx (.t 23) (ki 0)) (o 25 (c2 197 22 24) (o 4 (m 25) .done))))
abbrev r191_3 : AI := o 14 (m 1) (o 15 (.len true (.t 14)) (o 16 (bk .eql 15 1) (o 17 (m 16) (.sc 21 (.t 17) true (o 18 (m 1) (o 19 (.sidx (.t 18) (ki 0)) (o 20 (.bin .lss (.t 19) (.k (.c (.int .u8 128)))) .done))) (.t 20) .done))))
abbrev r191_2 : AI := o 13 (m 0) (o 4 (m 13) .done)
abbrev r191_1 : AI := o 7 (m 0) (o 8 (.bin .eql (.t 7) (ks [])) (o 9 (m 8) (.scs 12 (.t 9) false (o 10 (m 1) (o 11 (.bin .eql (.t 10) (ks [])) .done)) (.t 11) .done)))
abbrev r191_0 : AI := o 4 (.mov (ks [])) .done
abbrev strings_TrimRight_c_y : AC := sr r191_0 (.keepP [0, 1] 0 1000 [] (.seq (sr r191_1 (.keepP [0, 1, 12] 0 1000 [] (cd 12 (.keepP [0] 0 1000 [] (sr r191_2 (.keepP [4] 0 1000 [] .ret))) .skip))) (.keepP [0, 1] 0 1000 [] (.seq (sr r191_3 (.keepP [0, 1, 21] 0 1000 [] (cd 21 (.keepP [0, 1] 0 1000 [] (sr r191_4 (.keepP [4] 0 1000 [] .ret))) .skip))) (.keepP [0, 1] 0 1000 [] (.seq (sr r191_5 (.keepP [0, 1, 5, 6] 0 1000 [5] (sr r191_6 (.keepP [0, 1, 5, 31] 0 1000 [5] (cd 31 (.keepP [0, 5] 0 1000 [5] (sr r191_7 (.keepP [4] 0 1000 [] .ret))) .skip))))) (.keepP [0, 1] 0 1000 [] (sr r191_8 (.keepP [4] 0 1000 [] .ret)))))))))
def strings_TrimRight_c : AC := strings_TrimRight_c_y
def strings_TrimRight_f : AFn := ⟨strings_TrimRight_c, [.t 4], 0, 0, []⟩
abbrev r181_13 : AI := o 40 (m 3) (o 2 (m 40) .done)
abbrev r181_12 : AI := o 39 (bk .add 10 1) (o 10 (m 39) .done)
abbrev r181_11 : AI := o 38 (bk .add 16 1) (o 16 (m 38) .done)
abbrev r181_10 : AI := o 28 (m 3) (o 29 (m 6) (o 30 (m 3) (o 31 (m 6) (o 32 (ia 30 31 1) (o 33 (l1 32) (o 34 (m 7) (o 35 (.len true (.t 34)) (o 36 (.mx (.t 33) [.t 35]) (o 37 (ia 28 29 1) (so 1 37 36 .done))))))))))
abbrev r181_9 : AI := o 25 (m 3) (o 26 (.bsl 1 zd1 1 [(0, 1, (ki 0))]) (o 27 (.app 27 1 8 (.t 25) (.t 26)) (o 3 (m 27) .done)))
abbrev r181_8 : AI := o 21 (m 6) (o 22 (m 3) (o 23 (le 22) (o 24 (b2 .eql 21 23) .done)))
abbrev r181_7 : AI := o 18 (m 16) (o 19 (ia 14 16 1) (o 20 (l1 19) (o 6 (m 18) (o 7 (m 20) .done))))
abbrev r181_6 : AI := o 17 (b2 .lss 16 15) .done
abbrev r181_5 : AI := o 14 (m 5) (o 15 (le 14) (o 16 (.mov (ki 0)) .done))
abbrev r181_4 : AI := o 12 (ia 8 10 1) (o 13 (l1 12) (o 5 (m 13) .done))
abbrev r181_3 : AI := o 11 (b2 .lss 10 9) .done
abbrev r181_2 : AI := o 8 (m 0) (o 9 (le 8) (o 10 (.mov (ki 0)) .done))
abbrev r181_1 : AI := o 3 (.mov (.k (.nil 1))) .done
abbrev r181_0 : AI := o 2 (.mov (.k (.nil 1))) .done
abbrev cols_Widths_l1b_y : AC := sr r181_6 (.keep [3, 8, 9, 10, 14, 15, 16, 17] [3, 27] (.seq (cd 17 .skip (.keep [3, 8, 9, 10] [3, 27] (.exit 2))) (.keep [3, 8, 9, 10, 14, 15, 16] [3, 27] (.seq (.block 3 (sr r181_7 (.keep [3, 6, 7, 8, 9, 10, 14, 15, 16] [3, 27] (.seq (sr r181_8 (.keep [3, 6, 7, 8, 9, 10, 14, 15, 16, 24] [3, 27] (cd 24 (.keep [3, 6, 7, 8, 9, 10, 14, 15, 16] [3, 27] (rg r181_9)) .skip))) (.keep [3, 6, 7, 8, 9, 10, 14, 15, 16] [3, 27] (rg r181_10)))))) (.keep [3, 8, 9, 10, 14, 15, 16] [3, 27] (rg r181_11))))))
def cols_Widths_l1b : AC := cols_Widths_l1b_y
abbrev cols_Widths_l1_y : AC := .keep [3, 8, 9, 10, 14, 15, 16] [3, 27] (cols_Widths_l1b)
def cols_Widths_l1 : AC := cols_Widths_l1_y
abbrev cols_Widths_l2b_y : AC := sr r181_3 (.keep [3, 8, 9, 10, 11] [3, 27] (.seq (cd 11 .skip (.keep [3] [3, 27] (.exit 0))) (.keep [3, 8, 9, 10] [3, 27] (.seq (.block 1 (sr r181_4 (.keep [3, 5, 8, 9, 10] [3, 27] (sr r181_5 (.keep [3, 8, 9, 10, 14, 15, 16] [3, 27] (.block 2 (.loop cols_Widths_l1))))))) (.keep [3, 8, 9, 10] [3, 27] (rg r181_12))))))
def cols_Widths_l2b : AC := cols_Widths_l2b_y
abbrev cols_Widths_l2_y : AC := .keep [3, 8, 9, 10] [3, 27] (cols_Widths_l2b)
def cols_Widths_l2 : AC := cols_Widths_l2_y
abbrev cols_Widths_c_y : AC := sr r181_0 (.keep [0] [] (sr r181_1 (.keep [0, 3] [3, 27] (.own 3 3 (.seq (sr r181_2 (.keep [3, 8, 9, 10] [3, 27] (.block 0 (.loop cols_Widths_l2)))) (.keep [3] [3, 27] (sr r181_13 (.keep [2] [3, 27] .ret))))))))
def cols_Widths_c : AC := cols_Widths_c_y
def cols_Widths_f : AFn := ⟨cols_Widths_c, [.t 2], 0, 0, []⟩
abbrev r187_14 : AI := o 40 (.callP 69 [.t 5]) (o 41 (.call 191 [.t 40, ks [32]]) (o 4 (m 41) .done))
abbrev r187_13 : AI := o 39 (bk .add 11 1) (o 11 (m 39) .done)
abbrev r187_12 : AI := o 33 (m 8) (o 34 (m 7) (o 35 (.len true (.t 34)) (o 36 (b2 .sub 33 35) (o 37 (.call 192 [ks [], .t 36]) (o 38 (.callP 79 [.t 5, .t 37]) .done)))))
abbrev r187_11 : AI := o 31 (m 7) (o 32 (.callP 79 [.t 5, .t 31]) .done)
abbrev r187_10 : AI := o 27 (m 7) (o 28 (m 8) (o 29 (c2 192 27 28) (o 30 (.callP 79 [.t 5, .t 29]) .done)))
abbrev r187_9 : AI := o 26 (.callP 79 [(.t 5), (ks [32, 32])]) .done
abbrev r187_8 : AI := o 24 (m 6) (o 25 (bk .gtr 24 0) .done)
abbrev r187_7 : AI := o 20 (m 0) (o 21 (m 6) (o 22 (ia 20 21 1) (o 23 (l1 22) (o 8 (m 23) .done))))
abbrev r187_6 : AI := o 16 (m 6) (o 17 (m 0) (o 18 (le 17) (o 19 (b2 .lss 16 18) .done)))
abbrev r187_5 : AI := o 8 (.mov (ki 0)) .done
abbrev r187_4 : AI := o 13 (m 11) (o 14 (ia 9 11 1) (o 15 (l1 14) (o 6 (m 13) (o 7 (m 15) .done))))
abbrev r187_3 : AI := o 12 (b2 .lss 11 10) .done
abbrev r187_2 : AI := o 9 (m 1) (o 10 (le 9) (o 11 (.mov (ki 0)) .done))
abbrev r187_1 : AI := o 5 (.alc kt_cols_Line_5 [.ot .np, .nil 1]) .done
abbrev r187_0 : AI := o 4 (.mov (ks [])) .done
abbrev cols_Line_l1b_y : AC := sr r187_3 (.keepP [0, 5, 9, 10, 11, 12] 0 1000 [kt_cols_Line_5] (.seq (cd 12 .skip (.keepP [5] 0 1000 [kt_cols_Line_5] (.exit 0))) (.keepP [0, 5, 9, 10, 11] 0 1000 [kt_cols_Line_5] (.seq (.block 1 (sr r187_4 (.keepP [0, 5, 6, 7, 9, 10, 11] 0 1000 [kt_cols_Line_5] (sr r187_5 (.keepP [0, 5, 6, 7, 8, 9, 10, 11] 0 1000 [kt_cols_Line_5] (.seq (sr r187_6 (.keepP [0, 5, 6, 7, 8, 9, 10, 11, 19] 0 1000 [kt_cols_Line_5] (cd 19 (.keepP [0, 5, 6, 7, 9, 10, 11] 0 1000 [kt_cols_Line_5] (rg r187_7)) .skip))) (.keepP [0, 5, 6, 7, 8, 9, 10, 11] 0 1000 [kt_cols_Line_5] (.seq (sr r187_8 (.keepP [0, 5, 7, 8, 9, 10, 11, 25] 0 1000 [kt_cols_Line_5] (cd 25 (.keepP [0, 5, 7, 8, 9, 10, 11] 0 1000 [kt_cols_Line_5] (sr r187_9 (.keepP [0, 5, 7, 8, 9, 10, 11] 0 1000 [kt_cols_Line_5] (sr r187_10 (.keepP [0, 5, 9, 10, 11] 0 1000 [kt_cols_Line_5] (.exit 1)))))) .skip))) (.keepP [0, 5, 7, 8, 9, 10, 11] 0 1000 [kt_cols_Line_5] (sr r187_11 (.keepP [0, 5, 7, 8, 9, 10, 11] 0 1000 [kt_cols_Line_5] (rg r187_12)))))))))))) (.keepP [0, 5, 9, 10, 11] 0 1000 [kt_cols_Line_5] (rg r187_13))))))
def cols_Line_l1b : AC := cols_Line_l1b_y
abbrev cols_Line_l1_y : AC := .keepP [0, 5, 9, 10, 11] 0 1000 [kt_cols_Line_5] (cols_Line_l1b)
def cols_Line_l1 : AC := cols_Line_l1_y
abbrev cols_Line_c_y : AC := sr r187_0 (.keepP [0, 1] 0 1000 [] (sr r187_1 (.keepP [0, 1, 5] 0 1000 [kt_cols_Line_5] (.seq (sr r187_2 (.keepP [0, 5, 9, 10, 11] 0 1000 [kt_cols_Line_5] (.block 0 (.loop cols_Line_l1)))) (.keepP [5] 0 1000 [kt_cols_Line_5] (sr r187_14 (.keepP [4] 0 1000 [] .ret)))))))
def cols_Line_c : AC := cols_Line_c_y
def cols_Line_f : AFn := ⟨cols_Line_c, [.t 4], 0, 0, []⟩
abbrev r183_9 : AI := o 21 (.callP 69 [.t 4]) (o 2 (m 21) .done)
abbrev r183_8 : AI := o 20 (bk .add 11 1) (o 11 (m 20) .done)
abbrev r183_7 : AI := o 19 (.callP 79 [.t 4, ks [10]]) .done
abbrev r183_6 : AI := o 15 (m 3) (o 16 (m 6) (o 17 (c2 187 15 16) (o 18 (.callP 79 [.t 4, .t 17]) .done)))
abbrev r183_5 : AI := o 13 (ia 9 11 1) (o 14 (l1 13) (o 6 (m 14) .done))
abbrev r183_4 : AI := o 12 (b2 .lss 11 10) .done
abbrev r183_3 : AI := o 9 (m 0) (o 10 (le 9) (o 11 (.mov (ki 0)) .done))
abbrev r183_2 : AI := o 4 (.alc kt_cols_Text_4 [.ot .np, .nil 1]) .done
abbrev r183_1 : AI := o 7 (m 0) (o 8 (c1 181 7) (o 3 (m 8) .done))
abbrev r183_0 : AI := o 2 (.mov (ks [])) .done
abbrev cols_Text_l1b_y : AC := sr r183_4 (.keepP [3, 4, 9, 10, 11, 12] 0 1000 [kt_cols_Text_4] (.seq (cd 12 .skip (.keepP [4] 0 1000 [kt_cols_Text_4] (.exit 0))) (.keepP [3, 4, 9, 10, 11] 0 1000 [kt_cols_Text_4] (.seq (.block 1 (sr r183_5 (.keepP [3, 4, 6, 9, 10, 11] 0 1000 [kt_cols_Text_4] (sr r183_6 (.keepP [3, 4, 9, 10, 11] 0 1000 [kt_cols_Text_4] (rg r183_7)))))) (.keepP [3, 4, 9, 10, 11] 0 1000 [kt_cols_Text_4] (rg r183_8))))))
def cols_Text_l1b : AC := cols_Text_l1b_y
abbrev cols_Text_l1_y : AC := .keepP [3, 4, 9, 10, 11] 0 1000 [kt_cols_Text_4] (cols_Text_l1b)
def cols_Text_l1 : AC := cols_Text_l1_y
abbrev cols_Text_c_y : AC := sr r183_0 (.keepP [0] 0 1000 [] (sr r183_1 (.keepP [0, 3] 0 1000 [] (sr r183_2 (.keepP [0, 3, 4] 0 1000 [kt_cols_Text_4] (.seq (sr r183_3 (.keepP [3, 4, 9, 10, 11] 0 1000 [kt_cols_Text_4] (.block 0 (.loop cols_Text_l1)))) (.keepP [4] 0 1000 [kt_cols_Text_4] (sr r183_9 (.keepP [2] 0 1000 [] .ret)))))))))
def cols_Text_c : AC := cols_Text_c_y
def cols_Text_f : AFn := ⟨cols_Text_c, [.t 2], 0, 0, []⟩
abbrev r182_3 : AI := o 8 (m 4) (o 9 (bk .add 8 1) (o 4 (m 9) .done))
abbrev r182_14 : AI := o 44 (m 3) (o 45 (m 5) (o 46 (.bsl 1 zd1 1 [(0, 1, (.t 45))]) (o 47 (.app 47 1 8 (.t 44) (.t 46)) (o 3 (m 47) .done))))
abbrev r182_13 : AI := o 43 (m 3) (o 2 (m 43) .done)
abbrev r182_12 : AI := o 41 (m 6) (o 42 (.un .not (.t 41)) .done)
abbrev r182_7 : AI := o 14 (m 7) (o 15 (bk .add 14 1) (o 7 (m 15) .done))
abbrev r182_11 : AI := o 33 (m 0) (o 34 (m 7) (o 35 (ia 33 34 1) (o 36 (l1 35) (o 37 (m 4) (o 38 (ia 36 37 1) (o 39 (l1 38) (o 40 (.len true (.t 39)) (o 5 (m 40) .done))))))))
abbrev r182_10 : AI := o 23 (m 0) (o 24 (m 7) (o 25 (ia 23 24 1) (o 26 (l1 25) (o 27 (m 4) (o 28 (ia 26 27 1) (o 29 (l1 28) (o 30 (.len true (.t 29)) (o 31 (m 5) (o 32 (b2 .gtr 30 31) .done)))))))))
abbrev r182_9 : AI := o 6 (.mov (kb true)) .done
abbrev r182_8 : AI := o 16 (m 4) (o 17 (m 0) (o 18 (m 7) (o 19 (ia 17 18 1) (o 20 (l1 19) (o 21 (le 20) (o 22 (b2 .lss 16 21) .done))))))
abbrev r182_6 : AI := o 10 (m 7) (o 11 (m 0) (o 12 (le 11) (o 13 (b2 .lss 10 12) .done)))
abbrev r182_5 : AI := o 7 (.mov (ki 0)) .done
abbrev r182_4 : AI := o 5 (.mov (ki 0)) (o 6 (.mov (kb false)) .done)
abbrev r182_2 : AI := o 4 (.mov (ki 0)) .done
abbrev r182_1 : AI := o 3 (.mov (.k (.nil 1))) .done
abbrev r182_0 : AI := o 2 (.mov (.k (.nil 1))) .done
abbrev ref16_Widths_l1b_y : AC := .seq (sr r182_6 (.keep [0, 3, 4, 5, 6, 7, 13] [3, 47] (cd 13 .skip (.keep [0, 3, 4, 5, 6] [3, 47] (.exit 2))))) (.keep [0, 3, 4, 5, 6, 7] [3, 47] (.seq (.block 3 (sr r182_8 (.keep [0, 3, 4, 5, 6, 7, 22] [3, 47] (cd 22 (.keep [0, 3, 4, 5, 7] [3, 47] (sr r182_9 (.keep [0, 3, 4, 5, 6, 7] [3, 47] (sr r182_10 (.keep [0, 3, 4, 5, 6, 7, 32] [3, 47] (cd 32 (.keep [0, 3, 4, 6, 7] [3, 47] (rg r182_11)) .skip)))))) .skip)))) (.keep [0, 3, 4, 5, 6, 7] [3, 47] (rg r182_7))))
def ref16_Widths_l1b : AC := ref16_Widths_l1b_y
abbrev ref16_Widths_l1_y : AC := .keep [0, 3, 4, 5, 6, 7] [3, 47] (ref16_Widths_l1b)
def ref16_Widths_l1 : AC := ref16_Widths_l1_y
abbrev ref16_Widths_l2b_y : AC := .seq (.block 1 (sr r182_4 (.keep [0, 3, 4, 5, 6] [3, 47] (.seq (sr r182_5 (.keep [0, 3, 4, 5, 6, 7] [3, 47] (.block 2 (.loop ref16_Widths_l1)))) (.keep [0, 3, 4, 5, 6] [3, 47] (.seq (sr r182_12 (.keep [0, 3, 4, 5, 42] [3, 47] (cd 42 (.keep [3] [3, 47] (sr r182_13 (.keep [2] [3, 47] .ret))) .skip))) (.keep [0, 3, 4, 5] [3, 47] (rg r182_14)))))))) (.keep [0, 3, 4] [3, 47] (rg r182_3))
def ref16_Widths_l2b : AC := ref16_Widths_l2b_y
abbrev ref16_Widths_l2_y : AC := .keep [0, 3, 4] [3, 47] (ref16_Widths_l2b)
def ref16_Widths_l2 : AC := ref16_Widths_l2_y
abbrev ref16_Widths_c_y : AC := sr r182_0 (.keep [0] [] (sr r182_1 (.keep [0, 3] [3, 47] (.own 3 3 (sr r182_2 (.keep [0, 3, 4] [3, 47] (.block 0 (.loop ref16_Widths_l2))))))))
def ref16_Widths_c : AC := ref16_Widths_c_y
def ref16_Widths_f : AFn := ⟨ref16_Widths_c, [.t 2], 0, 0, []⟩
abbrev r193_6 : AI := o 12 (m 3) (o 2 (m 12) .done)
abbrev r193_4 : AI := o 8 (m 4) (o 9 (bk .add 8 1) (o 4 (m 9) .done))
abbrev r193_5 : AI := o 10 (m 3) (o 11 (.bin .add (.t 10) (ks [32])) (o 3 (m 11) .done))
abbrev r193_3 : AI := o 5 (m 4) (o 6 (m 0) (o 7 (b2 .lss 5 6) .done))
abbrev r193_2 : AI := o 4 (.mov (ki 0)) .done
abbrev r193_1 : AI := o 3 (.mov (ks [])) .done
abbrev r193_0 : AI := o 2 (.mov (ks [])) .done
abbrev ref16_blanks_l1b_y : AC := .seq (sr r193_3 (.keep [0, 3, 4, 7] [] (cd 7 .skip (.keep [3] [] (.exit 0))))) (.keep [0, 3, 4] [] (.seq (.block 1 (rg r193_5)) (.keep [0, 3, 4] [] (rg r193_4))))
def ref16_blanks_l1b : AC := ref16_blanks_l1b_y
abbrev ref16_blanks_l1_y : AC := .keep [0, 3, 4] [] (ref16_blanks_l1b)
def ref16_blanks_l1 : AC := ref16_blanks_l1_y
abbrev ref16_blanks_c_y : AC := sr r193_0 (.keep [0] [] (sr r193_1 (.keep [0, 3] [] (.seq (sr r193_2 (.keep [0, 3, 4] [] (.block 0 (.loop ref16_blanks_l1)))) (.keep [3] [] (sr r193_6 (.keep [2] [] .ret)))))))
def ref16_blanks_c : AC := ref16_blanks_c_y
def ref16_blanks_f : AFn := ⟨ref16_blanks_c, [.t 2], 0, 0, []⟩
abbrev r189_13 : AI := o 71 (m 5) (o 4 (m 71) .done)
abbrev r189_12 : AI := o 66 (m 5) (o 67 (m 5) (o 68 (.len true (.t 67)) (o 69 (bk .sub 68 1) (o 70 (.ssl (.t 66) none (some (.t 69))) (o 5 (m 70) .done)))))
abbrev r189_11 : AI := o 55 (m 5) (o 56 (.len true (.t 55)) (o 57 (bk .gtr 56 0) (o 58 (m 57) (.sc 65 (.t 58) true (o 59 (m 5) (o 60 (m 5) (o 61 (.len true (.t 60)) (o 62 (bk .sub 61 1) (o 63 (.sidx (.t 59) (.t 62)) (o 64 (.bin .eql (.t 63) (.k (.c (.int .u8 32)))) .done)))))) (.t 64) .done))))
abbrev r189_4 : AI := o 12 (m 6) (o 13 (bk .add 12 1) (o 6 (m 13) .done))
abbrev r189_9 : AI := o 38 (b2 .add 24 37) (o 5 (m 38) .done)
abbrev r189_10 : AI := o 54 (b2 .add 39 53) (o 5 (m 54) .done)
abbrev r189_8 : AI := o 22 (m 6) (o 23 (bk .eql 22 0) .done)
abbrev r189_7 : AI := o 18 (m 0) (o 19 (m 6) (o 20 (ia 18 19 1) (o 21 (l1 20) (o 7 (m 21) .done))))
abbrev r189_6 : AI := o 14 (m 6) (o 15 (m 0) (o 16 (le 15) (o 17 (b2 .lss 14 16) .done)))
abbrev r189_5 : AI := o 7 (.mov (ki 0)) .done
abbrev r189_3 : AI := o 8 (m 6) (o 9 (m 1) (o 10 (le 9) (o 11 (b2 .lss 8 10) .done)))
abbrev r189_2 : AI := o 6 (.mov (ki 0)) .done
abbrev r189_1 : AI := o 5 (.mov (ks [])) .done
abbrev r189_0 : AI := o 4 (.mov (ks [])) .done
abbrev r189_9q : List DIt := [d 24 (m 5), d 25 (m 1), d 26 (m 6), d 27 (ia 25 26 1), d 28 (l1 27), d 29 (m 7), d 30 (m 1), d 31 (m 6), d 32 (ia 30 31 1), d 33 (l1 32), d 34 (.len true (.t 33)), d 35 (.bin .sub (.t 29) (.t 34)), d 36 (c1 193 35), d 37 (.bin .add (.t 28) (.t 36))]
abbrev r189_10q : List DIt := [d 39 (m 5), d 40 (m 7), d 41 (m 1), d 42 (m 6), d 43 (ia 41 42 1), d 44 (l1 43), d 45 (.len true (.t 44)), d 46 (.bin .sub (.t 40) (.t 45)), d 47 (c1 193 46), d 48 (.bin .add (ks [32, 32]) (.t 47)), d 49 (m 1), d 50 (m 6), d 51 (ia 49 50 1), d 52 (l1 51), d 53 (.bin .add (.t 48) (.t 52))]
abbrev ref16_Line_l1b_y : AC := .seq (sr r189_11 (.keep [5, 65] [] (cd 65 .skip (.keep [5] [] (.exit 2))))) (.keep [5] [] (.block 3 (rg r189_12)))
def ref16_Line_l1b : AC := ref16_Line_l1b_y
def ref16_Line_l1 : AC := .keep [5] [] (ref16_Line_l1b)
abbrev ref16_Line_l2b_y : AC := .seq (sr r189_3 (.keep [0, 1, 5, 6, 11] [] (cd 11 .skip (.keep [5] [] (.exit 0))))) (.keep [0, 1, 5, 6] [] (.seq (.block 1 (sr r189_5 (.keep [0, 1, 5, 6, 7] [] (.seq (sr r189_6 (.keep [0, 1, 5, 6, 7, 17] [] (cd 17 (.keep [0, 1, 5, 6] [] (rg r189_7)) .skip))) (.keep [0, 1, 5, 6, 7] [] (sr r189_8 (.keep [0, 1, 5, 6, 7, 23] [] (cd 23 (.keep [0, 1, 5, 6, 7] [] (.draw r189_9q [] [] r189_9)) (.keep [0, 1, 5, 6, 7] [] (.draw r189_10q [] [] r189_10)))))))))) (.keep [0, 1, 5, 6] [] (rg r189_4))))
def ref16_Line_l2b : AC := ref16_Line_l2b_y
abbrev ref16_Line_l2_y : AC := .keep [0, 1, 5, 6] [] (ref16_Line_l2b)
def ref16_Line_l2 : AC := ref16_Line_l2_y
abbrev ref16_Line_c_y : AC := sr r189_0 (.keep [0, 1] [] (sr r189_1 (.keep [0, 1, 5] [] (.seq (sr r189_2 (.keep [0, 1, 5, 6] [] (.block 0 (.loop ref16_Line_l2)))) (.keep [5] [] (.seq (.block 2 (.loop ref16_Line_l1)) (.keep [5] [] (sr r189_13 (.keep [4] [] .ret)))))))))
def ref16_Line_c : AC := ref16_Line_c_y
def ref16_Line_f : AFn := ⟨ref16_Line_c, [.t 4], 0, 0, []⟩
abbrev r184_7 : AI := o 23 (m 4) (o 2 (m 23) .done)
abbrev r184_5 : AI := o 12 (m 5) (o 13 (bk .add 12 1) (o 5 (m 13) .done))
abbrev r184_6 : AI := o 14 (m 4) (o 15 (m 3) (o 16 (m 0) (o 17 (m 5) (o 18 (ia 16 17 1) (o 19 (l1 18) (o 20 (c2 189 15 19) (o 21 (.bin .add (.t 20) (ks [10])) (o 22 (b2 .add 14 21) (o 4 (m 22) .done)))))))))
abbrev r184_4 : AI := o 8 (m 5) (o 9 (m 0) (o 10 (le 9) (o 11 (b2 .lss 8 10) .done)))
abbrev r184_3 : AI := o 5 (.mov (ki 0)) .done
abbrev r184_2 : AI := o 4 (.mov (ks [])) .done
abbrev r184_1 : AI := o 6 (m 0) (o 7 (c1 182 6) (o 3 (m 7) .done))
abbrev r184_0 : AI := o 2 (.mov (ks [])) .done
abbrev ref16_Text_l1b_y : AC := .seq (sr r184_4 (.keep [0, 3, 4, 5, 11] [] (cd 11 .skip (.keep [4] [] (.exit 0))))) (.keep [0, 3, 4, 5] [] (.seq (.block 1 (rg r184_6)) (.keep [0, 3, 4, 5] [] (rg r184_5))))
def ref16_Text_l1b : AC := ref16_Text_l1b_y
abbrev ref16_Text_l1_y : AC := .keep [0, 3, 4, 5] [] (ref16_Text_l1b)
def ref16_Text_l1 : AC := ref16_Text_l1_y
abbrev ref16_Text_c_y : AC := sr r184_0 (.keep [0] [] (sr r184_1 (.keep [0, 3] [] (sr r184_2 (.keep [0, 3, 4] [] (.seq (sr r184_3 (.keep [0, 3, 4, 5] [] (.block 0 (.loop ref16_Text_l1)))) (.keep [4] [] (sr r184_7 (.keep [2] [] .ret)))))))))
def ref16_Text_c : AC := ref16_Text_c_y
def ref16_Text_f : AFn := ⟨ref16_Text_c, [.t 2], 0, 0, []⟩
theorem digits_Pad_l1b_x (Γ : Env) (N : Nat) (s : St) : exec Γ N digits_Pad_l1b s = exec Γ N digits_Pad_l1b_y s := rfl
theorem digits_Pad_l1_x (Γ : Env) (N : Nat) (s : St) : exec Γ N digits_Pad_l1 s = exec Γ N digits_Pad_l1_y s := rfl
theorem digits_Pad_c_x (Γ : Env) (N : Nat) (s : St) : exec Γ N digits_Pad_c s = exec Γ N digits_Pad_c_y s := rfl
theorem strings_trimRightByte_l1b_x (Γ : Env) (N : Nat) (s : St) : exec Γ N strings_trimRightByte_l1b s = exec Γ N strings_trimRightByte_l1b_y s := rfl
theorem strings_trimRightByte_l1_x (Γ : Env) (N : Nat) (s : St) : exec Γ N strings_trimRightByte_l1 s = exec Γ N strings_trimRightByte_l1_y s := rfl
theorem strings_trimRightByte_c_x (Γ : Env) (N : Nat) (s : St) : exec Γ N strings_trimRightByte_c s = exec Γ N strings_trimRightByte_c_y s := rfl
theorem strings_TrimRight_c_x (Γ : Env) (N : Nat) (s : St) : exec Γ N strings_TrimRight_c s = exec Γ N strings_TrimRight_c_y s := rfl
theorem cols_Widths_l1b_x (Γ : Env) (N : Nat) (s : St) : exec Γ N cols_Widths_l1b s = exec Γ N cols_Widths_l1b_y s := rfl
theorem cols_Widths_l1_x (Γ : Env) (N : Nat) (s : St) : exec Γ N cols_Widths_l1 s = exec Γ N cols_Widths_l1_y s := rfl
theorem cols_Widths_l2b_x (Γ : Env) (N : Nat) (s : St) : exec Γ N cols_Widths_l2b s = exec Γ N cols_Widths_l2b_y s := rfl
theorem cols_Widths_l2_x (Γ : Env) (N : Nat) (s : St) : exec Γ N cols_Widths_l2 s = exec Γ N cols_Widths_l2_y s := rfl
theorem cols_Widths_c_x (Γ : Env) (N : Nat) (s : St) : exec Γ N cols_Widths_c s = exec Γ N cols_Widths_c_y s := rfl
theorem cols_Line_l1b_x (Γ : Env) (N : Nat) (s : St) : exec Γ N cols_Line_l1b s = exec Γ N cols_Line_l1b_y s := rfl
theorem cols_Line_l1_x (Γ : Env) (N : Nat) (s : St) : exec Γ N cols_Line_l1 s = exec Γ N cols_Line_l1_y s := rfl
theorem cols_Line_c_x (Γ : Env) (N : Nat) (s : St) : exec Γ N cols_Line_c s = exec Γ N cols_Line_c_y s := rfl
theorem cols_Text_l1b_x (Γ : Env) (N : Nat) (s : St) : exec Γ N cols_Text_l1b s = exec Γ N cols_Text_l1b_y s := rfl
theorem cols_Text_l1_x (Γ : Env) (N : Nat) (s : St) : exec Γ N cols_Text_l1 s = exec Γ N cols_Text_l1_y s := rfl
theorem cols_Text_c_x (Γ : Env) (N : Nat) (s : St) : exec Γ N cols_Text_c s = exec Γ N cols_Text_c_y s := rfl
theorem ref16_Widths_l1b_x (Γ : Env) (N : Nat) (s : St) : exec Γ N ref16_Widths_l1b s = exec Γ N ref16_Widths_l1b_y s := rfl
theorem ref16_Widths_l1_x (Γ : Env) (N : Nat) (s : St) : exec Γ N ref16_Widths_l1 s = exec Γ N ref16_Widths_l1_y s := rfl
theorem ref16_Widths_l2b_x (Γ : Env) (N : Nat) (s : St) : exec Γ N ref16_Widths_l2b s = exec Γ N ref16_Widths_l2b_y s := rfl
theorem ref16_Widths_l2_x (Γ : Env) (N : Nat) (s : St) : exec Γ N ref16_Widths_l2 s = exec Γ N ref16_Widths_l2_y s := rfl
theorem ref16_Widths_c_x (Γ : Env) (N : Nat) (s : St) : exec Γ N ref16_Widths_c s = exec Γ N ref16_Widths_c_y s := rfl
theorem ref16_blanks_l1b_x (Γ : Env) (N : Nat) (s : St) : exec Γ N ref16_blanks_l1b s = exec Γ N ref16_blanks_l1b_y s := rfl
theorem ref16_blanks_l1_x (Γ : Env) (N : Nat) (s : St) : exec Γ N ref16_blanks_l1 s = exec Γ N ref16_blanks_l1_y s := rfl
theorem ref16_blanks_c_x (Γ : Env) (N : Nat) (s : St) : exec Γ N ref16_blanks_c s = exec Γ N ref16_blanks_c_y s := rfl
theorem ref16_Line_l1b_x (Γ : Env) (N : Nat) (s : St) : exec Γ N ref16_Line_l1b s = exec Γ N ref16_Line_l1b_y s := rfl
theorem ref16_Line_l1_x (Γ : Env) (N : Nat) (s : St) : exec Γ N ref16_Line_l1 s = exec Γ N (.keep [5] [] (ref16_Line_l1b)) s := rfl
theorem ref16_Line_l2b_x (Γ : Env) (N : Nat) (s : St) : exec Γ N ref16_Line_l2b s = exec Γ N ref16_Line_l2b_y s := rfl
theorem ref16_Line_l2_x (Γ : Env) (N : Nat) (s : St) : exec Γ N ref16_Line_l2 s = exec Γ N ref16_Line_l2_y s := rfl
theorem ref16_Line_c_x (Γ : Env) (N : Nat) (s : St) : exec Γ N ref16_Line_c s = exec Γ N ref16_Line_c_y s := rfl
theorem ref16_Text_l1b_x (Γ : Env) (N : Nat) (s : St) : exec Γ N ref16_Text_l1b s = exec Γ N ref16_Text_l1b_y s := rfl
theorem ref16_Text_l1_x (Γ : Env) (N : Nat) (s : St) : exec Γ N ref16_Text_l1 s = exec Γ N ref16_Text_l1_y s := rfl
theorem ref16_Text_c_x (Γ : Env) (N : Nat) (s : St) : exec Γ N ref16_Text_c s = exec Γ N ref16_Text_c_y s := rfl
attribute [simp] digits_Pad_l1b_y digits_Pad_l1_y digits_Pad_c_y strings_trimRightByte_l1b_y strings_trimRightByte_l1_y strings_trimRightByte_c_y strings_TrimRight_c_y cols_Widths_l1b_y cols_Widths_l1_y cols_Widths_l2b_y cols_Widths_l2_y cols_Widths_c_y cols_Line_l1b_y cols_Line_l1_y cols_Line_c_y cols_Text_l1b_y cols_Text_l1_y cols_Text_c_y ref16_Widths_l1b_y ref16_Widths_l1_y ref16_Widths_l2b_y ref16_Widths_l2_y ref16_Widths_c_y ref16_blanks_l1b_y ref16_blanks_l1_y ref16_blanks_c_y ref16_Line_l1b_y ref16_Line_l2b_y ref16_Line_l2_y ref16_Line_c_y ref16_Text_l1b_y ref16_Text_l1_y ref16_Text_c_y
attribute [simp] digits_Pad_l1b_x digits_Pad_c_x digits_Pad_f strings_trimRightByte_l1b_x strings_trimRightByte_c_x strings_trimRightByte_f strings_TrimRight_c_x strings_TrimRight_f cols_Widths_l1b_x cols_Widths_l2b_x cols_Widths_c_x cols_Widths_f cols_Line_l1b_x cols_Line_c_x cols_Line_f cols_Text_l1b_x cols_Text_c_x cols_Text_f ref16_Widths_l1b_x ref16_Widths_l2b_x ref16_Widths_c_x ref16_Widths_f ref16_blanks_l1b_x ref16_blanks_c_x ref16_blanks_f ref16_Line_l1b_x ref16_Line_l2b_x ref16_Line_c_x ref16_Line_f ref16_Text_l1b_x ref16_Text_c_x ref16_Text_f
end Go.Am
namespace Go.Am
open Cx
abbrev r373_11 : AI := o 48 (m 10) (o 2 (m 48) (o 3 (.mov (ki 0)) .done))
abbrev r373_10 : AI := o 2 (.mov (ki 0)) (o 3 (.mov (ki 10)) .done)
abbrev r373_9 : AI := o 46 (m 11) (o 47 (.un .not (.t 46)) .done)
abbrev r373_8 : AI := o 40 (m 8) (o 41 (m 6) (o 42 (.conv (.int .i64) (.t 41)) (o 43 (c2 375 40 42) (o 39 (m 43) (o 44 (ex 39 0) (o 45 (ex 39 1) (o 10 (m 44) (o 11 (m 45) .done))))))))
abbrev r373_7 : AI := o 2 (.mov (ki 0)) (o 3 (.mov (ki 10)) .done)
abbrev r373_6 : AI := o 37 (m 9) (o 38 (.un .not (.t 37)) .done)
abbrev r373_5 : AI := o 32 (fa 1 0) (o 33 (l1 32) (o 34 (.call 376 [.t 33, ki 100]) (o 31 (m 34) (o 35 (ex 31 0) (o 36 (ex 31 1) (o 8 (m 35) (o 9 (m 36) .done)))))))
abbrev r373_4 : AI := o 23 (m 4) (o 24 (m 5) (o 25 (fa 1 2) (o 26 (l1 25) (o 27 (.conv (.int .u64) (.t 26)) (o 28 (.call 377 [.t 23, .t 24, .t 27]) (o 22 (m 28) (o 29 (ex 22 0) (o 30 (ex 22 1) (o 6 (m 29) (o 7 (m 30) .done))))))))))
abbrev r373_3 : AI := o 16 (fa 1 1) (o 17 (l1 16) (o 18 (.conv (.int .u64) (.t 17)) (o 19 (.call 378 [(.t 18), (.k (.c (.int .u64 100)))]) (o 15 (m 19) (o 20 (ex 15 0) (o 21 (ex 15 1) (o 4 (m 20) (o 5 (m 21) .done))))))))
abbrev r373_2 : AI := o 2 (.mov (ki 0)) (o 3 (.mov (ki 22)) .done)
abbrev r373_1 : AI := o 12 (ln 1 3) (o 13 (c1 379 12) (o 14 (.un .not (.t 13)) .done))
abbrev r373_0 : AI := o 1 (.box 1 (.t 0)) (o 2 (.mov (ki 0)) (o 3 (.mov (ki 0)) .done))
abbrev ref08_Hundredths_c_y : AC := sr r373_0 (.keep [1] [1] (.seq (sr r373_1 (.keep [1, 14] [1] (cd 14 (.keep [] [] (sr r373_2 (.keep [2, 3] [] .ret))) .skip))) (.keep [1] [1] (sr r373_3 (.keep [1, 4, 5] [1] (sr r373_4 (.keep [1, 6] [1] (sr r373_5 (.keep [6, 8, 9] [] (.seq (sr r373_6 (.keep [6, 8, 38] [] (cd 38 (.keep [] [] (sr r373_7 (.keep [2, 3] [] .ret))) .skip))) (.keep [6, 8] [] (sr r373_8 (.keep [10, 11] [] (.seq (sr r373_9 (.keep [10, 47] [] (cd 47 (.keep [] [] (sr r373_10 (.keep [2, 3] [] .ret))) .skip))) (.keep [10] [] (sr r373_11 (.keep [2, 3] [] .ret)))))))))))))))))
def ref08_Hundredths_c : AC := ref08_Hundredths_c_y
def ref08_Hundredths_f : AFn := ⟨ref08_Hundredths_c, [.t 2, .t 3], 0, 0, []⟩
abbrev r372_19 : AI := o 47 (m 8) (o 4 (m 47) .done)
abbrev r372_18 : AI := o 45 (m 8) (o 46 (.bin .add (ks [45]) (.t 45)) (o 8 (m 46) .done))
abbrev r372_17 : AI := o 43 (m 0) (o 44 (bk .lss 43 0) .done)
abbrev r372_16 : AI := o 39 (m 8) (o 40 (.bin .add (.t 39) (ks [46])) (o 41 (m 9) (o 42 (b2 .add 40 41) (o 8 (m 42) .done))))
abbrev r372_15 : AI := o 37 (m 9) (o 38 (.bin .add (ks [48]) (.t 37)) (o 9 (m 38) .done))
abbrev r372_14 : AI := o 33 (m 9) (o 34 (.len true (.t 33)) (o 35 (m 1) (o 36 (b2 .lss 34 35) .done)))
abbrev r372_13 : AI := o 29 (m 7) (o 30 (m 5) (o 31 (b2 .rem 29 30) (o 32 (c1 73 31) (o 9 (m 32) .done))))
abbrev r372_12 : AI := o 27 (m 1) (o 28 (bk .gtr 27 0) .done)
abbrev r372_11 : AI := o 23 (m 7) (o 24 (m 5) (o 25 (b2 .quo 23 24) (o 26 (c1 73 25) (o 8 (m 26) .done))))
abbrev r372_10 : AI := o 21 (m 0) (o 22 (c1 74 21) (o 7 (m 22) .done))
abbrev r372_8 : AI := o 17 (m 6) (o 18 (bk .add 17 1) (o 6 (m 18) .done))
abbrev r372_9 : AI := o 19 (m 5) (o 20 (.bin .mul (.k (.c (.int .u64 10))) (.t 19)) (o 5 (m 20) .done))
abbrev r372_7 : AI := o 14 (m 6) (o 15 (m 1) (o 16 (b2 .lss 14 15) .done))
abbrev r372_6 : AI := o 6 (.mov (ki 0)) .done
abbrev r372_5 : AI := o 5 (.mov (.k (.c (.int .u64 1)))) .done
abbrev r372_4 : AI := o 1 (.mov (ki 18)) .done
abbrev r372_3 : AI := o 12 (m 1) (o 13 (bk .gtr 12 18) .done)
abbrev r372_2 : AI := o 1 (.mov (ki 0)) .done
abbrev r372_1 : AI := o 10 (m 1) (o 11 (bk .lss 10 0) .done)
abbrev r372_0 : AI := o 4 (.mov (ks [])) .done
abbrev ref02_Fixed_l1b_y : AC := .seq (sr r372_14 (.keep [0, 1, 8, 9, 36] [] (cd 36 .skip (.keep [0, 8, 9] [] (.exit 2))))) (.keep [0, 1, 8, 9] [] (.block 3 (rg r372_15)))
def ref02_Fixed_l1b : AC := ref02_Fixed_l1b_y
abbrev ref02_Fixed_l1_y : AC := .keep [0, 1, 8, 9] [] (ref02_Fixed_l1b)
def ref02_Fixed_l1 : AC := ref02_Fixed_l1_y
abbrev ref02_Fixed_l2b_y : AC := .seq (sr r372_7 (.keep [0, 1, 5, 6, 16] [] (cd 16 .skip (.keep [0, 1, 5] [] (.exit 0))))) (.keep [0, 1, 5, 6] [] (.seq (.block 1 (rg r372_9)) (.keep [0, 1, 5, 6] [] (rg r372_8))))
def ref02_Fixed_l2b : AC := ref02_Fixed_l2b_y
abbrev ref02_Fixed_l2_y : AC := .keep [0, 1, 5, 6] [] (ref02_Fixed_l2b)
def ref02_Fixed_l2 : AC := ref02_Fixed_l2_y
abbrev ref02_Fixed_c_y : AC := sr r372_0 (.keep [0, 1] [] (.seq (sr r372_1 (.keep [0, 1, 11] [] (cd 11 (.keep [0] [] (rg r372_2)) .skip))) (.keep [0, 1] [] (.seq (sr r372_3 (.keep [0, 1, 13] [] (cd 13 (.keep [0] [] (rg r372_4)) .skip))) (.keep [0, 1] [] (sr r372_5 (.keep [0, 1, 5] [] (.seq (sr r372_6 (.keep [0, 1, 5, 6] [] (.block 0 (.loop ref02_Fixed_l2)))) (.keep [0, 1, 5] [] (sr r372_10 (.keep [0, 1, 5, 7] [] (sr r372_11 (.keep [0, 1, 5, 7, 8] [] (.seq (sr r372_12 (.keep [0, 1, 5, 7, 8, 28] [] (cd 28 (.keep [0, 1, 5, 7, 8] [] (sr r372_13 (.keep [0, 1, 8, 9] [] (.seq (.block 2 (.loop ref02_Fixed_l1)) (.keep [0, 8, 9] [] (rg r372_16)))))) .skip))) (.keep [0, 8] [] (.seq (sr r372_17 (.keep [8, 44] [] (cd 44 (.keep [8] [] (rg r372_18)) .skip))) (.keep [8] [] (sr r372_19 (.keep [4] [] .ret)))))))))))))))))))
def ref02_Fixed_c : AC := ref02_Fixed_c_y
def ref02_Fixed_f : AFn := ⟨ref02_Fixed_c, [.t 4], 0, 0, []⟩
abbrev r379_1 : AI := o 3 (fa 1 0) (o 4 (l1 3) (o 5 (bk .geq 4 0) (o 6 (m 5) (.scs 10 (.t 6) true (o 7 (fa 1 1) (o 8 (l1 7) (o 9 (bk .geq 8 0) .done))) (.t 9) (o 11 (m 10) (.scs 17 (.t 11) true (o 12 (fa 1 1) (o 13 (l1 12) (o 14 (fa 1 2) (o 15 (l1 14) (o 16 (b2 .lss 13 15) .done))))) (.t 16) (o 2 (m 17) .done)))))))
abbrev r379_0 : AI := o 1 (.box 1 (.t 0)) (o 2 (.mov (kb false)) .done)
abbrev ref08_Right_c_y : AC := sr r379_0 (.keep [1] [1] (sr r379_1 (.keep [2] [] .ret)))
def ref08_Right_c : AC := ref08_Right_c_y
def ref08_Right_f : AFn := ⟨ref08_Right_c, [.t 2], 0, 0, []⟩
abbrev r378_5 : AI := o 36 (m 6) (o 37 (m 8) (o 38 (b2 .mul 36 37) (o 39 (m 11) (o 40 (.bin .quo (.t 39) (.k (.c (.int .u64 4294967296)))) (o 41 (b2 .add 38 40) (o 42 (m 12) (o 43 (.bin .quo (.t 42) (.k (.c (.int .u64 4294967296)))) (o 44 (b2 .add 41 43) (o 45 (m 12) (o 46 (.bin .rem (.t 45) (.k (.c (.int .u64 4294967296)))) (o 47 (.bin .mul (.t 46) (.k (.c (.int .u64 4294967296)))) (o 48 (m 10) (o 49 (.bin .rem (.t 48) (.k (.c (.int .u64 4294967296)))) (o 50 (b2 .add 47 49) (o 4 (m 44) (o 5 (m 50) .done))))))))))))))))
abbrev r378_4 : AI := o 30 (m 7) (o 31 (m 8) (o 32 (b2 .mul 30 31) (o 33 (m 11) (o 34 (.bin .rem (.t 33) (.k (.c (.int .u64 4294967296)))) (o 35 (b2 .add 32 34) (o 12 (m 35) .done))))))
abbrev r378_3 : AI := o 24 (m 6) (o 25 (m 9) (o 26 (b2 .mul 24 25) (o 27 (m 10) (o 28 (.bin .quo (.t 27) (.k (.c (.int .u64 4294967296)))) (o 29 (b2 .add 26 28) (o 11 (m 29) .done))))))
abbrev r378_2 : AI := o 21 (m 7) (o 22 (m 9) (o 23 (b2 .mul 21 22) (o 10 (m 23) .done)))
abbrev r378_1 : AI := o 13 (m 0) (o 14 (.bin .quo (.t 13) (.k (.c (.int .u64 4294967296)))) (o 15 (m 0) (o 16 (.bin .rem (.t 15) (.k (.c (.int .u64 4294967296)))) (o 17 (m 1) (o 18 (.bin .quo (.t 17) (.k (.c (.int .u64 4294967296)))) (o 19 (m 1) (o 20 (.bin .rem (.t 19) (.k (.c (.int .u64 4294967296)))) (o 6 (m 14) (o 7 (m 16) (o 8 (m 18) (o 9 (m 20) .done)))))))))))
abbrev r378_0 : AI := o 4 (.mov (.k (.c (.int .u64 0)))) (o 5 (.mov (.k (.c (.int .u64 0)))) .done)
abbrev ref01_Times_c_y : AC := sr r378_0 (.keep [0, 1] [] (sr r378_1 (.keep [6, 7, 8, 9] [] (sr r378_2 (.keep [6, 7, 8, 9, 10] [] (sr r378_3 (.keep [6, 7, 8, 10, 11] [] (sr r378_4 (.keep [6, 8, 10, 11, 12] [] (sr r378_5 (.keep [4, 5] [] .ret)))))))))))
def ref01_Times_c : AC := ref01_Times_c_y
def ref01_Times_f : AFn := ⟨ref01_Times_c, [.t 4, .t 5], 0, 0, []⟩
abbrev r377_11 : AI := o 39 (m 8) (o 40 (m 9) (o 6 (m 39) (o 7 (m 40) .done)))
abbrev r377_4 : AI := o 15 (m 10) (o 16 (bk .sub 15 1) (o 10 (m 16) .done))
abbrev r377_10 : AI := o 37 (m 8) (o 38 (.bin .add (.t 37) (.k (.c (.int .u64 1)))) (o 8 (m 38) .done))
abbrev r377_9 : AI := o 34 (m 9) (o 35 (m 2) (o 36 (b2 .sub 34 35) (o 9 (m 36) .done)))
abbrev r377_8 : AI := o 28 (m 11) (o 29 (m 28) (.scs 33 (.t 29) false (o 30 (m 9) (o 31 (m 2) (o 32 (b2 .geq 30 31) .done))) (.t 32) .done))
abbrev r377_7 : AI := o 26 (m 8) (o 27 (.bin .mul (.k (.c (.int .u64 2))) (.t 26)) (o 8 (m 27) .done))
abbrev r377_6 : AI := o 19 (m 9) (o 20 (.bin .mul (.k (.c (.int .u64 2))) (.t 19)) (o 21 (m 1) (o 22 (m 10) (o 23 (.shf false (.t 21) (.t 22)) (o 24 (.bin .rem (.t 23) (.k (.c (.int .u64 2)))) (o 25 (b2 .add 20 24) (o 9 (m 25) .done)))))))
abbrev r377_5 : AI := o 17 (m 9) (o 18 (.bin .geq (.t 17) (.k (.c (.int .u64 9223372036854775808)))) (o 11 (m 18) .done))
abbrev r377_3 : AI := o 13 (m 10) (o 14 (bk .geq 13 0) .done)
abbrev r377_2 : AI := o 10 (.mov (ki 63)) .done
abbrev r377_1 : AI := o 12 (m 0) (o 8 (.mov (.k (.c (.int .u64 0)))) (o 9 (m 12) .done))
abbrev r377_0 : AI := o 6 (.mov (.k (.c (.int .u64 0)))) (o 7 (.mov (.k (.c (.int .u64 0)))) .done)
abbrev ref01_Over_l1b_y : AC := .seq (sr r377_3 (.keep [1, 2, 8, 9, 10, 14] [] (cd 14 .skip (.keep [8, 9] [] (.exit 0))))) (.keep [1, 2, 8, 9, 10] [] (.seq (.block 1 (sr r377_5 (.keep [1, 2, 8, 9, 10, 11] [] (sr r377_6 (.keep [1, 2, 8, 9, 10, 11] [] (sr r377_7 (.keep [1, 2, 8, 9, 10, 11] [] (sr r377_8 (.keep [1, 2, 8, 9, 10, 33] [] (cd 33 (.keep [1, 2, 8, 9, 10] [] (sr r377_9 (.keep [1, 2, 8, 9, 10] [] (rg r377_10)))) .skip)))))))))) (.keep [1, 2, 8, 9, 10] [] (rg r377_4))))
def ref01_Over_l1b : AC := ref01_Over_l1b_y
abbrev ref01_Over_l1_y : AC := .keep [1, 2, 8, 9, 10] [] (ref01_Over_l1b)
def ref01_Over_l1 : AC := ref01_Over_l1_y
abbrev ref01_Over_c_y : AC := sr r377_0 (.keep [0, 1, 2] [] (sr r377_1 (.keep [1, 2, 8, 9] [] (.seq (sr r377_2 (.keep [1, 2, 8, 9, 10] [] (.block 0 (.loop ref01_Over_l1)))) (.keep [8, 9] [] (sr r377_11 (.keep [6, 7] [] .ret)))))))
def ref01_Over_c : AC := ref01_Over_c_y
def ref01_Over_f : AFn := ⟨ref01_Over_c, [.t 6, .t 7], 0, 0, []⟩
abbrev r376_4 : AI := o 18 (m 7) (o 19 (m 0) (o 20 (bk .lss 19 0) (o 21 (m 1) (o 22 (bk .lss 21 0) (o 23 (.beq true (.t 20) (.t 22)) (o 24 (c2 383 18 23) (o 25 (ex 24 0) (o 26 (ex 24 1) (o 4 (m 25) (o 5 (m 26) .done))))))))))
abbrev r376_3 : AI := o 4 (.mov (ki 0)) (o 5 (.mov (kb false)) .done)
abbrev r376_2 : AI := o 16 (m 6) (o 17 (.bin .gtr (.t 16) (.k (.c (.int .u64 0)))) .done)
abbrev r376_1 : AI := o 9 (m 0) (o 10 (c1 74 9) (o 11 (m 1) (o 12 (c1 74 11) (o 13 (c2 378 10 12) (o 8 (m 13) (o 14 (ex 8 0) (o 15 (ex 8 1) (o 6 (m 14) (o 7 (m 15) .done)))))))))
abbrev r376_0 : AI := o 4 (.mov (ki 0)) (o 5 (.mov (kb false)) .done)
abbrev ref01_Mul_c_y : AC := sr r376_0 (.keep [0, 1] [] (sr r376_1 (.keep [0, 1, 6, 7] [] (.seq (sr r376_2 (.keep [0, 1, 7, 17] [] (cd 17 (.keep [] [] (sr r376_3 (.keep [4, 5] [] .ret))) .skip))) (.keep [0, 1, 7] [] (sr r376_4 (.keep [4, 5] [] .ret)))))))
def ref01_Mul_c : AC := ref01_Mul_c_y
def ref01_Mul_f : AFn := ⟨ref01_Mul_c, [.t 4, .t 5], 0, 0, []⟩
abbrev r375_3 : AI := o 24 (m 0) (o 25 (m 1) (o 26 (b2 .add 24 25) (o 4 (m 26) (o 5 (.mov (kb true)) .done))))
abbrev r375_2 : AI := o 4 (.mov (ki 0)) (o 5 (.mov (kb false)) .done)
abbrev r375_1 : AI := o 6 (m 1) (o 7 (bk .gtr 6 0) (o 8 (m 7) (.scs 13 (.t 8) true (o 9 (m 0) (o 10 (m 1) (o 11 (.bin .sub (ki 9223372036854775807) (.t 10)) (o 12 (b2 .gtr 9 11) .done)))) (.t 12) (o 14 (m 13) (.scs 23 (.t 14) false (o 15 (m 1) (o 16 (bk .lss 15 0) (o 17 (m 16) (.scs 22 (.t 17) true (o 18 (m 0) (o 19 (m 1) (o 20 (.bin .sub (.k (.c (.int .i64 (-9223372036854775808)))) (.t 19)) (o 21 (b2 .lss 18 20) .done)))) (.t 21) .done)))) (.t 22) .done)))))
abbrev r375_0 : AI := o 4 (.mov (ki 0)) (o 5 (.mov (kb false)) .done)
abbrev ref01_Add_c_y : AC := sr r375_0 (.keep [0, 1] [] (.seq (sr r375_1 (.keep [0, 1, 23] [] (cd 23 (.keep [] [] (sr r375_2 (.keep [4, 5] [] .ret))) .skip))) (.keep [0, 1] [] (sr r375_3 (.keep [4, 5] [] .ret)))))
def ref01_Add_c : AC := ref01_Add_c_y
def ref01_Add_f : AFn := ⟨ref01_Add_c, [.t 4, .t 5], 0, 0, []⟩
abbrev r383_7 : AI := o 22 (m 0) (o 23 (.conv (.int .i64) (.t 22)) (o 4 (m 23) (o 5 (.mov (kb true)) .done)))
abbrev r383_6 : AI := o 19 (m 0) (o 20 (.conv (.int .i64) (.t 19)) (o 21 (.un .neg (.t 20)) (o 4 (m 21) (o 5 (.mov (kb true)) .done))))
abbrev r383_5 : AI := o 18 (m 1) .done
abbrev r383_4 : AI := o 4 (.mov (.k (.c (.int .i64 (-9223372036854775808))))) (o 5 (.mov (kb true)) .done)
abbrev r383_3 : AI := o 16 (m 0) (o 17 (.bin .eql (.t 16) (.k (.c (.int .u64 9223372036854775808)))) .done)
abbrev r383_2 : AI := o 4 (.mov (ki 0)) (o 5 (.mov (kb false)) .done)
abbrev r383_1 : AI := o 6 (m 0) (o 7 (.bin .gtr (.t 6) (.k (.c (.int .u64 9223372036854775808)))) (o 8 (m 7) (.scs 15 (.t 8) false (o 9 (m 0) (o 10 (.bin .eql (.t 9) (.k (.c (.int .u64 9223372036854775808)))) (o 11 (m 10) (.scs 14 (.t 11) true (o 12 (m 1) (o 13 (.un .not (.t 12)) .done)) (.t 13) .done)))) (.t 14) .done)))
abbrev r383_0 : AI := o 4 (.mov (ki 0)) (o 5 (.mov (kb false)) .done)
abbrev ref01_signed_c_y : AC := sr r383_0 (.keep [0, 1] [] (.seq (sr r383_1 (.keep [0, 1, 15] [] (cd 15 (.keep [] [] (sr r383_2 (.keep [4, 5] [] .ret))) .skip))) (.keep [0, 1] [] (.seq (sr r383_3 (.keep [0, 1, 17] [] (cd 17 (.keep [] [] (sr r383_4 (.keep [4, 5] [] .ret))) .skip))) (.keep [0, 1] [] (.seq (sr r383_5 (.keep [0, 18] [] (cd 18 (.keep [0] [] (sr r383_6 (.keep [4, 5] [] .ret))) .skip))) (.keep [0] [] (sr r383_7 (.keep [4, 5] [] .ret)))))))))
def ref01_signed_c : AC := ref01_signed_c_y
def ref01_signed_f : AFn := ⟨ref01_signed_c, [.t 4, .t 5], 0, 0, []⟩
abbrev r387_5 : AI := o 25 (.bld zd3 [(0, 1, (.t 20)), (1, 1, (.t 23)), (2, 1, (.t 24))]) (so 3 4 25 (o 5 (.mov (ki 0)) .done))
abbrev r387_2 : AI := o 13 (.bld zd3 []) (so 3 4 13 (o 5 (.mov (ki 22)) .done))
abbrev r387_4 : AI := o 17 (.bld zd3 []) (so 3 4 17 (o 5 (.mov (ki 11)) .done))
abbrev r387_3 : AI := o 15 (m 1) (o 16 (bk .eql 15 0) (o 14 (m 16) .done))
abbrev r387_1 : AI := o 7 (m 0) (o 8 (bk .lss 7 0) (o 9 (m 8) (.scs 12 (.t 9) false (o 10 (m 1) (o 11 (bk .lss 10 0) .done)) (.t 11) (o 6 (m 12) .done))))
abbrev r387_0 : AI := o 4 (.alc 4 za3) (o 5 (.mov (ki 0)) .done)
abbrev r387_5q : List DIt := [d 18 (m 0), d 19 (m 1), d 20 (.bin .quo (.t 18) (.t 19)), d 21 (m 0), d 22 (m 1), d 23 (.bin .rem (.t 21) (.t 22)), d 24 (m 1)]
abbrev frac_Of_c_y : AC := sr r387_0 (.keep [0, 1, 4] [4] (.seq (.block 0 (sr r387_1 (.keep [0, 1, 4, 6] [4] (cd 6 (.keep [4] [4] (sr r387_2 (.keep [4, 5] [4] .ret))) (.keep [0, 1, 4] [4] (sr r387_3 (.keep [0, 1, 4, 14] [4] (cd 14 (.keep [4] [4] (sr r387_4 (.keep [4, 5] [4] .ret))) .skip)))))))) (.keep [0, 1, 4] [4] (.seq (.draw r387_5q [] [] r387_5) (.keep [4, 5] [4] .ret)))))
def frac_Of_c : AC := frac_Of_c_y
def frac_Of_f : AFn := ⟨frac_Of_c, [.m 4 3 true, .t 5], 0, 0, []⟩
abbrev r386_7 : AI := o 28 (m 4) (o 29 (m 6) (o 30 (c2 389 28 29) (o 31 (ex 30 0) (o 32 (ex 30 1) (o 2 (m 31) (o 3 (m 32) .done))))))
abbrev r386_6 : AI := o 21 (fa 1 1) (o 22 (l1 21) (o 23 (fa 1 2) (o 24 (l1 23) (o 25 (.call 390 [.t 22, ki 100, .t 24]) (o 20 (m 25) (o 26 (ex 20 0) (o 27 (ex 20 1) (o 6 (m 26) (o 7 (m 27) .done)))))))))
abbrev r386_5 : AI := o 19 (m 5) (o 2 (.mov (ki 0)) (o 3 (m 19) .done))
abbrev r386_4 : AI := o 17 (m 5) (o 18 (bk .neq 17 0) .done)
abbrev r386_3 : AI := o 12 (fa 1 0) (o 13 (l1 12) (o 14 (.call 391 [.t 13, ki 100]) (o 11 (m 14) (o 15 (ex 11 0) (o 16 (ex 11 1) (o 4 (m 15) (o 5 (m 16) .done)))))))
abbrev r386_2 : AI := o 2 (.mov (ki 0)) (o 3 (.mov (ki 22)) .done)
abbrev r386_1 : AI := o 8 (ln 1 3) (o 9 (c1 392 8) (o 10 (.un .not (.t 9)) .done))
abbrev r386_0 : AI := o 1 (.box 1 (.t 0)) (o 2 (.mov (ki 0)) (o 3 (.mov (ki 0)) .done))
abbrev frac_Hundredths_c_y : AC := sr r386_0 (.keep [1] [1] (.seq (sr r386_1 (.keep [1, 10] [1] (cd 10 (.keep [] [] (sr r386_2 (.keep [2, 3] [] .ret))) .skip))) (.keep [1] [1] (sr r386_3 (.keep [1, 4, 5] [1] (.seq (sr r386_4 (.keep [1, 4, 5, 18] [1] (cd 18 (.keep [5] [] (sr r386_5 (.keep [2, 3] [] .ret))) .skip))) (.keep [1, 4] [1] (sr r386_6 (.keep [4, 6] [] (sr r386_7 (.keep [2, 3] [] .ret)))))))))))
def frac_Hundredths_c : AC := frac_Hundredths_c_y
def frac_Hundredths_f : AFn := ⟨frac_Hundredths_c, [.t 2, .t 3], 0, 0, []⟩
abbrev r385_9 : AI := o 38 (m 5) (o 4 (m 38) .done)
abbrev r385_8 : AI := o 36 (m 5) (o 37 (.bin .add (ks [45]) (.t 36)) (o 4 (m 37) .done))
abbrev r385_7 : AI := o 34 (m 0) (o 35 (bk .lss 34 0) .done)
abbrev r385_6 : AI := o 33 (b2 .add 26 32) (o 5 (m 33) .done)
abbrev r385_5 : AI := o 18 (m 1) (o 19 (bk .gtr 18 0) .done)
abbrev r385_4 : AI := o 16 (m 5) (o 17 (.bin .add (ks [48]) (.t 16)) (o 5 (m 17) .done))
abbrev r385_3 : AI := o 12 (m 5) (o 13 (.len true (.t 12)) (o 14 (m 1) (o 15 (b2 .leq 13 14) .done)))
abbrev r385_2 : AI := o 9 (m 0) (o 10 (c1 81 9) (o 11 (c1 80 10) (o 5 (m 11) .done)))
abbrev r385_1 : AI := o 6 (m 1) (o 7 (.mx (.t 6) [.k (.c (.int .i64 0))]) (o 8 (.mn (.t 7) [.k (.c (.int .i64 18))]) (o 1 (m 8) .done)))
abbrev r385_0 : AI := o 4 (.mov (ks [])) .done
abbrev r385_6q : List DIt := [d 20 (m 5), d 21 (m 5), d 22 (.len true (.t 21)), d 23 (m 1), d 24 (.bin .sub (.t 22) (.t 23)), d 25 (.ssl (.t 20) none (some (.t 24))), d 26 (.bin .add (.t 25) (ks [46])), d 27 (m 5), d 28 (m 5), d 29 (.len true (.t 28)), d 30 (m 1), d 31 (.bin .sub (.t 29) (.t 30)), d 32 (.ssl (.t 27) (some (.t 31)) none)]
abbrev digits_Fixed_l1b_y : AC := .seq (sr r385_3 (.keep [0, 1, 5, 15] [] (cd 15 .skip (.keep [0, 1, 5] [] (.exit 0))))) (.keep [0, 1, 5] [] (.block 1 (rg r385_4)))
def digits_Fixed_l1b : AC := digits_Fixed_l1b_y
abbrev digits_Fixed_l1_y : AC := .keep [0, 1, 5] [] (digits_Fixed_l1b)
def digits_Fixed_l1 : AC := digits_Fixed_l1_y
abbrev digits_Fixed_c_y : AC := sr r385_0 (.keep [0, 1] [] (sr r385_1 (.keep [0, 1] [] (sr r385_2 (.keep [0, 1, 5] [] (.seq (.block 0 (.loop digits_Fixed_l1)) (.keep [0, 1, 5] [] (.seq (sr r385_5 (.keep [0, 1, 5, 19] [] (cd 19 (.keep [0, 1, 5] [] (.draw r385_6q [] [] r385_6)) .skip))) (.keep [0, 5] [] (.seq (sr r385_7 (.keep [5, 35] [] (cd 35 (.keep [5] [] (sr r385_8 (.keep [4] [] .ret))) .skip))) (.keep [5] [] (sr r385_9 (.keep [4] [] .ret)))))))))))))
def digits_Fixed_c : AC := digits_Fixed_c_y
def digits_Fixed_f : AFn := ⟨digits_Fixed_c, [.t 4], 0, 0, []⟩
abbrev r392_1 : AI := o 3 (fa 1 0) (o 4 (l1 3) (o 5 (bk .geq 4 0) (o 6 (m 5) (.scs 10 (.t 6) true (o 7 (fa 1 1) (o 8 (l1 7) (o 9 (bk .geq 8 0) .done))) (.t 9) (o 11 (m 10) (.scs 17 (.t 11) true (o 12 (fa 1 1) (o 13 (l1 12) (o 14 (fa 1 2) (o 15 (l1 14) (o 16 (b2 .lss 13 15) .done))))) (.t 16) (o 2 (m 17) .done)))))))
abbrev r392_0 : AI := o 1 (.box 1 (.t 0)) (o 2 (.mov (kb false)) .done)
abbrev frac_Right_c_y : AC := sr r392_0 (.keep [1] [1] (sr r392_1 (.keep [2] [] .ret)))
def frac_Right_c : AC := frac_Right_c_y
def frac_Right_f : AFn := ⟨frac_Right_c, [.t 2], 0, 0, []⟩
abbrev r391_4 : AI := o 18 (m 7) (o 19 (m 0) (o 20 (bk .lss 19 0) (o 21 (m 1) (o 22 (bk .lss 21 0) (o 23 (.beq true (.t 20) (.t 22)) (o 24 (c2 393 18 23) (o 25 (ex 24 0) (o 26 (ex 24 1) (o 4 (m 25) (o 5 (m 26) .done))))))))))
abbrev r391_3 : AI := o 4 (.mov (ki 0)) (o 5 (.mov (ki 10)) .done)
abbrev r391_2 : AI := o 16 (m 6) (o 17 (.bin .neq (.t 16) (.k (.c (.int .u64 0)))) .done)
abbrev r391_1 : AI := o 9 (m 0) (o 10 (c1 81 9) (o 11 (m 1) (o 12 (c1 81 11) (o 13 (c2 394 10 12) (o 8 (m 13) (o 14 (ex 8 0) (o 15 (ex 8 1) (o 6 (m 14) (o 7 (m 15) .done)))))))))
abbrev r391_0 : AI := o 4 (.mov (ki 0)) (o 5 (.mov (ki 0)) .done)
abbrev nums_Mul_c_y : AC := sr r391_0 (.keep [0, 1] [] (sr r391_1 (.keep [0, 1, 6, 7] [] (.seq (sr r391_2 (.keep [0, 1, 7, 17] [] (cd 17 (.keep [] [] (sr r391_3 (.keep [4, 5] [] .ret))) .skip))) (.keep [0, 1, 7] [] (sr r391_4 (.keep [4, 5] [] .ret)))))))
def nums_Mul_c : AC := nums_Mul_c_y
def nums_Mul_f : AFn := ⟨nums_Mul_c, [.t 4, .t 5], 0, 0, []⟩
abbrev r390_9 : AI := o 44 (m 10) (o 45 (.call 393 [.t 44, kb false]) (o 46 (ex 45 0) (o 47 (ex 45 1) (o 6 (m 46) (o 7 (m 47) .done)))))
abbrev r390_8 : AI := o 37 (m 8) (o 38 (m 9) (o 39 (m 2) (o 40 (.conv (.int .u64) (.t 39)) (o 41 (.call 395 [.t 37, .t 38, .t 40]) (o 36 (m 41) (o 42 (ex 36 0) (o 43 (ex 36 1) (o 10 (m 42) (o 11 (m 43) .done)))))))))
abbrev r390_7 : AI := o 6 (.mov (ki 0)) (o 7 (.mov (ki 10)) .done)
abbrev r390_6 : AI := o 32 (m 8) (o 33 (m 2) (o 34 (.conv (.int .u64) (.t 33)) (o 35 (b2 .geq 32 34) .done)))
abbrev r390_5 : AI := o 25 (m 0) (o 26 (.conv (.int .u64) (.t 25)) (o 27 (m 1) (o 28 (.conv (.int .u64) (.t 27)) (o 29 (c2 394 26 28) (o 24 (m 29) (o 30 (ex 24 0) (o 31 (ex 24 1) (o 8 (m 30) (o 9 (m 31) .done)))))))))
abbrev r390_4 : AI := o 6 (.mov (ki 0)) (o 7 (.mov (ki 11)) .done)
abbrev r390_3 : AI := o 22 (m 2) (o 23 (bk .eql 22 0) .done)
abbrev r390_2 : AI := o 6 (.mov (ki 0)) (o 7 (.mov (ki 22)) .done)
abbrev r390_1 : AI := o 12 (m 0) (o 13 (bk .lss 12 0) (o 14 (m 13) (.scs 17 (.t 14) false (o 15 (m 1) (o 16 (bk .lss 15 0) .done)) (.t 16) (o 18 (m 17) (.scs 21 (.t 18) false (o 19 (m 2) (o 20 (bk .lss 19 0) .done)) (.t 20) .done)))))
abbrev r390_0 : AI := o 6 (.mov (ki 0)) (o 7 (.mov (ki 0)) .done)
abbrev nums_MulDiv_c_y : AC := sr r390_0 (.keep [0, 1, 2] [] (.seq (sr r390_1 (.keep [0, 1, 2, 21] [] (cd 21 (.keep [] [] (sr r390_2 (.keep [6, 7] [] .ret))) .skip))) (.keep [0, 1, 2] [] (.seq (sr r390_3 (.keep [0, 1, 2, 23] [] (cd 23 (.keep [] [] (sr r390_4 (.keep [6, 7] [] .ret))) .skip))) (.keep [0, 1, 2] [] (sr r390_5 (.keep [2, 8, 9] [] (.seq (sr r390_6 (.keep [2, 8, 9, 35] [] (cd 35 (.keep [] [] (sr r390_7 (.keep [6, 7] [] .ret))) .skip))) (.keep [2, 8, 9] [] (sr r390_8 (.keep [10] [] (sr r390_9 (.keep [6, 7] [] .ret)))))))))))))
def nums_MulDiv_c : AC := nums_MulDiv_c_y
def nums_MulDiv_f : AFn := ⟨nums_MulDiv_c, [.t 6, .t 7], 0, 0, []⟩
abbrev r389_4 : AI := o 18 (m 6) (o 4 (m 18) (o 5 (.mov (ki 0)) .done))
abbrev r389_3 : AI := o 4 (.mov (ki 0)) (o 5 (.mov (ki 10)) .done)
abbrev r389_2 : AI := o 10 (m 0) (o 11 (m 6) (o 12 (b2 .xor 10 11) (o 13 (m 1) (o 14 (m 6) (o 15 (b2 .xor 13 14) (o 16 (b2 .and 12 15) (o 17 (bk .lss 16 0) .done)))))))
abbrev r389_1 : AI := o 7 (m 0) (o 8 (m 1) (o 9 (b2 .add 7 8) (o 6 (m 9) .done)))
abbrev r389_0 : AI := o 4 (.mov (ki 0)) (o 5 (.mov (ki 0)) .done)
abbrev nums_Add_c_y : AC := sr r389_0 (.keep [0, 1] [] (sr r389_1 (.keep [0, 1, 6] [] (.seq (sr r389_2 (.keep [6, 17] [] (cd 17 (.keep [] [] (sr r389_3 (.keep [4, 5] [] .ret))) .skip))) (.keep [6] [] (sr r389_4 (.keep [4, 5] [] .ret)))))))
def nums_Add_c : AC := nums_Add_c_y
def nums_Add_f : AFn := ⟨nums_Add_c, [.t 4, .t 5], 0, 0, []⟩
abbrev r394_11 : AI := o 48 (m 0) (o 49 (m 1) (o 50 (b2 .mul 48 49) (o 5 (m 50) .done)))
abbrev r394_10 : AI := o 40 (m 7) (o 41 (m 9) (o 42 (b2 .mul 40 41) (o 43 (m 13) (o 44 (b2 .add 42 43) (o 45 (m 12) (o 46 (.shf false (.t 45) (.k (.c (.int .u64 32)))) (o 47 (b2 .add 44 46) (o 4 (m 47) .done))))))))
abbrev r394_9 : AI := o 35 (m 12) (o 36 (m 6) (o 37 (m 9) (o 38 (b2 .mul 36 37) (o 39 (b2 .add 35 38) (o 12 (m 39) .done)))))
abbrev r394_8 : AI := o 33 (m 11) (o 34 (.shf false (.t 33) (.k (.c (.int .u64 32)))) (o 13 (m 34) .done))
abbrev r394_7 : AI := o 31 (m 11) (o 32 (.bin .and (.t 31) (.k (.c (.int .u64 4294967295)))) (o 12 (m 32) .done))
abbrev r394_6 : AI := o 25 (m 7) (o 26 (m 8) (o 27 (b2 .mul 25 26) (o 28 (m 10) (o 29 (.shf false (.t 28) (.k (.c (.int .u64 32)))) (o 30 (b2 .add 27 29) (o 11 (m 30) .done))))))
abbrev r394_5 : AI := o 22 (m 6) (o 23 (m 8) (o 24 (b2 .mul 22 23) (o 10 (m 24) .done)))
abbrev r394_4 : AI := o 20 (m 1) (o 21 (.shf false (.t 20) (.k (.c (.int .u64 32)))) (o 9 (m 21) .done))
abbrev r394_3 : AI := o 18 (m 1) (o 19 (.bin .and (.t 18) (.k (.c (.int .u64 4294967295)))) (o 8 (m 19) .done))
abbrev r394_2 : AI := o 16 (m 0) (o 17 (.shf false (.t 16) (.k (.c (.int .u64 32)))) (o 7 (m 17) .done))
abbrev r394_1 : AI := o 14 (m 0) (o 15 (.bin .and (.t 14) (.k (.c (.int .u64 4294967295)))) (o 6 (m 15) .done))
abbrev r394_0 : AI := o 4 (.mov (.k (.c (.int .u64 0)))) (o 5 (.mov (.k (.c (.int .u64 0)))) .done)
abbrev math_bits_Mul64_c_y : AC := sr r394_0 (.keep [0, 1] [] (sr r394_1 (.keep [0, 1, 6] [] (sr r394_2 (.keep [0, 1, 6, 7] [] (sr r394_3 (.keep [0, 1, 6, 7, 8] [] (sr r394_4 (.keep [0, 1, 6, 7, 8, 9] [] (sr r394_5 (.keep [0, 1, 6, 7, 8, 9, 10] [] (sr r394_6 (.keep [0, 1, 6, 7, 9, 11] [] (sr r394_7 (.keep [0, 1, 6, 7, 9, 11, 12] [] (sr r394_8 (.keep [0, 1, 6, 7, 9, 12, 13] [] (sr r394_9 (.keep [0, 1, 7, 9, 12, 13] [] (sr r394_10 (.keep [0, 1, 4] [] (sr r394_11 (.keep [4, 5] [] .ret)))))))))))))))))))))))
def math_bits_Mul64_c : AC := math_bits_Mul64_c_y
def math_bits_Mul64_f : AFn := ⟨math_bits_Mul64_c, [.t 4, .t 5], 0, 0, []⟩
abbrev r393_5 : AI := o 22 (m 0) (o 23 (.conv (.int .i64) (.t 22)) (o 4 (m 23) (o 5 (.mov (ki 0)) .done)))
abbrev r393_2 : AI := o 12 (m 0) (o 13 (.un .xor (.t 12)) (o 14 (.bin .add (.t 13) (.k (.c (.int .u64 1)))) (o 15 (.conv (.int .i64) (.t 14)) (o 4 (m 15) (o 5 (.mov (ki 0)) .done)))))
abbrev r393_4 : AI := o 4 (.mov (ki 0)) (o 5 (.mov (ki 10)) .done)
abbrev r393_3 : AI := o 17 (m 1) (o 18 (m 17) (.scs 21 (.t 18) false (o 19 (m 0) (o 20 (.bin .geq (.t 19) (.k (.c (.int .u64 9223372036854775808)))) .done)) (.t 20) (o 16 (m 21) .done)))
abbrev r393_1 : AI := o 7 (m 1) (o 8 (m 7) (.scs 11 (.t 8) true (o 9 (m 0) (o 10 (.bin .leq (.t 9) (.k (.c (.int .u64 9223372036854775808)))) .done)) (.t 10) (o 6 (m 11) .done)))
abbrev r393_0 : AI := o 4 (.mov (ki 0)) (o 5 (.mov (ki 0)) .done)
abbrev nums_signed_c_y : AC := sr r393_0 (.keep [0, 1] [] (.seq (.block 0 (sr r393_1 (.keep [0, 1, 6] [] (cd 6 (.keep [0] [] (sr r393_2 (.keep [4, 5] [] .ret))) (.keep [0, 1] [] (sr r393_3 (.keep [0, 16] [] (cd 16 (.keep [] [] (sr r393_4 (.keep [4, 5] [] .ret))) .skip)))))))) (.keep [0] [] (sr r393_5 (.keep [4, 5] [] .ret)))))
def nums_signed_c : AC := nums_signed_c_y
def nums_signed_f : AFn := ⟨nums_signed_c, [.t 4, .t 5], 0, 0, []⟩
abbrev r395_28 : AI := o 121 (m 15) (o 122 (.bin .mul (.t 121) (.k (.c (.int .u64 4294967296)))) (o 123 (m 18) (o 124 (b2 .add 122 123) (o 125 (m 17) (o 126 (.bin .mul (.t 125) (.k (.c (.int .u64 4294967296)))) (o 127 (m 14) (o 128 (b2 .add 126 127) (o 129 (m 18) (o 130 (m 2) (o 131 (b2 .mul 129 130) (o 132 (b2 .sub 128 131) (o 133 (m 8) (o 134 (.shf false (.t 132) (.t 133)) (o 6 (m 124) (o 7 (m 134) .done)))))))))))))))
abbrev r395_27 : AI := o 119 (m 16) (o 120 (.bin .geq (.t 119) (.k (.c (.int .u64 4294967296)))) .done)
abbrev r395_26 : AI := o 116 (m 16) (o 117 (m 9) (o 118 (b2 .add 116 117) (o 16 (m 118) .done)))
abbrev r395_25 : AI := o 114 (m 18) (o 115 (.bin .sub (.t 114) (.k (.c (.int .u64 1)))) (o 18 (m 115) .done))
abbrev r395_24 : AI := o 102 (m 18) (o 103 (.bin .geq (.t 102) (.k (.c (.int .u64 4294967296)))) (o 104 (m 103) (.scs 113 (.t 104) false (o 105 (m 18) (o 106 (m 10) (o 107 (b2 .mul 105 106) (o 108 (m 16) (o 109 (.bin .mul (.k (.c (.int .u64 4294967296))) (.t 108)) (o 110 (m 14) (o 111 (b2 .add 109 110) (o 112 (b2 .gtr 107 111) .done)))))))) (.t 112) .done)))
abbrev r395_23 : AI := o 97 (m 17) (o 98 (m 18) (o 99 (m 9) (o 100 (b2 .mul 98 99) (o 101 (b2 .sub 97 100) (o 16 (m 101) .done)))))
abbrev r395_22 : AI := o 94 (m 17) (o 95 (m 9) (o 96 (b2 .quo 94 95) (o 18 (m 96) .done)))
abbrev r395_21 : AI := o 86 (m 11) (o 87 (.bin .mul (.t 86) (.k (.c (.int .u64 4294967296)))) (o 88 (m 13) (o 89 (b2 .add 87 88) (o 90 (m 15) (o 91 (m 2) (o 92 (b2 .mul 90 91) (o 93 (b2 .sub 89 92) (o 17 (m 93) .done))))))))
abbrev r395_20 : AI := o 84 (m 16) (o 85 (.bin .geq (.t 84) (.k (.c (.int .u64 4294967296)))) .done)
abbrev r395_19 : AI := o 81 (m 16) (o 82 (m 9) (o 83 (b2 .add 81 82) (o 16 (m 83) .done)))
abbrev r395_18 : AI := o 79 (m 15) (o 80 (.bin .sub (.t 79) (.k (.c (.int .u64 1)))) (o 15 (m 80) .done))
abbrev r395_17 : AI := o 67 (m 15) (o 68 (.bin .geq (.t 67) (.k (.c (.int .u64 4294967296)))) (o 69 (m 68) (.scs 78 (.t 69) false (o 70 (m 15) (o 71 (m 10) (o 72 (b2 .mul 70 71) (o 73 (m 16) (o 74 (.bin .mul (.k (.c (.int .u64 4294967296))) (.t 73)) (o 75 (m 13) (o 76 (b2 .add 74 75) (o 77 (b2 .gtr 72 76) .done)))))))) (.t 77) .done)))
abbrev r395_16 : AI := o 62 (m 11) (o 63 (m 15) (o 64 (m 9) (o 65 (b2 .mul 63 64) (o 66 (b2 .sub 62 65) (o 16 (m 66) .done)))))
abbrev r395_15 : AI := o 59 (m 11) (o 60 (m 9) (o 61 (b2 .quo 59 60) (o 15 (m 61) .done)))
abbrev r395_14 : AI := o 57 (m 12) (o 58 (.bin .and (.t 57) (.k (.c (.int .u64 4294967295)))) (o 14 (m 58) .done))
abbrev r395_13 : AI := o 55 (m 12) (o 56 (.shf false (.t 55) (.k (.c (.int .u64 32)))) (o 13 (m 56) .done))
abbrev r395_12 : AI := o 52 (m 1) (o 53 (m 8) (o 54 (.shf true (.t 52) (.t 53)) (o 12 (m 54) .done)))
abbrev r395_11 : AI := o 44 (m 0) (o 45 (m 8) (o 46 (.shf true (.t 44) (.t 45)) (o 47 (m 1) (o 48 (m 8) (o 49 (.bin .sub (.k (.c (.int .u64 64))) (.t 48)) (o 50 (.shf false (.t 47) (.t 49)) (o 51 (b2 .or 46 50) (o 11 (m 51) .done))))))))
abbrev r395_10 : AI := o 42 (m 2) (o 43 (.bin .and (.t 42) (.k (.c (.int .u64 4294967295)))) (o 10 (m 43) .done))
abbrev r395_9 : AI := o 40 (m 2) (o 41 (.shf false (.t 40) (.k (.c (.int .u64 32)))) (o 9 (m 41) .done))
abbrev r395_8 : AI := o 37 (m 2) (o 38 (m 8) (o 39 (.shf true (.t 37) (.t 38)) (o 2 (m 39) .done)))
abbrev r395_7 : AI := o 34 (m 2) (o 35 (c1 396 34) (o 36 (.conv (.int .u64) (.t 35)) (o 8 (m 36) .done)))
abbrev r395_6 : AI := o 7 (m 33) .done
abbrev r395_5 : AI := o 26 (m 0) (o 27 (.bin .eql (.t 26) (.k (.c (.int .u64 0)))) .done)
abbrev r395_3 : AI := o 22 (m 2) (o 23 (m 0) (o 24 (b2 .leq 22 23) .done))
abbrev r395_1 : AI := o 19 (m 2) (o 20 (.bin .eql (.t 19) (.k (.c (.int .u64 0)))) .done)
abbrev r395_0 : AI := o 6 (.mov (.k (.c (.int .u64 0)))) (o 7 (.mov (.k (.c (.int .u64 0)))) .done)
abbrev r395_6q : List DIt := [d 28 (m 1), d 29 (m 2), d 30 (.bin .quo (.t 28) (.t 29)), d 31 (m 1), d 32 (m 2), d 33 (.bin .rem (.t 31) (.t 32)), d 6 (m 30)]
abbrev math_bits_Div64_l1b_y : AC := .seq (sr r395_24 (.keep [2, 8, 9, 10, 14, 15, 16, 17, 18, 113] [] (cd 113 .skip (.keep [2, 8, 14, 15, 17, 18] [] (.exit 2))))) (.keep [2, 8, 9, 10, 14, 15, 16, 17, 18] [] (.block 3 (sr r395_25 (.keep [2, 8, 9, 10, 14, 15, 16, 17, 18] [] (sr r395_26 (.keep [2, 8, 9, 10, 14, 15, 16, 17, 18] [] (sr r395_27 (.keep [2, 8, 9, 10, 14, 15, 16, 17, 18, 120] [] (cd 120 (.keep [2, 8, 14, 15, 17, 18] [] (.exit 2)) .skip)))))))))
def math_bits_Div64_l1b : AC := math_bits_Div64_l1b_y
abbrev math_bits_Div64_l1_y : AC := .keep [2, 8, 9, 10, 14, 15, 16, 17, 18] [] (math_bits_Div64_l1b)
def math_bits_Div64_l1 : AC := math_bits_Div64_l1_y
abbrev math_bits_Div64_l2b_y : AC := .seq (sr r395_17 (.keep [2, 8, 9, 10, 11, 13, 14, 15, 16, 78] [] (cd 78 .skip (.keep [2, 8, 9, 10, 11, 13, 14, 15] [] (.exit 0))))) (.keep [2, 8, 9, 10, 11, 13, 14, 15, 16] [] (.block 1 (sr r395_18 (.keep [2, 8, 9, 10, 11, 13, 14, 15, 16] [] (sr r395_19 (.keep [2, 8, 9, 10, 11, 13, 14, 15, 16] [] (sr r395_20 (.keep [2, 8, 9, 10, 11, 13, 14, 15, 16, 85] [] (cd 85 (.keep [2, 8, 9, 10, 11, 13, 14, 15] [] (.exit 0)) .skip)))))))))
def math_bits_Div64_l2b : AC := math_bits_Div64_l2b_y
abbrev math_bits_Div64_l2_y : AC := .keep [2, 8, 9, 10, 11, 13, 14, 15, 16] [] (math_bits_Div64_l2b)
def math_bits_Div64_l2 : AC := math_bits_Div64_l2_y
abbrev math_bits_Div64_c_y : AC := sr r395_0 (.keep [0, 1, 2] [] (.seq (sr r395_1 (.keep [0, 1, 2, 20] [] (cd 20 (.keep [] [] (.any)) .skip))) (.keep [0, 1, 2] [] (.seq (sr r395_3 (.keep [0, 1, 2, 24] [] (cd 24 (.keep [] [] (.any)) .skip))) (.keep [0, 1, 2] [] (.seq (sr r395_5 (.keep [0, 1, 2, 27] [] (cd 27 (.keep [1, 2] [] (.seq (.draw r395_6q [] [] r395_6) (.keep [6, 7] [] .ret))) .skip))) (.keep [0, 1, 2] [] (sr r395_7 (.keep [0, 1, 2, 8] [] (sr r395_8 (.keep [0, 1, 2, 8] [] (sr r395_9 (.keep [0, 1, 2, 8, 9] [] (sr r395_10 (.keep [0, 1, 2, 8, 9, 10] [] (sr r395_11 (.keep [1, 2, 8, 9, 10, 11] [] (sr r395_12 (.keep [2, 8, 9, 10, 11, 12] [] (sr r395_13 (.keep [2, 8, 9, 10, 11, 12, 13] [] (sr r395_14 (.keep [2, 8, 9, 10, 11, 13, 14] [] (sr r395_15 (.keep [2, 8, 9, 10, 11, 13, 14, 15] [] (sr r395_16 (.keep [2, 8, 9, 10, 11, 13, 14, 15, 16] [] (.seq (.block 0 (.loop math_bits_Div64_l2)) (.keep [2, 8, 9, 10, 11, 13, 14, 15] [] (sr r395_21 (.keep [2, 8, 9, 10, 14, 15, 17] [] (sr r395_22 (.keep [2, 8, 9, 10, 14, 15, 17, 18] [] (sr r395_23 (.keep [2, 8, 9, 10, 14, 15, 16, 17, 18] [] (.seq (.block 2 (.loop math_bits_Div64_l1)) (.keep [2, 8, 14, 15, 17, 18] [] (sr r395_28 (.keep [6, 7] [] .ret)))))))))))))))))))))))))))))))))))))))
def math_bits_Div64_c : AC := math_bits_Div64_c_y
def math_bits_Div64_f : AFn := ⟨math_bits_Div64_c, [.t 6, .t 7], 0, 0, []⟩
abbrev r396_1 : AI := o 3 (m 0) (o 4 (c1 329 3) (o 5 (.bin .sub (ki 64) (.t 4)) (o 2 (m 5) .done)))
abbrev r396_0 : AI := o 2 (.mov (ki 0)) .done
abbrev math_bits_LeadingZeros64_c_y : AC := sr r396_0 (.keep [0] [] (sr r396_1 (.keep [2] [] .ret)))
def math_bits_LeadingZeros64_c : AC := math_bits_LeadingZeros64_c_y
def math_bits_LeadingZeros64_f : AFn := ⟨math_bits_LeadingZeros64_c, [.t 2], 0, 0, []⟩
theorem ref08_Hundredths_c_x (Γ : Env) (N : Nat) (s : St) : exec Γ N ref08_Hundredths_c s = exec Γ N ref08_Hundredths_c_y s := rfl
theorem ref02_Fixed_l1b_x (Γ : Env) (N : Nat) (s : St) : exec Γ N ref02_Fixed_l1b s = exec Γ N ref02_Fixed_l1b_y s := rfl
theorem ref02_Fixed_l1_x (Γ : Env) (N : Nat) (s : St) : exec Γ N ref02_Fixed_l1 s = exec Γ N ref02_Fixed_l1_y s := rfl
theorem ref02_Fixed_l2b_x (Γ : Env) (N : Nat) (s : St) : exec Γ N ref02_Fixed_l2b s = exec Γ N ref02_Fixed_l2b_y s := rfl
theorem ref02_Fixed_l2_x (Γ : Env) (N : Nat) (s : St) : exec Γ N ref02_Fixed_l2 s = exec Γ N ref02_Fixed_l2_y s := rfl
theorem ref02_Fixed_c_x (Γ : Env) (N : Nat) (s : St) : exec Γ N ref02_Fixed_c s = exec Γ N ref02_Fixed_c_y s := rfl
theorem ref08_Right_c_x (Γ : Env) (N : Nat) (s : St) : exec Γ N ref08_Right_c s = exec Γ N ref08_Right_c_y s := rfl
theorem ref01_Times_c_x (Γ : Env) (N : Nat) (s : St) : exec Γ N ref01_Times_c s = exec Γ N ref01_Times_c_y s := rfl
theorem ref01_Over_l1b_x (Γ : Env) (N : Nat) (s : St) : exec Γ N ref01_Over_l1b s = exec Γ N ref01_Over_l1b_y s := rfl
theorem ref01_Over_l1_x (Γ : Env) (N : Nat) (s : St) : exec Γ N ref01_Over_l1 s = exec Γ N ref01_Over_l1_y s := rfl
theorem ref01_Over_c_x (Γ : Env) (N : Nat) (s : St) : exec Γ N ref01_Over_c s = exec Γ N ref01_Over_c_y s := rfl
theorem ref01_Mul_c_x (Γ : Env) (N : Nat) (s : St) : exec Γ N ref01_Mul_c s = exec Γ N ref01_Mul_c_y s := rfl
theorem ref01_Add_c_x (Γ : Env) (N : Nat) (s : St) : exec Γ N ref01_Add_c s = exec Γ N ref01_Add_c_y s := rfl
theorem ref01_signed_c_x (Γ : Env) (N : Nat) (s : St) : exec Γ N ref01_signed_c s = exec Γ N ref01_signed_c_y s := rfl
theorem frac_Of_c_x (Γ : Env) (N : Nat) (s : St) : exec Γ N frac_Of_c s = exec Γ N frac_Of_c_y s := rfl
theorem frac_Hundredths_c_x (Γ : Env) (N : Nat) (s : St) : exec Γ N frac_Hundredths_c s = exec Γ N frac_Hundredths_c_y s := rfl
theorem digits_Fixed_l1b_x (Γ : Env) (N : Nat) (s : St) : exec Γ N digits_Fixed_l1b s = exec Γ N digits_Fixed_l1b_y s := rfl
theorem digits_Fixed_l1_x (Γ : Env) (N : Nat) (s : St) : exec Γ N digits_Fixed_l1 s = exec Γ N digits_Fixed_l1_y s := rfl
theorem digits_Fixed_c_x (Γ : Env) (N : Nat) (s : St) : exec Γ N digits_Fixed_c s = exec Γ N digits_Fixed_c_y s := rfl
theorem frac_Right_c_x (Γ : Env) (N : Nat) (s : St) : exec Γ N frac_Right_c s = exec Γ N frac_Right_c_y s := rfl
theorem nums_Mul_c_x (Γ : Env) (N : Nat) (s : St) : exec Γ N nums_Mul_c s = exec Γ N nums_Mul_c_y s := rfl
theorem nums_MulDiv_c_x (Γ : Env) (N : Nat) (s : St) : exec Γ N nums_MulDiv_c s = exec Γ N nums_MulDiv_c_y s := rfl
theorem nums_Add_c_x (Γ : Env) (N : Nat) (s : St) : exec Γ N nums_Add_c s = exec Γ N nums_Add_c_y s := rfl
theorem math_bits_Mul64_c_x (Γ : Env) (N : Nat) (s : St) : exec Γ N math_bits_Mul64_c s = exec Γ N math_bits_Mul64_c_y s := rfl
theorem nums_signed_c_x (Γ : Env) (N : Nat) (s : St) : exec Γ N nums_signed_c s = exec Γ N nums_signed_c_y s := rfl
theorem math_bits_Div64_l1b_x (Γ : Env) (N : Nat) (s : St) : exec Γ N math_bits_Div64_l1b s = exec Γ N math_bits_Div64_l1b_y s := rfl
theorem math_bits_Div64_l1_x (Γ : Env) (N : Nat) (s : St) : exec Γ N math_bits_Div64_l1 s = exec Γ N math_bits_Div64_l1_y s := rfl
theorem math_bits_Div64_l2b_x (Γ : Env) (N : Nat) (s : St) : exec Γ N math_bits_Div64_l2b s = exec Γ N math_bits_Div64_l2b_y s := rfl
theorem math_bits_Div64_l2_x (Γ : Env) (N : Nat) (s : St) : exec Γ N math_bits_Div64_l2 s = exec Γ N math_bits_Div64_l2_y s := rfl
theorem math_bits_Div64_c_x (Γ : Env) (N : Nat) (s : St) : exec Γ N math_bits_Div64_c s = exec Γ N math_bits_Div64_c_y s := rfl
theorem math_bits_LeadingZeros64_c_x (Γ : Env) (N : Nat) (s : St) : exec Γ N math_bits_LeadingZeros64_c s = exec Γ N math_bits_LeadingZeros64_c_y s := rfl
attribute [simp] ref08_Hundredths_c_y ref02_Fixed_l1b_y ref02_Fixed_l1_y ref02_Fixed_l2b_y ref02_Fixed_l2_y ref02_Fixed_c_y ref08_Right_c_y ref01_Times_c_y ref01_Over_l1b_y ref01_Over_l1_y ref01_Over_c_y ref01_Mul_c_y ref01_Add_c_y ref01_signed_c_y frac_Of_c_y frac_Hundredths_c_y digits_Fixed_l1b_y digits_Fixed_l1_y digits_Fixed_c_y frac_Right_c_y nums_Mul_c_y nums_MulDiv_c_y nums_Add_c_y math_bits_Mul64_c_y nums_signed_c_y math_bits_Div64_l1b_y math_bits_Div64_l1_y math_bits_Div64_l2b_y math_bits_Div64_l2_y math_bits_Div64_c_y math_bits_LeadingZeros64_c_y
attribute [simp] ref08_Hundredths_c_x ref08_Hundredths_f ref02_Fixed_l1b_x ref02_Fixed_l2b_x ref02_Fixed_c_x ref02_Fixed_f ref08_Right_c_x ref08_Right_f ref01_Times_c_x ref01_Times_f ref01_Over_l1b_x ref01_Over_c_x ref01_Over_f ref01_Mul_c_x ref01_Mul_f ref01_Add_c_x ref01_Add_f ref01_signed_c_x ref01_signed_f frac_Of_c_x frac_Of_f frac_Hundredths_c_x frac_Hundredths_f digits_Fixed_l1b_x digits_Fixed_c_x digits_Fixed_f frac_Right_c_x frac_Right_f nums_Mul_c_x nums_Mul_f nums_MulDiv_c_x nums_MulDiv_f nums_Add_c_x nums_Add_f math_bits_Mul64_c_x math_bits_Mul64_f nums_signed_c_x nums_signed_f math_bits_Div64_l1b_x math_bits_Div64_l2b_x math_bits_Div64_c_x math_bits_Div64_f math_bits_LeadingZeros64_c_x math_bits_LeadingZeros64_f
end Go.Am
namespace Go.Am
open Cx
abbrev r51_5 : AI := o 2 (.mov (ki 0)) .done
abbrev r51_2 : AI := o 2 (.mov (ki 2)) .done
abbrev r51_4 : AI := o 2 (.mov (ki 1)) .done
abbrev r51_3 : AI := o 8 (fa 1 5) (o 9 (l1 8) (o 10 (bk .geq 9 0) (o 7 (m 10) .done)))
abbrev r51_1 : AI := o 4 (fa 1 6) (o 5 (l1 4) (o 6 (bk .geq 5 0) (o 3 (m 6) .done)))
abbrev r51_0 : AI := o 1 (.box 1 (.t 0)) (o 2 (.mov (ki 0)) .done)
abbrev trip_At_c_y : AC := sr r51_0 (.keep [1] [1] (.seq (.block 0 (sr r51_1 (.keep [1, 3] [1] (cd 3 (.keep [] [] (sr r51_2 (.keep [2] [] .ret))) (.keep [1] [1] (sr r51_3 (.keep [7] [] (cd 7 (.keep [] [] (sr r51_4 (.keep [2] [] .ret))) .skip)))))))) (.keep [] [] (sr r51_5 (.keep [2] [] .ret)))))
def trip_At_c : AC := trip_At_c_y
def trip_At_f : AFn := ⟨trip_At_c, [.t 2], 0, 0, []⟩
abbrev r408_8 : AI := o 20 (m 3) (o 2 (m 20) .done)
abbrev r408_7 : AI := o 19 (bk .add 8 1) (o 8 (m 19) .done)
abbrev r408_6 : AI := o 15 (m 3) (o 16 (ln 5 7) (o 17 (.bsl 7 zd7 1 [(0, 7, (.t 16))]) (o 18 (.app 18 7 56 (.t 15) (.t 17)) (o 3 (m 18) .done))))
abbrev r408_5 : AI := o 12 (ln 5 7) (o 13 (c1 51 12) (o 14 (bk .eql 13 2) .done))
abbrev r408_4 : AI := o 10 (ia 6 8 7) (o 11 (ln 10 7) (o 5 (.alc 5 za7) (so 7 5 11 .done)))
abbrev r408_3 : AI := o 9 (b2 .lss 8 7) .done
abbrev r408_2 : AI := o 6 (m 0) (o 7 (le 6) (o 8 (.mov (ki 0)) .done))
abbrev r408_1 : AI := o 3 (.mov (.k (.nil 7))) .done
abbrev r408_0 : AI := o 2 (.mov (.k (.nil 7))) .done
abbrev trip_done_l1b_y : AC := sr r408_3 (.keep [3, 6, 7, 8, 9] [3, 18] (.seq (cd 9 .skip (.keep [3] [3, 18] (.exit 0))) (.keep [3, 6, 7, 8] [3, 18] (.seq (.block 1 (sr r408_4 (.keep [3, 5, 6, 7, 8] [3, 5, 18] (sr r408_5 (.keep [3, 5, 6, 7, 8, 14] [3, 5, 18] (cd 14 (.keep [3, 5, 6, 7, 8] [3, 5, 18] (rg r408_6)) .skip)))))) (.keep [3, 6, 7, 8] [3, 18] (rg r408_7))))))
def trip_done_l1b : AC := trip_done_l1b_y
abbrev trip_done_l1_y : AC := .keep [3, 6, 7, 8] [3, 18] (trip_done_l1b)
def trip_done_l1 : AC := trip_done_l1_y
abbrev trip_done_c_y : AC := sr r408_0 (.keep [0] [] (sr r408_1 (.keep [0, 3] [3, 18] (.own 3 3 (.seq (sr r408_2 (.keep [3, 6, 7, 8] [3, 18] (.block 0 (.loop trip_done_l1)))) (.keep [3] [3, 18] (sr r408_8 (.keep [2] [3, 18] .ret))))))))
def trip_done_c : AC := trip_done_c_y
def trip_done_f : AFn := ⟨trip_done_c, [.t 2], 0, 0, []⟩
abbrev r405_7 : AI := o 22 (m 3) (o 2 (m 22) .done)
abbrev r405_6 : AI := o 21 (bk .add 9 1) (o 9 (m 21) .done)
abbrev r405_5 : AI := o 13 (m 3) (o 14 (fa 5 5) (o 15 (l1 14) (o 16 (fa 5 1) (o 17 (l1 16) (o 18 (b2 .sub 15 17) (o 19 (.bsl 1 zd1 1 [(0, 1, (.t 18))]) (o 20 (.app 20 1 8 (.t 13) (.t 19)) (o 3 (m 20) .done))))))))
abbrev r405_4 : AI := o 11 (ia 7 9 7) (o 12 (ln 11 7) (o 5 (.alc 5 za7) (so 7 5 12 .done)))
abbrev r405_3 : AI := o 10 (b2 .lss 9 8) .done
abbrev r405_2 : AI := o 6 (m 0) (o 7 (c1 408 6) (o 8 (le 7) (o 9 (.mov (ki 0)) .done)))
abbrev r405_1 : AI := o 3 (.mov (.k (.nil 1))) .done
abbrev r405_0 : AI := o 2 (.mov (.k (.nil 1))) .done
abbrev trip_Waits_l1b_y : AC := sr r405_3 (.keep [3, 7, 8, 9, 10] [3, 20] (.seq (cd 10 .skip (.keep [3] [3, 20] (.exit 0))) (.keep [3, 7, 8, 9] [3, 20] (.seq (.block 1 (sr r405_4 (.keep [3, 5, 7, 8, 9] [3, 5, 20] (rg r405_5)))) (.keep [3, 7, 8, 9] [3, 20] (rg r405_6))))))
def trip_Waits_l1b : AC := trip_Waits_l1b_y
abbrev trip_Waits_l1_y : AC := .keep [3, 7, 8, 9] [3, 20] (trip_Waits_l1b)
def trip_Waits_l1 : AC := trip_Waits_l1_y
abbrev trip_Waits_c_y : AC := sr r405_0 (.keep [0] [] (sr r405_1 (.keep [0, 3] [3, 20] (.own 3 3 (.seq (sr r405_2 (.keep [3, 7, 8, 9] [3, 20] (.block 0 (.loop trip_Waits_l1)))) (.keep [3] [3, 20] (sr r405_7 (.keep [2] [3, 20] .ret))))))))
def trip_Waits_c : AC := trip_Waits_c_y
def trip_Waits_f : AFn := ⟨trip_Waits_c, [.t 2], 0, 0, []⟩
abbrev r406_7 : AI := o 22 (m 3) (o 2 (m 22) .done)
abbrev r406_6 : AI := o 21 (bk .add 9 1) (o 9 (m 21) .done)
abbrev r406_5 : AI := o 13 (m 3) (o 14 (fa 5 6) (o 15 (l1 14) (o 16 (fa 5 5) (o 17 (l1 16) (o 18 (b2 .sub 15 17) (o 19 (.bsl 1 zd1 1 [(0, 1, (.t 18))]) (o 20 (.app 20 1 8 (.t 13) (.t 19)) (o 3 (m 20) .done))))))))
abbrev r406_4 : AI := o 11 (ia 7 9 7) (o 12 (ln 11 7) (o 5 (.alc 5 za7) (so 7 5 12 .done)))
abbrev r406_3 : AI := o 10 (b2 .lss 9 8) .done
abbrev r406_2 : AI := o 6 (m 0) (o 7 (c1 408 6) (o 8 (le 7) (o 9 (.mov (ki 0)) .done)))
abbrev r406_1 : AI := o 3 (.mov (.k (.nil 1))) .done
abbrev r406_0 : AI := o 2 (.mov (.k (.nil 1))) .done
abbrev trip_Transits_l1b_y : AC := sr r406_3 (.keep [3, 7, 8, 9, 10] [3, 20] (.seq (cd 10 .skip (.keep [3] [3, 20] (.exit 0))) (.keep [3, 7, 8, 9] [3, 20] (.seq (.block 1 (sr r406_4 (.keep [3, 5, 7, 8, 9] [3, 5, 20] (rg r406_5)))) (.keep [3, 7, 8, 9] [3, 20] (rg r406_6))))))
def trip_Transits_l1b : AC := trip_Transits_l1b_y
abbrev trip_Transits_l1_y : AC := .keep [3, 7, 8, 9] [3, 20] (trip_Transits_l1b)
def trip_Transits_l1 : AC := trip_Transits_l1_y
abbrev trip_Transits_c_y : AC := sr r406_0 (.keep [0] [] (sr r406_1 (.keep [0, 3] [3, 20] (.own 3 3 (.seq (sr r406_2 (.keep [3, 7, 8, 9] [3, 20] (.block 0 (.loop trip_Transits_l1)))) (.keep [3] [3, 20] (sr r406_7 (.keep [2] [3, 20] .ret))))))))
def trip_Transits_c : AC := trip_Transits_c_y
def trip_Transits_f : AFn := ⟨trip_Transits_c, [.t 2], 0, 0, []⟩
abbrev r403_7 : AI := o 4 (m 26) .done
abbrev r403_6 : AI := o 20 (bk .add 10 1) (o 10 (m 20) .done)
abbrev r403_5 : AI := o 14 (ln 7 7) (o 15 (c1 51 14) (o 16 (.iadA (.t 5) (.t 15) 3 1) (o 17 (l1 16) (o 18 (bk .add 17 1) (o 19 (.iadA (.t 5) (.t 15) 3 1) (so 1 19 18 .done))))))
abbrev r403_4 : AI := o 12 (ia 8 10 7) (o 13 (ln 12 7) (o 7 (.alc 7 za7) (so 7 7 13 .done)))
abbrev r403_3 : AI := o 11 (b2 .lss 10 9) .done
abbrev r403_2 : AI := o 8 (m 0) (o 9 (le 8) (o 10 (.mov (ki 0)) .done))
abbrev r403_1 : AI := o 5 (.alc 5 za3) .done
abbrev r403_0 : AI := o 2 (.mov (ki 0)) (o 3 (.mov (ki 0)) (o 4 (.mov (ki 0)) .done))
abbrev r403_7q : List DIt := [d 21 (.iadA (.t 5) (ki 2) 3 1), d 22 (l1 21), d 23 (.iadA (.t 5) (ki 1) 3 1), d 24 (l1 23), d 25 (.iadA (.t 5) (ki 0) 3 1), d 26 (l1 25), d 2 (m 22), d 3 (m 24)]
abbrev trip_Counts_l1b_y : AC := sr r403_3 (.keep [5, 8, 9, 10, 11] [5] (.seq (cd 11 .skip (.keep [5] [5] (.exit 0))) (.keep [5, 8, 9, 10] [5] (.seq (.block 1 (sr r403_4 (.keep [5, 7, 8, 9, 10] [5, 7] (rg r403_5)))) (.keep [5, 8, 9, 10] [5] (rg r403_6))))))
def trip_Counts_l1b : AC := trip_Counts_l1b_y
abbrev trip_Counts_l1_y : AC := .keep [5, 8, 9, 10] [5] (trip_Counts_l1b)
def trip_Counts_l1 : AC := trip_Counts_l1_y
abbrev trip_Counts_c_y : AC := sr r403_0 (.keep [0] [] (sr r403_1 (.keep [0, 5] [5] (.seq (sr r403_2 (.keep [5, 8, 9, 10] [5] (.block 0 (.loop trip_Counts_l1)))) (.keep [5] [5] (.seq (.draw r403_7q [] [] r403_7) (.keep [2, 3, 4] [] .ret)))))))
def trip_Counts_c : AC := trip_Counts_c_y
def trip_Counts_f : AFn := ⟨trip_Counts_c, [.t 2, .t 3, .t 4], 0, 0, []⟩
abbrev r407_5 : AI := o 2 (.mov (ki 0)) .done
abbrev r407_4 : AI := o 2 (.mov (ki 1)) .done
abbrev r407_3 : AI := o 6 (fa 1 5) (o 7 (l1 6) (o 8 (bk .geq 7 0) .done))
abbrev r407_2 : AI := o 2 (.mov (ki 2)) .done
abbrev r407_1 : AI := o 3 (fa 1 6) (o 4 (l1 3) (o 5 (bk .geq 4 0) .done))
abbrev r407_0 : AI := o 1 (.box 1 (.t 0)) (o 2 (.mov (ki 0)) .done)
abbrev ref24_At_c_y : AC := sr r407_0 (.keep [1] [1] (.seq (sr r407_1 (.keep [1, 5] [1] (cd 5 (.keep [] [] (sr r407_2 (.keep [2] [] .ret))) .skip))) (.keep [1] [1] (.seq (sr r407_3 (.keep [8] [] (cd 8 (.keep [] [] (sr r407_4 (.keep [2] [] .ret))) .skip))) (.keep [] [] (sr r407_5 (.keep [2] [] .ret)))))))
def ref24_At_c : AC := ref24_At_c_y
def ref24_At_f : AFn := ⟨ref24_At_c, [.t 2], 0, 0, []⟩
abbrev r401_9 : AI := o 48 (m 5) (o 4 (m 48) .done)
abbrev r401_4 : AI := o 11 (m 6) (o 12 (bk .add 11 1) (o 6 (m 12) .done))
abbrev r401_7 : AI := o 33 (.app 33 1 8 (.t 20) (.t 32)) (o 5 (m 33) .done)
abbrev r401_8 : AI := o 47 (.app 47 1 8 (.t 34) (.t 46)) (o 5 (m 47) .done)
abbrev r401_6 : AI := o 19 (m 1) .done
abbrev r401_5 : AI := o 13 (m 0) (o 14 (m 6) (o 15 (ia 13 14 7) (o 16 (ln 15 7) (o 17 (c1 407 16) (o 18 (bk .neq 17 2) .done)))))
abbrev r401_3 : AI := o 7 (m 6) (o 8 (m 0) (o 9 (le 8) (o 10 (b2 .lss 7 9) .done)))
abbrev r401_2 : AI := o 6 (.mov (ki 0)) .done
abbrev r401_1 : AI := o 5 (.mov (.k (.nil 1))) .done
abbrev r401_0 : AI := o 4 (.mov (.k (.nil 1))) .done
abbrev r401_7q : List DIt := [d 20 (m 5), d 21 (m 0), d 22 (m 6), d 23 (ia 21 22 7), d 24 (fa 23 5), d 25 (l1 24), d 26 (m 0), d 27 (m 6), d 28 (ia 26 27 7), d 29 (fa 28 1), d 30 (l1 29), d 31 (.bin .sub (.t 25) (.t 30)), d 32 (.bsl 1 zd1 1 [(0, 1, (.t 31))])]
abbrev r401_8q : List DIt := [d 34 (m 5), d 35 (m 0), d 36 (m 6), d 37 (ia 35 36 7), d 38 (fa 37 6), d 39 (l1 38), d 40 (m 0), d 41 (m 6), d 42 (ia 40 41 7), d 43 (fa 42 5), d 44 (l1 43), d 45 (.bin .sub (.t 39) (.t 44)), d 46 (.bsl 1 zd1 1 [(0, 1, (.t 45))])]
abbrev ref24_Waits_l1b_y : AC := .seq (sr r401_3 (.keep [0, 1, 5, 6, 10] [5, 33, 47] (cd 10 .skip (.keep [5] [5, 33, 47] (.exit 0))))) (.keep [0, 1, 5, 6] [5, 33, 47] (.seq (.block 1 (.seq (sr r401_5 (.keep [0, 1, 5, 6, 18] [5, 33, 47] (cd 18 (.keep [0, 1, 5, 6] [5, 33, 47] (.exit 1)) .skip))) (.keep [0, 1, 5, 6] [5, 33, 47] (sr r401_6 (.keep [0, 1, 5, 6, 19] [5, 33, 47] (cd 19 (.keep [0, 1, 5, 6] [5, 33, 47] (.draw r401_7q [] [] r401_7)) (.keep [0, 1, 5, 6] [5, 33, 47] (.draw r401_8q [] [] r401_8)))))))) (.keep [0, 1, 5, 6] [5, 33, 47] (rg r401_4))))
def ref24_Waits_l1b : AC := ref24_Waits_l1b_y
abbrev ref24_Waits_l1_y : AC := .keep [0, 1, 5, 6] [5, 33, 47] (ref24_Waits_l1b)
def ref24_Waits_l1 : AC := ref24_Waits_l1_y
abbrev ref24_Waits_c_y : AC := sr r401_0 (.keep [0, 1] [] (sr r401_1 (.keep [0, 1, 5] [5, 33, 47] (.own 5 5 (.seq (sr r401_2 (.keep [0, 1, 5, 6] [5, 33, 47] (.block 0 (.loop ref24_Waits_l1)))) (.keep [5] [5, 33, 47] (sr r401_9 (.keep [4] [5, 33, 47] .ret))))))))
def ref24_Waits_c : AC := ref24_Waits_c_y
def ref24_Waits_f : AFn := ⟨ref24_Waits_c, [.t 4], 0, 0, []⟩
abbrev r402_7 : AI := o 22 (m 5) (o 4 (m 22) .done)
abbrev r402_4 : AI := o 11 (m 6) (o 12 (bk .add 11 1) (o 6 (m 12) .done))
abbrev r402_6 : AI := o 20 (m 5) (o 21 (bk .add 20 1) (o 5 (m 21) .done))
abbrev r402_5 : AI := o 13 (m 0) (o 14 (m 6) (o 15 (ia 13 14 7) (o 16 (ln 15 7) (o 17 (c1 407 16) (o 18 (m 1) (o 19 (b2 .eql 17 18) .done))))))
abbrev r402_3 : AI := o 7 (m 6) (o 8 (m 0) (o 9 (le 8) (o 10 (b2 .lss 7 9) .done)))
abbrev r402_2 : AI := o 6 (.mov (ki 0)) .done
abbrev r402_1 : AI := o 5 (.mov (ki 0)) .done
abbrev r402_0 : AI := o 4 (.mov (ki 0)) .done
abbrev ref24_Many_l1b_y : AC := .seq (sr r402_3 (.keep [0, 1, 5, 6, 10] [] (cd 10 .skip (.keep [5] [] (.exit 0))))) (.keep [0, 1, 5, 6] [] (.seq (.block 1 (sr r402_5 (.keep [0, 1, 5, 6, 19] [] (cd 19 (.keep [0, 1, 5, 6] [] (rg r402_6)) .skip)))) (.keep [0, 1, 5, 6] [] (rg r402_4))))
def ref24_Many_l1b : AC := ref24_Many_l1b_y
abbrev ref24_Many_l1_y : AC := .keep [0, 1, 5, 6] [] (ref24_Many_l1b)
def ref24_Many_l1 : AC := ref24_Many_l1_y
abbrev ref24_Many_c_y : AC := sr r402_0 (.keep [0, 1] [] (sr r402_1 (.keep [0, 1, 5] [] (.seq (sr r402_2 (.keep [0, 1, 5, 6] [] (.block 0 (.loop ref24_Many_l1)))) (.keep [5] [] (sr r402_7 (.keep [4] [] .ret)))))))
def ref24_Many_c : AC := ref24_Many_c_y
def ref24_Many_f : AFn := ⟨ref24_Many_c, [.t 4], 0, 0, []⟩
abbrev r60_9 : AI := o 2 (.mov (kb false)) .done
abbrev r60_5 : AI := o 12 (m 3) (o 13 (bk .add 12 1) (o 3 (m 13) .done))
abbrev r60_8 : AI := o 2 (.mov (kb true)) .done
abbrev r60_7 : AI := o 18 (fa 4 1) (o 19 (l1 18) (o 20 (.bin .lss (.t 19) (.k (.c (.int .i64 (-1))))) (o 21 (m 20) (.scs 25 (.t 21) false (o 22 (fa 4 5) (o 23 (l1 22) (o 24 (.bin .lss (.t 23) (.k (.c (.int .i64 (-1))))) .done))) (.t 24) (o 26 (m 25) (.scs 30 (.t 26) false (o 27 (fa 4 6) (o 28 (l1 27) (o 29 (.bin .lss (.t 28) (.k (.c (.int .i64 (-1))))) .done))) (.t 29) (o 31 (m 30) (.scs 40 (.t 31) false (o 32 (fa 4 1) (o 33 (l1 32) (o 34 (fa 4 5) (o 35 (l1 34) (o 36 (fa 4 6) (o 37 (l1 36) (o 38 (.mx (.t 33) [.t 35, .t 37]) (o 39 (bk .gtr 38 1073741824) .done)))))))) (.t 39) .done))))))))
abbrev r60_6 : AI := o 14 (m 0) (o 15 (m 3) (o 16 (ia 14 15 7) (o 17 (ln 16 7) (o 4 (.alc 4 za7) (so 7 4 17 .done)))))
abbrev r60_4 : AI := o 8 (m 3) (o 9 (m 0) (o 10 (le 9) (o 11 (b2 .lss 8 10) .done)))
abbrev r60_3 : AI := o 3 (.mov (ki 0)) .done
abbrev r60_2 : AI := o 2 (.mov (kb true)) .done
abbrev r60_1 : AI := o 5 (m 0) (o 6 (le 5) (o 7 (bk .gtr 6 100) .done))
abbrev r60_0 : AI := o 2 (.mov (kb false)) .done
abbrev law24_Great_l1b_y : AC := .seq (sr r60_4 (.keep [0, 3, 11] [] (cd 11 .skip (.keep [] [] (.exit 0))))) (.keep [0, 3] [] (.seq (.block 1 (sr r60_6 (.keep [0, 3, 4] [4] (sr r60_7 (.keep [0, 3, 40] [] (cd 40 (.keep [] [] (sr r60_8 (.keep [2] [] .ret))) .skip)))))) (.keep [0, 3] [] (rg r60_5))))
def law24_Great_l1b : AC := law24_Great_l1b_y
abbrev law24_Great_l1_y : AC := .keep [0, 3] [] (law24_Great_l1b)
def law24_Great_l1 : AC := law24_Great_l1_y
abbrev law24_Great_c_y : AC := sr r60_0 (.keep [0] [] (.seq (sr r60_1 (.keep [0, 7] [] (cd 7 (.keep [] [] (sr r60_2 (.keep [2] [] .ret))) .skip))) (.keep [0] [] (.seq (sr r60_3 (.keep [0, 3] [] (.block 0 (.loop law24_Great_l1)))) (.keep [] [] (sr r60_9 (.keep [2] [] .ret)))))))
def law24_Great_c : AC := law24_Great_c_y
def law24_Great_f : AFn := ⟨law24_Great_c, [.t 2], 0, 0, []⟩
abbrev r248_3 : AI := o 16 (m 1) (o 17 (bk .quo 16 100) (o 18 (m 0) (o 19 (b2 .mul 17 18) (o 20 (m 1) (o 21 (bk .rem 20 100) (o 22 (m 0) (o 23 (b2 .mul 21 22) (o 24 (bk .add 23 99) (o 25 (bk .quo 24 100) (o 26 (b2 .add 19 25) (o 4 (m 26) (o 5 (.mov (ki 0)) .done))))))))))))
abbrev r248_2 : AI := o 4 (.mov (ki 0)) (o 5 (.mov (ki 22)) .done)
abbrev r248_1 : AI := o 6 (m 0) (o 7 (bk .lss 6 1) (o 8 (m 7) (.scs 11 (.t 8) false (o 9 (m 0) (o 10 (bk .gtr 9 100) .done)) (.t 10) (o 12 (m 11) (.scs 15 (.t 12) false (o 13 (m 1) (o 14 (bk .lss 13 1) .done)) (.t 14) .done)))))
abbrev r248_0 : AI := o 4 (.mov (ki 0)) (o 5 (.mov (ki 0)) .done)
abbrev rank_Place_c_y : AC := sr r248_0 (.keep [0, 1] [] (.seq (sr r248_1 (.keep [0, 1, 15] [] (cd 15 (.keep [] [] (sr r248_2 (.keep [4, 5] [] .ret))) .skip))) (.keep [0, 1] [] (sr r248_3 (.keep [4, 5] [] .ret)))))
def rank_Place_c : AC := rank_Place_c_y
def rank_Place_f : AFn := ⟨rank_Place_c, [.t 4, .t 5], 0, 0, []⟩
abbrev r252_6 : AI := o 23 (m 8) (o 24 (m 6) (o 25 (bk .sub 24 1) (o 26 (ia 23 25 1) (o 27 (l1 26) (o 4 (m 27) (o 5 (.mov (ki 0)) .done))))))
abbrev r252_5 : AI := o 21 (m 8) (o 22 (.callP 290 [.t 21]) .done)
abbrev r252_4 : AI := o 19 (m 1) (o 20 (.callP 367 [.t 19]) (o 8 (m 20) .done))
abbrev r252_3 : AI := o 18 (m 7) (o 4 (.mov (ki 0)) (o 5 (m 18) .done))
abbrev r252_2 : AI := o 16 (m 7) (o 17 (bk .neq 16 0) .done)
abbrev r252_1 : AI := o 10 (m 0) (o 11 (m 1) (o 12 (le 11) (o 13 (c2 248 10 12) (o 9 (m 13) (o 14 (ex 9 0) (o 15 (ex 9 1) (o 6 (m 14) (o 7 (m 15) .done))))))))
abbrev r252_0 : AI := o 4 (.mov (ki 0)) (o 5 (.mov (ki 0)) .done)
abbrev rank_Of_c_y : AC := sr r252_0 (.keepP [0, 1] 0 0 [] (sr r252_1 (.keepP [1, 6, 7] 0 0 [] (.seq (sr r252_2 (.keepP [1, 6, 7, 17] 0 0 [] (cd 17 (.keepP [7] 0 0 [] (sr r252_3 (.keepP [4, 5] 0 0 [] .ret))) .skip))) (.keepP [1, 6] 0 0 [] (sr r252_4 (.keepP [6, 8] 0 0 [] (sr r252_5 (.keepP [6, 8] 0 0 [] (sr r252_6 (.keepP [4, 5] 0 0 [] .ret)))))))))))
def rank_Of_c : AC := rank_Of_c_y
def rank_Of_f : AFn := ⟨rank_Of_c, [.t 4, .t 5], 0, 0, []⟩
abbrev r367_3 : AI := o 5 (.bso 367005 1 zd1 0 []) (o 6 (m 0) (o 7 (.app 367007 1 8 (.t 5) (.t 6)) (o 2 (m 7) .done)))
abbrev r367_2 : AI := o 2 (.mov (.k (.nil 1))) .done
abbrev r367_1 : AI := o 3 (m 0) (o 4 (.isn 2 false (.t 3)) .done)
abbrev r367_0 : AI := o 2 (.mov (.k (.nil 1))) .done
abbrev slices_Clone_Sint_int_P_c_y : AC := sr r367_0 (.keepP [0] 367000 368000 [] (.seq (sr r367_1 (.keepP [0, 4] 367000 368000 [] (cd 4 (.keepP [] 367000 368000 [] (sr r367_2 (.keepP [2] 367000 368000 [367005, 367007] .ret))) .skip))) (.keepP [0] 367000 368000 [] (sr r367_3 (.keepP [2] 367000 368000 [367005, 367007] .ret)))))
def slices_Clone_Sint_int_P_c : AC := slices_Clone_Sint_int_P_c_y
def slices_Clone_Sint_int_P_f : AFn := ⟨slices_Clone_Sint_int_P_c, [.t 2], 367000, 368000, [367005, 367007]⟩
theorem trip_At_c_x (Γ : Env) (N : Nat) (s : St) : exec Γ N trip_At_c s = exec Γ N trip_At_c_y s := rfl
theorem trip_done_l1b_x (Γ : Env) (N : Nat) (s : St) : exec Γ N trip_done_l1b s = exec Γ N trip_done_l1b_y s := rfl
theorem trip_done_l1_x (Γ : Env) (N : Nat) (s : St) : exec Γ N trip_done_l1 s = exec Γ N trip_done_l1_y s := rfl
theorem trip_done_c_x (Γ : Env) (N : Nat) (s : St) : exec Γ N trip_done_c s = exec Γ N trip_done_c_y s := rfl
theorem trip_Waits_l1b_x (Γ : Env) (N : Nat) (s : St) : exec Γ N trip_Waits_l1b s = exec Γ N trip_Waits_l1b_y s := rfl
theorem trip_Waits_l1_x (Γ : Env) (N : Nat) (s : St) : exec Γ N trip_Waits_l1 s = exec Γ N trip_Waits_l1_y s := rfl
theorem trip_Waits_c_x (Γ : Env) (N : Nat) (s : St) : exec Γ N trip_Waits_c s = exec Γ N trip_Waits_c_y s := rfl
theorem trip_Transits_l1b_x (Γ : Env) (N : Nat) (s : St) : exec Γ N trip_Transits_l1b s = exec Γ N trip_Transits_l1b_y s := rfl
theorem trip_Transits_l1_x (Γ : Env) (N : Nat) (s : St) : exec Γ N trip_Transits_l1 s = exec Γ N trip_Transits_l1_y s := rfl
theorem trip_Transits_c_x (Γ : Env) (N : Nat) (s : St) : exec Γ N trip_Transits_c s = exec Γ N trip_Transits_c_y s := rfl
theorem trip_Counts_l1b_x (Γ : Env) (N : Nat) (s : St) : exec Γ N trip_Counts_l1b s = exec Γ N trip_Counts_l1b_y s := rfl
theorem trip_Counts_l1_x (Γ : Env) (N : Nat) (s : St) : exec Γ N trip_Counts_l1 s = exec Γ N trip_Counts_l1_y s := rfl
theorem trip_Counts_c_x (Γ : Env) (N : Nat) (s : St) : exec Γ N trip_Counts_c s = exec Γ N trip_Counts_c_y s := rfl
theorem ref24_At_c_x (Γ : Env) (N : Nat) (s : St) : exec Γ N ref24_At_c s = exec Γ N ref24_At_c_y s := rfl
theorem ref24_Waits_l1b_x (Γ : Env) (N : Nat) (s : St) : exec Γ N ref24_Waits_l1b s = exec Γ N ref24_Waits_l1b_y s := rfl
theorem ref24_Waits_l1_x (Γ : Env) (N : Nat) (s : St) : exec Γ N ref24_Waits_l1 s = exec Γ N ref24_Waits_l1_y s := rfl
theorem ref24_Waits_c_x (Γ : Env) (N : Nat) (s : St) : exec Γ N ref24_Waits_c s = exec Γ N ref24_Waits_c_y s := rfl
theorem ref24_Many_l1b_x (Γ : Env) (N : Nat) (s : St) : exec Γ N ref24_Many_l1b s = exec Γ N ref24_Many_l1b_y s := rfl
theorem ref24_Many_l1_x (Γ : Env) (N : Nat) (s : St) : exec Γ N ref24_Many_l1 s = exec Γ N ref24_Many_l1_y s := rfl
theorem ref24_Many_c_x (Γ : Env) (N : Nat) (s : St) : exec Γ N ref24_Many_c s = exec Γ N ref24_Many_c_y s := rfl
theorem law24_Great_l1b_x (Γ : Env) (N : Nat) (s : St) : exec Γ N law24_Great_l1b s = exec Γ N law24_Great_l1b_y s := rfl
theorem law24_Great_l1_x (Γ : Env) (N : Nat) (s : St) : exec Γ N law24_Great_l1 s = exec Γ N law24_Great_l1_y s := rfl
theorem law24_Great_c_x (Γ : Env) (N : Nat) (s : St) : exec Γ N law24_Great_c s = exec Γ N law24_Great_c_y s := rfl
theorem rank_Place_c_x (Γ : Env) (N : Nat) (s : St) : exec Γ N rank_Place_c s = exec Γ N rank_Place_c_y s := rfl
theorem rank_Of_c_x (Γ : Env) (N : Nat) (s : St) : exec Γ N rank_Of_c s = exec Γ N rank_Of_c_y s := rfl
theorem slices_Clone_Sint_int_P_c_x (Γ : Env) (N : Nat) (s : St) : exec Γ N slices_Clone_Sint_int_P_c s = exec Γ N slices_Clone_Sint_int_P_c_y s := rfl
attribute [simp] trip_At_c_y trip_done_l1b_y trip_done_l1_y trip_done_c_y trip_Waits_l1b_y trip_Waits_l1_y trip_Waits_c_y trip_Transits_l1b_y trip_Transits_l1_y trip_Transits_c_y trip_Counts_l1b_y trip_Counts_l1_y trip_Counts_c_y ref24_At_c_y ref24_Waits_l1b_y ref24_Waits_l1_y ref24_Waits_c_y ref24_Many_l1b_y ref24_Many_l1_y ref24_Many_c_y law24_Great_l1b_y law24_Great_l1_y law24_Great_c_y rank_Place_c_y rank_Of_c_y slices_Clone_Sint_int_P_c_y
attribute [simp] trip_At_c_x trip_At_f trip_done_l1b_x trip_done_c_x trip_done_f trip_Waits_l1b_x trip_Waits_c_x trip_Waits_f trip_Transits_l1b_x trip_Transits_c_x trip_Transits_f trip_Counts_l1b_x trip_Counts_c_x trip_Counts_f ref24_At_c_x ref24_At_f ref24_Waits_l1b_x ref24_Waits_c_x ref24_Waits_f ref24_Many_l1b_x ref24_Many_c_x ref24_Many_f law24_Great_l1b_x law24_Great_c_x law24_Great_f rank_Place_c_x rank_Place_f rank_Of_c_x rank_Of_f slices_Clone_Sint_int_P_c_x slices_Clone_Sint_int_P_f
end Go.Am
namespace Go.Am
open Cx
abbrev r440_12 : AI := o 42 (m 8) (o 6 (m 42) (o 7 (.mov (ki 0)) .done))
abbrev r440_11 : AI := o 41 (bk .add 21 1) (o 21 (m 41) .done)
abbrev r440_10 : AI := o 35 (m 8) (o 36 (m 11) (o 37 (ia 35 36 1) (o 38 (l1 37) (o 39 (bk .add 38 1) (o 40 (ia 35 36 1) (so 1 40 39 .done))))))
abbrev r440_9 : AI := o 34 (m 12) (o 6 (.mov (.k (.nil 1))) (o 7 (m 34) .done))
abbrev r440_8 : AI := o 32 (m 12) (o 33 (bk .neq 32 0) .done)
abbrev r440_7 : AI := o 26 (m 0) (o 27 (m 1) (o 28 (m 10) (o 29 (.call 442 [.t 26, .t 27, .t 28]) (o 25 (m 29) (o 30 (ex 25 0) (o 31 (ex 25 1) (o 11 (m 30) (o 12 (m 31) .done))))))))
abbrev r440_6 : AI := o 23 (ia 19 21 1) (o 24 (l1 23) (o 10 (m 24) .done))
abbrev r440_5 : AI := o 22 (b2 .lss 21 20) .done
abbrev r440_4 : AI := o 19 (m 2) (o 20 (le 19) (o 21 (.mov (ki 0)) .done))
abbrev r440_3 : AI := o 17 (m 0) (o 18 (.mks 18 8 za1 (.t 17) (.t 17)) (o 8 (m 18) .done))
abbrev r440_2 : AI := o 6 (.mov (.k (.nil 1))) (o 7 (.mov (ki 22)) .done)
abbrev r440_1 : AI := o 13 (m 0) (o 14 (m 1) (o 15 (c2 443 13 14) (o 16 (.un .not (.t 15)) .done)))
abbrev r440_0 : AI := o 6 (.mov (.k (.nil 1))) (o 7 (.mov (ki 0)) .done)
abbrev hist_Of_l1b_y : AC := sr r440_5 (.keep [0, 1, 8, 19, 20, 21, 22] [18] (.seq (cd 22 .skip (.keep [8] [18] (.exit 0))) (.keep [0, 1, 8, 19, 20, 21] [18] (.seq (.block 1 (sr r440_6 (.keep [0, 1, 8, 10, 19, 20, 21] [18] (sr r440_7 (.keep [0, 1, 8, 11, 12, 19, 20, 21] [18] (.seq (sr r440_8 (.keep [0, 1, 8, 11, 12, 19, 20, 21, 33] [18] (cd 33 (.keep [12] [] (sr r440_9 (.keep [6, 7] [18] .ret))) .skip))) (.keep [0, 1, 8, 11, 19, 20, 21] [18] (rg r440_10)))))))) (.keep [0, 1, 8, 19, 20, 21] [18] (rg r440_11))))))
def hist_Of_l1b : AC := hist_Of_l1b_y
abbrev hist_Of_l1_y : AC := .keep [0, 1, 8, 19, 20, 21] [18] (hist_Of_l1b)
def hist_Of_l1 : AC := hist_Of_l1_y
abbrev hist_Of_c_y : AC := sr r440_0 (.keep [0, 1, 2] [] (.seq (sr r440_1 (.keep [0, 1, 2, 16] [] (cd 16 (.keep [] [] (sr r440_2 (.keep [6, 7] [18] .ret))) .skip))) (.keep [0, 1, 2] [] (sr r440_3 (.keep [0, 1, 2, 8] [18] (.seq (sr r440_4 (.keep [0, 1, 8, 19, 20, 21] [18] (.block 0 (.loop hist_Of_l1)))) (.keep [8] [18] (sr r440_12 (.keep [6, 7] [18] .ret)))))))))
def hist_Of_c : AC := hist_Of_c_y
def hist_Of_f : AFn := ⟨hist_Of_c, [.t 6, .t 7], 0, 0, []⟩
abbrev r443_1 : AI := o 5 (m 0) (o 6 (bk .geq 5 1) (o 7 (m 6) (.scs 10 (.t 7) true (o 8 (m 0) (o 9 (bk .leq 8 64) .done)) (.t 9) (o 11 (m 10) (.scs 14 (.t 11) true (o 12 (m 1) (o 13 (bk .geq 12 1) .done)) (.t 13) (o 15 (m 14) (.scs 18 (.t 15) true (o 16 (m 1) (o 17 (bk .leq 16 4096) .done)) (.t 17) (o 4 (m 18) .done))))))))
abbrev r443_0 : AI := o 4 (.mov (kb false)) .done
abbrev hist_Right_c_y : AC := sr r443_0 (.keep [0, 1] [] (sr r443_1 (.keep [4] [] .ret)))
def hist_Right_c : AC := hist_Right_c_y
def hist_Right_f : AFn := ⟨hist_Right_c, [.t 4], 0, 0, []⟩
abbrev r442_5 : AI := o 16 (m 2) (o 17 (m 1) (o 18 (b2 .quo 16 17) (o 19 (m 0) (o 20 (bk .sub 19 1) (o 21 (.mn (.t 18) [.t 20]) (o 6 (m 21) (o 7 (.mov (ki 0)) .done)))))))
abbrev r442_2 : AI := o 6 (.mov (ki 0)) (o 7 (.mov (ki 22)) .done)
abbrev r442_4 : AI := o 6 (.mov (ki 0)) (o 7 (.mov (ki 10)) .done)
abbrev r442_3 : AI := o 14 (m 2) (o 15 (bk .lss 14 0) (o 13 (m 15) .done))
abbrev r442_1 : AI := o 9 (m 0) (o 10 (m 1) (o 11 (c2 443 9 10) (o 12 (.un .not (.t 11)) (o 8 (m 12) .done))))
abbrev r442_0 : AI := o 6 (.mov (ki 0)) (o 7 (.mov (ki 0)) .done)
abbrev hist_Bin_c_y : AC := sr r442_0 (.keep [0, 1, 2] [] (.seq (.block 0 (sr r442_1 (.keep [0, 1, 2, 8] [] (cd 8 (.keep [] [] (sr r442_2 (.keep [6, 7] [] .ret))) (.keep [0, 1, 2] [] (sr r442_3 (.keep [0, 1, 2, 13] [] (cd 13 (.keep [] [] (sr r442_4 (.keep [6, 7] [] .ret))) .skip)))))))) (.keep [0, 1, 2] [] (sr r442_5 (.keep [6, 7] [] .ret)))))
def hist_Bin_c : AC := hist_Bin_c_y
def hist_Bin_f : AFn := ⟨hist_Bin_c, [.t 6, .t 7], 0, 0, []⟩
abbrev r444_5 : AI := o 29 (m 2) (o 30 (m 1) (o 31 (b2 .mul 29 30) (o 32 (m 2) (o 33 (bk .add 32 1) (o 34 (m 1) (o 35 (b2 .mul 33 34) (o 6 (m 31) (o 7 (m 35) (o 8 (.mov (kb true)) .done)))))))))
abbrev r444_4 : AI := o 26 (m 2) (o 27 (m 1) (o 28 (b2 .mul 26 27) (o 6 (m 28) (o 7 (.mov (ki 0)) (o 8 (.mov (kb false)) .done)))))
abbrev r444_3 : AI := o 22 (m 2) (o 23 (m 0) (o 24 (bk .sub 23 1) (o 25 (b2 .eql 22 24) .done)))
abbrev r444_2 : AI := o 6 (.mov (ki 0)) (o 7 (.mov (ki 0)) (o 8 (.mov (kb false)) .done))
abbrev r444_1 : AI := o 9 (m 0) (o 10 (m 1) (o 11 (c2 443 9 10) (o 12 (.un .not (.t 11)) (o 13 (m 12) (.scs 16 (.t 13) false (o 14 (m 2) (o 15 (bk .lss 14 0) .done)) (.t 15) (o 17 (m 16) (.scs 21 (.t 17) false (o 18 (m 2) (o 19 (m 0) (o 20 (b2 .geq 18 19) .done))) (.t 20) .done)))))))
abbrev r444_0 : AI := o 6 (.mov (ki 0)) (o 7 (.mov (ki 0)) (o 8 (.mov (kb false)) .done))
abbrev hist_Edge_c_y : AC := sr r444_0 (.keep [0, 1, 2] [] (.seq (sr r444_1 (.keep [0, 1, 2, 21] [] (cd 21 (.keep [] [] (sr r444_2 (.keep [6, 7, 8] [] .ret))) .skip))) (.keep [0, 1, 2] [] (.seq (sr r444_3 (.keep [1, 2, 25] [] (cd 25 (.keep [1, 2] [] (sr r444_4 (.keep [6, 7, 8] [] .ret))) .skip))) (.keep [1, 2] [] (sr r444_5 (.keep [6, 7, 8] [] .ret)))))))
def hist_Edge_c : AC := hist_Edge_c_y
def hist_Edge_f : AFn := ⟨hist_Edge_c, [.t 6, .t 7, .t 8], 0, 0, []⟩
abbrev r439_4 : AI := o 23 (m 7) (o 24 (c1 50 23) (o 25 (.bin .add (.t 24) (ks [45])) (o 26 (m 8) (o 27 (bk .sub 26 1) (o 28 (c1 50 27) (o 29 (b2 .add 25 28) (o 6 (m 29) .done)))))))
abbrev r439_3 : AI := o 20 (m 7) (o 21 (c1 50 20) (o 22 (.bin .add (.t 21) (ks [43])) (o 6 (m 22) .done)))
abbrev r439_2 : AI := o 18 (m 9) (o 19 (.un .not (.t 18)) .done)
abbrev r439_1 : AI := o 11 (m 0) (o 12 (m 1) (o 13 (m 2) (o 14 (.call 444 [.t 11, .t 12, .t 13]) (o 10 (m 14) (o 15 (ex 10 0) (o 16 (ex 10 1) (o 17 (ex 10 2) (o 7 (m 15) (o 8 (m 16) (o 9 (m 17) .done))))))))))
abbrev r439_0 : AI := o 6 (.mov (ks [])) .done
abbrev report_edge_c_y : AC := sr r439_0 (.keep [0, 1, 2] [] (sr r439_1 (.keep [7, 8, 9] [] (.seq (sr r439_2 (.keep [7, 8, 19] [] (cd 19 (.keep [7] [] (sr r439_3 (.keep [6] [] .ret))) .skip))) (.keep [7, 8] [] (sr r439_4 (.keep [6] [] .ret)))))))
def report_edge_c : AC := report_edge_c_y
def report_edge_f : AFn := ⟨report_edge_c, [.t 6], 0, 0, []⟩
abbrev r431_9 : AI := o 55 (m 13) (o 8 (m 55) .done)
abbrev r431_8 : AI := o 54 (bk .add 33 1) (o 33 (m 54) .done)
abbrev r431_7 : AI := o 53 (.app 53 1 24 (.t 36) (.t 52)) (o 13 (m 53) .done)
abbrev r431_6 : AI := o 35 (m 33) (o 14 (m 35) .done)
abbrev r431_5 : AI := o 34 (b2 .lss 33 32) .done
abbrev r431_4 : AI := o 31 (m 9) (o 32 (le 31) (o 33 (.mov (ki 0)) .done))
abbrev r431_3 : AI := o 29 (.bsl 1 [.str []] 3 [(0, 1, (ks [116, 105, 99, 107, 115])), (1, 1, (ks [119, 97, 105, 116])), (2, 1, (ks [116, 114, 97, 110, 115, 105, 116]))]) (o 30 (.bso 30 1 [.vs 1 []] 1 [(0, 1, (.t 29))]) (o 13 (m 30) .done))
abbrev r431_2 : AI := o 23 (m 0) (o 24 (m 1) (o 25 (m 3) (o 26 (.call 440 [.t 23, .t 24, .t 25]) (o 22 (m 26) (o 27 (ex 22 0) (o 28 (ex 22 1) (o 11 (m 27) (o 12 (m 28) .done))))))))
abbrev r431_1 : AI := o 16 (m 0) (o 17 (m 1) (o 18 (m 2) (o 19 (.call 440 [.t 16, .t 17, .t 18]) (o 15 (m 19) (o 20 (ex 15 0) (o 21 (ex 15 1) (o 9 (m 20) (o 10 (m 21) .done))))))))
abbrev r431_0 : AI := o 8 (.mov (.k (.nil 1))) .done
abbrev r431_7q : List DIt := [d 36 (m 13), d 37 (m 0), d 38 (m 1), d 39 (m 14), d 40 (.call 439 [.t 37, .t 38, .t 39]), d 41 (m 9), d 42 (m 14), d 43 (ia 41 42 1), d 44 (l1 43), d 45 (c1 50 44), d 46 (m 11), d 47 (m 14), d 48 (ia 46 47 1), d 49 (l1 48), d 50 (c1 50 49), d 51 (.bsl 1 [.str []] 3 [(0, 1, (.t 40)), (1, 1, (.t 45)), (2, 1, (.t 50))]), d 52 (.bsl 1 [.vs 1 []] 1 [(0, 1, (.t 51))])]
abbrev report_Bins_l1b_y : AC := sr r431_5 (.keep [0, 1, 9, 11, 13, 32, 33, 34] [13, 30, 53] (.seq (cd 34 .skip (.keep [13] [13, 30, 53] (.exit 0))) (.keep [0, 1, 9, 11, 13, 32, 33] [13, 30, 53] (.seq (.block 1 (sr r431_6 (.keep [0, 1, 9, 11, 13, 14, 32, 33] [13, 30, 53] (.draw r431_7q [] [] r431_7)))) (.keep [0, 1, 9, 11, 13, 32, 33] [13, 30, 53] (rg r431_8))))))
def report_Bins_l1b : AC := report_Bins_l1b_y
abbrev report_Bins_l1_y : AC := .keep [0, 1, 9, 11, 13, 32, 33] [13, 30, 53] (report_Bins_l1b)
def report_Bins_l1 : AC := report_Bins_l1_y
abbrev report_Bins_c_y : AC := sr r431_0 (.keep [0, 1, 2, 3] [] (sr r431_1 (.keep [0, 1, 3, 9] [] (sr r431_2 (.keep [0, 1, 9, 11] [] (sr r431_3 (.keep [0, 1, 9, 11, 13] [13, 30, 53] (.seq (sr r431_4 (.keep [0, 1, 9, 11, 13, 32, 33] [13, 30, 53] (.block 0 (.loop report_Bins_l1)))) (.keep [13] [13, 30, 53] (sr r431_9 (.keep [8] [13, 30, 53] .ret)))))))))))
def report_Bins_c : AC := report_Bins_c_y
def report_Bins_f : AFn := ⟨report_Bins_c, [.t 8], 0, 0, []⟩
theorem hist_Of_l1b_x (Γ : Env) (N : Nat) (s : St) : exec Γ N hist_Of_l1b s = exec Γ N hist_Of_l1b_y s := rfl
theorem hist_Of_l1_x (Γ : Env) (N : Nat) (s : St) : exec Γ N hist_Of_l1 s = exec Γ N hist_Of_l1_y s := rfl
theorem hist_Of_c_x (Γ : Env) (N : Nat) (s : St) : exec Γ N hist_Of_c s = exec Γ N hist_Of_c_y s := rfl
theorem hist_Right_c_x (Γ : Env) (N : Nat) (s : St) : exec Γ N hist_Right_c s = exec Γ N hist_Right_c_y s := rfl
theorem hist_Bin_c_x (Γ : Env) (N : Nat) (s : St) : exec Γ N hist_Bin_c s = exec Γ N hist_Bin_c_y s := rfl
theorem hist_Edge_c_x (Γ : Env) (N : Nat) (s : St) : exec Γ N hist_Edge_c s = exec Γ N hist_Edge_c_y s := rfl
theorem report_edge_c_x (Γ : Env) (N : Nat) (s : St) : exec Γ N report_edge_c s = exec Γ N report_edge_c_y s := rfl
theorem report_Bins_l1b_x (Γ : Env) (N : Nat) (s : St) : exec Γ N report_Bins_l1b s = exec Γ N report_Bins_l1b_y s := rfl
theorem report_Bins_l1_x (Γ : Env) (N : Nat) (s : St) : exec Γ N report_Bins_l1 s = exec Γ N report_Bins_l1_y s := rfl
theorem report_Bins_c_x (Γ : Env) (N : Nat) (s : St) : exec Γ N report_Bins_c s = exec Γ N report_Bins_c_y s := rfl
attribute [simp] hist_Of_l1b_y hist_Of_l1_y hist_Of_c_y hist_Right_c_y hist_Bin_c_y hist_Edge_c_y report_edge_c_y report_Bins_l1b_y report_Bins_l1_y report_Bins_c_y
attribute [simp] hist_Of_l1b_x hist_Of_c_x hist_Of_f hist_Right_c_x hist_Right_f hist_Bin_c_x hist_Bin_f hist_Edge_c_x hist_Edge_f report_edge_c_x report_edge_f report_Bins_l1b_x report_Bins_c_x report_Bins_f
end Go.Am
namespace Go.Am
open Cx
abbrev r420_12 : AI := o 30 (m 4) (o 31 (m 0) (o 32 (le 31) (o 33 (c2 387 30 32) (o 34 (ex 33 0) (o 35 (ex 33 1) (so 3 2 34 (o 3 (m 35) .done)))))))
abbrev r420_11 : AI := o 28 (.bld zd3 []) (o 29 (m 5) (so 3 2 28 (o 3 (m 29) .done)))
abbrev r420_10 : AI := o 26 (m 5) (o 27 (bk .neq 26 0) .done)
abbrev r420_9 : AI := o 25 (bk .add 10 1) (o 10 (m 25) .done)
abbrev r420_8 : AI := o 20 (m 4) (o 21 (m 7) (o 22 (c2 389 20 21) (o 19 (m 22) (o 23 (ex 19 0) (o 24 (ex 19 1) (o 4 (m 23) (o 5 (m 24) .done)))))))
abbrev r420_7 : AI := o 17 (m 5) (o 18 (bk .eql 17 0) .done)
abbrev r420_6 : AI := o 16 (.bld zd3 []) (so 3 2 16 (o 3 (.mov (ki 22)) .done))
abbrev r420_5 : AI := o 14 (m 7) (o 15 (bk .lss 14 0) .done)
abbrev r420_4 : AI := o 12 (ia 8 10 1) (o 13 (l1 12) (o 7 (m 13) .done))
abbrev r420_3 : AI := o 11 (b2 .lss 10 9) .done
abbrev r420_2 : AI := o 8 (m 0) (o 9 (le 8) (o 10 (.mov (ki 0)) .done))
abbrev r420_1 : AI := o 4 (.mov (ki 0)) (o 5 (.mov (ki 0)) .done)
abbrev r420_0 : AI := o 2 (.alc 2 za3) (o 3 (.mov (ki 0)) .done)
abbrev frac_Mean_l1b_y : AC := sr r420_3 (.keep [0, 2, 4, 5, 8, 9, 10, 11] [2] (.seq (cd 11 .skip (.keep [0, 2, 4, 5] [2] (.exit 0))) (.keep [0, 2, 4, 5, 8, 9, 10] [2] (.seq (.block 1 (sr r420_4 (.keep [0, 2, 4, 5, 7, 8, 9, 10] [2] (.seq (sr r420_5 (.keep [0, 2, 4, 5, 7, 8, 9, 10, 15] [2] (cd 15 (.keep [2] [2] (sr r420_6 (.keep [2, 3] [2] .ret))) .skip))) (.keep [0, 2, 4, 5, 7, 8, 9, 10] [2] (sr r420_7 (.keep [0, 2, 4, 5, 7, 8, 9, 10, 18] [2] (cd 18 (.keep [0, 2, 4, 7, 8, 9, 10] [2] (rg r420_8)) .skip)))))))) (.keep [0, 2, 4, 5, 8, 9, 10] [2] (rg r420_9))))))
def frac_Mean_l1b : AC := frac_Mean_l1b_y
abbrev frac_Mean_l1_y : AC := .keep [0, 2, 4, 5, 8, 9, 10] [2] (frac_Mean_l1b)
def frac_Mean_l1 : AC := frac_Mean_l1_y
abbrev frac_Mean_c_y : AC := sr r420_0 (.keep [0, 2] [2] (sr r420_1 (.keep [0, 2, 4, 5] [2] (.seq (sr r420_2 (.keep [0, 2, 4, 5, 8, 9, 10] [2] (.block 0 (.loop frac_Mean_l1)))) (.keep [0, 2, 4, 5] [2] (.seq (sr r420_10 (.keep [0, 2, 4, 5, 27] [2] (cd 27 (.keep [2, 5] [2] (sr r420_11 (.keep [2, 3] [2] .ret))) .skip))) (.keep [0, 2, 4] [2] (sr r420_12 (.keep [2, 3] [2] .ret)))))))))
def frac_Mean_c : AC := frac_Mean_c_y
def frac_Mean_f : AFn := ⟨frac_Mean_c, [.m 2 3 true, .t 3], 0, 0, []⟩
abbrev r422_15 : AI := o 47 (.bld zd3 [(0, 1, (.t 41)), (1, 1, (.t 44)), (2, 1, (.t 46))]) (so 3 2 47 (o 3 (.mov (ki 0)) .done))
abbrev r422_14 : AI := o 37 (m 0) (o 38 (le 37) (o 7 (m 38) .done))
abbrev r422_13 : AI := o 36 (.bld zd3 []) (so 3 2 36 (o 3 (.mov (ki 11)) .done))
abbrev r422_12 : AI := o 33 (m 0) (o 34 (le 33) (o 35 (bk .eql 34 0) .done))
abbrev r422_11 : AI := o 32 (.bld zd3 []) (so 3 2 32 (o 3 (.mov (ki 10)) .done))
abbrev r422_10 : AI := o 30 (m 5) (o 31 (.un .not (.t 30)) .done)
abbrev r422_5 : AI := o 12 (m 6) (o 13 (bk .add 12 1) (o 6 (m 13) .done))
abbrev r422_9 : AI := o 22 (m 4) (o 23 (m 0) (o 24 (m 6) (o 25 (ia 23 24 1) (o 26 (l1 25) (o 27 (c2 375 22 26) (o 21 (m 27) (o 28 (ex 21 0) (o 29 (ex 21 1) (o 4 (m 28) (o 5 (m 29) .done))))))))))
abbrev r422_8 : AI := o 20 (m 5) .done
abbrev r422_7 : AI := o 19 (.bld zd3 []) (so 3 2 19 (o 3 (.mov (ki 22)) .done))
abbrev r422_6 : AI := o 14 (m 0) (o 15 (m 6) (o 16 (ia 14 15 1) (o 17 (l1 16) (o 18 (bk .lss 17 0) .done))))
abbrev r422_4 : AI := o 8 (m 6) (o 9 (m 0) (o 10 (le 9) (o 11 (b2 .lss 8 10) .done)))
abbrev r422_3 : AI := o 6 (.mov (ki 0)) .done
abbrev r422_2 : AI := o 5 (.mov (kb true)) .done
abbrev r422_1 : AI := o 4 (.mov (ki 0)) .done
abbrev r422_0 : AI := o 2 (.alc 2 za3) (o 3 (.mov (ki 0)) .done)
abbrev r422_15q : List DIt := [d 39 (m 4), d 40 (m 7), d 41 (.bin .quo (.t 39) (.t 40)), d 42 (m 4), d 43 (m 7), d 44 (.bin .rem (.t 42) (.t 43)), d 45 (m 0), d 46 (.len false (.t 45))]
abbrev ref08_Mean_l1b_y : AC := .seq (sr r422_4 (.keep [0, 2, 4, 5, 6, 11] [2] (cd 11 .skip (.keep [0, 2, 4, 5] [2] (.exit 0))))) (.keep [0, 2, 4, 5, 6] [2] (.seq (.block 1 (.seq (sr r422_6 (.keep [0, 2, 4, 5, 6, 18] [2] (cd 18 (.keep [2] [2] (sr r422_7 (.keep [2, 3] [2] .ret))) .skip))) (.keep [0, 2, 4, 5, 6] [2] (sr r422_8 (.keep [0, 2, 4, 5, 6, 20] [2] (cd 20 (.keep [0, 2, 4, 6] [2] (rg r422_9)) .skip)))))) (.keep [0, 2, 4, 5, 6] [2] (rg r422_5))))
def ref08_Mean_l1b : AC := ref08_Mean_l1b_y
abbrev ref08_Mean_l1_y : AC := .keep [0, 2, 4, 5, 6] [2] (ref08_Mean_l1b)
def ref08_Mean_l1 : AC := ref08_Mean_l1_y
abbrev ref08_Mean_c_y : AC := sr r422_0 (.keep [0, 2] [2] (sr r422_1 (.keep [0, 2, 4] [2] (sr r422_2 (.keep [0, 2, 4, 5] [2] (.seq (sr r422_3 (.keep [0, 2, 4, 5, 6] [2] (.block 0 (.loop ref08_Mean_l1)))) (.keep [0, 2, 4, 5] [2] (.seq (sr r422_10 (.keep [0, 2, 4, 31] [2] (cd 31 (.keep [2] [2] (sr r422_11 (.keep [2, 3] [2] .ret))) .skip))) (.keep [0, 2, 4] [2] (.seq (sr r422_12 (.keep [0, 2, 4, 35] [2] (cd 35 (.keep [2] [2] (sr r422_13 (.keep [2, 3] [2] .ret))) .skip))) (.keep [0, 2, 4] [2] (sr r422_14 (.keep [0, 2, 4, 7] [2] (.seq (.draw r422_15q [] [] r422_15) (.keep [2, 3] [2] .ret)))))))))))))))
def ref08_Mean_c : AC := ref08_Mean_c_y
def ref08_Mean_f : AFn := ⟨ref08_Mean_c, [.m 2 3 true, .t 3], 0, 0, []⟩
abbrev r421_13 : AI := o 56 (m 5) (o 4 (m 56) .done)
abbrev r421_4 : AI := o 14 (m 7) (o 15 (bk .add 14 1) (o 7 (m 15) .done))
abbrev r421_12 : AI := o 52 (m 1) (o 53 (m 7) (o 54 (ia 52 53 1) (o 55 (l1 54) (o 5 (m 55) (o 6 (.mov (kb true)) .done)))))
abbrev r421_11 : AI := o 33 (m 8) (o 34 (.bin .mul (ki 100) (.t 33)) (o 35 (m 0) (o 36 (m 1) (o 37 (le 36) (o 38 (b2 .mul 35 37) (o 39 (b2 .geq 34 38) (o 40 (m 39) (.sc 51 (.t 40) true (o 41 (m 6) (o 42 (.un .not (.t 41)) (o 43 (m 42) (.sc 50 (.t 43) false (o 44 (m 1) (o 45 (m 7) (o 46 (ia 44 45 1) (o 47 (l1 46) (o 48 (m 5) (o 49 (b2 .lss 47 48) .done)))))) (.t 49) .done)))) (.t 50) .done))))))))
abbrev r421_8 : AI := o 20 (m 9) (o 21 (bk .add 20 1) (o 9 (m 21) .done))
abbrev r421_10 : AI := o 31 (m 8) (o 32 (bk .add 31 1) (o 8 (m 32) .done))
abbrev r421_9 : AI := o 30 (b2 .leq 25 29) .done
abbrev r421_7 : AI := o 16 (m 9) (o 17 (m 1) (o 18 (le 17) (o 19 (b2 .lss 16 18) .done)))
abbrev r421_6 : AI := o 9 (.mov (ki 0)) .done
abbrev r421_5 : AI := o 8 (.mov (ki 0)) .done
abbrev r421_3 : AI := o 10 (m 7) (o 11 (m 1) (o 12 (le 11) (o 13 (b2 .lss 10 12) .done)))
abbrev r421_2 : AI := o 7 (.mov (ki 0)) .done
abbrev r421_1 : AI := o 5 (.mov (ki 0)) (o 6 (.mov (kb false)) .done)
abbrev r421_0 : AI := o 4 (.mov (ki 0)) .done
abbrev r421_9q : List DIt := [d 22 (m 1), d 23 (m 9), d 24 (ia 22 23 1), d 25 (l1 24), d 26 (m 1), d 27 (m 7), d 28 (ia 26 27 1), d 29 (l1 28)]
abbrev ref42_Percentile_l1b_y : AC := .seq (sr r421_7 (.keep [0, 1, 5, 6, 7, 8, 9, 19] [] (cd 19 .skip (.keep [0, 1, 5, 6, 7, 8] [] (.exit 2))))) (.keep [0, 1, 5, 6, 7, 8, 9] [] (.seq (.block 3 (.seq (.draw r421_9q [] [] r421_9) (.keep [0, 1, 5, 6, 7, 8, 9, 30] [] (cd 30 (.keep [0, 1, 5, 6, 7, 8, 9] [] (rg r421_10)) .skip)))) (.keep [0, 1, 5, 6, 7, 8, 9] [] (rg r421_8))))
def ref42_Percentile_l1b : AC := ref42_Percentile_l1b_y
abbrev ref42_Percentile_l1_y : AC := .keep [0, 1, 5, 6, 7, 8, 9] [] (ref42_Percentile_l1b)
def ref42_Percentile_l1 : AC := ref42_Percentile_l1_y
abbrev ref42_Percentile_l2b_y : AC := .seq (sr r421_3 (.keep [0, 1, 5, 6, 7, 13] [] (cd 13 .skip (.keep [5] [] (.exit 0))))) (.keep [0, 1, 5, 6, 7] [] (.seq (.block 1 (sr r421_5 (.keep [0, 1, 5, 6, 7, 8] [] (.seq (sr r421_6 (.keep [0, 1, 5, 6, 7, 8, 9] [] (.block 2 (.loop ref42_Percentile_l1)))) (.keep [0, 1, 5, 6, 7, 8] [] (sr r421_11 (.keep [0, 1, 5, 6, 7, 51] [] (cd 51 (.keep [0, 1, 7] [] (rg r421_12)) .skip)))))))) (.keep [0, 1, 5, 6, 7] [] (rg r421_4))))
def ref42_Percentile_l2b : AC := ref42_Percentile_l2b_y
abbrev ref42_Percentile_l2_y : AC := .keep [0, 1, 5, 6, 7] [] (ref42_Percentile_l2b)
def ref42_Percentile_l2 : AC := ref42_Percentile_l2_y
abbrev ref42_Percentile_c_y : AC := sr r421_0 (.keep [0, 1] [] (sr r421_1 (.keep [0, 1, 5, 6] [] (.seq (sr r421_2 (.keep [0, 1, 5, 6, 7] [] (.block 0 (.loop ref42_Percentile_l2)))) (.keep [5] [] (sr r421_13 (.keep [4] [] .ret)))))))
def ref42_Percentile_c : AC := ref42_Percentile_c_y
def ref42_Percentile_f : AFn := ⟨ref42_Percentile_c, [.t 4], 0, 0, []⟩
abbrev r259_10 : AI := o 31 (m 6) (o 4 (m 31) (o 5 (.mov (ki 0)) .done))
abbrev r259_9 : AI := o 30 (bk .add 13 1) (o 13 (m 30) .done)
abbrev r259_8 : AI := o 26 (m 6) (o 27 (m 9) (o 28 (.bsl 1 zd1 1 [(0, 1, (.t 27))]) (o 29 (.app 29 1 8 (.t 26) (.t 28)) (o 6 (m 29) .done))))
abbrev r259_7 : AI := o 25 (m 10) (o 4 (.mov (.k (.nil 1))) (o 5 (m 25) .done))
abbrev r259_6 : AI := o 23 (m 10) (o 24 (bk .neq 23 0) .done)
abbrev r259_5 : AI := o 18 (m 8) (o 19 (m 1) (o 20 (c2 252 18 19) (o 17 (m 20) (o 21 (ex 17 0) (o 22 (ex 17 1) (o 9 (m 21) (o 10 (m 22) .done)))))))
abbrev r259_4 : AI := o 15 (ia 11 13 1) (o 16 (l1 15) (o 8 (m 16) .done))
abbrev r259_3 : AI := o 14 (b2 .lss 13 12) .done
abbrev r259_2 : AI := o 11 (m 0) (o 12 (le 11) (o 13 (.mov (ki 0)) .done))
abbrev r259_1 : AI := o 6 (.mov (.k (.nil 1))) .done
abbrev r259_0 : AI := o 4 (.mov (.k (.nil 1))) (o 5 (.mov (ki 0)) .done)
abbrev rank_Many_l1b_y : AC := sr r259_3 (.keep [1, 6, 11, 12, 13, 14] [6, 29] (.seq (cd 14 .skip (.keep [6] [6, 29] (.exit 0))) (.keep [1, 6, 11, 12, 13] [6, 29] (.seq (.block 1 (sr r259_4 (.keep [1, 6, 8, 11, 12, 13] [6, 29] (sr r259_5 (.keep [1, 6, 9, 10, 11, 12, 13] [6, 29] (.seq (sr r259_6 (.keep [1, 6, 9, 10, 11, 12, 13, 24] [6, 29] (cd 24 (.keep [10] [] (sr r259_7 (.keep [4, 5] [6, 29] .ret))) .skip))) (.keep [1, 6, 9, 11, 12, 13] [6, 29] (rg r259_8)))))))) (.keep [1, 6, 11, 12, 13] [6, 29] (rg r259_9))))))
def rank_Many_l1b : AC := rank_Many_l1b_y
abbrev rank_Many_l1_y : AC := .keep [1, 6, 11, 12, 13] [6, 29] (rank_Many_l1b)
def rank_Many_l1 : AC := rank_Many_l1_y
abbrev rank_Many_c_y : AC := sr r259_0 (.keep [0, 1] [] (sr r259_1 (.keep [0, 1, 6] [6, 29] (.own 6 6 (.seq (sr r259_2 (.keep [1, 6, 11, 12, 13] [6, 29] (.block 0 (.loop rank_Many_l1)))) (.keep [6] [6, 29] (sr r259_10 (.keep [4, 5] [6, 29] .ret))))))))
def rank_Many_c : AC := rank_Many_c_y
def rank_Many_f : AFn := ⟨rank_Many_c, [.t 4, .t 5], 0, 0, []⟩
abbrev r436_1 : AI := o 1 (.bsl 1 zd1 4 [(0, 1, (ki 50)), (1, 1, (ki 90)), (2, 1, (ki 95)), (3, 1, (ki 100))]) (o 0 (m 1) .done)
abbrev r436_0 : AI := o 0 (.mov (.k (.nil 1))) .done
abbrev report_ranks_c_y : AC := sr r436_0 (.keep [] [] (sr r436_1 (.keep [0] [] .ret)))
def report_ranks_c : AC := report_ranks_c_y
def report_ranks_f : AFn := ⟨report_ranks_c, [.t 0], 0, 0, []⟩
abbrev r437_3 : AI := o 21 (b2 .add 17 20) (o 2 (m 21) .done)
abbrev r437_2 : AI := o 6 (fa 1 0) (o 7 (l1 6) (o 8 (c1 50 7) (o 2 (m 8) .done)))
abbrev r437_1 : AI := o 3 (fa 1 1) (o 4 (l1 3) (o 5 (bk .eql 4 0) .done))
abbrev r437_0 : AI := o 1 (.box 1 (.t 0)) (o 2 (.mov (ks [])) .done)
abbrev r437_3q : List DIt := [d 9 (fa 1 0), d 10 (l1 9), d 11 (c1 50 10), d 12 (.bin .add (.t 11) (ks [32])), d 13 (fa 1 1), d 14 (l1 13), d 15 (c1 50 14), d 16 (.bin .add (.t 12) (.t 15)), d 17 (.bin .add (.t 16) (ks [47])), d 18 (fa 1 2), d 19 (l1 18), d 20 (c1 50 19)]
abbrev frac_Text_c_y : AC := sr r437_0 (.keep [1] [1] (.seq (sr r437_1 (.keep [1, 5] [1] (cd 5 (.keep [1] [1] (sr r437_2 (.keep [2] [] .ret))) .skip))) (.keep [1] [1] (.seq (.draw r437_3q [] [] r437_3) (.keep [2] [] .ret)))))
def frac_Text_c : AC := frac_Text_c_y
def frac_Text_f : AFn := ⟨frac_Text_c, [.t 2], 0, 0, []⟩
abbrev r429_16 : AI := o 56 (m 5) (o 4 (m 56) .done)
abbrev r429_15 : AI := o 55 (bk .add 46 1) (o 46 (m 55) .done)
abbrev r429_14 : AI := o 50 (m 5) (o 51 (m 11) (o 52 (c1 50 51) (o 53 (.bsl 1 [.str []] 1 [(0, 1, (.t 52))]) (o 54 (.app 54 1 16 (.t 50) (.t 53)) (o 5 (m 54) .done)))))
abbrev r429_13 : AI := o 48 (ia 44 46 1) (o 49 (l1 48) (o 11 (m 49) .done))
abbrev r429_12 : AI := o 47 (b2 .lss 46 45) .done
abbrev r429_11 : AI := o 44 (m 8) (o 45 (le 44) (o 46 (.mov (ki 0)) .done))
abbrev r429_10 : AI := o 39 (.call 436 []) (o 40 (m 1) (o 41 (c2 259 39 40) (o 38 (m 41) (o 42 (ex 38 0) (o 43 (ex 38 1) (o 8 (m 42) (o 9 (m 43) .done)))))))
abbrev r429_9 : AI := o 32 (m 5) (o 33 (ln 6 3) (o 34 (c1 437 33) (o 35 (.call 438 [.t 34, ks [32], ks [43]]) (o 36 (.bsl 1 [.str []] 1 [(0, 1, (.t 35))]) (o 37 (.app 37 1 16 (.t 32) (.t 36)) (o 5 (m 37) .done))))))
abbrev r429_8 : AI := o 28 (m 1) (o 29 (c1 420 28) (o 27 (m 29) (o 30 (ex 27 0) (o 31 (ex 27 1) (o 6 (.alc 6 za3) (so 3 6 30 (o 7 (m 31) .done)))))))
abbrev r429_7 : AI := o 26 (m 5) (o 4 (m 26) .done)
abbrev r429_6 : AI := o 25 (bk .add 20 1) (o 20 (m 25) .done)
abbrev r429_5 : AI := o 22 (m 5) (o 23 (.bsl 1 [.str []] 1 [(0, 1, (ks [110, 47, 97]))]) (o 24 (.app 24 1 16 (.t 22) (.t 23)) (o 5 (m 24) .done)))
abbrev r429_4 : AI := o 21 (b2 .lss 20 19) .done
abbrev r429_3 : AI := o 17 (.call 436 []) (o 18 (le 17) (o 19 (bk .add 18 1) (o 20 (.mov (ki 0)) .done)))
abbrev r429_2 : AI := o 14 (m 1) (o 15 (le 14) (o 16 (bk .eql 15 0) .done))
abbrev r429_1 : AI := o 12 (m 0) (o 13 (.bso 13 1 [.str []] 1 [(0, 1, (.t 12))]) (o 5 (m 13) .done))
abbrev r429_0 : AI := o 4 (.mov (.k (.nil 1))) .done
abbrev report_Stats_l1b_y : AC := sr r429_12 (.keep [5, 44, 45, 46, 47] [5, 13, 24, 37, 54] (.seq (cd 47 .skip (.keep [5] [5, 13, 24, 37, 54] (.exit 2))) (.keep [5, 44, 45, 46] [5, 13, 24, 37, 54] (.seq (.block 3 (sr r429_13 (.keep [5, 11, 44, 45, 46] [5, 13, 24, 37, 54] (rg r429_14)))) (.keep [5, 44, 45, 46] [5, 13, 24, 37, 54] (rg r429_15))))))
def report_Stats_l1b : AC := report_Stats_l1b_y
abbrev report_Stats_l1_y : AC := .keep [5, 44, 45, 46] [5, 13, 24, 37, 54] (report_Stats_l1b)
def report_Stats_l1 : AC := report_Stats_l1_y
abbrev report_Stats_l2b_y : AC := sr r429_4 (.keep [5, 19, 20, 21] [5, 13, 24, 37, 54] (.seq (cd 21 .skip (.keep [5] [5, 13, 24, 37, 54] (.exit 0))) (.keep [5, 19, 20] [5, 13, 24, 37, 54] (.seq (.block 1 (rg r429_5)) (.keep [5, 19, 20] [5, 13, 24, 37, 54] (rg r429_6))))))
def report_Stats_l2b : AC := report_Stats_l2b_y
abbrev report_Stats_l2_y : AC := .keep [5, 19, 20] [5, 13, 24, 37, 54] (report_Stats_l2b)
def report_Stats_l2 : AC := report_Stats_l2_y
abbrev report_Stats_c_y : AC := sr r429_0 (.keep [0, 1] [] (sr r429_1 (.keep [1, 5] [5, 13, 24, 37, 54] (.seq (sr r429_2 (.keep [1, 5, 16] [5, 13, 24, 37, 54] (cd 16 (.keep [5] [5, 13, 24, 37, 54] (.seq (sr r429_3 (.keep [5, 19, 20] [5, 13, 24, 37, 54] (.block 0 (.loop report_Stats_l2)))) (.keep [5] [5, 13, 24, 37, 54] (sr r429_7 (.keep [4] [5, 13, 24, 37, 54] .ret))))) .skip))) (.keep [1, 5] [5, 13, 24, 37, 54] (sr r429_8 (.keep [1, 5, 6] [5, 6, 13, 24, 37, 54] (sr r429_9 (.keep [1, 5] [5, 13, 24, 37, 54] (sr r429_10 (.keep [5, 8] [5, 13, 24, 37, 54] (.seq (sr r429_11 (.keep [5, 44, 45, 46] [5, 13, 24, 37, 54] (.block 2 (.loop report_Stats_l1)))) (.keep [5] [5, 13, 24, 37, 54] (sr r429_16 (.keep [4] [5, 13, 24, 37, 54] .ret)))))))))))))))
def report_Stats_c : AC := report_Stats_c_y
def report_Stats_f : AFn := ⟨report_Stats_c, [.t 4], 0, 0, []⟩
abbrev r430_14 : AI := o 59 (m 5) (o 4 (m 59) .done)
abbrev r430_12 : AI := o 48 (m 10) (o 49 (bk .add 48 1) (o 10 (m 49) .done))
abbrev r430_13 : AI := o 50 (m 5) (o 51 (m 10) (o 52 (.iadA (.t 9) (.t 51) 4 1) (o 53 (l1 52) (o 54 (m 1) (o 55 (c2 421 53 54) (o 56 (c1 6 55) (o 57 (.bsl 1 [.str []] 1 [(0, 1, (.t 56))]) (o 58 (.app 58 1 16 (.t 50) (.t 57)) (o 5 (m 58) .done)))))))))
abbrev r430_11 : AI := o 46 (m 10) (o 47 (bk .lss 46 4) .done)
abbrev r430_10 : AI := o 10 (.mov (ki 0)) .done
abbrev r430_9 : AI := o 45 (.bld zd4 [(0, 1, (ki 50)), (1, 1, (ki 90)), (2, 1, (ki 95)), (3, 1, (ki 100))]) (o 9 (.alc 9 za4) (so 4 9 45 .done))
abbrev r430_8 : AI := o 41 (m 5) (o 42 (m 8) (o 43 (.bsl 1 [.str []] 1 [(0, 1, (.t 42))]) (o 44 (.app 44 1 16 (.t 41) (.t 43)) (o 5 (m 44) .done))))
abbrev r430_7 : AI := o 40 (b2 .add 30 39) (o 8 (m 40) .done)
abbrev r430_6 : AI := o 27 (fa 6 1) (o 28 (l1 27) (o 29 (bk .gtr 28 0) .done))
abbrev r430_5 : AI := o 24 (fa 6 0) (o 25 (l1 24) (o 26 (c1 6 25) (o 8 (m 26) .done)))
abbrev r430_4 : AI := o 20 (m 1) (o 21 (c1 422 20) (o 19 (m 21) (o 22 (ex 19 0) (o 23 (ex 19 1) (o 6 (.alc 6 za3) (so 3 6 22 (o 7 (m 23) .done)))))))
abbrev r430_3 : AI := o 16 (m 5) (o 17 (.bsl 1 [.str []] 5 [(0, 1, (ks [110, 47, 97])), (1, 1, (ks [110, 47, 97])), (2, 1, (ks [110, 47, 97])), (3, 1, (ks [110, 47, 97])), (4, 1, (ks [110, 47, 97]))]) (o 18 (.app 18 1 16 (.t 16) (.t 17)) (o 4 (.frz (.t 18)) .done)))
abbrev r430_2 : AI := o 13 (m 1) (o 14 (le 13) (o 15 (bk .eql 14 0) .done))
abbrev r430_1 : AI := o 11 (m 0) (o 12 (.bso 12 1 [.str []] 1 [(0, 1, (.t 11))]) (o 5 (m 12) .done))
abbrev r430_0 : AI := o 4 (.mov (.k (.nil 1))) .done
abbrev r430_7q : List DIt := [d 30 (m 8), d 31 (fa 6 1), d 32 (l1 31), d 33 (c1 6 32), d 34 (.bin .add (ks [43]) (.t 33)), d 35 (.bin .add (.t 34) (ks [47])), d 36 (fa 6 2), d 37 (l1 36), d 38 (c1 6 37), d 39 (.bin .add (.t 35) (.t 38))]
abbrev ref42_Stats_l1b_y : AC := .seq (sr r430_11 (.keep [1, 5, 9, 10, 47] [5, 9, 12, 44, 58] (cd 47 .skip (.keep [5] [5, 12, 44, 58] (.exit 0))))) (.keep [1, 5, 9, 10] [5, 9, 12, 44, 58] (.seq (.block 1 (rg r430_13)) (.keep [1, 5, 9, 10] [5, 9, 12, 44, 58] (rg r430_12))))
def ref42_Stats_l1b : AC := ref42_Stats_l1b_y
abbrev ref42_Stats_l1_y : AC := .keep [1, 5, 9, 10] [5, 9, 12, 44, 58] (ref42_Stats_l1b)
def ref42_Stats_l1 : AC := ref42_Stats_l1_y
abbrev ref42_Stats_c_y : AC := sr r430_0 (.keep [0, 1] [] (sr r430_1 (.keep [1, 5] [5, 12, 44, 58] (.seq (sr r430_2 (.keep [1, 5, 15] [5, 12, 44, 58] (cd 15 (.keep [5] [5, 12, 44, 58] (sr r430_3 (.keep [4] [5, 12, 44, 58] .ret))) .skip))) (.keep [1, 5] [5, 12, 44, 58] (sr r430_4 (.keep [1, 5, 6] [5, 6, 12, 44, 58] (sr r430_5 (.keep [1, 5, 6, 8] [5, 6, 12, 44, 58] (.seq (sr r430_6 (.keep [1, 5, 6, 8, 29] [5, 6, 12, 44, 58] (cd 29 (.keep [1, 5, 6, 8] [5, 6, 12, 44, 58] (.draw r430_7q [] [] r430_7)) .skip))) (.keep [1, 5, 8] [5, 12, 44, 58] (sr r430_8 (.keep [1, 5] [5, 12, 44, 58] (sr r430_9 (.keep [1, 5, 9] [5, 9, 12, 44, 58] (.seq (sr r430_10 (.keep [1, 5, 9, 10] [5, 9, 12, 44, 58] (.block 0 (.loop ref42_Stats_l1)))) (.keep [5] [5, 12, 44, 58] (sr r430_14 (.keep [4] [5, 12, 44, 58] .ret)))))))))))))))))))
def ref42_Stats_c : AC := ref42_Stats_c_y
def ref42_Stats_f : AFn := ⟨ref42_Stats_c, [.t 4], 0, 0, []⟩
abbrev r441_7 : AI := o 45 (m 9) (o 8 (m 45) .done)
abbrev r441_4 : AI := o 15 (m 10) (o 16 (bk .add 15 1) (o 10 (m 16) .done))
abbrev r441_6 : AI := o 43 (m 9) (o 44 (bk .add 43 1) (o 9 (m 44) .done))
abbrev r441_5 : AI := o 17 (m 3) (o 18 (m 10) (o 19 (ia 17 18 1) (o 20 (l1 19) (o 21 (m 2) (o 22 (m 1) (o 23 (b2 .mul 21 22) (o 24 (b2 .geq 20 23) (o 25 (m 24) (.sc 42 (.t 25) true (o 26 (m 3) (o 27 (m 10) (o 28 (ia 26 27 1) (o 29 (l1 28) (o 30 (m 2) (o 31 (m 1) (o 32 (b2 .mul 30 31) (o 33 (m 1) (o 34 (b2 .add 32 33) (o 35 (b2 .lss 29 34) (o 36 (m 35) (.scs 41 (.t 36) false (o 37 (m 2) (o 38 (m 0) (o 39 (bk .sub 38 1) (o 40 (b2 .eql 37 39) .done)))) (.t 40) .done)))))))))))) (.t 41) .done)))))))))
abbrev r441_3 : AI := o 11 (m 10) (o 12 (m 3) (o 13 (le 12) (o 14 (b2 .lss 11 13) .done)))
abbrev r441_2 : AI := o 10 (.mov (ki 0)) .done
abbrev r441_1 : AI := o 9 (.mov (ki 0)) .done
abbrev r441_0 : AI := o 8 (.mov (ki 0)) .done
abbrev ref42_within_l1b_y : AC := .seq (sr r441_3 (.keep [0, 1, 2, 3, 9, 10, 14] [] (cd 14 .skip (.keep [9] [] (.exit 0))))) (.keep [0, 1, 2, 3, 9, 10] [] (.seq (.block 1 (sr r441_5 (.keep [0, 1, 2, 3, 9, 10, 42] [] (cd 42 (.keep [0, 1, 2, 3, 9, 10] [] (rg r441_6)) .skip)))) (.keep [0, 1, 2, 3, 9, 10] [] (rg r441_4))))
def ref42_within_l1b : AC := ref42_within_l1b_y
abbrev ref42_within_l1_y : AC := .keep [0, 1, 2, 3, 9, 10] [] (ref42_within_l1b)
def ref42_within_l1 : AC := ref42_within_l1_y
abbrev ref42_within_c_y : AC := sr r441_0 (.keep [0, 1, 2, 3] [] (sr r441_1 (.keep [0, 1, 2, 3, 9] [] (.seq (sr r441_2 (.keep [0, 1, 2, 3, 9, 10] [] (.block 0 (.loop ref42_within_l1)))) (.keep [9] [] (sr r441_7 (.keep [8] [] .ret)))))))
def ref42_within_c : AC := ref42_within_c_y
def ref42_within_f : AFn := ⟨ref42_within_c, [.t 8], 0, 0, []⟩
abbrev r428_10 : AI := o 56 (m 9) (o 8 (m 56) .done)
abbrev r428_4 : AI := o 17 (m 10) (o 18 (bk .add 17 1) (o 10 (m 18) .done))
abbrev r428_9 : AI := o 39 (m 9) (o 40 (m 11) (o 41 (m 0) (o 42 (m 1) (o 43 (m 10) (o 44 (m 2) (o 45 (.call 441 [.t 41, .t 42, .t 43, .t 44]) (o 46 (c1 6 45) (o 47 (m 0) (o 48 (m 1) (o 49 (m 10) (o 50 (m 3) (o 51 (.call 441 [.t 47, .t 48, .t 49, .t 50]) (o 52 (c1 6 51) (o 53 (.bsl 1 [.str []] 3 [(0, 1, (.t 40)), (1, 1, (.t 46)), (2, 1, (.t 52))]) (o 54 (.bsl 1 [.vs 1 []] 1 [(0, 1, (.t 53))]) (o 55 (.app 55 1 24 (.t 39) (.t 54)) (o 9 (m 55) .done)))))))))))))))))
abbrev r428_7 : AI := o 27 (m 11) (o 28 (.bin .add (.t 27) (ks [43])) (o 11 (m 28) .done))
abbrev r428_8 : AI := o 29 (m 11) (o 30 (m 10) (o 31 (m 1) (o 32 (b2 .mul 30 31) (o 33 (m 1) (o 34 (b2 .add 32 33) (o 35 (bk .sub 34 1) (o 36 (c1 6 35) (o 37 (.bin .add (ks [45]) (.t 36)) (o 38 (b2 .add 29 37) (o 11 (m 38) .done))))))))))
abbrev r428_6 : AI := o 23 (m 10) (o 24 (m 0) (o 25 (bk .sub 24 1) (o 26 (b2 .eql 23 25) .done)))
abbrev r428_5 : AI := o 19 (m 10) (o 20 (m 1) (o 21 (b2 .mul 19 20) (o 22 (c1 6 21) (o 11 (m 22) .done))))
abbrev r428_3 : AI := o 14 (m 10) (o 15 (m 0) (o 16 (b2 .lss 14 15) .done))
abbrev r428_2 : AI := o 10 (.mov (ki 0)) .done
abbrev r428_1 : AI := o 12 (.bsl 1 [.str []] 3 [(0, 1, (ks [116, 105, 99, 107, 115])), (1, 1, (ks [119, 97, 105, 116])), (2, 1, (ks [116, 114, 97, 110, 115, 105, 116]))]) (o 13 (.bso 13 1 [.vs 1 []] 1 [(0, 1, (.t 12))]) (o 9 (m 13) .done))
abbrev r428_0 : AI := o 8 (.mov (.k (.nil 1))) .done
abbrev ref42_Bins_l1b_y : AC := .seq (sr r428_3 (.keep [0, 1, 2, 3, 9, 10, 16] [9, 13, 55] (cd 16 .skip (.keep [9] [9, 13, 55] (.exit 0))))) (.keep [0, 1, 2, 3, 9, 10] [9, 13, 55] (.seq (.block 1 (sr r428_5 (.keep [0, 1, 2, 3, 9, 10, 11] [9, 13, 55] (.seq (sr r428_6 (.keep [0, 1, 2, 3, 9, 10, 11, 26] [9, 13, 55] (cd 26 (.keep [0, 1, 2, 3, 9, 10, 11] [9, 13, 55] (rg r428_7)) (.keep [0, 1, 2, 3, 9, 10, 11] [9, 13, 55] (rg r428_8))))) (.keep [0, 1, 2, 3, 9, 10, 11] [9, 13, 55] (rg r428_9)))))) (.keep [0, 1, 2, 3, 9, 10] [9, 13, 55] (rg r428_4))))
def ref42_Bins_l1b : AC := ref42_Bins_l1b_y
abbrev ref42_Bins_l1_y : AC := .keep [0, 1, 2, 3, 9, 10] [9, 13, 55] (ref42_Bins_l1b)
def ref42_Bins_l1 : AC := ref42_Bins_l1_y
abbrev ref42_Bins_c_y : AC := sr r428_0 (.keep [0, 1, 2, 3] [] (sr r428_1 (.keep [0, 1, 2, 3, 9] [9, 13, 55] (.seq (sr r428_2 (.keep [0, 1, 2, 3, 9, 10] [9, 13, 55] (.block 0 (.loop ref42_Bins_l1)))) (.keep [9] [9, 13, 55] (sr r428_10 (.keep [8] [9, 13, 55] .ret)))))))
def ref42_Bins_c : AC := ref42_Bins_c_y
def ref42_Bins_f : AFn := ⟨ref42_Bins_c, [.t 8], 0, 0, []⟩
abbrev r118_9 : AI := o 4 (.mov (kb true)) .done
abbrev r118_8 : AI := o 25 (bk .add 13 1) (o 13 (m 25) .done)
abbrev r118_7 : AI := o 4 (.mov (kb false)) .done
abbrev r118_6 : AI := o 24 (b2 .neq 19 23) .done
abbrev r118_5 : AI := o 15 (m 13) (o 5 (m 15) .done)
abbrev r118_4 : AI := o 14 (b2 .lss 13 12) .done
abbrev r118_3 : AI := o 11 (m 0) (o 12 (le 11) (o 13 (.mov (ki 0)) .done))
abbrev r118_2 : AI := o 4 (.mov (kb false)) .done
abbrev r118_1 : AI := o 6 (m 0) (o 7 (le 6) (o 8 (m 1) (o 9 (le 8) (o 10 (b2 .neq 7 9) .done))))
abbrev r118_0 : AI := o 4 (.mov (kb false)) .done
abbrev r118_6q : List DIt := [d 16 (m 0), d 17 (m 5), d 18 (ia 16 17 1), d 19 (l1 18), d 20 (m 1), d 21 (m 5), d 22 (ia 20 21 1), d 23 (l1 22)]
abbrev slices_Equal_Sstring_string_l1b_y : AC := sr r118_4 (.keep [0, 1, 12, 13, 14] [] (.seq (cd 14 .skip (.keep [] [] (.exit 0))) (.keep [0, 1, 12, 13] [] (.seq (.block 1 (sr r118_5 (.keep [0, 1, 5, 12, 13] [] (.seq (.draw r118_6q [] [] r118_6) (.keep [0, 1, 12, 13, 24] [] (cd 24 (.keep [] [] (sr r118_7 (.keep [4] [] .ret))) .skip)))))) (.keep [0, 1, 12, 13] [] (rg r118_8))))))
def slices_Equal_Sstring_string_l1b : AC := slices_Equal_Sstring_string_l1b_y
abbrev slices_Equal_Sstring_string_l1_y : AC := .keep [0, 1, 12, 13] [] (slices_Equal_Sstring_string_l1b)
def slices_Equal_Sstring_string_l1 : AC := slices_Equal_Sstring_string_l1_y
abbrev slices_Equal_Sstring_string_c_y : AC := sr r118_0 (.keep [0, 1] [] (.seq (sr r118_1 (.keep [0, 1, 10] [] (cd 10 (.keep [] [] (sr r118_2 (.keep [4] [] .ret))) .skip))) (.keep [0, 1] [] (.seq (sr r118_3 (.keep [0, 1, 12, 13] [] (.block 0 (.loop slices_Equal_Sstring_string_l1)))) (.keep [] [] (sr r118_9 (.keep [4] [] .ret)))))))
def slices_Equal_Sstring_string_c : AC := slices_Equal_Sstring_string_c_y
def slices_Equal_Sstring_string_f : AFn := ⟨slices_Equal_Sstring_string_c, [.t 4], 0, 0, []⟩
theorem frac_Mean_l1b_x (Γ : Env) (N : Nat) (s : St) : exec Γ N frac_Mean_l1b s = exec Γ N frac_Mean_l1b_y s := rfl
theorem frac_Mean_l1_x (Γ : Env) (N : Nat) (s : St) : exec Γ N frac_Mean_l1 s = exec Γ N frac_Mean_l1_y s := rfl
theorem frac_Mean_c_x (Γ : Env) (N : Nat) (s : St) : exec Γ N frac_Mean_c s = exec Γ N frac_Mean_c_y s := rfl
theorem ref08_Mean_l1b_x (Γ : Env) (N : Nat) (s : St) : exec Γ N ref08_Mean_l1b s = exec Γ N ref08_Mean_l1b_y s := rfl
theorem ref08_Mean_l1_x (Γ : Env) (N : Nat) (s : St) : exec Γ N ref08_Mean_l1 s = exec Γ N ref08_Mean_l1_y s := rfl
theorem ref08_Mean_c_x (Γ : Env) (N : Nat) (s : St) : exec Γ N ref08_Mean_c s = exec Γ N ref08_Mean_c_y s := rfl
theorem ref42_Percentile_l1b_x (Γ : Env) (N : Nat) (s : St) : exec Γ N ref42_Percentile_l1b s = exec Γ N ref42_Percentile_l1b_y s := rfl
theorem ref42_Percentile_l1_x (Γ : Env) (N : Nat) (s : St) : exec Γ N ref42_Percentile_l1 s = exec Γ N ref42_Percentile_l1_y s := rfl
theorem ref42_Percentile_l2b_x (Γ : Env) (N : Nat) (s : St) : exec Γ N ref42_Percentile_l2b s = exec Γ N ref42_Percentile_l2b_y s := rfl
theorem ref42_Percentile_l2_x (Γ : Env) (N : Nat) (s : St) : exec Γ N ref42_Percentile_l2 s = exec Γ N ref42_Percentile_l2_y s := rfl
theorem ref42_Percentile_c_x (Γ : Env) (N : Nat) (s : St) : exec Γ N ref42_Percentile_c s = exec Γ N ref42_Percentile_c_y s := rfl
theorem rank_Many_l1b_x (Γ : Env) (N : Nat) (s : St) : exec Γ N rank_Many_l1b s = exec Γ N rank_Many_l1b_y s := rfl
theorem rank_Many_l1_x (Γ : Env) (N : Nat) (s : St) : exec Γ N rank_Many_l1 s = exec Γ N rank_Many_l1_y s := rfl
theorem rank_Many_c_x (Γ : Env) (N : Nat) (s : St) : exec Γ N rank_Many_c s = exec Γ N rank_Many_c_y s := rfl
theorem report_ranks_c_x (Γ : Env) (N : Nat) (s : St) : exec Γ N report_ranks_c s = exec Γ N report_ranks_c_y s := rfl
theorem frac_Text_c_x (Γ : Env) (N : Nat) (s : St) : exec Γ N frac_Text_c s = exec Γ N frac_Text_c_y s := rfl
theorem report_Stats_l1b_x (Γ : Env) (N : Nat) (s : St) : exec Γ N report_Stats_l1b s = exec Γ N report_Stats_l1b_y s := rfl
theorem report_Stats_l1_x (Γ : Env) (N : Nat) (s : St) : exec Γ N report_Stats_l1 s = exec Γ N report_Stats_l1_y s := rfl
theorem report_Stats_l2b_x (Γ : Env) (N : Nat) (s : St) : exec Γ N report_Stats_l2b s = exec Γ N report_Stats_l2b_y s := rfl
theorem report_Stats_l2_x (Γ : Env) (N : Nat) (s : St) : exec Γ N report_Stats_l2 s = exec Γ N report_Stats_l2_y s := rfl
theorem report_Stats_c_x (Γ : Env) (N : Nat) (s : St) : exec Γ N report_Stats_c s = exec Γ N report_Stats_c_y s := rfl
theorem ref42_Stats_l1b_x (Γ : Env) (N : Nat) (s : St) : exec Γ N ref42_Stats_l1b s = exec Γ N ref42_Stats_l1b_y s := rfl
theorem ref42_Stats_l1_x (Γ : Env) (N : Nat) (s : St) : exec Γ N ref42_Stats_l1 s = exec Γ N ref42_Stats_l1_y s := rfl
theorem ref42_Stats_c_x (Γ : Env) (N : Nat) (s : St) : exec Γ N ref42_Stats_c s = exec Γ N ref42_Stats_c_y s := rfl
theorem ref42_within_l1b_x (Γ : Env) (N : Nat) (s : St) : exec Γ N ref42_within_l1b s = exec Γ N ref42_within_l1b_y s := rfl
theorem ref42_within_l1_x (Γ : Env) (N : Nat) (s : St) : exec Γ N ref42_within_l1 s = exec Γ N ref42_within_l1_y s := rfl
theorem ref42_within_c_x (Γ : Env) (N : Nat) (s : St) : exec Γ N ref42_within_c s = exec Γ N ref42_within_c_y s := rfl
theorem ref42_Bins_l1b_x (Γ : Env) (N : Nat) (s : St) : exec Γ N ref42_Bins_l1b s = exec Γ N ref42_Bins_l1b_y s := rfl
theorem ref42_Bins_l1_x (Γ : Env) (N : Nat) (s : St) : exec Γ N ref42_Bins_l1 s = exec Γ N ref42_Bins_l1_y s := rfl
theorem ref42_Bins_c_x (Γ : Env) (N : Nat) (s : St) : exec Γ N ref42_Bins_c s = exec Γ N ref42_Bins_c_y s := rfl
theorem slices_Equal_Sstring_string_l1b_x (Γ : Env) (N : Nat) (s : St) : exec Γ N slices_Equal_Sstring_string_l1b s = exec Γ N slices_Equal_Sstring_string_l1b_y s := rfl
theorem slices_Equal_Sstring_string_l1_x (Γ : Env) (N : Nat) (s : St) : exec Γ N slices_Equal_Sstring_string_l1 s = exec Γ N slices_Equal_Sstring_string_l1_y s := rfl
theorem slices_Equal_Sstring_string_c_x (Γ : Env) (N : Nat) (s : St) : exec Γ N slices_Equal_Sstring_string_c s = exec Γ N slices_Equal_Sstring_string_c_y s := rfl
attribute [simp] frac_Mean_l1b_y frac_Mean_l1_y frac_Mean_c_y ref08_Mean_l1b_y ref08_Mean_l1_y ref08_Mean_c_y ref42_Percentile_l1b_y ref42_Percentile_l1_y ref42_Percentile_l2b_y ref42_Percentile_l2_y ref42_Percentile_c_y rank_Many_l1b_y rank_Many_l1_y rank_Many_c_y report_ranks_c_y frac_Text_c_y report_Stats_l1b_y report_Stats_l1_y report_Stats_l2b_y report_Stats_l2_y report_Stats_c_y ref42_Stats_l1b_y ref42_Stats_l1_y ref42_Stats_c_y ref42_within_l1b_y ref42_within_l1_y ref42_within_c_y ref42_Bins_l1b_y ref42_Bins_l1_y ref42_Bins_c_y slices_Equal_Sstring_string_l1b_y slices_Equal_Sstring_string_l1_y slices_Equal_Sstring_string_c_y
attribute [simp] frac_Mean_l1b_x frac_Mean_c_x frac_Mean_f ref08_Mean_l1b_x ref08_Mean_c_x ref08_Mean_f ref42_Percentile_l1b_x ref42_Percentile_l2b_x ref42_Percentile_c_x ref42_Percentile_f rank_Many_l1b_x rank_Many_c_x rank_Many_f report_ranks_c_x report_ranks_f frac_Text_c_x frac_Text_f report_Stats_l1b_x report_Stats_l2b_x report_Stats_c_x report_Stats_f ref42_Stats_l1b_x ref42_Stats_c_x ref42_Stats_f ref42_within_l1b_x ref42_within_c_x ref42_within_f ref42_Bins_l1b_x ref42_Bins_c_x ref42_Bins_f slices_Equal_Sstring_string_l1b_x slices_Equal_Sstring_string_c_x slices_Equal_Sstring_string_f
end Go.Am
namespace Go.Am
open Cx
abbrev r294_14 : AI := o 78 (m 5) (o 4 (m 78) .done)
abbrev r294_13 : AI := o 77 (bk .add 11 1) (o 11 (m 77) .done)
abbrev r294_12 : AI := o 67 (m 5) (o 68 (m 0) (o 69 (m 6) (o 70 (ia 68 69 4) (o 71 (fa 70 0) (o 72 (l1 71) (o 73 (m 7) (o 74 (.bld zd2 [(0, 1, (.t 72)), (1, 1, (.t 73))]) (o 75 (.bsl 2 zd2 1 [(0, 2, (.t 74))]) (o 76 (.app 76 2 16 (.t 67) (.t 75)) (o 5 (m 76) .done))))))))))
abbrev r294_11 : AI := o 61 (m 5) (o 62 (m 8) (o 63 (bk .sub 62 1) (o 64 (m 7) (o 65 (ia 61 63 2) (o 66 (fa 65 1) (so 1 66 64 .done))))))
abbrev r294_10 : AI := .sc 60 (.t 47) true (o 59 (b2 .eql 53 58) .done) (.t 59) .done
abbrev r294_9 : AI := o 43 (m 5) (o 44 (le 43) (o 8 (m 44) .done))
abbrev r294_8 : AI := o 28 (m 0) (o 29 (m 6) (o 30 (ia 28 29 4) (o 31 (fa 30 3) (o 32 (l1 31) (o 33 (.un .not (.t 32)) (o 34 (m 33) (.sc 42 (.t 34) false (o 35 (m 0) (o 36 (m 6) (o 37 (ia 35 36 4) (o 38 (fa 37 0) (o 39 (l1 38) (o 40 (m 7) (o 41 (b2 .geq 39 40) .done))))))) (.t 41) .done)))))))
abbrev r294_7 : AI := o 20 (m 7) (o 21 (m 0) (o 22 (m 6) (o 23 (bk .add 22 1) (o 24 (ia 21 23 4) (o 25 (fa 24 0) (o 26 (l1 25) (o 27 (.mn (.t 20) [.t 26]) (o 7 (m 27) .done))))))))
abbrev r294_6 : AI := o 15 (m 6) (o 16 (bk .add 15 1) (o 17 (m 0) (o 18 (le 17) (o 19 (b2 .lss 16 18) .done))))
abbrev r294_5 : AI := o 14 (m 1) (o 7 (m 14) .done)
abbrev r294_4 : AI := o 13 (m 11) (o 6 (m 13) .done)
abbrev r294_3 : AI := o 12 (b2 .lss 11 10) .done
abbrev r294_2 : AI := o 9 (m 0) (o 10 (le 9) (o 11 (.mov (ki 0)) .done))
abbrev r294_1 : AI := o 5 (.mov (.k (.nil 2))) .done
abbrev r294_0 : AI := o 4 (.mov (.k (.nil 2))) .done
abbrev r294_10q : List DIt := [d 45 (m 8), d 46 (.bin .gtr (.t 45) (ki 0)), d 47 (m 46), ⟨(some 48), .mov (.t 5), (some (47, true))⟩, ⟨(some 49), .mov (.t 8), (some (47, true))⟩, ⟨(some 50), .bin .sub (.t 49) (ki 1), (some (47, true))⟩, ⟨(some 51), .iad (.t 48) (.t 50) 2, (some (47, true))⟩, ⟨(some 52), .fad (.t 51) 1, (some (47, true))⟩, ⟨(some 53), .ld (.t 52) 1 false, (some (47, true))⟩, ⟨(some 54), .mov (.t 0), (some (47, true))⟩, ⟨(some 55), .mov (.t 6), (some (47, true))⟩, ⟨(some 56), .iad (.t 54) (.t 55) 4, (some (47, true))⟩, ⟨(some 57), .fad (.t 56) 0, (some (47, true))⟩, ⟨(some 58), .ld (.t 57) 1 false, (some (47, true))⟩]
abbrev track_Doors_l1b_y : AC := sr r294_3 (.keep [0, 1, 5, 10, 11, 12] [5, 76] (.seq (cd 12 .skip (.keep [5] [5, 76] (.exit 0))) (.keep [0, 1, 5, 10, 11] [5, 76] (.seq (.block 1 (sr r294_4 (.keep [0, 1, 5, 6, 10, 11] [5, 76] (sr r294_5 (.keep [0, 1, 5, 6, 7, 10, 11] [5, 76] (.seq (sr r294_6 (.keep [0, 1, 5, 6, 7, 10, 11, 19] [5, 76] (cd 19 (.keep [0, 1, 5, 6, 7, 10, 11] [5, 76] (rg r294_7)) .skip))) (.keep [0, 1, 5, 6, 7, 10, 11] [5, 76] (.seq (sr r294_8 (.keep [0, 1, 5, 6, 7, 10, 11, 42] [5, 76] (cd 42 (.keep [0, 1, 5, 10, 11] [5, 76] (.exit 1)) .skip))) (.keep [0, 1, 5, 6, 7, 10, 11] [5, 76] (.seq (sr r294_9 (.keep [0, 1, 5, 6, 7, 8, 10, 11] [5, 76] (.seq (.draw r294_10q [] [] r294_10) (.keep [0, 1, 5, 6, 7, 8, 10, 11, 60] [5, 76] (cd 60 (.keep [0, 1, 5, 7, 8, 10, 11] [5, 76] (sr r294_11 (.keep [0, 1, 5, 10, 11] [5, 76] (.exit 1)))) .skip))))) (.keep [0, 1, 5, 6, 7, 10, 11] [5, 76] (rg r294_12)))))))))))) (.keep [0, 1, 5, 10, 11] [5, 76] (rg r294_13))))))
def track_Doors_l1b : AC := track_Doors_l1b_y
abbrev track_Doors_l1_y : AC := .keep [0, 1, 5, 10, 11] [5, 76] (track_Doors_l1b)
def track_Doors_l1 : AC := track_Doors_l1_y
abbrev track_Doors_c_y : AC := sr r294_0 (.keep [0, 1] [] (sr r294_1 (.keep [0, 1, 5] [5, 76] (.own 5 5 (.seq (sr r294_2 (.keep [0, 1, 5, 10, 11] [5, 76] (.block 0 (.loop track_Doors_l1)))) (.keep [5] [5, 76] (sr r294_14 (.keep [4] [5, 76] .ret))))))))
def track_Doors_c : AC := track_Doors_c_y
def track_Doors_f : AFn := ⟨track_Doors_c, [.t 4], 0, 0, []⟩
abbrev r113_7 : AI := o 48 (ln 6 2) (o 49 (m 7) (so 2 4 48 (o 5 (m 49) .done)))
abbrev r113_4 : AI := o 14 (m 8) (o 15 (bk .add 14 1) (o 8 (m 15) .done))
abbrev r113_6 : AI := o 47 (.bld [.int .i64 0, .bool false] [(0, 1, (.t 41)), (1, 1, (.t 46))]) (so 2 6 47 (o 7 (.mov (kb true)) .done))
abbrev r113_5 : AI := o 16 (m 0) (o 17 (m 8) (o 18 (ia 16 17 4) (o 19 (fa 18 0) (o 20 (l1 19) (o 21 (m 1) (o 22 (b2 .leq 20 21) .done))))))
abbrev r113_3 : AI := o 10 (m 8) (o 11 (m 0) (o 12 (le 11) (o 13 (b2 .lss 10 12) .done)))
abbrev r113_2 : AI := o 8 (.mov (ki 0)) .done
abbrev r113_1 : AI := o 9 (.bld [.int .i64 0, .bool false] []) (o 6 (.alc 6 [.c (.int .i64 0), .c (.bool false)]) (so 2 6 9 (o 7 (.mov (kb false)) .done)))
abbrev r113_0 : AI := o 4 (.alc 4 [.c (.int .i64 0), .c (.bool false)]) (o 5 (.mov (kb false)) .done)
abbrev r113_6q : List DIt := [d 23 (m 0), d 24 (m 8), d 25 (ia 23 24 4), d 26 (fa 25 1), d 27 (l1 26), d 28 (m 0), d 29 (m 8), d 30 (ia 28 29 4), d 31 (fa 30 2), d 32 (l1 31), d 33 (m 1), d 34 (m 0), d 35 (m 8), d 36 (ia 34 35 4), d 37 (fa 36 0), d 38 (l1 37), d 39 (.bin .sub (.t 33) (.t 38)), d 40 (.bin .mul (.t 32) (.t 39)), d 41 (.bin .add (.t 27) (.t 40)), d 42 (m 0), d 43 (m 8), d 44 (ia 42 43 4), d 45 (fa 44 3), d 46 (l1 45)]
abbrev ref25_At_l1b_y : AC := .seq (sr r113_3 (.keep [0, 1, 4, 6, 7, 8, 13] [4, 6] (cd 13 .skip (.keep [4, 6, 7] [4, 6] (.exit 0))))) (.keep [0, 1, 4, 6, 7, 8] [4, 6] (.seq (.block 1 (sr r113_5 (.keep [0, 1, 4, 6, 7, 8, 22] [4, 6] (cd 22 (.keep [0, 1, 4, 6, 8] [4, 6] (.draw r113_6q [] [] r113_6)) .skip)))) (.keep [0, 1, 4, 6, 7, 8] [4, 6] (rg r113_4))))
def ref25_At_l1b : AC := ref25_At_l1b_y
abbrev ref25_At_l1_y : AC := .keep [0, 1, 4, 6, 7, 8] [4, 6] (ref25_At_l1b)
def ref25_At_l1 : AC := ref25_At_l1_y
abbrev ref25_At_c_y : AC := sr r113_0 (.keep [0, 1, 4] [4] (sr r113_1 (.keep [0, 1, 4, 6, 7] [4, 6] (.seq (sr r113_2 (.keep [0, 1, 4, 6, 7, 8] [4, 6] (.block 0 (.loop ref25_At_l1)))) (.keep [4, 6, 7] [4, 6] (sr r113_7 (.keep [4, 5] [4] .ret)))))))
def ref25_At_c : AC := ref25_At_c_y
def ref25_At_f : AFn := ⟨ref25_At_c, [.m 4 2 true, .t 5], 0, 0, []⟩
abbrev r128_9 : AI := o 31 (m 5) (o 4 (m 31) .done)
abbrev r128_6 : AI := o 19 (m 6) (o 20 (bk .add 19 1) (o 6 (m 20) .done))
abbrev r128_8 : AI := o 27 (m 5) (o 28 (ln 7 2) (o 29 (.bsl 2 [.int .i64 0, .bool false] 1 [(0, 2, (.t 28))]) (o 30 (.app 30 2 16 (.t 27) (.t 29)) (o 5 (m 30) .done))))
abbrev r128_7 : AI := o 22 (m 0) (o 23 (m 6) (o 24 (c2 113 22 23) (o 21 (m 24) (o 25 (ex 21 0) (o 26 (ex 21 1) (o 7 (.alc 7 [.c (.int .i64 0), .c (.bool false)]) (so 2 7 25 (o 8 (m 26) .done))))))))
abbrev r128_5 : AI := o 16 (m 6) (o 17 (m 1) (o 18 (b2 .lss 16 17) .done))
abbrev r128_4 : AI := o 12 (m 0) (o 13 (.iad (.t 12) (ki 0) 4) (o 14 (fa 13 0) (o 15 (l1 14) (o 6 (m 15) .done))))
abbrev r128_3 : AI := o 4 (.mov (.k (.nil 2))) .done
abbrev r128_2 : AI := o 9 (m 0) (o 10 (le 9) (o 11 (bk .eql 10 0) .done))
abbrev r128_1 : AI := o 5 (.mov (.k (.nil 2))) .done
abbrev r128_0 : AI := o 4 (.mov (.k (.nil 2))) .done
abbrev ref25_All_l1b_y : AC := .seq (sr r128_5 (.keep [0, 1, 5, 6, 18] [5, 30] (cd 18 .skip (.keep [5] [5, 30] (.exit 0))))) (.keep [0, 1, 5, 6] [5, 30] (.seq (.block 1 (sr r128_7 (.keep [0, 1, 5, 6, 7] [5, 7, 30] (rg r128_8)))) (.keep [0, 1, 5, 6] [5, 30] (rg r128_6))))
def ref25_All_l1b : AC := ref25_All_l1b_y
abbrev ref25_All_l1_y : AC := .keep [0, 1, 5, 6] [5, 30] (ref25_All_l1b)
def ref25_All_l1 : AC := ref25_All_l1_y
abbrev ref25_All_c_y : AC := sr r128_0 (.keep [0, 1] [] (sr r128_1 (.keep [0, 1, 5] [5, 30] (.own 5 5 (.seq (sr r128_2 (.keep [0, 1, 5, 11] [5, 30] (cd 11 (.keep [] [] (sr r128_3 (.keep [4] [5, 30] .ret))) .skip))) (.keep [0, 1, 5] [5, 30] (.seq (sr r128_4 (.keep [0, 1, 5, 6] [5, 30] (.block 0 (.loop ref25_All_l1)))) (.keep [5] [5, 30] (sr r128_9 (.keep [4] [5, 30] .ret))))))))))
def ref25_All_c : AC := ref25_All_c_y
def ref25_All_f : AFn := ⟨ref25_All_c, [.t 4], 0, 0, []⟩
abbrev r296_11 : AI := o 55 (m 6) (o 4 (m 55) .done)
abbrev r296_5 : AI := o 16 (m 7) (o 17 (bk .add 16 1) (o 7 (m 17) .done))
abbrev r296_9 : AI := o 40 (m 6) (o 41 (m 6) (o 42 (le 41) (o 43 (bk .sub 42 1) (o 44 (m 8) (o 45 (bk .add 44 1) (o 46 (ia 40 43 2) (o 47 (fa 46 1) (so 1 47 45 .done))))))))
abbrev r296_10 : AI := o 48 (m 6) (o 49 (m 8) (o 50 (m 8) (o 51 (bk .add 50 1) (o 52 (.bld zd2 [(0, 1, (.t 49)), (1, 1, (.t 51))]) (o 53 (.bsl 2 zd2 1 [(0, 2, (.t 52))]) (o 54 (.app 54 2 16 (.t 48) (.t 53)) (o 6 (m 54) .done)))))))
abbrev r296_8 : AI := o 30 (m 7) (o 31 (bk .gtr 30 0) (o 32 (m 31) (.sc 39 (.t 32) true (o 33 (m 5) (o 34 (m 7) (o 35 (bk .sub 34 1) (o 36 (ia 33 35 2) (o 37 (fa 36 1) (o 38 (l1 37) .done)))))) (.t 38) .done)))
abbrev r296_7 : AI := o 24 (m 0) (o 25 (.iad (.t 24) (ki 0) 4) (o 26 (fa 25 0) (o 27 (l1 26) (o 28 (m 7) (o 29 (b2 .add 27 28) (o 8 (m 29) .done))))))
abbrev r296_6 : AI := o 18 (m 5) (o 19 (m 7) (o 20 (ia 18 19 2) (o 21 (fa 20 1) (o 22 (l1 21) (o 23 (.un .not (.t 22)) .done)))))
abbrev r296_4 : AI := o 12 (m 7) (o 13 (m 5) (o 14 (le 13) (o 15 (b2 .lss 12 14) .done)))
abbrev r296_3 : AI := o 7 (.mov (ki 0)) .done
abbrev r296_2 : AI := o 6 (.mov (.k (.nil 2))) .done
abbrev r296_1 : AI := o 9 (m 0) (o 10 (m 1) (o 11 (c2 128 9 10) (o 5 (m 11) .done)))
abbrev r296_0 : AI := o 4 (.mov (.k (.nil 2))) .done
abbrev ref25_Doors_l1b_y : AC := .seq (sr r296_4 (.keep [0, 5, 6, 7, 15] [6, 54] (cd 15 .skip (.keep [6] [6, 54] (.exit 0))))) (.keep [0, 5, 6, 7] [6, 54] (.seq (.block 1 (.seq (sr r296_6 (.keep [0, 5, 6, 7, 23] [6, 54] (cd 23 (.keep [0, 5, 6, 7] [6, 54] (.exit 1)) .skip))) (.keep [0, 5, 6, 7] [6, 54] (sr r296_7 (.keep [0, 5, 6, 7, 8] [6, 54] (sr r296_8 (.keep [0, 5, 6, 7, 8, 39] [6, 54] (cd 39 (.keep [0, 5, 6, 7, 8] [6, 54] (rg r296_9)) (.keep [0, 5, 6, 7, 8] [6, 54] (rg r296_10)))))))))) (.keep [0, 5, 6, 7] [6, 54] (rg r296_5))))
def ref25_Doors_l1b : AC := ref25_Doors_l1b_y
abbrev ref25_Doors_l1_y : AC := .keep [0, 5, 6, 7] [6, 54] (ref25_Doors_l1b)
def ref25_Doors_l1 : AC := ref25_Doors_l1_y
abbrev ref25_Doors_c_y : AC := sr r296_0 (.keep [0, 1] [] (sr r296_1 (.keep [0, 5] [] (sr r296_2 (.keep [0, 5, 6] [6, 54] (.own 6 6 (.seq (sr r296_3 (.keep [0, 5, 6, 7] [6, 54] (.block 0 (.loop ref25_Doors_l1)))) (.keep [6] [6, 54] (sr r296_11 (.keep [4] [6, 54] .ret))))))))))
def ref25_Doors_c : AC := ref25_Doors_c_y
def ref25_Doors_f : AFn := ⟨ref25_Doors_c, [.t 4], 0, 0, []⟩
abbrev r292_9 : AI := o 2 (.mov (kb false)) .done
abbrev r292_5 : AI := o 12 (m 3) (o 13 (bk .add 12 1) (o 3 (m 13) .done))
abbrev r292_8 : AI := o 2 (.mov (kb true)) .done
abbrev r292_7 : AI := .sc 60 (.t 46) false (o 59 (.pick (.t 49) (.t 58) (kb false)) .done) (.t 59) .done
abbrev r292_6 : AI := o 14 (m 0) (o 15 (m 3) (o 16 (ia 14 15 4) (o 17 (ln 16 4) (o 4 (.alc 4 [.c (.int .i64 0), .c (.int .i64 0), .c (.int .i64 0), .c (.bool false)]) (so 4 4 17 .done)))))
abbrev r292_4 : AI := o 8 (m 3) (o 9 (m 0) (o 10 (le 9) (o 11 (b2 .lss 8 10) .done)))
abbrev r292_3 : AI := o 3 (.mov (ki 0)) .done
abbrev r292_2 : AI := o 2 (.mov (kb true)) .done
abbrev r292_1 : AI := o 5 (m 0) (o 6 (le 5) (o 7 (bk .gtr 6 60) .done))
abbrev r292_0 : AI := o 2 (.mov (kb false)) .done
abbrev r292_7q : List DIt := [d 18 (fa 4 2), d 19 (l1 18), d 20 (.bin .lss (.t 19) (.k (.c (.int .i64 (-1))))), d 21 (m 20), ⟨(some 22), .fad (.t 4) 2, (some (21, false))⟩, ⟨(some 23), .ld (.t 22) 1 false, (some (21, false))⟩, ⟨(some 24), .bin .gtr (.t 23) (ki 1), (some (21, false))⟩, d 25 (.pick (.t 21) (kb true) (.t 24)), d 26 (m 25), ⟨(some 27), .fad (.t 4) 1, (some (26, false))⟩, ⟨(some 28), .ld (.t 27) 1 false, (some (26, false))⟩, ⟨(some 29), .bin .lss (.t 28) (.k (.c (.int .i64 (-1073741824)))), (some (26, false))⟩, d 30 (.pick (.t 26) (kb true) (.t 29)), d 31 (m 30), ⟨(some 32), .fad (.t 4) 1, (some (31, false))⟩, ⟨(some 33), .ld (.t 32) 1 false, (some (31, false))⟩, ⟨(some 34), .bin .gtr (.t 33) (ki 1073741824), (some (31, false))⟩, d 35 (.pick (.t 31) (kb true) (.t 34)), d 36 (m 35), ⟨(some 37), .fad (.t 4) 0, (some (36, false))⟩, ⟨(some 38), .ld (.t 37) 1 false, (some (36, false))⟩, ⟨(some 39), .bin .lss (.t 38) (.k (.c (.int .i64 (-1073741824)))), (some (36, false))⟩, d 40 (.pick (.t 36) (kb true) (.t 39)), d 41 (m 40), ⟨(some 42), .fad (.t 4) 0, (some (41, false))⟩, ⟨(some 43), .ld (.t 42) 1 false, (some (41, false))⟩, ⟨(some 44), .bin .gtr (.t 43) (ki 1073741824), (some (41, false))⟩, d 45 (.pick (.t 41) (kb true) (.t 44)), d 46 (m 45), ⟨(some 47), .mov (.t 3), (some (46, false))⟩, ⟨(some 48), .bin .gtr (.t 47) (ki 0), (some (46, false))⟩, ⟨(some 49), .mov (.t 48), (some (46, false))⟩, ⟨(some 50), .fad (.t 4) 0, (some (49, true))⟩, ⟨(some 51), .ld (.t 50) 1 false, (some (49, true))⟩, ⟨(some 52), .mov (.t 0), (some (49, true))⟩, ⟨(some 53), .mov (.t 3), (some (49, true))⟩, ⟨(some 54), .bin .sub (.t 53) (ki 1), (some (49, true))⟩, ⟨(some 55), .iad (.t 52) (.t 54) 4, (some (49, true))⟩, ⟨(some 56), .fad (.t 55) 0, (some (49, true))⟩, ⟨(some 57), .ld (.t 56) 1 false, (some (49, true))⟩, ⟨(some 58), .bin .leq (.t 51) (.t 57), (some (49, true))⟩]
abbrev law25_Great_l1b_y : AC := .seq (sr r292_4 (.keep [0, 3, 11] [] (cd 11 .skip (.keep [] [] (.exit 0))))) (.keep [0, 3] [] (.seq (.block 1 (sr r292_6 (.keep [0, 3, 4] [4] (.seq (.draw r292_7q [] [] r292_7) (.keep [0, 3, 60] [] (cd 60 (.keep [] [] (sr r292_8 (.keep [2] [] .ret))) .skip)))))) (.keep [0, 3] [] (rg r292_5))))
def law25_Great_l1b : AC := law25_Great_l1b_y
abbrev law25_Great_l1_y : AC := .keep [0, 3] [] (law25_Great_l1b)
def law25_Great_l1 : AC := law25_Great_l1_y
abbrev law25_Great_c_y : AC := sr r292_0 (.keep [0] [] (.seq (sr r292_1 (.keep [0, 7] [] (cd 7 (.keep [] [] (sr r292_2 (.keep [2] [] .ret))) .skip))) (.keep [0] [] (.seq (sr r292_3 (.keep [0, 3] [] (.block 0 (.loop law25_Great_l1)))) (.keep [] [] (sr r292_9 (.keep [2] [] .ret)))))))
def law25_Great_c : AC := law25_Great_c_y
def law25_Great_f : AFn := ⟨law25_Great_c, [.t 2], 0, 0, []⟩
abbrev r256_8 : AI := o 4 (.mov (kb false)) .done
abbrev r256_5 : AI := o 21 (m 5) (o 22 (bk .add 21 1) (o 5 (m 22) .done))
abbrev r256_7 : AI := o 4 (.mov (kb true)) .done
abbrev r256_6 : AI := o 23 (m 0) (o 24 (m 5) (o 25 (ia 23 24 1) (o 26 (l1 25) (o 27 (le 26) (o 28 (bk .gtr 27 40) (o 29 (m 28) (.sc 35 (.t 29) false (o 30 (m 0) (o 31 (m 5) (o 32 (ia 30 31 1) (o 33 (l1 32) (o 34 (c1 292 33) .done))))) (.t 34) (o 36 (m 35) (.sc 55 (.t 36) false (o 37 (m 0) (o 38 (m 5) (o 39 (ia 37 38 1) (o 40 (l1 39) (o 41 (le 40) (o 42 (bk .gtr 41 0) (o 43 (m 42) (.sc 54 (.t 43) true (o 44 (m 1) (o 45 (m 0) (o 46 (m 5) (o 47 (ia 45 46 1) (o 48 (l1 47) (o 49 (.iad (.t 48) (ki 0) 4) (o 50 (fa 49 0) (o 51 (l1 50) (o 52 (b2 .sub 44 51) (o 53 (bk .gtr 52 300) .done)))))))))) (.t 53) .done)))))))) (.t 54) .done)))))))))
abbrev r256_4 : AI := o 17 (m 5) (o 18 (m 0) (o 19 (le 18) (o 20 (b2 .lss 17 19) .done)))
abbrev r256_3 : AI := o 5 (.mov (ki 0)) .done
abbrev r256_2 : AI := o 4 (.mov (kb true)) .done
abbrev r256_1 : AI := o 6 (m 0) (o 7 (le 6) (o 8 (bk .gtr 7 10) (o 9 (m 8) (.scs 12 (.t 9) false (o 10 (m 1) (o 11 (.bin .lss (.t 10) (.k (.c (.int .i64 (-1))))) .done)) (.t 11) (o 13 (m 12) (.scs 16 (.t 13) false (o 14 (m 1) (o 15 (bk .gtr 14 1073741824) .done)) (.t 15) .done))))))
abbrev r256_0 : AI := o 4 (.mov (kb false)) .done
abbrev law35_Great_l1b_y : AC := .seq (sr r256_4 (.keep [0, 1, 5, 20] [] (cd 20 .skip (.keep [] [] (.exit 0))))) (.keep [0, 1, 5] [] (.seq (.block 1 (sr r256_6 (.keep [0, 1, 5, 55] [] (cd 55 (.keep [] [] (sr r256_7 (.keep [4] [] .ret))) .skip)))) (.keep [0, 1, 5] [] (rg r256_5))))
def law35_Great_l1b : AC := law35_Great_l1b_y
abbrev law35_Great_l1_y : AC := .keep [0, 1, 5] [] (law35_Great_l1b)
def law35_Great_l1 : AC := law35_Great_l1_y
abbrev law35_Great_c_y : AC := sr r256_0 (.keep [0, 1] [] (.seq (sr r256_1 (.keep [0, 1, 16] [] (cd 16 (.keep [] [] (sr r256_2 (.keep [4] [] .ret))) .skip))) (.keep [0, 1] [] (.seq (sr r256_3 (.keep [0, 1, 5] [] (.block 0 (.loop law35_Great_l1)))) (.keep [] [] (sr r256_8 (.keep [4] [] .ret)))))))
def law35_Great_c : AC := law35_Great_c_y
def law35_Great_f : AFn := ⟨law35_Great_c, [.t 4], 0, 0, []⟩
theorem track_Doors_l1b_x (Γ : Env) (N : Nat) (s : St) : exec Γ N track_Doors_l1b s = exec Γ N track_Doors_l1b_y s := rfl
theorem track_Doors_l1_x (Γ : Env) (N : Nat) (s : St) : exec Γ N track_Doors_l1 s = exec Γ N track_Doors_l1_y s := rfl
theorem track_Doors_c_x (Γ : Env) (N : Nat) (s : St) : exec Γ N track_Doors_c s = exec Γ N track_Doors_c_y s := rfl
theorem ref25_At_l1b_x (Γ : Env) (N : Nat) (s : St) : exec Γ N ref25_At_l1b s = exec Γ N ref25_At_l1b_y s := rfl
theorem ref25_At_l1_x (Γ : Env) (N : Nat) (s : St) : exec Γ N ref25_At_l1 s = exec Γ N ref25_At_l1_y s := rfl
theorem ref25_At_c_x (Γ : Env) (N : Nat) (s : St) : exec Γ N ref25_At_c s = exec Γ N ref25_At_c_y s := rfl
theorem ref25_All_l1b_x (Γ : Env) (N : Nat) (s : St) : exec Γ N ref25_All_l1b s = exec Γ N ref25_All_l1b_y s := rfl
theorem ref25_All_l1_x (Γ : Env) (N : Nat) (s : St) : exec Γ N ref25_All_l1 s = exec Γ N ref25_All_l1_y s := rfl
theorem ref25_All_c_x (Γ : Env) (N : Nat) (s : St) : exec Γ N ref25_All_c s = exec Γ N ref25_All_c_y s := rfl
theorem ref25_Doors_l1b_x (Γ : Env) (N : Nat) (s : St) : exec Γ N ref25_Doors_l1b s = exec Γ N ref25_Doors_l1b_y s := rfl
theorem ref25_Doors_l1_x (Γ : Env) (N : Nat) (s : St) : exec Γ N ref25_Doors_l1 s = exec Γ N ref25_Doors_l1_y s := rfl
theorem ref25_Doors_c_x (Γ : Env) (N : Nat) (s : St) : exec Γ N ref25_Doors_c s = exec Γ N ref25_Doors_c_y s := rfl
theorem law25_Great_l1b_x (Γ : Env) (N : Nat) (s : St) : exec Γ N law25_Great_l1b s = exec Γ N law25_Great_l1b_y s := rfl
theorem law25_Great_l1_x (Γ : Env) (N : Nat) (s : St) : exec Γ N law25_Great_l1 s = exec Γ N law25_Great_l1_y s := rfl
theorem law25_Great_c_x (Γ : Env) (N : Nat) (s : St) : exec Γ N law25_Great_c s = exec Γ N law25_Great_c_y s := rfl
theorem law35_Great_l1b_x (Γ : Env) (N : Nat) (s : St) : exec Γ N law35_Great_l1b s = exec Γ N law35_Great_l1b_y s := rfl
theorem law35_Great_l1_x (Γ : Env) (N : Nat) (s : St) : exec Γ N law35_Great_l1 s = exec Γ N law35_Great_l1_y s := rfl
theorem law35_Great_c_x (Γ : Env) (N : Nat) (s : St) : exec Γ N law35_Great_c s = exec Γ N law35_Great_c_y s := rfl
attribute [simp] track_Doors_l1b_y track_Doors_l1_y track_Doors_c_y ref25_At_l1b_y ref25_At_l1_y ref25_At_c_y ref25_All_l1b_y ref25_All_l1_y ref25_All_c_y ref25_Doors_l1b_y ref25_Doors_l1_y ref25_Doors_c_y law25_Great_l1b_y law25_Great_l1_y law25_Great_c_y law35_Great_l1b_y law35_Great_l1_y law35_Great_c_y
attribute [simp] track_Doors_l1b_x track_Doors_c_x track_Doors_f ref25_At_l1b_x ref25_At_c_x ref25_At_f ref25_All_l1b_x ref25_All_c_x ref25_All_f ref25_Doors_l1b_x ref25_Doors_c_x ref25_Doors_f law25_Great_l1b_x law25_Great_c_x law25_Great_f law35_Great_l1b_x law35_Great_c_x law35_Great_f
end Go.Am
namespace Go.Am
open Cx
abbrev r717_6 : AI := o 46 (.bsl 1 [.str []] 4 [(0, 1, (.t 31)), (1, 1, (.t 35)), (2, 1, (.t 37)), (3, 1, (.t 45))]) (o 47 (.call 720 [.t 46, ks [10]]) (o 4 (m 47) (o 5 (.mov (ki 0)) .done)))
abbrev r717_5 : AI := o 25 (.bsl 1 [.str []] 6 [(0, 1, (ks [116, 105, 99, 107, 115])), (1, 1, (ks [109, 101, 97, 110])), (2, 1, (ks [112, 53, 48])), (3, 1, (ks [112, 57, 48])), (4, 1, (ks [112, 57, 53])), (5, 1, (ks [112, 49, 48, 48]))]) (o 26 (m 8) (o 27 (.call 429 [(ks [119, 97, 105, 116]), (.t 26)]) (o 28 (m 9) (o 29 (.call 429 [(ks [116, 114, 97, 110, 115, 105, 116]), (.t 28)]) (o 30 (.bsl 1 [.vs 1 []] 3 [(0, 1, (.t 25)), (1, 1, (.t 27)), (2, 1, (.t 29))]) (o 10 (m 30) .done))))))
abbrev r717_4 : AI := o 24 (c1 406 23) (o 8 (m 21) (o 9 (m 24) .done))
abbrev r717_3 : AI := o 18 (m 7) (o 4 (.mov (ks [])) (o 5 (m 18) .done))
abbrev r717_2 : AI := o 16 (m 7) (o 17 (bk .neq 16 0) .done)
abbrev r717_1 : AI := o 12 (ln 2 13) (o 13 (c1 48 12) (o 11 (m 13) (o 14 (ex 11 0) (o 15 (ex 11 1) (o 6 (m 14) (o 7 (m 15) .done))))))
abbrev r717_0 : AI := o 2 (.box 2 (.t 0)) (o 3 (.box 3 (.t 1)) (o 4 (.mov (ks [])) (o 5 (.mov (ki 0)) .done)))
abbrev r717_6q : List DIt := [d 31 (m 6), d 32 (.ld (.t 2) 13 true), d 33 (.ld (.t 3) 3 true), d 34 (c2 721 32 33), d 35 (c1 183 34), d 36 (m 10), d 37 (c1 183 36), d 38 (fa 2 11), d 39 (l1 38), d 40 (fa 2 12), d 41 (l1 40), d 42 (m 8), d 43 (m 9), d 44 (.call 431 [.t 39, .t 41, .t 42, .t 43]), d 45 (c1 183 44)]
abbrev r717_4q : List DIt := [d 19 (fa 3 0), d 20 (l1 19), d 21 (c1 405 20), d 22 (fa 3 0), d 23 (l1 22)]
abbrev report_Text_c_y : AC := sr r717_0 (.keep [2, 3] [2, 3] (sr r717_1 (.keep [2, 3, 6, 7] [2, 3] (.seq (sr r717_2 (.keep [2, 3, 6, 7, 17] [2, 3] (cd 17 (.keep [7] [] (sr r717_3 (.keep [4, 5] [] .ret))) .skip))) (.keep [2, 3, 6] [2, 3] (.seq (.draw r717_4q [] [] r717_4) (.keep [2, 3, 6, 8, 9] [2, 3] (sr r717_5 (.keep [2, 3, 6, 8, 9, 10] [2, 3] (.seq (.draw r717_6q [] [] r717_6) (.keep [4, 5] [] .ret)))))))))))
def report_Text_c : AC := report_Text_c_y
def report_Text_f : AFn := ⟨report_Text_c, [.t 4, .t 5], 0, 0, []⟩
abbrev r721_4 : AI := o 84 (.bsl 1 [.vs 1 []] 10 [(0, 1, (.t 41)), (1, 1, (.t 44)), (2, 1, (.t 47)), (3, 1, (.t 50)), (4, 1, (.t 57)), (5, 1, (.t 61)), (6, 1, (.t 65)), (7, 1, (.t 72)), (8, 1, (.t 79)), (9, 1, (.t 83))]) (o 4 (m 84) .done)
abbrev r721_3 : AI := o 28 (fa 3 0) (o 29 (l1 28) (o 30 (fa 2 2) (o 31 (l1 30) (o 32 (fa 2 10) (o 33 (l1 32) (o 34 (.call 727 [.t 29, .t 31, .t 33]) (o 27 (m 34) (o 35 (ex 27 0) (o 36 (ex 27 1) (o 10 (.alc 10 za3) (so 3 10 35 (o 11 (m 36) .done))))))))))))
abbrev r721_2 : AI := o 20 (fa 3 1) (o 21 (l1 20) (o 22 (fa 2 10) (o 23 (l1 22) (o 24 (c2 728 21 23) (o 19 (m 24) (o 25 (ex 19 0) (o 26 (ex 19 1) (o 8 (.alc 8 za3) (so 3 8 25 (o 9 (m 26) .done))))))))))
abbrev r721_1 : AI := o 13 (fa 3 0) (o 14 (l1 13) (o 15 (c1 403 14) (o 12 (m 15) (o 16 (ex 12 0) (o 17 (ex 12 1) (o 18 (ex 12 2) (o 5 (m 16) (o 6 (m 17) (o 7 (m 18) .done)))))))))
abbrev r721_0 : AI := o 2 (.box 2 (.t 0)) (o 3 (.box 3 (.t 1)) (o 4 (.mov (.k (.nil 1))) .done))
abbrev r721_4q : List DIt := [d 37 (fa 3 0), d 38 (l1 37), d 39 (.len false (.t 38)), d 40 (c1 50 39), d 41 (.bsl 1 [.str []] 2 [(0, 1, (ks [112, 97, 115, 115, 101, 110, 103, 101, 114, 115])), (1, 1, (.t 40))]), d 42 (m 5), d 43 (c1 50 42), d 44 (.bsl 1 [.str []] 2 [(0, 1, (ks [100, 101, 108, 105, 118, 101, 114, 101, 100])), (1, 1, (.t 43))]), d 45 (m 6), d 46 (c1 50 45), d 47 (.bsl 1 [.str []] 2 [(0, 1, (ks [114, 105, 100, 105, 110, 103])), (1, 1, (.t 46))]), d 48 (m 7), d 49 (c1 50 48), d 50 (.bsl 1 [.str []] 2 [(0, 1, (ks [119, 97, 105, 116, 105, 110, 103])), (1, 1, (.t 49))]), d 51 (fa 3 0), d 52 (l1 51), d 53 (fa 2 10), d 54 (l1 53), d 55 (c2 723 52 54), d 56 (c1 50 55), d 57 (.bsl 1 [.str []] 2 [(0, 1, (ks [104, 97, 110, 100, 108, 105, 110, 103])), (1, 1, (.t 56))]), d 58 (.ld (.t 8) 3 true), d 59 (m 9), d 60 (c2 724 58 59), d 61 (.bsl 1 [.str []] 2 [(0, 1, (ks [105, 110, 116, 101, 114, 118, 97, 108])), (1, 1, (.t 60))]), d 62 (.ld (.t 10) 3 true), d 63 (m 11), d 64 (c2 724 62 63), d 65 (.bsl 1 [.str []] 2 [(0, 1, (ks [108, 111, 97, 100])), (1, 1, (.t 64))]), d 66 (fa 3 1), d 67 (l1 66), d 68 (fa 2 10), d 69 (l1 68), d 70 (c2 725 67 69), d 71 (c1 50 70), d 72 (.bsl 1 [.str []] 2 [(0, 1, (ks [116, 114, 97, 118, 101, 108])), (1, 1, (.t 71))]), d 73 (fa 3 1), d 74 (l1 73), d 75 (fa 2 10), d 76 (l1 75), d 77 (c2 726 74 76), d 78 (c1 50 77), d 79 (.bsl 1 [.str []] 2 [(0, 1, (ks [100, 111, 111, 114, 115])), (1, 1, (.t 78))]), d 80 (fa 3 2), d 81 (l1 80), d 82 (c1 50 81), d 83 (.bsl 1 [.str []] 2 [(0, 1, (ks [119, 111, 114, 100, 115])), (1, 1, (.t 82))])]
abbrev report_counts_c_y : AC := sr r721_0 (.keep [2, 3] [2, 3] (sr r721_1 (.keep [2, 3, 5, 6, 7] [2, 3] (sr r721_2 (.keep [2, 3, 5, 6, 7, 8, 9] [2, 3, 8] (sr r721_3 (.keep [2, 3, 5, 6, 7, 8, 9, 10, 11] [2, 3, 8, 10] (.seq (.draw r721_4q [] [] r721_4) (.keep [4] [] .ret)))))))))
def report_counts_c : AC := report_counts_c_y
def report_counts_f : AFn := ⟨report_counts_c, [.t 4], 0, 0, []⟩
abbrev r724_6 : AI := o 16 (m 5) (o 17 (.call 385 [.t 16, ki 2]) (o 4 (m 17) .done))
abbrev r724_5 : AI := o 4 (.mov (ks [110, 47, 97])) .done
abbrev r724_4 : AI := o 14 (m 6) (o 15 (bk .neq 14 0) .done)
abbrev r724_3 : AI := o 10 (ln 2 3) (o 11 (c1 386 10) (o 9 (m 11) (o 12 (ex 9 0) (o 13 (ex 9 1) (o 5 (m 12) (o 6 (m 13) .done))))))
abbrev r724_2 : AI := o 4 (.mov (ks [110, 47, 97])) .done
abbrev r724_1 : AI := o 7 (m 1) (o 8 (.un .not (.t 7)) .done)
abbrev r724_0 : AI := o 2 (.box 2 (.t 0)) (o 4 (.mov (ks [])) .done)
abbrev report_ratio_c_y : AC := sr r724_0 (.keep [1, 2] [2] (.seq (sr r724_1 (.keep [2, 8] [2] (cd 8 (.keep [] [] (sr r724_2 (.keep [4] [] .ret))) .skip))) (.keep [2] [2] (sr r724_3 (.keep [5, 6] [] (.seq (sr r724_4 (.keep [5, 15] [] (cd 15 (.keep [] [] (sr r724_5 (.keep [4] [] .ret))) .skip))) (.keep [5] [] (sr r724_6 (.keep [4] [] .ret)))))))))
def report_ratio_c : AC := report_ratio_c_y
def report_ratio_f : AFn := ⟨report_ratio_c, [.t 4], 0, 0, []⟩
abbrev r733_15 : AI := o 55 (m 7) (o 6 (m 55) .done)
abbrev r733_14 : AI := o 54 (bk .add 18 1) (o 18 (m 54) .done)
abbrev r733_13 : AI := o 50 (m 7) (o 51 (m 10) (o 52 (.bsl 1 [.vs 1 []] 1 [(0, 1, (.t 51))]) (o 53 (.app 53 1 24 (.t 50) (.t 52)) (o 7 (m 53) .done))))
abbrev r733_12 : AI := o 49 (bk .add 26 1) (o 26 (m 49) .done)
abbrev r733_11 : AI := o 44 (m 10) (o 45 (fa 12 0) (o 46 (l1 45) (o 47 (.bsl 1 zd1 1 [(0, 1, (.t 46))]) (o 48 (.app 48 1 8 (.t 44) (.t 47)) (o 10 (m 48) .done)))))
abbrev r733_10 : AI := o 38 (m 15) (o 39 (m 38) (.scs 43 (.t 39) true (o 40 (m 13) (o 41 (m 1) (o 42 (b2 .eql 40 41) .done))) (.t 42) .done))
abbrev r733_9 : AI := o 31 (m 9) (o 32 (fa 12 0) (o 33 (l1 32) (o 34 (c2 150 31 33) (o 30 (m 34) (o 35 (ex 30 0) (o 36 (ex 30 1) (o 37 (ex 30 2) (o 13 (m 35) (o 14 (m 36) (o 15 (m 37) .done))))))))))
abbrev r733_8 : AI := o 28 (ia 24 26 2) (o 29 (ln 28 2) (o 12 (.alc 12 za2) (so 2 12 29 .done)))
abbrev r733_7 : AI := o 27 (b2 .lss 26 25) .done
abbrev r733_6 : AI := o 22 (m 9) (o 23 (m 2) (o 24 (c2 294 22 23) (o 25 (le 24) (o 26 (.mov (ki 0)) .done))))
abbrev r733_5 : AI := o 10 (.mov (.k (.nil 1))) .done
abbrev r733_4 : AI := o 20 (ia 16 18 1) (o 21 (l1 20) (o 9 (m 21) .done))
abbrev r733_3 : AI := o 19 (b2 .lss 18 17) .done
abbrev r733_2 : AI := o 16 (m 0) (o 17 (le 16) (o 18 (.mov (ki 0)) .done))
abbrev r733_1 : AI := o 7 (.mov (.k (.nil 1))) .done
abbrev r733_0 : AI := o 6 (.mov (.k (.nil 1))) .done
abbrev figure_Openings_l1b_y : AC := sr r733_7 (.keep [1, 2, 7, 9, 10, 16, 17, 18, 24, 25, 26, 27] [7, 10, 48, 53] (.seq (cd 27 .skip (.keep [1, 2, 7, 10, 16, 17, 18] [7, 10, 48, 53] (.exit 2))) (.keep [1, 2, 7, 9, 10, 16, 17, 18, 24, 25, 26] [7, 10, 48, 53] (.seq (.block 3 (sr r733_8 (.keep [1, 2, 7, 9, 10, 12, 16, 17, 18, 24, 25, 26] [7, 10, 12, 48, 53] (sr r733_9 (.keep [1, 2, 7, 9, 10, 12, 13, 15, 16, 17, 18, 24, 25, 26] [7, 10, 12, 48, 53] (sr r733_10 (.keep [1, 2, 7, 9, 10, 12, 16, 17, 18, 24, 25, 26, 43] [7, 10, 12, 48, 53] (cd 43 (.keep [1, 2, 7, 9, 10, 12, 16, 17, 18, 24, 25, 26] [7, 10, 12, 48, 53] (rg r733_11)) .skip)))))))) (.keep [1, 2, 7, 9, 10, 16, 17, 18, 24, 25, 26] [7, 10, 48, 53] (rg r733_12))))))
def figure_Openings_l1b : AC := figure_Openings_l1b_y
abbrev figure_Openings_l1_y : AC := .keep [1, 2, 7, 9, 10, 16, 17, 18, 24, 25, 26] [7, 10, 48, 53] (figure_Openings_l1b)
def figure_Openings_l1 : AC := figure_Openings_l1_y
abbrev figure_Openings_l2b_y : AC := sr r733_3 (.keep [1, 2, 7, 16, 17, 18, 19] [7, 53] (.seq (cd 19 .skip (.keep [7] [7, 53] (.exit 0))) (.keep [1, 2, 7, 16, 17, 18] [7, 53] (.seq (.block 1 (sr r733_4 (.keep [1, 2, 7, 9, 16, 17, 18] [7, 53] (sr r733_5 (.keep [1, 2, 7, 9, 10, 16, 17, 18] [7, 10, 48, 53] (.own 10 10 (.seq (sr r733_6 (.keep [1, 2, 7, 9, 10, 16, 17, 18, 24, 25, 26] [7, 10, 48, 53] (.block 2 (.loop figure_Openings_l1)))) (.keep [1, 2, 7, 10, 16, 17, 18] [7, 10, 48, 53] (rg r733_13))))))))) (.keep [1, 2, 7, 16, 17, 18] [7, 53] (rg r733_14))))))
def figure_Openings_l2b : AC := figure_Openings_l2b_y
abbrev figure_Openings_l2_y : AC := .keep [1, 2, 7, 16, 17, 18] [7, 53] (figure_Openings_l2b)
def figure_Openings_l2 : AC := figure_Openings_l2_y
abbrev figure_Openings_c_y : AC := sr r733_0 (.keep [0, 1, 2] [] (sr r733_1 (.keep [0, 1, 2, 7] [7, 53] (.own 7 7 (.seq (sr r733_2 (.keep [1, 2, 7, 16, 17, 18] [7, 53] (.block 0 (.loop figure_Openings_l2)))) (.keep [7] [7, 53] (sr r733_15 (.keep [6] [7, 53] .ret))))))))
def figure_Openings_c : AC := figure_Openings_c_y
def figure_Openings_f : AFn := ⟨figure_Openings_c, [.t 6], 0, 0, []⟩
abbrev r728_18 : AI := o 61 (ln 13 3) (so 3 4 61 (o 5 (.mov (kb true)) .done))
abbrev r728_17 : AI := o 53 (m 7) (o 54 (m 6) (o 55 (b2 .sub 53 54) (o 56 (m 8) (o 57 (bk .sub 56 1) (o 58 (c2 387 55 57) (o 52 (m 58) (o 59 (ex 52 0) (o 60 (ex 52 1) (o 13 (.alc 13 za3) (so 3 13 59 (o 14 (m 60) .done)))))))))))
abbrev r728_16 : AI := o 51 (.bld zd3 []) (so 3 4 51 (o 5 (.mov (kb false)) .done))
abbrev r728_15 : AI := o 49 (m 8) (o 50 (bk .lss 49 2) .done)
abbrev r728_14 : AI := o 48 (bk .add 19 1) (o 19 (m 48) .done)
abbrev r728_13 : AI := o 47 (bk .add 25 1) (o 25 (m 47) .done)
abbrev r728_12 : AI := o 45 (m 8) (o 46 (bk .add 45 1) (o 8 (m 46) .done))
abbrev r728_11 : AI := o 44 (m 12) (o 7 (m 44) .done)
abbrev r728_10 : AI := o 37 (m 8) (o 38 (bk .eql 37 0) (o 39 (m 38) (.scs 43 (.t 39) false (o 40 (m 12) (o 41 (m 7) (o 42 (b2 .gtr 40 41) .done))) (.t 42) .done)))
abbrev r728_9 : AI := o 36 (m 12) (o 6 (m 36) .done)
abbrev r728_8 : AI := o 29 (m 8) (o 30 (bk .eql 29 0) (o 31 (m 30) (.scs 35 (.t 31) false (o 32 (m 12) (o 33 (m 6) (o 34 (b2 .lss 32 33) .done))) (.t 34) .done)))
abbrev r728_7 : AI := o 27 (ia 23 25 1) (o 28 (l1 27) (o 12 (m 28) .done))
abbrev r728_6 : AI := o 26 (b2 .lss 25 24) .done
abbrev r728_5 : AI := o 23 (m 10) (o 24 (le 23) (o 25 (.mov (ki 0)) .done))
abbrev r728_4 : AI := o 21 (ia 17 19 1) (o 22 (l1 21) (o 10 (m 22) .done))
abbrev r728_3 : AI := o 20 (b2 .lss 19 18) .done
abbrev r728_2 : AI := o 15 (m 0) (o 16 (m 1) (o 17 (.call 733 [.t 15, ki 0, .t 16]) (o 18 (le 17) (o 19 (.mov (ki 0)) .done))))
abbrev r728_1 : AI := o 6 (.mov (ki 0)) (o 7 (.mov (ki 0)) (o 8 (.mov (ki 0)) .done))
abbrev r728_0 : AI := o 4 (.alc 4 za3) (o 5 (.mov (kb false)) .done)
abbrev figure_Interval_l1b_y : AC := sr r728_6 (.keep [4, 6, 7, 8, 17, 18, 19, 23, 24, 25, 26] [4] (.seq (cd 26 .skip (.keep [4, 6, 7, 8, 17, 18, 19] [4] (.exit 2))) (.keep [4, 6, 7, 8, 17, 18, 19, 23, 24, 25] [4] (.seq (.block 3 (sr r728_7 (.keep [4, 6, 7, 8, 12, 17, 18, 19, 23, 24, 25] [4] (.seq (sr r728_8 (.keep [4, 6, 7, 8, 12, 17, 18, 19, 23, 24, 25, 35] [4] (cd 35 (.keep [4, 7, 8, 12, 17, 18, 19, 23, 24, 25] [4] (rg r728_9)) .skip))) (.keep [4, 6, 7, 8, 12, 17, 18, 19, 23, 24, 25] [4] (.seq (sr r728_10 (.keep [4, 6, 7, 8, 12, 17, 18, 19, 23, 24, 25, 43] [4] (cd 43 (.keep [4, 6, 8, 12, 17, 18, 19, 23, 24, 25] [4] (rg r728_11)) .skip))) (.keep [4, 6, 7, 8, 17, 18, 19, 23, 24, 25] [4] (rg r728_12)))))))) (.keep [4, 6, 7, 8, 17, 18, 19, 23, 24, 25] [4] (rg r728_13))))))
def figure_Interval_l1b : AC := figure_Interval_l1b_y
abbrev figure_Interval_l1_y : AC := .keep [4, 6, 7, 8, 17, 18, 19, 23, 24, 25] [4] (figure_Interval_l1b)
def figure_Interval_l1 : AC := figure_Interval_l1_y
abbrev figure_Interval_l2b_y : AC := sr r728_3 (.keep [4, 6, 7, 8, 17, 18, 19, 20] [4] (.seq (cd 20 .skip (.keep [4, 6, 7, 8] [4] (.exit 0))) (.keep [4, 6, 7, 8, 17, 18, 19] [4] (.seq (.block 1 (sr r728_4 (.keep [4, 6, 7, 8, 10, 17, 18, 19] [4] (sr r728_5 (.keep [4, 6, 7, 8, 17, 18, 19, 23, 24, 25] [4] (.block 2 (.loop figure_Interval_l1))))))) (.keep [4, 6, 7, 8, 17, 18, 19] [4] (rg r728_14))))))
def figure_Interval_l2b : AC := figure_Interval_l2b_y
abbrev figure_Interval_l2_y : AC := .keep [4, 6, 7, 8, 17, 18, 19] [4] (figure_Interval_l2b)
def figure_Interval_l2 : AC := figure_Interval_l2_y
abbrev figure_Interval_c_y : AC := sr r728_0 (.keep [0, 1, 4] [4] (sr r728_1 (.keep [0, 1, 4, 6, 7, 8] [4] (.seq (sr r728_2 (.keep [4, 6, 7, 8, 17, 18, 19] [4] (.block 0 (.loop figure_Interval_l2)))) (.keep [4, 6, 7, 8] [4] (.seq (sr r728_15 (.keep [4, 6, 7, 8, 50] [4] (cd 50 (.keep [4] [4] (sr r728_16 (.keep [4, 5] [4] .ret))) .skip))) (.keep [4, 6, 7, 8] [4] (sr r728_17 (.keep [4, 13] [4, 13] (sr r728_18 (.keep [4, 5] [4] .ret)))))))))))
def figure_Interval_c : AC := figure_Interval_c_y
def figure_Interval_f : AFn := ⟨figure_Interval_c, [.m 4 3 true, .t 5], 0, 0, []⟩
abbrev r727_4 : AI := o 27 (ln 8 3) (so 3 6 27 (o 7 (.mov (kb true)) .done))
abbrev r727_3 : AI := o 18 (m 0) (o 19 (m 2) (o 20 (c2 734 18 19) (o 21 (m 1) (o 22 (m 2) (o 23 (b2 .mul 21 22) (o 24 (c2 387 20 23) (o 17 (m 24) (o 25 (ex 17 0) (o 26 (ex 17 1) (o 8 (.alc 8 za3) (so 3 8 25 (o 9 (m 26) .done))))))))))))
abbrev r727_2 : AI := o 16 (.bld zd3 []) (so 3 6 16 (o 7 (.mov (kb false)) .done))
abbrev r727_1 : AI := o 10 (m 1) (o 11 (bk .lss 10 1) (o 12 (m 11) (.scs 15 (.t 12) false (o 13 (m 2) (o 14 (bk .lss 13 1) .done)) (.t 14) .done)))
abbrev r727_0 : AI := o 6 (.alc 6 za3) (o 7 (.mov (kb false)) .done)
abbrev figure_Load_c_y : AC := sr r727_0 (.keep [0, 1, 2, 6] [6] (.seq (sr r727_1 (.keep [0, 1, 2, 6, 15] [6] (cd 15 (.keep [6] [6] (sr r727_2 (.keep [6, 7] [6] .ret))) .skip))) (.keep [0, 1, 2, 6] [6] (sr r727_3 (.keep [6, 8] [6, 8] (sr r727_4 (.keep [6, 7] [6] .ret)))))))
def figure_Load_c : AC := figure_Load_c_y
def figure_Load_f : AFn := ⟨figure_Load_c, [.m 6 3 true, .t 7], 0, 0, []⟩
abbrev r723_4 : AI := o 16 (m 5) (o 17 (bk .mul 16 300) (o 18 (m 1) (o 19 (b2 .quo 17 18) (o 4 (m 19) .done))))
abbrev r723_3 : AI := o 11 (m 0) (o 12 (c1 403 11) (o 10 (m 12) (o 13 (ex 10 0) (o 14 (ex 10 1) (o 15 (ex 10 2) (o 5 (m 13) (o 6 (m 14) (o 7 (m 15) .done))))))))
abbrev r723_2 : AI := o 4 (.mov (ki 0)) .done
abbrev r723_1 : AI := o 8 (m 1) (o 9 (bk .lss 8 1) .done)
abbrev r723_0 : AI := o 4 (.mov (ki 0)) .done
abbrev figure_Handling_c_y : AC := sr r723_0 (.keep [0, 1] [] (.seq (sr r723_1 (.keep [0, 1, 9] [] (cd 9 (.keep [] [] (sr r723_2 (.keep [4] [] .ret))) .skip))) (.keep [0, 1] [] (sr r723_3 (.keep [1, 5] [] (sr r723_4 (.keep [4] [] .ret)))))))
def figure_Handling_c : AC := figure_Handling_c_y
def figure_Handling_f : AFn := ⟨figure_Handling_c, [.t 4], 0, 0, []⟩
abbrev r725_7 : AI := o 20 (m 5) (o 4 (m 20) .done)
abbrev r725_6 : AI := o 19 (bk .add 10 1) (o 10 (m 19) .done)
abbrev r725_5 : AI := o 14 (m 5) (o 15 (m 7) (o 16 (m 1) (o 17 (c2 735 15 16) (o 18 (b2 .add 14 17) (o 5 (m 18) .done)))))
abbrev r725_4 : AI := o 12 (ia 8 10 1) (o 13 (l1 12) (o 7 (m 13) .done))
abbrev r725_3 : AI := o 11 (b2 .lss 10 9) .done
abbrev r725_2 : AI := o 8 (m 0) (o 9 (le 8) (o 10 (.mov (ki 0)) .done))
abbrev r725_1 : AI := o 5 (.mov (ki 0)) .done
abbrev r725_0 : AI := o 4 (.mov (ki 0)) .done
abbrev figure_Far_l1b_y : AC := sr r725_3 (.keep [1, 5, 8, 9, 10, 11] [] (.seq (cd 11 .skip (.keep [5] [] (.exit 0))) (.keep [1, 5, 8, 9, 10] [] (.seq (.block 1 (sr r725_4 (.keep [1, 5, 7, 8, 9, 10] [] (rg r725_5)))) (.keep [1, 5, 8, 9, 10] [] (rg r725_6))))))
def figure_Far_l1b : AC := figure_Far_l1b_y
abbrev figure_Far_l1_y : AC := .keep [1, 5, 8, 9, 10] [] (figure_Far_l1b)
def figure_Far_l1 : AC := figure_Far_l1_y
abbrev figure_Far_c_y : AC := sr r725_0 (.keep [0, 1] [] (sr r725_1 (.keep [0, 1, 5] [] (.seq (sr r725_2 (.keep [1, 5, 8, 9, 10] [] (.block 0 (.loop figure_Far_l1)))) (.keep [5] [] (sr r725_7 (.keep [4] [] .ret)))))))
def figure_Far_c : AC := figure_Far_c_y
def figure_Far_f : AFn := ⟨figure_Far_c, [.t 4], 0, 0, []⟩
abbrev r726_11 : AI := o 33 (m 5) (o 4 (m 33) .done)
abbrev r726_10 : AI := o 32 (bk .add 12 1) (o 12 (m 32) .done)
abbrev r726_9 : AI := o 31 (bk .add 20 1) (o 20 (m 31) .done)
abbrev r726_8 : AI := o 24 (m 5) (o 25 (fa 9 1) (o 26 (l1 25) (o 27 (fa 9 0) (o 28 (l1 27) (o 29 (b2 .sub 26 28) (o 30 (b2 .add 24 29) (o 5 (m 30) .done)))))))
abbrev r726_7 : AI := o 22 (ia 18 20 2) (o 23 (ln 22 2) (o 9 (.alc 9 za2) (so 2 9 23 .done)))
abbrev r726_6 : AI := o 21 (b2 .lss 20 19) .done
abbrev r726_5 : AI := o 16 (m 7) (o 17 (m 1) (o 18 (c2 294 16 17) (o 19 (le 18) (o 20 (.mov (ki 0)) .done))))
abbrev r726_4 : AI := o 14 (ia 10 12 1) (o 15 (l1 14) (o 7 (m 15) .done))
abbrev r726_3 : AI := o 13 (b2 .lss 12 11) .done
abbrev r726_2 : AI := o 10 (m 0) (o 11 (le 10) (o 12 (.mov (ki 0)) .done))
abbrev r726_1 : AI := o 5 (.mov (ki 0)) .done
abbrev r726_0 : AI := o 4 (.mov (ki 0)) .done
abbrev figure_Busy_l1b_y : AC := sr r726_6 (.keep [1, 5, 10, 11, 12, 18, 19, 20, 21] [] (.seq (cd 21 .skip (.keep [1, 5, 10, 11, 12] [] (.exit 2))) (.keep [1, 5, 10, 11, 12, 18, 19, 20] [] (.seq (.block 3 (sr r726_7 (.keep [1, 5, 9, 10, 11, 12, 18, 19, 20] [9] (rg r726_8)))) (.keep [1, 5, 10, 11, 12, 18, 19, 20] [] (rg r726_9))))))
def figure_Busy_l1b : AC := figure_Busy_l1b_y
abbrev figure_Busy_l1_y : AC := .keep [1, 5, 10, 11, 12, 18, 19, 20] [] (figure_Busy_l1b)
def figure_Busy_l1 : AC := figure_Busy_l1_y
abbrev figure_Busy_l2b_y : AC := sr r726_3 (.keep [1, 5, 10, 11, 12, 13] [] (.seq (cd 13 .skip (.keep [5] [] (.exit 0))) (.keep [1, 5, 10, 11, 12] [] (.seq (.block 1 (sr r726_4 (.keep [1, 5, 7, 10, 11, 12] [] (sr r726_5 (.keep [1, 5, 10, 11, 12, 18, 19, 20] [] (.block 2 (.loop figure_Busy_l1))))))) (.keep [1, 5, 10, 11, 12] [] (rg r726_10))))))
def figure_Busy_l2b : AC := figure_Busy_l2b_y
abbrev figure_Busy_l2_y : AC := .keep [1, 5, 10, 11, 12] [] (figure_Busy_l2b)
def figure_Busy_l2 : AC := figure_Busy_l2_y
abbrev figure_Busy_c_y : AC := sr r726_0 (.keep [0, 1] [] (sr r726_1 (.keep [0, 1, 5] [] (.seq (sr r726_2 (.keep [1, 5, 10, 11, 12] [] (.block 0 (.loop figure_Busy_l2)))) (.keep [5] [] (sr r726_11 (.keep [4] [] .ret)))))))
def figure_Busy_c : AC := figure_Busy_c_y
def figure_Busy_f : AFn := ⟨figure_Busy_c, [.t 4], 0, 0, []⟩
abbrev r734_11 : AI := o 40 (m 5) (o 4 (m 40) .done)
abbrev r734_10 : AI := o 39 (bk .add 11 1) (o 11 (m 39) .done)
abbrev r734_9 : AI := o 32 (m 5) (o 33 (m 8) (o 34 (fa 7 5) (o 35 (l1 34) (o 36 (b2 .sub 33 35) (o 37 (.mx (.t 36) [.k (.c (.int .i64 0))]) (o 38 (b2 .add 32 37) (o 5 (m 38) .done)))))))
abbrev r734_8 : AI := o 28 (m 8) (o 29 (fa 7 6) (o 30 (l1 29) (o 31 (.mn (.t 28) [.t 30]) (o 8 (m 31) .done))))
abbrev r734_7 : AI := o 25 (fa 7 6) (o 26 (l1 25) (o 27 (bk .geq 26 0) .done))
abbrev r734_6 : AI := o 24 (m 1) (o 8 (m 24) .done)
abbrev r734_5 : AI := o 15 (fa 7 5) (o 16 (l1 15) (o 17 (bk .lss 16 0) (o 18 (m 17) (.scs 23 (.t 18) false (o 19 (fa 7 5) (o 20 (l1 19) (o 21 (m 1) (o 22 (b2 .geq 20 21) .done)))) (.t 22) .done))))
abbrev r734_4 : AI := o 13 (ia 9 11 7) (o 14 (ln 13 7) (o 7 (.alc 7 za7) (so 7 7 14 .done)))
abbrev r734_3 : AI := o 12 (b2 .lss 11 10) .done
abbrev r734_2 : AI := o 9 (m 0) (o 10 (le 9) (o 11 (.mov (ki 0)) .done))
abbrev r734_1 : AI := o 5 (.mov (ki 0)) .done
abbrev r734_0 : AI := o 4 (.mov (ki 0)) .done
abbrev trip_Aboard_l1b_y : AC := sr r734_3 (.keep [1, 5, 9, 10, 11, 12] [] (.seq (cd 12 .skip (.keep [5] [] (.exit 0))) (.keep [1, 5, 9, 10, 11] [] (.seq (.block 1 (sr r734_4 (.keep [1, 5, 7, 9, 10, 11] [7] (.seq (sr r734_5 (.keep [1, 5, 7, 9, 10, 11, 23] [7] (cd 23 (.keep [1, 5, 9, 10, 11] [] (.exit 1)) .skip))) (.keep [1, 5, 7, 9, 10, 11] [7] (sr r734_6 (.keep [1, 5, 7, 8, 9, 10, 11] [7] (.seq (sr r734_7 (.keep [1, 5, 7, 8, 9, 10, 11, 27] [7] (cd 27 (.keep [1, 5, 7, 8, 9, 10, 11] [7] (rg r734_8)) .skip))) (.keep [1, 5, 7, 8, 9, 10, 11] [7] (rg r734_9)))))))))) (.keep [1, 5, 9, 10, 11] [] (rg r734_10))))))
def trip_Aboard_l1b : AC := trip_Aboard_l1b_y
abbrev trip_Aboard_l1_y : AC := .keep [1, 5, 9, 10, 11] [] (trip_Aboard_l1b)
def trip_Aboard_l1 : AC := trip_Aboard_l1_y
abbrev trip_Aboard_c_y : AC := sr r734_0 (.keep [0, 1] [] (sr r734_1 (.keep [0, 1, 5] [] (.seq (sr r734_2 (.keep [1, 5, 9, 10, 11] [] (.block 0 (.loop trip_Aboard_l1)))) (.keep [5] [] (sr r734_11 (.keep [4] [] .ret)))))))
def trip_Aboard_c : AC := trip_Aboard_c_y
def trip_Aboard_f : AFn := ⟨trip_Aboard_c, [.t 4], 0, 0, []⟩
abbrev r735_15 : AI := o 83 (m 5) (o 4 (m 83) .done)
abbrev r735_14 : AI := o 82 (bk .add 13 1) (o 13 (m 82) .done)
abbrev r735_13 : AI := o 75 (m 0) (o 76 (m 8) (o 77 (ia 75 76 4) (o 78 (fa 77 1) (o 79 (l1 78) (o 80 (m 10) (o 81 (b2 .add 79 80) (o 6 (m 81) (o 7 (.mov (kb true)) .done))))))))
abbrev r735_12 : AI := o 69 (m 5) (o 70 (m 10) (o 71 (m 10) (o 72 (.un .neg (.t 71)) (o 73 (.mx (.t 70) [.t 72]) (o 74 (b2 .add 69 73) (o 5 (m 74) .done))))))
abbrev r735_11 : AI := o 68 (b2 .mul 62 67) (o 10 (m 68) .done)
abbrev r735_10 : AI := o 54 (b2 .add 38 53) (o 5 (m 54) .done)
abbrev r735_9 : AI := o 37 (m 7) .done
abbrev r735_8 : AI := o 30 (m 0) (o 31 (m 8) (o 32 (ia 30 31 4) (o 33 (fa 32 0) (o 34 (l1 33) (o 35 (m 9) (o 36 (b2 .geq 34 35) .done))))))
abbrev r735_7 : AI := o 22 (m 9) (o 23 (m 0) (o 24 (m 8) (o 25 (bk .add 24 1) (o 26 (ia 23 25 4) (o 27 (fa 26 0) (o 28 (l1 27) (o 29 (.mn (.t 22) [.t 28]) (o 9 (m 29) .done))))))))
abbrev r735_6 : AI := o 17 (m 8) (o 18 (bk .add 17 1) (o 19 (m 0) (o 20 (le 19) (o 21 (b2 .lss 18 20) .done))))
abbrev r735_5 : AI := o 16 (m 1) (o 9 (m 16) .done)
abbrev r735_4 : AI := o 15 (m 13) (o 8 (m 15) .done)
abbrev r735_3 : AI := o 14 (b2 .lss 13 12) .done
abbrev r735_2 : AI := o 11 (m 0) (o 12 (le 11) (o 13 (.mov (ki 0)) .done))
abbrev r735_1 : AI := o 5 (.mov (ki 0)) (o 6 (.mov (ki 0)) (o 7 (.mov (kb false)) .done))
abbrev r735_0 : AI := o 4 (.mov (ki 0)) .done
abbrev r735_11q : List DIt := [d 55 (m 9), d 56 (m 0), d 57 (m 8), d 58 (ia 56 57 4), d 59 (fa 58 0), d 60 (l1 59), d 61 (.bin .sub (.t 55) (.t 60)), d 62 (.bin .sub (.t 61) (ki 1)), d 63 (m 0), d 64 (m 8), d 65 (ia 63 64 4), d 66 (fa 65 2), d 67 (l1 66)]
abbrev r735_10q : List DIt := [d 38 (m 5), d 39 (m 0), d 40 (m 8), d 41 (ia 39 40 4), d 42 (fa 41 1), d 43 (l1 42), d 44 (m 6), d 45 (.bin .sub (.t 43) (.t 44)), d 46 (m 6), d 47 (m 0), d 48 (m 8), d 49 (ia 47 48 4), d 50 (fa 49 1), d 51 (l1 50), d 52 (.bin .sub (.t 46) (.t 51)), d 53 (.mx (.t 45) [.t 52])]
abbrev track_Far_l1b_y : AC := sr r735_3 (.keep [0, 1, 5, 6, 7, 12, 13, 14] [] (.seq (cd 14 .skip (.keep [5] [] (.exit 0))) (.keep [0, 1, 5, 6, 7, 12, 13] [] (.seq (.block 1 (sr r735_4 (.keep [0, 1, 5, 6, 7, 8, 12, 13] [] (sr r735_5 (.keep [0, 1, 5, 6, 7, 8, 9, 12, 13] [] (.seq (sr r735_6 (.keep [0, 1, 5, 6, 7, 8, 9, 12, 13, 21] [] (cd 21 (.keep [0, 1, 5, 6, 7, 8, 9, 12, 13] [] (rg r735_7)) .skip))) (.keep [0, 1, 5, 6, 7, 8, 9, 12, 13] [] (.seq (sr r735_8 (.keep [0, 1, 5, 6, 7, 8, 9, 12, 13, 36] [] (cd 36 (.keep [5] [] (.exit 0)) .skip))) (.keep [0, 1, 5, 6, 7, 8, 9, 12, 13] [] (.seq (sr r735_9 (.keep [0, 1, 5, 6, 8, 9, 12, 13, 37] [] (cd 37 (.keep [0, 1, 5, 6, 8, 9, 12, 13] [] (.draw r735_10q [] [] r735_10)) .skip))) (.keep [0, 1, 5, 8, 9, 12, 13] [] (.seq (.draw r735_11q [] [] r735_11) (.keep [0, 1, 5, 8, 10, 12, 13] [] (sr r735_12 (.keep [0, 1, 5, 8, 10, 12, 13] [] (rg r735_13)))))))))))))))) (.keep [0, 1, 5, 6, 7, 12, 13] [] (rg r735_14))))))
def track_Far_l1b : AC := track_Far_l1b_y
abbrev track_Far_l1_y : AC := .keep [0, 1, 5, 6, 7, 12, 13] [] (track_Far_l1b)
def track_Far_l1 : AC := track_Far_l1_y
abbrev track_Far_c_y : AC := sr r735_0 (.keep [0, 1] [] (sr r735_1 (.keep [0, 1, 5, 6, 7] [] (.seq (sr r735_2 (.keep [0, 1, 5, 6, 7, 12, 13] [] (.block 0 (.loop track_Far_l1)))) (.keep [5] [] (sr r735_15 (.keep [4] [] .ret)))))))
def track_Far_c : AC := track_Far_c_y
def track_Far_f : AFn := ⟨track_Far_c, [.t 4], 0, 0, []⟩
abbrev r150_4 : AI := o 5 (m 36) (o 6 (.mov (kb true)) .done)
abbrev r150_3 : AI := o 4 (.mov (ki 0)) (o 5 (.mov (kb false)) (o 6 (.mov (kb false)) .done))
abbrev r150_2 : AI := o 11 (m 7) (o 12 (bk .lss 11 0) .done)
abbrev r150_1 : AI := o 8 (m 0) (o 9 (m 1) (o 10 (c2 167 8 9) (o 7 (m 10) .done)))
abbrev r150_0 : AI := o 4 (.mov (ki 0)) (o 5 (.mov (kb false)) (o 6 (.mov (kb false)) .done))
abbrev r150_4q : List DIt := [d 13 (m 0), d 14 (m 7), d 15 (ia 13 14 4), d 16 (fa 15 1), d 17 (l1 16), d 18 (m 0), d 19 (m 7), d 20 (ia 18 19 4), d 21 (fa 20 2), d 22 (l1 21), d 23 (m 1), d 24 (m 0), d 25 (m 7), d 26 (ia 24 25 4), d 27 (fa 26 0), d 28 (l1 27), d 29 (.bin .sub (.t 23) (.t 28)), d 30 (.bin .mul (.t 22) (.t 29)), d 31 (.bin .add (.t 17) (.t 30)), d 32 (m 0), d 33 (m 7), d 34 (ia 32 33 4), d 35 (fa 34 3), d 36 (l1 35), d 4 (m 31)]
abbrev track_At_c_y : AC := sr r150_0 (.keep [0, 1] [] (sr r150_1 (.keep [0, 1, 7] [] (.seq (sr r150_2 (.keep [0, 1, 7, 12] [] (cd 12 (.keep [] [] (sr r150_3 (.keep [4, 5, 6] [] .ret))) .skip))) (.keep [0, 1, 7] [] (.seq (.draw r150_4q [] [] r150_4) (.keep [4, 5, 6] [] .ret)))))))
def track_At_c : AC := track_At_c_y
def track_At_f : AFn := ⟨track_At_c, [.t 4, .t 5, .t 6], 0, 0, []⟩
abbrev r167_7 : AI := o 29 (m 5) (o 30 (bk .sub 29 1) (o 4 (m 30) .done))
abbrev r167_5 : AI := o 26 (m 7) (o 27 (bk .add 26 1) (o 5 (m 27) .done))
abbrev r167_6 : AI := o 28 (m 7) (o 6 (m 28) .done)
abbrev r167_4 : AI := o 19 (m 0) (o 20 (m 7) (o 21 (ia 19 20 4) (o 22 (fa 21 0) (o 23 (l1 22) (o 24 (m 1) (o 25 (b2 .leq 23 24) .done))))))
abbrev r167_3 : AI := o 13 (m 5) (o 14 (m 6) (o 15 (b2 .add 13 14) (o 16 (.conv (.int .u64) (.t 15)) (o 17 (.shf false (.t 16) (.k (.c (.int .u64 1)))) (o 18 (.conv (.int .i64) (.t 17)) (o 7 (m 18) .done))))))
abbrev r167_2 : AI := o 10 (m 5) (o 11 (m 6) (o 12 (b2 .lss 10 11) .done))
abbrev r167_1 : AI := o 8 (m 0) (o 9 (le 8) (o 5 (.mov (ki 0)) (o 6 (m 9) .done)))
abbrev r167_0 : AI := o 4 (.mov (ki 0)) .done
abbrev track_find_l1b_y : AC := .seq (sr r167_2 (.keep [0, 1, 5, 6, 12] [] (cd 12 .skip (.keep [5] [] (.exit 0))))) (.keep [0, 1, 5, 6] [] (.block 1 (sr r167_3 (.keep [0, 1, 5, 6, 7] [] (sr r167_4 (.keep [0, 1, 5, 6, 7, 25] [] (cd 25 (.keep [0, 1, 6, 7] [] (rg r167_5)) (.keep [0, 1, 5, 7] [] (rg r167_6)))))))))
def track_find_l1b : AC := track_find_l1b_y
abbrev track_find_l1_y : AC := .keep [0, 1, 5, 6] [] (track_find_l1b)
def track_find_l1 : AC := track_find_l1_y
abbrev track_find_c_y : AC := sr r167_0 (.keep [0, 1] [] (sr r167_1 (.keep [0, 1, 5, 6] [] (.seq (.block 0 (.loop track_find_l1)) (.keep [5] [] (sr r167_7 (.keep [4] [] .ret)))))))
def track_find_c : AC := track_find_c_y
def track_find_f : AFn := ⟨track_find_c, [.t 4], 0, 0, []⟩
abbrev r730_11 : AI := o 52 (m 5) (o 4 (m 52) .done)
abbrev r730_4 : AI := o 13 (m 6) (o 14 (bk .add 13 1) (o 6 (m 14) .done))
abbrev r730_10 : AI := o 46 (m 5) (o 47 (m 8) (o 48 (fa 7 5) (o 49 (l1 48) (o 50 (b2 .sub 47 49) (o 51 (b2 .add 46 50) (o 5 (m 51) .done))))))
abbrev r730_9 : AI := o 31 (fa 7 5) (o 32 (l1 31) (o 33 (bk .geq 32 0) (o 34 (m 33) (.scs 39 (.t 34) true (o 35 (fa 7 5) (o 36 (l1 35) (o 37 (m 1) (o 38 (b2 .lss 36 37) .done)))) (.t 38) (o 40 (m 39) (.scs 45 (.t 40) true (o 41 (m 8) (o 42 (fa 7 5) (o 43 (l1 42) (o 44 (b2 .gtr 41 43) .done)))) (.t 44) .done))))))
abbrev r730_8 : AI := o 29 (fa 7 6) (o 30 (l1 29) (o 8 (m 30) .done))
abbrev r730_7 : AI := o 20 (fa 7 6) (o 21 (l1 20) (o 22 (bk .geq 21 0) (o 23 (m 22) (.scs 28 (.t 23) true (o 24 (fa 7 6) (o 25 (l1 24) (o 26 (m 1) (o 27 (b2 .lss 25 26) .done)))) (.t 27) .done))))
abbrev r730_6 : AI := o 19 (m 1) (o 8 (m 19) .done)
abbrev r730_5 : AI := o 15 (m 0) (o 16 (m 6) (o 17 (ia 15 16 7) (o 18 (ln 17 7) (o 7 (.alc 7 za7) (so 7 7 18 .done)))))
abbrev r730_3 : AI := o 9 (m 6) (o 10 (m 0) (o 11 (le 10) (o 12 (b2 .lss 9 11) .done)))
abbrev r730_2 : AI := o 6 (.mov (ki 0)) .done
abbrev r730_1 : AI := o 5 (.mov (ki 0)) .done
abbrev r730_0 : AI := o 4 (.mov (ki 0)) .done
abbrev ref24_Aboard_l1b_y : AC := .seq (sr r730_3 (.keep [0, 1, 5, 6, 12] [] (cd 12 .skip (.keep [5] [] (.exit 0))))) (.keep [0, 1, 5, 6] [] (.seq (.block 1 (sr r730_5 (.keep [0, 1, 5, 6, 7] [7] (sr r730_6 (.keep [0, 1, 5, 6, 7, 8] [7] (.seq (sr r730_7 (.keep [0, 1, 5, 6, 7, 8, 28] [7] (cd 28 (.keep [0, 1, 5, 6, 7] [7] (rg r730_8)) .skip))) (.keep [0, 1, 5, 6, 7, 8] [7] (sr r730_9 (.keep [0, 1, 5, 6, 7, 8, 45] [7] (cd 45 (.keep [0, 1, 5, 6, 7, 8] [7] (rg r730_10)) .skip)))))))))) (.keep [0, 1, 5, 6] [] (rg r730_4))))
def ref24_Aboard_l1b : AC := ref24_Aboard_l1b_y
abbrev ref24_Aboard_l1_y : AC := .keep [0, 1, 5, 6] [] (ref24_Aboard_l1b)
def ref24_Aboard_l1 : AC := ref24_Aboard_l1_y
abbrev ref24_Aboard_c_y : AC := sr r730_0 (.keep [0, 1] [] (sr r730_1 (.keep [0, 1, 5] [] (.seq (sr r730_2 (.keep [0, 1, 5, 6] [] (.block 0 (.loop ref24_Aboard_l1)))) (.keep [5] [] (sr r730_11 (.keep [4] [] .ret)))))))
def ref24_Aboard_c : AC := ref24_Aboard_c_y
def ref24_Aboard_f : AFn := ⟨ref24_Aboard_c, [.t 4], 0, 0, []⟩
abbrev r732_10 : AI := o 37 (m 6) (o 4 (m 37) .done)
abbrev r732_5 : AI := o 16 (m 7) (o 17 (bk .add 16 1) (o 7 (m 17) .done))
abbrev r732_9 : AI := o 34 (m 6) (o 35 (m 8) (o 36 (b2 .add 34 35) (o 6 (m 36) .done)))
abbrev r732_8 : AI := o 32 (m 8) (o 33 (.un .neg (.t 32)) (o 8 (m 33) .done))
abbrev r732_7 : AI := o 30 (m 8) (o 31 (bk .lss 30 0) .done)
abbrev r732_6 : AI := o 29 (b2 .sub 22 28) (o 8 (m 29) .done)
abbrev r732_4 : AI := o 12 (m 7) (o 13 (m 5) (o 14 (le 13) (o 15 (b2 .lss 12 14) .done)))
abbrev r732_3 : AI := o 7 (.mov (ki 1)) .done
abbrev r732_2 : AI := o 6 (.mov (ki 0)) .done
abbrev r732_1 : AI := o 9 (m 0) (o 10 (m 1) (o 11 (c2 128 9 10) (o 5 (m 11) .done)))
abbrev r732_0 : AI := o 4 (.mov (ki 0)) .done
abbrev r732_6q : List DIt := [d 18 (m 5), d 19 (m 7), d 20 (ia 18 19 2), d 21 (fa 20 0), d 22 (l1 21), d 23 (m 5), d 24 (m 7), d 25 (.bin .sub (.t 24) (ki 1)), d 26 (ia 23 25 2), d 27 (fa 26 0), d 28 (l1 27)]
abbrev ref25_Far_l1b_y : AC := .seq (sr r732_4 (.keep [5, 6, 7, 15] [] (cd 15 .skip (.keep [6] [] (.exit 0))))) (.keep [5, 6, 7] [] (.seq (.block 1 (.seq (.draw r732_6q [] [] r732_6) (.keep [5, 6, 7, 8] [] (.seq (sr r732_7 (.keep [5, 6, 7, 8, 31] [] (cd 31 (.keep [5, 6, 7, 8] [] (rg r732_8)) .skip))) (.keep [5, 6, 7, 8] [] (rg r732_9)))))) (.keep [5, 6, 7] [] (rg r732_5))))
def ref25_Far_l1b : AC := ref25_Far_l1b_y
abbrev ref25_Far_l1_y : AC := .keep [5, 6, 7] [] (ref25_Far_l1b)
def ref25_Far_l1 : AC := ref25_Far_l1_y
abbrev ref25_Far_c_y : AC := sr r732_0 (.keep [0, 1] [] (sr r732_1 (.keep [5] [] (sr r732_2 (.keep [5, 6] [] (.seq (sr r732_3 (.keep [5, 6, 7] [] (.block 0 (.loop ref25_Far_l1)))) (.keep [6] [] (sr r732_10 (.keep [4] [] .ret)))))))))
def ref25_Far_c : AC := ref25_Far_c_y
def ref25_Far_f : AFn := ⟨ref25_Far_c, [.t 4], 0, 0, []⟩
abbrev r731_16 : AI := o 81 (m 7) (o 82 (m 6) (o 83 (b2 .sub 81 82) (o 84 (m 5) (o 85 (bk .sub 84 1) (o 86 (c2 729 83 85) (o 4 (m 86) .done))))))
abbrev r731_4 : AI := o 17 (m 8) (o 18 (bk .add 17 1) (o 8 (m 18) .done))
abbrev r731_8 : AI := o 29 (m 10) (o 30 (bk .add 29 1) (o 10 (m 30) .done))
abbrev r731_15 : AI := o 79 (m 5) (o 80 (bk .add 79 1) (o 5 (m 80) .done))
abbrev r731_14 : AI := o 74 (m 9) (o 75 (m 10) (o 76 (ia 74 75 2) (o 77 (fa 76 0) (o 78 (l1 77) (o 7 (m 78) .done)))))
abbrev r731_13 : AI := o 63 (m 5) (o 64 (bk .eql 63 0) (o 65 (m 64) (.sc 73 (.t 65) false (o 66 (m 9) (o 67 (m 10) (o 68 (ia 66 67 2) (o 69 (fa 68 0) (o 70 (l1 69) (o 71 (m 7) (o 72 (b2 .gtr 70 71) .done))))))) (.t 72) .done)))
abbrev r731_12 : AI := o 58 (m 9) (o 59 (m 10) (o 60 (ia 58 59 2) (o 61 (fa 60 0) (o 62 (l1 61) (o 6 (m 62) .done)))))
abbrev r731_11 : AI := o 47 (m 5) (o 48 (bk .eql 47 0) (o 49 (m 48) (.sc 57 (.t 49) false (o 50 (m 9) (o 51 (m 10) (o 52 (ia 50 51 2) (o 53 (fa 52 0) (o 54 (l1 53) (o 55 (m 6) (o 56 (b2 .lss 54 55) .done))))))) (.t 56) .done)))
abbrev r731_10 : AI := o 44 (fa 11 0) (o 45 (l1 44) (o 46 (bk .neq 45 0) .done))
abbrev r731_9 : AI := o 12 (m 43) .done
abbrev r731_7 : AI := o 25 (m 10) (o 26 (m 9) (o 27 (le 26) (o 28 (b2 .lss 25 27) .done)))
abbrev r731_6 : AI := o 10 (.mov (ki 0)) .done
abbrev r731_5 : AI := o 19 (m 0) (o 20 (m 8) (o 21 (ia 19 20 1) (o 22 (l1 21) (o 23 (m 1) (o 24 (c2 296 22 23) (o 9 (m 24) .done))))))
abbrev r731_3 : AI := o 13 (m 8) (o 14 (m 0) (o 15 (le 14) (o 16 (b2 .lss 13 15) .done)))
abbrev r731_2 : AI := o 8 (.mov (ki 0)) .done
abbrev r731_1 : AI := o 5 (.mov (ki 0)) (o 6 (.mov (ki 0)) (o 7 (.mov (ki 0)) .done))
abbrev r731_0 : AI := o 4 (.mov (ks [])) .done
abbrev r731_9q : List DIt := [d 32 (m 0), d 33 (m 8), d 34 (ia 32 33 1), d 35 (l1 34), d 36 (m 9), d 37 (m 10), d 38 (ia 36 37 2), d 39 (fa 38 0), d 40 (l1 39), d 41 (c2 113 35 40), d 31 (m 41), d 42 (ex 31 0), d 43 (ex 31 1), d 11 (.alc 11 []), ⟨none, .frz (kb true), none⟩]
abbrev ref42_interval_l1b_y : AC := .seq (sr r731_7 (.keep [0, 1, 5, 6, 7, 8, 9, 10, 28] [] (cd 28 .skip (.keep [0, 1, 5, 6, 7, 8] [] (.exit 2))))) (.keep [0, 1, 5, 6, 7, 8, 9, 10] [] (.seq (.block 3 (.seq (.draw r731_9q [(11, 11, [.c (.int .i64 0), .c (.bool false)])] [(14, none, .sto 2 (.t 11) (.t 42), [31], [0, 1, 2, 3, 4, 5, 6, 7, 8, 9, 10, 11, 13])] r731_9) (.keep [0, 1, 5, 6, 7, 8, 9, 10, 11] [11] (.seq (sr r731_10 (.keep [0, 1, 5, 6, 7, 8, 9, 10, 46] [] (cd 46 (.keep [0, 1, 5, 6, 7, 8, 9, 10] [] (.exit 3)) .skip))) (.keep [0, 1, 5, 6, 7, 8, 9, 10] [] (.seq (sr r731_11 (.keep [0, 1, 5, 6, 7, 8, 9, 10, 57] [] (cd 57 (.keep [0, 1, 5, 7, 8, 9, 10] [] (rg r731_12)) .skip))) (.keep [0, 1, 5, 6, 7, 8, 9, 10] [] (.seq (sr r731_13 (.keep [0, 1, 5, 6, 7, 8, 9, 10, 73] [] (cd 73 (.keep [0, 1, 5, 6, 8, 9, 10] [] (rg r731_14)) .skip))) (.keep [0, 1, 5, 6, 7, 8, 9, 10] [] (rg r731_15)))))))))) (.keep [0, 1, 5, 6, 7, 8, 9, 10] [] (rg r731_8))))
def ref42_interval_l1b : AC := ref42_interval_l1b_y
abbrev ref42_interval_l1_y : AC := .keep [0, 1, 5, 6, 7, 8, 9, 10] [] (ref42_interval_l1b)
def ref42_interval_l1 : AC := ref42_interval_l1_y
abbrev ref42_interval_l2b_y : AC := .seq (sr r731_3 (.keep [0, 1, 5, 6, 7, 8, 16] [] (cd 16 .skip (.keep [5, 6, 7] [] (.exit 0))))) (.keep [0, 1, 5, 6, 7, 8] [] (.seq (.block 1 (sr r731_5 (.keep [0, 1, 5, 6, 7, 8, 9] [] (sr r731_6 (.keep [0, 1, 5, 6, 7, 8, 9, 10] [] (.block 2 (.loop ref42_interval_l1))))))) (.keep [0, 1, 5, 6, 7, 8] [] (rg r731_4))))
def ref42_interval_l2b : AC := ref42_interval_l2b_y
abbrev ref42_interval_l2_y : AC := .keep [0, 1, 5, 6, 7, 8] [] (ref42_interval_l2b)
def ref42_interval_l2 : AC := ref42_interval_l2_y
abbrev ref42_interval_c_y : AC := sr r731_0 (.keep [0, 1] [] (sr r731_1 (.keep [0, 1, 5, 6, 7] [] (.seq (sr r731_2 (.keep [0, 1, 5, 6, 7, 8] [] (.block 0 (.loop ref42_interval_l2)))) (.keep [5, 6, 7] [] (sr r731_16 (.keep [4] [] .ret)))))))
def ref42_interval_c : AC := ref42_interval_c_y
def ref42_interval_f : AFn := ⟨ref42_interval_c, [.t 4], 0, 0, []⟩
abbrev r729_6 : AI := o 23 (m 5) (o 24 (.call 372 [.t 23, ki 2]) (o 4 (m 24) .done))
abbrev r729_5 : AI := o 4 (.mov (ks [110, 47, 97])) .done
abbrev r729_4 : AI := o 21 (m 6) (o 22 (bk .neq 21 0) .done)
abbrev r729_3 : AI := o 6 (m 20) .done
abbrev r729_2 : AI := o 4 (.mov (ks [110, 47, 97])) .done
abbrev r729_1 : AI := o 7 (m 1) (o 8 (bk .lss 7 1) .done)
abbrev r729_0 : AI := o 4 (.mov (ks [])) .done
abbrev r729_3q : List DIt := [d 10 (m 0), d 11 (m 1), d 12 (.bin .quo (.t 10) (.t 11)), d 13 (m 0), d 14 (m 1), d 15 (.bin .rem (.t 13) (.t 14)), d 16 (m 1), d 17 (.bld zd3 [(0, 1, (.t 12)), (1, 1, (.t 15)), (2, 1, (.t 16))]), d 18 (c1 373 17), d 9 (m 18), d 19 (ex 9 0), d 20 (ex 9 1), d 5 (m 19)]
abbrev ref42_ratio_c_y : AC := sr r729_0 (.keep [0, 1] [] (.seq (sr r729_1 (.keep [0, 1, 8] [] (cd 8 (.keep [] [] (sr r729_2 (.keep [4] [] .ret))) .skip))) (.keep [0, 1] [] (.seq (.draw r729_3q [] [] r729_3) (.keep [5, 6] [] (.seq (sr r729_4 (.keep [5, 22] [] (cd 22 (.keep [] [] (sr r729_5 (.keep [4] [] .ret))) .skip))) (.keep [5] [] (sr r729_6 (.keep [4] [] .ret)))))))))
def ref42_ratio_c : AC := ref42_ratio_c_y
def ref42_ratio_f : AFn := ⟨ref42_ratio_c, [.t 4], 0, 0, []⟩
abbrev r722_24 : AI := o 120 (m 13) (o 4 (m 120) .done)
abbrev r722_17 : AI := o 86 (m 14) (o 87 (bk .add 86 1) (o 14 (m 87) .done))
abbrev r722_23 : AI := o 112 (m 13) (o 113 (m 14) (o 114 (.iadA (.t 11) (.t 113) 10 1) (o 115 (l1 114) (o 116 (m 15) (o 117 (.bsl 1 [.str []] 2 [(0, 1, (.t 115)), (1, 1, (.t 116))]) (o 118 (.bsl 1 [.vs 1 []] 1 [(0, 1, (.t 117))]) (o 119 (.app 119 1 24 (.t 112) (.t 118)) (o 13 (m 119) .done))))))))
abbrev r722_22 : AI := o 111 (c2 729 105 110) (o 15 (m 111) .done)
abbrev r722_21 : AI := o 99 (m 14) (o 100 (bk .eql 99 6) .done)
abbrev r722_20 : AI := o 94 (fa 3 1) (o 95 (l1 94) (o 96 (fa 2 10) (o 97 (l1 96) (o 98 (c2 731 95 97) (o 15 (m 98) .done)))))
abbrev r722_19 : AI := o 92 (m 14) (o 93 (bk .eql 92 5) .done)
abbrev r722_18 : AI := o 88 (m 14) (o 89 (.iadA (.t 12) (.t 88) 10 1) (o 90 (l1 89) (o 91 (c1 6 90) (o 15 (m 91) .done))))
abbrev r722_16 : AI := o 84 (m 14) (o 85 (bk .lss 84 10) .done)
abbrev r722_15 : AI := o 14 (.mov (ki 0)) .done
abbrev r722_14 : AI := o 13 (.mov (.k (.nil 1))) .done
abbrev r722_13 : AI := so 10 12 83 .done
abbrev r722_12 : AI := o 63 (.bld [.str [], .str [], .str [], .str [], .str [], .str [], .str [], .str [], .str [], .str []] [(0, 1, (ks [112, 97, 115, 115, 101, 110, 103, 101, 114, 115])), (1, 1, (ks [100, 101, 108, 105, 118, 101, 114, 101, 100])), (2, 1, (ks [114, 105, 100, 105, 110, 103])), (3, 1, (ks [119, 97, 105, 116, 105, 110, 103])), (4, 1, (ks [104, 97, 110, 100, 108, 105, 110, 103])), (5, 1, (ks [105, 110, 116, 101, 114, 118, 97, 108])), (6, 1, (ks [108, 111, 97, 100])), (7, 1, (ks [116, 114, 97, 118, 101, 108])), (8, 1, (ks [100, 111, 111, 114, 115])), (9, 1, (ks [119, 111, 114, 100, 115]))]) (o 11 (.alc 11 [.c (.str []), .c (.str []), .c (.str []), .c (.str []), .c (.str []), .c (.str []), .c (.str []), .c (.str []), .c (.str []), .c (.str [])]) (so 10 11 63 .done))
abbrev r722_11 : AI := o 60 (fa 3 0) (o 61 (l1 60) (o 62 (.call 402 [.t 61, ki 2]) (o 10 (m 62) .done)))
abbrev r722_4 : AI := o 21 (m 7) (o 22 (bk .add 21 1) (o 7 (m 22) .done))
abbrev r722_9 : AI := o 45 (m 9) (o 46 (bk .add 45 1) (o 9 (m 46) .done))
abbrev r722_10 : AI := o 59 (b2 .add 47 58) (o 6 (m 59) .done)
abbrev r722_8 : AI := o 41 (m 9) (o 42 (m 8) (o 43 (le 42) (o 44 (b2 .lss 41 43) .done)))
abbrev r722_7 : AI := o 9 (.mov (ki 0)) .done
abbrev r722_6 : AI := o 40 (c2 296 37 39) (o 8 (m 40) .done)
abbrev r722_5 : AI := o 32 (b2 .add 23 31) (o 5 (m 32) .done)
abbrev r722_3 : AI := o 16 (m 7) (o 17 (fa 3 1) (o 18 (l1 17) (o 19 (le 18) (o 20 (b2 .lss 16 19) .done))))
abbrev r722_2 : AI := o 7 (.mov (ki 0)) .done
abbrev r722_1 : AI := o 5 (.mov (ki 0)) (o 6 (.mov (ki 0)) .done)
abbrev r722_0 : AI := o 2 (.box 2 (.t 0)) (o 3 (.box 3 (.t 1)) (o 4 (.mov (.k (.nil 1))) .done))
abbrev r722_22q : List DIt := [d 101 (fa 3 0), d 102 (l1 101), d 103 (fa 2 10), d 104 (l1 103), d 105 (c2 730 102 104), d 106 (fa 2 2), d 107 (l1 106), d 108 (fa 2 10), d 109 (l1 108), d 110 (.bin .mul (.t 107) (.t 109))]
abbrev r722_13q : List DIt := [d 64 (fa 3 0), d 65 (l1 64), d 66 (.len false (.t 65)), d 67 (m 10), d 68 (fa 3 0), d 69 (l1 68), d 70 (.call 402 [.t 69, ki 1]), d 71 (fa 3 0), d 72 (l1 71), d 73 (.call 402 [.t 72, ki 0]), d 74 (m 10), d 75 (.bin .mul (.t 74) (ki 300)), d 76 (fa 2 10), d 77 (l1 76), d 78 (.bin .quo (.t 75) (.t 77)), d 79 (m 5), d 80 (m 6), d 81 (fa 3 2), d 82 (l1 81), d 83 (.bld zd10 [(0, 1, (.t 66)), (1, 1, (.t 67)), (2, 1, (.t 70)), (3, 1, (.t 73)), (4, 1, (.t 78)), (5, 1, (ki 0)), (6, 1, (ki 0)), (7, 1, (.t 79)), (8, 1, (.t 80)), (9, 1, (.t 82))]), d 12 (.alc 12 [])]
abbrev r722_10q : List DIt := [d 47 (m 6), d 48 (m 8), d 49 (m 9), d 50 (ia 48 49 2), d 51 (fa 50 1), d 52 (l1 51), d 53 (m 8), d 54 (m 9), d 55 (ia 53 54 2), d 56 (fa 55 0), d 57 (l1 56), d 58 (.bin .sub (.t 52) (.t 57))]
abbrev r722_6q : List DIt := [d 33 (fa 3 1), d 34 (l1 33), d 35 (m 7), d 36 (ia 34 35 1), d 37 (l1 36), d 38 (fa 2 10), d 39 (l1 38)]
abbrev r722_5q : List DIt := [d 23 (m 5), d 24 (fa 3 1), d 25 (l1 24), d 26 (m 7), d 27 (ia 25 26 1), d 28 (l1 27), d 29 (fa 2 10), d 30 (l1 29), d 31 (c2 732 28 30)]
abbrev ref42_counts_l1b_y : AC := .seq (sr r722_16 (.keep [2, 3, 11, 12, 13, 14, 85] [2, 3, 11, 12, 13, 119] (cd 85 .skip (.keep [13] [13, 119] (.exit 4))))) (.keep [2, 3, 11, 12, 13, 14] [2, 3, 11, 12, 13, 119] (.seq (.block 5 (sr r722_18 (.keep [2, 3, 11, 12, 13, 14, 15] [2, 3, 11, 12, 13, 119] (.seq (sr r722_19 (.keep [2, 3, 11, 12, 13, 14, 15, 93] [2, 3, 11, 12, 13, 119] (cd 93 (.keep [2, 3, 11, 12, 13, 14] [2, 3, 11, 12, 13, 119] (rg r722_20)) .skip))) (.keep [2, 3, 11, 12, 13, 14, 15] [2, 3, 11, 12, 13, 119] (.seq (sr r722_21 (.keep [2, 3, 11, 12, 13, 14, 15, 100] [2, 3, 11, 12, 13, 119] (cd 100 (.keep [2, 3, 11, 12, 13, 14] [2, 3, 11, 12, 13, 119] (.draw r722_22q [] [] r722_22)) .skip))) (.keep [2, 3, 11, 12, 13, 14, 15] [2, 3, 11, 12, 13, 119] (rg r722_23)))))))) (.keep [2, 3, 11, 12, 13, 14] [2, 3, 11, 12, 13, 119] (rg r722_17))))
def ref42_counts_l1b : AC := ref42_counts_l1b_y
abbrev ref42_counts_l1_y : AC := .keep [2, 3, 11, 12, 13, 14] [2, 3, 11, 12, 13, 119] (ref42_counts_l1b)
def ref42_counts_l1 : AC := ref42_counts_l1_y
abbrev ref42_counts_l2b_y : AC := .seq (sr r722_8 (.keep [2, 3, 5, 6, 7, 8, 9, 44] [2, 3] (cd 44 .skip (.keep [2, 3, 5, 6, 7] [2, 3] (.exit 2))))) (.keep [2, 3, 5, 6, 7, 8, 9] [2, 3] (.seq (.block 3 (.draw r722_10q [] [] r722_10)) (.keep [2, 3, 5, 6, 7, 8, 9] [2, 3] (rg r722_9))))
def ref42_counts_l2b : AC := ref42_counts_l2b_y
abbrev ref42_counts_l2_y : AC := .keep [2, 3, 5, 6, 7, 8, 9] [2, 3] (ref42_counts_l2b)
def ref42_counts_l2 : AC := ref42_counts_l2_y
abbrev ref42_counts_l3b_y : AC := .seq (sr r722_3 (.keep [2, 3, 5, 6, 7, 20] [2, 3] (cd 20 .skip (.keep [2, 3, 5, 6] [2, 3] (.exit 0))))) (.keep [2, 3, 5, 6, 7] [2, 3] (.seq (.block 1 (.seq (.draw r722_5q [] [] r722_5) (.keep [2, 3, 5, 6, 7] [2, 3] (.seq (.draw r722_6q [] [] r722_6) (.keep [2, 3, 5, 6, 7, 8] [2, 3] (sr r722_7 (.keep [2, 3, 5, 6, 7, 8, 9] [2, 3] (.block 2 (.loop ref42_counts_l2))))))))) (.keep [2, 3, 5, 6, 7] [2, 3] (rg r722_4))))
def ref42_counts_l3b : AC := ref42_counts_l3b_y
abbrev ref42_counts_l3_y : AC := .keep [2, 3, 5, 6, 7] [2, 3] (ref42_counts_l3b)
def ref42_counts_l3 : AC := ref42_counts_l3_y
abbrev ref42_counts_c_y : AC := sr r722_0 (.keep [2, 3] [2, 3] (sr r722_1 (.keep [2, 3, 5, 6] [2, 3] (.seq (sr r722_2 (.keep [2, 3, 5, 6, 7] [2, 3] (.block 0 (.loop ref42_counts_l3)))) (.keep [2, 3, 5, 6] [2, 3] (sr r722_11 (.keep [2, 3, 5, 6, 10] [2, 3] (sr r722_12 (.keep [2, 3, 5, 6, 10, 11] [2, 3, 11] (.seq (.draw r722_13q [(12, 12, za10)] [] r722_13) (.keep [2, 3, 11, 12] [2, 3, 11, 12] (sr r722_14 (.keep [2, 3, 11, 12, 13] [2, 3, 11, 12, 13, 119] (.own 13 13 (.seq (sr r722_15 (.keep [2, 3, 11, 12, 13, 14] [2, 3, 11, 12, 13, 119] (.block 4 (.loop ref42_counts_l1)))) (.keep [13] [13, 119] (sr r722_24 (.keep [4] [13, 119] .ret))))))))))))))))))
def ref42_counts_c : AC := ref42_counts_c_y
def ref42_counts_f : AFn := ⟨ref42_counts_c, [.t 4], 0, 0, []⟩
abbrev r716_6 : AI := o 51 (b2 .add 42 50) (o 4 (m 51) (o 5 (.mov (ki 0)) .done))
abbrev r716_5 : AI := o 25 (.bsl 1 [.str []] 6 [(0, 1, (ks [116, 105, 99, 107, 115])), (1, 1, (ks [109, 101, 97, 110])), (2, 1, (ks [112, 53, 48])), (3, 1, (ks [112, 57, 48])), (4, 1, (ks [112, 57, 53])), (5, 1, (ks [112, 49, 48, 48]))]) (o 26 (m 8) (o 27 (.call 430 [(ks [119, 97, 105, 116]), (.t 26)]) (o 28 (m 9) (o 29 (.call 430 [(ks [116, 114, 97, 110, 115, 105, 116]), (.t 28)]) (o 30 (.bsl 1 [.vs 1 []] 3 [(0, 1, (.t 25)), (1, 1, (.t 27)), (2, 1, (.t 29))]) (o 10 (m 30) .done))))))
abbrev r716_4 : AI := o 24 (.call 401 [.t 23, kb false]) (o 8 (m 21) (o 9 (m 24) .done))
abbrev r716_3 : AI := o 18 (m 7) (o 4 (.mov (ks [])) (o 5 (m 18) .done))
abbrev r716_2 : AI := o 16 (m 7) (o 17 (bk .neq 16 0) .done)
abbrev r716_1 : AI := o 12 (ln 2 13) (o 13 (c1 47 12) (o 11 (m 13) (o 14 (ex 11 0) (o 15 (ex 11 1) (o 6 (m 14) (o 7 (m 15) .done))))))
abbrev r716_0 : AI := o 2 (.box 2 (.t 0)) (o 3 (.box 3 (.t 1)) (o 4 (.mov (ks [])) (o 5 (.mov (ki 0)) .done)))
abbrev r716_6q : List DIt := [d 31 (m 6), d 32 (.bin .add (.t 31) (ks [10])), d 33 (.ld (.t 2) 13 true), d 34 (.ld (.t 3) 3 true), d 35 (c2 722 33 34), d 36 (c1 184 35), d 37 (.bin .add (.t 32) (.t 36)), d 38 (.bin .add (.t 37) (ks [10])), d 39 (m 10), d 40 (c1 184 39), d 41 (.bin .add (.t 38) (.t 40)), d 42 (.bin .add (.t 41) (ks [10])), d 43 (fa 2 11), d 44 (l1 43), d 45 (fa 2 12), d 46 (l1 45), d 47 (m 8), d 48 (m 9), d 49 (.call 428 [.t 44, .t 46, .t 47, .t 48]), d 50 (c1 184 49)]
abbrev r716_4q : List DIt := [d 19 (fa 3 0), d 20 (l1 19), d 21 (.call 401 [.t 20, kb true]), d 22 (fa 3 0), d 23 (l1 22)]
abbrev ref42_Text_c_y : AC := sr r716_0 (.keep [2, 3] [2, 3] (sr r716_1 (.keep [2, 3, 6, 7] [2, 3] (.seq (sr r716_2 (.keep [2, 3, 6, 7, 17] [2, 3] (cd 17 (.keep [7] [] (sr r716_3 (.keep [4, 5] [] .ret))) .skip))) (.keep [2, 3, 6] [2, 3] (.seq (.draw r716_4q [] [] r716_4) (.keep [2, 3, 6, 8, 9] [2, 3] (sr r716_5 (.keep [2, 3, 6, 8, 9, 10] [2, 3] (.seq (.draw r716_6q [] [] r716_6) (.keep [4, 5] [] .ret)))))))))))
def ref42_Text_c : AC := ref42_Text_c_y
def ref42_Text_f : AFn := ⟨ref42_Text_c, [.t 4, .t 5], 0, 0, []⟩
abbrev r718_9 : AI := o 4 (.mov (kb true)) .done
abbrev r718_5 : AI := o 22 (m 5) (o 23 (bk .add 22 1) (o 5 (m 23) .done))
abbrev r718_8 : AI := o 4 (.mov (kb false)) .done
abbrev r718_7 : AI := o 29 (fa 6 6) (o 30 (l1 29) (o 31 (bk .geq 30 0) (o 32 (m 31) (.scs 50 (.t 32) true (o 33 (fa 6 6) (o 34 (l1 33) (o 35 (fa 6 5) (o 36 (l1 35) (o 37 (b2 .lss 34 36) (o 38 (m 37) (.scs 44 (.t 38) false (o 39 (fa 6 5) (o 40 (l1 39) (o 41 (fa 6 1) (o 42 (l1 41) (o 43 (b2 .lss 40 42) .done))))) (.t 43) (o 45 (m 44) (.scs 49 (.t 45) false (o 46 (fa 6 1) (o 47 (l1 46) (o 48 (bk .lss 47 0) .done))) (.t 48) .done))))))))) (.t 49) .done))))
abbrev r718_6 : AI := o 24 (fa 3 0) (o 25 (l1 24) (o 26 (m 5) (o 27 (ia 25 26 7) (o 28 (ln 27 7) (o 6 (.alc 6 za7) (so 7 6 28 .done))))))
abbrev r718_4 : AI := o 17 (m 5) (o 18 (fa 3 0) (o 19 (l1 18) (o 20 (le 19) (o 21 (b2 .lss 17 20) .done))))
abbrev r718_3 : AI := o 5 (.mov (ki 0)) .done
abbrev r718_2 : AI := o 4 (.mov (kb false)) .done
abbrev r718_1 : AI := o 7 (fa 3 0) (o 8 (l1 7) (o 9 (c1 60 8) (o 10 (m 9) (.sc 16 (.t 10) false (o 11 (fa 3 1) (o 12 (l1 11) (o 13 (fa 2 10) (o 14 (l1 13) (o 15 (c2 256 12 14) .done))))) (.t 15) .done))))
abbrev r718_0 : AI := o 2 (.box 2 (.t 0)) (o 3 (.box 3 (.t 1)) (o 4 (.mov (kb false)) .done))
abbrev law42_proper_l1b_y : AC := .seq (sr r718_4 (.keep [3, 5, 21] [3] (cd 21 .skip (.keep [] [] (.exit 0))))) (.keep [3, 5] [3] (.seq (.block 1 (sr r718_6 (.keep [3, 5, 6] [3, 6] (sr r718_7 (.keep [3, 5, 50] [3] (cd 50 (.keep [] [] (sr r718_8 (.keep [4] [] .ret))) .skip)))))) (.keep [3, 5] [3] (rg r718_5))))
def law42_proper_l1b : AC := law42_proper_l1b_y
abbrev law42_proper_l1_y : AC := .keep [3, 5] [3] (law42_proper_l1b)
def law42_proper_l1 : AC := law42_proper_l1_y
abbrev law42_proper_c_y : AC := sr r718_0 (.keep [2, 3] [2, 3] (.seq (sr r718_1 (.keep [3, 16] [3] (cd 16 (.keep [] [] (sr r718_2 (.keep [4] [] .ret))) .skip))) (.keep [3] [3] (.seq (sr r718_3 (.keep [3, 5] [3] (.block 0 (.loop law42_proper_l1)))) (.keep [] [] (sr r718_9 (.keep [4] [] .ret)))))))
def law42_proper_c : AC := law42_proper_c_y
def law42_proper_f : AFn := ⟨law42_proper_c, [.t 4], 0, 0, []⟩
abbrev r719_11 : AI := o 57 (m 8) (o 58 (m 10) (o 59 (b2 .eql 57 58) (o 60 (m 59) (.scs 64 (.t 60) true (o 61 (m 9) (o 62 (m 11) (o 63 (b2 .eql 61 62) .done))) (.t 63) (o 65 (m 64) (.sc 67 (.t 65) true (o 66 (.call 426 []) .done) (.t 66) (o 4 (m 67) .done)))))))
abbrev r719_10 : AI := o 52 (ln 2 13) (o 53 (ln 3 3) (o 54 (c2 716 52 53) (o 51 (m 54) (o 55 (ex 51 0) (o 56 (ex 51 1) (o 10 (m 55) (o 11 (m 56) .done)))))))
abbrev r719_9 : AI := o 46 (ln 2 13) (o 47 (ln 3 3) (o 48 (c2 717 46 47) (o 45 (m 48) (o 49 (ex 45 0) (o 50 (ex 45 1) (o 8 (m 49) (o 9 (m 50) .done)))))))
abbrev r719_8 : AI := o 4 (.mov (kb true)) .done
abbrev r719_7 : AI := o 36 (fa 2 10) (o 37 (l1 36) (o 38 (bk .gtr 37 300) (o 39 (m 38) (.sc 44 (.t 39) false (o 40 (ln 2 13) (o 41 (ln 3 3) (o 42 (c2 718 40 41) (o 43 (.un .not (.t 42)) .done)))) (.t 43) .done))))
abbrev r719_6 : AI := o 26 (m 6) (o 27 (.bin .eql (.t 26) (ks [])) (o 28 (m 27) (.scs 32 (.t 28) true (o 29 (m 7) (o 30 (m 5) (o 31 (b2 .eql 29 30) .done))) (.t 31) (o 33 (m 32) (.sc 35 (.t 33) true (o 34 (.call 426 []) .done) (.t 34) (o 4 (m 35) .done))))))
abbrev r719_5 : AI := o 21 (ln 2 13) (o 22 (.bld [.vs 7 [], .vs 1 [], .int .i64 0] []) (o 23 (c2 717 21 22) (o 20 (m 23) (o 24 (ex 20 0) (o 25 (ex 20 1) (o 6 (m 24) (o 7 (m 25) .done)))))))
abbrev r719_4 : AI := o 18 (m 5) (o 19 (bk .neq 18 0) .done)
abbrev r719_3 : AI := o 16 (ln 2 13) (o 17 (c1 26 16) (o 5 (m 17) .done))
abbrev r719_2 : AI := o 4 (.mov (kb true)) .done
abbrev r719_1 : AI := o 12 (fa 2 8) (o 13 (l1 12) (o 14 (le 13) (o 15 (bk .gtr 14 30) .done)))
abbrev r719_0 : AI := o 2 (.box 2 (.t 0)) (o 3 (.box 3 (.t 1)) (o 4 (.mov (kb false)) .done))
abbrev law42_ReportTexts_c_y : AC := sr r719_0 (.keep [2, 3] [2, 3] (.seq (sr r719_1 (.keep [2, 3, 15] [2, 3] (cd 15 (.keep [] [] (sr r719_2 (.keep [4] [] .ret))) .skip))) (.keep [2, 3] [2, 3] (.seq (sr r719_3 (.keep [2, 3, 5] [2, 3] (sr r719_4 (.keep [2, 3, 5, 19] [2, 3] (cd 19 (.keep [2, 5] [2] (sr r719_5 (.keep [5, 6, 7] [] (sr r719_6 (.keep [4] [] .ret))))) .skip))))) (.keep [2, 3] [2, 3] (.seq (sr r719_7 (.keep [2, 3, 44] [2, 3] (cd 44 (.keep [] [] (sr r719_8 (.keep [4] [] .ret))) .skip))) (.keep [2, 3] [2, 3] (sr r719_9 (.keep [2, 3, 8, 9] [2, 3] (sr r719_10 (.keep [8, 9, 10, 11] [] (sr r719_11 (.keep [4] [] .ret)))))))))))))
def law42_ReportTexts_c : AC := law42_ReportTexts_c_y
def law42_ReportTexts_f : AFn := ⟨law42_ReportTexts_c, [.t 4], 0, 0, []⟩
theorem report_Text_c_x (Γ : Env) (N : Nat) (s : St) : exec Γ N report_Text_c s = exec Γ N report_Text_c_y s := rfl
theorem report_counts_c_x (Γ : Env) (N : Nat) (s : St) : exec Γ N report_counts_c s = exec Γ N report_counts_c_y s := rfl
theorem report_ratio_c_x (Γ : Env) (N : Nat) (s : St) : exec Γ N report_ratio_c s = exec Γ N report_ratio_c_y s := rfl
theorem figure_Openings_l1b_x (Γ : Env) (N : Nat) (s : St) : exec Γ N figure_Openings_l1b s = exec Γ N figure_Openings_l1b_y s := rfl
theorem figure_Openings_l1_x (Γ : Env) (N : Nat) (s : St) : exec Γ N figure_Openings_l1 s = exec Γ N figure_Openings_l1_y s := rfl
theorem figure_Openings_l2b_x (Γ : Env) (N : Nat) (s : St) : exec Γ N figure_Openings_l2b s = exec Γ N figure_Openings_l2b_y s := rfl
theorem figure_Openings_l2_x (Γ : Env) (N : Nat) (s : St) : exec Γ N figure_Openings_l2 s = exec Γ N figure_Openings_l2_y s := rfl
theorem figure_Openings_c_x (Γ : Env) (N : Nat) (s : St) : exec Γ N figure_Openings_c s = exec Γ N figure_Openings_c_y s := rfl
theorem figure_Interval_l1b_x (Γ : Env) (N : Nat) (s : St) : exec Γ N figure_Interval_l1b s = exec Γ N figure_Interval_l1b_y s := rfl
theorem figure_Interval_l1_x (Γ : Env) (N : Nat) (s : St) : exec Γ N figure_Interval_l1 s = exec Γ N figure_Interval_l1_y s := rfl
theorem figure_Interval_l2b_x (Γ : Env) (N : Nat) (s : St) : exec Γ N figure_Interval_l2b s = exec Γ N figure_Interval_l2b_y s := rfl
theorem figure_Interval_l2_x (Γ : Env) (N : Nat) (s : St) : exec Γ N figure_Interval_l2 s = exec Γ N figure_Interval_l2_y s := rfl
theorem figure_Interval_c_x (Γ : Env) (N : Nat) (s : St) : exec Γ N figure_Interval_c s = exec Γ N figure_Interval_c_y s := rfl
theorem figure_Load_c_x (Γ : Env) (N : Nat) (s : St) : exec Γ N figure_Load_c s = exec Γ N figure_Load_c_y s := rfl
theorem figure_Handling_c_x (Γ : Env) (N : Nat) (s : St) : exec Γ N figure_Handling_c s = exec Γ N figure_Handling_c_y s := rfl
theorem figure_Far_l1b_x (Γ : Env) (N : Nat) (s : St) : exec Γ N figure_Far_l1b s = exec Γ N figure_Far_l1b_y s := rfl
theorem figure_Far_l1_x (Γ : Env) (N : Nat) (s : St) : exec Γ N figure_Far_l1 s = exec Γ N figure_Far_l1_y s := rfl
theorem figure_Far_c_x (Γ : Env) (N : Nat) (s : St) : exec Γ N figure_Far_c s = exec Γ N figure_Far_c_y s := rfl
theorem figure_Busy_l1b_x (Γ : Env) (N : Nat) (s : St) : exec Γ N figure_Busy_l1b s = exec Γ N figure_Busy_l1b_y s := rfl
theorem figure_Busy_l1_x (Γ : Env) (N : Nat) (s : St) : exec Γ N figure_Busy_l1 s = exec Γ N figure_Busy_l1_y s := rfl
theorem figure_Busy_l2b_x (Γ : Env) (N : Nat) (s : St) : exec Γ N figure_Busy_l2b s = exec Γ N figure_Busy_l2b_y s := rfl
theorem figure_Busy_l2_x (Γ : Env) (N : Nat) (s : St) : exec Γ N figure_Busy_l2 s = exec Γ N figure_Busy_l2_y s := rfl
theorem figure_Busy_c_x (Γ : Env) (N : Nat) (s : St) : exec Γ N figure_Busy_c s = exec Γ N figure_Busy_c_y s := rfl
theorem trip_Aboard_l1b_x (Γ : Env) (N : Nat) (s : St) : exec Γ N trip_Aboard_l1b s = exec Γ N trip_Aboard_l1b_y s := rfl
theorem trip_Aboard_l1_x (Γ : Env) (N : Nat) (s : St) : exec Γ N trip_Aboard_l1 s = exec Γ N trip_Aboard_l1_y s := rfl
theorem trip_Aboard_c_x (Γ : Env) (N : Nat) (s : St) : exec Γ N trip_Aboard_c s = exec Γ N trip_Aboard_c_y s := rfl
theorem track_Far_l1b_x (Γ : Env) (N : Nat) (s : St) : exec Γ N track_Far_l1b s = exec Γ N track_Far_l1b_y s := rfl
theorem track_Far_l1_x (Γ : Env) (N : Nat) (s : St) : exec Γ N track_Far_l1 s = exec Γ N track_Far_l1_y s := rfl
theorem track_Far_c_x (Γ : Env) (N : Nat) (s : St) : exec Γ N track_Far_c s = exec Γ N track_Far_c_y s := rfl
theorem track_At_c_x (Γ : Env) (N : Nat) (s : St) : exec Γ N track_At_c s = exec Γ N track_At_c_y s := rfl
theorem track_find_l1b_x (Γ : Env) (N : Nat) (s : St) : exec Γ N track_find_l1b s = exec Γ N track_find_l1b_y s := rfl
theorem track_find_l1_x (Γ : Env) (N : Nat) (s : St) : exec Γ N track_find_l1 s = exec Γ N track_find_l1_y s := rfl
theorem track_find_c_x (Γ : Env) (N : Nat) (s : St) : exec Γ N track_find_c s = exec Γ N track_find_c_y s := rfl
theorem ref24_Aboard_l1b_x (Γ : Env) (N : Nat) (s : St) : exec Γ N ref24_Aboard_l1b s = exec Γ N ref24_Aboard_l1b_y s := rfl
theorem ref24_Aboard_l1_x (Γ : Env) (N : Nat) (s : St) : exec Γ N ref24_Aboard_l1 s = exec Γ N ref24_Aboard_l1_y s := rfl
theorem ref24_Aboard_c_x (Γ : Env) (N : Nat) (s : St) : exec Γ N ref24_Aboard_c s = exec Γ N ref24_Aboard_c_y s := rfl
theorem ref25_Far_l1b_x (Γ : Env) (N : Nat) (s : St) : exec Γ N ref25_Far_l1b s = exec Γ N ref25_Far_l1b_y s := rfl
theorem ref25_Far_l1_x (Γ : Env) (N : Nat) (s : St) : exec Γ N ref25_Far_l1 s = exec Γ N ref25_Far_l1_y s := rfl
theorem ref25_Far_c_x (Γ : Env) (N : Nat) (s : St) : exec Γ N ref25_Far_c s = exec Γ N ref25_Far_c_y s := rfl
theorem ref42_interval_l1b_x (Γ : Env) (N : Nat) (s : St) : exec Γ N ref42_interval_l1b s = exec Γ N ref42_interval_l1b_y s := rfl
theorem ref42_interval_l1_x (Γ : Env) (N : Nat) (s : St) : exec Γ N ref42_interval_l1 s = exec Γ N ref42_interval_l1_y s := rfl
theorem ref42_interval_l2b_x (Γ : Env) (N : Nat) (s : St) : exec Γ N ref42_interval_l2b s = exec Γ N ref42_interval_l2b_y s := rfl
theorem ref42_interval_l2_x (Γ : Env) (N : Nat) (s : St) : exec Γ N ref42_interval_l2 s = exec Γ N ref42_interval_l2_y s := rfl
theorem ref42_interval_c_x (Γ : Env) (N : Nat) (s : St) : exec Γ N ref42_interval_c s = exec Γ N ref42_interval_c_y s := rfl
theorem ref42_ratio_c_x (Γ : Env) (N : Nat) (s : St) : exec Γ N ref42_ratio_c s = exec Γ N ref42_ratio_c_y s := rfl
theorem ref42_counts_l1b_x (Γ : Env) (N : Nat) (s : St) : exec Γ N ref42_counts_l1b s = exec Γ N ref42_counts_l1b_y s := rfl
theorem ref42_counts_l1_x (Γ : Env) (N : Nat) (s : St) : exec Γ N ref42_counts_l1 s = exec Γ N ref42_counts_l1_y s := rfl
theorem ref42_counts_l2b_x (Γ : Env) (N : Nat) (s : St) : exec Γ N ref42_counts_l2b s = exec Γ N ref42_counts_l2b_y s := rfl
theorem ref42_counts_l2_x (Γ : Env) (N : Nat) (s : St) : exec Γ N ref42_counts_l2 s = exec Γ N ref42_counts_l2_y s := rfl
theorem ref42_counts_l3b_x (Γ : Env) (N : Nat) (s : St) : exec Γ N ref42_counts_l3b s = exec Γ N ref42_counts_l3b_y s := rfl
theorem ref42_counts_l3_x (Γ : Env) (N : Nat) (s : St) : exec Γ N ref42_counts_l3 s = exec Γ N ref42_counts_l3_y s := rfl
theorem ref42_counts_c_x (Γ : Env) (N : Nat) (s : St) : exec Γ N ref42_counts_c s = exec Γ N ref42_counts_c_y s := rfl
theorem ref42_Text_c_x (Γ : Env) (N : Nat) (s : St) : exec Γ N ref42_Text_c s = exec Γ N ref42_Text_c_y s := rfl
theorem law42_proper_l1b_x (Γ : Env) (N : Nat) (s : St) : exec Γ N law42_proper_l1b s = exec Γ N law42_proper_l1b_y s := rfl
theorem law42_proper_l1_x (Γ : Env) (N : Nat) (s : St) : exec Γ N law42_proper_l1 s = exec Γ N law42_proper_l1_y s := rfl
theorem law42_proper_c_x (Γ : Env) (N : Nat) (s : St) : exec Γ N law42_proper_c s = exec Γ N law42_proper_c_y s := rfl
theorem law42_ReportTexts_c_x (Γ : Env) (N : Nat) (s : St) : exec Γ N law42_ReportTexts_c s = exec Γ N law42_ReportTexts_c_y s := rfl
attribute [simp] report_Text_c_y report_counts_c_y report_ratio_c_y figure_Openings_l1b_y figure_Openings_l1_y figure_Openings_l2b_y figure_Openings_l2_y figure_Openings_c_y figure_Interval_l1b_y figure_Interval_l1_y figure_Interval_l2b_y figure_Interval_l2_y figure_Interval_c_y figure_Load_c_y figure_Handling_c_y figure_Far_l1b_y figure_Far_l1_y figure_Far_c_y figure_Busy_l1b_y figure_Busy_l1_y figure_Busy_l2b_y figure_Busy_l2_y figure_Busy_c_y trip_Aboard_l1b_y trip_Aboard_l1_y trip_Aboard_c_y track_Far_l1b_y track_Far_l1_y track_Far_c_y track_At_c_y track_find_l1b_y track_find_l1_y track_find_c_y ref24_Aboard_l1b_y ref24_Aboard_l1_y ref24_Aboard_c_y ref25_Far_l1b_y ref25_Far_l1_y ref25_Far_c_y ref42_interval_l1b_y ref42_interval_l1_y ref42_interval_l2b_y ref42_interval_l2_y ref42_interval_c_y ref42_ratio_c_y ref42_counts_l1b_y ref42_counts_l1_y ref42_counts_l2b_y ref42_counts_l2_y ref42_counts_l3b_y ref42_counts_l3_y ref42_counts_c_y ref42_Text_c_y law42_proper_l1b_y law42_proper_l1_y law42_proper_c_y law42_ReportTexts_c_y
attribute [simp] report_Text_c_x report_Text_f report_counts_c_x report_counts_f report_ratio_c_x report_ratio_f figure_Openings_l1b_x figure_Openings_l2b_x figure_Openings_c_x figure_Openings_f figure_Interval_l1b_x figure_Interval_l2b_x figure_Interval_c_x figure_Interval_f figure_Load_c_x figure_Load_f figure_Handling_c_x figure_Handling_f figure_Far_l1b_x figure_Far_c_x figure_Far_f figure_Busy_l1b_x figure_Busy_l2b_x figure_Busy_c_x figure_Busy_f trip_Aboard_l1b_x trip_Aboard_c_x trip_Aboard_f track_Far_l1b_x track_Far_c_x track_Far_f track_At_c_x track_At_f track_find_l1b_x track_find_c_x track_find_f ref24_Aboard_l1b_x ref24_Aboard_c_x ref24_Aboard_f ref25_Far_l1b_x ref25_Far_c_x ref25_Far_f ref42_interval_l1b_x ref42_interval_l2b_x ref42_interval_c_x ref42_interval_f ref42_ratio_c_x ref42_ratio_f ref42_counts_l1b_x ref42_counts_l2b_x ref42_counts_l3b_x ref42_counts_c_x ref42_counts_f ref42_Text_c_x ref42_Text_f law42_proper_l1b_x law42_proper_c_x law42_proper_f law42_ReportTexts_c_x law42_ReportTexts_f
end Go.Am
namespace Go.Am
open Cx
abbrev r426_1 : AI := o 1 (.call 429 [(ks [119, 97, 105, 116]), (.k (.nil 1))]) (o 2 (.bsl 1 [.str []] 6 [(0, 1, (ks [119, 97, 105, 116])), (1, 1, (ks [110, 47, 97])), (2, 1, (ks [110, 47, 97])), (3, 1, (ks [110, 47, 97])), (4, 1, (ks [110, 47, 97])), (5, 1, (ks [110, 47, 97]))]) (o 3 (c2 118 1 2) (o 4 (m 3) (o 5 (.pick (.t 4) (kb true) (kb false)) (o 0 (m 5) .done)))))
abbrev r426_0 : AI := o 0 (.mov (kb false)) .done
abbrev law42_alive_c_y : AC := sr r426_0 (.keep [] [] (sr r426_1 (.keep [0] [] .ret)))
def law42_alive_c : AC := law42_alive_c_y
def law42_alive_f : AFn := ⟨law42_alive_c, [.t 0], 0, 0, []⟩
theorem law42_alive_c_x (Γ : Env) (N : Nat) (s : St) : exec Γ N law42_alive_c s = exec Γ N law42_alive_c_y s := rfl
attribute [simp] law42_alive_c_y
attribute [simp] law42_alive_c_x law42_alive_f
end Go.Am
