/- The small code of functions of the program, printed by a tool of this session; each is held against the loaded program by the kernel. -/
import Derived.Test.YtebcdnnfjcaofaaFn
import Derived.Test.YtebcdnnfjcaofaaProg
import Derived.KernelRfl
namespace Go.SL
abbrev c56r0 : List SOpr := [⟨some 2, .val (.k (.int .u64 0)), none⟩, ⟨some 3, .val (.k (.int .i64 0)), none⟩, ⟨some 4, .val (.k (.int .i64 0)), none⟩]
abbrev c56r1 : List SOpr := [⟨some 5, .val (.k (.int .u64 0)), none⟩]
abbrev c56r2 : List SOpr := [⟨some 8, .val (.k (.int .i64 0)), none⟩]
abbrev c56r3 : List SOpr := [⟨some 9, .bin .lss (.s 8) (.k (.int .i64 10)), none⟩]
abbrev c56r4 : List SOpr := [⟨some 10, .val (.s 8), none⟩, ⟨some 6, .val (.s 10), none⟩]
abbrev c56r5 : List SOpr := [⟨some 11, .val (.s 0), none⟩, ⟨some 12, .nil (.s 11), none⟩, ⟨some 13, .fld 1 (.s 12), none⟩, ⟨some 14, .ld none (.s 13), none⟩, ⟨some 15, .val (.s 6), none⟩, ⟨some 16, .bin .add (.s 14) (.s 15), none⟩, ⟨some 17, .val (.s 0), none⟩, ⟨some 18, .nil (.s 17), none⟩, ⟨some 19, .fld 0 (.s 18), none⟩, ⟨some 20, .ld none (.s 19), none⟩, ⟨some 21, .len (.s 20), none⟩, ⟨some 22, .bin .geq (.s 16) (.s 21), none⟩]
abbrev c56r6 : List SOpr := [⟨some 2, .val (.k (.int .u64 0)), none⟩, ⟨some 3, .val (.k (.int .i64 0)), none⟩, ⟨some 4, .val (.k (.int .i64 9)), none⟩]
abbrev c56r7 : List SOpr := [⟨some 23, .val (.s 0), none⟩, ⟨some 24, .nil (.s 23), none⟩, ⟨some 25, .fld 0 (.s 24), none⟩, ⟨some 26, .ld none (.s 25), none⟩, ⟨some 27, .val (.s 0), none⟩, ⟨some 28, .nil (.s 27), none⟩, ⟨some 29, .fld 1 (.s 28), none⟩, ⟨some 30, .ld none (.s 29), none⟩, ⟨some 31, .val (.s 6), none⟩, ⟨some 32, .bin .add (.s 30) (.s 31), none⟩, ⟨some 33, .ixs 1 (.s 26) (.s 32), none⟩, ⟨some 34, .ld none (.s 33), none⟩, ⟨some 7, .val (.s 34), none⟩]
abbrev c56r8 : List SOpr := [⟨some 35, .val (.s 5), none⟩, ⟨some 36, .val (.s 7), none⟩, ⟨some 37, .bin .and (.s 36) (.k (.int .u8 127)), none⟩, ⟨some 38, .conv .u64 (.s 37), none⟩, ⟨some 39, .val (.s 6), none⟩, ⟨some 40, .bin .mul (.k (.int .i64 7)) (.s 39), none⟩, ⟨some 41, .bin .shl (.s 38) (.s 40), none⟩, ⟨some 42, .bin .or (.s 35) (.s 41), none⟩, ⟨some 5, .val (.s 42), none⟩]
abbrev c56r9 : List SOpr := [⟨some 43, .val (.s 6), none⟩, ⟨some 44, .bin .eql (.s 43) (.k (.int .i64 9)), none⟩, ⟨some 45, .val (.s 44), none⟩, ⟨some 46, .val (.s 7), some (45, true)⟩, ⟨some 47, .bin .gtr (.s 46) (.k (.int .u8 1)), some (45, true)⟩, ⟨some 48, .pick (.s 45) (.s 47) (.k (.bool false)), none⟩]
abbrev c56r10 : List SOpr := [⟨some 49, .val (.s 7), none⟩, ⟨some 50, .bin .lss (.s 49) (.k (.int .u8 128)), none⟩]
abbrev c56r11 : List SOpr := [⟨some 51, .val (.s 7), none⟩, ⟨some 52, .bin .eql (.s 51) (.k (.int .u8 0)), none⟩, ⟨some 53, .val (.s 52), none⟩, ⟨some 54, .val (.s 6), some (53, true)⟩, ⟨some 55, .bin .gtr (.s 54) (.k (.int .i64 0)), some (53, true)⟩, ⟨some 56, .pick (.s 53) (.s 55) (.k (.bool false)), none⟩]
abbrev c56r12 : List SOpr := [⟨some 57, .val (.s 5), none⟩, ⟨some 58, .val (.s 0), none⟩, ⟨some 59, .nil (.s 58), none⟩, ⟨some 60, .fld 1 (.s 59), none⟩, ⟨some 61, .ld none (.s 60), none⟩, ⟨some 62, .val (.s 6), none⟩, ⟨some 63, .bin .add (.s 61) (.s 62), none⟩, ⟨some 64, .bin .add (.s 63) (.k (.int .i64 1)), none⟩, ⟨some 2, .val (.s 57), none⟩, ⟨some 3, .val (.s 64), none⟩, ⟨some 4, .val (.k (.int .i64 0)), none⟩]
abbrev c56r13 : List SOpr := [⟨some 65, .bin .add (.s 8) (.k (.int .i64 1)), none⟩, ⟨some 8, .val (.s 65), none⟩]
abbrev c56r14 : List SOpr := [⟨some 2, .val (.k (.int .u64 0)), none⟩, ⟨some 3, .val (.k (.int .i64 0)), none⟩, ⟨some 4, .val (.k (.int .i64 10)), none⟩]
-- c56: (*hansom/code.Reader).look
abbrev c56 : SFn := ⟨.seq (.reg c56r0 [2, 3, 4]) (.seq (.reg c56r1 [5]) (.seq (.seq (.reg c56r2 [8]) (.block 0 (.loop (.seq (.reg c56r3 [9]) (.seq (.cond (.s 9) .skip (.exit 0)) (.seq (.block 1 (.seq (.reg c56r4 [6]) (.seq (.seq (.drw c56r5 [22] (.rd 0 (.rd 1 (.rd 2 (.rd 3 (.rd 4 (.rd 5 (.rd 6 (.rd 7 (.rd 8 (.rd 9 (.rd 10 (.rd 11 .done))))))))))))) (.cond (.s 22) (.seq (.reg c56r6 [2, 3, 4]) .ret) .skip)) (.seq (.drw c56r7 [7] (.rd 0 (.rd 1 (.rd 2 (.rd 3 (.rd 4 (.rd 5 (.rd 6 (.rd 7 (.rd 8 (.rd 9 (.rd 10 (.rd 11 (.rd 12 .done)))))))))))))) (.seq (.reg c56r8 [5]) (.seq (.seq (.reg c56r9 [48]) (.cond (.s 48) (.exit 0) .skip)) (.seq (.reg c56r10 [50]) (.cond (.s 50) (.seq (.seq (.reg c56r11 [56]) (.cond (.s 56) (.exit 0) .skip)) (.seq (.drw c56r12 [2, 3, 4] (.rd 0 (.rd 1 (.rd 2 (.rd 3 (.rd 4 (.rd 5 (.rd 6 (.rd 7 (.rd 8 (.rd 9 (.rd 10 .done)))))))))))) .ret)) .skip)))))))) (.reg c56r13 [8]))))))) (.seq (.reg c56r14 [2, 3, 4]) .ret))), 66, [(2, none), (3, none), (4, none)]⟩
theorem e56 : eraseFn Go.Proofs.Try.prog Go.Proofs.Try.f56 = some c56 := by kernel_rfl

end Go.SL
