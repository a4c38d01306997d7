/- The small code of functions of the program, printed by a tool of this session; each is held against the loaded program by the kernel. -/
import Derived.Test.YtjpegbnlijgldaaFn
import Derived.Test.YtjpegbnlijgldaaProg
import Derived.KernelRfl
namespace Go.SL
abbrev c3r0 : List SOpr := [⟨some 4, .val (.k (.bool false)), none⟩]
abbrev c3r1 : List SOpr := [⟨some 10, .val (.s 0), none⟩, ⟨some 11, .len (.s 10), none⟩, ⟨some 12, .bin .gtr (.s 11) (.k (.int .i64 1000)), none⟩]
abbrev c3r2 : List SOpr := [⟨some 13, .call 6 [], none⟩, ⟨some 4, .val (.s 13), none⟩]
abbrev c3r3 : List SOpr := [⟨some 14, .val (.s 0), none⟩, ⟨some 15, .call 7 [.s 14, .k (.int .i64 71)], none⟩, ⟨some 5, .val (.s 15), none⟩]
abbrev c3r4 : List SOpr := [⟨some 17, .val (.s 5), none⟩, ⟨some 18, .call 8 [.s 17], none⟩, ⟨some 16, .val (.s 18), none⟩, ⟨some 19, .ext (.s 16) 0, none⟩, ⟨some 20, .ext (.s 16) 1, none⟩, ⟨some 6, .val (.s 19), none⟩, ⟨some 7, .val (.s 20), none⟩]
abbrev c3r5 : List SOpr := [⟨some 21, .val (.s 0), none⟩, ⟨some 22, .val (.s 0), none⟩, ⟨some 23, .len (.s 22), none⟩, ⟨some 24, .call 9 [.s 21, .s 23], none⟩, ⟨some 8, .val (.s 24), none⟩]
abbrev c3r6 : List SOpr := [⟨some 25, .call 6 [], none⟩, ⟨some 26, .un .not (.s 25), none⟩, ⟨some 27, .val (.s 26), none⟩, ⟨some 28, .val (.s 5), some (27, false)⟩, ⟨some 29, .val (.s 1), some (27, false)⟩, ⟨some 30, .call 10 [.s 28, .s 29], some (27, false)⟩, ⟨some 31, .val (.s 0), some (27, false)⟩, ⟨some 32, .val (.s 1), some (27, false)⟩, ⟨some 33, .call 9 [.s 31, .s 32], some (27, false)⟩, ⟨some 34, .eqb true (.s 30) (.s 33), some (27, false)⟩, ⟨some 35, .pick (.s 27) (.k (.bool true)) (.s 34), none⟩, ⟨some 36, .val (.s 35), none⟩, ⟨some 37, .val (.s 7), some (36, false)⟩, ⟨some 38, .bin .eql (.s 37) (.k (.int .i64 0)), some (36, false)⟩, ⟨some 39, .val (.s 8), some (36, false)⟩, ⟨some 40, .eqb true (.s 38) (.s 39), some (36, false)⟩, ⟨some 41, .pick (.s 36) (.k (.bool true)) (.s 40), none⟩, ⟨some 42, .val (.s 41), none⟩, ⟨some 43, .val (.s 5), some (42, false)⟩, ⟨some 44, .val (.s 0), some (42, false)⟩, ⟨some 45, .call 11 [.s 43, .s 44, .k (.int .i64 71)], some (42, false)⟩, ⟨some 46, .un .not (.s 45), some (42, false)⟩, ⟨some 47, .pick (.s 42) (.k (.bool true)) (.s 46), none⟩]
abbrev c3r7 : List SOpr := [⟨some 4, .val (.k (.bool false)), none⟩]
abbrev c3r8 : List SOpr := [⟨some 48, .val (.s 8), none⟩, ⟨some 49, .un .not (.s 48), none⟩]
abbrev c3r9 : List SOpr := [⟨some 50, .val (.s 7), none⟩, ⟨some 51, .bin .eql (.s 50) (.k (.int .i64 1)), none⟩, ⟨some 52, .val (.s 51), none⟩, ⟨some 53, .val (.s 6), some (52, true)⟩, ⟨some 54, .len (.s 53), some (52, true)⟩, ⟨some 55, .bin .eql (.s 54) (.k (.int .i64 0)), some (52, true)⟩, ⟨some 56, .pick (.s 52) (.s 55) (.k (.bool false)), none⟩, ⟨some 4, .val (.s 56), none⟩]
abbrev c3r10 : List SOpr := [⟨some 9, .val (.k (.int .i64 0)), none⟩]
abbrev c3r11 : List SOpr := [⟨some 57, .val (.s 9), none⟩, ⟨some 58, .val (.s 0), none⟩, ⟨some 59, .len (.s 58), none⟩, ⟨some 60, .bin .lss (.s 57) (.s 59), none⟩]
abbrev c3r12 : List SOpr := [⟨some 63, .val (.s 6), none⟩, ⟨some 64, .len (.s 63), none⟩, ⟨some 65, .val (.s 0), none⟩, ⟨some 66, .len (.s 65), none⟩, ⟨some 67, .bin .neq (.s 64) (.s 66), none⟩, ⟨some 68, .val (.s 67), none⟩, ⟨some 69, .val (.s 6), some (68, false)⟩, ⟨some 70, .val (.s 0), some (68, false)⟩, ⟨some 71, .val (.s 9), some (68, false)⟩, ⟨some 72, .ixs 1 (.s 70) (.s 71), some (68, false)⟩, ⟨some 73, .ld none (.s 72), some (68, false)⟩, ⟨some 74, .ixs 1 (.s 69) (.s 73), some (68, false)⟩, ⟨some 75, .ld none (.s 74), some (68, false)⟩, ⟨some 76, .val (.s 9), some (68, false)⟩, ⟨some 77, .bin .neq (.s 75) (.s 76), some (68, false)⟩, ⟨some 78, .pick (.s 68) (.k (.bool true)) (.s 77), none⟩]
abbrev c3r13 : List SOpr := [⟨some 4, .val (.k (.bool false)), none⟩]
abbrev c3r14 : List SOpr := [⟨some 61, .val (.s 9), none⟩, ⟨some 62, .bin .add (.s 61) (.k (.int .i64 1)), none⟩, ⟨some 9, .val (.s 62), none⟩]
abbrev c3r15 : List SOpr := [⟨some 4, .val (.k (.bool true)), none⟩]
-- c3: hansom/hansomlaw14.RanksTell
abbrev c3 : SFn := ⟨.seq (.reg c3r0 [4]) (.seq (.seq (.reg c3r1 [12]) (.cond (.s 12) (.seq (.reg c3r2 [4]) .ret) .skip)) (.seq (.reg c3r3 [5]) (.seq (.reg c3r4 [6, 7]) (.seq (.reg c3r5 [8]) (.seq (.seq (.reg c3r6 [47]) (.cond (.s 47) (.seq (.reg c3r7 [4]) .ret) .skip)) (.seq (.seq (.reg c3r8 [49]) (.cond (.s 49) (.seq (.reg c3r9 [4]) .ret) .skip)) (.seq (.seq (.reg c3r10 [9]) (.block 0 (.loop (.seq (.seq (.reg c3r11 [60]) (.cond (.s 60) .skip (.exit 0))) (.seq (.block 1 (.seq (.reg c3r12 [78]) (.cond (.s 78) (.seq (.reg c3r13 [4]) .ret) .skip))) (.reg c3r14 [9])))))) (.seq (.reg c3r15 [4]) .ret)))))))), 79, [(4, none)]⟩
theorem e3 : eraseFn Go.Proofs.Try.prog Go.Proofs.Try.f3 = some c3 := by kernel_rfl
abbrev c4r0 : List SOpr := [⟨some 2, .val (.k (.bool false)), none⟩]
abbrev c4r1 : List SOpr := [⟨some 7, .val (.s 0), none⟩, ⟨some 8, .len (.s 7), none⟩, ⟨some 9, .bin .gtr (.s 8) (.k (.int .i64 1000)), none⟩]
abbrev c4r2 : List SOpr := [⟨some 10, .call 6 [], none⟩, ⟨some 2, .val (.s 10), none⟩]
abbrev c4r3 : List SOpr := [⟨some 12, .val (.s 0), none⟩, ⟨some 13, .call 8 [.s 12], none⟩, ⟨some 11, .val (.s 13), none⟩, ⟨some 14, .ext (.s 11) 0, none⟩, ⟨some 15, .ext (.s 11) 1, none⟩, ⟨some 3, .val (.s 14), none⟩, ⟨some 4, .val (.s 15), none⟩]
abbrev c4r4 : List SOpr := [⟨some 16, .call 6 [], none⟩, ⟨some 17, .un .not (.s 16), none⟩, ⟨some 18, .val (.s 17), none⟩, ⟨some 19, .val (.s 4), some (18, false)⟩, ⟨some 20, .bin .neq (.s 19) (.k (.int .i64 0)), some (18, false)⟩, ⟨some 21, .pick (.s 18) (.k (.bool true)) (.s 20), none⟩]
abbrev c4r5 : List SOpr := [⟨some 22, .call 6 [], none⟩, ⟨some 2, .val (.s 22), none⟩]
abbrev c4r6 : List SOpr := [⟨some 24, .val (.s 3), none⟩, ⟨some 25, .call 8 [.s 24], none⟩, ⟨some 23, .val (.s 25), none⟩, ⟨some 26, .ext (.s 23) 0, none⟩, ⟨some 27, .ext (.s 23) 1, none⟩, ⟨some 5, .val (.s 26), none⟩, ⟨some 6, .val (.s 27), none⟩]
abbrev c4r7 : List SOpr := [⟨some 28, .val (.s 3), none⟩, ⟨some 29, .val (.s 0), none⟩, ⟨some 30, .len (.s 29), none⟩, ⟨some 31, .call 10 [.s 28, .s 30], none⟩, ⟨some 32, .val (.s 31), none⟩, ⟨some 33, .val (.s 6), some (32, true)⟩, ⟨some 34, .bin .eql (.s 33) (.k (.int .i64 0)), some (32, true)⟩, ⟨some 35, .pick (.s 32) (.s 34) (.k (.bool false)), none⟩, ⟨some 36, .val (.s 35), none⟩, ⟨some 37, .val (.s 5), some (36, true)⟩, ⟨some 38, .val (.s 0), some (36, true)⟩, ⟨some 39, .call 12 [.s 37, .s 38], some (36, true)⟩, ⟨some 40, .pick (.s 36) (.s 39) (.k (.bool false)), none⟩, ⟨some 2, .val (.s 40), none⟩]
-- c4: hansom/hansomlaw14.RanksBack
abbrev c4 : SFn := ⟨.seq (.reg c4r0 [2]) (.seq (.seq (.reg c4r1 [9]) (.cond (.s 9) (.seq (.reg c4r2 [2]) .ret) .skip)) (.seq (.reg c4r3 [3, 4]) (.seq (.seq (.reg c4r4 [21]) (.cond (.s 21) (.seq (.reg c4r5 [2]) .ret) .skip)) (.seq (.reg c4r6 [5, 6]) (.seq (.reg c4r7 [2]) .ret))))), 41, [(2, none)]⟩
theorem e4 : eraseFn Go.Proofs.Try.prog Go.Proofs.Try.f4 = some c4 := by kernel_rfl
abbrev c5r0 : List SOpr := [⟨some 2, .val (.k (.bool false)), none⟩]
abbrev c5r1 : List SOpr := [⟨some 11, .val (.s 0), none⟩, ⟨some 12, .len (.s 11), none⟩, ⟨some 13, .bin .gtr (.s 12) (.k (.int .i64 500)), none⟩, ⟨some 14, .val (.s 13), none⟩, ⟨some 15, .call 6 [], some (14, false)⟩, ⟨some 16, .un .not (.s 15), some (14, false)⟩, ⟨some 17, .pick (.s 14) (.k (.bool true)) (.s 16), none⟩]
abbrev c5r2 : List SOpr := [⟨some 18, .call 6 [], none⟩, ⟨some 2, .val (.s 18), none⟩]
abbrev c5r3 : List SOpr := [⟨some 19, .val (.s 0), none⟩, ⟨some 20, .len (.s 19), none⟩, ⟨some 3, .val (.s 20), none⟩]
abbrev c5r4 : List SOpr := [⟨some 21, .val (.s 3), none⟩, ⟨some 22, .mks 1 8 [.int .i64 0] (.s 21) (.s 21), none⟩, ⟨some 4, .val (.s 22), none⟩]
abbrev c5r5 : List SOpr := [⟨some 23, .val (.s 0), none⟩, ⟨some 24, .len (.s 23), none⟩, ⟨some 25, .val (.k (.int .i64 0)), none⟩]
abbrev c5r6 : List SOpr := [⟨some 26, .bin .lss (.s 25) (.s 24), none⟩]
abbrev c5r7 : List SOpr := [⟨some 27, .val (.s 25), none⟩, ⟨some 5, .val (.s 27), none⟩]
abbrev c5r8 : List SOpr := [⟨some 28, .val (.s 4), none⟩, ⟨some 29, .val (.s 3), none⟩, ⟨some 30, .bin .sub (.s 29) (.k (.int .i64 1)), none⟩, ⟨some 31, .val (.s 5), none⟩, ⟨some 32, .bin .sub (.s 30) (.s 31), none⟩, ⟨some 33, .val (.s 0), none⟩, ⟨some 34, .val (.s 5), none⟩, ⟨some 35, .ixs 1 (.s 33) (.s 34), none⟩, ⟨some 36, .ld none (.s 35), none⟩, ⟨some 37, .ixs 1 (.s 28) (.s 32), none⟩, ⟨none, .st 1 (.s 37) (.s 36), none⟩]
abbrev c5r9 : List SOpr := [⟨some 38, .bin .add (.s 25) (.k (.int .i64 1)), none⟩, ⟨some 25, .val (.s 38), none⟩]
abbrev c5r10 : List SOpr := [⟨some 40, .val (.s 0), none⟩, ⟨some 41, .call 8 [.s 40], none⟩, ⟨some 39, .val (.s 41), none⟩, ⟨some 42, .ext (.s 39) 0, none⟩, ⟨some 43, .ext (.s 39) 1, none⟩, ⟨some 6, .val (.s 42), none⟩, ⟨some 7, .val (.s 43), none⟩]
abbrev c5r11 : List SOpr := [⟨some 45, .val (.s 4), none⟩, ⟨some 46, .call 8 [.s 45], none⟩, ⟨some 44, .val (.s 46), none⟩, ⟨some 47, .ext (.s 44) 0, none⟩, ⟨some 48, .ext (.s 44) 1, none⟩, ⟨some 8, .val (.s 47), none⟩, ⟨some 9, .val (.s 48), none⟩]
abbrev c5r12 : List SOpr := [⟨some 49, .val (.s 7), none⟩, ⟨some 50, .val (.s 9), none⟩, ⟨some 51, .bin .neq (.s 49) (.s 50), none⟩, ⟨some 52, .val (.s 51), none⟩, ⟨some 53, .val (.s 7), some (52, false)⟩, ⟨some 54, .bin .neq (.s 53) (.k (.int .i64 0)), some (52, false)⟩, ⟨some 55, .pick (.s 52) (.k (.bool true)) (.s 54), none⟩]
abbrev c5r13 : List SOpr := [⟨some 56, .val (.s 7), none⟩, ⟨some 57, .val (.s 9), none⟩, ⟨some 58, .bin .eql (.s 56) (.s 57), none⟩, ⟨some 59, .val (.s 58), none⟩, ⟨some 60, .val (.s 6), some (59, true)⟩, ⟨some 61, .len (.s 60), some (59, true)⟩, ⟨some 62, .val (.s 8), some (59, true)⟩, ⟨some 63, .len (.s 62), some (59, true)⟩, ⟨some 64, .bin .add (.s 61) (.s 63), some (59, true)⟩, ⟨some 65, .bin .eql (.s 64) (.k (.int .i64 0)), some (59, true)⟩, ⟨some 66, .pick (.s 59) (.s 65) (.k (.bool false)), none⟩, ⟨some 2, .val (.s 66), none⟩]
abbrev c5r14 : List SOpr := [⟨some 10, .val (.k (.int .i64 0)), none⟩]
abbrev c5r15 : List SOpr := [⟨some 67, .val (.s 10), none⟩, ⟨some 68, .val (.s 3), none⟩, ⟨some 69, .bin .lss (.s 67) (.s 68), none⟩]
abbrev c5r16 : List SOpr := [⟨some 72, .val (.s 6), none⟩, ⟨some 73, .val (.s 10), none⟩, ⟨some 74, .ixs 1 (.s 72) (.s 73), none⟩, ⟨some 75, .ld none (.s 74), none⟩, ⟨some 76, .val (.s 8), none⟩, ⟨some 77, .val (.s 10), none⟩, ⟨some 78, .ixs 1 (.s 76) (.s 77), none⟩, ⟨some 79, .ld none (.s 78), none⟩, ⟨some 80, .bin .add (.s 75) (.s 79), none⟩, ⟨some 81, .val (.s 3), none⟩, ⟨some 82, .bin .sub (.s 81) (.k (.int .i64 1)), none⟩, ⟨some 83, .bin .neq (.s 80) (.s 82), none⟩]
abbrev c5r17 : List SOpr := [⟨some 2, .val (.k (.bool false)), none⟩]
abbrev c5r18 : List SOpr := [⟨some 70, .val (.s 10), none⟩, ⟨some 71, .bin .add (.s 70) (.k (.int .i64 1)), none⟩, ⟨some 10, .val (.s 71), none⟩]
abbrev c5r19 : List SOpr := [⟨some 2, .val (.k (.bool true)), none⟩]
-- c5: hansom/hansomlaw14.RanksTurned
abbrev c5 : SFn := ⟨.seq (.reg c5r0 [2]) (.seq (.seq (.reg c5r1 [17]) (.cond (.s 17) (.seq (.reg c5r2 [2]) .ret) .skip)) (.seq (.reg c5r3 [3]) (.seq (.reg c5r4 [4]) (.seq (.seq (.reg c5r5 [24, 25]) (.block 0 (.loop (.seq (.reg c5r6 [26]) (.seq (.cond (.s 26) .skip (.exit 0)) (.seq (.block 1 (.seq (.reg c5r7 [5]) (.reg c5r8 []))) (.reg c5r9 [25]))))))) (.seq (.reg c5r10 [6, 7]) (.seq (.reg c5r11 [8, 9]) (.seq (.seq (.reg c5r12 [55]) (.cond (.s 55) (.seq (.reg c5r13 [2]) .ret) .skip)) (.seq (.seq (.reg c5r14 [10]) (.block 2 (.loop (.seq (.seq (.reg c5r15 [69]) (.cond (.s 69) .skip (.exit 2))) (.seq (.block 3 (.seq (.drw c5r16 [83] (.rd 0 (.rd 1 (.rd 2 (.rd 3 (.rd 4 (.rd 5 (.rd 6 (.rd 7 (.rd 8 (.rd 9 (.rd 10 (.rd 11 .done))))))))))))) (.cond (.s 83) (.seq (.reg c5r17 [2]) .ret) .skip))) (.reg c5r18 [10])))))) (.seq (.reg c5r19 [2]) .ret))))))))), 84, [(2, none)]⟩
theorem e5 : eraseFn Go.Proofs.Try.prog Go.Proofs.Try.f5 = some c5 := by kernel_rfl
abbrev c6r0 : List SOpr := [⟨some 0, .val (.k (.bool false)), none⟩]
abbrev c6r1 : List SOpr := [⟨some 4, .bldS 1 3 [.int .i64 0, .int .i64 0, .int .i64 0] [(0, .k (.int .i64 2)), (1, .k (.int .i64 0)), (2, .k (.int .i64 1))], none⟩, ⟨some 5, .call 8 [.s 4], none⟩, ⟨some 3, .val (.s 5), none⟩, ⟨some 6, .ext (.s 3) 0, none⟩, ⟨some 7, .ext (.s 3) 1, none⟩, ⟨some 1, .val (.s 6), none⟩, ⟨some 2, .val (.s 7), none⟩]
abbrev c6r2 : List SOpr := [⟨some 8, .val (.s 2), none⟩, ⟨some 9, .bin .eql (.s 8) (.k (.int .i64 0)), none⟩, ⟨some 10, .val (.s 9), none⟩, ⟨some 11, .val (.s 1), some (10, true)⟩, ⟨some 12, .len (.s 11), some (10, true)⟩, ⟨some 13, .bin .eql (.s 12) (.k (.int .i64 3)), some (10, true)⟩, ⟨some 14, .pick (.s 10) (.s 13) (.k (.bool false)), none⟩, ⟨some 15, .val (.s 14), none⟩, ⟨some 16, .val (.s 1), some (15, true)⟩, ⟨some 17, .ixs 1 (.s 16) (.k (.int .i64 0)), some (15, true)⟩, ⟨some 18, .ld none (.s 17), some (15, true)⟩, ⟨some 19, .bin .eql (.s 18) (.k (.int .i64 1)), some (15, true)⟩, ⟨some 20, .pick (.s 15) (.s 19) (.k (.bool false)), none⟩, ⟨some 21, .val (.s 20), none⟩, ⟨some 22, .bldS 1 2 [.int .i64 0, .int .i64 0] [(0, .k (.int .i64 1)), (1, .k (.int .i64 0))], some (21, true)⟩, ⟨some 23, .call 10 [.s 22, .k (.int .i64 2)], some (21, true)⟩, ⟨some 24, .pick (.s 21) (.s 23) (.k (.bool false)), none⟩, ⟨some 0, .val (.s 24), none⟩]
-- c6: hansom/hansomlaw14.awake
abbrev c6 : SFn := ⟨.seq (.reg c6r0 [0]) (.seq (.reg c6r1 [1, 2]) (.seq (.reg c6r2 [0]) .ret)), 25, [(0, none)]⟩
theorem e6 : eraseFn Go.Proofs.Try.prog Go.Proofs.Try.f6 = some c6 := by kernel_rfl
abbrev c7r0 : List SOpr := [⟨some 4, .val (.k (.slice none 0 0)), none⟩]
abbrev c7r1 : List SOpr := [⟨some 8, .val (.s 0), none⟩, ⟨some 9, .len (.s 8), none⟩, ⟨some 10, .bin .add (.s 9) (.k (.int .i64 3)), none⟩, ⟨some 11, .mks 1 8 [.int .i64 0] (.k (.int .i64 0)) (.s 10), none⟩, ⟨some 5, .val (.s 11), none⟩]
abbrev c7r2 : List SOpr := [⟨some 12, .val (.s 5), none⟩, ⟨some 13, .val (.s 0), none⟩, ⟨some 14, .app 1 8 [.int .i64 0] (.s 12) (.s 13), none⟩, ⟨some 5, .val (.s 14), none⟩]
abbrev c7r3 : List SOpr := [⟨some 15, .val (.s 5), none⟩, ⟨some 16, .val (.s 0), none⟩, ⟨some 17, .len (.s 16), none⟩, ⟨some 18, .bin .add (.s 17) (.k (.int .i64 3)), none⟩, ⟨some 19, .slc 1 (.s 15) none (some (.s 18)) none, none⟩, ⟨some 6, .val (.s 19), none⟩]
abbrev c7r4 : List SOpr := [⟨some 20, .val (.s 0), none⟩, ⟨some 21, .len (.s 20), none⟩, ⟨some 7, .val (.s 21), none⟩]
abbrev c7r5 : List SOpr := [⟨some 22, .val (.s 7), none⟩, ⟨some 23, .val (.s 6), none⟩, ⟨some 24, .len (.s 23), none⟩, ⟨some 25, .bin .lss (.s 22) (.s 24), none⟩]
abbrev c7r6 : List SOpr := [⟨some 28, .val (.s 6), none⟩, ⟨some 29, .val (.s 7), none⟩, ⟨some 30, .val (.s 1), none⟩, ⟨some 31, .ixs 1 (.s 28) (.s 29), none⟩, ⟨none, .st 1 (.s 31) (.s 30), none⟩]
abbrev c7r7 : List SOpr := [⟨some 26, .val (.s 7), none⟩, ⟨some 27, .bin .add (.s 26) (.k (.int .i64 1)), none⟩, ⟨some 7, .val (.s 27), none⟩]
abbrev c7r8 : List SOpr := [⟨some 32, .val (.s 5), none⟩, ⟨some 4, .val (.s 32), none⟩]
-- c7: hansom/hansomhelp.Own[int]
abbrev c7 : SFn := ⟨.seq (.reg c7r0 [4]) (.seq (.reg c7r1 [5]) (.seq (.reg c7r2 [5]) (.seq (.reg c7r3 [6]) (.seq (.seq (.reg c7r4 [7]) (.block 0 (.loop (.seq (.seq (.reg c7r5 [25]) (.cond (.s 25) .skip (.exit 0))) (.seq (.block 1 (.reg c7r6 [])) (.reg c7r7 [7])))))) (.seq (.reg c7r8 [4]) .ret))))), 33, [(4, none)]⟩
theorem e7 : eraseFn Go.Proofs.Try.prog Go.Proofs.Try.f7 = some c7 := by kernel_rfl
abbrev c8r0 : List SOpr := [⟨some 2, .val (.k (.slice none 0 0)), none⟩, ⟨some 3, .val (.k (.int .i64 0)), none⟩]
abbrev c8r1 : List SOpr := [⟨some 7, .val (.s 0), none⟩, ⟨some 8, .val (.s 0), none⟩, ⟨some 9, .len (.s 8), none⟩, ⟨some 10, .call 10 [.s 7, .s 9], none⟩, ⟨some 11, .un .not (.s 10), none⟩]
abbrev c8r2 : List SOpr := [⟨some 2, .val (.k (.slice none 0 0)), none⟩, ⟨some 3, .val (.k (.int .i64 1)), none⟩]
abbrev c8r3 : List SOpr := [⟨some 12, .val (.s 0), none⟩, ⟨some 13, .len (.s 12), none⟩, ⟨some 14, .mks 1 8 [.int .i64 0] (.s 13) (.s 13), none⟩, ⟨some 4, .val (.s 14), none⟩]
abbrev c8r4 : List SOpr := [⟨some 15, .val (.s 0), none⟩, ⟨some 16, .len (.s 15), none⟩, ⟨some 17, .val (.k (.int .i64 0)), none⟩]
abbrev c8r5 : List SOpr := [⟨some 18, .bin .lss (.s 17) (.s 16), none⟩]
abbrev c8r6 : List SOpr := [⟨some 19, .val (.s 17), none⟩, ⟨some 20, .ixs 1 (.s 15) (.s 17), none⟩, ⟨some 21, .ld none (.s 20), none⟩, ⟨some 5, .val (.s 19), none⟩, ⟨some 6, .val (.s 21), none⟩]
abbrev c8r7 : List SOpr := [⟨some 22, .val (.s 4), none⟩, ⟨some 23, .val (.s 6), none⟩, ⟨some 24, .val (.s 5), none⟩, ⟨some 25, .ixs 1 (.s 22) (.s 23), none⟩, ⟨none, .st 1 (.s 25) (.s 24), none⟩]
abbrev c8r8 : List SOpr := [⟨some 26, .bin .add (.s 17) (.k (.int .i64 1)), none⟩, ⟨some 17, .val (.s 26), none⟩]
abbrev c8r9 : List SOpr := [⟨some 27, .val (.s 4), none⟩, ⟨some 2, .val (.s 27), none⟩, ⟨some 3, .val (.k (.int .i64 0)), none⟩]
-- c8: hansom/ranks.Of
abbrev c8 : SFn := ⟨.seq (.reg c8r0 [2, 3]) (.seq (.seq (.reg c8r1 [11]) (.cond (.s 11) (.seq (.reg c8r2 [2, 3]) .ret) .skip)) (.seq (.reg c8r3 [4]) (.seq (.seq (.reg c8r4 [15, 16, 17]) (.block 0 (.loop (.seq (.reg c8r5 [18]) (.seq (.cond (.s 18) .skip (.exit 0)) (.seq (.block 1 (.seq (.reg c8r6 [5, 6]) (.reg c8r7 []))) (.reg c8r8 [17]))))))) (.seq (.reg c8r9 [2, 3]) .ret)))), 28, [(2, none), (3, none)]⟩
theorem e8 : eraseFn Go.Proofs.Try.prog Go.Proofs.Try.f8 = some c8 := by kernel_rfl
abbrev c9r0 : List SOpr := [⟨some 4, .val (.k (.bool false)), none⟩]
abbrev c9r1 : List SOpr := [⟨some 7, .val (.s 0), none⟩, ⟨some 8, .len (.s 7), none⟩, ⟨some 9, .val (.s 1), none⟩, ⟨some 10, .bin .neq (.s 8) (.s 9), none⟩]
abbrev c9r2 : List SOpr := [⟨some 4, .val (.k (.bool false)), none⟩]
abbrev c9r3 : List SOpr := [⟨some 11, .val (.s 0), none⟩, ⟨some 12, .len (.s 11), none⟩, ⟨some 13, .mks 1 1 [.bool false] (.s 12) (.s 12), none⟩, ⟨some 5, .val (.s 13), none⟩]
abbrev c9r4 : List SOpr := [⟨some 6, .val (.k (.int .i64 0)), none⟩]
abbrev c9r5 : List SOpr := [⟨some 14, .val (.s 6), none⟩, ⟨some 15, .val (.s 0), none⟩, ⟨some 16, .len (.s 15), none⟩, ⟨some 17, .bin .lss (.s 14) (.s 16), none⟩]
abbrev c9r6 : List SOpr := [⟨some 20, .val (.s 0), none⟩, ⟨some 21, .val (.s 6), none⟩, ⟨some 22, .ixs 1 (.s 20) (.s 21), none⟩, ⟨some 23, .ld none (.s 22), none⟩, ⟨some 24, .bin .lss (.s 23) (.k (.int .i64 0)), none⟩, ⟨some 25, .val (.s 24), none⟩, ⟨some 26, .val (.s 0), some (25, false)⟩, ⟨some 27, .val (.s 6), some (25, false)⟩, ⟨some 28, .ixs 1 (.s 26) (.s 27), some (25, false)⟩, ⟨some 29, .ld none (.s 28), some (25, false)⟩, ⟨some 30, .val (.s 0), some (25, false)⟩, ⟨some 31, .len (.s 30), some (25, false)⟩, ⟨some 32, .bin .geq (.s 29) (.s 31), some (25, false)⟩, ⟨some 33, .pick (.s 25) (.k (.bool true)) (.s 32), none⟩, ⟨some 34, .val (.s 33), none⟩, ⟨some 35, .val (.s 5), some (34, false)⟩, ⟨some 36, .val (.s 0), some (34, false)⟩, ⟨some 37, .val (.s 6), some (34, false)⟩, ⟨some 38, .ixs 1 (.s 36) (.s 37), some (34, false)⟩, ⟨some 39, .ld none (.s 38), some (34, false)⟩, ⟨some 40, .ixs 1 (.s 35) (.s 39), some (34, false)⟩, ⟨some 41, .ld none (.s 40), some (34, false)⟩, ⟨some 42, .pick (.s 34) (.k (.bool true)) (.s 41), none⟩]
abbrev c9r7 : List SOpr := [⟨some 4, .val (.k (.bool false)), none⟩]
abbrev c9r8 : List SOpr := [⟨some 43, .val (.s 5), none⟩, ⟨some 44, .val (.s 0), none⟩, ⟨some 45, .val (.s 6), none⟩, ⟨some 46, .ixs 1 (.s 44) (.s 45), none⟩, ⟨some 47, .ld none (.s 46), none⟩, ⟨some 48, .ixs 1 (.s 43) (.s 47), none⟩, ⟨none, .st 1 (.s 48) (.k (.bool true)), none⟩]
abbrev c9r9 : List SOpr := [⟨some 18, .val (.s 6), none⟩, ⟨some 19, .bin .add (.s 18) (.k (.int .i64 1)), none⟩, ⟨some 6, .val (.s 19), none⟩]
abbrev c9r10 : List SOpr := [⟨some 4, .val (.k (.bool true)), none⟩]
-- c9: hansom/hansomlaw14.right
abbrev c9 : SFn := ⟨.seq (.reg c9r0 [4]) (.seq (.seq (.reg c9r1 [10]) (.cond (.s 10) (.seq (.reg c9r2 [4]) .ret) .skip)) (.seq (.reg c9r3 [5]) (.seq (.seq (.reg c9r4 [6]) (.block 0 (.loop (.seq (.seq (.reg c9r5 [17]) (.cond (.s 17) .skip (.exit 0))) (.seq (.block 1 (.seq (.seq (.reg c9r6 [42]) (.cond (.s 42) (.seq (.reg c9r7 [4]) .ret) .skip)) (.reg c9r8 []))) (.reg c9r9 [6])))))) (.seq (.reg c9r10 [4]) .ret)))), 49, [(4, none)]⟩
theorem e9 : eraseFn Go.Proofs.Try.prog Go.Proofs.Try.f9 = some c9 := by kernel_rfl
abbrev c10r0 : List SOpr := [⟨some 4, .val (.k (.bool false)), none⟩]
abbrev c10r1 : List SOpr := [⟨some 8, .val (.s 0), none⟩, ⟨some 9, .len (.s 8), none⟩, ⟨some 10, .val (.s 1), none⟩, ⟨some 11, .bin .neq (.s 9) (.s 10), none⟩]
abbrev c10r2 : List SOpr := [⟨some 4, .val (.k (.bool false)), none⟩]
abbrev c10r3 : List SOpr := [⟨some 12, .val (.s 1), none⟩, ⟨some 13, .mks 1 1 [.bool false] (.s 12) (.s 12), none⟩, ⟨some 5, .val (.s 13), none⟩]
abbrev c10r4 : List SOpr := [⟨some 14, .val (.s 0), none⟩, ⟨some 15, .len (.s 14), none⟩, ⟨some 16, .val (.k (.int .i64 0)), none⟩]
abbrev c10r5 : List SOpr := [⟨some 17, .bin .lss (.s 16) (.s 15), none⟩]
abbrev c10r6 : List SOpr := [⟨some 18, .ixs 1 (.s 14) (.s 16), none⟩, ⟨some 19, .ld none (.s 18), none⟩, ⟨some 7, .val (.s 19), none⟩]
abbrev c10r7 : List SOpr := [⟨some 20, .val (.s 7), none⟩, ⟨some 21, .bin .lss (.s 20) (.k (.int .i64 0)), none⟩, ⟨some 22, .val (.s 21), none⟩, ⟨some 23, .val (.s 7), some (22, false)⟩, ⟨some 24, .val (.s 1), some (22, false)⟩, ⟨some 25, .bin .geq (.s 23) (.s 24), some (22, false)⟩, ⟨some 26, .pick (.s 22) (.k (.bool true)) (.s 25), none⟩, ⟨some 27, .val (.s 26), none⟩, ⟨some 28, .val (.s 5), some (27, false)⟩, ⟨some 29, .val (.s 7), some (27, false)⟩, ⟨some 30, .ixs 1 (.s 28) (.s 29), some (27, false)⟩, ⟨some 31, .ld none (.s 30), some (27, false)⟩, ⟨some 32, .pick (.s 27) (.k (.bool true)) (.s 31), none⟩]
abbrev c10r8 : List SOpr := [⟨some 4, .val (.k (.bool false)), none⟩]
abbrev c10r9 : List SOpr := [⟨some 33, .val (.s 5), none⟩, ⟨some 34, .val (.s 7), none⟩, ⟨some 35, .ixs 1 (.s 33) (.s 34), none⟩, ⟨none, .st 1 (.s 35) (.k (.bool true)), none⟩]
abbrev c10r10 : List SOpr := [⟨some 36, .bin .add (.s 16) (.k (.int .i64 1)), none⟩, ⟨some 16, .val (.s 36), none⟩]
abbrev c10r11 : List SOpr := [⟨some 4, .val (.k (.bool true)), none⟩]
-- c10: hansom/ranks.Right
abbrev c10 : SFn := ⟨.seq (.reg c10r0 [4]) (.seq (.seq (.reg c10r1 [11]) (.cond (.s 11) (.seq (.reg c10r2 [4]) .ret) .skip)) (.seq (.reg c10r3 [5]) (.seq (.seq (.reg c10r4 [14, 15, 16]) (.block 0 (.loop (.seq (.reg c10r5 [17]) (.seq (.cond (.s 17) .skip (.exit 0)) (.seq (.block 1 (.seq (.reg c10r6 [7]) (.seq (.seq (.reg c10r7 [32]) (.cond (.s 32) (.seq (.reg c10r8 [4]) .ret) .skip)) (.reg c10r9 [])))) (.reg c10r10 [16]))))))) (.seq (.reg c10r11 [4]) .ret)))), 37, [(4, none)]⟩
theorem e10 : eraseFn Go.Proofs.Try.prog Go.Proofs.Try.f10 = some c10 := by kernel_rfl
abbrev c11r0 : List SOpr := [⟨some 6, .val (.k (.bool false)), none⟩]
abbrev c11r1 : List SOpr := [⟨some 9, .val (.s 0), none⟩, ⟨some 10, .val (.s 1), none⟩, ⟨some 11, .call 12 [.s 9, .s 10], none⟩, ⟨some 12, .un .not (.s 11), none⟩, ⟨some 13, .val (.s 12), none⟩, ⟨some 14, .val (.s 0), some (13, false)⟩, ⟨some 15, .cap (.s 14), some (13, false)⟩, ⟨some 16, .val (.s 1), some (13, false)⟩, ⟨some 17, .len (.s 16), some (13, false)⟩, ⟨some 18, .bin .add (.s 17) (.k (.int .i64 3)), some (13, false)⟩, ⟨some 19, .bin .lss (.s 15) (.s 18), some (13, false)⟩, ⟨some 20, .pick (.s 13) (.k (.bool true)) (.s 19), none⟩]
abbrev c11r2 : List SOpr := [⟨some 6, .val (.k (.bool false)), none⟩]
abbrev c11r3 : List SOpr := [⟨some 21, .val (.s 0), none⟩, ⟨some 22, .val (.s 1), none⟩, ⟨some 23, .len (.s 22), none⟩, ⟨some 24, .bin .add (.s 23) (.k (.int .i64 3)), none⟩, ⟨some 25, .slc 1 (.s 21) none (some (.s 24)) none, none⟩, ⟨some 7, .val (.s 25), none⟩]
abbrev c11r4 : List SOpr := [⟨some 26, .val (.s 1), none⟩, ⟨some 27, .len (.s 26), none⟩, ⟨some 8, .val (.s 27), none⟩]
abbrev c11r5 : List SOpr := [⟨some 28, .val (.s 8), none⟩, ⟨some 29, .val (.s 7), none⟩, ⟨some 30, .len (.s 29), none⟩, ⟨some 31, .bin .lss (.s 28) (.s 30), none⟩]
abbrev c11r6 : List SOpr := [⟨some 34, .val (.s 7), none⟩, ⟨some 35, .val (.s 8), none⟩, ⟨some 36, .ixs 1 (.s 34) (.s 35), none⟩, ⟨some 37, .ld none (.s 36), none⟩, ⟨some 38, .val (.s 2), none⟩, ⟨some 39, .bin .neq (.s 37) (.s 38), none⟩]
abbrev c11r7 : List SOpr := [⟨some 6, .val (.k (.bool false)), none⟩]
abbrev c11r8 : List SOpr := [⟨some 32, .val (.s 8), none⟩, ⟨some 33, .bin .add (.s 32) (.k (.int .i64 1)), none⟩, ⟨some 8, .val (.s 33), none⟩]
abbrev c11r9 : List SOpr := [⟨some 6, .val (.k (.bool true)), none⟩]
-- c11: hansom/hansomhelp.Kept[int]
abbrev c11 : SFn := ⟨.seq (.reg c11r0 [6]) (.seq (.seq (.reg c11r1 [20]) (.cond (.s 20) (.seq (.reg c11r2 [6]) .ret) .skip)) (.seq (.reg c11r3 [7]) (.seq (.seq (.reg c11r4 [8]) (.block 0 (.loop (.seq (.seq (.reg c11r5 [31]) (.cond (.s 31) .skip (.exit 0))) (.seq (.block 1 (.seq (.reg c11r6 [39]) (.cond (.s 39) (.seq (.reg c11r7 [6]) .ret) .skip))) (.reg c11r8 [8])))))) (.seq (.reg c11r9 [6]) .ret)))), 40, [(6, none)]⟩
theorem e11 : eraseFn Go.Proofs.Try.prog Go.Proofs.Try.f11 = some c11 := by kernel_rfl
abbrev c12r0 : List SOpr := [⟨some 4, .val (.k (.bool false)), none⟩]
abbrev c12r1 : List SOpr := [⟨some 5, .val (.s 0), none⟩, ⟨some 6, .val (.s 1), none⟩, ⟨some 7, .call 13 [.s 5, .s 6, .k (.func (.func 14) #[] #[])], none⟩, ⟨some 4, .val (.s 7), none⟩]
-- c12: hansom/hansomhelp.Plain[int]
abbrev c12 : SFn := ⟨.seq (.reg c12r0 [4]) (.seq (.reg c12r1 [4]) .ret), 8, [(4, none)]⟩
theorem e12 : eraseFn Go.Proofs.Try.prog Go.Proofs.Try.f12 = some c12 := by kernel_rfl
abbrev c13r0 : List SOpr := [⟨some 6, .val (.k (.bool false)), none⟩]
abbrev c13r1 : List SOpr := [⟨some 8, .val (.s 0), none⟩, ⟨some 9, .len (.s 8), none⟩, ⟨some 10, .val (.s 1), none⟩, ⟨some 11, .len (.s 10), none⟩, ⟨some 12, .bin .neq (.s 9) (.s 11), none⟩]
abbrev c13r2 : List SOpr := [⟨some 6, .val (.k (.bool false)), none⟩]
abbrev c13r3 : List SOpr := [⟨some 7, .val (.k (.int .i64 0)), none⟩]
abbrev c13r4 : List SOpr := [⟨some 13, .val (.s 7), none⟩, ⟨some 14, .val (.s 0), none⟩, ⟨some 15, .len (.s 14), none⟩, ⟨some 16, .bin .lss (.s 13) (.s 15), none⟩]
abbrev c13r5 : List SOpr := [⟨some 19, .val (.s 2), none⟩, ⟨some 20, .val (.s 0), none⟩, ⟨some 21, .val (.s 7), none⟩, ⟨some 22, .ixs 1 (.s 20) (.s 21), none⟩, ⟨some 23, .ld none (.s 22), none⟩, ⟨some 24, .val (.s 1), none⟩, ⟨some 25, .val (.s 7), none⟩, ⟨some 26, .ixs 1 (.s 24) (.s 25), none⟩, ⟨some 27, .ld none (.s 26), none⟩, ⟨some 28, .calld (.s 19) [.s 23, .s 27], none⟩, ⟨some 29, .un .not (.s 28), none⟩]
abbrev c13r6 : List SOpr := [⟨some 6, .val (.k (.bool false)), none⟩]
abbrev c13r7 : List SOpr := [⟨some 17, .val (.s 7), none⟩, ⟨some 18, .bin .add (.s 17) (.k (.int .i64 1)), none⟩, ⟨some 7, .val (.s 18), none⟩]
abbrev c13r8 : List SOpr := [⟨some 6, .val (.k (.bool true)), none⟩]
-- c13: hansom/hansomhelp.Same[int]
abbrev c13 : SFn := ⟨.seq (.reg c13r0 [6]) (.seq (.seq (.reg c13r1 [12]) (.cond (.s 12) (.seq (.reg c13r2 [6]) .ret) .skip)) (.seq (.seq (.reg c13r3 [7]) (.block 0 (.loop (.seq (.seq (.reg c13r4 [16]) (.cond (.s 16) .skip (.exit 0))) (.seq (.block 1 (.seq (.drw c13r5 [29] (.rd 0 (.rd 1 (.rd 2 (.rd 3 (.rd 4 (.rd 5 (.rd 6 (.rd 7 (.rd 8 (.eff 9 true (.rd 10 .done) .nomore))))))))))) (.cond (.s 29) (.seq (.reg c13r6 [6]) .ret) .skip))) (.reg c13r7 [7])))))) (.seq (.reg c13r8 [6]) .ret))), 30, [(6, none)]⟩
theorem e13 : eraseFn Go.Proofs.Try.prog Go.Proofs.Try.f13 = some c13 := by kernel_rfl
abbrev c14r0 : List SOpr := [⟨some 4, .val (.k (.bool false)), none⟩]
abbrev c14r1 : List SOpr := [⟨some 5, .val (.s 0), none⟩, ⟨some 6, .val (.s 1), none⟩, ⟨some 7, .bin .eql (.s 5) (.s 6), none⟩, ⟨some 4, .val (.s 7), none⟩]
-- c14: hansom/hansomhelp.Plain[int]$1
abbrev c14 : SFn := ⟨.seq (.reg c14r0 [4]) (.seq (.reg c14r1 [4]) .ret), 8, [(4, none)]⟩
theorem e14 : eraseFn Go.Proofs.Try.prog Go.Proofs.Try.f14 = some c14 := by kernel_rfl

end Go.SL
