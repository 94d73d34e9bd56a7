/-
 The functions' code in the evaluator's form, printed by a program of ours from the loaded program, and checked against it.
 Conditions: none.
-/
import Derived.Test.YtioojmlhmhgeeaaProg
import Derived.KernelRfl
import Derived.Test.YtioojmlhmhgeeaaEZ
namespace Go.Proofs.Ytioojmlhmhgeeaa
open Go Go.E2
noncomputable section
abbrev f_quietuslaw21_DiskStops : FuncId := 6
abbrev f_disk_New : FuncId := 11
abbrev f_disk_Disk_Write : FuncId := 13
abbrev f_quietusref21_Filled : FuncId := 14
abbrev f_disk_Disk_Read : FuncId := 17
abbrev f_quietuslaw21_sanity : FuncId := 21
abbrev f_disk_Disk_Crash : FuncId := 26
abbrev f_disk_Disk_Size : FuncId := 27
abbrev f_disk_Disk_Down : FuncId := 28
abbrev f_disk_Disk_Steps : FuncId := 29
abbrev f_disk_Disk_Open : FuncId := 30
abbrev f_disk_Disk_Arm : FuncId := 32
abbrev f_disk_Disk_Sync : FuncId := 33
abbrev f_disk_Disk_Flip : FuncId := 34
abbrev f_disk_Disk_Rot : FuncId := 35
abbrev f_disk_Disk_check : FuncId := 47
abbrev f_disk_Disk_step : FuncId := 48
abbrev f_quietusref21_Same : FuncId := 53
abbrev f_disk_Disk_sectors : FuncId := 61
abbrev f_disk_found : FuncId := 62
abbrev f_slices_Repeat_int_int : FuncId := 63
abbrev f_slices_Sort_int_int : FuncId := 74
abbrev f_math_bits_Mul : FuncId := 75
abbrev f_math_bits_Mul32 : FuncId := 83
abbrev f_math_bits_Mul64 : FuncId := 84
-- loop 0: [7, 8, 9, 10, 61]
-- loop 0: [0, 1, 2, 7, 8, 10, 12, 42, 43, 44, 63]
-- loop 1: [0, 1, 2, 7, 8, 9, 42, 43, 44]
-- loop 2: [8, 9, 18, 140]
abbrev quietuslaw21_DiskStops_r0 : List AI := [
 ⟨some 6, .mv true (.c (.bool false)), none⟩]
abbrev quietuslaw21_DiskStops_r1 : List AI := [
 ⟨some 24, .mv false (.t 0), none⟩,
 ⟨some 25, .len false (.t 24), none⟩,
 ⟨some 26, .bin .gtr (.t 25) (.c (.int .i64 40)), none⟩,
 ⟨some 27, .mv false (.t 26), none⟩,
 ⟨some 28, .mv false (.t 2), some (27, false)⟩,
 ⟨some 29, .len false (.t 28), some (27, false)⟩,
 ⟨some 30, .bin .gtr (.t 29) (.c (.int .i64 20)), some (27, false)⟩,
 ⟨some 31, .pick (.t 27) (.c (.bool true)) (.t 30), none⟩]
abbrev quietuslaw21_DiskStops_r2 : List AI := [
 ⟨some 32, .call (.c (.fn f_quietuslaw21_sanity)) [] 0, none⟩,
 ⟨some 6, .mv true (.t 32), none⟩]
abbrev quietuslaw21_DiskStops_r3 : List AI := [
 ⟨some 33, .call (.c (.fn f_disk_New)) [(.c (.int .i64 16))] 0, none⟩,
 ⟨some 7, .mv true (.t 33), none⟩]
abbrev quietuslaw21_DiskStops_r4 : List AI := [
 ⟨some 34, .mv false (.t 7), none⟩,
 ⟨some 35, .gd (.pnil 0 false) [(.t 34)], none⟩]
abbrev quietuslaw21_DiskStops_r5 : List AI := [
 ⟨some 6, .mv true (.c (.bool false)), none⟩]
abbrev quietuslaw21_DiskStops_r6 : List AI := [
 ⟨some 36, .mv false (.t 7), none⟩,
 ⟨some 37, .mv false (.t 1), none⟩,
 ⟨some 38, .conv .i64 (.t 37), none⟩,
 ⟨some 39, .call (.c (.fn f_disk_Disk_Arm)) [(.t 36), (.t 38)] 0, none⟩]
abbrev quietuslaw21_DiskStops_r7 : List AI := [
 ⟨some 40, .gn .mkM [], none⟩,
 ⟨some 41, .gn .mkM [], none⟩,
 ⟨some 8, .mv true (.t 40), none⟩,
 ⟨some 9, .mv true (.t 41), none⟩]
abbrev quietuslaw21_DiskStops_r8 : List AI := [
 ⟨some 42, .mv false (.t 0), none⟩,
 ⟨some 43, .len false (.t 42), none⟩,
 ⟨some 44, .mv false (.c (.int .i64 0)), none⟩]
abbrev quietuslaw21_DiskStops_r9 : List AI := [
 ⟨some 45, .bin .lss (.t 44) (.t 43), none⟩]
abbrev quietuslaw21_DiskStops_r10 : List AI := [
 ⟨some 46, .mv false (.t 44), none⟩,
 ⟨some 47, .iaddr 3 (.t 42) (.t 44), none⟩,
 ⟨some 48, .load true 3 (.t 47) .any, none⟩,
 ⟨some 11, .alloc [(.int .i64 0), (.int .i64 0), (.int .i64 0)], none⟩,
 ⟨some 10, .mv true (.t 46), none⟩,
 ⟨none, .store 3 (.t 11) (.t 48) .any, none⟩]
abbrev quietuslaw21_DiskStops_r11 : List AI := [
 ⟨some 12, .mv true (.c (.int .i64 0)), none⟩]
abbrev quietuslaw21_DiskStops_r12 : List AI := [
 ⟨some 49, .faddr 1 (.t 11), none⟩,
 ⟨some 50, .load false 1 (.t 49) .any, none⟩,
 ⟨some 51, .bin .rem (.t 50) (.c (.int .i64 16)), none⟩,
 ⟨some 52, .bin .add (.t 51) (.c (.int .i64 16)), none⟩,
 ⟨some 53, .bin .rem (.t 52) (.c (.int .i64 16)), none⟩,
 ⟨some 13, .mv true (.t 53), none⟩]
abbrev quietuslaw21_DiskStops_r13 : List AI := [
 ⟨some 54, .faddr 0 (.t 11), none⟩,
 ⟨some 55, .load false 1 (.t 54) .any, none⟩,
 ⟨some 56, .bin .rem (.t 55) (.c (.int .i64 3)), none⟩,
 ⟨some 57, .bin .eql (.t 56) (.c (.int .i64 0)), none⟩]
abbrev quietuslaw21_DiskStops_r14 : List AI := [
 ⟨some 58, .mv false (.t 7), none⟩,
 ⟨some 59, .call (.c (.fn f_disk_Disk_Sync)) [(.t 58)] 0, none⟩,
 ⟨some 12, .mv true (.t 59), none⟩]
abbrev quietuslaw21_DiskStops_r15 : List AI := [
 ⟨some 60, .mv false (.t 12), none⟩,
 ⟨some 61, .bin .eql (.t 60) (.c (.int .i64 0)), none⟩]
abbrev quietuslaw21_DiskStops_r16 : List AI := [
 ⟨some 62, .mv false (.t 9), none⟩,
 ⟨some 63, .gn .rng [(.t 62)], none⟩]
abbrev quietuslaw21_DiskStops_r17 : List AI := [
 ⟨some 64, .gn .nxt [(.t 63)], none⟩,
 ⟨some 65, .ext (.t 64) 0, none⟩]
abbrev quietuslaw21_DiskStops_r18 : List AI := [
 ⟨some 66, .gd .entry [(.t 63)], none⟩,
 ⟨some 67, .ext (.t 66) 0, none⟩,
 ⟨some 68, .ext (.t 66) 1, none⟩,
 ⟨some 15, .alloc (zr 64 (.int .u8 0)), none⟩,
 ⟨some 14, .mv true (.t 67), none⟩,
 ⟨none, .store 64 (.t 15) (.t 68) .any, none⟩]
abbrev quietuslaw21_DiskStops_r19 : List AI := [
 ⟨some 69, .mv false (.t 8), none⟩,
 ⟨some 70, .mv false (.t 14), none⟩,
 ⟨some 71, .load true 64 (.t 15) .any, none⟩,
 ⟨none, .gd (.mset [.i]) [(.t 69), (.t 70), (.t 71)], none⟩]
abbrev quietuslaw21_DiskStops_l0 : ACode := .seq (.reg false quietuslaw21_DiskStops_r17) (.seq (.cond (.t 65) (.skip) (.exit 2)) (.block 3 (.seq (.reg false quietuslaw21_DiskStops_r18) (.reg false quietuslaw21_DiskStops_r19))))
abbrev quietuslaw21_DiskStops_r20 : List AI := [
 ⟨some 72, .gn .mkM [], none⟩,
 ⟨some 9, .mv true (.t 72), none⟩]
abbrev quietuslaw21_DiskStops_b0 : ACode := .seq (.seq (.reg false quietuslaw21_DiskStops_r16) (.block 2 (.loop quietuslaw21_DiskStops_l0))) (.reg false quietuslaw21_DiskStops_r20)
abbrev quietuslaw21_DiskStops_b1 : ACode := .seq (.reg false quietuslaw21_DiskStops_r14) (.seq (.reg false quietuslaw21_DiskStops_r15) (.cond (.t 61) (quietuslaw21_DiskStops_b0) (.skip)))
abbrev quietuslaw21_DiskStops_r21 : List AI := [
 ⟨some 73, .mv false (.t 7), none⟩,
 ⟨some 74, .mv false (.t 13), none⟩,
 ⟨some 75, .faddr 2 (.t 11), none⟩,
 ⟨some 76, .load false 1 (.t 75) .any, none⟩,
 ⟨some 77, .call (.c (.fn f_quietusref21_Filled)) [(.t 76)] 0, none⟩,
 ⟨some 78, .call (.c (.fn f_disk_Disk_Write)) [(.t 73), (.t 74), (.t 77)] 0, none⟩,
 ⟨some 12, .mv true (.t 78), none⟩]
abbrev quietuslaw21_DiskStops_r22 : List AI := [
 ⟨some 79, .mv false (.t 12), none⟩,
 ⟨some 80, .bin .eql (.t 79) (.c (.int .i64 0)), none⟩]
abbrev quietuslaw21_DiskStops_r23 : List AI := [
 ⟨some 81, .mv false (.t 9), none⟩,
 ⟨some 82, .mv false (.t 13), none⟩,
 ⟨some 83, .faddr 2 (.t 11), none⟩,
 ⟨some 84, .load false 1 (.t 83) .any, none⟩,
 ⟨some 85, .call (.c (.fn f_quietusref21_Filled)) [(.t 84)] 0, none⟩,
 ⟨none, .gd (.mset [.i]) [(.t 81), (.t 82), (.t 85)], none⟩]
abbrev quietuslaw21_DiskStops_b2 : ACode := .seq (.reg false quietuslaw21_DiskStops_r21) (.seq (.reg false quietuslaw21_DiskStops_r22) (.cond (.t 80) (.reg false quietuslaw21_DiskStops_r23) (.skip)))
abbrev quietuslaw21_DiskStops_r24 : List AI := [
 ⟨some 86, .mv false (.t 12), none⟩,
 ⟨some 87, .bin .eql (.t 86) (.c (.int .i64 0)), none⟩,
 ⟨some 88, .mv false (.t 10), none⟩,
 ⟨some 89, .mv false (.t 1), none⟩,
 ⟨some 90, .conv .i64 (.t 89), none⟩,
 ⟨some 91, .bin .lss (.t 88) (.t 90), none⟩,
 ⟨some 92, .eqb true (.t 87) (.t 91), none⟩,
 ⟨some 93, .mv false (.t 92), none⟩,
 ⟨some 94, .mv false (.t 12), some (93, false)⟩,
 ⟨some 95, .bin .neq (.t 94) (.c (.int .i64 0)), some (93, false)⟩,
 ⟨some 96, .mv false (.t 95), some (93, false)⟩,
 ⟨some 97, .mv false (.t 12), some (96, true)⟩,
 ⟨some 98, .bin .neq (.t 97) (.c (.int .i64 12)), some (96, true)⟩,
 ⟨some 99, .pick (.t 96) (.t 98) (.c (.bool false)), some (93, false)⟩,
 ⟨some 100, .pick (.t 93) (.c (.bool true)) (.t 99), none⟩]
abbrev quietuslaw21_DiskStops_r25 : List AI := [
 ⟨some 6, .mv true (.c (.bool false)), none⟩]
abbrev quietuslaw21_DiskStops_r26 : List AI := [
 ⟨some 101, .bin .add (.t 44) (.c (.int .i64 1)), none⟩,
 ⟨some 44, .mv false (.t 101), none⟩]
abbrev quietuslaw21_DiskStops_l1 : ACode := .seq (.reg false quietuslaw21_DiskStops_r9) (.seq (.cond (.t 45) (.skip) (.exit 0)) (.seq (.block 1 (.seq (.reg false quietuslaw21_DiskStops_r10) (.seq (.reg false quietuslaw21_DiskStops_r11) (.seq (.reg false quietuslaw21_DiskStops_r12) (.seq (.seq (.reg false quietuslaw21_DiskStops_r13) (.cond (.t 57) (quietuslaw21_DiskStops_b1) (quietuslaw21_DiskStops_b2))) (.seq (.reg false quietuslaw21_DiskStops_r24) (.cond (.t 100) (.seq (.reg false quietuslaw21_DiskStops_r25) (.ret)) (.skip)))))))) (.reg false quietuslaw21_DiskStops_r26)))
abbrev quietuslaw21_DiskStops_r27 : List AI := [
 ⟨some 103, .mv false (.t 7), none⟩,
 ⟨some 104, .call (.c (.fn f_disk_Disk_Read)) [(.t 103), (.c (.int .i64 3))] 0, none⟩,
 ⟨some 102, .mv false (.t 104), none⟩,
 ⟨some 105, .ext (.t 102) 0, none⟩,
 ⟨some 106, .ext (.t 102) 1, none⟩,
 ⟨some 16, .alloc (zr 64 (.int .u8 0)), none⟩,
 ⟨none, .store 64 (.t 16) (.t 105) .any, none⟩,
 ⟨some 17, .mv true (.t 106), none⟩]
abbrev quietuslaw21_DiskStops_r28 : List AI := [
 ⟨some 107, .mv false (.t 17), none⟩,
 ⟨some 108, .bin .eql (.t 107) (.c (.int .i64 12)), none⟩,
 ⟨some 109, .mv false (.t 0), none⟩,
 ⟨some 110, .len false (.t 109), none⟩,
 ⟨some 111, .mv false (.t 1), none⟩,
 ⟨some 112, .conv .i64 (.t 111), none⟩,
 ⟨some 113, .bin .gtr (.t 110) (.t 112), none⟩,
 ⟨some 114, .eqb true (.t 108) (.t 113), none⟩,
 ⟨some 115, .mv false (.t 114), none⟩,
 ⟨some 116, .mv false (.t 7), some (115, false)⟩,
 ⟨some 117, .call (.c (.fn f_disk_Disk_Down)) [(.t 116)] 0, some (115, false)⟩,
 ⟨some 118, .mv false (.t 0), some (115, false)⟩,
 ⟨some 119, .len false (.t 118), some (115, false)⟩,
 ⟨some 120, .mv false (.t 1), some (115, false)⟩,
 ⟨some 121, .conv .i64 (.t 120), some (115, false)⟩,
 ⟨some 122, .bin .gtr (.t 119) (.t 121), some (115, false)⟩,
 ⟨some 123, .eqb true (.t 117) (.t 122), some (115, false)⟩,
 ⟨some 124, .pick (.t 115) (.c (.bool true)) (.t 123), none⟩,
 ⟨some 125, .mv false (.t 124), none⟩,
 ⟨some 126, .mv false (.t 7), some (125, false)⟩,
 ⟨some 127, .call (.c (.fn f_disk_Disk_Steps)) [(.t 126)] 0, some (125, false)⟩,
 ⟨some 128, .mv false (.t 0), some (125, false)⟩,
 ⟨some 129, .len false (.t 128), some (125, false)⟩,
 ⟨some 130, .mv false (.t 1), some (125, false)⟩,
 ⟨some 131, .conv .i64 (.t 130), some (125, false)⟩,
 ⟨some 132, .mn (.t 129) (.t 131), some (125, false)⟩,
 ⟨some 133, .bin .neq (.t 127) (.t 132), some (125, false)⟩,
 ⟨some 134, .pick (.t 125) (.c (.bool true)) (.t 133), none⟩]
abbrev quietuslaw21_DiskStops_r29 : List AI := [
 ⟨some 6, .mv true (.c (.bool false)), none⟩]
abbrev quietuslaw21_DiskStops_r30 : List AI := [
 ⟨some 135, .mv false (.t 7), none⟩,
 ⟨some 136, .mv false (.t 2), none⟩,
 ⟨some 137, .call (.c (.fn f_disk_Disk_Crash)) [(.t 135), (.t 136)] 0, none⟩,
 ⟨some 18, .mv true (.t 137), none⟩]
abbrev quietuslaw21_DiskStops_r31 : List AI := [
 ⟨some 138, .mv false (.t 18), none⟩,
 ⟨some 139, .gd (.pnil 0 false) [(.t 138)], none⟩]
abbrev quietuslaw21_DiskStops_r32 : List AI := [
 ⟨some 6, .mv true (.c (.bool false)), none⟩]
abbrev quietuslaw21_DiskStops_r33 : List AI := [
 ⟨some 140, .mv false (.c (.int .i64 0)), none⟩]
abbrev quietuslaw21_DiskStops_r34 : List AI := [
 ⟨some 141, .bin .lss (.t 140) (.c (.int .i64 16)), none⟩]
abbrev quietuslaw21_DiskStops_r35 : List AI := [
 ⟨some 142, .mv false (.t 140), none⟩,
 ⟨some 19, .mv true (.t 142), none⟩]
abbrev quietuslaw21_DiskStops_r36 : List AI := [
 ⟨some 144, .mv false (.t 9), none⟩,
 ⟨some 145, .mv false (.t 19), none⟩,
 ⟨some 146, .gd (.mlook [.i] (.agg (zr 64 (.int .u8 0))) true) [(.t 144), (.t 145)], none⟩,
 ⟨some 143, .mv false (.t 146), none⟩,
 ⟨some 147, .ext (.t 143) 0, none⟩,
 ⟨some 148, .ext (.t 143) 1, none⟩,
 ⟨some 20, .alloc (zr 64 (.int .u8 0)), none⟩,
 ⟨none, .store 64 (.t 20) (.t 147) .any, none⟩,
 ⟨some 21, .mv true (.t 148), none⟩]
abbrev quietuslaw21_DiskStops_r37 : List AI := [
 ⟨some 149, .mv false (.t 21), none⟩]
abbrev quietuslaw21_DiskStops_r38 : List AI := [
 ⟨some 151, .mv false (.t 18), none⟩,
 ⟨some 152, .mv false (.t 19), none⟩,
 ⟨some 153, .call (.c (.fn f_disk_Disk_Read)) [(.t 151), (.t 152)] 0, none⟩,
 ⟨some 150, .mv false (.t 153), none⟩,
 ⟨some 154, .ext (.t 150) 0, none⟩,
 ⟨some 155, .ext (.t 150) 1, none⟩,
 ⟨some 22, .alloc (zr 64 (.int .u8 0)), none⟩,
 ⟨none, .store 64 (.t 22) (.t 154) .any, none⟩,
 ⟨some 23, .mv true (.t 155), none⟩]
abbrev quietuslaw21_DiskStops_r39 : List AI := [
 ⟨some 156, .mv false (.t 23), none⟩,
 ⟨some 157, .bin .neq (.t 156) (.c (.int .i64 0)), none⟩,
 ⟨some 158, .mv false (.t 157), none⟩,
 ⟨some 159, .load true 64 (.t 22) .any, some (158, false)⟩,
 ⟨some 160, .mv false (.t 8), some (158, false)⟩,
 ⟨some 161, .mv false (.t 19), some (158, false)⟩,
 ⟨some 162, .gd (.mlook [.i] (.agg (zr 64 (.int .u8 0))) false) [(.t 160), (.t 161)], some (158, false)⟩,
 ⟨some 163, .eqs true (kr 64 .i) (.t 159) (.t 162), some (158, false)⟩,
 ⟨some 164, .pick (.t 158) (.c (.bool true)) (.t 163), none⟩]
abbrev quietuslaw21_DiskStops_r40 : List AI := [
 ⟨some 6, .mv true (.c (.bool false)), none⟩]
abbrev quietuslaw21_DiskStops_r41 : List AI := [
 ⟨some 165, .bin .add (.t 140) (.c (.int .i64 1)), none⟩,
 ⟨some 140, .mv false (.t 165), none⟩]
abbrev quietuslaw21_DiskStops_l2 : ACode := .seq (.reg false quietuslaw21_DiskStops_r34) (.seq (.cond (.t 141) (.skip) (.exit 4)) (.seq (.block 5 (.seq (.reg false quietuslaw21_DiskStops_r35) (.seq (.seq (.reg false quietuslaw21_DiskStops_r36) (.seq (.reg false quietuslaw21_DiskStops_r37) (.cond (.t 149) (.exit 5) (.skip)))) (.seq (.reg false quietuslaw21_DiskStops_r38) (.seq (.reg false quietuslaw21_DiskStops_r39) (.cond (.t 164) (.seq (.reg false quietuslaw21_DiskStops_r40) (.ret)) (.skip))))))) (.reg false quietuslaw21_DiskStops_r41)))
abbrev quietuslaw21_DiskStops_r42 : List AI := [
 ⟨some 166, .call (.c (.fn f_quietuslaw21_sanity)) [] 0, none⟩,
 ⟨some 6, .mv true (.t 166), none⟩]
abbrev quietuslaw21_DiskStops_c : ACode := .seq (.reg false quietuslaw21_DiskStops_r0) (.seq (.seq (.reg false quietuslaw21_DiskStops_r1) (.cond (.t 31) (.seq (.reg false quietuslaw21_DiskStops_r2) (.ret)) (.skip))) (.seq (.reg false quietuslaw21_DiskStops_r3) (.seq (.seq (.reg false quietuslaw21_DiskStops_r4) (.cond (.t 35) (.seq (.reg false quietuslaw21_DiskStops_r5) (.ret)) (.skip))) (.seq (.reg false quietuslaw21_DiskStops_r6) (.seq (.reg false quietuslaw21_DiskStops_r7) (.seq (.seq (.reg false quietuslaw21_DiskStops_r8) (.block 0 (.loop quietuslaw21_DiskStops_l1))) (.seq (.seq (.reg false quietuslaw21_DiskStops_r27) (.seq (.reg false quietuslaw21_DiskStops_r28) (.cond (.t 134) (.seq (.reg false quietuslaw21_DiskStops_r29) (.ret)) (.skip)))) (.seq (.reg false quietuslaw21_DiskStops_r30) (.seq (.seq (.reg false quietuslaw21_DiskStops_r31) (.cond (.t 139) (.seq (.reg false quietuslaw21_DiskStops_r32) (.ret)) (.skip))) (.seq (.seq (.reg false quietuslaw21_DiskStops_r33) (.block 4 (.loop quietuslaw21_DiskStops_l2))) (.seq (.reg false quietuslaw21_DiskStops_r42) (.ret))))))))))))
def quietuslaw21_DiskStops_F : AFunc := ⟨167, [.tmp 6], quietuslaw21_DiskStops_c⟩
theorem quietuslaw21_DiskStops_cp : compile Try.prog [] f_quietuslaw21_DiskStops = some quietuslaw21_DiskStops_F := by kernel_rfl
abbrev disk_New_r0 : List AI := [
 ⟨some 2, .mv true (.c .nilP), none⟩]
abbrev disk_New_r1 : List AI := [
 ⟨some 3, .mv false (.t 0), none⟩,
 ⟨some 4, .bin .lss (.t 3) (.c (.int .i64 1)), none⟩,
 ⟨some 5, .mv false (.t 4), none⟩,
 ⟨some 6, .mv false (.t 0), some (5, false)⟩,
 ⟨some 7, .bin .gtr (.t 6) (.c (.int .i64 65536)), some (5, false)⟩,
 ⟨some 8, .pick (.t 5) (.c (.bool true)) (.t 7), none⟩]
abbrev disk_New_r2 : List AI := [
 ⟨some 2, .mv true (.c .nilP), none⟩]
abbrev disk_New_r3 : List AI := [
 ⟨some 9, .mv false (.t 0), none⟩,
 ⟨some 10, .gn (.mkSl 65 65 (zr 64 (.int .u8 0) ++ [(.bool false)])) [(.t 9), (.t 9)], none⟩,
 ⟨some 11, .gn .mkM [], none⟩,
 ⟨some 12, .build [.nilS, .nilM, (.int .i64 0), (.int .i64 0), (.bool false)] [(0, 1, (.t 10)), (1, 1, (.t 11)), (3, 1, (.c (.int .i64 (-1))))], none⟩,
 ⟨some 13, .gn (.box 5) [(.t 12)], none⟩,
 ⟨some 2, .mv true (.t 13), none⟩]
abbrev disk_New_c : ACode := .seq (.reg false disk_New_r0) (.seq (.seq (.reg false disk_New_r1) (.cond (.t 8) (.seq (.reg false disk_New_r2) (.ret)) (.skip))) (.seq (.reg false disk_New_r3) (.ret)))
def disk_New_F : AFunc := ⟨14, [.tmp 2], disk_New_c⟩
theorem disk_New_cp : compile Try.prog [13] f_disk_New = some disk_New_F := by kernel_rfl
abbrev disk_Disk_Write_r0 : List AI := [
 ⟨some 5, .box 64 (.t 2), none⟩,
 ⟨some 6, .mv true (.c (.int .i64 0)), none⟩]
abbrev disk_Disk_Write_r1 : List AI := [
 ⟨some 8, .mv false (.t 0), none⟩,
 ⟨some 9, .mv false (.t 1), none⟩,
 ⟨some 10, .call (.c (.fn f_disk_Disk_check)) [(.t 8), (.t 9)] 0, none⟩,
 ⟨some 7, .mv true (.t 10), none⟩]
abbrev disk_Disk_Write_r2 : List AI := [
 ⟨some 11, .mv false (.t 7), none⟩,
 ⟨some 12, .bin .eql (.t 11) (.c (.int .i64 0)), none⟩]
abbrev disk_Disk_Write_r3 : List AI := [
 ⟨some 13, .mv false (.t 0), none⟩,
 ⟨some 14, .call (.c (.fn f_disk_Disk_step)) [(.t 13)] 0, none⟩,
 ⟨some 7, .mv true (.t 14), none⟩]
abbrev disk_Disk_Write_r4 : List AI := [
 ⟨some 15, .mv false (.t 7), none⟩,
 ⟨some 16, .bin .eql (.t 15) (.c (.int .i64 0)), none⟩]
abbrev disk_Disk_Write_r5 : List AI := [
 ⟨some 17, .mv false (.t 0), none⟩,
 ⟨some 18, .nilck (.t 17), none⟩,
 ⟨some 19, .faddr 1 (.t 18), none⟩,
 ⟨some 20, .load false 1 (.t 19) .foreign, none⟩,
 ⟨some 21, .mv false (.t 1), none⟩,
 ⟨some 22, .mv false (.t 0), none⟩,
 ⟨some 23, .nilck (.t 22), none⟩,
 ⟨some 24, .faddr 1 (.t 23), none⟩,
 ⟨some 25, .load false 1 (.t 24) .foreign, none⟩,
 ⟨some 26, .mv false (.t 1), none⟩,
 ⟨some 27, .gd (.mlook [.i] .nilS false) [(.t 25), (.t 26)], none⟩,
 ⟨some 28, .load true 64 (.t 5) (.site 5), none⟩,
 ⟨some 29, .mkslice 64 1 (.agg (zr 64 (.int .u8 0))) [(0, (.t 28))], none⟩,
 ⟨some 30, .kp [(.ld false 1 (.t 19))] (.appG 64 64 (zr 64 (.int .u8 0)) (.t 27) (.t 29)), none⟩,
 ⟨none, .gd (.mset [.i]) [(.t 20), (.t 21), (.t 30)], none⟩]
abbrev disk_Disk_Write_r6 : List AI := [
 ⟨some 31, .mv false (.t 7), none⟩,
 ⟨some 6, .mv true (.t 31), none⟩]
abbrev disk_Disk_Write_c : ACode := .seq (.reg false disk_Disk_Write_r0) (.seq (.reg false disk_Disk_Write_r1) (.seq (.seq (.reg false disk_Disk_Write_r2) (.cond (.t 12) (.reg false disk_Disk_Write_r3) (.skip))) (.seq (.seq (.reg false disk_Disk_Write_r4) (.cond (.t 16) (.reg true disk_Disk_Write_r5) (.skip))) (.seq (.reg false disk_Disk_Write_r6) (.ret)))))
def disk_Disk_Write_F : AFunc := ⟨32, [.tmp 6], disk_Disk_Write_c⟩
theorem disk_Disk_Write_cp : compile Try.prog [30] f_disk_Disk_Write = some disk_Disk_Write_F := by kernel_rfl
-- loop 0: [0, 2, 3, 4]
abbrev quietusref21_Filled_r0 : List AI := [
 ⟨some 2, .alloc (zr 64 (.int .u8 0)), none⟩]
abbrev quietusref21_Filled_r1 : List AI := [
 ⟨some 3, .alloc (zr 64 (.int .u8 0)), none⟩]
abbrev quietusref21_Filled_r2 : List AI := [
 ⟨some 4, .mv true (.c (.int .i64 0)), none⟩]
abbrev quietusref21_Filled_r3 : List AI := [
 ⟨some 5, .mv false (.t 4), none⟩,
 ⟨some 6, .bin .lss (.t 5) (.c (.int .i64 64)), none⟩]
abbrev quietusref21_Filled_r4 : List AI := [
 ⟨some 9, .mv false (.t 4), none⟩,
 ⟨some 10, .mv false (.t 0), none⟩,
 ⟨some 11, .conv .u8 (.t 10), none⟩,
 ⟨some 12, .iaddrA 64 1 (.t 3) (.t 9), none⟩,
 ⟨none, .store 1 (.t 12) (.t 11) .any, none⟩]
abbrev quietusref21_Filled_r5 : List AI := [
 ⟨some 7, .mv false (.t 4), none⟩,
 ⟨some 8, .bin .add (.t 7) (.c (.int .i64 1)), none⟩,
 ⟨some 4, .mv true (.t 8), none⟩]
abbrev quietusref21_Filled_l0 : ACode := .seq (.seq (.reg false quietusref21_Filled_r3) (.cond (.t 6) (.skip) (.exit 0))) (.seq (.block 1 (.reg false quietusref21_Filled_r4)) (.reg false quietusref21_Filled_r5))
abbrev quietusref21_Filled_r6 : List AI := [
 ⟨some 13, .load true 64 (.t 3) .any, none⟩,
 ⟨none, .store 64 (.t 2) (.t 13) .any, none⟩]
abbrev quietusref21_Filled_c : ACode := .seq (.reg false quietusref21_Filled_r0) (.seq (.reg false quietusref21_Filled_r1) (.seq (.seq (.reg false quietusref21_Filled_r2) (.block 0 (.loop quietusref21_Filled_l0))) (.seq (.reg false quietusref21_Filled_r6) (.ret))))
def quietusref21_Filled_F : AFunc := ⟨14, [.cell 2 true 64], quietusref21_Filled_c⟩
theorem quietusref21_Filled_cp : compile Try.prog [] f_quietusref21_Filled = some quietusref21_Filled_F := by kernel_rfl
abbrev disk_Disk_Read_r0 : List AI := [
 ⟨some 4, .alloc (zr 64 (.int .u8 0)), none⟩,
 ⟨some 5, .mv true (.c (.int .i64 0)), none⟩]
abbrev disk_Disk_Read_r1 : List AI := [
 ⟨some 8, .mv false (.t 0), none⟩,
 ⟨some 9, .mv false (.t 1), none⟩,
 ⟨some 10, .call (.c (.fn f_disk_Disk_check)) [(.t 8), (.t 9)] 0, none⟩,
 ⟨some 6, .mv true (.t 10), none⟩]
abbrev disk_Disk_Read_r2 : List AI := [
 ⟨some 11, .mv false (.t 6), none⟩,
 ⟨some 12, .bin .neq (.t 11) (.c (.int .i64 0)), none⟩]
abbrev disk_Disk_Read_r3 : List AI := [
 ⟨some 13, .build (zr 64 (.int .u8 0)) [], none⟩,
 ⟨some 14, .mv false (.t 6), none⟩,
 ⟨none, .store 64 (.t 4) (.t 13) .any, none⟩,
 ⟨some 5, .mv true (.t 14), none⟩]
abbrev disk_Disk_Read_r4 : List AI := [
 ⟨some 15, .mv false (.t 0), none⟩,
 ⟨some 16, .nilck (.t 15), none⟩,
 ⟨some 17, .faddr 1 (.t 16), none⟩,
 ⟨some 18, .load false 1 (.t 17) .any, none⟩,
 ⟨some 19, .mv false (.t 1), none⟩,
 ⟨some 20, .gd (.mlook [.i] .nilS false) [(.t 18), (.t 19)], none⟩,
 ⟨some 7, .mv true (.t 20), none⟩]
abbrev disk_Disk_Read_r5 : List AI := [
 ⟨some 21, .mv false (.t 7), none⟩,
 ⟨some 22, .len false (.t 21), none⟩,
 ⟨some 23, .bin .gtr (.t 22) (.c (.int .i64 0)), none⟩]
abbrev disk_Disk_Read_r6 : List AI := [
 ⟨some 24, .mv false (.t 7), none⟩,
 ⟨some 25, .mv false (.t 7), none⟩,
 ⟨some 26, .len false (.t 25), none⟩,
 ⟨some 27, .bin .sub (.t 26) (.c (.int .i64 1)), none⟩,
 ⟨some 28, .iaddr 64 (.t 24) (.t 27), none⟩,
 ⟨some 29, .load true 64 (.t 28) .any, none⟩,
 ⟨none, .store 64 (.t 4) (.t 29) .any, none⟩,
 ⟨some 5, .mv true (.c (.int .i64 0)), none⟩]
abbrev disk_Disk_Read_r7 : List AI := [
 ⟨some 30, .mv false (.t 0), none⟩,
 ⟨some 31, .nilck (.t 30), none⟩,
 ⟨some 32, .faddr 0 (.t 31), none⟩,
 ⟨some 33, .load false 1 (.t 32) .any, none⟩,
 ⟨some 34, .mv false (.t 1), none⟩,
 ⟨some 35, .iaddr 65 (.t 33) (.t 34), none⟩,
 ⟨some 36, .faddr 64 (.t 35), none⟩,
 ⟨some 37, .load false 1 (.t 36) .any, none⟩]
abbrev disk_Disk_Read_r8 : List AI := [
 ⟨some 38, .build (zr 64 (.int .u8 0)) [], none⟩,
 ⟨none, .store 64 (.t 4) (.t 38) .any, none⟩,
 ⟨some 5, .mv true (.c (.int .i64 14)), none⟩]
abbrev disk_Disk_Read_r9 : List AI := [
 ⟨some 39, .mv false (.t 0), none⟩,
 ⟨some 40, .nilck (.t 39), none⟩,
 ⟨some 41, .faddr 0 (.t 40), none⟩,
 ⟨some 42, .load false 1 (.t 41) .any, none⟩,
 ⟨some 43, .mv false (.t 1), none⟩,
 ⟨some 44, .iaddr 65 (.t 42) (.t 43), none⟩,
 ⟨some 45, .faddr 0 (.t 44), none⟩,
 ⟨some 46, .load true 64 (.t 45) .any, none⟩,
 ⟨none, .store 64 (.t 4) (.t 46) .any, none⟩,
 ⟨some 5, .mv true (.c (.int .i64 0)), none⟩]
abbrev disk_Disk_Read_c : ACode := .seq (.reg false disk_Disk_Read_r0) (.seq (.seq (.reg false disk_Disk_Read_r1) (.seq (.reg false disk_Disk_Read_r2) (.cond (.t 12) (.seq (.reg false disk_Disk_Read_r3) (.ret)) (.skip)))) (.seq (.seq (.reg false disk_Disk_Read_r4) (.seq (.reg false disk_Disk_Read_r5) (.cond (.t 23) (.seq (.reg false disk_Disk_Read_r6) (.ret)) (.skip)))) (.seq (.seq (.reg false disk_Disk_Read_r7) (.cond (.t 37) (.seq (.reg false disk_Disk_Read_r8) (.ret)) (.skip))) (.seq (.reg false disk_Disk_Read_r9) (.ret)))))
def disk_Disk_Read_F : AFunc := ⟨47, [.cell 4 true 64, .tmp 5], disk_Disk_Read_c⟩
theorem disk_Disk_Read_cp : compile Try.prog [] f_disk_Disk_Read = some disk_Disk_Read_F := by kernel_rfl
-- loop 0: [1, 2, 3, 4, 62, 63, 64]
abbrev quietuslaw21_sanity_r0 : List AI := [
 ⟨some 0, .mv true (.c (.bool false)), none⟩]
abbrev quietuslaw21_sanity_r1 : List AI := [
 ⟨some 17, .call (.c (.fn f_quietusref21_Filled)) [(.c (.int .i64 1))] 0, none⟩,
 ⟨some 18, .call (.c (.fn f_quietusref21_Filled)) [(.c (.int .i64 2))] 0, none⟩,
 ⟨some 1, .gn (.alloc (zr 64 (.int .u8 0))) [], none⟩,
 ⟨some 2, .alloc (zr 64 (.int .u8 0)), none⟩,
 ⟨none, .store 64 (.t 1) (.t 17) .any, none⟩,
 ⟨none, .store 64 (.t 2) (.t 18) .any, none⟩]
abbrev quietuslaw21_sanity_r2 : List AI := [
 ⟨some 19, .call (.c (.fn f_disk_New)) [(.c (.int .i64 4))] 0, none⟩,
 ⟨some 3, .mv true (.t 19), none⟩]
abbrev quietuslaw21_sanity_r3 : List AI := [
 ⟨some 20, .mv false (.t 3), none⟩,
 ⟨some 21, .gd (.pnil 0 false) [(.t 20)], none⟩,
 ⟨some 22, .mv false (.t 21), none⟩,
 ⟨some 23, .mv false (.t 3), some (22, false)⟩,
 ⟨some 24, .load true 64 (.t 1) .any, some (22, false)⟩,
 ⟨some 25, .call (.c (.fn f_disk_Disk_Write)) [(.t 23), (.c (.int .i64 2)), (.t 24)] 0, some (22, false)⟩,
 ⟨some 26, .bin .neq (.t 25) (.c (.int .i64 0)), some (22, false)⟩,
 ⟨some 27, .pick (.t 22) (.c (.bool true)) (.t 26), none⟩]
abbrev quietuslaw21_sanity_r4 : List AI := [
 ⟨some 0, .mv true (.c (.bool false)), none⟩]
abbrev quietuslaw21_sanity_r5 : List AI := [
 ⟨some 29, .mv false (.t 3), none⟩,
 ⟨some 30, .call (.c (.fn f_disk_Disk_Read)) [(.t 29), (.c (.int .i64 2))] 0, none⟩,
 ⟨some 28, .mv false (.t 30), none⟩,
 ⟨some 31, .ext (.t 28) 0, none⟩,
 ⟨some 32, .ext (.t 28) 1, none⟩,
 ⟨some 4, .alloc (zr 64 (.int .u8 0)), none⟩,
 ⟨none, .store 64 (.t 4) (.t 31) .any, none⟩,
 ⟨some 5, .mv true (.t 32), none⟩]
abbrev quietuslaw21_sanity_r6 : List AI := [
 ⟨some 33, .mv false (.t 5), none⟩,
 ⟨some 34, .bin .neq (.t 33) (.c (.int .i64 0)), none⟩,
 ⟨some 35, .mv false (.t 34), none⟩,
 ⟨some 36, .load true 64 (.t 4) .any, some (35, false)⟩,
 ⟨some 37, .load true 64 (.t 1) .any, some (35, false)⟩,
 ⟨some 38, .eqs true (kr 64 .i) (.t 36) (.t 37), some (35, false)⟩,
 ⟨some 39, .pick (.t 35) (.c (.bool true)) (.t 38), none⟩,
 ⟨some 40, .mv false (.t 39), none⟩,
 ⟨some 41, .mv false (.t 3), some (40, false)⟩,
 ⟨some 42, .call (.c (.fn f_disk_Disk_Open)) [(.t 41)] 0, some (40, false)⟩,
 ⟨some 43, .mkslice 1 1 (.int .i64 0) [(0, (.c (.int .i64 2)))], some (40, false)⟩,
 ⟨some 44, .call (.c (.fn f_quietusref21_Same)) [(.t 42), (.t 43)] 0, some (40, false)⟩,
 ⟨some 45, .not (.t 44), some (40, false)⟩,
 ⟨some 46, .pick (.t 40) (.c (.bool true)) (.t 45), none⟩,
 ⟨some 47, .mv false (.t 46), none⟩,
 ⟨some 48, .mv false (.t 3), some (47, false)⟩,
 ⟨some 49, .load true 64 (.t 2) .any, some (47, false)⟩,
 ⟨some 50, .call (.c (.fn f_disk_Disk_Write)) [(.t 48), (.c (.int .i64 2)), (.t 49)] 0, some (47, false)⟩,
 ⟨some 51, .bin .neq (.t 50) (.c (.int .i64 0)), some (47, false)⟩,
 ⟨some 52, .pick (.t 47) (.c (.bool true)) (.t 51), none⟩]
abbrev quietuslaw21_sanity_r7 : List AI := [
 ⟨some 0, .mv true (.c (.bool false)), none⟩]
abbrev quietuslaw21_sanity_r8 : List AI := [
 ⟨some 53, .load true 64 (.t 2) .any, none⟩,
 ⟨some 6, .gn (.alloc (zr 64 (.int .u8 0))) [], none⟩,
 ⟨none, .store 64 (.t 6) (.t 53) .any, none⟩]
abbrev quietuslaw21_sanity_r9 : List AI := [
 ⟨some 54, .gd (.arrS 1 64 true false false) [(.t 6), (.c (.int .i64 32))], none⟩,
 ⟨some 55, .gd (.arrS 1 64 false true false) [(.t 1), (.c (.int .i64 32))], none⟩,
 ⟨some 56, .copy 1 (.t 54) (.t 55), none⟩]
abbrev quietuslaw21_sanity_r10 : List AI := [
 ⟨some 57, .build (zr 64 (.int .u8 0)) [], none⟩,
 ⟨some 58, .load true 64 (.t 1) .any, none⟩,
 ⟨some 59, .load true 64 (.t 2) .any, none⟩,
 ⟨some 60, .build (zr 64 (.int .u8 0)) [], none⟩,
 ⟨some 61, .load true 64 (.t 6) .any, none⟩,
 ⟨some 62, .mkslice 64 5 (.agg (zr 64 (.int .u8 0))) [(0, (.t 57)), (1, (.t 58)), (2, (.t 59)), (3, (.t 60)), (4, (.t 61))], none⟩,
 ⟨some 63, .len false (.t 62), none⟩,
 ⟨some 64, .mv false (.c (.int .i64 0)), none⟩]
abbrev quietuslaw21_sanity_r11 : List AI := [
 ⟨some 65, .bin .lss (.t 64) (.t 63), none⟩]
abbrev quietuslaw21_sanity_r12 : List AI := [
 ⟨some 66, .mv false (.t 64), none⟩,
 ⟨some 67, .iaddr 64 (.t 62) (.t 64), none⟩,
 ⟨some 68, .load true 64 (.t 67) .any, none⟩,
 ⟨some 8, .alloc (zr 64 (.int .u8 0)), none⟩,
 ⟨some 7, .mv true (.t 66), none⟩,
 ⟨none, .store 64 (.t 8) (.t 68) .any, none⟩]
abbrev quietuslaw21_sanity_r13 : List AI := [
 ⟨some 69, .mv false (.t 3), none⟩,
 ⟨some 70, .mv false (.t 7), none⟩,
 ⟨some 71, .mkslice 1 1 (.int .i64 0) [(0, (.t 70))], none⟩,
 ⟨some 72, .call (.c (.fn f_disk_Disk_Crash)) [(.t 69), (.t 71)] 0, none⟩,
 ⟨some 9, .mv true (.t 72), none⟩]
abbrev quietuslaw21_sanity_r14 : List AI := [
 ⟨some 73, .mv false (.t 9), none⟩,
 ⟨some 74, .gd (.pnil 0 false) [(.t 73)], none⟩]
abbrev quietuslaw21_sanity_r15 : List AI := [
 ⟨some 0, .mv true (.c (.bool false)), none⟩]
abbrev quietuslaw21_sanity_r16 : List AI := [
 ⟨some 76, .mv false (.t 9), none⟩,
 ⟨some 77, .call (.c (.fn f_disk_Disk_Read)) [(.t 76), (.c (.int .i64 2))] 0, none⟩,
 ⟨some 75, .mv false (.t 77), none⟩,
 ⟨some 78, .ext (.t 75) 0, none⟩,
 ⟨some 79, .ext (.t 75) 1, none⟩,
 ⟨some 10, .alloc (zr 64 (.int .u8 0)), none⟩,
 ⟨none, .store 64 (.t 10) (.t 78) .any, none⟩,
 ⟨some 11, .mv true (.t 79), none⟩]
abbrev quietuslaw21_sanity_r17 : List AI := [
 ⟨some 80, .load true 64 (.t 10) .any, none⟩,
 ⟨some 81, .load true 64 (.t 8) .any, none⟩,
 ⟨some 82, .eqs true (kr 64 .i) (.t 80) (.t 81), none⟩,
 ⟨some 83, .mv false (.t 82), none⟩,
 ⟨some 84, .mv false (.t 11), some (83, false)⟩,
 ⟨some 85, .bin .eql (.t 84) (.c (.int .i64 14)), some (83, false)⟩,
 ⟨some 86, .mv false (.t 7), some (83, false)⟩,
 ⟨some 87, .bin .eql (.t 86) (.c (.int .i64 3)), some (83, false)⟩,
 ⟨some 88, .eqb true (.t 85) (.t 87), some (83, false)⟩,
 ⟨some 89, .pick (.t 83) (.c (.bool true)) (.t 88), none⟩,
 ⟨some 90, .mv false (.t 89), none⟩,
 ⟨some 91, .mv false (.t 9), some (90, false)⟩,
 ⟨some 92, .call (.c (.fn f_disk_Disk_Size)) [(.t 91)] 0, some (90, false)⟩,
 ⟨some 93, .bin .neq (.t 92) (.c (.int .i64 4)), some (90, false)⟩,
 ⟨some 94, .pick (.t 90) (.c (.bool true)) (.t 93), none⟩,
 ⟨some 95, .mv false (.t 94), none⟩,
 ⟨some 96, .mv false (.t 9), some (95, false)⟩,
 ⟨some 97, .call (.c (.fn f_disk_Disk_Open)) [(.t 96)] 0, some (95, false)⟩,
 ⟨some 98, .len false (.t 97), some (95, false)⟩,
 ⟨some 99, .bin .neq (.t 98) (.c (.int .i64 0)), some (95, false)⟩,
 ⟨some 100, .pick (.t 95) (.c (.bool true)) (.t 99), none⟩]
abbrev quietuslaw21_sanity_r18 : List AI := [
 ⟨some 0, .mv true (.c (.bool false)), none⟩]
abbrev quietuslaw21_sanity_r19 : List AI := [
 ⟨some 101, .bin .add (.t 64) (.c (.int .i64 1)), none⟩,
 ⟨some 64, .mv false (.t 101), none⟩]
abbrev quietuslaw21_sanity_l0 : ACode := .seq (.reg false quietuslaw21_sanity_r11) (.seq (.cond (.t 65) (.skip) (.exit 0)) (.seq (.block 1 (.seq (.reg false quietuslaw21_sanity_r12) (.seq (.reg false quietuslaw21_sanity_r13) (.seq (.seq (.reg false quietuslaw21_sanity_r14) (.cond (.t 74) (.seq (.reg false quietuslaw21_sanity_r15) (.ret)) (.skip))) (.seq (.reg false quietuslaw21_sanity_r16) (.seq (.reg false quietuslaw21_sanity_r17) (.cond (.t 100) (.seq (.reg false quietuslaw21_sanity_r18) (.ret)) (.skip)))))))) (.reg false quietuslaw21_sanity_r19)))
abbrev quietuslaw21_sanity_r20 : List AI := [
 ⟨some 102, .mv false (.t 3), none⟩,
 ⟨some 103, .call (.c (.fn f_disk_Disk_Sync)) [(.t 102)] 0, none⟩,
 ⟨some 104, .bin .neq (.t 103) (.c (.int .i64 0)), none⟩,
 ⟨some 105, .mv false (.t 104), none⟩,
 ⟨some 106, .mv false (.t 3), some (105, false)⟩,
 ⟨some 107, .call (.c (.fn f_disk_Disk_Steps)) [(.t 106)] 0, some (105, false)⟩,
 ⟨some 108, .bin .neq (.t 107) (.c (.int .i64 3)), some (105, false)⟩,
 ⟨some 109, .pick (.t 105) (.c (.bool true)) (.t 108), none⟩,
 ⟨some 110, .mv false (.t 109), none⟩,
 ⟨some 111, .mv false (.t 3), some (110, false)⟩,
 ⟨some 112, .call (.c (.fn f_disk_Disk_Flip)) [(.t 111), (.c (.int .i64 2)), (.c (.int .i64 9))] 0, some (110, false)⟩,
 ⟨some 113, .bin .neq (.t 112) (.c (.int .i64 0)), some (110, false)⟩,
 ⟨some 114, .pick (.t 110) (.c (.bool true)) (.t 113), none⟩]
abbrev quietuslaw21_sanity_r21 : List AI := [
 ⟨some 0, .mv true (.c (.bool false)), none⟩]
abbrev quietuslaw21_sanity_r22 : List AI := [
 ⟨some 115, .iaddrA 64 1 (.t 2) (.c (.int .i64 1)), none⟩,
 ⟨none, .store 1 (.t 115) (.c (.int .u8 0)) .any, none⟩]
abbrev quietuslaw21_sanity_r23 : List AI := [
 ⟨some 117, .mv false (.t 3), none⟩,
 ⟨some 118, .call (.c (.fn f_disk_Disk_Read)) [(.t 117), (.c (.int .i64 2))] 0, none⟩,
 ⟨some 116, .mv false (.t 118), none⟩,
 ⟨some 119, .ext (.t 116) 0, none⟩,
 ⟨some 120, .ext (.t 116) 1, none⟩,
 ⟨none, .store 64 (.t 4) (.t 119) .any, none⟩,
 ⟨some 5, .mv true (.t 120), none⟩]
abbrev quietuslaw21_sanity_r24 : List AI := [
 ⟨some 121, .mv false (.t 5), none⟩,
 ⟨some 122, .bin .eql (.t 121) (.c (.int .i64 0)), none⟩,
 ⟨some 123, .mv false (.t 122), none⟩,
 ⟨some 124, .load true 64 (.t 4) .any, some (123, true)⟩,
 ⟨some 125, .load true 64 (.t 2) .any, some (123, true)⟩,
 ⟨some 126, .eqs false (kr 64 .i) (.t 124) (.t 125), some (123, true)⟩,
 ⟨some 127, .pick (.t 123) (.t 126) (.c (.bool false)), none⟩,
 ⟨some 128, .mv false (.t 127), none⟩,
 ⟨some 129, .mv false (.t 3), some (128, true)⟩,
 ⟨some 130, .call (.c (.fn f_disk_Disk_Rot)) [(.t 129), (.c (.int .i64 2))] 0, some (128, true)⟩,
 ⟨some 131, .bin .eql (.t 130) (.c (.int .i64 0)), some (128, true)⟩,
 ⟨some 132, .pick (.t 128) (.t 131) (.c (.bool false)), none⟩,
 ⟨some 12, .mv true (.t 132), none⟩]
abbrev quietuslaw21_sanity_r25 : List AI := [
 ⟨some 134, .mv false (.t 3), none⟩,
 ⟨some 135, .call (.c (.fn f_disk_Disk_Read)) [(.t 134), (.c (.int .i64 2))] 0, none⟩,
 ⟨some 133, .mv false (.t 135), none⟩,
 ⟨some 136, .ext (.t 133) 0, none⟩,
 ⟨some 137, .ext (.t 133) 1, none⟩,
 ⟨some 13, .alloc (zr 64 (.int .u8 0)), none⟩,
 ⟨none, .store 64 (.t 13) (.t 136) .any, none⟩,
 ⟨some 14, .mv true (.t 137), none⟩]
abbrev quietuslaw21_sanity_r26 : List AI := [
 ⟨some 138, .mv false (.t 14), none⟩,
 ⟨some 139, .bin .eql (.t 138) (.c (.int .i64 14)), none⟩,
 ⟨some 140, .mv false (.t 139), none⟩,
 ⟨some 141, .mv false (.t 3), some (140, true)⟩,
 ⟨some 142, .load true 64 (.t 1) .any, some (140, true)⟩,
 ⟨some 143, .call (.c (.fn f_disk_Disk_Write)) [(.t 141), (.c (.int .i64 2)), (.t 142)] 0, some (140, true)⟩,
 ⟨some 144, .bin .eql (.t 143) (.c (.int .i64 0)), some (140, true)⟩,
 ⟨some 145, .pick (.t 140) (.t 144) (.c (.bool false)), none⟩,
 ⟨some 15, .mv true (.t 145), none⟩]
abbrev quietuslaw21_sanity_r27 : List AI := [
 ⟨some 147, .mv false (.t 3), none⟩,
 ⟨some 148, .call (.c (.fn f_disk_Disk_Read)) [(.t 147), (.c (.int .i64 2))] 0, none⟩,
 ⟨some 146, .mv false (.t 148), none⟩,
 ⟨some 149, .ext (.t 146) 0, none⟩,
 ⟨some 150, .ext (.t 146) 1, none⟩,
 ⟨none, .store 64 (.t 4) (.t 149) .any, none⟩,
 ⟨some 5, .mv true (.t 150), none⟩]
abbrev quietuslaw21_sanity_r28 : List AI := [
 ⟨some 151, .mv false (.t 3), none⟩,
 ⟨some 152, .call (.c (.fn f_disk_Disk_Arm)) [(.t 151), (.c (.int .i64 0))] 0, none⟩]
abbrev quietuslaw21_sanity_r29 : List AI := [
 ⟨some 153, .mv false (.t 5), none⟩,
 ⟨some 154, .bin .eql (.t 153) (.c (.int .i64 0)), none⟩,
 ⟨some 155, .mv false (.t 154), none⟩,
 ⟨some 156, .load true 64 (.t 4) .any, some (155, true)⟩,
 ⟨some 157, .load true 64 (.t 1) .any, some (155, true)⟩,
 ⟨some 158, .eqs false (kr 64 .i) (.t 156) (.t 157), some (155, true)⟩,
 ⟨some 159, .pick (.t 155) (.t 158) (.c (.bool false)), none⟩,
 ⟨some 160, .mv false (.t 159), none⟩,
 ⟨some 161, .mv false (.t 3), some (160, true)⟩,
 ⟨some 162, .load true 64 (.t 1) .any, some (160, true)⟩,
 ⟨some 163, .call (.c (.fn f_disk_Disk_Write)) [(.t 161), (.c (.int .i64 0)), (.t 162)] 0, some (160, true)⟩,
 ⟨some 164, .bin .eql (.t 163) (.c (.int .i64 12)), some (160, true)⟩,
 ⟨some 165, .pick (.t 160) (.t 164) (.c (.bool false)), none⟩,
 ⟨some 166, .mv false (.t 165), none⟩,
 ⟨some 167, .mv false (.t 3), some (166, true)⟩,
 ⟨some 168, .call (.c (.fn f_disk_Disk_Down)) [(.t 167)] 0, some (166, true)⟩,
 ⟨some 169, .pick (.t 166) (.t 168) (.c (.bool false)), none⟩,
 ⟨some 16, .mv true (.t 169), none⟩]
abbrev quietuslaw21_sanity_r30 : List AI := [
 ⟨some 171, .mv false (.t 3), none⟩,
 ⟨some 172, .call (.c (.fn f_disk_Disk_Read)) [(.t 171), (.c (.int .i64 0))] 0, none⟩,
 ⟨some 170, .mv false (.t 172), none⟩,
 ⟨some 173, .ext (.t 170) 0, none⟩,
 ⟨some 174, .ext (.t 170) 1, none⟩,
 ⟨some 14, .mv true (.t 174), none⟩]
abbrev quietuslaw21_sanity_r31 : List AI := [
 ⟨some 175, .mv false (.t 12), none⟩,
 ⟨some 176, .mv false (.t 175), none⟩,
 ⟨some 177, .mv false (.t 15), some (176, true)⟩,
 ⟨some 178, .pick (.t 176) (.t 177) (.c (.bool false)), none⟩,
 ⟨some 179, .mv false (.t 178), none⟩,
 ⟨some 180, .mv false (.t 16), some (179, true)⟩,
 ⟨some 181, .pick (.t 179) (.t 180) (.c (.bool false)), none⟩,
 ⟨some 182, .mv false (.t 181), none⟩,
 ⟨some 183, .mv false (.t 14), some (182, true)⟩,
 ⟨some 184, .bin .eql (.t 183) (.c (.int .i64 12)), some (182, true)⟩,
 ⟨some 185, .pick (.t 182) (.t 184) (.c (.bool false)), none⟩,
 ⟨some 0, .mv true (.t 185), none⟩]
abbrev quietuslaw21_sanity_c : ACode := .seq (.reg false quietuslaw21_sanity_r0) (.seq (.reg false quietuslaw21_sanity_r1) (.seq (.reg false quietuslaw21_sanity_r2) (.seq (.seq (.reg false quietuslaw21_sanity_r3) (.cond (.t 27) (.seq (.reg false quietuslaw21_sanity_r4) (.ret)) (.skip))) (.seq (.reg false quietuslaw21_sanity_r5) (.seq (.seq (.reg false quietuslaw21_sanity_r6) (.cond (.t 52) (.seq (.reg false quietuslaw21_sanity_r7) (.ret)) (.skip))) (.seq (.reg false quietuslaw21_sanity_r8) (.seq (.reg true quietuslaw21_sanity_r9) (.seq (.seq (.reg false quietuslaw21_sanity_r10) (.block 0 (.loop quietuslaw21_sanity_l0))) (.seq (.seq (.reg false quietuslaw21_sanity_r20) (.cond (.t 114) (.seq (.reg false quietuslaw21_sanity_r21) (.ret)) (.skip))) (.seq (.reg false quietuslaw21_sanity_r22) (.seq (.reg false quietuslaw21_sanity_r23) (.seq (.reg false quietuslaw21_sanity_r24) (.seq (.reg false quietuslaw21_sanity_r25) (.seq (.reg false quietuslaw21_sanity_r26) (.seq (.reg false quietuslaw21_sanity_r27) (.seq (.reg false quietuslaw21_sanity_r28) (.seq (.reg false quietuslaw21_sanity_r29) (.seq (.reg false quietuslaw21_sanity_r30) (.seq (.reg false quietuslaw21_sanity_r31) (.ret))))))))))))))))))))
def quietuslaw21_sanity_F : AFunc := ⟨186, [.tmp 0], quietuslaw21_sanity_c⟩
theorem quietuslaw21_sanity_cp : compile Try.prog [1, 6] f_quietuslaw21_sanity = some quietuslaw21_sanity_F := by kernel_rfl
-- loop 0: [1, 5, 6, 7, 8, 9, 17, 18, 19, 58]
-- loop 1: [1, 5, 6, 7, 8, 9, 17, 18, 19]
-- loop 0: [0, 1, 5, 25, 26, 27]
abbrev disk_Disk_Crash_r0 : List AI := [
 ⟨some 4, .mv true (.c .nilP), none⟩]
abbrev disk_Disk_Crash_r1 : List AI := [
 ⟨some 9, .mv false (.t 0), none⟩,
 ⟨some 10, .nilck (.t 9), none⟩,
 ⟨some 11, .faddr 0 (.t 10), none⟩,
 ⟨some 12, .load false 1 (.t 11) .any, none⟩,
 ⟨some 13, .len false (.t 12), none⟩,
 ⟨some 14, .call (.c (.fn f_disk_New)) [(.t 13)] 0, none⟩,
 ⟨some 5, .mv true (.t 14), none⟩]
abbrev disk_Disk_Crash_r2 : List AI := [
 ⟨some 15, .mv false (.t 5), none⟩,
 ⟨some 16, .nilck (.t 15), none⟩,
 ⟨some 17, .faddr 0 (.t 16), none⟩,
 ⟨some 18, .load false 1 (.t 17) .foreign, none⟩,
 ⟨some 19, .mv false (.t 0), none⟩,
 ⟨some 20, .nilck (.t 19), none⟩,
 ⟨some 21, .faddr 0 (.t 20), none⟩,
 ⟨some 22, .load false 1 (.t 21) .foreign, none⟩,
 ⟨some 23, .copy 65 (.t 18) (.t 22), none⟩]
abbrev disk_Disk_Crash_r3 : List AI := [
 ⟨some 24, .mv false (.t 0), none⟩,
 ⟨some 25, .call (.c (.fn f_disk_Disk_sectors)) [(.t 24)] 0, none⟩,
 ⟨some 26, .len false (.t 25), none⟩,
 ⟨some 27, .mv false (.c (.int .i64 0)), none⟩]
abbrev disk_Disk_Crash_r4 : List AI := [
 ⟨some 28, .bin .lss (.t 27) (.t 26), none⟩]
abbrev disk_Disk_Crash_r5 : List AI := [
 ⟨some 29, .mv false (.t 27), none⟩,
 ⟨some 30, .iaddr 1 (.t 25) (.t 27), none⟩,
 ⟨some 31, .load false 1 (.t 30) .any, none⟩,
 ⟨some 6, .mv true (.t 29), none⟩,
 ⟨some 7, .mv true (.t 31), none⟩]
abbrev disk_Disk_Crash_r6 : List AI := [
 ⟨some 8, .mv true (.c (.int .i64 0)), none⟩]
abbrev disk_Disk_Crash_r7 : List AI := [
 ⟨some 32, .mv false (.t 1), none⟩,
 ⟨some 33, .len false (.t 32), none⟩,
 ⟨some 34, .bin .gtr (.t 33) (.c (.int .i64 0)), none⟩]
abbrev disk_Disk_Crash_r8 : List AI := [
 ⟨some 35, .mv false (.t 1), none⟩,
 ⟨some 36, .mv false (.t 6), none⟩,
 ⟨some 37, .mv false (.t 1), none⟩,
 ⟨some 38, .len false (.t 37), none⟩,
 ⟨some 39, .bin .rem (.t 36) (.t 38), none⟩,
 ⟨some 40, .iaddr 1 (.t 35) (.t 39), none⟩,
 ⟨some 41, .load false 1 (.t 40) .any, none⟩,
 ⟨some 8, .mv true (.t 41), none⟩]
abbrev disk_Disk_Crash_r9 : List AI := [
 ⟨some 42, .mv false (.t 5), none⟩,
 ⟨some 43, .nilck (.t 42), none⟩,
 ⟨some 44, .faddr 0 (.t 43), none⟩,
 ⟨some 45, .load false 1 (.t 44) .foreign, none⟩,
 ⟨some 46, .mv false (.t 7), none⟩,
 ⟨some 47, .mv false (.t 0), none⟩,
 ⟨some 48, .nilck (.t 47), none⟩,
 ⟨some 49, .faddr 0 (.t 48), none⟩,
 ⟨some 50, .load false 1 (.t 49) .foreign, none⟩,
 ⟨some 51, .mv false (.t 7), none⟩,
 ⟨some 52, .iaddr 65 (.t 50) (.t 51), none⟩,
 ⟨some 53, .load true 65 (.t 52) .foreign, none⟩,
 ⟨some 54, .mv false (.t 0), none⟩,
 ⟨some 55, .nilck (.t 54), none⟩,
 ⟨some 56, .faddr 1 (.t 55), none⟩,
 ⟨some 57, .load false 1 (.t 56) .foreign, none⟩,
 ⟨some 58, .mv false (.t 7), none⟩,
 ⟨some 59, .gd (.mlook [.i] .nilS false) [(.t 57), (.t 58)], none⟩,
 ⟨some 60, .mv false (.t 8), none⟩,
 ⟨some 61, .call (.c (.fn f_disk_found)) [(.t 53), (.t 59), (.t 60)] 1, none⟩,
 ⟨some 62, .iaddr 65 (.t 45) (.t 46), none⟩,
 ⟨none, .store 65 (.t 62) (.t 61) .gp, none⟩]
abbrev disk_Disk_Crash_r10 : List AI := [
 ⟨some 63, .bin .add (.t 27) (.c (.int .i64 1)), none⟩,
 ⟨some 27, .mv false (.t 63), none⟩]
abbrev disk_Disk_Crash_l0 : ACode := .seq (.reg false disk_Disk_Crash_r4) (.seq (.cond (.t 28) (.skip) (.exit 0)) (.seq (.block 1 (.seq (.reg false disk_Disk_Crash_r5) (.seq (.reg false disk_Disk_Crash_r6) (.seq (.seq (.reg false disk_Disk_Crash_r7) (.cond (.t 34) (.reg false disk_Disk_Crash_r8) (.skip))) (.reg true disk_Disk_Crash_r9))))) (.reg false disk_Disk_Crash_r10)))
abbrev disk_Disk_Crash_r11 : List AI := [
 ⟨some 64, .mv false (.t 5), none⟩,
 ⟨some 4, .mv true (.t 64), none⟩]
abbrev disk_Disk_Crash_c : ACode := .seq (.reg false disk_Disk_Crash_r0) (.seq (.reg false disk_Disk_Crash_r1) (.seq (.reg true disk_Disk_Crash_r2) (.seq (.seq (.reg false disk_Disk_Crash_r3) (.block 0 (.loop disk_Disk_Crash_l0))) (.seq (.reg false disk_Disk_Crash_r11) (.ret)))))
def disk_Disk_Crash_F : AFunc := ⟨65, [.tmp 4], disk_Disk_Crash_c⟩
theorem disk_Disk_Crash_cp : compile Try.prog [] f_disk_Disk_Crash = some disk_Disk_Crash_F := by kernel_rfl
abbrev disk_Disk_Size_r0 : List AI := [
 ⟨some 2, .mv true (.c (.int .i64 0)), none⟩]
abbrev disk_Disk_Size_r1 : List AI := [
 ⟨some 3, .mv false (.t 0), none⟩,
 ⟨some 4, .nilck (.t 3), none⟩,
 ⟨some 5, .faddr 0 (.t 4), none⟩,
 ⟨some 6, .load false 1 (.t 5) .any, none⟩,
 ⟨some 7, .len false (.t 6), none⟩,
 ⟨some 2, .mv true (.t 7), none⟩]
abbrev disk_Disk_Size_c : ACode := .seq (.reg false disk_Disk_Size_r0) (.seq (.reg false disk_Disk_Size_r1) (.ret))
def disk_Disk_Size_F : AFunc := ⟨8, [.tmp 2], disk_Disk_Size_c⟩
theorem disk_Disk_Size_cp : compile Try.prog [] f_disk_Disk_Size = some disk_Disk_Size_F := by kernel_rfl
abbrev disk_Disk_Down_r0 : List AI := [
 ⟨some 2, .mv true (.c (.bool false)), none⟩]
abbrev disk_Disk_Down_r1 : List AI := [
 ⟨some 3, .mv false (.t 0), none⟩,
 ⟨some 4, .nilck (.t 3), none⟩,
 ⟨some 5, .faddr 4 (.t 4), none⟩,
 ⟨some 6, .load false 1 (.t 5) .any, none⟩,
 ⟨some 2, .mv true (.t 6), none⟩]
abbrev disk_Disk_Down_c : ACode := .seq (.reg false disk_Disk_Down_r0) (.seq (.reg false disk_Disk_Down_r1) (.ret))
def disk_Disk_Down_F : AFunc := ⟨7, [.tmp 2], disk_Disk_Down_c⟩
theorem disk_Disk_Down_cp : compile Try.prog [] f_disk_Disk_Down = some disk_Disk_Down_F := by kernel_rfl
abbrev disk_Disk_Steps_r0 : List AI := [
 ⟨some 2, .mv true (.c (.int .i64 0)), none⟩]
abbrev disk_Disk_Steps_r1 : List AI := [
 ⟨some 3, .mv false (.t 0), none⟩,
 ⟨some 4, .nilck (.t 3), none⟩,
 ⟨some 5, .faddr 2 (.t 4), none⟩,
 ⟨some 6, .load false 1 (.t 5) .any, none⟩,
 ⟨some 2, .mv true (.t 6), none⟩]
abbrev disk_Disk_Steps_c : ACode := .seq (.reg false disk_Disk_Steps_r0) (.seq (.reg false disk_Disk_Steps_r1) (.ret))
def disk_Disk_Steps_F : AFunc := ⟨7, [.tmp 2], disk_Disk_Steps_c⟩
theorem disk_Disk_Steps_cp : compile Try.prog [] f_disk_Disk_Steps = some disk_Disk_Steps_F := by kernel_rfl
-- loop 0: [0, 3, 7, 8, 9]
abbrev disk_Disk_Open_r0 : List AI := [
 ⟨some 2, .mv true (.c .nilS), none⟩]
abbrev disk_Disk_Open_r1 : List AI := [
 ⟨some 3, .mv true (.c .nilS), none⟩]
abbrev disk_Disk_Open_r2 : List AI := [
 ⟨some 6, .mv false (.t 0), none⟩,
 ⟨some 7, .call (.c (.fn f_disk_Disk_sectors)) [(.t 6)] 0, none⟩,
 ⟨some 8, .len false (.t 7), none⟩,
 ⟨some 9, .mv false (.c (.int .i64 0)), none⟩]
abbrev disk_Disk_Open_r3 : List AI := [
 ⟨some 10, .bin .lss (.t 9) (.t 8), none⟩]
abbrev disk_Disk_Open_r4 : List AI := [
 ⟨some 11, .iaddr 1 (.t 7) (.t 9), none⟩,
 ⟨some 12, .load false 1 (.t 11) .any, none⟩,
 ⟨some 5, .mv true (.t 12), none⟩]
abbrev disk_Disk_Open_r5 : List AI := [
 ⟨some 13, .mv true (.t 3), none⟩,
 ⟨some 14, .mv false (.t 5), none⟩,
 ⟨some 15, .mkslice 1 1 (.int .i64 0) [(0, (.t 14))], none⟩,
 ⟨some 16, .mv false (.t 0), none⟩,
 ⟨some 17, .nilck (.t 16), none⟩,
 ⟨some 18, .faddr 1 (.t 17), none⟩,
 ⟨some 19, .load false 1 (.t 18) .any, none⟩,
 ⟨some 20, .mv false (.t 5), none⟩,
 ⟨some 21, .gd (.mlook [.i] .nilS false) [(.t 19), (.t 20)], none⟩,
 ⟨some 22, .len false (.t 21), none⟩,
 ⟨some 23, .call (.c (.fn f_slices_Repeat_int_int)) [(.t 15), (.t 22)] 0, none⟩,
 ⟨some 24, .append 1 8 (.t 13) (.t 23), none⟩,
 ⟨some 3, .mv true (.t 24), none⟩]
abbrev disk_Disk_Open_r6 : List AI := [
 ⟨some 25, .bin .add (.t 9) (.c (.int .i64 1)), none⟩,
 ⟨some 9, .mv false (.t 25), none⟩]
abbrev disk_Disk_Open_l0 : ACode := .seq (.reg false disk_Disk_Open_r3) (.seq (.cond (.t 10) (.skip) (.exit 0)) (.seq (.block 1 (.seq (.reg false disk_Disk_Open_r4) (.reg false disk_Disk_Open_r5))) (.reg false disk_Disk_Open_r6)))
abbrev disk_Disk_Open_r7 : List AI := [
 ⟨some 26, .mv false (.t 3), none⟩,
 ⟨some 2, .mv true (.t 26), none⟩]
abbrev disk_Disk_Open_c : ACode := .seq (.reg false disk_Disk_Open_r0) (.seq (.reg false disk_Disk_Open_r1) (.seq (.seq (.reg false disk_Disk_Open_r2) (.block 0 (.loop disk_Disk_Open_l0))) (.seq (.reg false disk_Disk_Open_r7) (.ret))))
def disk_Disk_Open_F : AFunc := ⟨27, [.tmp 2], disk_Disk_Open_c⟩
theorem disk_Disk_Open_cp : compile Try.prog [] f_disk_Disk_Open = some disk_Disk_Open_F := by kernel_rfl
-- loop 0: [1, 3, 4, 6, 9, 27, 28, 29]
abbrev disk_Disk_Arm_r0 : List AI := [
 ⟨some 4, .mv false (.t 0), none⟩,
 ⟨some 5, .mv false (.t 1), none⟩,
 ⟨some 6, .mx (.t 5) (.c (.int .i64 (-1))), none⟩,
 ⟨some 7, .nilck (.t 4), none⟩,
 ⟨some 8, .faddr 3 (.t 7), none⟩,
 ⟨none, .store 1 (.t 8) (.t 6) .any, none⟩]
abbrev disk_Disk_Arm_c : ACode := .reg false disk_Disk_Arm_r0
def disk_Disk_Arm_F : AFunc := ⟨9, [], disk_Disk_Arm_c⟩
theorem disk_Disk_Arm_cp : compile Try.prog [] f_disk_Disk_Arm = some disk_Disk_Arm_F := by kernel_rfl
-- loop 0: [0, 19]
abbrev disk_Disk_Sync_r0 : List AI := [
 ⟨some 2, .mv true (.c (.int .i64 0)), none⟩]
abbrev disk_Disk_Sync_r1 : List AI := [
 ⟨some 6, .mv false (.t 0), none⟩,
 ⟨some 7, .call (.c (.fn f_disk_Disk_check)) [(.t 6), (.c (.int .i64 0))] 0, none⟩,
 ⟨some 3, .mv true (.t 7), none⟩]
abbrev disk_Disk_Sync_r2 : List AI := [
 ⟨some 8, .mv false (.t 3), none⟩,
 ⟨some 9, .bin .eql (.t 8) (.c (.int .i64 0)), none⟩]
abbrev disk_Disk_Sync_r3 : List AI := [
 ⟨some 10, .mv false (.t 0), none⟩,
 ⟨some 11, .call (.c (.fn f_disk_Disk_step)) [(.t 10)] 0, none⟩,
 ⟨some 3, .mv true (.t 11), none⟩]
abbrev disk_Disk_Sync_r4 : List AI := [
 ⟨some 12, .mv false (.t 3), none⟩,
 ⟨some 13, .bin .neq (.t 12) (.c (.int .i64 0)), none⟩]
abbrev disk_Disk_Sync_r5 : List AI := [
 ⟨some 14, .mv false (.t 3), none⟩,
 ⟨some 2, .mv true (.t 14), none⟩]
abbrev disk_Disk_Sync_r6 : List AI := [
 ⟨some 15, .mv false (.t 0), none⟩,
 ⟨some 16, .nilck (.t 15), none⟩,
 ⟨some 17, .faddr 1 (.t 16), none⟩,
 ⟨some 18, .load false 1 (.t 17) .any, none⟩,
 ⟨some 19, .gn .rng [(.t 18)], none⟩]
abbrev disk_Disk_Sync_r7 : List AI := [
 ⟨some 20, .gn .nxt [(.t 19)], none⟩,
 ⟨some 21, .ext (.t 20) 0, none⟩]
abbrev disk_Disk_Sync_r8 : List AI := [
 ⟨some 22, .gd .entry [(.t 19)], none⟩,
 ⟨some 23, .ext (.t 22) 0, none⟩,
 ⟨some 24, .ext (.t 22) 1, none⟩,
 ⟨some 4, .mv true (.t 23), none⟩,
 ⟨some 5, .mv true (.t 24), none⟩]
abbrev disk_Disk_Sync_r9 : List AI := [
 ⟨some 25, .mv false (.t 0), none⟩,
 ⟨some 26, .nilck (.t 25), none⟩,
 ⟨some 27, .faddr 0 (.t 26), none⟩,
 ⟨some 28, .load false 1 (.t 27) .foreign, none⟩,
 ⟨some 29, .mv false (.t 4), none⟩,
 ⟨some 30, .mv false (.t 5), none⟩,
 ⟨some 31, .mv false (.t 5), none⟩,
 ⟨some 32, .len false (.t 31), none⟩,
 ⟨some 33, .bin .sub (.t 32) (.c (.int .i64 1)), none⟩,
 ⟨some 34, .iaddr 64 (.t 30) (.t 33), none⟩,
 ⟨some 35, .load true 64 (.t 34) .foreign, none⟩,
 ⟨some 36, .build (zr 64 (.int .u8 0) ++ [(.bool false)]) [(0, 64, (.t 35))], none⟩,
 ⟨some 37, .iaddr 65 (.t 28) (.t 29), none⟩,
 ⟨none, .store 65 (.t 37) (.t 36) .gp, none⟩]
abbrev disk_Disk_Sync_r10 : List AI := [
 ⟨some 38, .mv false (.t 0), none⟩,
 ⟨some 39, .nilck (.t 38), none⟩,
 ⟨some 40, .faddr 1 (.t 39), none⟩,
 ⟨some 41, .load false 1 (.t 40) .any, none⟩,
 ⟨some 42, .mv false (.t 4), none⟩,
 ⟨none, .gd (.mdel [.i]) [(.t 41), (.t 42)], none⟩]
abbrev disk_Disk_Sync_l0 : ACode := .seq (.reg false disk_Disk_Sync_r7) (.seq (.cond (.t 21) (.skip) (.exit 0)) (.block 1 (.seq (.reg false disk_Disk_Sync_r8) (.seq (.reg true disk_Disk_Sync_r9) (.reg false disk_Disk_Sync_r10)))))
abbrev disk_Disk_Sync_r11 : List AI := [
 ⟨some 2, .mv true (.c (.int .i64 0)), none⟩]
abbrev disk_Disk_Sync_c : ACode := .seq (.reg false disk_Disk_Sync_r0) (.seq (.reg false disk_Disk_Sync_r1) (.seq (.seq (.reg false disk_Disk_Sync_r2) (.cond (.t 9) (.reg false disk_Disk_Sync_r3) (.skip))) (.seq (.seq (.reg false disk_Disk_Sync_r4) (.cond (.t 13) (.seq (.reg false disk_Disk_Sync_r5) (.ret)) (.skip))) (.seq (.seq (.reg false disk_Disk_Sync_r6) (.block 0 (.loop disk_Disk_Sync_l0))) (.seq (.reg false disk_Disk_Sync_r11) (.ret))))))
def disk_Disk_Sync_F : AFunc := ⟨43, [.tmp 2], disk_Disk_Sync_c⟩
theorem disk_Disk_Sync_cp : compile Try.prog [] f_disk_Disk_Sync = some disk_Disk_Sync_F := by kernel_rfl
abbrev disk_Disk_Flip_r0 : List AI := [
 ⟨some 6, .mv true (.c (.int .i64 0)), none⟩]
abbrev disk_Disk_Flip_r1 : List AI := [
 ⟨some 9, .mv false (.t 0), none⟩,
 ⟨some 10, .mv false (.t 1), none⟩,
 ⟨some 11, .call (.c (.fn f_disk_Disk_check)) [(.t 9), (.t 10)] 0, none⟩,
 ⟨some 7, .mv true (.t 11), none⟩]
abbrev disk_Disk_Flip_r2 : List AI := [
 ⟨some 12, .mv false (.t 7), none⟩,
 ⟨some 13, .bin .neq (.t 12) (.c (.int .i64 0)), none⟩]
abbrev disk_Disk_Flip_r3 : List AI := [
 ⟨some 14, .mv false (.t 7), none⟩,
 ⟨some 6, .mv true (.t 14), none⟩]
abbrev disk_Disk_Flip_r4 : List AI := [
 ⟨some 15, .mv false (.t 2), none⟩,
 ⟨some 16, .bin .lss (.t 15) (.c (.int .i64 0)), none⟩,
 ⟨some 17, .mv false (.t 16), none⟩,
 ⟨some 18, .mv false (.t 2), some (17, false)⟩,
 ⟨some 19, .bin .geq (.t 18) (.c (.int .i64 512)), some (17, false)⟩,
 ⟨some 20, .pick (.t 17) (.c (.bool true)) (.t 19), none⟩]
abbrev disk_Disk_Flip_r5 : List AI := [
 ⟨some 6, .mv true (.c (.int .i64 1)), none⟩]
abbrev disk_Disk_Flip_r6 : List AI := [
 ⟨some 21, .mv false (.t 0), none⟩,
 ⟨some 22, .nilck (.t 21), none⟩,
 ⟨some 23, .faddr 0 (.t 22), none⟩,
 ⟨some 24, .load false 1 (.t 23) .any, none⟩,
 ⟨some 25, .mv false (.t 1), none⟩,
 ⟨some 26, .iaddr 65 (.t 24) (.t 25), none⟩,
 ⟨some 27, .load true 65 (.t 26) .any, none⟩,
 ⟨some 8, .alloc (zr 64 (.int .u8 0) ++ [(.bool false)]), none⟩,
 ⟨none, .store 65 (.t 8) (.t 27) .any, none⟩]
abbrev disk_Disk_Flip_r7 : List AI := [
 ⟨some 28, .load true 65 (.t 8) .any, none⟩,
 ⟨some 29, .build (zr 64 (.int .u8 0) ++ [(.bool false)]) [(64, 1, (.c (.bool true)))], none⟩,
 ⟨some 30, .eqs true (kr 64 .i ++ [.b]) (.t 28) (.t 29), none⟩]
abbrev disk_Disk_Flip_r8 : List AI := [
 ⟨some 31, .mv false (.t 0), none⟩,
 ⟨some 32, .nilck (.t 31), none⟩,
 ⟨some 33, .faddr 0 (.t 32), none⟩,
 ⟨some 34, .load false 1 (.t 33) .foreign, none⟩,
 ⟨some 35, .mv false (.t 1), none⟩,
 ⟨some 36, .mv false (.t 2), none⟩,
 ⟨some 37, .bin .quo (.t 36) (.c (.int .i64 8)), none⟩,
 ⟨some 38, .iaddr 65 (.t 34) (.t 35), none⟩,
 ⟨some 39, .faddr 0 (.t 38), none⟩,
 ⟨some 40, .iaddrA 64 1 (.t 39) (.t 37), none⟩,
 ⟨some 41, .load false 1 (.t 40) .foreign, none⟩,
 ⟨some 42, .mv false (.t 2), none⟩,
 ⟨some 43, .bin .rem (.t 42) (.c (.int .i64 8)), none⟩,
 ⟨some 44, .bin .shl (.c (.int .u8 1)) (.t 43), none⟩,
 ⟨some 45, .bin .xor (.t 41) (.t 44), none⟩,
 ⟨some 46, .iaddr 65 (.t 34) (.t 35), none⟩,
 ⟨some 47, .faddr 0 (.t 46), none⟩,
 ⟨some 48, .iaddrA 64 1 (.t 47) (.t 37), none⟩,
 ⟨none, .store 1 (.t 48) (.t 45) .gp, none⟩]
abbrev disk_Disk_Flip_r9 : List AI := [
 ⟨some 6, .mv true (.c (.int .i64 0)), none⟩]
abbrev disk_Disk_Flip_c : ACode := .seq (.reg false disk_Disk_Flip_r0) (.seq (.seq (.reg false disk_Disk_Flip_r1) (.seq (.reg false disk_Disk_Flip_r2) (.cond (.t 13) (.seq (.reg false disk_Disk_Flip_r3) (.ret)) (.skip)))) (.seq (.seq (.reg false disk_Disk_Flip_r4) (.cond (.t 20) (.seq (.reg false disk_Disk_Flip_r5) (.ret)) (.skip))) (.seq (.seq (.reg false disk_Disk_Flip_r6) (.seq (.reg false disk_Disk_Flip_r7) (.cond (.t 30) (.reg true disk_Disk_Flip_r8) (.skip)))) (.seq (.reg false disk_Disk_Flip_r9) (.ret)))))
def disk_Disk_Flip_F : AFunc := ⟨49, [.tmp 6], disk_Disk_Flip_c⟩
theorem disk_Disk_Flip_cp : compile Try.prog [] f_disk_Disk_Flip = some disk_Disk_Flip_F := by kernel_rfl
abbrev disk_Disk_Rot_r0 : List AI := [
 ⟨some 4, .mv true (.c (.int .i64 0)), none⟩]
abbrev disk_Disk_Rot_r1 : List AI := [
 ⟨some 6, .mv false (.t 0), none⟩,
 ⟨some 7, .mv false (.t 1), none⟩,
 ⟨some 8, .call (.c (.fn f_disk_Disk_check)) [(.t 6), (.t 7)] 0, none⟩,
 ⟨some 5, .mv true (.t 8), none⟩]
abbrev disk_Disk_Rot_r2 : List AI := [
 ⟨some 9, .mv false (.t 5), none⟩,
 ⟨some 10, .bin .eql (.t 9) (.c (.int .i64 0)), none⟩]
abbrev disk_Disk_Rot_r3 : List AI := [
 ⟨some 11, .mv false (.t 0), none⟩,
 ⟨some 12, .nilck (.t 11), none⟩,
 ⟨some 13, .faddr 0 (.t 12), none⟩,
 ⟨some 14, .load false 1 (.t 13) .any, none⟩,
 ⟨some 15, .mv false (.t 1), none⟩,
 ⟨some 16, .build (zr 64 (.int .u8 0) ++ [(.bool false)]) [(64, 1, (.c (.bool true)))], none⟩,
 ⟨some 17, .iaddr 65 (.t 14) (.t 15), none⟩,
 ⟨none, .store 65 (.t 17) (.t 16) .any, none⟩]
abbrev disk_Disk_Rot_r4 : List AI := [
 ⟨some 18, .mv false (.t 5), none⟩,
 ⟨some 4, .mv true (.t 18), none⟩]
abbrev disk_Disk_Rot_c : ACode := .seq (.reg false disk_Disk_Rot_r0) (.seq (.reg false disk_Disk_Rot_r1) (.seq (.seq (.reg false disk_Disk_Rot_r2) (.cond (.t 10) (.reg false disk_Disk_Rot_r3) (.skip))) (.seq (.reg false disk_Disk_Rot_r4) (.ret))))
def disk_Disk_Rot_F : AFunc := ⟨19, [.tmp 4], disk_Disk_Rot_c⟩
theorem disk_Disk_Rot_cp : compile Try.prog [] f_disk_Disk_Rot = some disk_Disk_Rot_F := by kernel_rfl
abbrev disk_Disk_check_r0 : List AI := [
 ⟨some 4, .mv true (.c (.int .i64 0)), none⟩]
abbrev disk_Disk_check_r1 : List AI := [
 ⟨some 6, .mv false (.t 0), none⟩,
 ⟨some 7, .nilck (.t 6), none⟩,
 ⟨some 8, .faddr 4 (.t 7), none⟩,
 ⟨some 9, .load false 1 (.t 8) .any, none⟩,
 ⟨some 5, .mv true (.t 9), none⟩]
abbrev disk_Disk_check_r2 : List AI := [
 ⟨some 4, .mv true (.c (.int .i64 12)), none⟩]
abbrev disk_Disk_check_r3 : List AI := [
 ⟨some 11, .mv false (.t 1), none⟩,
 ⟨some 12, .bin .lss (.t 11) (.c (.int .i64 0)), none⟩,
 ⟨some 13, .mv false (.t 12), none⟩,
 ⟨some 14, .mv false (.t 1), some (13, false)⟩,
 ⟨some 15, .mv false (.t 0), some (13, false)⟩,
 ⟨some 16, .nilck (.t 15), some (13, false)⟩,
 ⟨some 17, .faddr 0 (.t 16), some (13, false)⟩,
 ⟨some 18, .load false 1 (.t 17) .any, some (13, false)⟩,
 ⟨some 19, .len false (.t 18), some (13, false)⟩,
 ⟨some 20, .bin .geq (.t 14) (.t 19), some (13, false)⟩,
 ⟨some 21, .pick (.t 13) (.c (.bool true)) (.t 20), none⟩,
 ⟨some 10, .mv true (.t 21), none⟩]
abbrev disk_Disk_check_r4 : List AI := [
 ⟨some 4, .mv true (.c (.int .i64 1)), none⟩]
abbrev disk_Disk_check_b0 : ACode := .seq (.reg false disk_Disk_check_r3) (.cond (.t 10) (.seq (.reg false disk_Disk_check_r4) (.ret)) (.skip))
abbrev disk_Disk_check_r5 : List AI := [
 ⟨some 4, .mv true (.c (.int .i64 0)), none⟩]
abbrev disk_Disk_check_c : ACode := .seq (.reg false disk_Disk_check_r0) (.seq (.block 0 (.seq (.reg false disk_Disk_check_r1) (.cond (.t 5) (.seq (.reg false disk_Disk_check_r2) (.ret)) (disk_Disk_check_b0)))) (.seq (.reg false disk_Disk_check_r5) (.ret)))
def disk_Disk_check_F : AFunc := ⟨22, [.tmp 4], disk_Disk_check_c⟩
theorem disk_Disk_check_cp : compile Try.prog [] f_disk_Disk_check = some disk_Disk_check_F := by kernel_rfl
abbrev disk_Disk_step_r0 : List AI := [
 ⟨some 2, .mv true (.c (.int .i64 0)), none⟩]
abbrev disk_Disk_step_r1 : List AI := [
 ⟨some 4, .mv false (.t 0), none⟩,
 ⟨some 5, .nilck (.t 4), none⟩,
 ⟨some 6, .faddr 3 (.t 5), none⟩,
 ⟨some 7, .load false 1 (.t 6) .any, none⟩,
 ⟨some 8, .bin .eql (.t 7) (.c (.int .i64 0)), none⟩,
 ⟨some 3, .mv true (.t 8), none⟩]
abbrev disk_Disk_step_r2 : List AI := [
 ⟨some 9, .mv false (.t 0), none⟩,
 ⟨some 10, .nilck (.t 9), none⟩,
 ⟨some 11, .faddr 4 (.t 10), none⟩,
 ⟨none, .store 1 (.t 11) (.c (.bool true)) .any, none⟩]
abbrev disk_Disk_step_r3 : List AI := [
 ⟨some 2, .mv true (.c (.int .i64 12)), none⟩]
abbrev disk_Disk_step_b0 : ACode := .seq (.reg false disk_Disk_step_r2) (.seq (.reg false disk_Disk_step_r3) (.ret))
abbrev disk_Disk_step_r4 : List AI := [
 ⟨some 13, .mv false (.t 0), none⟩,
 ⟨some 14, .nilck (.t 13), none⟩,
 ⟨some 15, .faddr 3 (.t 14), none⟩,
 ⟨some 16, .load false 1 (.t 15) .any, none⟩,
 ⟨some 17, .bin .gtr (.t 16) (.c (.int .i64 0)), none⟩,
 ⟨some 12, .mv true (.t 17), none⟩]
abbrev disk_Disk_step_r5 : List AI := [
 ⟨some 18, .mv false (.t 0), none⟩,
 ⟨some 19, .nilck (.t 18), none⟩,
 ⟨some 20, .faddr 3 (.t 19), none⟩,
 ⟨some 21, .load false 1 (.t 20) .any, none⟩,
 ⟨some 22, .bin .sub (.t 21) (.c (.int .i64 1)), none⟩,
 ⟨some 23, .nilck (.t 18), none⟩,
 ⟨some 24, .faddr 3 (.t 23), none⟩,
 ⟨none, .store 1 (.t 24) (.t 22) .any, none⟩]
abbrev disk_Disk_step_b1 : ACode := .seq (.reg false disk_Disk_step_r4) (.cond (.t 12) (.reg false disk_Disk_step_r5) (.skip))
abbrev disk_Disk_step_r6 : List AI := [
 ⟨some 25, .mv false (.t 0), none⟩,
 ⟨some 26, .nilck (.t 25), none⟩,
 ⟨some 27, .faddr 2 (.t 26), none⟩,
 ⟨some 28, .load false 1 (.t 27) .any, none⟩,
 ⟨some 29, .bin .add (.t 28) (.c (.int .i64 1)), none⟩,
 ⟨some 30, .nilck (.t 25), none⟩,
 ⟨some 31, .faddr 2 (.t 30), none⟩,
 ⟨none, .store 1 (.t 31) (.t 29) .any, none⟩]
abbrev disk_Disk_step_r7 : List AI := [
 ⟨some 2, .mv true (.c (.int .i64 0)), none⟩]
abbrev disk_Disk_step_c : ACode := .seq (.reg false disk_Disk_step_r0) (.seq (.block 0 (.seq (.reg false disk_Disk_step_r1) (.cond (.t 3) (disk_Disk_step_b0) (disk_Disk_step_b1)))) (.seq (.reg false disk_Disk_step_r6) (.seq (.reg false disk_Disk_step_r7) (.ret))))
def disk_Disk_step_F : AFunc := ⟨32, [.tmp 2], disk_Disk_step_c⟩
theorem disk_Disk_step_cp : compile Try.prog [] f_disk_Disk_step = some disk_Disk_step_F := by kernel_rfl
-- loop 0: [0, 1, 5]
abbrev quietusref21_Same_r0 : List AI := [
 ⟨some 4, .mv true (.c (.bool false)), none⟩]
abbrev quietusref21_Same_r1 : List AI := [
 ⟨some 6, .mv false (.t 0), none⟩,
 ⟨some 7, .len false (.t 6), none⟩,
 ⟨some 8, .mv false (.t 1), none⟩,
 ⟨some 9, .len false (.t 8), none⟩,
 ⟨some 10, .bin .neq (.t 7) (.t 9), none⟩]
abbrev quietusref21_Same_r2 : List AI := [
 ⟨some 4, .mv true (.c (.bool false)), none⟩]
abbrev quietusref21_Same_r3 : List AI := [
 ⟨some 5, .mv true (.c (.int .i64 0)), none⟩]
abbrev quietusref21_Same_r4 : List AI := [
 ⟨some 11, .mv false (.t 5), none⟩,
 ⟨some 12, .mv false (.t 0), none⟩,
 ⟨some 13, .len false (.t 12), none⟩,
 ⟨some 14, .bin .lss (.t 11) (.t 13), none⟩]
abbrev quietusref21_Same_r5 : List AI := [
 ⟨some 17, .mv false (.t 0), none⟩,
 ⟨some 18, .mv false (.t 5), none⟩,
 ⟨some 19, .iaddr 1 (.t 17) (.t 18), none⟩,
 ⟨some 20, .load false 1 (.t 19) .foreign, none⟩,
 ⟨some 21, .mv false (.t 1), none⟩,
 ⟨some 22, .mv false (.t 5), none⟩,
 ⟨some 23, .iaddr 1 (.t 21) (.t 22), none⟩,
 ⟨some 24, .load false 1 (.t 23) .foreign, none⟩,
 ⟨some 25, .bin .neq (.t 20) (.t 24), none⟩]
abbrev quietusref21_Same_r6 : List AI := [
 ⟨some 4, .mv true (.c (.bool false)), none⟩]
abbrev quietusref21_Same_r7 : List AI := [
 ⟨some 15, .mv false (.t 5), none⟩,
 ⟨some 16, .bin .add (.t 15) (.c (.int .i64 1)), none⟩,
 ⟨some 5, .mv true (.t 16), none⟩]
abbrev quietusref21_Same_l0 : ACode := .seq (.seq (.reg false quietusref21_Same_r4) (.cond (.t 14) (.skip) (.exit 0))) (.seq (.block 1 (.seq (.reg true quietusref21_Same_r5) (.cond (.t 25) (.seq (.reg false quietusref21_Same_r6) (.ret)) (.skip)))) (.reg false quietusref21_Same_r7))
abbrev quietusref21_Same_r8 : List AI := [
 ⟨some 4, .mv true (.c (.bool true)), none⟩]
abbrev quietusref21_Same_c : ACode := .seq (.reg false quietusref21_Same_r0) (.seq (.seq (.reg false quietusref21_Same_r1) (.cond (.t 10) (.seq (.reg false quietusref21_Same_r2) (.ret)) (.skip))) (.seq (.seq (.reg false quietusref21_Same_r3) (.block 0 (.loop quietusref21_Same_l0))) (.seq (.reg false quietusref21_Same_r8) (.ret))))
def quietusref21_Same_F : AFunc := ⟨26, [.tmp 4], quietusref21_Same_c⟩
theorem quietusref21_Same_cp : compile Try.prog [] f_quietusref21_Same = some quietusref21_Same_F := by kernel_rfl
-- loop 0: [3, 9]
abbrev disk_Disk_sectors_r0 : List AI := [
 ⟨some 2, .mv true (.c .nilS), none⟩]
abbrev disk_Disk_sectors_r1 : List AI := [
 ⟨some 3, .mv true (.c .nilS), none⟩]
abbrev disk_Disk_sectors_r2 : List AI := [
 ⟨some 5, .mv false (.t 0), none⟩,
 ⟨some 6, .nilck (.t 5), none⟩,
 ⟨some 7, .faddr 1 (.t 6), none⟩,
 ⟨some 8, .load false 1 (.t 7) .any, none⟩,
 ⟨some 9, .gn .rng [(.t 8)], none⟩]
abbrev disk_Disk_sectors_r3 : List AI := [
 ⟨some 10, .gn .nxt [(.t 9)], none⟩,
 ⟨some 11, .ext (.t 10) 0, none⟩]
abbrev disk_Disk_sectors_r4 : List AI := [
 ⟨some 12, .gd .entry [(.t 9)], none⟩,
 ⟨some 13, .ext (.t 12) 0, none⟩,
 ⟨some 4, .mv true (.t 13), none⟩]
abbrev disk_Disk_sectors_r5 : List AI := [
 ⟨some 14, .mv true (.t 3), none⟩,
 ⟨some 15, .mv false (.t 4), none⟩,
 ⟨some 16, .mkslice 1 1 (.int .i64 0) [(0, (.t 15))], none⟩,
 ⟨some 17, .appG 1 8 [(.int .i64 0)] (.t 14) (.t 16), none⟩,
 ⟨some 3, .mv true (.t 17), none⟩]
abbrev disk_Disk_sectors_l0 : ACode := .seq (.reg false disk_Disk_sectors_r3) (.seq (.cond (.t 11) (.skip) (.exit 0)) (.block 1 (.seq (.reg false disk_Disk_sectors_r4) (.reg false disk_Disk_sectors_r5))))
abbrev disk_Disk_sectors_r6 : List AI := [
 ⟨some 18, .mv false (.t 3), none⟩,
 ⟨some 19, .call (.c (.fn f_slices_Sort_int_int)) [(.t 18)] 0, none⟩]
abbrev disk_Disk_sectors_r7 : List AI := [
 ⟨some 20, .mv false (.t 3), none⟩,
 ⟨some 2, .mv true (.t 20), none⟩]
abbrev disk_Disk_sectors_c : ACode := .seq (.reg false disk_Disk_sectors_r0) (.seq (.reg false disk_Disk_sectors_r1) (.seq (.seq (.reg false disk_Disk_sectors_r2) (.block 0 (.loop disk_Disk_sectors_l0))) (.seq (.reg false disk_Disk_sectors_r6) (.seq (.reg false disk_Disk_sectors_r7) (.ret)))))
def disk_Disk_sectors_F : AFunc := ⟨21, [.tmp 2], disk_Disk_sectors_c⟩
theorem disk_Disk_sectors_cp : compile Try.prog [17] f_disk_Disk_sectors = some disk_Disk_sectors_F := by kernel_rfl
abbrev disk_found_r0 : List AI := [
 ⟨some 3, .box 65 (.t 0), none⟩,
 ⟨some 6, .alloc (zr 64 (.int .u8 0) ++ [(.bool false)]), none⟩]
abbrev disk_found_r1 : List AI := [
 ⟨some 11, .mv false (.t 1), none⟩,
 ⟨some 12, .len false (.t 11), none⟩,
 ⟨some 7, .mv true (.t 12), none⟩]
abbrev disk_found_r2 : List AI := [
 ⟨some 13, .mv false (.t 2), none⟩,
 ⟨some 14, .mv false (.t 7), none⟩,
 ⟨some 15, .bin .add (.t 14) (.c (.int .i64 3)), none⟩,
 ⟨some 16, .bin .rem (.t 13) (.t 15), none⟩,
 ⟨some 17, .mv false (.t 7), none⟩,
 ⟨some 18, .bin .add (.t 16) (.t 17), none⟩,
 ⟨some 19, .bin .add (.t 18) (.c (.int .i64 3)), none⟩,
 ⟨some 20, .mv false (.t 7), none⟩,
 ⟨some 21, .bin .add (.t 20) (.c (.int .i64 3)), none⟩,
 ⟨some 22, .bin .rem (.t 19) (.t 21), none⟩,
 ⟨some 8, .mv true (.t 22), none⟩]
abbrev disk_found_r3 : List AI := [
 ⟨some 24, .mv false (.t 8), none⟩,
 ⟨some 25, .bin .eql (.t 24) (.c (.int .i64 0)), none⟩,
 ⟨some 23, .mv true (.t 25), none⟩]
abbrev disk_found_r4 : List AI := [
 ⟨some 26, .load true 65 (.t 3) .any, none⟩,
 ⟨none, .store 65 (.t 6) (.t 26) .any, none⟩]
abbrev disk_found_r5 : List AI := [
 ⟨some 28, .mv false (.t 8), none⟩,
 ⟨some 29, .mv false (.t 7), none⟩,
 ⟨some 30, .bin .leq (.t 28) (.t 29), none⟩,
 ⟨some 27, .mv true (.t 30), none⟩]
abbrev disk_found_r6 : List AI := [
 ⟨some 31, .mv false (.t 1), none⟩,
 ⟨some 32, .mv false (.t 8), none⟩,
 ⟨some 33, .bin .sub (.t 32) (.c (.int .i64 1)), none⟩,
 ⟨some 34, .iaddr 64 (.t 31) (.t 33), none⟩,
 ⟨some 35, .load true 64 (.t 34) .any, none⟩,
 ⟨some 36, .build (zr 64 (.int .u8 0) ++ [(.bool false)]) [(0, 64, (.t 35))], none⟩,
 ⟨none, .store 65 (.t 6) (.t 36) .any, none⟩]
abbrev disk_found_r7 : List AI := [
 ⟨some 38, .mv false (.t 8), none⟩,
 ⟨some 39, .mv false (.t 7), none⟩,
 ⟨some 40, .bin .add (.t 39) (.c (.int .i64 1)), none⟩,
 ⟨some 41, .bin .eql (.t 38) (.t 40), none⟩,
 ⟨some 37, .mv true (.t 41), none⟩]
abbrev disk_found_r8 : List AI := [
 ⟨some 42, .build (zr 64 (.int .u8 0) ++ [(.bool false)]) [(64, 1, (.c (.bool true)))], none⟩,
 ⟨none, .store 65 (.t 6) (.t 42) .any, none⟩]
abbrev disk_found_b0 : ACode := .seq (.reg false disk_found_r7) (.cond (.t 37) (.seq (.reg false disk_found_r8) (.ret)) (.skip))
abbrev disk_found_b1 : ACode := .seq (.reg false disk_found_r5) (.cond (.t 27) (.seq (.reg false disk_found_r6) (.ret)) (disk_found_b0))
abbrev disk_found_r9 : List AI := [
 ⟨some 43, .faddr 0 (.t 3), none⟩,
 ⟨some 44, .load true 64 (.t 43) (.site 3), none⟩,
 ⟨some 45, .mv false (.t 1), none⟩,
 ⟨some 46, .mv false (.t 7), none⟩,
 ⟨some 47, .bin .sub (.t 46) (.c (.int .i64 1)), none⟩,
 ⟨some 48, .iaddr 64 (.t 45) (.t 47), none⟩,
 ⟨some 49, .load true 64 (.t 48) .foreign, none⟩,
 ⟨some 9, .gn (.alloc (zr 64 (.int .u8 0))) [], none⟩,
 ⟨some 10, .gn (.alloc (zr 64 (.int .u8 0))) [], none⟩,
 ⟨none, .store 64 (.t 9) (.t 44) .gp, none⟩,
 ⟨none, .store 64 (.t 10) (.t 49) .gp, none⟩]
abbrev disk_found_r10 : List AI := [
 ⟨some 50, .mv false (.t 7), none⟩,
 ⟨some 51, .bin .gtr (.t 50) (.c (.int .i64 1)), none⟩]
abbrev disk_found_r11 : List AI := [
 ⟨some 52, .mv false (.t 1), none⟩,
 ⟨some 53, .mv false (.t 7), none⟩,
 ⟨some 54, .bin .sub (.t 53) (.c (.int .i64 2)), none⟩,
 ⟨some 55, .iaddr 64 (.t 52) (.t 54), none⟩,
 ⟨some 56, .load true 64 (.t 55) .any, none⟩,
 ⟨none, .store 64 (.t 9) (.t 56) .any, none⟩]
abbrev disk_found_r12 : List AI := [
 ⟨some 57, .load true 64 (.t 9) .any, none⟩,
 ⟨some 58, .load true 64 (.t 10) .any, none⟩,
 ⟨some 59, .eqs false (kr 64 .i) (.t 57) (.t 58), none⟩]
abbrev disk_found_r13 : List AI := [
 ⟨some 60, .load true 64 (.t 10) .any, none⟩,
 ⟨some 61, .build (zr 64 (.int .u8 0) ++ [(.bool false)]) [(0, 64, (.t 60))], none⟩,
 ⟨none, .store 65 (.t 6) (.t 61) .any, none⟩]
abbrev disk_found_r14 : List AI := [
 ⟨some 62, .gd (.arrS 1 64 true false false) [(.t 10), (.c (.int .i64 32))], none⟩,
 ⟨some 63, .gd (.arrS 1 64 true false false) [(.t 9), (.c (.int .i64 32))], none⟩,
 ⟨some 64, .copy 1 (.t 62) (.t 63), none⟩]
abbrev disk_found_r15 : List AI := [
 ⟨some 65, .load true 64 (.t 10) .any, none⟩,
 ⟨some 66, .build (zr 64 (.int .u8 0) ++ [(.bool false)]) [(0, 64, (.t 65))], none⟩,
 ⟨none, .store 65 (.t 6) (.t 66) .any, none⟩]
abbrev disk_found_c : ACode := .seq (.reg false disk_found_r0) (.seq (.reg false disk_found_r1) (.seq (.seq (.reg false disk_found_r2) (.block 0 (.seq (.reg false disk_found_r3) (.cond (.t 23) (.seq (.reg false disk_found_r4) (.ret)) (disk_found_b1))))) (.seq (.reg true disk_found_r9) (.seq (.seq (.reg false disk_found_r10) (.cond (.t 51) (.reg false disk_found_r11) (.skip))) (.seq (.seq (.reg false disk_found_r12) (.cond (.t 59) (.seq (.reg false disk_found_r13) (.ret)) (.skip))) (.seq (.reg true disk_found_r14) (.seq (.reg false disk_found_r15) (.ret))))))))
def disk_found_F : AFunc := ⟨67, [.cell 6 true 65], disk_found_c⟩
theorem disk_found_cp : compile Try.prog [9, 10] f_disk_found = some disk_found_F := by kernel_rfl
-- loop 0: [7, 8]
abbrev slices_Repeat_int_int_r0 : List AI := [
 ⟨some 4, .mv true (.c .nilS), none⟩]
abbrev slices_Repeat_int_int_r1 : List AI := [
 ⟨some 9, .mv false (.t 1), none⟩,
 ⟨some 10, .bin .lss (.t 9) (.c (.int .i64 0)), none⟩]
abbrev slices_Repeat_int_int_r2 : List AI := [
 ⟨some 11, .gd .never [], none⟩,
 ⟨none, .gd .never [], none⟩]
abbrev slices_Repeat_int_int_r3 : List AI := [
 ⟨some 13, .mv false (.t 0), none⟩,
 ⟨some 14, .len false (.t 13), none⟩,
 ⟨some 15, .conv .u64 (.t 14), none⟩,
 ⟨some 16, .mv false (.t 1), none⟩,
 ⟨some 17, .conv .u64 (.t 16), none⟩,
 ⟨some 18, .call (.c (.fn f_math_bits_Mul)) [(.t 15), (.t 17)] 0, none⟩,
 ⟨some 12, .mv false (.t 18), none⟩,
 ⟨some 19, .ext (.t 12) 0, none⟩,
 ⟨some 20, .ext (.t 12) 1, none⟩,
 ⟨some 5, .mv true (.t 19), none⟩,
 ⟨some 6, .mv true (.t 20), none⟩]
abbrev slices_Repeat_int_int_r4 : List AI := [
 ⟨some 21, .mv false (.t 5), none⟩,
 ⟨some 22, .bin .gtr (.t 21) (.c (.int .u64 0)), none⟩,
 ⟨some 23, .mv false (.t 22), none⟩,
 ⟨some 24, .mv false (.t 6), some (23, false)⟩,
 ⟨some 25, .bin .gtr (.t 24) (.c (.int .u64 9223372036854775807)), some (23, false)⟩,
 ⟨some 26, .pick (.t 23) (.c (.bool true)) (.t 25), none⟩]
abbrev slices_Repeat_int_int_r5 : List AI := [
 ⟨some 27, .gd .never [], none⟩,
 ⟨none, .gd .never [], none⟩]
abbrev slices_Repeat_int_int_r6 : List AI := [
 ⟨some 28, .mv false (.t 6), none⟩,
 ⟨some 29, .conv .i64 (.t 28), none⟩,
 ⟨some 30, .gn (.mkSl 1 8 [(.int .i64 0)]) [(.t 29), (.t 29)], none⟩,
 ⟨some 7, .mv true (.t 30), none⟩]
abbrev slices_Repeat_int_int_r7 : List AI := [
 ⟨some 31, .mv false (.t 7), none⟩,
 ⟨some 32, .mv false (.t 0), none⟩,
 ⟨some 33, .copy 1 (.t 31) (.t 32), none⟩,
 ⟨some 8, .mv true (.t 33), none⟩]
abbrev slices_Repeat_int_int_r8 : List AI := [
 ⟨some 34, .mv false (.t 8), none⟩,
 ⟨some 35, .mv false (.t 7), none⟩,
 ⟨some 36, .len false (.t 35), none⟩,
 ⟨some 37, .bin .lss (.t 34) (.t 36), none⟩]
abbrev slices_Repeat_int_int_r9 : List AI := [
 ⟨some 38, .mv false (.t 8), none⟩,
 ⟨some 39, .mv false (.t 7), none⟩,
 ⟨some 40, .mv false (.t 8), none⟩,
 ⟨some 41, .sl 1 (.t 39) (some (.t 40)) none, none⟩,
 ⟨some 42, .mv false (.t 7), none⟩,
 ⟨some 43, .mv false (.t 8), none⟩,
 ⟨some 44, .sl 1 (.t 42) none (some (.t 43)), none⟩,
 ⟨some 45, .copy 1 (.t 41) (.t 44), none⟩,
 ⟨some 46, .bin .add (.t 38) (.t 45), none⟩,
 ⟨some 8, .mv true (.t 46), none⟩]
abbrev slices_Repeat_int_int_l0 : ACode := .seq (.seq (.reg false slices_Repeat_int_int_r8) (.cond (.t 37) (.skip) (.exit 0))) (.block 1 (.reg true slices_Repeat_int_int_r9))
abbrev slices_Repeat_int_int_r10 : List AI := [
 ⟨some 47, .mv false (.t 7), none⟩,
 ⟨some 4, .mv true (.t 47), none⟩]
abbrev slices_Repeat_int_int_c : ACode := .seq (.reg false slices_Repeat_int_int_r0) (.seq (.seq (.reg false slices_Repeat_int_int_r1) (.cond (.t 10) (.reg false slices_Repeat_int_int_r2) (.skip))) (.seq (.reg false slices_Repeat_int_int_r3) (.seq (.seq (.reg false slices_Repeat_int_int_r4) (.cond (.t 26) (.reg false slices_Repeat_int_int_r5) (.skip))) (.seq (.reg false slices_Repeat_int_int_r6) (.seq (.reg false slices_Repeat_int_int_r7) (.seq (.block 0 (.loop slices_Repeat_int_int_l0)) (.seq (.reg false slices_Repeat_int_int_r10) (.ret))))))))
def slices_Repeat_int_int_F : AFunc := ⟨48, [.tmp 4], slices_Repeat_int_int_c⟩
theorem slices_Repeat_int_int_cp : compile Try.prog [] f_slices_Repeat_int_int = some slices_Repeat_int_int_F := by kernel_rfl
abbrev math_bits_Mul_r0 : List AI := [
 ⟨some 4, .mv true (.c (.int .u64 0)), none⟩,
 ⟨some 5, .mv true (.c (.int .u64 0)), none⟩]
abbrev math_bits_Mul_r1 : List AI := [
 ⟨some 11, .mv false (.t 0), none⟩,
 ⟨some 12, .conv .u32 (.t 11), none⟩,
 ⟨some 13, .mv false (.t 1), none⟩,
 ⟨some 14, .conv .u32 (.t 13), none⟩,
 ⟨some 15, .call (.c (.fn f_math_bits_Mul32)) [(.t 12), (.t 14)] 0, none⟩,
 ⟨some 10, .mv false (.t 15), none⟩,
 ⟨some 16, .ext (.t 10) 0, none⟩,
 ⟨some 17, .ext (.t 10) 1, none⟩,
 ⟨some 6, .mv true (.t 16), none⟩,
 ⟨some 7, .mv true (.t 17), none⟩]
abbrev math_bits_Mul_r2 : List AI := [
 ⟨some 18, .mv false (.t 6), none⟩,
 ⟨some 19, .conv .u64 (.t 18), none⟩,
 ⟨some 20, .mv false (.t 7), none⟩,
 ⟨some 21, .conv .u64 (.t 20), none⟩,
 ⟨some 4, .mv true (.t 19), none⟩,
 ⟨some 5, .mv true (.t 21), none⟩]
abbrev math_bits_Mul_b0 : ACode := .seq (.reg false math_bits_Mul_r1) (.seq (.reg false math_bits_Mul_r2) (.ret))
abbrev math_bits_Mul_r3 : List AI := [
 ⟨some 23, .mv false (.t 0), none⟩,
 ⟨some 24, .mv false (.t 1), none⟩,
 ⟨some 25, .call (.c (.fn f_math_bits_Mul64)) [(.t 23), (.t 24)] 0, none⟩,
 ⟨some 22, .mv false (.t 25), none⟩,
 ⟨some 26, .ext (.t 22) 0, none⟩,
 ⟨some 27, .ext (.t 22) 1, none⟩,
 ⟨some 8, .mv true (.t 26), none⟩,
 ⟨some 9, .mv true (.t 27), none⟩]
abbrev math_bits_Mul_r4 : List AI := [
 ⟨some 28, .mv false (.t 8), none⟩,
 ⟨some 29, .mv false (.t 9), none⟩,
 ⟨some 4, .mv true (.t 28), none⟩,
 ⟨some 5, .mv true (.t 29), none⟩]
abbrev math_bits_Mul_c : ACode := .seq (.reg false math_bits_Mul_r0) (.seq (.cond (.c (.bool false)) (math_bits_Mul_b0) (.skip)) (.seq (.reg false math_bits_Mul_r3) (.seq (.reg false math_bits_Mul_r4) (.ret))))
def math_bits_Mul_F : AFunc := ⟨30, [.tmp 4, .tmp 5], math_bits_Mul_c⟩
theorem math_bits_Mul_cp : compile Try.prog [] f_math_bits_Mul = some math_bits_Mul_F := by kernel_rfl
abbrev math_bits_Mul64_r0 : List AI := [
 ⟨some 4, .mv true (.c (.int .u64 0)), none⟩,
 ⟨some 5, .mv true (.c (.int .u64 0)), none⟩]
abbrev math_bits_Mul64_r1 : List AI := [
 ⟨some 14, .mv false (.t 0), none⟩,
 ⟨some 15, .bin .and (.t 14) (.c (.int .u64 4294967295)), none⟩,
 ⟨some 6, .mv true (.t 15), none⟩]
abbrev math_bits_Mul64_r2 : List AI := [
 ⟨some 16, .mv false (.t 0), none⟩,
 ⟨some 17, .bin .shr (.t 16) (.c (.int .u64 32)), none⟩,
 ⟨some 7, .mv true (.t 17), none⟩]
abbrev math_bits_Mul64_r3 : List AI := [
 ⟨some 18, .mv false (.t 1), none⟩,
 ⟨some 19, .bin .and (.t 18) (.c (.int .u64 4294967295)), none⟩,
 ⟨some 8, .mv true (.t 19), none⟩]
abbrev math_bits_Mul64_r4 : List AI := [
 ⟨some 20, .mv false (.t 1), none⟩,
 ⟨some 21, .bin .shr (.t 20) (.c (.int .u64 32)), none⟩,
 ⟨some 9, .mv true (.t 21), none⟩]
abbrev math_bits_Mul64_r5 : List AI := [
 ⟨some 22, .mv false (.t 6), none⟩,
 ⟨some 23, .mv false (.t 8), none⟩,
 ⟨some 24, .bin .mul (.t 22) (.t 23), none⟩,
 ⟨some 10, .mv true (.t 24), none⟩]
abbrev math_bits_Mul64_r6 : List AI := [
 ⟨some 25, .mv false (.t 7), none⟩,
 ⟨some 26, .mv false (.t 8), none⟩,
 ⟨some 27, .bin .mul (.t 25) (.t 26), none⟩,
 ⟨some 28, .mv false (.t 10), none⟩,
 ⟨some 29, .bin .shr (.t 28) (.c (.int .u64 32)), none⟩,
 ⟨some 30, .bin .add (.t 27) (.t 29), none⟩,
 ⟨some 11, .mv true (.t 30), none⟩]
abbrev math_bits_Mul64_r7 : List AI := [
 ⟨some 31, .mv false (.t 11), none⟩,
 ⟨some 32, .bin .and (.t 31) (.c (.int .u64 4294967295)), none⟩,
 ⟨some 12, .mv true (.t 32), none⟩]
abbrev math_bits_Mul64_r8 : List AI := [
 ⟨some 33, .mv false (.t 11), none⟩,
 ⟨some 34, .bin .shr (.t 33) (.c (.int .u64 32)), none⟩,
 ⟨some 13, .mv true (.t 34), none⟩]
abbrev math_bits_Mul64_r9 : List AI := [
 ⟨some 35, .mv false (.t 12), none⟩,
 ⟨some 36, .mv false (.t 6), none⟩,
 ⟨some 37, .mv false (.t 9), none⟩,
 ⟨some 38, .bin .mul (.t 36) (.t 37), none⟩,
 ⟨some 39, .bin .add (.t 35) (.t 38), none⟩,
 ⟨some 12, .mv true (.t 39), none⟩]
abbrev math_bits_Mul64_r10 : List AI := [
 ⟨some 40, .mv false (.t 7), none⟩,
 ⟨some 41, .mv false (.t 9), none⟩,
 ⟨some 42, .bin .mul (.t 40) (.t 41), none⟩,
 ⟨some 43, .mv false (.t 13), none⟩,
 ⟨some 44, .bin .add (.t 42) (.t 43), none⟩,
 ⟨some 45, .mv false (.t 12), none⟩,
 ⟨some 46, .bin .shr (.t 45) (.c (.int .u64 32)), none⟩,
 ⟨some 47, .bin .add (.t 44) (.t 46), none⟩,
 ⟨some 4, .mv true (.t 47), none⟩]
abbrev math_bits_Mul64_r11 : List AI := [
 ⟨some 48, .mv false (.t 0), none⟩,
 ⟨some 49, .mv false (.t 1), none⟩,
 ⟨some 50, .bin .mul (.t 48) (.t 49), none⟩,
 ⟨some 5, .mv true (.t 50), none⟩]
abbrev math_bits_Mul64_c : ACode := .seq (.reg false math_bits_Mul64_r0) (.seq (.reg false math_bits_Mul64_r1) (.seq (.reg false math_bits_Mul64_r2) (.seq (.reg false math_bits_Mul64_r3) (.seq (.reg false math_bits_Mul64_r4) (.seq (.reg false math_bits_Mul64_r5) (.seq (.reg false math_bits_Mul64_r6) (.seq (.reg false math_bits_Mul64_r7) (.seq (.reg false math_bits_Mul64_r8) (.seq (.reg false math_bits_Mul64_r9) (.seq (.reg false math_bits_Mul64_r10) (.seq (.reg false math_bits_Mul64_r11) (.ret))))))))))))
def math_bits_Mul64_F : AFunc := ⟨51, [.tmp 4, .tmp 5], math_bits_Mul64_c⟩
theorem math_bits_Mul64_cp : compile Try.prog [] f_math_bits_Mul64 = some math_bits_Mul64_F := by kernel_rfl
theorem fol : Try.prog.follows .mixedOrders = true := by kernel_rfl
end
end Go.Proofs.Ytioojmlhmhgeeaa
