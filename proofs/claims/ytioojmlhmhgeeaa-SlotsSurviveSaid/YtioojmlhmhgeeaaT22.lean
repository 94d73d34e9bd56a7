/-
 The functions' code in the evaluator's form, printed by a program of ours from the loaded program, and checked against it.
 Conditions: none.
-/
import Derived.Test.YtioojmlhmhgeeaaProg
import Derived.KernelRfl
import Derived.Test.YtioojmlhmhgeeaaEZ
namespace Go.Proofs.Ytioojmlhmhgeeaa
open Go Go.E2
noncomputable section
abbrev f_quietuslaw22_SlotsSurvive : FuncId := 8
abbrev f_disk_New : FuncId := 11
abbrev f_quietuslaw22_sanity : FuncId := 12
abbrev f_disk_Disk_Write : FuncId := 13
abbrev f_slots_Format : FuncId := 15
abbrev f_slots_Open : FuncId := 16
abbrev f_disk_Disk_Read : FuncId := 17
abbrev f_slots_Store_Put : FuncId := 18
abbrev f_slots_Store_Kill : FuncId := 19
abbrev f_slots_Store_Get : FuncId := 20
abbrev f_disk_Disk_Crash : FuncId := 26
abbrev f_disk_Disk_Size : FuncId := 27
abbrev f_disk_Disk_Down : FuncId := 28
abbrev f_disk_Disk_Steps : FuncId := 29
abbrev f_disk_Disk_Arm : FuncId := 32
abbrev f_disk_Disk_Sync : FuncId := 33
abbrev f_disk_Disk_Rot : FuncId := 35
abbrev f_quietuslaw22_guard_reopen : FuncId := 36
abbrev f_quietuslaw22_guard_change : FuncId := 37
abbrev f_quietuslaw22_guard_right : FuncId := 38
abbrev f_quietusref22_Copy : FuncId := 46
abbrev f_disk_Disk_check : FuncId := 47
abbrev f_disk_Disk_step : FuncId := 48
abbrev f_slots_make1 : FuncId := 49
abbrev f_slots_part_slot : FuncId := 50
abbrev f_slots_part_heal : FuncId := 51
abbrev f_slots_Store_change : FuncId := 52
abbrev f_disk_Disk_sectors : FuncId := 61
abbrev f_disk_found : FuncId := 62
abbrev f_slots_part_copies : FuncId := 70
abbrev f_slots_number : FuncId := 71
abbrev f_slots_part_write : FuncId := 72
abbrev f_slices_Sort_int_int : FuncId := 74
abbrev f_slots_part_copies_1 : FuncId := 80
-- loop 0: [7, 8, 9, 10, 61]
-- loop 0: [4, 69, 70, 71]
abbrev quietuslaw22_SlotsSurvive_r0 : List AI := [
 ⟨some 2, .mv true (.c (.bool false)), none⟩]
abbrev quietuslaw22_SlotsSurvive_r1 : List AI := [
 ⟨some 13, .call (.c (.fn f_disk_New)) [(.c (.int .i64 6))] 0, none⟩,
 ⟨some 3, .mv true (.t 13), none⟩]
abbrev quietuslaw22_SlotsSurvive_r2 : List AI := [
 ⟨some 14, .mv false (.t 0), none⟩,
 ⟨some 15, .len false (.t 14), none⟩,
 ⟨some 16, .bin .gtr (.t 15) (.c (.int .i64 30)), none⟩,
 ⟨some 17, .mv false (.t 16), none⟩,
 ⟨some 18, .mv false (.t 3), some (17, false)⟩,
 ⟨some 19, .gd (.pnil 0 false) [(.t 18)], some (17, false)⟩,
 ⟨some 20, .pick (.t 17) (.c (.bool true)) (.t 19), none⟩]
abbrev quietuslaw22_SlotsSurvive_r3 : List AI := [
 ⟨some 21, .call (.c (.fn f_quietuslaw22_sanity)) [] 0, none⟩,
 ⟨some 2, .mv true (.t 21), none⟩]
abbrev quietuslaw22_SlotsSurvive_r4 : List AI := [
 ⟨some 22, .mv false (.t 3), none⟩,
 ⟨some 23, .build [(.int .i64 0), (.int .i64 0), (.int .i64 0)] [(0, 1, (.c (.int .i64 (-1)))), (1, 1, (.c (.int .i64 (-1)))), (2, 1, (.c (.int .i64 (-1))))], none⟩,
 ⟨some 24, .build [.nilP, .nilP, (.str []), (.str []), (.str []), (.bool false), (.int .i64 0), (.str []), (.int .i64 0), (.int .i64 0), (.int .i64 0)] [(0, 1, (.t 22)), (8, 3, (.t 23))], none⟩,
 ⟨some 25, .gn (.box 11) [(.t 24)], none⟩,
 ⟨some 4, .mv true (.t 25), none⟩]
abbrev quietuslaw22_SlotsSurvive_r5 : List AI := [
 ⟨some 27, .mv false (.t 3), none⟩,
 ⟨some 28, .call (.c (.fn f_slots_Open)) [(.t 27), (.c (.int .i64 0)), (.c (.int .i64 3))] 0, none⟩,
 ⟨some 26, .mv false (.t 28), none⟩,
 ⟨some 29, .ext (.t 26) 0, none⟩,
 ⟨some 30, .ext (.t 26) 1, none⟩,
 ⟨some 31, .ext (.t 26) 2, none⟩,
 ⟨some 5, .mv true (.t 29), none⟩,
 ⟨some 6, .mv true (.t 30), none⟩,
 ⟨some 7, .mv true (.t 31), none⟩]
abbrev quietuslaw22_SlotsSurvive_r6 : List AI := [
 ⟨some 32, .mv false (.t 3), none⟩,
 ⟨some 33, .call (.c (.fn f_slots_Format)) [(.t 32), (.c (.int .i64 0)), (.c (.int .i64 3))] 0, none⟩,
 ⟨some 34, .bin .neq (.t 33) (.c (.int .i64 0)), none⟩,
 ⟨some 35, .mv false (.t 34), none⟩,
 ⟨some 36, .mv false (.t 5), some (35, false)⟩,
 ⟨some 37, .gd (.pnil 0 false) [(.t 36)], some (35, false)⟩,
 ⟨some 38, .pick (.t 35) (.c (.bool true)) (.t 37), none⟩,
 ⟨some 39, .mv false (.t 38), none⟩,
 ⟨some 40, .mv false (.t 7), some (39, false)⟩,
 ⟨some 41, .bin .neq (.t 40) (.c (.int .i64 0)), some (39, false)⟩,
 ⟨some 42, .pick (.t 39) (.c (.bool true)) (.t 41), none⟩,
 ⟨some 43, .mv false (.t 42), none⟩,
 ⟨some 44, .mv false (.t 6), some (43, false)⟩,
 ⟨some 45, .len false (.t 44), some (43, false)⟩,
 ⟨some 46, .bin .neq (.t 45) (.c (.int .i64 3)), some (43, false)⟩,
 ⟨some 47, .pick (.t 43) (.c (.bool true)) (.t 46), none⟩]
abbrev quietuslaw22_SlotsSurvive_r7 : List AI := [
 ⟨some 2, .mv true (.c (.bool false)), none⟩]
abbrev quietuslaw22_SlotsSurvive_r8 : List AI := [
 ⟨some 49, .mv false (.t 3), none⟩,
 ⟨some 50, .call (.c (.fn f_slots_Open)) [(.t 49), (.c (.int .i64 0)), (.c (.int .i64 3))] 0, none⟩,
 ⟨some 48, .mv false (.t 50), none⟩,
 ⟨some 51, .ext (.t 48) 0, none⟩,
 ⟨some 52, .ext (.t 48) 1, none⟩,
 ⟨some 53, .ext (.t 48) 2, none⟩,
 ⟨some 5, .mv true (.t 51), none⟩,
 ⟨some 6, .mv true (.t 52), none⟩,
 ⟨some 7, .mv true (.t 53), none⟩]
abbrev quietuslaw22_SlotsSurvive_r9 : List AI := [
 ⟨some 54, .mv false (.t 4), none⟩,
 ⟨some 55, .mv false (.t 5), none⟩,
 ⟨some 56, .nilck (.t 54), none⟩,
 ⟨some 57, .faddr 1 (.t 56), none⟩,
 ⟨none, .store 1 (.t 57) (.t 55) .any, none⟩]
abbrev quietuslaw22_SlotsSurvive_r10 : List AI := [
 ⟨some 58, .mv false (.t 5), none⟩,
 ⟨some 59, .gd (.pnil 0 false) [(.t 58)], none⟩,
 ⟨some 60, .mv false (.t 59), none⟩,
 ⟨some 61, .mv false (.t 7), some (60, false)⟩,
 ⟨some 62, .bin .neq (.t 61) (.c (.int .i64 0)), some (60, false)⟩,
 ⟨some 63, .pick (.t 60) (.c (.bool true)) (.t 62), none⟩,
 ⟨some 64, .mv false (.t 63), none⟩,
 ⟨some 65, .mv false (.t 6), some (64, false)⟩,
 ⟨some 66, .len false (.t 65), some (64, false)⟩,
 ⟨some 67, .bin .neq (.t 66) (.c (.int .i64 0)), some (64, false)⟩,
 ⟨some 68, .pick (.t 64) (.c (.bool true)) (.t 67), none⟩]
abbrev quietuslaw22_SlotsSurvive_r11 : List AI := [
 ⟨some 2, .mv true (.c (.bool false)), none⟩]
abbrev quietuslaw22_SlotsSurvive_r12 : List AI := [
 ⟨some 69, .mv false (.t 0), none⟩,
 ⟨some 70, .len false (.t 69), none⟩,
 ⟨some 71, .mv false (.c (.int .i64 0)), none⟩]
abbrev quietuslaw22_SlotsSurvive_r13 : List AI := [
 ⟨some 72, .bin .lss (.t 71) (.t 70), none⟩]
abbrev quietuslaw22_SlotsSurvive_r14 : List AI := [
 ⟨some 73, .iaddr 4 (.t 69) (.t 71), none⟩,
 ⟨some 74, .load true 4 (.t 73) .any, none⟩,
 ⟨some 9, .alloc [(.int .i64 0), (.int .i64 0), (.str []), .nilS], none⟩,
 ⟨none, .store 4 (.t 9) (.t 74) .any, none⟩]
abbrev quietuslaw22_SlotsSurvive_r15 : List AI := [
 ⟨some 10, .mv true (.c (.bool true)), none⟩]
abbrev quietuslaw22_SlotsSurvive_r16 : List AI := [
 ⟨some 75, .faddr 1 (.t 9), none⟩,
 ⟨some 76, .load false 1 (.t 75) .any, none⟩,
 ⟨some 77, .conv .u64 (.t 76), none⟩,
 ⟨some 78, .bin .rem (.t 77) (.c (.int .u64 3)), none⟩,
 ⟨some 79, .conv .i64 (.t 78), none⟩,
 ⟨some 11, .mv true (.t 79), none⟩]
abbrev quietuslaw22_SlotsSurvive_r17 : List AI := [
 ⟨some 81, .mv false (.t 4), none⟩,
 ⟨some 82, .nilck (.t 81), none⟩,
 ⟨some 83, .faddr 5 (.t 82), none⟩,
 ⟨some 84, .load false 1 (.t 83) .any, none⟩,
 ⟨some 85, .mv false (.t 84), none⟩,
 ⟨some 86, .faddr 0 (.t 9), some (85, false)⟩,
 ⟨some 87, .load false 1 (.t 86) .any, some (85, false)⟩,
 ⟨some 88, .bin .eql (.t 87) (.c (.int .i64 4)), some (85, false)⟩,
 ⟨some 89, .pick (.t 85) (.c (.bool true)) (.t 88), none⟩,
 ⟨some 80, .mv true (.t 89), none⟩]
abbrev quietuslaw22_SlotsSurvive_r18 : List AI := [
 ⟨some 90, .mv false (.t 4), none⟩,
 ⟨some 91, .load true 4 (.t 9) .any, none⟩,
 ⟨some 92, .call (.c (.fn f_quietuslaw22_guard_reopen)) [(.t 90), (.t 91)] 0, none⟩,
 ⟨some 10, .mv true (.t 92), none⟩]
abbrev quietuslaw22_SlotsSurvive_r19 : List AI := [
 ⟨some 94, .faddr 0 (.t 9), none⟩,
 ⟨some 95, .load false 1 (.t 94) .any, none⟩,
 ⟨some 96, .bin .eql (.t 95) (.c (.int .i64 0)), none⟩,
 ⟨some 97, .mv false (.t 96), none⟩,
 ⟨some 98, .faddr 2 (.t 9), some (97, true)⟩,
 ⟨some 99, .load false 1 (.t 98) .any, some (97, true)⟩,
 ⟨some 100, .len true (.t 99), some (97, true)⟩,
 ⟨some 101, .bin .geq (.t 100) (.c (.int .i64 1)), some (97, true)⟩,
 ⟨some 102, .pick (.t 97) (.t 101) (.c (.bool false)), none⟩,
 ⟨some 103, .mv false (.t 102), none⟩,
 ⟨some 104, .faddr 2 (.t 9), some (103, true)⟩,
 ⟨some 105, .load false 1 (.t 104) .any, some (103, true)⟩,
 ⟨some 106, .len true (.t 105), some (103, true)⟩,
 ⟨some 107, .bin .leq (.t 106) (.c (.int .i64 55)), some (103, true)⟩,
 ⟨some 108, .pick (.t 103) (.t 107) (.c (.bool false)), none⟩,
 ⟨some 93, .mv true (.t 108), none⟩]
abbrev quietuslaw22_SlotsSurvive_r20 : List AI := [
 ⟨some 109, .mv false (.t 4), none⟩,
 ⟨some 110, .mv false (.t 11), none⟩,
 ⟨some 111, .faddr 2 (.t 9), none⟩,
 ⟨some 112, .load false 1 (.t 111) .any, none⟩,
 ⟨some 113, .call (.c (.fn f_quietuslaw22_guard_change)) [(.t 109), (.t 110), (.t 112)] 0, none⟩,
 ⟨some 10, .mv true (.t 113), none⟩]
abbrev quietuslaw22_SlotsSurvive_r21 : List AI := [
 ⟨some 115, .faddr 0 (.t 9), none⟩,
 ⟨some 116, .load false 1 (.t 115) .any, none⟩,
 ⟨some 117, .bin .eql (.t 116) (.c (.int .i64 1)), none⟩,
 ⟨some 114, .mv true (.t 117), none⟩]
abbrev quietuslaw22_SlotsSurvive_r22 : List AI := [
 ⟨some 118, .mv false (.t 4), none⟩,
 ⟨some 119, .mv false (.t 11), none⟩,
 ⟨some 120, .call (.c (.fn f_quietuslaw22_guard_change)) [(.t 118), (.t 119), (.c (.str []))] 0, none⟩,
 ⟨some 10, .mv true (.t 120), none⟩]
abbrev quietuslaw22_SlotsSurvive_r23 : List AI := [
 ⟨some 122, .faddr 0 (.t 9), none⟩,
 ⟨some 123, .load false 1 (.t 122) .any, none⟩,
 ⟨some 124, .bin .eql (.t 123) (.c (.int .i64 3)), none⟩,
 ⟨some 121, .mv true (.t 124), none⟩]
abbrev quietuslaw22_SlotsSurvive_r24 : List AI := [
 ⟨some 125, .mv false (.t 4), none⟩,
 ⟨some 126, .nilck (.t 125), none⟩,
 ⟨some 127, .faddr 0 (.t 126), none⟩,
 ⟨some 128, .load false 1 (.t 127) .foreign, none⟩,
 ⟨some 129, .faddr 1 (.t 9), none⟩,
 ⟨some 130, .load false 1 (.t 129) (.site 9), none⟩,
 ⟨some 131, .call (.c (.fn f_disk_Disk_Arm)) [(.t 128), (.t 130)] 2, none⟩]
abbrev quietuslaw22_SlotsSurvive_r25 : List AI := [
 ⟨some 133, .faddr 0 (.t 9), none⟩,
 ⟨some 134, .load false 1 (.t 133) .any, none⟩,
 ⟨some 135, .bin .eql (.t 134) (.c (.int .i64 5)), none⟩,
 ⟨some 132, .mv true (.t 135), none⟩]
abbrev quietuslaw22_SlotsSurvive_r26 : List AI := [
 ⟨some 136, .faddr 1 (.t 9), none⟩,
 ⟨some 137, .load false 1 (.t 136) .any, none⟩,
 ⟨some 138, .conv .u64 (.t 137), none⟩,
 ⟨some 139, .bin .quo (.t 138) (.c (.int .u64 3)), none⟩,
 ⟨some 140, .bin .rem (.t 139) (.c (.int .u64 2)), none⟩,
 ⟨some 141, .conv .i64 (.t 140), none⟩,
 ⟨some 12, .mv true (.t 141), none⟩]
abbrev quietuslaw22_SlotsSurvive_r27 : List AI := [
 ⟨some 142, .mv false (.t 4), none⟩,
 ⟨some 143, .mv false (.t 11), none⟩,
 ⟨some 144, .nilck (.t 142), none⟩,
 ⟨some 145, .faddr 8 (.t 144), none⟩,
 ⟨some 146, .iaddrA 3 1 (.t 145) (.t 143), none⟩,
 ⟨some 147, .load false 1 (.t 146) .any, none⟩,
 ⟨some 148, .bin .lss (.t 147) (.c (.int .i64 0)), none⟩,
 ⟨some 149, .mv false (.t 148), none⟩,
 ⟨some 150, .mv false (.t 4), some (149, false)⟩,
 ⟨some 151, .mv false (.t 11), some (149, false)⟩,
 ⟨some 152, .nilck (.t 150), some (149, false)⟩,
 ⟨some 153, .faddr 8 (.t 152), some (149, false)⟩,
 ⟨some 154, .iaddrA 3 1 (.t 153) (.t 151), some (149, false)⟩,
 ⟨some 155, .load false 1 (.t 154) .any, some (149, false)⟩,
 ⟨some 156, .mv false (.t 12), some (149, false)⟩,
 ⟨some 157, .bin .eql (.t 155) (.t 156), some (149, false)⟩,
 ⟨some 158, .pick (.t 149) (.c (.bool true)) (.t 157), none⟩]
abbrev quietuslaw22_SlotsSurvive_r28 : List AI := [
 ⟨some 159, .mv false (.t 4), none⟩,
 ⟨some 160, .mv false (.t 11), none⟩,
 ⟨some 161, .mv false (.t 12), none⟩,
 ⟨some 162, .nilck (.t 159), none⟩,
 ⟨some 163, .faddr 8 (.t 162), none⟩,
 ⟨some 164, .iaddrA 3 1 (.t 163) (.t 160), none⟩,
 ⟨none, .store 1 (.t 164) (.t 161) .any, none⟩]
abbrev quietuslaw22_SlotsSurvive_r29 : List AI := [
 ⟨some 165, .mv false (.t 4), none⟩,
 ⟨some 166, .nilck (.t 165), none⟩,
 ⟨some 167, .faddr 0 (.t 166), none⟩,
 ⟨some 168, .load false 1 (.t 167) .any, none⟩,
 ⟨some 169, .mv false (.t 11), none⟩,
 ⟨some 170, .bin .mul (.c (.int .i64 2)) (.t 169), none⟩,
 ⟨some 171, .mv false (.t 12), none⟩,
 ⟨some 172, .bin .add (.t 170) (.t 171), none⟩,
 ⟨some 173, .call (.c (.fn f_disk_Disk_Rot)) [(.t 168), (.t 172)] 0, none⟩,
 ⟨some 174, .bin .eql (.t 173) (.c (.int .i64 0)), none⟩,
 ⟨some 10, .mv true (.t 174), none⟩]
abbrev quietuslaw22_SlotsSurvive_b0 : ACode := .seq (.reg false quietuslaw22_SlotsSurvive_r26) (.seq (.reg false quietuslaw22_SlotsSurvive_r27) (.cond (.t 158) (.seq (.reg false quietuslaw22_SlotsSurvive_r28) (.reg false quietuslaw22_SlotsSurvive_r29)) (.skip)))
abbrev quietuslaw22_SlotsSurvive_b1 : ACode := .seq (.reg false quietuslaw22_SlotsSurvive_r25) (.cond (.t 132) (quietuslaw22_SlotsSurvive_b0) (.skip))
abbrev quietuslaw22_SlotsSurvive_b2 : ACode := .seq (.reg false quietuslaw22_SlotsSurvive_r23) (.cond (.t 121) (.reg true quietuslaw22_SlotsSurvive_r24) (quietuslaw22_SlotsSurvive_b1))
abbrev quietuslaw22_SlotsSurvive_b3 : ACode := .seq (.reg false quietuslaw22_SlotsSurvive_r21) (.cond (.t 114) (.reg false quietuslaw22_SlotsSurvive_r22) (quietuslaw22_SlotsSurvive_b2))
abbrev quietuslaw22_SlotsSurvive_b4 : ACode := .seq (.reg false quietuslaw22_SlotsSurvive_r19) (.cond (.t 93) (.reg false quietuslaw22_SlotsSurvive_r20) (quietuslaw22_SlotsSurvive_b3))
abbrev quietuslaw22_SlotsSurvive_r30 : List AI := [
 ⟨some 175, .mv false (.t 10), none⟩,
 ⟨some 176, .not (.t 175), none⟩,
 ⟨some 177, .mv false (.t 176), none⟩,
 ⟨some 178, .mv false (.t 4), some (177, false)⟩,
 ⟨some 179, .nilck (.t 178), some (177, false)⟩,
 ⟨some 180, .faddr 5 (.t 179), some (177, false)⟩,
 ⟨some 181, .load false 1 (.t 180) .any, some (177, false)⟩,
 ⟨some 182, .not (.t 181), some (177, false)⟩,
 ⟨some 183, .mv false (.t 182), some (177, false)⟩,
 ⟨some 184, .mv false (.t 4), some (183, true)⟩,
 ⟨some 185, .call (.c (.fn f_quietuslaw22_guard_right)) [(.t 184)] 0, some (183, true)⟩,
 ⟨some 186, .not (.t 185), some (183, true)⟩,
 ⟨some 187, .pick (.t 183) (.t 186) (.c (.bool false)), some (177, false)⟩,
 ⟨some 188, .pick (.t 177) (.c (.bool true)) (.t 187), none⟩]
abbrev quietuslaw22_SlotsSurvive_r31 : List AI := [
 ⟨some 2, .mv true (.c (.bool false)), none⟩]
abbrev quietuslaw22_SlotsSurvive_r32 : List AI := [
 ⟨some 189, .bin .add (.t 71) (.c (.int .i64 1)), none⟩,
 ⟨some 71, .mv false (.t 189), none⟩]
abbrev quietuslaw22_SlotsSurvive_l0 : ACode := .seq (.reg false quietuslaw22_SlotsSurvive_r13) (.seq (.cond (.t 72) (.skip) (.exit 0)) (.seq (.block 1 (.seq (.reg false quietuslaw22_SlotsSurvive_r14) (.seq (.reg false quietuslaw22_SlotsSurvive_r15) (.seq (.reg false quietuslaw22_SlotsSurvive_r16) (.seq (.block 2 (.seq (.reg false quietuslaw22_SlotsSurvive_r17) (.cond (.t 80) (.reg false quietuslaw22_SlotsSurvive_r18) (quietuslaw22_SlotsSurvive_b4)))) (.seq (.reg false quietuslaw22_SlotsSurvive_r30) (.cond (.t 188) (.seq (.reg false quietuslaw22_SlotsSurvive_r31) (.ret)) (.skip)))))))) (.reg false quietuslaw22_SlotsSurvive_r32)))
abbrev quietuslaw22_SlotsSurvive_r33 : List AI := [
 ⟨some 190, .call (.c (.fn f_quietuslaw22_sanity)) [] 0, none⟩,
 ⟨some 2, .mv true (.t 190), none⟩]
abbrev quietuslaw22_SlotsSurvive_c : ACode := .seq (.reg false quietuslaw22_SlotsSurvive_r0) (.seq (.reg false quietuslaw22_SlotsSurvive_r1) (.seq (.seq (.reg false quietuslaw22_SlotsSurvive_r2) (.cond (.t 20) (.seq (.reg false quietuslaw22_SlotsSurvive_r3) (.ret)) (.skip))) (.seq (.reg false quietuslaw22_SlotsSurvive_r4) (.seq (.reg false quietuslaw22_SlotsSurvive_r5) (.seq (.seq (.reg false quietuslaw22_SlotsSurvive_r6) (.cond (.t 47) (.seq (.reg false quietuslaw22_SlotsSurvive_r7) (.ret)) (.skip))) (.seq (.reg false quietuslaw22_SlotsSurvive_r8) (.seq (.reg false quietuslaw22_SlotsSurvive_r9) (.seq (.seq (.reg false quietuslaw22_SlotsSurvive_r10) (.cond (.t 68) (.seq (.reg false quietuslaw22_SlotsSurvive_r11) (.ret)) (.skip))) (.seq (.seq (.reg false quietuslaw22_SlotsSurvive_r12) (.block 0 (.loop quietuslaw22_SlotsSurvive_l0))) (.seq (.reg false quietuslaw22_SlotsSurvive_r33) (.ret)))))))))))
def quietuslaw22_SlotsSurvive_F : AFunc := ⟨191, [.tmp 2], quietuslaw22_SlotsSurvive_c⟩
theorem quietuslaw22_SlotsSurvive_cp : compile Try.prog [25, 131] f_quietuslaw22_SlotsSurvive = some quietuslaw22_SlotsSurvive_F := by kernel_rfl
abbrev disk_New_r0 : List AI := [
 ⟨some 2, .mv true (.c .nilP), none⟩]
abbrev disk_New_r1 : List AI := [
 ⟨some 3, .mv false (.t 0), none⟩,
 ⟨some 4, .bin .lss (.t 3) (.c (.int .i64 1)), none⟩,
 ⟨some 5, .mv false (.t 4), none⟩,
 ⟨some 6, .mv false (.t 0), some (5, false)⟩,
 ⟨some 7, .bin .gtr (.t 6) (.c (.int .i64 65536)), some (5, false)⟩,
 ⟨some 8, .pick (.t 5) (.c (.bool true)) (.t 7), none⟩]
abbrev disk_New_r2 : List AI := [
 ⟨some 2, .mv true (.c .nilP), none⟩]
abbrev disk_New_r3 : List AI := [
 ⟨some 9, .mv false (.t 0), none⟩,
 ⟨some 10, .gn (.mkSl 65 65 (zr 64 (.int .u8 0) ++ [(.bool false)])) [(.t 9), (.t 9)], none⟩,
 ⟨some 11, .gn .mkM [], none⟩,
 ⟨some 12, .build [.nilS, .nilM, (.int .i64 0), (.int .i64 0), (.bool false)] [(0, 1, (.t 10)), (1, 1, (.t 11)), (3, 1, (.c (.int .i64 (-1))))], none⟩,
 ⟨some 13, .gn (.box 5) [(.t 12)], none⟩,
 ⟨some 2, .mv true (.t 13), none⟩]
abbrev disk_New_c : ACode := .seq (.reg false disk_New_r0) (.seq (.seq (.reg false disk_New_r1) (.cond (.t 8) (.seq (.reg false disk_New_r2) (.ret)) (.skip))) (.seq (.reg false disk_New_r3) (.ret)))
def disk_New_F : AFunc := ⟨14, [.tmp 2], disk_New_c⟩
theorem disk_New_cp : compile Try.prog [13] f_disk_New = some disk_New_F := by kernel_rfl
abbrev quietuslaw22_sanity_r0 : List AI := [
 ⟨some 0, .mv true (.c (.bool false)), none⟩]
abbrev quietuslaw22_sanity_r1 : List AI := [
 ⟨some 24, .call (.c (.fn f_disk_New)) [(.c (.int .i64 8))] 0, none⟩,
 ⟨some 1, .mv true (.t 24), none⟩]
abbrev quietuslaw22_sanity_r2 : List AI := [
 ⟨some 25, .mv false (.t 1), none⟩,
 ⟨some 26, .gd (.pnil 0 false) [(.t 25)], none⟩,
 ⟨some 27, .mv false (.t 26), none⟩,
 ⟨some 28, .mv false (.t 1), some (27, false)⟩,
 ⟨some 29, .call (.c (.fn f_slots_Format)) [(.t 28), (.c (.int .i64 0)), (.c (.int .i64 4))] 0, some (27, false)⟩,
 ⟨some 30, .bin .neq (.t 29) (.c (.int .i64 0)), some (27, false)⟩,
 ⟨some 31, .pick (.t 27) (.c (.bool true)) (.t 30), none⟩,
 ⟨some 32, .mv false (.t 31), none⟩,
 ⟨some 33, .mv false (.t 1), some (32, false)⟩,
 ⟨some 34, .call (.c (.fn f_disk_Disk_Steps)) [(.t 33)] 0, some (32, false)⟩,
 ⟨some 35, .bin .neq (.t 34) (.c (.int .i64 9)), some (32, false)⟩,
 ⟨some 36, .pick (.t 32) (.c (.bool true)) (.t 35), none⟩]
abbrev quietuslaw22_sanity_r3 : List AI := [
 ⟨some 0, .mv true (.c (.bool false)), none⟩]
abbrev quietuslaw22_sanity_r4 : List AI := [
 ⟨some 38, .mv false (.t 1), none⟩,
 ⟨some 39, .call (.c (.fn f_slots_Open)) [(.t 38), (.c (.int .i64 0)), (.c (.int .i64 4))] 0, none⟩,
 ⟨some 37, .mv false (.t 39), none⟩,
 ⟨some 40, .ext (.t 37) 0, none⟩,
 ⟨some 41, .ext (.t 37) 1, none⟩,
 ⟨some 42, .ext (.t 37) 2, none⟩,
 ⟨some 2, .mv true (.t 40), none⟩,
 ⟨some 3, .mv true (.t 41), none⟩,
 ⟨some 4, .mv true (.t 42), none⟩]
abbrev quietuslaw22_sanity_r5 : List AI := [
 ⟨some 43, .mv false (.t 4), none⟩,
 ⟨some 44, .bin .neq (.t 43) (.c (.int .i64 0)), none⟩,
 ⟨some 45, .mv false (.t 44), none⟩,
 ⟨some 46, .mv false (.t 2), some (45, false)⟩,
 ⟨some 47, .gd (.pnil 0 false) [(.t 46)], some (45, false)⟩,
 ⟨some 48, .pick (.t 45) (.c (.bool true)) (.t 47), none⟩,
 ⟨some 49, .mv false (.t 48), none⟩,
 ⟨some 50, .mv false (.t 3), some (49, false)⟩,
 ⟨some 51, .len false (.t 50), some (49, false)⟩,
 ⟨some 52, .bin .neq (.t 51) (.c (.int .i64 0)), some (49, false)⟩,
 ⟨some 53, .pick (.t 49) (.c (.bool true)) (.t 52), none⟩,
 ⟨some 54, .mv false (.t 53), none⟩,
 ⟨some 55, .mv false (.t 1), some (54, false)⟩,
 ⟨some 56, .call (.c (.fn f_disk_Disk_Steps)) [(.t 55)] 0, some (54, false)⟩,
 ⟨some 57, .bin .neq (.t 56) (.c (.int .i64 9)), some (54, false)⟩,
 ⟨some 58, .pick (.t 54) (.c (.bool true)) (.t 57), none⟩]
abbrev quietuslaw22_sanity_r6 : List AI := [
 ⟨some 0, .mv true (.c (.bool false)), none⟩]
abbrev quietuslaw22_sanity_r7 : List AI := [
 ⟨some 60, .mv false (.t 2), none⟩,
 ⟨some 61, .call (.c (.fn f_slots_Store_Get)) [(.t 60), (.c (.int .i64 1))] 0, none⟩,
 ⟨some 59, .mv false (.t 61), none⟩,
 ⟨some 62, .ext (.t 59) 0, none⟩,
 ⟨some 63, .ext (.t 59) 1, none⟩,
 ⟨some 5, .mv true (.t 62), none⟩,
 ⟨some 6, .mv true (.t 63), none⟩]
abbrev quietuslaw22_sanity_r8 : List AI := [
 ⟨some 64, .mv false (.t 2), none⟩,
 ⟨some 65, .call (.c (.fn f_slots_Store_Put)) [(.t 64), (.c (.int .i64 1)), (.c (.str [107, 101, 121]))] 0, none⟩,
 ⟨some 7, .mv true (.t 65), none⟩]
abbrev quietuslaw22_sanity_r9 : List AI := [
 ⟨some 67, .mv false (.t 2), none⟩,
 ⟨some 68, .call (.c (.fn f_slots_Store_Get)) [(.t 67), (.c (.int .i64 1))] 0, none⟩,
 ⟨some 66, .mv false (.t 68), none⟩,
 ⟨some 69, .ext (.t 66) 0, none⟩,
 ⟨some 70, .ext (.t 66) 1, none⟩,
 ⟨some 8, .mv true (.t 69), none⟩,
 ⟨some 9, .mv true (.t 70), none⟩]
abbrev quietuslaw22_sanity_r10 : List AI := [
 ⟨some 72, .mv false (.t 1), none⟩,
 ⟨some 73, .call (.c (.fn f_disk_Disk_Read)) [(.t 72), (.c (.int .i64 2))] 0, none⟩,
 ⟨some 71, .mv false (.t 73), none⟩,
 ⟨some 74, .ext (.t 71) 0, none⟩,
 ⟨some 75, .ext (.t 71) 1, none⟩,
 ⟨some 10, .alloc (zr 64 (.int .u8 0)), none⟩,
 ⟨none, .store 64 (.t 10) (.t 74) .any, none⟩,
 ⟨some 11, .mv true (.t 75), none⟩]
abbrev quietuslaw22_sanity_r11 : List AI := [
 ⟨some 77, .mv false (.t 1), none⟩,
 ⟨some 78, .call (.c (.fn f_disk_Disk_Read)) [(.t 77), (.c (.int .i64 3))] 0, none⟩,
 ⟨some 76, .mv false (.t 78), none⟩,
 ⟨some 79, .ext (.t 76) 0, none⟩,
 ⟨some 80, .ext (.t 76) 1, none⟩,
 ⟨some 12, .alloc (zr 64 (.int .u8 0)), none⟩,
 ⟨none, .store 64 (.t 12) (.t 79) .any, none⟩,
 ⟨some 13, .mv true (.t 80), none⟩]
abbrev quietuslaw22_sanity_r12 : List AI := [
 ⟨some 81, .mv false (.t 6), none⟩,
 ⟨some 82, .bin .neq (.t 81) (.c (.int .i64 8)), none⟩,
 ⟨some 83, .mv false (.t 82), none⟩,
 ⟨some 84, .mv false (.t 7), some (83, false)⟩,
 ⟨some 85, .bin .neq (.t 84) (.c (.int .i64 0)), some (83, false)⟩,
 ⟨some 86, .pick (.t 83) (.c (.bool true)) (.t 85), none⟩,
 ⟨some 87, .mv false (.t 86), none⟩,
 ⟨some 88, .mv false (.t 8), some (87, false)⟩,
 ⟨some 89, .bin .neq (.t 88) (.c (.str [107, 101, 121])), some (87, false)⟩,
 ⟨some 90, .pick (.t 87) (.c (.bool true)) (.t 89), none⟩,
 ⟨some 91, .mv false (.t 90), none⟩,
 ⟨some 92, .mv false (.t 9), some (91, false)⟩,
 ⟨some 93, .bin .neq (.t 92) (.c (.int .i64 0)), some (91, false)⟩,
 ⟨some 94, .pick (.t 91) (.c (.bool true)) (.t 93), none⟩,
 ⟨some 95, .mv false (.t 94), none⟩,
 ⟨some 96, .mv false (.t 11), some (95, false)⟩,
 ⟨some 97, .bin .neq (.t 96) (.c (.int .i64 0)), some (95, false)⟩,
 ⟨some 98, .pick (.t 95) (.c (.bool true)) (.t 97), none⟩,
 ⟨some 99, .mv false (.t 98), none⟩,
 ⟨some 100, .mv false (.t 13), some (99, false)⟩,
 ⟨some 101, .bin .neq (.t 100) (.c (.int .i64 0)), some (99, false)⟩,
 ⟨some 102, .pick (.t 99) (.c (.bool true)) (.t 101), none⟩,
 ⟨some 103, .mv false (.t 102), none⟩,
 ⟨some 104, .load true 64 (.t 10) (.site 10), some (103, false)⟩,
 ⟨some 105, .call (.c (.fn f_quietusref22_Copy)) [(.c (.int .i64 2)), (.c (.str [107, 101, 121]))] 2, some (103, false)⟩,
 ⟨some 106, .eqs true (kr 64 .i) (.t 104) (.t 105), some (103, false)⟩,
 ⟨some 107, .pick (.t 103) (.c (.bool true)) (.t 106), none⟩,
 ⟨some 108, .mv false (.t 107), none⟩,
 ⟨some 109, .load true 64 (.t 12) (.site 12), some (108, false)⟩,
 ⟨some 110, .load true 64 (.t 10) (.site 10), some (108, false)⟩,
 ⟨some 111, .eqs true (kr 64 .i) (.t 109) (.t 110), some (108, false)⟩,
 ⟨some 112, .pick (.t 108) (.c (.bool true)) (.t 111), none⟩,
 ⟨some 113, .mv false (.t 112), none⟩,
 ⟨some 114, .iaddrA 64 1 (.t 10) (.c (.int .i64 3)), some (113, false)⟩,
 ⟨some 115, .load false 1 (.t 114) (.site 10), some (113, false)⟩,
 ⟨some 116, .bin .neq (.t 115) (.c (.int .u8 2)), some (113, false)⟩,
 ⟨some 117, .pick (.t 113) (.c (.bool true)) (.t 116), none⟩,
 ⟨some 118, .mv false (.t 117), none⟩,
 ⟨some 119, .iaddrA 64 1 (.t 10) (.c (.int .i64 4)), some (118, false)⟩,
 ⟨some 120, .load false 1 (.t 119) (.site 10), some (118, false)⟩,
 ⟨some 121, .bin .neq (.t 120) (.c (.int .u8 107)), some (118, false)⟩,
 ⟨some 122, .pick (.t 118) (.c (.bool true)) (.t 121), none⟩,
 ⟨some 123, .mv false (.t 122), none⟩,
 ⟨some 124, .iaddrA 64 1 (.t 10) (.c (.int .i64 36)), some (123, false)⟩,
 ⟨some 125, .load false 1 (.t 124) (.site 10), some (123, false)⟩,
 ⟨some 126, .bin .neq (.t 125) (.c (.int .u8 3)), some (123, false)⟩,
 ⟨some 127, .pick (.t 123) (.c (.bool true)) (.t 126), none⟩,
 ⟨some 128, .mv false (.t 127), none⟩,
 ⟨some 129, .mv false (.t 1), some (128, false)⟩,
 ⟨some 130, .call (.c (.fn f_disk_Disk_Steps)) [(.t 129)] 2, some (128, false)⟩,
 ⟨some 131, .bin .neq (.t 130) (.c (.int .i64 13)), some (128, false)⟩,
 ⟨some 132, .pick (.t 128) (.c (.bool true)) (.t 131), none⟩]
abbrev quietuslaw22_sanity_r13 : List AI := [
 ⟨some 0, .mv true (.c (.bool false)), none⟩]
abbrev quietuslaw22_sanity_r14 : List AI := [
 ⟨some 133, .mv false (.t 1), none⟩,
 ⟨some 134, .call (.c (.fn f_disk_Disk_Rot)) [(.t 133), (.c (.int .i64 2))] 0, none⟩,
 ⟨some 14, .mv true (.t 134), none⟩]
abbrev quietuslaw22_sanity_r15 : List AI := [
 ⟨some 136, .mv false (.t 2), none⟩,
 ⟨some 137, .call (.c (.fn f_slots_Store_Get)) [(.t 136), (.c (.int .i64 1))] 0, none⟩,
 ⟨some 135, .mv false (.t 137), none⟩,
 ⟨some 138, .ext (.t 135) 0, none⟩,
 ⟨some 139, .ext (.t 135) 1, none⟩,
 ⟨some 15, .mv true (.t 138), none⟩,
 ⟨some 16, .mv true (.t 139), none⟩]
abbrev quietuslaw22_sanity_r16 : List AI := [
 ⟨some 140, .mv false (.t 2), none⟩,
 ⟨some 141, .call (.c (.fn f_slots_Store_Put)) [(.t 140), (.c (.int .i64 1)), (.c (.str [110, 101, 119]))] 0, none⟩,
 ⟨some 17, .mv true (.t 141), none⟩]
abbrev quietuslaw22_sanity_r17 : List AI := [
 ⟨some 142, .mv false (.t 1), none⟩,
 ⟨some 143, .call (.c (.fn f_disk_Disk_Steps)) [(.t 142)] 0, none⟩,
 ⟨some 18, .mv true (.t 143), none⟩]
abbrev quietuslaw22_sanity_r18 : List AI := [
 ⟨some 144, .mv false (.t 2), none⟩,
 ⟨some 145, .call (.c (.fn f_slots_Store_Kill)) [(.t 144), (.c (.int .i64 1))] 0, none⟩,
 ⟨some 19, .mv true (.t 145), none⟩]
abbrev quietuslaw22_sanity_r19 : List AI := [
 ⟨some 147, .mv false (.t 2), none⟩,
 ⟨some 148, .call (.c (.fn f_slots_Store_Get)) [(.t 147), (.c (.int .i64 1))] 0, none⟩,
 ⟨some 146, .mv false (.t 148), none⟩,
 ⟨some 149, .ext (.t 146) 0, none⟩,
 ⟨some 150, .ext (.t 146) 1, none⟩,
 ⟨some 20, .mv true (.t 149), none⟩,
 ⟨some 21, .mv true (.t 150), none⟩]
abbrev quietuslaw22_sanity_r20 : List AI := [
 ⟨some 152, .mv false (.t 2), none⟩,
 ⟨some 153, .call (.c (.fn f_slots_Store_Get)) [(.t 152), (.c (.int .i64 4))] 0, none⟩,
 ⟨some 151, .mv false (.t 153), none⟩,
 ⟨some 154, .ext (.t 151) 0, none⟩,
 ⟨some 155, .ext (.t 151) 1, none⟩,
 ⟨some 22, .mv true (.t 154), none⟩,
 ⟨some 23, .mv true (.t 155), none⟩]
abbrev quietuslaw22_sanity_r21 : List AI := [
 ⟨some 156, .mv false (.t 14), none⟩,
 ⟨some 157, .bin .eql (.t 156) (.c (.int .i64 0)), none⟩,
 ⟨some 158, .mv false (.t 157), none⟩,
 ⟨some 159, .mv false (.t 15), some (158, true)⟩,
 ⟨some 160, .bin .eql (.t 159) (.c (.str [107, 101, 121])), some (158, true)⟩,
 ⟨some 161, .pick (.t 158) (.t 160) (.c (.bool false)), none⟩,
 ⟨some 162, .mv false (.t 161), none⟩,
 ⟨some 163, .mv false (.t 16), some (162, true)⟩,
 ⟨some 164, .bin .eql (.t 163) (.c (.int .i64 0)), some (162, true)⟩,
 ⟨some 165, .pick (.t 162) (.t 164) (.c (.bool false)), none⟩,
 ⟨some 166, .mv false (.t 165), none⟩,
 ⟨some 167, .mv false (.t 17), some (166, true)⟩,
 ⟨some 168, .bin .eql (.t 167) (.c (.int .i64 0)), some (166, true)⟩,
 ⟨some 169, .pick (.t 166) (.t 168) (.c (.bool false)), none⟩,
 ⟨some 170, .mv false (.t 169), none⟩,
 ⟨some 171, .mv false (.t 18), some (170, true)⟩,
 ⟨some 172, .bin .eql (.t 171) (.c (.int .i64 19)), some (170, true)⟩,
 ⟨some 173, .pick (.t 170) (.t 172) (.c (.bool false)), none⟩,
 ⟨some 174, .mv false (.t 173), none⟩,
 ⟨some 175, .mv false (.t 19), some (174, true)⟩,
 ⟨some 176, .bin .eql (.t 175) (.c (.int .i64 0)), some (174, true)⟩,
 ⟨some 177, .pick (.t 174) (.t 176) (.c (.bool false)), none⟩,
 ⟨some 178, .mv false (.t 177), none⟩,
 ⟨some 179, .mv false (.t 21), some (178, true)⟩,
 ⟨some 180, .bin .eql (.t 179) (.c (.int .i64 8)), some (178, true)⟩,
 ⟨some 181, .pick (.t 178) (.t 180) (.c (.bool false)), none⟩,
 ⟨some 182, .mv false (.t 181), none⟩,
 ⟨some 183, .mv false (.t 23), some (182, true)⟩,
 ⟨some 184, .bin .eql (.t 183) (.c (.int .i64 1)), some (182, true)⟩,
 ⟨some 185, .pick (.t 182) (.t 184) (.c (.bool false)), none⟩,
 ⟨some 186, .mv false (.t 185), none⟩,
 ⟨some 187, .mv false (.t 2), some (186, true)⟩,
 ⟨some 188, .call (.c (.fn f_slots_Store_Put)) [(.t 187), (.c (.int .i64 1)), (.c (.str []))] 0, some (186, true)⟩,
 ⟨some 189, .bin .eql (.t 188) (.c (.int .i64 1)), some (186, true)⟩,
 ⟨some 190, .pick (.t 186) (.t 189) (.c (.bool false)), none⟩,
 ⟨some 0, .mv true (.t 190), none⟩]
abbrev quietuslaw22_sanity_c : ACode := .seq (.reg false quietuslaw22_sanity_r0) (.seq (.reg false quietuslaw22_sanity_r1) (.seq (.seq (.reg false quietuslaw22_sanity_r2) (.cond (.t 36) (.seq (.reg false quietuslaw22_sanity_r3) (.ret)) (.skip))) (.seq (.reg false quietuslaw22_sanity_r4) (.seq (.seq (.reg false quietuslaw22_sanity_r5) (.cond (.t 58) (.seq (.reg false quietuslaw22_sanity_r6) (.ret)) (.skip))) (.seq (.reg false quietuslaw22_sanity_r7) (.seq (.reg false quietuslaw22_sanity_r8) (.seq (.reg false quietuslaw22_sanity_r9) (.seq (.reg false quietuslaw22_sanity_r10) (.seq (.reg false quietuslaw22_sanity_r11) (.seq (.seq (.reg true quietuslaw22_sanity_r12) (.cond (.t 132) (.seq (.reg false quietuslaw22_sanity_r13) (.ret)) (.skip))) (.seq (.reg false quietuslaw22_sanity_r14) (.seq (.reg false quietuslaw22_sanity_r15) (.seq (.reg false quietuslaw22_sanity_r16) (.seq (.reg false quietuslaw22_sanity_r17) (.seq (.reg false quietuslaw22_sanity_r18) (.seq (.reg false quietuslaw22_sanity_r19) (.seq (.reg false quietuslaw22_sanity_r20) (.seq (.reg false quietuslaw22_sanity_r21) (.ret)))))))))))))))))))
def quietuslaw22_sanity_F : AFunc := ⟨191, [.tmp 0], quietuslaw22_sanity_c⟩
theorem quietuslaw22_sanity_cp : compile Try.prog [] f_quietuslaw22_sanity = some quietuslaw22_sanity_F := by kernel_rfl
abbrev disk_Disk_Write_r0 : List AI := [
 ⟨some 5, .box 64 (.t 2), none⟩,
 ⟨some 6, .mv true (.c (.int .i64 0)), none⟩]
abbrev disk_Disk_Write_r1 : List AI := [
 ⟨some 8, .mv false (.t 0), none⟩,
 ⟨some 9, .mv false (.t 1), none⟩,
 ⟨some 10, .call (.c (.fn f_disk_Disk_check)) [(.t 8), (.t 9)] 0, none⟩,
 ⟨some 7, .mv true (.t 10), none⟩]
abbrev disk_Disk_Write_r2 : List AI := [
 ⟨some 11, .mv false (.t 7), none⟩,
 ⟨some 12, .bin .eql (.t 11) (.c (.int .i64 0)), none⟩]
abbrev disk_Disk_Write_r3 : List AI := [
 ⟨some 13, .mv false (.t 0), none⟩,
 ⟨some 14, .call (.c (.fn f_disk_Disk_step)) [(.t 13)] 0, none⟩,
 ⟨some 7, .mv true (.t 14), none⟩]
abbrev disk_Disk_Write_r4 : List AI := [
 ⟨some 15, .mv false (.t 7), none⟩,
 ⟨some 16, .bin .eql (.t 15) (.c (.int .i64 0)), none⟩]
abbrev disk_Disk_Write_r5 : List AI := [
 ⟨some 17, .mv false (.t 0), none⟩,
 ⟨some 18, .nilck (.t 17), none⟩,
 ⟨some 19, .faddr 1 (.t 18), none⟩,
 ⟨some 20, .load false 1 (.t 19) .foreign, none⟩,
 ⟨some 21, .mv false (.t 1), none⟩,
 ⟨some 22, .mv false (.t 0), none⟩,
 ⟨some 23, .nilck (.t 22), none⟩,
 ⟨some 24, .faddr 1 (.t 23), none⟩,
 ⟨some 25, .load false 1 (.t 24) .foreign, none⟩,
 ⟨some 26, .mv false (.t 1), none⟩,
 ⟨some 27, .gd (.mlook [.i] .nilS false) [(.t 25), (.t 26)], none⟩,
 ⟨some 28, .load true 64 (.t 5) (.site 5), none⟩,
 ⟨some 29, .mkslice 64 1 (.agg (zr 64 (.int .u8 0))) [(0, (.t 28))], none⟩,
 ⟨some 30, .kp [(.ld false 1 (.t 19))] (.appG 64 64 (zr 64 (.int .u8 0)) (.t 27) (.t 29)), none⟩,
 ⟨none, .gd (.mset [.i]) [(.t 20), (.t 21), (.t 30)], none⟩]
abbrev disk_Disk_Write_r6 : List AI := [
 ⟨some 31, .mv false (.t 7), none⟩,
 ⟨some 6, .mv true (.t 31), none⟩]
abbrev disk_Disk_Write_c : ACode := .seq (.reg false disk_Disk_Write_r0) (.seq (.reg false disk_Disk_Write_r1) (.seq (.seq (.reg false disk_Disk_Write_r2) (.cond (.t 12) (.reg false disk_Disk_Write_r3) (.skip))) (.seq (.seq (.reg false disk_Disk_Write_r4) (.cond (.t 16) (.reg true disk_Disk_Write_r5) (.skip))) (.seq (.reg false disk_Disk_Write_r6) (.ret)))))
def disk_Disk_Write_F : AFunc := ⟨32, [.tmp 6], disk_Disk_Write_c⟩
theorem disk_Disk_Write_cp : compile Try.prog [30] f_disk_Disk_Write = some disk_Disk_Write_F := by kernel_rfl
-- loop 0: [0, 2, 3, 4]
-- loop 0: [0, 1, 31, 32]
abbrev slots_Format_r0 : List AI := [
 ⟨some 6, .mv true (.c (.int .i64 0)), none⟩]
abbrev slots_Format_r1 : List AI := [
 ⟨some 9, .mv false (.t 2), none⟩,
 ⟨some 10, .bin .lss (.t 9) (.c (.int .i64 1)), none⟩,
 ⟨some 11, .mv false (.t 10), none⟩,
 ⟨some 12, .mv false (.t 1), some (11, false)⟩,
 ⟨some 13, .bin .lss (.t 12) (.c (.int .i64 0)), some (11, false)⟩,
 ⟨some 14, .pick (.t 11) (.c (.bool true)) (.t 13), none⟩,
 ⟨some 15, .mv false (.t 14), none⟩,
 ⟨some 16, .mv false (.t 1), some (15, false)⟩,
 ⟨some 17, .mv false (.t 0), some (15, false)⟩,
 ⟨some 18, .call (.c (.fn f_disk_Disk_Size)) [(.t 17)] 0, some (15, false)⟩,
 ⟨some 19, .bin .gtr (.t 16) (.t 18), some (15, false)⟩,
 ⟨some 20, .pick (.t 15) (.c (.bool true)) (.t 19), none⟩,
 ⟨some 21, .mv false (.t 20), none⟩,
 ⟨some 22, .mv false (.t 2), some (21, false)⟩,
 ⟨some 23, .mv false (.t 0), some (21, false)⟩,
 ⟨some 24, .call (.c (.fn f_disk_Disk_Size)) [(.t 23)] 0, some (21, false)⟩,
 ⟨some 25, .mv false (.t 1), some (21, false)⟩,
 ⟨some 26, .bin .sub (.t 24) (.t 25), some (21, false)⟩,
 ⟨some 27, .bin .quo (.t 26) (.c (.int .i64 2)), some (21, false)⟩,
 ⟨some 28, .bin .gtr (.t 22) (.t 27), some (21, false)⟩,
 ⟨some 29, .pick (.t 21) (.c (.bool true)) (.t 28), none⟩]
abbrev slots_Format_r2 : List AI := [
 ⟨some 6, .mv true (.c (.int .i64 1)), none⟩]
abbrev slots_Format_r3 : List AI := [
 ⟨some 30, .mv false (.t 2), none⟩,
 ⟨some 31, .bin .mul (.c (.int .i64 2)) (.t 30), none⟩,
 ⟨some 32, .mv false (.c (.int .i64 0)), none⟩]
abbrev slots_Format_r4 : List AI := [
 ⟨some 33, .bin .lss (.t 32) (.t 31), none⟩]
abbrev slots_Format_r5 : List AI := [
 ⟨some 34, .mv false (.t 32), none⟩,
 ⟨some 7, .mv true (.t 34), none⟩]
abbrev slots_Format_r6 : List AI := [
 ⟨some 35, .mv false (.t 0), none⟩,
 ⟨some 36, .mv false (.t 1), none⟩,
 ⟨some 37, .mv false (.t 7), none⟩,
 ⟨some 38, .bin .add (.t 36) (.t 37), none⟩,
 ⟨some 39, .call (.c (.fn f_slots_make1)) [(.c (.int .u32 1)), (.c (.str []))] 0, none⟩,
 ⟨some 40, .call (.c (.fn f_disk_Disk_Write)) [(.t 35), (.t 38), (.t 39)] 0, none⟩,
 ⟨some 8, .mv true (.t 40), none⟩]
abbrev slots_Format_r7 : List AI := [
 ⟨some 41, .mv false (.t 8), none⟩,
 ⟨some 42, .bin .neq (.t 41) (.c (.int .i64 0)), none⟩]
abbrev slots_Format_r8 : List AI := [
 ⟨some 43, .mv false (.t 8), none⟩,
 ⟨some 6, .mv true (.t 43), none⟩]
abbrev slots_Format_r9 : List AI := [
 ⟨some 44, .bin .add (.t 32) (.c (.int .i64 1)), none⟩,
 ⟨some 32, .mv false (.t 44), none⟩]
abbrev slots_Format_l0 : ACode := .seq (.reg false slots_Format_r4) (.seq (.cond (.t 33) (.skip) (.exit 0)) (.seq (.block 1 (.seq (.reg false slots_Format_r5) (.seq (.reg false slots_Format_r6) (.seq (.reg false slots_Format_r7) (.cond (.t 42) (.seq (.reg false slots_Format_r8) (.ret)) (.skip)))))) (.reg false slots_Format_r9)))
abbrev slots_Format_r10 : List AI := [
 ⟨some 45, .mv false (.t 0), none⟩,
 ⟨some 46, .call (.c (.fn f_disk_Disk_Sync)) [(.t 45)] 0, none⟩,
 ⟨some 6, .mv true (.t 46), none⟩]
abbrev slots_Format_c : ACode := .seq (.reg false slots_Format_r0) (.seq (.seq (.reg false slots_Format_r1) (.cond (.t 29) (.seq (.reg false slots_Format_r2) (.ret)) (.skip))) (.seq (.seq (.reg false slots_Format_r3) (.block 0 (.loop slots_Format_l0))) (.seq (.reg false slots_Format_r10) (.ret))))
def slots_Format_F : AFunc := ⟨47, [.tmp 6], slots_Format_c⟩
theorem slots_Format_cp : compile Try.prog [] f_slots_Format = some slots_Format_F := by kernel_rfl
-- loop 0: [0, 1, 9, 10, 42, 43]
abbrev slots_Open_r0 : List AI := [
 ⟨some 6, .mv true (.c .nilP), none⟩,
 ⟨some 7, .mv true (.c .nilS), none⟩,
 ⟨some 8, .mv true (.c (.int .i64 0)), none⟩]
abbrev slots_Open_r1 : List AI := [
 ⟨some 15, .mv false (.t 2), none⟩,
 ⟨some 16, .bin .lss (.t 15) (.c (.int .i64 1)), none⟩,
 ⟨some 17, .mv false (.t 16), none⟩,
 ⟨some 18, .mv false (.t 1), some (17, false)⟩,
 ⟨some 19, .bin .lss (.t 18) (.c (.int .i64 0)), some (17, false)⟩,
 ⟨some 20, .pick (.t 17) (.c (.bool true)) (.t 19), none⟩,
 ⟨some 21, .mv false (.t 20), none⟩,
 ⟨some 22, .mv false (.t 1), some (21, false)⟩,
 ⟨some 23, .mv false (.t 0), some (21, false)⟩,
 ⟨some 24, .call (.c (.fn f_disk_Disk_Size)) [(.t 23)] 0, some (21, false)⟩,
 ⟨some 25, .bin .gtr (.t 22) (.t 24), some (21, false)⟩,
 ⟨some 26, .pick (.t 21) (.c (.bool true)) (.t 25), none⟩,
 ⟨some 27, .mv false (.t 26), none⟩,
 ⟨some 28, .mv false (.t 2), some (27, false)⟩,
 ⟨some 29, .mv false (.t 0), some (27, false)⟩,
 ⟨some 30, .call (.c (.fn f_disk_Disk_Size)) [(.t 29)] 0, some (27, false)⟩,
 ⟨some 31, .mv false (.t 1), some (27, false)⟩,
 ⟨some 32, .bin .sub (.t 30) (.t 31), some (27, false)⟩,
 ⟨some 33, .bin .quo (.t 32) (.c (.int .i64 2)), some (27, false)⟩,
 ⟨some 34, .bin .gtr (.t 28) (.t 33), some (27, false)⟩,
 ⟨some 35, .pick (.t 27) (.c (.bool true)) (.t 34), none⟩]
abbrev slots_Open_r2 : List AI := [
 ⟨some 6, .mv true (.c .nilP), none⟩,
 ⟨some 7, .mv true (.c .nilS), none⟩,
 ⟨some 8, .mv true (.c (.int .i64 1)), none⟩]
abbrev slots_Open_r3 : List AI := [
 ⟨some 36, .mv false (.t 0), none⟩,
 ⟨some 37, .mv false (.t 1), none⟩,
 ⟨some 38, .mv false (.t 2), none⟩,
 ⟨some 39, .build [.nilP, (.int .i64 0), (.int .i64 0)] [(0, 1, (.t 36)), (1, 1, (.t 37)), (2, 1, (.t 38))], none⟩,
 ⟨some 40, .build [.nilP, (.int .i64 0), (.int .i64 0)] [(0, 3, (.t 39))], none⟩,
 ⟨some 41, .gn (.box 3) [(.t 40)], none⟩,
 ⟨some 9, .mv true (.t 41), none⟩]
abbrev slots_Open_r4 : List AI := [
 ⟨some 10, .mv true (.c .nilS), none⟩]
abbrev slots_Open_r5 : List AI := [
 ⟨some 42, .mv false (.t 2), none⟩,
 ⟨some 43, .mv false (.c (.int .i64 0)), none⟩]
abbrev slots_Open_r6 : List AI := [
 ⟨some 44, .bin .lss (.t 43) (.t 42), none⟩]
abbrev slots_Open_r7 : List AI := [
 ⟨some 45, .mv false (.t 43), none⟩,
 ⟨some 11, .mv true (.t 45), none⟩]
abbrev slots_Open_r8 : List AI := [
 ⟨some 47, .mv false (.t 9), none⟩,
 ⟨some 48, .nilck (.t 47), none⟩,
 ⟨some 49, .faddr 0 (.t 48), none⟩,
 ⟨some 50, .load true 3 (.t 49) .any, none⟩,
 ⟨some 51, .mv false (.t 11), none⟩,
 ⟨some 52, .call (.c (.fn f_slots_part_slot)) [(.t 50), (.t 51)] 0, none⟩,
 ⟨some 46, .mv false (.t 52), none⟩,
 ⟨some 53, .ext (.t 46) 0, none⟩,
 ⟨some 54, .ext (.t 46) 1, none⟩,
 ⟨some 55, .ext (.t 46) 2, none⟩,
 ⟨some 12, .alloc (zr 64 (.int .u8 0) ++ [(.int .i64 0), (.bool false)]), none⟩,
 ⟨some 13, .alloc (zr 64 (.int .u8 0) ++ [(.int .i64 0), (.bool false)]), none⟩,
 ⟨none, .store 66 (.t 12) (.t 53) .any, none⟩,
 ⟨none, .store 66 (.t 13) (.t 54) .any, none⟩,
 ⟨some 14, .mv true (.t 55), none⟩]
abbrev slots_Open_r9 : List AI := [
 ⟨some 56, .mv false (.t 14), none⟩,
 ⟨some 57, .bin .neq (.t 56) (.c (.int .i64 0)), none⟩]
abbrev slots_Open_r10 : List AI := [
 ⟨some 58, .mv false (.t 14), none⟩,
 ⟨some 6, .mv true (.c .nilP), none⟩,
 ⟨some 7, .mv true (.c .nilS), none⟩,
 ⟨some 8, .mv true (.t 58), none⟩]
abbrev slots_Open_r11 : List AI := [
 ⟨some 59, .faddr 65 (.t 12), none⟩,
 ⟨some 60, .load false 1 (.t 59) .any, none⟩]
abbrev slots_Open_r12 : List AI := [
 ⟨some 61, .mv false (.t 9), none⟩,
 ⟨some 62, .nilck (.t 61), none⟩,
 ⟨some 63, .faddr 0 (.t 62), none⟩,
 ⟨some 64, .load true 3 (.t 63) .foreign, none⟩,
 ⟨some 65, .load true 66 (.t 12) (.site 12), none⟩,
 ⟨some 66, .load true 66 (.t 13) (.site 13), none⟩,
 ⟨some 67, .call (.c (.fn f_slots_part_heal)) [(.t 64), (.t 65), (.t 66)] 2, none⟩,
 ⟨some 14, .mv true (.t 67), none⟩]
abbrev slots_Open_r13 : List AI := [
 ⟨some 68, .mv true (.t 10), none⟩,
 ⟨some 69, .mv false (.t 11), none⟩,
 ⟨some 70, .mkslice 1 1 (.int .i64 0) [(0, (.t 69))], none⟩,
 ⟨some 71, .append 1 8 (.t 68) (.t 70), none⟩,
 ⟨some 10, .mv true (.t 71), none⟩]
abbrev slots_Open_r14 : List AI := [
 ⟨some 72, .mv false (.t 0), none⟩,
 ⟨some 73, .mv false (.t 1), none⟩,
 ⟨some 74, .mv false (.t 11), none⟩,
 ⟨some 75, .bin .mul (.c (.int .i64 2)) (.t 74), none⟩,
 ⟨some 76, .bin .add (.t 73) (.t 75), none⟩,
 ⟨some 77, .call (.c (.fn f_slots_Format)) [(.t 72), (.t 76), (.c (.int .i64 1))] 0, none⟩,
 ⟨some 14, .mv true (.t 77), none⟩]
abbrev slots_Open_r15 : List AI := [
 ⟨some 78, .mv false (.t 14), none⟩,
 ⟨some 79, .bin .neq (.t 78) (.c (.int .i64 0)), none⟩]
abbrev slots_Open_r16 : List AI := [
 ⟨some 80, .mv false (.t 14), none⟩,
 ⟨some 6, .mv true (.c .nilP), none⟩,
 ⟨some 7, .mv true (.c .nilS), none⟩,
 ⟨some 8, .mv true (.t 80), none⟩]
abbrev slots_Open_r17 : List AI := [
 ⟨some 81, .bin .add (.t 43) (.c (.int .i64 1)), none⟩,
 ⟨some 43, .mv false (.t 81), none⟩]
abbrev slots_Open_l0 : ACode := .seq (.reg false slots_Open_r6) (.seq (.cond (.t 44) (.skip) (.exit 0)) (.seq (.block 1 (.seq (.reg false slots_Open_r7) (.seq (.reg false slots_Open_r8) (.seq (.seq (.reg false slots_Open_r9) (.cond (.t 57) (.seq (.reg false slots_Open_r10) (.ret)) (.skip))) (.seq (.seq (.reg false slots_Open_r11) (.cond (.t 60) (.reg true slots_Open_r12) (.seq (.reg false slots_Open_r13) (.reg false slots_Open_r14)))) (.seq (.reg false slots_Open_r15) (.cond (.t 79) (.seq (.reg false slots_Open_r16) (.ret)) (.skip)))))))) (.reg false slots_Open_r17)))
abbrev slots_Open_r18 : List AI := [
 ⟨some 82, .mv false (.t 9), none⟩,
 ⟨some 83, .mv false (.t 10), none⟩,
 ⟨some 6, .mv true (.t 82), none⟩,
 ⟨some 7, .mv true (.t 83), none⟩,
 ⟨some 8, .mv true (.c (.int .i64 0)), none⟩]
abbrev slots_Open_c : ACode := .seq (.reg false slots_Open_r0) (.seq (.seq (.reg false slots_Open_r1) (.cond (.t 35) (.seq (.reg false slots_Open_r2) (.ret)) (.skip))) (.seq (.reg false slots_Open_r3) (.seq (.reg false slots_Open_r4) (.seq (.seq (.reg false slots_Open_r5) (.block 0 (.loop slots_Open_l0))) (.seq (.reg false slots_Open_r18) (.ret))))))
def slots_Open_F : AFunc := ⟨84, [.tmp 6, .tmp 7, .tmp 8], slots_Open_c⟩
theorem slots_Open_cp : compile Try.prog [41, 67] f_slots_Open = some slots_Open_F := by kernel_rfl
abbrev disk_Disk_Read_r0 : List AI := [
 ⟨some 4, .alloc (zr 64 (.int .u8 0)), none⟩,
 ⟨some 5, .mv true (.c (.int .i64 0)), none⟩]
abbrev disk_Disk_Read_r1 : List AI := [
 ⟨some 8, .mv false (.t 0), none⟩,
 ⟨some 9, .mv false (.t 1), none⟩,
 ⟨some 10, .call (.c (.fn f_disk_Disk_check)) [(.t 8), (.t 9)] 0, none⟩,
 ⟨some 6, .mv true (.t 10), none⟩]
abbrev disk_Disk_Read_r2 : List AI := [
 ⟨some 11, .mv false (.t 6), none⟩,
 ⟨some 12, .bin .neq (.t 11) (.c (.int .i64 0)), none⟩]
abbrev disk_Disk_Read_r3 : List AI := [
 ⟨some 13, .build (zr 64 (.int .u8 0)) [], none⟩,
 ⟨some 14, .mv false (.t 6), none⟩,
 ⟨none, .store 64 (.t 4) (.t 13) .any, none⟩,
 ⟨some 5, .mv true (.t 14), none⟩]
abbrev disk_Disk_Read_r4 : List AI := [
 ⟨some 15, .mv false (.t 0), none⟩,
 ⟨some 16, .nilck (.t 15), none⟩,
 ⟨some 17, .faddr 1 (.t 16), none⟩,
 ⟨some 18, .load false 1 (.t 17) .any, none⟩,
 ⟨some 19, .mv false (.t 1), none⟩,
 ⟨some 20, .gd (.mlook [.i] .nilS false) [(.t 18), (.t 19)], none⟩,
 ⟨some 7, .mv true (.t 20), none⟩]
abbrev disk_Disk_Read_r5 : List AI := [
 ⟨some 21, .mv false (.t 7), none⟩,
 ⟨some 22, .len false (.t 21), none⟩,
 ⟨some 23, .bin .gtr (.t 22) (.c (.int .i64 0)), none⟩]
abbrev disk_Disk_Read_r6 : List AI := [
 ⟨some 24, .mv false (.t 7), none⟩,
 ⟨some 25, .mv false (.t 7), none⟩,
 ⟨some 26, .len false (.t 25), none⟩,
 ⟨some 27, .bin .sub (.t 26) (.c (.int .i64 1)), none⟩,
 ⟨some 28, .iaddr 64 (.t 24) (.t 27), none⟩,
 ⟨some 29, .load true 64 (.t 28) .any, none⟩,
 ⟨none, .store 64 (.t 4) (.t 29) .any, none⟩,
 ⟨some 5, .mv true (.c (.int .i64 0)), none⟩]
abbrev disk_Disk_Read_r7 : List AI := [
 ⟨some 30, .mv false (.t 0), none⟩,
 ⟨some 31, .nilck (.t 30), none⟩,
 ⟨some 32, .faddr 0 (.t 31), none⟩,
 ⟨some 33, .load false 1 (.t 32) .any, none⟩,
 ⟨some 34, .mv false (.t 1), none⟩,
 ⟨some 35, .iaddr 65 (.t 33) (.t 34), none⟩,
 ⟨some 36, .faddr 64 (.t 35), none⟩,
 ⟨some 37, .load false 1 (.t 36) .any, none⟩]
abbrev disk_Disk_Read_r8 : List AI := [
 ⟨some 38, .build (zr 64 (.int .u8 0)) [], none⟩,
 ⟨none, .store 64 (.t 4) (.t 38) .any, none⟩,
 ⟨some 5, .mv true (.c (.int .i64 14)), none⟩]
abbrev disk_Disk_Read_r9 : List AI := [
 ⟨some 39, .mv false (.t 0), none⟩,
 ⟨some 40, .nilck (.t 39), none⟩,
 ⟨some 41, .faddr 0 (.t 40), none⟩,
 ⟨some 42, .load false 1 (.t 41) .any, none⟩,
 ⟨some 43, .mv false (.t 1), none⟩,
 ⟨some 44, .iaddr 65 (.t 42) (.t 43), none⟩,
 ⟨some 45, .faddr 0 (.t 44), none⟩,
 ⟨some 46, .load true 64 (.t 45) .any, none⟩,
 ⟨none, .store 64 (.t 4) (.t 46) .any, none⟩,
 ⟨some 5, .mv true (.c (.int .i64 0)), none⟩]
abbrev disk_Disk_Read_c : ACode := .seq (.reg false disk_Disk_Read_r0) (.seq (.seq (.reg false disk_Disk_Read_r1) (.seq (.reg false disk_Disk_Read_r2) (.cond (.t 12) (.seq (.reg false disk_Disk_Read_r3) (.ret)) (.skip)))) (.seq (.seq (.reg false disk_Disk_Read_r4) (.seq (.reg false disk_Disk_Read_r5) (.cond (.t 23) (.seq (.reg false disk_Disk_Read_r6) (.ret)) (.skip)))) (.seq (.seq (.reg false disk_Disk_Read_r7) (.cond (.t 37) (.seq (.reg false disk_Disk_Read_r8) (.ret)) (.skip))) (.seq (.reg false disk_Disk_Read_r9) (.ret)))))
def disk_Disk_Read_F : AFunc := ⟨47, [.cell 4 true 64, .tmp 5], disk_Disk_Read_c⟩
theorem disk_Disk_Read_cp : compile Try.prog [] f_disk_Disk_Read = some disk_Disk_Read_F := by kernel_rfl
abbrev slots_Store_Put_r0 : List AI := [
 ⟨some 6, .mv true (.c (.int .i64 0)), none⟩]
abbrev slots_Store_Put_r1 : List AI := [
 ⟨some 7, .mv false (.t 1), none⟩,
 ⟨some 8, .bin .lss (.t 7) (.c (.int .i64 0)), none⟩,
 ⟨some 9, .mv false (.t 8), none⟩,
 ⟨some 10, .mv false (.t 1), some (9, false)⟩,
 ⟨some 11, .mv false (.t 0), some (9, false)⟩,
 ⟨some 12, .nilck (.t 11), some (9, false)⟩,
 ⟨some 13, .faddr 0 (.t 12), some (9, false)⟩,
 ⟨some 14, .faddr 2 (.t 13), some (9, false)⟩,
 ⟨some 15, .load false 1 (.t 14) .any, some (9, false)⟩,
 ⟨some 16, .bin .geq (.t 10) (.t 15), some (9, false)⟩,
 ⟨some 17, .pick (.t 9) (.c (.bool true)) (.t 16), none⟩,
 ⟨some 18, .mv false (.t 17), none⟩,
 ⟨some 19, .mv false (.t 2), some (18, false)⟩,
 ⟨some 20, .len true (.t 19), some (18, false)⟩,
 ⟨some 21, .bin .lss (.t 20) (.c (.int .i64 1)), some (18, false)⟩,
 ⟨some 22, .pick (.t 18) (.c (.bool true)) (.t 21), none⟩,
 ⟨some 23, .mv false (.t 22), none⟩,
 ⟨some 24, .mv false (.t 2), some (23, false)⟩,
 ⟨some 25, .len true (.t 24), some (23, false)⟩,
 ⟨some 26, .bin .gtr (.t 25) (.c (.int .i64 55)), some (23, false)⟩,
 ⟨some 27, .pick (.t 23) (.c (.bool true)) (.t 26), none⟩]
abbrev slots_Store_Put_r2 : List AI := [
 ⟨some 6, .mv true (.c (.int .i64 1)), none⟩]
abbrev slots_Store_Put_r3 : List AI := [
 ⟨some 28, .mv false (.t 0), none⟩,
 ⟨some 29, .mv false (.t 1), none⟩,
 ⟨some 30, .mv false (.t 2), none⟩,
 ⟨some 31, .call (.c (.fn f_slots_Store_change)) [(.t 28), (.t 29), (.t 30)] 0, none⟩,
 ⟨some 6, .mv true (.t 31), none⟩]
abbrev slots_Store_Put_c : ACode := .seq (.reg false slots_Store_Put_r0) (.seq (.seq (.reg false slots_Store_Put_r1) (.cond (.t 27) (.seq (.reg false slots_Store_Put_r2) (.ret)) (.skip))) (.seq (.reg false slots_Store_Put_r3) (.ret)))
def slots_Store_Put_F : AFunc := ⟨32, [.tmp 6], slots_Store_Put_c⟩
theorem slots_Store_Put_cp : compile Try.prog [] f_slots_Store_Put = some slots_Store_Put_F := by kernel_rfl
abbrev slots_Store_Kill_r0 : List AI := [
 ⟨some 4, .mv true (.c (.int .i64 0)), none⟩]
abbrev slots_Store_Kill_r1 : List AI := [
 ⟨some 5, .mv false (.t 1), none⟩,
 ⟨some 6, .bin .lss (.t 5) (.c (.int .i64 0)), none⟩,
 ⟨some 7, .mv false (.t 6), none⟩,
 ⟨some 8, .mv false (.t 1), some (7, false)⟩,
 ⟨some 9, .mv false (.t 0), some (7, false)⟩,
 ⟨some 10, .nilck (.t 9), some (7, false)⟩,
 ⟨some 11, .faddr 0 (.t 10), some (7, false)⟩,
 ⟨some 12, .faddr 2 (.t 11), some (7, false)⟩,
 ⟨some 13, .load false 1 (.t 12) .any, some (7, false)⟩,
 ⟨some 14, .bin .geq (.t 8) (.t 13), some (7, false)⟩,
 ⟨some 15, .pick (.t 7) (.c (.bool true)) (.t 14), none⟩]
abbrev slots_Store_Kill_r2 : List AI := [
 ⟨some 4, .mv true (.c (.int .i64 1)), none⟩]
abbrev slots_Store_Kill_r3 : List AI := [
 ⟨some 16, .mv false (.t 0), none⟩,
 ⟨some 17, .mv false (.t 1), none⟩,
 ⟨some 18, .call (.c (.fn f_slots_Store_change)) [(.t 16), (.t 17), (.c (.str []))] 0, none⟩,
 ⟨some 4, .mv true (.t 18), none⟩]
abbrev slots_Store_Kill_c : ACode := .seq (.reg false slots_Store_Kill_r0) (.seq (.seq (.reg false slots_Store_Kill_r1) (.cond (.t 15) (.seq (.reg false slots_Store_Kill_r2) (.ret)) (.skip))) (.seq (.reg false slots_Store_Kill_r3) (.ret)))
def slots_Store_Kill_F : AFunc := ⟨19, [.tmp 4], slots_Store_Kill_c⟩
theorem slots_Store_Kill_cp : compile Try.prog [] f_slots_Store_Kill = some slots_Store_Kill_F := by kernel_rfl
abbrev slots_Store_Get_r0 : List AI := [
 ⟨some 4, .mv true (.c (.str [])), none⟩,
 ⟨some 5, .mv true (.c (.int .i64 0)), none⟩]
abbrev slots_Store_Get_r1 : List AI := [
 ⟨some 11, .mv false (.t 1), none⟩,
 ⟨some 12, .bin .lss (.t 11) (.c (.int .i64 0)), none⟩,
 ⟨some 13, .mv false (.t 12), none⟩,
 ⟨some 14, .mv false (.t 1), some (13, false)⟩,
 ⟨some 15, .mv false (.t 0), some (13, false)⟩,
 ⟨some 16, .nilck (.t 15), some (13, false)⟩,
 ⟨some 17, .faddr 0 (.t 16), some (13, false)⟩,
 ⟨some 18, .faddr 2 (.t 17), some (13, false)⟩,
 ⟨some 19, .load false 1 (.t 18) .any, some (13, false)⟩,
 ⟨some 20, .bin .geq (.t 14) (.t 19), some (13, false)⟩,
 ⟨some 21, .pick (.t 13) (.c (.bool true)) (.t 20), none⟩]
abbrev slots_Store_Get_r2 : List AI := [
 ⟨some 4, .mv true (.c (.str [])), none⟩,
 ⟨some 5, .mv true (.c (.int .i64 1)), none⟩]
abbrev slots_Store_Get_r3 : List AI := [
 ⟨some 23, .mv false (.t 0), none⟩,
 ⟨some 24, .nilck (.t 23), none⟩,
 ⟨some 25, .faddr 0 (.t 24), none⟩,
 ⟨some 26, .load true 3 (.t 25) .any, none⟩,
 ⟨some 27, .mv false (.t 1), none⟩,
 ⟨some 28, .call (.c (.fn f_slots_part_slot)) [(.t 26), (.t 27)] 0, none⟩,
 ⟨some 22, .mv false (.t 28), none⟩,
 ⟨some 29, .ext (.t 22) 0, none⟩,
 ⟨some 30, .ext (.t 22) 1, none⟩,
 ⟨some 31, .ext (.t 22) 2, none⟩,
 ⟨some 6, .gn (.alloc (zr 64 (.int .u8 0) ++ [(.int .i64 0), (.bool false)])) [], none⟩,
 ⟨some 7, .alloc (zr 64 (.int .u8 0) ++ [(.int .i64 0), (.bool false)]), none⟩,
 ⟨none, .store 66 (.t 6) (.t 29) .any, none⟩,
 ⟨none, .store 66 (.t 7) (.t 30) .any, none⟩,
 ⟨some 8, .mv true (.t 31), none⟩]
abbrev slots_Store_Get_r4 : List AI := [
 ⟨some 33, .mv false (.t 8), none⟩,
 ⟨some 34, .bin .neq (.t 33) (.c (.int .i64 0)), none⟩,
 ⟨some 32, .mv true (.t 34), none⟩]
abbrev slots_Store_Get_r5 : List AI := [
 ⟨some 35, .mv false (.t 8), none⟩,
 ⟨some 4, .mv true (.c (.str [])), none⟩,
 ⟨some 5, .mv true (.t 35), none⟩]
abbrev slots_Store_Get_r6 : List AI := [
 ⟨some 37, .faddr 65 (.t 6), none⟩,
 ⟨some 38, .load false 1 (.t 37) .any, none⟩,
 ⟨some 39, .not (.t 38), none⟩,
 ⟨some 36, .mv true (.t 39), none⟩]
abbrev slots_Store_Get_r7 : List AI := [
 ⟨some 4, .mv true (.c (.str [])), none⟩,
 ⟨some 5, .mv true (.c (.int .i64 14)), none⟩]
abbrev slots_Store_Get_r8 : List AI := [
 ⟨some 41, .faddr 0 (.t 6), none⟩,
 ⟨some 42, .iaddrA 64 1 (.t 41) (.c (.int .i64 36)), none⟩,
 ⟨some 43, .load false 1 (.t 42) .any, none⟩,
 ⟨some 44, .bin .eql (.t 43) (.c (.int .u8 0)), none⟩,
 ⟨some 40, .mv true (.t 44), none⟩]
abbrev slots_Store_Get_r9 : List AI := [
 ⟨some 4, .mv true (.c (.str [])), none⟩,
 ⟨some 5, .mv true (.c (.int .i64 8)), none⟩]
abbrev slots_Store_Get_b0 : ACode := .seq (.reg false slots_Store_Get_r8) (.cond (.t 40) (.seq (.reg false slots_Store_Get_r9) (.ret)) (.skip))
abbrev slots_Store_Get_b1 : ACode := .seq (.reg false slots_Store_Get_r6) (.cond (.t 36) (.seq (.reg false slots_Store_Get_r7) (.ret)) (slots_Store_Get_b0))
abbrev slots_Store_Get_r10 : List AI := [
 ⟨some 45, .faddr 0 (.t 6), none⟩,
 ⟨some 46, .iaddrA 64 1 (.t 45) (.c (.int .i64 36)), none⟩,
 ⟨some 47, .load false 1 (.t 46) .any, none⟩,
 ⟨some 48, .conv .i64 (.t 47), none⟩,
 ⟨some 9, .mv true (.t 48), none⟩]
abbrev slots_Store_Get_r11 : List AI := [
 ⟨some 49, .mkG 1 0 (.int .u8 0) [], none⟩,
 ⟨some 50, .faddr 0 (.t 6), none⟩,
 ⟨some 51, .mv false (.t 9), none⟩,
 ⟨some 52, .mn (.t 51) (.c (.int .i64 28)), none⟩,
 ⟨some 53, .bin .add (.c (.int .i64 4)) (.t 52), none⟩,
 ⟨some 54, .gd (.arrS 1 64 true true false) [(.t 50), (.c (.int .i64 4)), (.t 53)], none⟩,
 ⟨some 55, .appG 1 1 [(.int .u8 0)] (.t 49) (.t 54), none⟩,
 ⟨some 10, .mv true (.t 55), none⟩]
abbrev slots_Store_Get_r12 : List AI := [
 ⟨some 56, .mv false (.t 9), none⟩,
 ⟨some 57, .bin .gtr (.t 56) (.c (.int .i64 28)), none⟩]
abbrev slots_Store_Get_r13 : List AI := [
 ⟨some 58, .mv true (.t 10), none⟩,
 ⟨some 59, .faddr 0 (.t 6), none⟩,
 ⟨some 60, .mv false (.t 9), none⟩,
 ⟨some 61, .bin .add (.c (.int .i64 37)) (.t 60), none⟩,
 ⟨some 62, .bin .sub (.t 61) (.c (.int .i64 28)), none⟩,
 ⟨some 63, .gd (.arrS 1 64 true true false) [(.t 59), (.c (.int .i64 37)), (.t 62)], none⟩,
 ⟨some 64, .appG 1 1 [(.int .u8 0)] (.t 58) (.t 63), none⟩,
 ⟨some 10, .mv true (.t 64), none⟩]
abbrev slots_Store_Get_r14 : List AI := [
 ⟨some 65, .mv false (.t 10), none⟩,
 ⟨some 66, .gd .b2s [(.t 65)], none⟩,
 ⟨some 4, .mv true (.t 66), none⟩,
 ⟨some 5, .mv true (.c (.int .i64 0)), none⟩]
abbrev slots_Store_Get_c : ACode := .seq (.reg false slots_Store_Get_r0) (.seq (.seq (.reg false slots_Store_Get_r1) (.cond (.t 21) (.seq (.reg false slots_Store_Get_r2) (.ret)) (.skip))) (.seq (.reg false slots_Store_Get_r3) (.seq (.block 0 (.seq (.reg false slots_Store_Get_r4) (.cond (.t 32) (.seq (.reg false slots_Store_Get_r5) (.ret)) (slots_Store_Get_b1)))) (.seq (.reg false slots_Store_Get_r10) (.seq (.reg false slots_Store_Get_r11) (.seq (.seq (.reg false slots_Store_Get_r12) (.cond (.t 57) (.reg false slots_Store_Get_r13) (.skip))) (.seq (.reg false slots_Store_Get_r14) (.ret))))))))
def slots_Store_Get_F : AFunc := ⟨67, [.tmp 4, .tmp 5], slots_Store_Get_c⟩
theorem slots_Store_Get_cp : compile Try.prog [6, 49, 55, 64, 66] f_slots_Store_Get = some slots_Store_Get_F := by kernel_rfl
-- loop 0: [1, 2, 3, 4, 62, 63, 64]
-- loop 0: [1, 5, 6, 7, 8, 9, 17, 18, 19, 58]
-- loop 1: [1, 5, 6, 7, 8, 9, 17, 18, 19]
-- loop 0: [0, 1, 5, 25, 26, 27]
abbrev disk_Disk_Crash_r0 : List AI := [
 ⟨some 4, .mv true (.c .nilP), none⟩]
abbrev disk_Disk_Crash_r1 : List AI := [
 ⟨some 9, .mv false (.t 0), none⟩,
 ⟨some 10, .nilck (.t 9), none⟩,
 ⟨some 11, .faddr 0 (.t 10), none⟩,
 ⟨some 12, .load false 1 (.t 11) .any, none⟩,
 ⟨some 13, .len false (.t 12), none⟩,
 ⟨some 14, .call (.c (.fn f_disk_New)) [(.t 13)] 0, none⟩,
 ⟨some 5, .mv true (.t 14), none⟩]
abbrev disk_Disk_Crash_r2 : List AI := [
 ⟨some 15, .mv false (.t 5), none⟩,
 ⟨some 16, .nilck (.t 15), none⟩,
 ⟨some 17, .faddr 0 (.t 16), none⟩,
 ⟨some 18, .load false 1 (.t 17) .foreign, none⟩,
 ⟨some 19, .mv false (.t 0), none⟩,
 ⟨some 20, .nilck (.t 19), none⟩,
 ⟨some 21, .faddr 0 (.t 20), none⟩,
 ⟨some 22, .load false 1 (.t 21) .foreign, none⟩,
 ⟨some 23, .copy 65 (.t 18) (.t 22), none⟩]
abbrev disk_Disk_Crash_r3 : List AI := [
 ⟨some 24, .mv false (.t 0), none⟩,
 ⟨some 25, .call (.c (.fn f_disk_Disk_sectors)) [(.t 24)] 0, none⟩,
 ⟨some 26, .len false (.t 25), none⟩,
 ⟨some 27, .mv false (.c (.int .i64 0)), none⟩]
abbrev disk_Disk_Crash_r4 : List AI := [
 ⟨some 28, .bin .lss (.t 27) (.t 26), none⟩]
abbrev disk_Disk_Crash_r5 : List AI := [
 ⟨some 29, .mv false (.t 27), none⟩,
 ⟨some 30, .iaddr 1 (.t 25) (.t 27), none⟩,
 ⟨some 31, .load false 1 (.t 30) .any, none⟩,
 ⟨some 6, .mv true (.t 29), none⟩,
 ⟨some 7, .mv true (.t 31), none⟩]
abbrev disk_Disk_Crash_r6 : List AI := [
 ⟨some 8, .mv true (.c (.int .i64 0)), none⟩]
abbrev disk_Disk_Crash_r7 : List AI := [
 ⟨some 32, .mv false (.t 1), none⟩,
 ⟨some 33, .len false (.t 32), none⟩,
 ⟨some 34, .bin .gtr (.t 33) (.c (.int .i64 0)), none⟩]
abbrev disk_Disk_Crash_r8 : List AI := [
 ⟨some 35, .mv false (.t 1), none⟩,
 ⟨some 36, .mv false (.t 6), none⟩,
 ⟨some 37, .mv false (.t 1), none⟩,
 ⟨some 38, .len false (.t 37), none⟩,
 ⟨some 39, .bin .rem (.t 36) (.t 38), none⟩,
 ⟨some 40, .iaddr 1 (.t 35) (.t 39), none⟩,
 ⟨some 41, .load false 1 (.t 40) .any, none⟩,
 ⟨some 8, .mv true (.t 41), none⟩]
abbrev disk_Disk_Crash_r9 : List AI := [
 ⟨some 42, .mv false (.t 5), none⟩,
 ⟨some 43, .nilck (.t 42), none⟩,
 ⟨some 44, .faddr 0 (.t 43), none⟩,
 ⟨some 45, .load false 1 (.t 44) .foreign, none⟩,
 ⟨some 46, .mv false (.t 7), none⟩,
 ⟨some 47, .mv false (.t 0), none⟩,
 ⟨some 48, .nilck (.t 47), none⟩,
 ⟨some 49, .faddr 0 (.t 48), none⟩,
 ⟨some 50, .load false 1 (.t 49) .foreign, none⟩,
 ⟨some 51, .mv false (.t 7), none⟩,
 ⟨some 52, .iaddr 65 (.t 50) (.t 51), none⟩,
 ⟨some 53, .load true 65 (.t 52) .foreign, none⟩,
 ⟨some 54, .mv false (.t 0), none⟩,
 ⟨some 55, .nilck (.t 54), none⟩,
 ⟨some 56, .faddr 1 (.t 55), none⟩,
 ⟨some 57, .load false 1 (.t 56) .foreign, none⟩,
 ⟨some 58, .mv false (.t 7), none⟩,
 ⟨some 59, .gd (.mlook [.i] .nilS false) [(.t 57), (.t 58)], none⟩,
 ⟨some 60, .mv false (.t 8), none⟩,
 ⟨some 61, .call (.c (.fn f_disk_found)) [(.t 53), (.t 59), (.t 60)] 1, none⟩,
 ⟨some 62, .iaddr 65 (.t 45) (.t 46), none⟩,
 ⟨none, .store 65 (.t 62) (.t 61) .gp, none⟩]
abbrev disk_Disk_Crash_r10 : List AI := [
 ⟨some 63, .bin .add (.t 27) (.c (.int .i64 1)), none⟩,
 ⟨some 27, .mv false (.t 63), none⟩]
abbrev disk_Disk_Crash_l0 : ACode := .seq (.reg false disk_Disk_Crash_r4) (.seq (.cond (.t 28) (.skip) (.exit 0)) (.seq (.block 1 (.seq (.reg false disk_Disk_Crash_r5) (.seq (.reg false disk_Disk_Crash_r6) (.seq (.seq (.reg false disk_Disk_Crash_r7) (.cond (.t 34) (.reg false disk_Disk_Crash_r8) (.skip))) (.reg true disk_Disk_Crash_r9))))) (.reg false disk_Disk_Crash_r10)))
abbrev disk_Disk_Crash_r11 : List AI := [
 ⟨some 64, .mv false (.t 5), none⟩,
 ⟨some 4, .mv true (.t 64), none⟩]
abbrev disk_Disk_Crash_c : ACode := .seq (.reg false disk_Disk_Crash_r0) (.seq (.reg false disk_Disk_Crash_r1) (.seq (.reg true disk_Disk_Crash_r2) (.seq (.seq (.reg false disk_Disk_Crash_r3) (.block 0 (.loop disk_Disk_Crash_l0))) (.seq (.reg false disk_Disk_Crash_r11) (.ret)))))
def disk_Disk_Crash_F : AFunc := ⟨65, [.tmp 4], disk_Disk_Crash_c⟩
theorem disk_Disk_Crash_cp : compile Try.prog [] f_disk_Disk_Crash = some disk_Disk_Crash_F := by kernel_rfl
abbrev disk_Disk_Size_r0 : List AI := [
 ⟨some 2, .mv true (.c (.int .i64 0)), none⟩]
abbrev disk_Disk_Size_r1 : List AI := [
 ⟨some 3, .mv false (.t 0), none⟩,
 ⟨some 4, .nilck (.t 3), none⟩,
 ⟨some 5, .faddr 0 (.t 4), none⟩,
 ⟨some 6, .load false 1 (.t 5) .any, none⟩,
 ⟨some 7, .len false (.t 6), none⟩,
 ⟨some 2, .mv true (.t 7), none⟩]
abbrev disk_Disk_Size_c : ACode := .seq (.reg false disk_Disk_Size_r0) (.seq (.reg false disk_Disk_Size_r1) (.ret))
def disk_Disk_Size_F : AFunc := ⟨8, [.tmp 2], disk_Disk_Size_c⟩
theorem disk_Disk_Size_cp : compile Try.prog [] f_disk_Disk_Size = some disk_Disk_Size_F := by kernel_rfl
abbrev disk_Disk_Down_r0 : List AI := [
 ⟨some 2, .mv true (.c (.bool false)), none⟩]
abbrev disk_Disk_Down_r1 : List AI := [
 ⟨some 3, .mv false (.t 0), none⟩,
 ⟨some 4, .nilck (.t 3), none⟩,
 ⟨some 5, .faddr 4 (.t 4), none⟩,
 ⟨some 6, .load false 1 (.t 5) .any, none⟩,
 ⟨some 2, .mv true (.t 6), none⟩]
abbrev disk_Disk_Down_c : ACode := .seq (.reg false disk_Disk_Down_r0) (.seq (.reg false disk_Disk_Down_r1) (.ret))
def disk_Disk_Down_F : AFunc := ⟨7, [.tmp 2], disk_Disk_Down_c⟩
theorem disk_Disk_Down_cp : compile Try.prog [] f_disk_Disk_Down = some disk_Disk_Down_F := by kernel_rfl
abbrev disk_Disk_Steps_r0 : List AI := [
 ⟨some 2, .mv true (.c (.int .i64 0)), none⟩]
abbrev disk_Disk_Steps_r1 : List AI := [
 ⟨some 3, .mv false (.t 0), none⟩,
 ⟨some 4, .nilck (.t 3), none⟩,
 ⟨some 5, .faddr 2 (.t 4), none⟩,
 ⟨some 6, .load false 1 (.t 5) .any, none⟩,
 ⟨some 2, .mv true (.t 6), none⟩]
abbrev disk_Disk_Steps_c : ACode := .seq (.reg false disk_Disk_Steps_r0) (.seq (.reg false disk_Disk_Steps_r1) (.ret))
def disk_Disk_Steps_F : AFunc := ⟨7, [.tmp 2], disk_Disk_Steps_c⟩
theorem disk_Disk_Steps_cp : compile Try.prog [] f_disk_Disk_Steps = some disk_Disk_Steps_F := by kernel_rfl
-- loop 0: [0, 3, 7, 8, 9]
-- loop 0: [1, 3, 4, 6, 9, 27, 28, 29]
abbrev disk_Disk_Arm_r0 : List AI := [
 ⟨some 4, .mv false (.t 0), none⟩,
 ⟨some 5, .mv false (.t 1), none⟩,
 ⟨some 6, .mx (.t 5) (.c (.int .i64 (-1))), none⟩,
 ⟨some 7, .nilck (.t 4), none⟩,
 ⟨some 8, .faddr 3 (.t 7), none⟩,
 ⟨none, .store 1 (.t 8) (.t 6) .any, none⟩]
abbrev disk_Disk_Arm_c : ACode := .reg false disk_Disk_Arm_r0
def disk_Disk_Arm_F : AFunc := ⟨9, [], disk_Disk_Arm_c⟩
theorem disk_Disk_Arm_cp : compile Try.prog [] f_disk_Disk_Arm = some disk_Disk_Arm_F := by kernel_rfl
-- loop 0: [0, 19]
abbrev disk_Disk_Sync_r0 : List AI := [
 ⟨some 2, .mv true (.c (.int .i64 0)), none⟩]
abbrev disk_Disk_Sync_r1 : List AI := [
 ⟨some 6, .mv false (.t 0), none⟩,
 ⟨some 7, .call (.c (.fn f_disk_Disk_check)) [(.t 6), (.c (.int .i64 0))] 0, none⟩,
 ⟨some 3, .mv true (.t 7), none⟩]
abbrev disk_Disk_Sync_r2 : List AI := [
 ⟨some 8, .mv false (.t 3), none⟩,
 ⟨some 9, .bin .eql (.t 8) (.c (.int .i64 0)), none⟩]
abbrev disk_Disk_Sync_r3 : List AI := [
 ⟨some 10, .mv false (.t 0), none⟩,
 ⟨some 11, .call (.c (.fn f_disk_Disk_step)) [(.t 10)] 0, none⟩,
 ⟨some 3, .mv true (.t 11), none⟩]
abbrev disk_Disk_Sync_r4 : List AI := [
 ⟨some 12, .mv false (.t 3), none⟩,
 ⟨some 13, .bin .neq (.t 12) (.c (.int .i64 0)), none⟩]
abbrev disk_Disk_Sync_r5 : List AI := [
 ⟨some 14, .mv false (.t 3), none⟩,
 ⟨some 2, .mv true (.t 14), none⟩]
abbrev disk_Disk_Sync_r6 : List AI := [
 ⟨some 15, .mv false (.t 0), none⟩,
 ⟨some 16, .nilck (.t 15), none⟩,
 ⟨some 17, .faddr 1 (.t 16), none⟩,
 ⟨some 18, .load false 1 (.t 17) .any, none⟩,
 ⟨some 19, .gn .rng [(.t 18)], none⟩]
abbrev disk_Disk_Sync_r7 : List AI := [
 ⟨some 20, .gn .nxt [(.t 19)], none⟩,
 ⟨some 21, .ext (.t 20) 0, none⟩]
abbrev disk_Disk_Sync_r8 : List AI := [
 ⟨some 22, .gd .entry [(.t 19)], none⟩,
 ⟨some 23, .ext (.t 22) 0, none⟩,
 ⟨some 24, .ext (.t 22) 1, none⟩,
 ⟨some 4, .mv true (.t 23), none⟩,
 ⟨some 5, .mv true (.t 24), none⟩]
abbrev disk_Disk_Sync_r9 : List AI := [
 ⟨some 25, .mv false (.t 0), none⟩,
 ⟨some 26, .nilck (.t 25), none⟩,
 ⟨some 27, .faddr 0 (.t 26), none⟩,
 ⟨some 28, .load false 1 (.t 27) .foreign, none⟩,
 ⟨some 29, .mv false (.t 4), none⟩,
 ⟨some 30, .mv false (.t 5), none⟩,
 ⟨some 31, .mv false (.t 5), none⟩,
 ⟨some 32, .len false (.t 31), none⟩,
 ⟨some 33, .bin .sub (.t 32) (.c (.int .i64 1)), none⟩,
 ⟨some 34, .iaddr 64 (.t 30) (.t 33), none⟩,
 ⟨some 35, .load true 64 (.t 34) .foreign, none⟩,
 ⟨some 36, .build (zr 64 (.int .u8 0) ++ [(.bool false)]) [(0, 64, (.t 35))], none⟩,
 ⟨some 37, .iaddr 65 (.t 28) (.t 29), none⟩,
 ⟨none, .store 65 (.t 37) (.t 36) .gp, none⟩]
abbrev disk_Disk_Sync_r10 : List AI := [
 ⟨some 38, .mv false (.t 0), none⟩,
 ⟨some 39, .nilck (.t 38), none⟩,
 ⟨some 40, .faddr 1 (.t 39), none⟩,
 ⟨some 41, .load false 1 (.t 40) .any, none⟩,
 ⟨some 42, .mv false (.t 4), none⟩,
 ⟨none, .gd (.mdel [.i]) [(.t 41), (.t 42)], none⟩]
abbrev disk_Disk_Sync_l0 : ACode := .seq (.reg false disk_Disk_Sync_r7) (.seq (.cond (.t 21) (.skip) (.exit 0)) (.block 1 (.seq (.reg false disk_Disk_Sync_r8) (.seq (.reg true disk_Disk_Sync_r9) (.reg false disk_Disk_Sync_r10)))))
abbrev disk_Disk_Sync_r11 : List AI := [
 ⟨some 2, .mv true (.c (.int .i64 0)), none⟩]
abbrev disk_Disk_Sync_c : ACode := .seq (.reg false disk_Disk_Sync_r0) (.seq (.reg false disk_Disk_Sync_r1) (.seq (.seq (.reg false disk_Disk_Sync_r2) (.cond (.t 9) (.reg false disk_Disk_Sync_r3) (.skip))) (.seq (.seq (.reg false disk_Disk_Sync_r4) (.cond (.t 13) (.seq (.reg false disk_Disk_Sync_r5) (.ret)) (.skip))) (.seq (.seq (.reg false disk_Disk_Sync_r6) (.block 0 (.loop disk_Disk_Sync_l0))) (.seq (.reg false disk_Disk_Sync_r11) (.ret))))))
def disk_Disk_Sync_F : AFunc := ⟨43, [.tmp 2], disk_Disk_Sync_c⟩
theorem disk_Disk_Sync_cp : compile Try.prog [] f_disk_Disk_Sync = some disk_Disk_Sync_F := by kernel_rfl
abbrev disk_Disk_Rot_r0 : List AI := [
 ⟨some 4, .mv true (.c (.int .i64 0)), none⟩]
abbrev disk_Disk_Rot_r1 : List AI := [
 ⟨some 6, .mv false (.t 0), none⟩,
 ⟨some 7, .mv false (.t 1), none⟩,
 ⟨some 8, .call (.c (.fn f_disk_Disk_check)) [(.t 6), (.t 7)] 0, none⟩,
 ⟨some 5, .mv true (.t 8), none⟩]
abbrev disk_Disk_Rot_r2 : List AI := [
 ⟨some 9, .mv false (.t 5), none⟩,
 ⟨some 10, .bin .eql (.t 9) (.c (.int .i64 0)), none⟩]
abbrev disk_Disk_Rot_r3 : List AI := [
 ⟨some 11, .mv false (.t 0), none⟩,
 ⟨some 12, .nilck (.t 11), none⟩,
 ⟨some 13, .faddr 0 (.t 12), none⟩,
 ⟨some 14, .load false 1 (.t 13) .any, none⟩,
 ⟨some 15, .mv false (.t 1), none⟩,
 ⟨some 16, .build (zr 64 (.int .u8 0) ++ [(.bool false)]) [(64, 1, (.c (.bool true)))], none⟩,
 ⟨some 17, .iaddr 65 (.t 14) (.t 15), none⟩,
 ⟨none, .store 65 (.t 17) (.t 16) .any, none⟩]
abbrev disk_Disk_Rot_r4 : List AI := [
 ⟨some 18, .mv false (.t 5), none⟩,
 ⟨some 4, .mv true (.t 18), none⟩]
abbrev disk_Disk_Rot_c : ACode := .seq (.reg false disk_Disk_Rot_r0) (.seq (.reg false disk_Disk_Rot_r1) (.seq (.seq (.reg false disk_Disk_Rot_r2) (.cond (.t 10) (.reg false disk_Disk_Rot_r3) (.skip))) (.seq (.reg false disk_Disk_Rot_r4) (.ret))))
def disk_Disk_Rot_F : AFunc := ⟨19, [.tmp 4], disk_Disk_Rot_c⟩
theorem disk_Disk_Rot_cp : compile Try.prog [] f_disk_Disk_Rot = some disk_Disk_Rot_F := by kernel_rfl
abbrev quietuslaw22_guard_reopen_r0 : List AI := [
 ⟨some 3, .box 4 (.t 1), none⟩,
 ⟨some 4, .mv true (.c (.bool false)), none⟩]
abbrev quietuslaw22_guard_reopen_r1 : List AI := [
 ⟨some 10, .mv false (.t 0), none⟩,
 ⟨some 11, .mv false (.t 0), none⟩,
 ⟨some 12, .nilck (.t 11), none⟩,
 ⟨some 13, .faddr 0 (.t 12), none⟩,
 ⟨some 14, .load false 1 (.t 13) .foreign, none⟩,
 ⟨some 15, .faddr 3 (.t 3), none⟩,
 ⟨some 16, .load false 1 (.t 15) (.site 3), none⟩,
 ⟨some 17, .call (.c (.fn f_disk_Disk_Crash)) [(.t 14), (.t 16)] 2, none⟩,
 ⟨some 18, .nilck (.t 10), none⟩,
 ⟨some 19, .faddr 0 (.t 18), none⟩,
 ⟨none, .store 1 (.t 19) (.t 17) .gp, none⟩]
abbrev quietuslaw22_guard_reopen_r2 : List AI := [
 ⟨some 20, .mv false (.t 0), none⟩,
 ⟨some 21, .nilck (.t 20), none⟩,
 ⟨some 22, .faddr 0 (.t 21), none⟩,
 ⟨some 23, .load false 1 (.t 22) .any, none⟩,
 ⟨some 24, .gd (.pnil 0 false) [(.t 23)], none⟩]
abbrev quietuslaw22_guard_reopen_r3 : List AI := [
 ⟨some 4, .mv true (.c (.bool false)), none⟩]
abbrev quietuslaw22_guard_reopen_r4 : List AI := [
 ⟨some 25, .faddr 1 (.t 3), none⟩,
 ⟨some 26, .load false 1 (.t 25) .any, none⟩,
 ⟨some 27, .bin .geq (.t 26) (.c (.int .i64 0)), none⟩]
abbrev quietuslaw22_guard_reopen_r5 : List AI := [
 ⟨some 28, .mv false (.t 0), none⟩,
 ⟨some 29, .nilck (.t 28), none⟩,
 ⟨some 30, .faddr 0 (.t 29), none⟩,
 ⟨some 31, .load false 1 (.t 30) .foreign, none⟩,
 ⟨some 32, .faddr 1 (.t 3), none⟩,
 ⟨some 33, .load false 1 (.t 32) (.site 3), none⟩,
 ⟨some 34, .call (.c (.fn f_disk_Disk_Arm)) [(.t 31), (.t 33)] 2, none⟩]
abbrev quietuslaw22_guard_reopen_r6 : List AI := [
 ⟨some 36, .mv false (.t 0), none⟩,
 ⟨some 37, .nilck (.t 36), none⟩,
 ⟨some 38, .faddr 0 (.t 37), none⟩,
 ⟨some 39, .load false 1 (.t 38) .any, none⟩,
 ⟨some 40, .call (.c (.fn f_slots_Open)) [(.t 39), (.c (.int .i64 0)), (.c (.int .i64 3))] 0, none⟩,
 ⟨some 35, .mv false (.t 40), none⟩,
 ⟨some 41, .ext (.t 35) 0, none⟩,
 ⟨some 42, .ext (.t 35) 1, none⟩,
 ⟨some 43, .ext (.t 35) 2, none⟩,
 ⟨some 5, .mv true (.t 41), none⟩,
 ⟨some 6, .mv true (.t 42), none⟩,
 ⟨some 7, .mv true (.t 43), none⟩]
abbrev quietuslaw22_guard_reopen_r7 : List AI := [
 ⟨some 44, .mv false (.t 7), none⟩,
 ⟨some 45, .bin .eql (.t 44) (.c (.int .i64 12)), none⟩,
 ⟨some 46, .mv false (.t 45), none⟩,
 ⟨some 47, .faddr 1 (.t 3), some (46, true)⟩,
 ⟨some 48, .load false 1 (.t 47) .any, some (46, true)⟩,
 ⟨some 49, .bin .geq (.t 48) (.c (.int .i64 0)), some (46, true)⟩,
 ⟨some 50, .pick (.t 46) (.t 49) (.c (.bool false)), none⟩]
abbrev quietuslaw22_guard_reopen_r8 : List AI := [
 ⟨some 51, .mv false (.t 0), none⟩,
 ⟨some 52, .mv false (.t 0), none⟩,
 ⟨some 53, .nilck (.t 52), none⟩,
 ⟨some 54, .faddr 0 (.t 53), none⟩,
 ⟨some 55, .load false 1 (.t 54) .foreign, none⟩,
 ⟨some 56, .faddr 3 (.t 3), none⟩,
 ⟨some 57, .load false 1 (.t 56) (.site 3), none⟩,
 ⟨some 58, .call (.c (.fn f_disk_Disk_Crash)) [(.t 55), (.t 57)] 2, none⟩,
 ⟨some 59, .nilck (.t 51), none⟩,
 ⟨some 60, .faddr 0 (.t 59), none⟩,
 ⟨none, .store 1 (.t 60) (.t 58) .gp, none⟩]
abbrev quietuslaw22_guard_reopen_r9 : List AI := [
 ⟨some 61, .mv false (.t 0), none⟩,
 ⟨some 62, .nilck (.t 61), none⟩,
 ⟨some 63, .faddr 0 (.t 62), none⟩,
 ⟨some 64, .load false 1 (.t 63) .any, none⟩,
 ⟨some 65, .gd (.pnil 0 false) [(.t 64)], none⟩]
abbrev quietuslaw22_guard_reopen_r10 : List AI := [
 ⟨some 4, .mv true (.c (.bool false)), none⟩]
abbrev quietuslaw22_guard_reopen_r11 : List AI := [
 ⟨some 67, .mv false (.t 0), none⟩,
 ⟨some 68, .nilck (.t 67), none⟩,
 ⟨some 69, .faddr 0 (.t 68), none⟩,
 ⟨some 70, .load false 1 (.t 69) .any, none⟩,
 ⟨some 71, .call (.c (.fn f_slots_Open)) [(.t 70), (.c (.int .i64 0)), (.c (.int .i64 3))] 0, none⟩,
 ⟨some 66, .mv false (.t 71), none⟩,
 ⟨some 72, .ext (.t 66) 0, none⟩,
 ⟨some 73, .ext (.t 66) 1, none⟩,
 ⟨some 74, .ext (.t 66) 2, none⟩,
 ⟨some 5, .mv true (.t 72), none⟩,
 ⟨some 6, .mv true (.t 73), none⟩,
 ⟨some 7, .mv true (.t 74), none⟩]
abbrev quietuslaw22_guard_reopen_b0 : ACode := .seq (.reg true quietuslaw22_guard_reopen_r8) (.seq (.seq (.reg false quietuslaw22_guard_reopen_r9) (.cond (.t 65) (.seq (.reg false quietuslaw22_guard_reopen_r10) (.ret)) (.skip))) (.reg false quietuslaw22_guard_reopen_r11))
abbrev quietuslaw22_guard_reopen_r12 : List AI := [
 ⟨some 75, .mv false (.t 0), none⟩,
 ⟨some 76, .nilck (.t 75), none⟩,
 ⟨some 77, .faddr 0 (.t 76), none⟩,
 ⟨some 78, .load false 1 (.t 77) .any, none⟩,
 ⟨some 79, .call (.c (.fn f_disk_Disk_Arm)) [(.t 78), (.c (.int .i64 (-1)))] 0, none⟩]
abbrev quietuslaw22_guard_reopen_r13 : List AI := [
 ⟨some 80, .mv false (.t 7), none⟩,
 ⟨some 81, .bin .neq (.t 80) (.c (.int .i64 0)), none⟩,
 ⟨some 82, .mv false (.t 81), none⟩,
 ⟨some 83, .mv false (.t 5), some (82, false)⟩,
 ⟨some 84, .gd (.pnil 0 false) [(.t 83)], some (82, false)⟩,
 ⟨some 85, .pick (.t 82) (.c (.bool true)) (.t 84), none⟩,
 ⟨some 86, .mv false (.t 85), none⟩,
 ⟨some 87, .mv false (.t 6), some (86, false)⟩,
 ⟨some 88, .len false (.t 87), some (86, false)⟩,
 ⟨some 89, .bin .neq (.t 88) (.c (.int .i64 0)), some (86, false)⟩,
 ⟨some 90, .pick (.t 86) (.c (.bool true)) (.t 89), none⟩]
abbrev quietuslaw22_guard_reopen_r14 : List AI := [
 ⟨some 4, .mv true (.c (.bool false)), none⟩]
abbrev quietuslaw22_guard_reopen_r15 : List AI := [
 ⟨some 91, .mv false (.t 0), none⟩,
 ⟨some 92, .mv false (.t 5), none⟩,
 ⟨some 93, .nilck (.t 91), none⟩,
 ⟨some 94, .faddr 1 (.t 93), none⟩,
 ⟨none, .store 1 (.t 94) (.t 92) .any, none⟩]
abbrev quietuslaw22_guard_reopen_r16 : List AI := [
 ⟨some 95, .mv false (.t 0), none⟩,
 ⟨some 96, .build [(.int .i64 0), (.int .i64 0), (.int .i64 0)] [(0, 1, (.c (.int .i64 (-1)))), (1, 1, (.c (.int .i64 (-1)))), (2, 1, (.c (.int .i64 (-1))))], none⟩,
 ⟨some 97, .nilck (.t 95), none⟩,
 ⟨some 98, .faddr 8 (.t 97), none⟩,
 ⟨none, .store 3 (.t 98) (.t 96) .any, none⟩]
abbrev quietuslaw22_guard_reopen_r17 : List AI := [
 ⟨some 99, .mv false (.t 0), none⟩,
 ⟨some 100, .nilck (.t 99), none⟩,
 ⟨some 101, .faddr 5 (.t 100), none⟩,
 ⟨some 102, .load false 1 (.t 101) .any, none⟩]
abbrev quietuslaw22_guard_reopen_r18 : List AI := [
 ⟨some 104, .mv false (.t 5), none⟩,
 ⟨some 105, .mv false (.t 0), none⟩,
 ⟨some 106, .nilck (.t 105), none⟩,
 ⟨some 107, .faddr 6 (.t 106), none⟩,
 ⟨some 108, .load false 1 (.t 107) .any, none⟩,
 ⟨some 109, .call (.c (.fn f_slots_Store_Get)) [(.t 104), (.t 108)] 0, none⟩,
 ⟨some 103, .mv false (.t 109), none⟩,
 ⟨some 110, .ext (.t 103) 0, none⟩,
 ⟨some 111, .ext (.t 103) 1, none⟩,
 ⟨some 8, .mv true (.t 110), none⟩,
 ⟨some 9, .mv true (.t 111), none⟩]
abbrev quietuslaw22_guard_reopen_r19 : List AI := [
 ⟨some 112, .mv false (.t 9), none⟩,
 ⟨some 113, .bin .neq (.t 112) (.c (.int .i64 0)), none⟩,
 ⟨some 114, .mv false (.t 113), none⟩,
 ⟨some 115, .mv false (.t 9), some (114, true)⟩,
 ⟨some 116, .bin .neq (.t 115) (.c (.int .i64 8)), some (114, true)⟩,
 ⟨some 117, .pick (.t 114) (.t 116) (.c (.bool false)), none⟩]
abbrev quietuslaw22_guard_reopen_r20 : List AI := [
 ⟨some 4, .mv true (.c (.bool false)), none⟩]
abbrev quietuslaw22_guard_reopen_r21 : List AI := [
 ⟨some 118, .mv false (.t 8), none⟩,
 ⟨some 119, .mv false (.t 0), none⟩,
 ⟨some 120, .nilck (.t 119), none⟩,
 ⟨some 121, .faddr 7 (.t 120), none⟩,
 ⟨some 122, .load false 1 (.t 121) .any, none⟩,
 ⟨some 123, .bin .eql (.t 118) (.t 122), none⟩]
abbrev quietuslaw22_guard_reopen_r22 : List AI := [
 ⟨some 124, .mv false (.t 0), none⟩,
 ⟨some 125, .mv false (.t 0), none⟩,
 ⟨some 126, .nilck (.t 125), none⟩,
 ⟨some 127, .faddr 6 (.t 126), none⟩,
 ⟨some 128, .load false 1 (.t 127) .foreign, none⟩,
 ⟨some 129, .mv false (.t 8), none⟩,
 ⟨some 130, .nilck (.t 124), none⟩,
 ⟨some 131, .faddr 2 (.t 130), none⟩,
 ⟨some 132, .iaddrA 3 1 (.t 131) (.t 128), none⟩,
 ⟨none, .store 1 (.t 132) (.t 129) .gp, none⟩]
abbrev quietuslaw22_guard_reopen_b1 : ACode := .seq (.reg false quietuslaw22_guard_reopen_r18) (.seq (.seq (.reg false quietuslaw22_guard_reopen_r19) (.cond (.t 117) (.seq (.reg false quietuslaw22_guard_reopen_r20) (.ret)) (.skip))) (.seq (.reg false quietuslaw22_guard_reopen_r21) (.cond (.t 123) (.reg true quietuslaw22_guard_reopen_r22) (.skip))))
abbrev quietuslaw22_guard_reopen_r23 : List AI := [
 ⟨some 133, .mv false (.t 0), none⟩,
 ⟨some 134, .nilck (.t 133), none⟩,
 ⟨some 135, .faddr 5 (.t 134), none⟩,
 ⟨none, .store 1 (.t 135) (.c (.bool false)) .any, none⟩]
abbrev quietuslaw22_guard_reopen_r24 : List AI := [
 ⟨some 4, .mv true (.c (.bool true)), none⟩]
abbrev quietuslaw22_guard_reopen_c : ACode := .seq (.reg false quietuslaw22_guard_reopen_r0) (.seq (.reg true quietuslaw22_guard_reopen_r1) (.seq (.seq (.reg false quietuslaw22_guard_reopen_r2) (.cond (.t 24) (.seq (.reg false quietuslaw22_guard_reopen_r3) (.ret)) (.skip))) (.seq (.seq (.reg false quietuslaw22_guard_reopen_r4) (.cond (.t 27) (.reg true quietuslaw22_guard_reopen_r5) (.skip))) (.seq (.reg false quietuslaw22_guard_reopen_r6) (.seq (.seq (.reg false quietuslaw22_guard_reopen_r7) (.cond (.t 50) (quietuslaw22_guard_reopen_b0) (.skip))) (.seq (.reg false quietuslaw22_guard_reopen_r12) (.seq (.seq (.reg false quietuslaw22_guard_reopen_r13) (.cond (.t 90) (.seq (.reg false quietuslaw22_guard_reopen_r14) (.ret)) (.skip))) (.seq (.reg false quietuslaw22_guard_reopen_r15) (.seq (.reg false quietuslaw22_guard_reopen_r16) (.seq (.seq (.reg false quietuslaw22_guard_reopen_r17) (.cond (.t 102) (quietuslaw22_guard_reopen_b1) (.skip))) (.seq (.reg false quietuslaw22_guard_reopen_r23) (.seq (.reg false quietuslaw22_guard_reopen_r24) (.ret)))))))))))))
def quietuslaw22_guard_reopen_F : AFunc := ⟨136, [.tmp 4], quietuslaw22_guard_reopen_c⟩
theorem quietuslaw22_guard_reopen_cp : compile Try.prog [17, 34, 58] f_quietuslaw22_guard_reopen = some quietuslaw22_guard_reopen_F := by kernel_rfl
abbrev quietuslaw22_guard_change_r0 : List AI := [
 ⟨some 6, .mv true (.c (.bool false)), none⟩]
abbrev quietuslaw22_guard_change_r1 : List AI := [
 ⟨some 7, .mv true (.c (.int .i64 0)), none⟩]
abbrev quietuslaw22_guard_change_r2 : List AI := [
 ⟨some 8, .mv false (.t 2), none⟩,
 ⟨some 9, .bin .eql (.t 8) (.c (.str [])), none⟩]
abbrev quietuslaw22_guard_change_r3 : List AI := [
 ⟨some 10, .mv false (.t 0), none⟩,
 ⟨some 11, .nilck (.t 10), none⟩,
 ⟨some 12, .faddr 1 (.t 11), none⟩,
 ⟨some 13, .load false 1 (.t 12) .any, none⟩,
 ⟨some 14, .mv false (.t 1), none⟩,
 ⟨some 15, .call (.c (.fn f_slots_Store_Kill)) [(.t 13), (.t 14)] 0, none⟩,
 ⟨some 7, .mv true (.t 15), none⟩]
abbrev quietuslaw22_guard_change_r4 : List AI := [
 ⟨some 16, .mv false (.t 0), none⟩,
 ⟨some 17, .nilck (.t 16), none⟩,
 ⟨some 18, .faddr 1 (.t 17), none⟩,
 ⟨some 19, .load false 1 (.t 18) .any, none⟩,
 ⟨some 20, .mv false (.t 1), none⟩,
 ⟨some 21, .mv false (.t 2), none⟩,
 ⟨some 22, .call (.c (.fn f_slots_Store_Put)) [(.t 19), (.t 20), (.t 21)] 0, none⟩,
 ⟨some 7, .mv true (.t 22), none⟩]
abbrev quietuslaw22_guard_change_r5 : List AI := [
 ⟨some 23, .mv false (.t 7), none⟩,
 ⟨some 24, .bin .eql (.t 23) (.c (.int .i64 12)), none⟩]
abbrev quietuslaw22_guard_change_r6 : List AI := [
 ⟨some 25, .mv false (.t 0), none⟩,
 ⟨some 26, .mv false (.t 0), none⟩,
 ⟨some 27, .mv false (.t 0), none⟩,
 ⟨some 28, .mv false (.t 1), none⟩,
 ⟨some 29, .mv false (.t 2), none⟩,
 ⟨some 30, .nilck (.t 25), none⟩,
 ⟨some 31, .faddr 5 (.t 30), none⟩,
 ⟨none, .store 1 (.t 31) (.c (.bool true)) .any, none⟩,
 ⟨some 32, .nilck (.t 26), none⟩,
 ⟨some 33, .faddr 6 (.t 32), none⟩,
 ⟨none, .store 1 (.t 33) (.t 28) .any, none⟩,
 ⟨some 34, .nilck (.t 27), none⟩,
 ⟨some 35, .faddr 7 (.t 34), none⟩,
 ⟨none, .store 1 (.t 35) (.t 29) .any, none⟩]
abbrev quietuslaw22_guard_change_r7 : List AI := [
 ⟨some 36, .mv false (.t 0), none⟩,
 ⟨some 37, .nilck (.t 36), none⟩,
 ⟨some 38, .faddr 0 (.t 37), none⟩,
 ⟨some 39, .load false 1 (.t 38) .any, none⟩,
 ⟨some 40, .call (.c (.fn f_disk_Disk_Down)) [(.t 39)] 0, none⟩,
 ⟨some 6, .mv true (.t 40), none⟩]
abbrev quietuslaw22_guard_change_b0 : ACode := .seq (.reg false quietuslaw22_guard_change_r6) (.seq (.reg false quietuslaw22_guard_change_r7) (.ret))
abbrev quietuslaw22_guard_change_r8 : List AI := [
 ⟨some 41, .mv false (.t 0), none⟩,
 ⟨some 42, .mv false (.t 1), none⟩,
 ⟨some 43, .mv false (.t 0), none⟩,
 ⟨some 44, .mv false (.t 1), none⟩,
 ⟨some 45, .mv false (.t 2), none⟩,
 ⟨some 46, .nilck (.t 41), none⟩,
 ⟨some 47, .faddr 2 (.t 46), none⟩,
 ⟨some 48, .iaddrA 3 1 (.t 47) (.t 42), none⟩,
 ⟨some 49, .nilck (.t 43), none⟩,
 ⟨some 50, .faddr 8 (.t 49), none⟩,
 ⟨none, .store 1 (.t 48) (.t 45) .gp, none⟩,
 ⟨some 51, .iaddrA 3 1 (.t 50) (.t 44), none⟩,
 ⟨none, .store 1 (.t 51) (.c (.int .i64 (-1))) .gp, none⟩]
abbrev quietuslaw22_guard_change_r9 : List AI := [
 ⟨some 52, .mv false (.t 7), none⟩,
 ⟨some 53, .bin .eql (.t 52) (.c (.int .i64 0)), none⟩,
 ⟨some 6, .mv true (.t 53), none⟩]
abbrev quietuslaw22_guard_change_c : ACode := .seq (.reg false quietuslaw22_guard_change_r0) (.seq (.reg false quietuslaw22_guard_change_r1) (.seq (.seq (.reg false quietuslaw22_guard_change_r2) (.cond (.t 9) (.reg false quietuslaw22_guard_change_r3) (.reg false quietuslaw22_guard_change_r4))) (.seq (.seq (.reg false quietuslaw22_guard_change_r5) (.cond (.t 24) (quietuslaw22_guard_change_b0) (.skip))) (.seq (.reg true quietuslaw22_guard_change_r8) (.seq (.reg false quietuslaw22_guard_change_r9) (.ret))))))
def quietuslaw22_guard_change_F : AFunc := ⟨54, [.tmp 6], quietuslaw22_guard_change_c⟩
theorem quietuslaw22_guard_change_cp : compile Try.prog [] f_quietuslaw22_guard_change = some quietuslaw22_guard_change_F := by kernel_rfl
-- loop 0: [0, 10, 11]
abbrev quietuslaw22_guard_right_r0 : List AI := [
 ⟨some 2, .mv true (.c (.bool false)), none⟩]
abbrev quietuslaw22_guard_right_r1 : List AI := [
 ⟨some 7, .mv false (.t 0), none⟩,
 ⟨some 8, .nilck (.t 7), none⟩,
 ⟨some 9, .faddr 2 (.t 8), none⟩,
 ⟨some 10, .load true 3 (.t 9) .any, none⟩,
 ⟨some 11, .mv false (.c (.int .i64 0)), none⟩]
abbrev quietuslaw22_guard_right_r2 : List AI := [
 ⟨some 12, .bin .lss (.t 11) (.c (.int .i64 3)), none⟩]
abbrev quietuslaw22_guard_right_r3 : List AI := [
 ⟨some 13, .mv false (.t 11), none⟩,
 ⟨some 14, .idxA false 3 1 (.t 10) (.t 11), none⟩,
 ⟨some 3, .mv true (.t 13), none⟩,
 ⟨some 4, .mv true (.t 14), none⟩]
abbrev quietuslaw22_guard_right_r4 : List AI := [
 ⟨some 16, .mv false (.t 0), none⟩,
 ⟨some 17, .nilck (.t 16), none⟩,
 ⟨some 18, .faddr 1 (.t 17), none⟩,
 ⟨some 19, .load false 1 (.t 18) .any, none⟩,
 ⟨some 20, .mv false (.t 3), none⟩,
 ⟨some 21, .call (.c (.fn f_slots_Store_Get)) [(.t 19), (.t 20)] 0, none⟩,
 ⟨some 15, .mv false (.t 21), none⟩,
 ⟨some 22, .ext (.t 15) 0, none⟩,
 ⟨some 23, .ext (.t 15) 1, none⟩,
 ⟨some 5, .mv true (.t 22), none⟩,
 ⟨some 6, .mv true (.t 23), none⟩]
abbrev quietuslaw22_guard_right_r5 : List AI := [
 ⟨some 24, .mv false (.t 5), none⟩,
 ⟨some 25, .mv false (.t 4), none⟩,
 ⟨some 26, .bin .neq (.t 24) (.t 25), none⟩,
 ⟨some 27, .mv false (.t 26), none⟩,
 ⟨some 28, .mv false (.t 6), some (27, false)⟩,
 ⟨some 29, .bin .eql (.t 28) (.c (.int .i64 0)), some (27, false)⟩,
 ⟨some 30, .mv false (.t 4), some (27, false)⟩,
 ⟨some 31, .bin .neq (.t 30) (.c (.str [])), some (27, false)⟩,
 ⟨some 32, .eqb true (.t 29) (.t 31), some (27, false)⟩,
 ⟨some 33, .pick (.t 27) (.c (.bool true)) (.t 32), none⟩,
 ⟨some 34, .mv false (.t 33), none⟩,
 ⟨some 35, .mv false (.t 4), some (34, false)⟩,
 ⟨some 36, .bin .eql (.t 35) (.c (.str [])), some (34, false)⟩,
 ⟨some 37, .mv false (.t 36), some (34, false)⟩,
 ⟨some 38, .mv false (.t 6), some (37, true)⟩,
 ⟨some 39, .bin .neq (.t 38) (.c (.int .i64 8)), some (37, true)⟩,
 ⟨some 40, .pick (.t 37) (.t 39) (.c (.bool false)), some (34, false)⟩,
 ⟨some 41, .pick (.t 34) (.c (.bool true)) (.t 40), none⟩]
abbrev quietuslaw22_guard_right_r6 : List AI := [
 ⟨some 2, .mv true (.c (.bool false)), none⟩]
abbrev quietuslaw22_guard_right_r7 : List AI := [
 ⟨some 42, .bin .add (.t 11) (.c (.int .i64 1)), none⟩,
 ⟨some 11, .mv false (.t 42), none⟩]
abbrev quietuslaw22_guard_right_l0 : ACode := .seq (.reg false quietuslaw22_guard_right_r2) (.seq (.cond (.t 12) (.skip) (.exit 0)) (.seq (.block 1 (.seq (.reg false quietuslaw22_guard_right_r3) (.seq (.reg false quietuslaw22_guard_right_r4) (.seq (.reg false quietuslaw22_guard_right_r5) (.cond (.t 41) (.seq (.reg false quietuslaw22_guard_right_r6) (.ret)) (.skip)))))) (.reg false quietuslaw22_guard_right_r7)))
abbrev quietuslaw22_guard_right_r8 : List AI := [
 ⟨some 2, .mv true (.c (.bool true)), none⟩]
abbrev quietuslaw22_guard_right_c : ACode := .seq (.reg false quietuslaw22_guard_right_r0) (.seq (.seq (.reg false quietuslaw22_guard_right_r1) (.block 0 (.loop quietuslaw22_guard_right_l0))) (.seq (.reg false quietuslaw22_guard_right_r8) (.ret)))
def quietuslaw22_guard_right_F : AFunc := ⟨43, [.tmp 2], quietuslaw22_guard_right_c⟩
theorem quietuslaw22_guard_right_cp : compile Try.prog [] f_quietuslaw22_guard_right = some quietuslaw22_guard_right_F := by kernel_rfl
-- loop 0: [0, 1, 4, 5, 6]
-- loop 1: [1, 4, 5, 7]
abbrev quietusref22_Copy_r0 : List AI := [
 ⟨some 4, .alloc (zr 64 (.int .u8 0)), none⟩]
abbrev quietusref22_Copy_r1 : List AI := [
 ⟨some 5, .alloc (zr 64 (.int .u8 0)), none⟩]
abbrev quietusref22_Copy_r2 : List AI := [
 ⟨some 6, .mv true (.c (.int .i64 0)), none⟩]
abbrev quietusref22_Copy_r3 : List AI := [
 ⟨some 8, .mv false (.t 6), none⟩,
 ⟨some 9, .bin .lss (.t 8) (.c (.int .i64 2)), none⟩]
abbrev quietusref22_Copy_r4 : List AI := [
 ⟨some 12, .mv false (.t 6), none⟩,
 ⟨some 13, .bin .mul (.c (.int .i64 32)) (.t 12), none⟩,
 ⟨some 14, .mv false (.t 0), none⟩,
 ⟨some 15, .bin .quo (.t 14) (.c (.int .i64 16777216)), none⟩,
 ⟨some 16, .conv .u8 (.t 15), none⟩,
 ⟨some 17, .iaddrA 64 1 (.t 5) (.t 13), none⟩,
 ⟨none, .store 1 (.t 17) (.t 16) .any, none⟩]
abbrev quietusref22_Copy_r5 : List AI := [
 ⟨some 18, .mv false (.t 6), none⟩,
 ⟨some 19, .bin .mul (.c (.int .i64 32)) (.t 18), none⟩,
 ⟨some 20, .bin .add (.t 19) (.c (.int .i64 1)), none⟩,
 ⟨some 21, .mv false (.t 0), none⟩,
 ⟨some 22, .bin .quo (.t 21) (.c (.int .i64 65536)), none⟩,
 ⟨some 23, .bin .rem (.t 22) (.c (.int .i64 256)), none⟩,
 ⟨some 24, .conv .u8 (.t 23), none⟩,
 ⟨some 25, .iaddrA 64 1 (.t 5) (.t 20), none⟩,
 ⟨none, .store 1 (.t 25) (.t 24) .any, none⟩]
abbrev quietusref22_Copy_r6 : List AI := [
 ⟨some 26, .mv false (.t 6), none⟩,
 ⟨some 27, .bin .mul (.c (.int .i64 32)) (.t 26), none⟩,
 ⟨some 28, .bin .add (.t 27) (.c (.int .i64 2)), none⟩,
 ⟨some 29, .mv false (.t 0), none⟩,
 ⟨some 30, .bin .quo (.t 29) (.c (.int .i64 256)), none⟩,
 ⟨some 31, .bin .rem (.t 30) (.c (.int .i64 256)), none⟩,
 ⟨some 32, .conv .u8 (.t 31), none⟩,
 ⟨some 33, .iaddrA 64 1 (.t 5) (.t 28), none⟩,
 ⟨none, .store 1 (.t 33) (.t 32) .any, none⟩]
abbrev quietusref22_Copy_r7 : List AI := [
 ⟨some 34, .mv false (.t 6), none⟩,
 ⟨some 35, .bin .mul (.c (.int .i64 32)) (.t 34), none⟩,
 ⟨some 36, .bin .add (.t 35) (.c (.int .i64 3)), none⟩,
 ⟨some 37, .mv false (.t 0), none⟩,
 ⟨some 38, .bin .rem (.t 37) (.c (.int .i64 256)), none⟩,
 ⟨some 39, .conv .u8 (.t 38), none⟩,
 ⟨some 40, .iaddrA 64 1 (.t 5) (.t 36), none⟩,
 ⟨none, .store 1 (.t 40) (.t 39) .any, none⟩]
abbrev quietusref22_Copy_r8 : List AI := [
 ⟨some 10, .mv false (.t 6), none⟩,
 ⟨some 11, .bin .add (.t 10) (.c (.int .i64 1)), none⟩,
 ⟨some 6, .mv true (.t 11), none⟩]
abbrev quietusref22_Copy_l0 : ACode := .seq (.seq (.reg false quietusref22_Copy_r3) (.cond (.t 9) (.skip) (.exit 0))) (.seq (.block 1 (.seq (.reg false quietusref22_Copy_r4) (.seq (.reg false quietusref22_Copy_r5) (.seq (.reg false quietusref22_Copy_r6) (.reg false quietusref22_Copy_r7))))) (.reg false quietusref22_Copy_r8))
abbrev quietusref22_Copy_r9 : List AI := [
 ⟨some 41, .mv false (.t 1), none⟩,
 ⟨some 42, .len true (.t 41), none⟩,
 ⟨some 43, .conv .u8 (.t 42), none⟩,
 ⟨some 44, .iaddrA 64 1 (.t 5) (.c (.int .i64 36)), none⟩,
 ⟨none, .store 1 (.t 44) (.t 43) .any, none⟩]
abbrev quietusref22_Copy_r10 : List AI := [
 ⟨some 7, .mv true (.c (.int .i64 0)), none⟩]
abbrev quietusref22_Copy_r11 : List AI := [
 ⟨some 45, .mv false (.t 7), none⟩,
 ⟨some 46, .mv false (.t 1), none⟩,
 ⟨some 47, .len true (.t 46), none⟩,
 ⟨some 48, .bin .lss (.t 45) (.t 47), none⟩]
abbrev quietusref22_Copy_r12 : List AI := [
 ⟨some 51, .mv false (.t 7), none⟩,
 ⟨some 52, .bin .lss (.t 51) (.c (.int .i64 28)), none⟩]
abbrev quietusref22_Copy_r13 : List AI := [
 ⟨some 53, .mv false (.t 7), none⟩,
 ⟨some 54, .bin .add (.c (.int .i64 4)) (.t 53), none⟩,
 ⟨some 55, .mv false (.t 1), none⟩,
 ⟨some 56, .mv false (.t 7), none⟩,
 ⟨some 57, .idxS (.t 55) (.t 56), none⟩,
 ⟨some 58, .iaddrA 64 1 (.t 5) (.t 54), none⟩,
 ⟨none, .store 1 (.t 58) (.t 57) .any, none⟩]
abbrev quietusref22_Copy_r14 : List AI := [
 ⟨some 59, .mv false (.t 7), none⟩,
 ⟨some 60, .bin .add (.c (.int .i64 37)) (.t 59), none⟩,
 ⟨some 61, .bin .sub (.t 60) (.c (.int .i64 28)), none⟩,
 ⟨some 62, .mv false (.t 1), none⟩,
 ⟨some 63, .mv false (.t 7), none⟩,
 ⟨some 64, .idxS (.t 62) (.t 63), none⟩,
 ⟨some 65, .iaddrA 64 1 (.t 5) (.t 61), none⟩,
 ⟨none, .store 1 (.t 65) (.t 64) .any, none⟩]
abbrev quietusref22_Copy_r15 : List AI := [
 ⟨some 49, .mv false (.t 7), none⟩,
 ⟨some 50, .bin .add (.t 49) (.c (.int .i64 1)), none⟩,
 ⟨some 7, .mv true (.t 50), none⟩]
abbrev quietusref22_Copy_l1 : ACode := .seq (.seq (.reg false quietusref22_Copy_r11) (.cond (.t 48) (.skip) (.exit 2))) (.seq (.block 3 (.seq (.reg false quietusref22_Copy_r12) (.cond (.t 52) (.reg false quietusref22_Copy_r13) (.reg false quietusref22_Copy_r14)))) (.reg false quietusref22_Copy_r15))
abbrev quietusref22_Copy_r16 : List AI := [
 ⟨some 66, .load true 64 (.t 5) .any, none⟩,
 ⟨none, .store 64 (.t 4) (.t 66) .any, none⟩]
abbrev quietusref22_Copy_c : ACode := .seq (.reg false quietusref22_Copy_r0) (.seq (.reg false quietusref22_Copy_r1) (.seq (.seq (.reg false quietusref22_Copy_r2) (.block 0 (.loop quietusref22_Copy_l0))) (.seq (.reg false quietusref22_Copy_r9) (.seq (.seq (.reg false quietusref22_Copy_r10) (.block 2 (.loop quietusref22_Copy_l1))) (.seq (.reg false quietusref22_Copy_r16) (.ret))))))
def quietusref22_Copy_F : AFunc := ⟨67, [.cell 4 true 64], quietusref22_Copy_c⟩
theorem quietusref22_Copy_cp : compile Try.prog [] f_quietusref22_Copy = some quietusref22_Copy_F := by kernel_rfl
abbrev disk_Disk_check_r0 : List AI := [
 ⟨some 4, .mv true (.c (.int .i64 0)), none⟩]
abbrev disk_Disk_check_r1 : List AI := [
 ⟨some 6, .mv false (.t 0), none⟩,
 ⟨some 7, .nilck (.t 6), none⟩,
 ⟨some 8, .faddr 4 (.t 7), none⟩,
 ⟨some 9, .load false 1 (.t 8) .any, none⟩,
 ⟨some 5, .mv true (.t 9), none⟩]
abbrev disk_Disk_check_r2 : List AI := [
 ⟨some 4, .mv true (.c (.int .i64 12)), none⟩]
abbrev disk_Disk_check_r3 : List AI := [
 ⟨some 11, .mv false (.t 1), none⟩,
 ⟨some 12, .bin .lss (.t 11) (.c (.int .i64 0)), none⟩,
 ⟨some 13, .mv false (.t 12), none⟩,
 ⟨some 14, .mv false (.t 1), some (13, false)⟩,
 ⟨some 15, .mv false (.t 0), some (13, false)⟩,
 ⟨some 16, .nilck (.t 15), some (13, false)⟩,
 ⟨some 17, .faddr 0 (.t 16), some (13, false)⟩,
 ⟨some 18, .load false 1 (.t 17) .any, some (13, false)⟩,
 ⟨some 19, .len false (.t 18), some (13, false)⟩,
 ⟨some 20, .bin .geq (.t 14) (.t 19), some (13, false)⟩,
 ⟨some 21, .pick (.t 13) (.c (.bool true)) (.t 20), none⟩,
 ⟨some 10, .mv true (.t 21), none⟩]
abbrev disk_Disk_check_r4 : List AI := [
 ⟨some 4, .mv true (.c (.int .i64 1)), none⟩]
abbrev disk_Disk_check_b0 : ACode := .seq (.reg false disk_Disk_check_r3) (.cond (.t 10) (.seq (.reg false disk_Disk_check_r4) (.ret)) (.skip))
abbrev disk_Disk_check_r5 : List AI := [
 ⟨some 4, .mv true (.c (.int .i64 0)), none⟩]
abbrev disk_Disk_check_c : ACode := .seq (.reg false disk_Disk_check_r0) (.seq (.block 0 (.seq (.reg false disk_Disk_check_r1) (.cond (.t 5) (.seq (.reg false disk_Disk_check_r2) (.ret)) (disk_Disk_check_b0)))) (.seq (.reg false disk_Disk_check_r5) (.ret)))
def disk_Disk_check_F : AFunc := ⟨22, [.tmp 4], disk_Disk_check_c⟩
theorem disk_Disk_check_cp : compile Try.prog [] f_disk_Disk_check = some disk_Disk_check_F := by kernel_rfl
abbrev disk_Disk_step_r0 : List AI := [
 ⟨some 2, .mv true (.c (.int .i64 0)), none⟩]
abbrev disk_Disk_step_r1 : List AI := [
 ⟨some 4, .mv false (.t 0), none⟩,
 ⟨some 5, .nilck (.t 4), none⟩,
 ⟨some 6, .faddr 3 (.t 5), none⟩,
 ⟨some 7, .load false 1 (.t 6) .any, none⟩,
 ⟨some 8, .bin .eql (.t 7) (.c (.int .i64 0)), none⟩,
 ⟨some 3, .mv true (.t 8), none⟩]
abbrev disk_Disk_step_r2 : List AI := [
 ⟨some 9, .mv false (.t 0), none⟩,
 ⟨some 10, .nilck (.t 9), none⟩,
 ⟨some 11, .faddr 4 (.t 10), none⟩,
 ⟨none, .store 1 (.t 11) (.c (.bool true)) .any, none⟩]
abbrev disk_Disk_step_r3 : List AI := [
 ⟨some 2, .mv true (.c (.int .i64 12)), none⟩]
abbrev disk_Disk_step_b0 : ACode := .seq (.reg false disk_Disk_step_r2) (.seq (.reg false disk_Disk_step_r3) (.ret))
abbrev disk_Disk_step_r4 : List AI := [
 ⟨some 13, .mv false (.t 0), none⟩,
 ⟨some 14, .nilck (.t 13), none⟩,
 ⟨some 15, .faddr 3 (.t 14), none⟩,
 ⟨some 16, .load false 1 (.t 15) .any, none⟩,
 ⟨some 17, .bin .gtr (.t 16) (.c (.int .i64 0)), none⟩,
 ⟨some 12, .mv true (.t 17), none⟩]
abbrev disk_Disk_step_r5 : List AI := [
 ⟨some 18, .mv false (.t 0), none⟩,
 ⟨some 19, .nilck (.t 18), none⟩,
 ⟨some 20, .faddr 3 (.t 19), none⟩,
 ⟨some 21, .load false 1 (.t 20) .any, none⟩,
 ⟨some 22, .bin .sub (.t 21) (.c (.int .i64 1)), none⟩,
 ⟨some 23, .nilck (.t 18), none⟩,
 ⟨some 24, .faddr 3 (.t 23), none⟩,
 ⟨none, .store 1 (.t 24) (.t 22) .any, none⟩]
abbrev disk_Disk_step_b1 : ACode := .seq (.reg false disk_Disk_step_r4) (.cond (.t 12) (.reg false disk_Disk_step_r5) (.skip))
abbrev disk_Disk_step_r6 : List AI := [
 ⟨some 25, .mv false (.t 0), none⟩,
 ⟨some 26, .nilck (.t 25), none⟩,
 ⟨some 27, .faddr 2 (.t 26), none⟩,
 ⟨some 28, .load false 1 (.t 27) .any, none⟩,
 ⟨some 29, .bin .add (.t 28) (.c (.int .i64 1)), none⟩,
 ⟨some 30, .nilck (.t 25), none⟩,
 ⟨some 31, .faddr 2 (.t 30), none⟩,
 ⟨none, .store 1 (.t 31) (.t 29) .any, none⟩]
abbrev disk_Disk_step_r7 : List AI := [
 ⟨some 2, .mv true (.c (.int .i64 0)), none⟩]
abbrev disk_Disk_step_c : ACode := .seq (.reg false disk_Disk_step_r0) (.seq (.block 0 (.seq (.reg false disk_Disk_step_r1) (.cond (.t 3) (disk_Disk_step_b0) (disk_Disk_step_b1)))) (.seq (.reg false disk_Disk_step_r6) (.seq (.reg false disk_Disk_step_r7) (.ret))))
def disk_Disk_step_F : AFunc := ⟨32, [.tmp 2], disk_Disk_step_c⟩
theorem disk_Disk_step_cp : compile Try.prog [] f_disk_Disk_step = some disk_Disk_step_F := by kernel_rfl
-- loop 0: [0, 1, 4, 5, 9, 10]
abbrev slots_make1_r0 : List AI := [
 ⟨some 4, .alloc (zr 64 (.int .u8 0)), none⟩]
abbrev slots_make1_r1 : List AI := [
 ⟨some 5, .gn (.alloc (zr 64 (.int .u8 0))) [], none⟩]
abbrev slots_make1_r2 : List AI := [
 ⟨some 9, .build [(.int .i64 0), (.int .i64 0)] [(0, 1, (.c (.int .i64 0))), (1, 1, (.c (.int .i64 32)))], none⟩,
 ⟨some 10, .mv false (.c (.int .i64 0)), none⟩]
abbrev slots_make1_r3 : List AI := [
 ⟨some 11, .bin .lss (.t 10) (.c (.int .i64 2)), none⟩]
abbrev slots_make1_r4 : List AI := [
 ⟨some 12, .idxA false 2 1 (.t 9) (.t 10), none⟩,
 ⟨some 7, .mv true (.t 12), none⟩]
abbrev slots_make1_r5 : List AI := [
 ⟨some 13, .mv false (.t 7), none⟩,
 ⟨some 14, .mv false (.t 7), none⟩,
 ⟨some 15, .bin .add (.t 14) (.c (.int .i64 1)), none⟩,
 ⟨some 16, .mv false (.t 7), none⟩,
 ⟨some 17, .bin .add (.t 16) (.c (.int .i64 2)), none⟩,
 ⟨some 18, .mv false (.t 7), none⟩,
 ⟨some 19, .bin .add (.t 18) (.c (.int .i64 3)), none⟩,
 ⟨some 20, .mv false (.t 0), none⟩,
 ⟨some 21, .bin .shr (.t 20) (.c (.int .u64 24)), none⟩,
 ⟨some 22, .conv .u8 (.t 21), none⟩,
 ⟨some 23, .mv false (.t 0), none⟩,
 ⟨some 24, .bin .shr (.t 23) (.c (.int .u64 16)), none⟩,
 ⟨some 25, .conv .u8 (.t 24), none⟩,
 ⟨some 26, .mv false (.t 0), none⟩,
 ⟨some 27, .bin .shr (.t 26) (.c (.int .u64 8)), none⟩,
 ⟨some 28, .conv .u8 (.t 27), none⟩,
 ⟨some 29, .mv false (.t 0), none⟩,
 ⟨some 30, .conv .u8 (.t 29), none⟩,
 ⟨some 31, .iaddrA 64 1 (.t 5) (.t 13), none⟩,
 ⟨none, .store 1 (.t 31) (.t 22) .any, none⟩,
 ⟨some 32, .iaddrA 64 1 (.t 5) (.t 15), none⟩,
 ⟨none, .store 1 (.t 32) (.t 25) .any, none⟩,
 ⟨some 33, .iaddrA 64 1 (.t 5) (.t 17), none⟩,
 ⟨none, .store 1 (.t 33) (.t 28) .any, none⟩,
 ⟨some 34, .iaddrA 64 1 (.t 5) (.t 19), none⟩,
 ⟨none, .store 1 (.t 34) (.t 30) .any, none⟩]
abbrev slots_make1_r6 : List AI := [
 ⟨some 35, .bin .add (.t 10) (.c (.int .i64 1)), none⟩,
 ⟨some 10, .mv false (.t 35), none⟩]
abbrev slots_make1_l0 : ACode := .seq (.reg false slots_make1_r3) (.seq (.cond (.t 11) (.skip) (.exit 0)) (.seq (.block 1 (.seq (.reg false slots_make1_r4) (.reg false slots_make1_r5))) (.reg false slots_make1_r6)))
abbrev slots_make1_r7 : List AI := [
 ⟨some 36, .mv false (.t 1), none⟩,
 ⟨some 37, .len true (.t 36), none⟩,
 ⟨some 38, .conv .u8 (.t 37), none⟩,
 ⟨some 39, .iaddrA 64 1 (.t 5) (.c (.int .i64 36)), none⟩,
 ⟨none, .store 1 (.t 39) (.t 38) .any, none⟩]
abbrev slots_make1_r8 : List AI := [
 ⟨some 40, .gd (.arrS 1 64 true true false) [(.t 5), (.c (.int .i64 4)), (.c (.int .i64 32))], none⟩,
 ⟨some 41, .mv false (.t 1), none⟩,
 ⟨some 42, .gd .copyS [(.t 40), (.t 41)], none⟩,
 ⟨some 8, .mv true (.t 42), none⟩]
abbrev slots_make1_r9 : List AI := [
 ⟨some 43, .gd (.arrS 1 64 true false false) [(.t 5), (.c (.int .i64 37))], none⟩,
 ⟨some 44, .mv false (.t 1), none⟩,
 ⟨some 45, .mv false (.t 8), none⟩,
 ⟨some 46, .slS (.t 44) (some (.t 45)) none, none⟩,
 ⟨some 47, .gd .copyS [(.t 43), (.t 46)], none⟩]
abbrev slots_make1_r10 : List AI := [
 ⟨some 48, .load true 64 (.t 5) .any, none⟩,
 ⟨none, .store 64 (.t 4) (.t 48) .any, none⟩]
abbrev slots_make1_c : ACode := .seq (.reg false slots_make1_r0) (.seq (.reg false slots_make1_r1) (.seq (.seq (.reg false slots_make1_r2) (.block 0 (.loop slots_make1_l0))) (.seq (.reg false slots_make1_r7) (.seq (.reg false slots_make1_r8) (.seq (.reg true slots_make1_r9) (.seq (.reg false slots_make1_r10) (.ret)))))))
def slots_make1_F : AFunc := ⟨49, [.cell 4 true 64], slots_make1_c⟩
theorem slots_make1_cp : compile Try.prog [5] f_slots_make1 = some slots_make1_F := by kernel_rfl
-- loop 0: [4, 5, 6, 7, 13, 14]
abbrev slots_part_slot_r0 : List AI := [
 ⟨some 2, .box 3 (.t 0), none⟩,
 ⟨some 4, .gn (.alloc (zr 64 (.int .u8 0) ++ [(.int .i64 0), (.bool false)])) [], none⟩,
 ⟨some 5, .gn (.alloc (zr 64 (.int .u8 0) ++ [(.int .i64 0), (.bool false)])) [], none⟩,
 ⟨some 6, .gn (.alloc [(.int .i64 0)]) [], none⟩]
abbrev slots_part_slot_r1 : List AI := [
 ⟨some 7, .gn (.alloc [.nilS]) [], none⟩]
abbrev slots_part_slot_r2 : List AI := [
 ⟨some 10, .load true 3 (.t 2) .any, none⟩,
 ⟨some 11, .mv false (.t 1), none⟩,
 ⟨some 12, .call (.c (.fn f_slots_part_copies)) [(.t 10), (.t 11)] 0, none⟩]
abbrev slots_part_slot_r3 : List AI := [
 ⟨some 8, .alloc (zr 64 (.int .u8 0) ++ [(.int .i64 0), (.bool false)]), none⟩,
 ⟨none, .store 66 (.t 8) (.t 13) .any, none⟩]
abbrev slots_part_slot_r4 : List AI := [
 ⟨some 9, .mv true (.t 14), none⟩]
abbrev slots_part_slot_r5 : List AI := [
 ⟨some 15, .mv false (.t 9), none⟩,
 ⟨some 16, .bin .neq (.t 15) (.c (.int .i64 0)), none⟩]
abbrev slots_part_slot_r6 : List AI := [
 ⟨some 17, .build (zr 64 (.int .u8 0) ++ [(.int .i64 0), (.bool false)]) [], none⟩,
 ⟨some 18, .build (zr 64 (.int .u8 0) ++ [(.int .i64 0), (.bool false)]) [], none⟩,
 ⟨some 19, .mv false (.t 9), none⟩,
 ⟨none, .store 66 (.t 4) (.t 17) .any, none⟩,
 ⟨none, .store 66 (.t 5) (.t 18) .any, none⟩,
 ⟨none, .store 1 (.t 6) (.t 19) .any, none⟩]
abbrev slots_part_slot_r7 : List AI := [
 ⟨some 20, .load false 1 (.t 7) .any, none⟩,
 ⟨some 21, .load true 66 (.t 8) .any, none⟩,
 ⟨some 22, .mkslice 66 1 (.agg (zr 64 (.int .u8 0) ++ [(.int .i64 0), (.bool false)])) [(0, (.t 21))], none⟩,
 ⟨some 23, .appG 66 80 (zr 64 (.int .u8 0) ++ [(.int .i64 0), (.bool false)]) (.t 20) (.t 22), none⟩,
 ⟨none, .store 1 (.t 7) (.t 23) .any, none⟩]
abbrev slots_part_slot_y0a : ACode := .seq (.reg false slots_part_slot_r3) (.reg false slots_part_slot_r4)
abbrev slots_part_slot_y0b : ACode := .block 1 (.seq (.seq (.reg false slots_part_slot_r5) (.cond (.t 16) (.seq (.reg false slots_part_slot_r6) (.ret)) (.skip))) (.reg false slots_part_slot_r7))
abbrev slots_part_slot_r8 : List AI := [
 ⟨some 24, .load false 1 (.t 7) .foreign, none⟩,
 ⟨some 25, .iaddr 66 (.t 24) (.c (.int .i64 1)), none⟩,
 ⟨some 26, .faddr 65 (.t 25), none⟩,
 ⟨some 27, .load false 1 (.t 26) .foreign, none⟩,
 ⟨some 28, .mv false (.t 27), none⟩,
 ⟨some 29, .load false 1 (.t 7) .foreign, some (28, true)⟩,
 ⟨some 30, .iaddr 66 (.t 29) (.c (.int .i64 0)), some (28, true)⟩,
 ⟨some 31, .faddr 65 (.t 30), some (28, true)⟩,
 ⟨some 32, .load false 1 (.t 31) .foreign, some (28, true)⟩,
 ⟨some 33, .not (.t 32), some (28, true)⟩,
 ⟨some 34, .mv false (.t 33), some (28, true)⟩,
 ⟨some 35, .load false 1 (.t 7) .foreign, some (34, false)⟩,
 ⟨some 36, .iaddr 66 (.t 35) (.c (.int .i64 1)), some (34, false)⟩,
 ⟨some 37, .faddr 0 (.t 36), some (34, false)⟩,
 ⟨some 38, .load true 64 (.t 37) .foreign, some (34, false)⟩,
 ⟨some 40, .load false 1 (.t 7) .foreign, some (34, false)⟩,
 ⟨some 41, .iaddr 66 (.t 40) (.c (.int .i64 0)), some (34, false)⟩,
 ⟨some 42, .faddr 0 (.t 41), some (34, false)⟩,
 ⟨some 43, .load true 64 (.t 42) .foreign, some (34, false)⟩,
 ⟨some 39, .call (.c (.fn f_slots_number)) [(.t 38), (.c (.int .i64 0))] 1, some (34, false)⟩,
 ⟨some 44, .call (.c (.fn f_slots_number)) [(.t 43), (.c (.int .i64 0))] 1, some (34, false)⟩,
 ⟨some 45, .bin .gtr (.t 39) (.t 44), some (34, false)⟩,
 ⟨some 46, .pick (.t 34) (.c (.bool true)) (.t 45), some (28, true)⟩,
 ⟨some 47, .pick (.t 28) (.t 46) (.c (.bool false)), none⟩]
abbrev slots_part_slot_r9 : List AI := [
 ⟨some 48, .load false 1 (.t 7) .foreign, none⟩,
 ⟨some 49, .iaddr 66 (.t 48) (.c (.int .i64 1)), none⟩,
 ⟨some 50, .load true 66 (.t 49) .foreign, none⟩,
 ⟨some 51, .load false 1 (.t 7) .foreign, none⟩,
 ⟨some 52, .iaddr 66 (.t 51) (.c (.int .i64 0)), none⟩,
 ⟨some 53, .load true 66 (.t 52) .foreign, none⟩,
 ⟨none, .kp [(.ld false 1 (.t 7)), (.ld true 66 (.t 52))] (.store 66 (.t 4) (.t 50) .gp), none⟩,
 ⟨none, .store 66 (.t 5) (.t 53) .gp, none⟩,
 ⟨none, .store 1 (.t 6) (.c (.int .i64 0)) .gp, none⟩]
abbrev slots_part_slot_r10 : List AI := [
 ⟨some 54, .load false 1 (.t 7) .foreign, none⟩,
 ⟨some 55, .iaddr 66 (.t 54) (.c (.int .i64 0)), none⟩,
 ⟨some 56, .load true 66 (.t 55) .foreign, none⟩,
 ⟨some 57, .load false 1 (.t 7) .foreign, none⟩,
 ⟨some 58, .iaddr 66 (.t 57) (.c (.int .i64 1)), none⟩,
 ⟨some 59, .load true 66 (.t 58) .foreign, none⟩,
 ⟨none, .kp [(.ld false 1 (.t 7)), (.ld true 66 (.t 58))] (.store 66 (.t 4) (.t 56) .gp), none⟩,
 ⟨none, .store 66 (.t 5) (.t 59) .gp, none⟩,
 ⟨none, .store 1 (.t 6) (.c (.int .i64 0)) .gp, none⟩]
abbrev slots_part_slot_c : ACode := .seq (.reg false slots_part_slot_r0) (.seq (.reg false slots_part_slot_r1) (.seq (.seq (.reg false slots_part_slot_r2) (.block 0 (.rangeF (.t 12) [13, 14] slots_part_slot_y0a slots_part_slot_y0b))) (.seq (.seq (.reg true slots_part_slot_r8) (.cond (.t 47) (.seq (.reg true slots_part_slot_r9) (.ret)) (.skip))) (.seq (.reg true slots_part_slot_r10) (.ret)))))
def slots_part_slot_F : AFunc := ⟨60, [.cell 4 true 66, .cell 5 true 66, .cell 6 false 1], slots_part_slot_c⟩
theorem slots_part_slot_cp : compile Try.prog [4, 5, 6, 7, 23] f_slots_part_slot = some slots_part_slot_F := by kernel_rfl
abbrev slots_part_heal_r0 : List AI := [
 ⟨some 3, .box 3 (.t 0), none⟩,
 ⟨some 4, .box 66 (.t 1), none⟩,
 ⟨some 5, .box 66 (.t 2), none⟩,
 ⟨some 6, .mv true (.c (.int .i64 0)), none⟩]
abbrev slots_part_heal_r1 : List AI := [
 ⟨some 7, .faddr 65 (.t 4), none⟩,
 ⟨some 8, .load false 1 (.t 7) .any, none⟩,
 ⟨some 9, .not (.t 8), none⟩,
 ⟨some 10, .mv false (.t 9), none⟩,
 ⟨some 11, .faddr 65 (.t 5), some (10, false)⟩,
 ⟨some 12, .load false 1 (.t 11) .any, some (10, false)⟩,
 ⟨some 13, .mv false (.t 12), some (10, false)⟩,
 ⟨some 14, .faddr 0 (.t 5), some (13, true)⟩,
 ⟨some 15, .load true 64 (.t 14) .any, some (13, true)⟩,
 ⟨some 16, .faddr 0 (.t 4), some (13, true)⟩,
 ⟨some 17, .load true 64 (.t 16) .any, some (13, true)⟩,
 ⟨some 18, .eqs false (kr 64 .i) (.t 15) (.t 17), some (13, true)⟩,
 ⟨some 19, .pick (.t 13) (.t 18) (.c (.bool false)), some (10, false)⟩,
 ⟨some 20, .pick (.t 10) (.c (.bool true)) (.t 19), none⟩]
abbrev slots_part_heal_r2 : List AI := [
 ⟨some 6, .mv true (.c (.int .i64 0)), none⟩]
abbrev slots_part_heal_r3 : List AI := [
 ⟨some 21, .load true 3 (.t 3) .any, none⟩,
 ⟨some 22, .faddr 64 (.t 5), none⟩,
 ⟨some 23, .load false 1 (.t 22) .any, none⟩,
 ⟨some 24, .faddr 0 (.t 4), none⟩,
 ⟨some 25, .load true 64 (.t 24) .any, none⟩,
 ⟨some 26, .call (.c (.fn f_slots_part_write)) [(.t 21), (.t 23), (.t 25)] 0, none⟩,
 ⟨some 6, .mv true (.t 26), none⟩]
abbrev slots_part_heal_c : ACode := .seq (.reg false slots_part_heal_r0) (.seq (.seq (.reg false slots_part_heal_r1) (.cond (.t 20) (.seq (.reg false slots_part_heal_r2) (.ret)) (.skip))) (.seq (.reg false slots_part_heal_r3) (.ret)))
def slots_part_heal_F : AFunc := ⟨27, [.tmp 6], slots_part_heal_c⟩
theorem slots_part_heal_cp : compile Try.prog [] f_slots_part_heal = some slots_part_heal_F := by kernel_rfl
abbrev slots_Store_change_r0 : List AI := [
 ⟨some 6, .mv true (.c (.int .i64 0)), none⟩]
abbrev slots_Store_change_r1 : List AI := [
 ⟨some 15, .mv false (.t 0), none⟩,
 ⟨some 16, .nilck (.t 15), none⟩,
 ⟨some 17, .faddr 0 (.t 16), none⟩,
 ⟨some 18, .load true 3 (.t 17) .any, none⟩,
 ⟨some 19, .mv false (.t 1), none⟩,
 ⟨some 20, .call (.c (.fn f_slots_part_slot)) [(.t 18), (.t 19)] 0, none⟩,
 ⟨some 14, .mv false (.t 20), none⟩,
 ⟨some 21, .ext (.t 14) 0, none⟩,
 ⟨some 22, .ext (.t 14) 1, none⟩,
 ⟨some 23, .ext (.t 14) 2, none⟩,
 ⟨some 7, .alloc (zr 64 (.int .u8 0) ++ [(.int .i64 0), (.bool false)]), none⟩,
 ⟨some 8, .alloc (zr 64 (.int .u8 0) ++ [(.int .i64 0), (.bool false)]), none⟩,
 ⟨none, .store 66 (.t 7) (.t 21) .any, none⟩,
 ⟨none, .store 66 (.t 8) (.t 22) .any, none⟩,
 ⟨some 9, .mv true (.t 23), none⟩]
abbrev slots_Store_change_r2 : List AI := [
 ⟨some 24, .mv false (.t 9), none⟩,
 ⟨some 25, .bin .neq (.t 24) (.c (.int .i64 0)), none⟩]
abbrev slots_Store_change_r3 : List AI := [
 ⟨some 26, .mv false (.t 9), none⟩,
 ⟨some 6, .mv true (.t 26), none⟩]
abbrev slots_Store_change_r4 : List AI := [
 ⟨some 27, .mv false (.t 0), none⟩,
 ⟨some 28, .nilck (.t 27), none⟩,
 ⟨some 29, .faddr 0 (.t 28), none⟩,
 ⟨some 30, .load true 3 (.t 29) .foreign, none⟩,
 ⟨some 31, .load true 66 (.t 7) (.site 7), none⟩,
 ⟨some 32, .load true 66 (.t 8) (.site 8), none⟩,
 ⟨some 33, .call (.c (.fn f_slots_part_heal)) [(.t 30), (.t 31), (.t 32)] 2, none⟩,
 ⟨some 10, .mv true (.t 33), none⟩]
abbrev slots_Store_change_r5 : List AI := [
 ⟨some 34, .mv false (.t 10), none⟩,
 ⟨some 35, .bin .neq (.t 34) (.c (.int .i64 0)), none⟩]
abbrev slots_Store_change_r6 : List AI := [
 ⟨some 36, .mv false (.t 10), none⟩,
 ⟨some 6, .mv true (.t 36), none⟩]
abbrev slots_Store_change_r7 : List AI := [
 ⟨some 11, .mv true (.c (.int .u32 0)), none⟩]
abbrev slots_Store_change_r8 : List AI := [
 ⟨some 37, .faddr 65 (.t 7), none⟩,
 ⟨some 38, .load false 1 (.t 37) .any, none⟩]
abbrev slots_Store_change_r9 : List AI := [
 ⟨some 39, .faddr 0 (.t 7), none⟩,
 ⟨some 40, .load true 64 (.t 39) .any, none⟩,
 ⟨some 41, .call (.c (.fn f_slots_number)) [(.t 40), (.c (.int .i64 0))] 0, none⟩,
 ⟨some 11, .mv true (.t 41), none⟩]
abbrev slots_Store_change_r10 : List AI := [
 ⟨some 42, .mv false (.t 11), none⟩,
 ⟨some 43, .bin .add (.t 42) (.c (.int .u32 1)), none⟩,
 ⟨some 44, .mv false (.t 2), none⟩,
 ⟨some 45, .call (.c (.fn f_slots_make1)) [(.t 43), (.t 44)] 0, none⟩,
 ⟨some 12, .alloc (zr 64 (.int .u8 0)), none⟩,
 ⟨none, .store 64 (.t 12) (.t 45) .any, none⟩]
abbrev slots_Store_change_r11 : List AI := [
 ⟨some 46, .mv false (.t 0), none⟩,
 ⟨some 47, .nilck (.t 46), none⟩,
 ⟨some 48, .faddr 0 (.t 47), none⟩,
 ⟨some 49, .load true 3 (.t 48) .foreign, none⟩,
 ⟨some 50, .mv false (.t 0), none⟩,
 ⟨some 51, .nilck (.t 50), none⟩,
 ⟨some 52, .faddr 0 (.t 51), none⟩,
 ⟨some 53, .faddr 1 (.t 52), none⟩,
 ⟨some 54, .load false 1 (.t 53) .foreign, none⟩,
 ⟨some 55, .mv false (.t 1), none⟩,
 ⟨some 56, .bin .mul (.c (.int .i64 2)) (.t 55), none⟩,
 ⟨some 57, .bin .add (.t 54) (.t 56), none⟩,
 ⟨some 58, .bin .add (.t 57) (.c (.int .i64 1)), none⟩,
 ⟨some 59, .load true 64 (.t 12) (.site 12), none⟩,
 ⟨some 60, .call (.c (.fn f_slots_part_write)) [(.t 49), (.t 58), (.t 59)] 2, none⟩,
 ⟨some 13, .mv true (.t 60), none⟩]
abbrev slots_Store_change_r12 : List AI := [
 ⟨some 61, .mv false (.t 13), none⟩,
 ⟨some 62, .bin .neq (.t 61) (.c (.int .i64 0)), none⟩]
abbrev slots_Store_change_r13 : List AI := [
 ⟨some 63, .mv false (.t 13), none⟩,
 ⟨some 6, .mv true (.t 63), none⟩]
abbrev slots_Store_change_r14 : List AI := [
 ⟨some 64, .mv false (.t 0), none⟩,
 ⟨some 65, .nilck (.t 64), none⟩,
 ⟨some 66, .faddr 0 (.t 65), none⟩,
 ⟨some 67, .load true 3 (.t 66) .foreign, none⟩,
 ⟨some 68, .mv false (.t 0), none⟩,
 ⟨some 69, .nilck (.t 68), none⟩,
 ⟨some 70, .faddr 0 (.t 69), none⟩,
 ⟨some 71, .faddr 1 (.t 70), none⟩,
 ⟨some 72, .load false 1 (.t 71) .foreign, none⟩,
 ⟨some 73, .mv false (.t 1), none⟩,
 ⟨some 74, .bin .mul (.c (.int .i64 2)) (.t 73), none⟩,
 ⟨some 75, .bin .add (.t 72) (.t 74), none⟩,
 ⟨some 76, .load true 64 (.t 12) (.site 12), none⟩,
 ⟨some 77, .call (.c (.fn f_slots_part_write)) [(.t 67), (.t 75), (.t 76)] 2, none⟩,
 ⟨some 6, .mv true (.t 77), none⟩]
abbrev slots_Store_change_c : ACode := .seq (.reg false slots_Store_change_r0) (.seq (.reg false slots_Store_change_r1) (.seq (.seq (.reg false slots_Store_change_r2) (.cond (.t 25) (.seq (.reg false slots_Store_change_r3) (.ret)) (.skip))) (.seq (.seq (.reg true slots_Store_change_r4) (.seq (.reg false slots_Store_change_r5) (.cond (.t 35) (.seq (.reg false slots_Store_change_r6) (.ret)) (.skip)))) (.seq (.reg false slots_Store_change_r7) (.seq (.seq (.reg false slots_Store_change_r8) (.cond (.t 38) (.reg false slots_Store_change_r9) (.skip))) (.seq (.reg false slots_Store_change_r10) (.seq (.seq (.reg true slots_Store_change_r11) (.seq (.reg false slots_Store_change_r12) (.cond (.t 62) (.seq (.reg false slots_Store_change_r13) (.ret)) (.skip)))) (.seq (.reg true slots_Store_change_r14) (.ret)))))))))
def slots_Store_change_F : AFunc := ⟨78, [.tmp 6], slots_Store_change_c⟩
theorem slots_Store_change_cp : compile Try.prog [33, 60, 77] f_slots_Store_change = some slots_Store_change_F := by kernel_rfl
-- loop 0: [0, 1, 5]
-- loop 0: [3, 9]
abbrev disk_Disk_sectors_r0 : List AI := [
 ⟨some 2, .mv true (.c .nilS), none⟩]
abbrev disk_Disk_sectors_r1 : List AI := [
 ⟨some 3, .mv true (.c .nilS), none⟩]
abbrev disk_Disk_sectors_r2 : List AI := [
 ⟨some 5, .mv false (.t 0), none⟩,
 ⟨some 6, .nilck (.t 5), none⟩,
 ⟨some 7, .faddr 1 (.t 6), none⟩,
 ⟨some 8, .load false 1 (.t 7) .any, none⟩,
 ⟨some 9, .gn .rng [(.t 8)], none⟩]
abbrev disk_Disk_sectors_r3 : List AI := [
 ⟨some 10, .gn .nxt [(.t 9)], none⟩,
 ⟨some 11, .ext (.t 10) 0, none⟩]
abbrev disk_Disk_sectors_r4 : List AI := [
 ⟨some 12, .gd .entry [(.t 9)], none⟩,
 ⟨some 13, .ext (.t 12) 0, none⟩,
 ⟨some 4, .mv true (.t 13), none⟩]
abbrev disk_Disk_sectors_r5 : List AI := [
 ⟨some 14, .mv true (.t 3), none⟩,
 ⟨some 15, .mv false (.t 4), none⟩,
 ⟨some 16, .mkslice 1 1 (.int .i64 0) [(0, (.t 15))], none⟩,
 ⟨some 17, .appG 1 8 [(.int .i64 0)] (.t 14) (.t 16), none⟩,
 ⟨some 3, .mv true (.t 17), none⟩]
abbrev disk_Disk_sectors_l0 : ACode := .seq (.reg false disk_Disk_sectors_r3) (.seq (.cond (.t 11) (.skip) (.exit 0)) (.block 1 (.seq (.reg false disk_Disk_sectors_r4) (.reg false disk_Disk_sectors_r5))))
abbrev disk_Disk_sectors_r6 : List AI := [
 ⟨some 18, .mv false (.t 3), none⟩,
 ⟨some 19, .call (.c (.fn f_slices_Sort_int_int)) [(.t 18)] 0, none⟩]
abbrev disk_Disk_sectors_r7 : List AI := [
 ⟨some 20, .mv false (.t 3), none⟩,
 ⟨some 2, .mv true (.t 20), none⟩]
abbrev disk_Disk_sectors_c : ACode := .seq (.reg false disk_Disk_sectors_r0) (.seq (.reg false disk_Disk_sectors_r1) (.seq (.seq (.reg false disk_Disk_sectors_r2) (.block 0 (.loop disk_Disk_sectors_l0))) (.seq (.reg false disk_Disk_sectors_r6) (.seq (.reg false disk_Disk_sectors_r7) (.ret)))))
def disk_Disk_sectors_F : AFunc := ⟨21, [.tmp 2], disk_Disk_sectors_c⟩
theorem disk_Disk_sectors_cp : compile Try.prog [17] f_disk_Disk_sectors = some disk_Disk_sectors_F := by kernel_rfl
abbrev disk_found_r0 : List AI := [
 ⟨some 3, .box 65 (.t 0), none⟩,
 ⟨some 6, .alloc (zr 64 (.int .u8 0) ++ [(.bool false)]), none⟩]
abbrev disk_found_r1 : List AI := [
 ⟨some 11, .mv false (.t 1), none⟩,
 ⟨some 12, .len false (.t 11), none⟩,
 ⟨some 7, .mv true (.t 12), none⟩]
abbrev disk_found_r2 : List AI := [
 ⟨some 13, .mv false (.t 2), none⟩,
 ⟨some 14, .mv false (.t 7), none⟩,
 ⟨some 15, .bin .add (.t 14) (.c (.int .i64 3)), none⟩,
 ⟨some 16, .bin .rem (.t 13) (.t 15), none⟩,
 ⟨some 17, .mv false (.t 7), none⟩,
 ⟨some 18, .bin .add (.t 16) (.t 17), none⟩,
 ⟨some 19, .bin .add (.t 18) (.c (.int .i64 3)), none⟩,
 ⟨some 20, .mv false (.t 7), none⟩,
 ⟨some 21, .bin .add (.t 20) (.c (.int .i64 3)), none⟩,
 ⟨some 22, .bin .rem (.t 19) (.t 21), none⟩,
 ⟨some 8, .mv true (.t 22), none⟩]
abbrev disk_found_r3 : List AI := [
 ⟨some 24, .mv false (.t 8), none⟩,
 ⟨some 25, .bin .eql (.t 24) (.c (.int .i64 0)), none⟩,
 ⟨some 23, .mv true (.t 25), none⟩]
abbrev disk_found_r4 : List AI := [
 ⟨some 26, .load true 65 (.t 3) .any, none⟩,
 ⟨none, .store 65 (.t 6) (.t 26) .any, none⟩]
abbrev disk_found_r5 : List AI := [
 ⟨some 28, .mv false (.t 8), none⟩,
 ⟨some 29, .mv false (.t 7), none⟩,
 ⟨some 30, .bin .leq (.t 28) (.t 29), none⟩,
 ⟨some 27, .mv true (.t 30), none⟩]
abbrev disk_found_r6 : List AI := [
 ⟨some 31, .mv false (.t 1), none⟩,
 ⟨some 32, .mv false (.t 8), none⟩,
 ⟨some 33, .bin .sub (.t 32) (.c (.int .i64 1)), none⟩,
 ⟨some 34, .iaddr 64 (.t 31) (.t 33), none⟩,
 ⟨some 35, .load true 64 (.t 34) .any, none⟩,
 ⟨some 36, .build (zr 64 (.int .u8 0) ++ [(.bool false)]) [(0, 64, (.t 35))], none⟩,
 ⟨none, .store 65 (.t 6) (.t 36) .any, none⟩]
abbrev disk_found_r7 : List AI := [
 ⟨some 38, .mv false (.t 8), none⟩,
 ⟨some 39, .mv false (.t 7), none⟩,
 ⟨some 40, .bin .add (.t 39) (.c (.int .i64 1)), none⟩,
 ⟨some 41, .bin .eql (.t 38) (.t 40), none⟩,
 ⟨some 37, .mv true (.t 41), none⟩]
abbrev disk_found_r8 : List AI := [
 ⟨some 42, .build (zr 64 (.int .u8 0) ++ [(.bool false)]) [(64, 1, (.c (.bool true)))], none⟩,
 ⟨none, .store 65 (.t 6) (.t 42) .any, none⟩]
abbrev disk_found_b0 : ACode := .seq (.reg false disk_found_r7) (.cond (.t 37) (.seq (.reg false disk_found_r8) (.ret)) (.skip))
abbrev disk_found_b1 : ACode := .seq (.reg false disk_found_r5) (.cond (.t 27) (.seq (.reg false disk_found_r6) (.ret)) (disk_found_b0))
abbrev disk_found_r9 : List AI := [
 ⟨some 43, .faddr 0 (.t 3), none⟩,
 ⟨some 44, .load true 64 (.t 43) (.site 3), none⟩,
 ⟨some 45, .mv false (.t 1), none⟩,
 ⟨some 46, .mv false (.t 7), none⟩,
 ⟨some 47, .bin .sub (.t 46) (.c (.int .i64 1)), none⟩,
 ⟨some 48, .iaddr 64 (.t 45) (.t 47), none⟩,
 ⟨some 49, .load true 64 (.t 48) .foreign, none⟩,
 ⟨some 9, .gn (.alloc (zr 64 (.int .u8 0))) [], none⟩,
 ⟨some 10, .gn (.alloc (zr 64 (.int .u8 0))) [], none⟩,
 ⟨none, .store 64 (.t 9) (.t 44) .gp, none⟩,
 ⟨none, .store 64 (.t 10) (.t 49) .gp, none⟩]
abbrev disk_found_r10 : List AI := [
 ⟨some 50, .mv false (.t 7), none⟩,
 ⟨some 51, .bin .gtr (.t 50) (.c (.int .i64 1)), none⟩]
abbrev disk_found_r11 : List AI := [
 ⟨some 52, .mv false (.t 1), none⟩,
 ⟨some 53, .mv false (.t 7), none⟩,
 ⟨some 54, .bin .sub (.t 53) (.c (.int .i64 2)), none⟩,
 ⟨some 55, .iaddr 64 (.t 52) (.t 54), none⟩,
 ⟨some 56, .load true 64 (.t 55) .any, none⟩,
 ⟨none, .store 64 (.t 9) (.t 56) .any, none⟩]
abbrev disk_found_r12 : List AI := [
 ⟨some 57, .load true 64 (.t 9) .any, none⟩,
 ⟨some 58, .load true 64 (.t 10) .any, none⟩,
 ⟨some 59, .eqs false (kr 64 .i) (.t 57) (.t 58), none⟩]
abbrev disk_found_r13 : List AI := [
 ⟨some 60, .load true 64 (.t 10) .any, none⟩,
 ⟨some 61, .build (zr 64 (.int .u8 0) ++ [(.bool false)]) [(0, 64, (.t 60))], none⟩,
 ⟨none, .store 65 (.t 6) (.t 61) .any, none⟩]
abbrev disk_found_r14 : List AI := [
 ⟨some 62, .gd (.arrS 1 64 true false false) [(.t 10), (.c (.int .i64 32))], none⟩,
 ⟨some 63, .gd (.arrS 1 64 true false false) [(.t 9), (.c (.int .i64 32))], none⟩,
 ⟨some 64, .copy 1 (.t 62) (.t 63), none⟩]
abbrev disk_found_r15 : List AI := [
 ⟨some 65, .load true 64 (.t 10) .any, none⟩,
 ⟨some 66, .build (zr 64 (.int .u8 0) ++ [(.bool false)]) [(0, 64, (.t 65))], none⟩,
 ⟨none, .store 65 (.t 6) (.t 66) .any, none⟩]
abbrev disk_found_c : ACode := .seq (.reg false disk_found_r0) (.seq (.reg false disk_found_r1) (.seq (.seq (.reg false disk_found_r2) (.block 0 (.seq (.reg false disk_found_r3) (.cond (.t 23) (.seq (.reg false disk_found_r4) (.ret)) (disk_found_b1))))) (.seq (.reg true disk_found_r9) (.seq (.seq (.reg false disk_found_r10) (.cond (.t 51) (.reg false disk_found_r11) (.skip))) (.seq (.seq (.reg false disk_found_r12) (.cond (.t 59) (.seq (.reg false disk_found_r13) (.ret)) (.skip))) (.seq (.reg true disk_found_r14) (.seq (.reg false disk_found_r15) (.ret))))))))
def disk_found_F : AFunc := ⟨67, [.cell 6 true 65], disk_found_c⟩
theorem disk_found_cp : compile Try.prog [9, 10] f_disk_found = some disk_found_F := by kernel_rfl
-- loop 0: [7, 8]
abbrev slots_part_copies_r0 : List AI := [
 ⟨some 2, .gn (.box 3) [(.t 0)], none⟩,
 ⟨some 3, .gn (.box 1) [(.t 1)], none⟩,
 ⟨some 4, .mv true (.c .nilF), none⟩]
abbrev slots_part_copies_r1 : List AI := [
 ⟨some 5, .gd (.clo f_slots_part_copies_1) [(.t 2), (.t 3)], none⟩,
 ⟨some 4, .mv true (.t 5), none⟩]
abbrev slots_part_copies_c : ACode := .seq (.reg false slots_part_copies_r0) (.seq (.reg false slots_part_copies_r1) (.ret))
def slots_part_copies_F : AFunc := ⟨6, [.tmp 4], slots_part_copies_c⟩
theorem slots_part_copies_cp : compile Try.prog [2, 3, 5] f_slots_part_copies = some slots_part_copies_F := by kernel_rfl
abbrev slots_number_r0 : List AI := [
 ⟨some 2, .box 64 (.t 0), none⟩,
 ⟨some 4, .mv true (.c (.int .u32 0)), none⟩]
abbrev slots_number_r1 : List AI := [
 ⟨some 5, .mv false (.t 1), none⟩,
 ⟨some 6, .iaddrA 64 1 (.t 2) (.t 5), none⟩,
 ⟨some 7, .load false 1 (.t 6) (.site 2), none⟩,
 ⟨some 8, .conv .u32 (.t 7), none⟩,
 ⟨some 9, .bin .shl (.t 8) (.c (.int .u64 24)), none⟩,
 ⟨some 10, .mv false (.t 1), none⟩,
 ⟨some 11, .bin .add (.t 10) (.c (.int .i64 1)), none⟩,
 ⟨some 12, .iaddrA 64 1 (.t 2) (.t 11), none⟩,
 ⟨some 13, .load false 1 (.t 12) (.site 2), none⟩,
 ⟨some 14, .conv .u32 (.t 13), none⟩,
 ⟨some 15, .bin .shl (.t 14) (.c (.int .u64 16)), none⟩,
 ⟨some 16, .bin .or (.t 9) (.t 15), none⟩,
 ⟨some 17, .mv false (.t 1), none⟩,
 ⟨some 18, .bin .add (.t 17) (.c (.int .i64 2)), none⟩,
 ⟨some 19, .iaddrA 64 1 (.t 2) (.t 18), none⟩,
 ⟨some 20, .load false 1 (.t 19) (.site 2), none⟩,
 ⟨some 21, .conv .u32 (.t 20), none⟩,
 ⟨some 22, .bin .shl (.t 21) (.c (.int .u64 8)), none⟩,
 ⟨some 23, .bin .or (.t 16) (.t 22), none⟩,
 ⟨some 24, .mv false (.t 1), none⟩,
 ⟨some 25, .bin .add (.t 24) (.c (.int .i64 3)), none⟩,
 ⟨some 26, .iaddrA 64 1 (.t 2) (.t 25), none⟩,
 ⟨some 27, .load false 1 (.t 26) (.site 2), none⟩,
 ⟨some 28, .conv .u32 (.t 27), none⟩,
 ⟨some 29, .bin .or (.t 23) (.t 28), none⟩,
 ⟨some 4, .mv true (.t 29), none⟩]
abbrev slots_number_c : ACode := .seq (.reg false slots_number_r0) (.seq (.reg true slots_number_r1) (.ret))
def slots_number_F : AFunc := ⟨30, [.tmp 4], slots_number_c⟩
theorem slots_number_cp : compile Try.prog [] f_slots_number = some slots_number_F := by kernel_rfl
abbrev slots_part_write_r0 : List AI := [
 ⟨some 3, .box 3 (.t 0), none⟩,
 ⟨some 5, .box 64 (.t 2), none⟩,
 ⟨some 6, .mv true (.c (.int .i64 0)), none⟩]
abbrev slots_part_write_r1 : List AI := [
 ⟨some 8, .faddr 0 (.t 3), none⟩,
 ⟨some 9, .load false 1 (.t 8) .any, none⟩,
 ⟨some 10, .mv false (.t 1), none⟩,
 ⟨some 11, .load true 64 (.t 5) .any, none⟩,
 ⟨some 12, .call (.c (.fn f_disk_Disk_Write)) [(.t 9), (.t 10), (.t 11)] 0, none⟩,
 ⟨some 7, .mv true (.t 12), none⟩]
abbrev slots_part_write_r2 : List AI := [
 ⟨some 13, .mv false (.t 7), none⟩,
 ⟨some 14, .bin .neq (.t 13) (.c (.int .i64 0)), none⟩]
abbrev slots_part_write_r3 : List AI := [
 ⟨some 15, .mv false (.t 7), none⟩,
 ⟨some 6, .mv true (.t 15), none⟩]
abbrev slots_part_write_r4 : List AI := [
 ⟨some 16, .faddr 0 (.t 3), none⟩,
 ⟨some 17, .load false 1 (.t 16) .any, none⟩,
 ⟨some 18, .call (.c (.fn f_disk_Disk_Sync)) [(.t 17)] 0, none⟩,
 ⟨some 6, .mv true (.t 18), none⟩]
abbrev slots_part_write_c : ACode := .seq (.reg false slots_part_write_r0) (.seq (.seq (.reg false slots_part_write_r1) (.seq (.reg false slots_part_write_r2) (.cond (.t 14) (.seq (.reg false slots_part_write_r3) (.ret)) (.skip)))) (.seq (.reg false slots_part_write_r4) (.ret)))
def slots_part_write_F : AFunc := ⟨19, [.tmp 6], slots_part_write_c⟩
theorem slots_part_write_cp : compile Try.prog [] f_slots_part_write = some slots_part_write_F := by kernel_rfl
-- loop 0: [0, 1, 2, 9]
abbrev slots_part_copies_1_r0 : List AI := [
 ⟨some 9, .mv false (.c (.int .i64 0)), none⟩]
abbrev slots_part_copies_1_r1 : List AI := [
 ⟨some 10, .bin .lss (.t 9) (.c (.int .i64 2)), none⟩]
abbrev slots_part_copies_1_r2 : List AI := [
 ⟨some 11, .mv false (.t 9), none⟩,
 ⟨some 4, .mv true (.t 11), none⟩]
abbrev slots_part_copies_1_r3 : List AI := [
 ⟨some 12, .faddr 1 (.t 1), none⟩,
 ⟨some 13, .load false 1 (.t 12) .any, none⟩,
 ⟨some 14, .load false 1 (.t 2) .any, none⟩,
 ⟨some 15, .bin .mul (.c (.int .i64 2)) (.t 14), none⟩,
 ⟨some 16, .bin .add (.t 13) (.t 15), none⟩,
 ⟨some 17, .mv false (.t 4), none⟩,
 ⟨some 18, .bin .add (.t 16) (.t 17), none⟩,
 ⟨some 5, .mv true (.t 18), none⟩]
abbrev slots_part_copies_1_r4 : List AI := [
 ⟨some 20, .faddr 0 (.t 1), none⟩,
 ⟨some 21, .load false 1 (.t 20) .any, none⟩,
 ⟨some 22, .mv false (.t 5), none⟩,
 ⟨some 23, .call (.c (.fn f_disk_Disk_Read)) [(.t 21), (.t 22)] 0, none⟩,
 ⟨some 19, .mv false (.t 23), none⟩,
 ⟨some 24, .ext (.t 19) 0, none⟩,
 ⟨some 25, .ext (.t 19) 1, none⟩,
 ⟨some 6, .alloc (zr 64 (.int .u8 0)), none⟩,
 ⟨none, .store 64 (.t 6) (.t 24) .any, none⟩,
 ⟨some 7, .mv true (.t 25), none⟩]
abbrev slots_part_copies_1_r5 : List AI := [
 ⟨some 26, .load true 64 (.t 6) .any, none⟩,
 ⟨some 27, .mv false (.t 5), none⟩,
 ⟨some 28, .build (zr 64 (.int .u8 0) ++ [(.int .i64 0), (.bool false)]) [(0, 64, (.t 26)), (64, 1, (.t 27))], none⟩,
 ⟨some 8, .alloc (zr 64 (.int .u8 0) ++ [(.int .i64 0), (.bool false)]), none⟩,
 ⟨none, .store 66 (.t 8) (.t 28) .any, none⟩]
abbrev slots_part_copies_1_r6 : List AI := [
 ⟨some 29, .mv false (.t 7), none⟩,
 ⟨some 30, .bin .eql (.t 29) (.c (.int .i64 0)), none⟩]
abbrev slots_part_copies_1_r7 : List AI := [
 ⟨some 31, .load true 64 (.t 6) (.site 6), none⟩,
 ⟨some 33, .load true 64 (.t 6) (.site 6), none⟩,
 ⟨some 32, .call (.c (.fn f_slots_number)) [(.t 31), (.c (.int .i64 0))] 2, none⟩,
 ⟨some 34, .call (.c (.fn f_slots_number)) [(.t 33), (.c (.int .i64 32))] 2, none⟩,
 ⟨some 35, .bin .eql (.t 32) (.t 34), none⟩,
 ⟨some 36, .mv false (.t 35), none⟩,
 ⟨some 37, .load true 64 (.t 6) (.site 6), some (36, true)⟩,
 ⟨some 38, .call (.c (.fn f_slots_number)) [(.t 37), (.c (.int .i64 0))] 2, some (36, true)⟩,
 ⟨some 39, .bin .geq (.t 38) (.c (.int .u32 1)), some (36, true)⟩,
 ⟨some 40, .pick (.t 36) (.t 39) (.c (.bool false)), none⟩,
 ⟨some 41, .mv false (.t 40), none⟩,
 ⟨some 42, .iaddrA 64 1 (.t 6) (.c (.int .i64 36)), some (41, true)⟩,
 ⟨some 43, .load false 1 (.t 42) (.site 6), some (41, true)⟩,
 ⟨some 44, .bin .leq (.t 43) (.c (.int .u8 55)), some (41, true)⟩,
 ⟨some 45, .pick (.t 41) (.t 44) (.c (.bool false)), none⟩,
 ⟨some 46, .faddr 65 (.t 8), none⟩,
 ⟨none, .store 1 (.t 46) (.t 45) (.site 8), none⟩]
abbrev slots_part_copies_1_r8 : List AI := [
 ⟨some 47, .mv false (.t 7), none⟩,
 ⟨some 48, .bin .eql (.t 47) (.c (.int .i64 14)), none⟩]
abbrev slots_part_copies_1_r9 : List AI := [
 ⟨some 7, .mv true (.c (.int .i64 0)), none⟩]
abbrev slots_part_copies_1_r10 : List AI := [
 ⟨some 49, .mv false (.t 0), none⟩,
 ⟨some 50, .load true 66 (.t 8) .any, none⟩,
 ⟨some 51, .mv false (.t 7), none⟩,
 ⟨some 52, .call (.t 49) [(.t 50), (.t 51)] 0, none⟩,
 ⟨some 53, .not (.t 52), none⟩]
abbrev slots_part_copies_1_r11 : List AI := [
 ⟨some 54, .bin .add (.t 9) (.c (.int .i64 1)), none⟩,
 ⟨some 9, .mv false (.t 54), none⟩]
abbrev slots_part_copies_1_l0 : ACode := .seq (.reg false slots_part_copies_1_r1) (.seq (.cond (.t 10) (.skip) (.exit 0)) (.seq (.block 1 (.seq (.reg false slots_part_copies_1_r2) (.seq (.reg false slots_part_copies_1_r3) (.seq (.reg false slots_part_copies_1_r4) (.seq (.reg false slots_part_copies_1_r5) (.seq (.seq (.reg false slots_part_copies_1_r6) (.cond (.t 30) (.reg true slots_part_copies_1_r7) (.skip))) (.seq (.seq (.reg false slots_part_copies_1_r8) (.cond (.t 48) (.reg false slots_part_copies_1_r9) (.skip))) (.seq (.reg false slots_part_copies_1_r10) (.cond (.t 53) (.ret) (.skip)))))))))) (.reg false slots_part_copies_1_r11)))
abbrev slots_part_copies_1_c : ACode := .seq (.reg false slots_part_copies_1_r0) (.block 0 (.loop slots_part_copies_1_l0))
def slots_part_copies_1_F : AFunc := ⟨55, [], slots_part_copies_1_c⟩
theorem slots_part_copies_1_cp : compile Try.prog [] f_slots_part_copies_1 = some slots_part_copies_1_F := by kernel_rfl
theorem fol : Try.prog.follows .mixedOrders = true := by kernel_rfl
end
end Go.Proofs.Ytioojmlhmhgeeaa
