/-
 The functions' code in the evaluator's form, printed by a program of ours from the loaded program, and checked against it.
 Conditions: none.
-/
import Derived.Test.YtbcnnomgfheaoaaProg
import Derived.KernelRfl
import Derived.Test.YtbcnnomgfheaoaaEB
namespace Go.Proofs.Ytbcnnomgfheaoaa
open Go Go.E2
noncomputable section
abbrev f_quietuslaw37_LotsKeepObjects : FuncId := 6
abbrev f_quietuslaw37_sanity : FuncId := 8
abbrev f_chunk_Cut : FuncId := 9
abbrev f_chunk_Check : FuncId := 11
abbrev f_quietusref07_SameTexts : FuncId := 13
abbrev f_chunk_Get : FuncId := 16
abbrev f_chunk_Put : FuncId := 17
abbrev f_chunk_Drop : FuncId := 18
abbrev f_chunk_Move : FuncId := 19
abbrev f_quietusref37_Same : FuncId := 24
abbrev f_quietusref37_SameList : FuncId := 25
abbrev f_chunk_Valid : FuncId := 26
abbrev f_chunk_cuts : FuncId := 29
abbrev f_chunk_object : FuncId := 33
abbrev f_strings_Join : FuncId := 34
abbrev f_chunk_parts : FuncId := 35
abbrev f_chunk_add : FuncId := 36
abbrev f_chunk_clone : FuncId := 37
abbrev f_chunk_remove : FuncId := 38
abbrev f_chunk_cuts_1 : FuncId := 44
abbrev f_slices_BinarySearchFunc_api_LotObject_api_LotObject_int : FuncId := 46
abbrev f_chunk_object_1 : FuncId := 47
abbrev f_cmp_Compare_int : FuncId := 48
abbrev f_slices_Insert_api_LotObject_api_LotObject : FuncId := 52
abbrev f_slices_Clone_int_int : FuncId := 53
abbrev f_slices_Delete_api_LotObject_api_LotObject : FuncId := 54
abbrev f_cmp_isNaN_int : FuncId := 57
abbrev f_slices_overlaps_api_LotObject : FuncId := 60
abbrev f_slices_rotateRight_api_LotObject : FuncId := 61
-- loop 0: [1, 2, 5, 8, 55, 56, 57]
-- loop 0: [3, 9, 11, 13, 58, 59, 63, 64]
-- loop 1: [3, 9, 11, 58, 59]
-- loop 0: [2, 5, 6, 7, 43, 44, 45, 168, 169, 170]
-- loop 1: [2, 5, 6, 7, 27, 28, 43, 44, 45, 210, 211, 212, 217, 218, 219]
-- loop 2: [2, 5, 6, 7, 43, 44, 45, 210, 211, 212]
-- loop 3: [2, 5, 6, 7, 43, 44, 45]
abbrev quietuslaw37_LotsKeepObjects_r0 : List AI := [
 ⟨some 2, .box 3 (.t 0), none⟩,
 ⟨some 4, .mv true (.c (.bool false)), none⟩]
abbrev quietuslaw37_LotsKeepObjects_r1 : List AI := [
 ⟨some 31, .mv false (.t 1), none⟩,
 ⟨some 32, .len false (.t 31), none⟩,
 ⟨some 33, .bin .gtr (.t 32) (.c (.int .i64 30)), none⟩,
 ⟨some 34, .mv false (.t 33), none⟩,
 ⟨some 35, .load true 3 (.t 2) .any, some (34, false)⟩,
 ⟨some 36, .call (.c (.fn f_chunk_Check)) [(.t 35)] 0, some (34, false)⟩,
 ⟨some 37, .bin .neq (.t 36) (.c (.int .i64 0)), some (34, false)⟩,
 ⟨some 38, .pick (.t 34) (.c (.bool true)) (.t 37), none⟩]
abbrev quietuslaw37_LotsKeepObjects_r2 : List AI := [
 ⟨some 39, .call (.c (.fn f_quietuslaw37_sanity)) [] 0, none⟩,
 ⟨some 4, .mv true (.t 39), none⟩]
abbrev quietuslaw37_LotsKeepObjects_r3 : List AI := [
 ⟨some 40, .build [(.int .i64 0), .nilS, .nilS] [(0, 1, (.c (.int .i64 1)))], none⟩,
 ⟨some 5, .alloc [(.int .i64 0), .nilS, .nilS], none⟩,
 ⟨none, .store 3 (.t 5) (.t 40) .any, none⟩]
abbrev quietuslaw37_LotsKeepObjects_r4 : List AI := [
 ⟨some 41, .gn .mkM [], none⟩,
 ⟨some 42, .gn .mkM [], none⟩,
 ⟨some 6, .mv true (.t 41), none⟩,
 ⟨some 7, .mv true (.t 42), none⟩]
abbrev quietuslaw37_LotsKeepObjects_r5 : List AI := [
 ⟨some 43, .mv false (.t 1), none⟩,
 ⟨some 44, .len false (.t 43), none⟩,
 ⟨some 45, .mv false (.c (.int .i64 0)), none⟩]
abbrev quietuslaw37_LotsKeepObjects_r6 : List AI := [
 ⟨some 46, .bin .lss (.t 45) (.t 44), none⟩]
abbrev quietuslaw37_LotsKeepObjects_r7 : List AI := [
 ⟨some 47, .iaddr 4 (.t 43) (.t 45), none⟩,
 ⟨some 48, .load true 4 (.t 47) .any, none⟩,
 ⟨some 9, .alloc [(.int .i64 0), (.int .i64 0), (.str []), (.str [])], none⟩,
 ⟨none, .store 4 (.t 9) (.t 48) .any, none⟩]
abbrev quietuslaw37_LotsKeepObjects_r8 : List AI := [
 ⟨some 49, .faddr 3 (.t 9), none⟩,
 ⟨some 50, .load false 1 (.t 49) .any, none⟩,
 ⟨some 51, .len true (.t 50), none⟩,
 ⟨some 52, .bin .gtr (.t 51) (.c (.int .i64 30)), none⟩,
 ⟨some 53, .mv false (.t 52), none⟩,
 ⟨some 54, .faddr 2 (.t 9), some (53, false)⟩,
 ⟨some 55, .load false 1 (.t 54) .any, some (53, false)⟩,
 ⟨some 56, .len true (.t 55), some (53, false)⟩,
 ⟨some 57, .bin .gtr (.t 56) (.c (.int .i64 60)), some (53, false)⟩,
 ⟨some 58, .pick (.t 53) (.c (.bool true)) (.t 57), none⟩]
abbrev quietuslaw37_LotsKeepObjects_r9 : List AI := [
 ⟨some 59, .call (.c (.fn f_quietuslaw37_sanity)) [] 0, none⟩,
 ⟨some 4, .mv true (.t 59), none⟩]
abbrev quietuslaw37_LotsKeepObjects_r10 : List AI := [
 ⟨some 61, .mv false (.t 6), none⟩,
 ⟨some 62, .faddr 1 (.t 9), none⟩,
 ⟨some 63, .load false 1 (.t 62) .any, none⟩,
 ⟨some 64, .gd (.mlook [.i] (.str []) true) [(.t 61), (.t 63)], none⟩,
 ⟨some 60, .mv false (.t 64), none⟩,
 ⟨some 65, .ext (.t 60) 0, none⟩,
 ⟨some 66, .ext (.t 60) 1, none⟩,
 ⟨some 10, .mv true (.t 65), none⟩,
 ⟨some 11, .mv true (.t 66), none⟩]
abbrev quietuslaw37_LotsKeepObjects_r11 : List AI := [
 ⟨some 67, .faddr 0 (.t 9), none⟩,
 ⟨some 68, .load false 1 (.t 67) .any, none⟩]
abbrev quietuslaw37_LotsKeepObjects_r12 : List AI := [
 ⟨some 70, .bin .eql (.t 68) (.c (.int .i64 0)), none⟩,
 ⟨some 69, .mv true (.t 70), none⟩]
abbrev quietuslaw37_LotsKeepObjects_r13 : List AI := [
 ⟨some 72, .load true 3 (.t 5) .any, none⟩,
 ⟨some 73, .load true 3 (.t 2) .any, none⟩,
 ⟨some 74, .faddr 1 (.t 9), none⟩,
 ⟨some 75, .load false 1 (.t 74) .any, none⟩,
 ⟨some 76, .faddr 2 (.t 9), none⟩,
 ⟨some 77, .load false 1 (.t 76) .any, none⟩,
 ⟨some 78, .faddr 3 (.t 9), none⟩,
 ⟨some 79, .load false 1 (.t 78) .any, none⟩,
 ⟨some 80, .call (.c (.fn f_chunk_Put)) [(.t 72), (.t 73), (.t 75), (.t 77), (.t 79)] 0, none⟩,
 ⟨some 71, .mv false (.t 80), none⟩,
 ⟨some 81, .ext (.t 71) 0, none⟩,
 ⟨some 82, .ext (.t 71) 1, none⟩,
 ⟨some 12, .alloc [(.int .i64 0), .nilS, .nilS], none⟩,
 ⟨none, .store 3 (.t 12) (.t 81) .any, none⟩,
 ⟨some 13, .mv true (.t 82), none⟩]
abbrev quietuslaw37_LotsKeepObjects_r14 : List AI := [
 ⟨some 83, .mv false (.t 13), none⟩,
 ⟨some 84, .bin .eql (.t 83) (.c (.int .i64 0)), none⟩,
 ⟨some 85, .mv false (.t 11), none⟩,
 ⟨some 86, .not (.t 85), none⟩,
 ⟨some 87, .mv false (.t 86), none⟩,
 ⟨some 88, .faddr 1 (.t 9), some (87, true)⟩,
 ⟨some 89, .load false 1 (.t 88) .any, some (87, true)⟩,
 ⟨some 90, .bin .geq (.t 89) (.c (.int .i64 1)), some (87, true)⟩,
 ⟨some 91, .pick (.t 87) (.t 90) (.c (.bool false)), none⟩,
 ⟨some 92, .mv false (.t 91), none⟩,
 ⟨some 93, .faddr 1 (.t 9), some (92, true)⟩,
 ⟨some 94, .load false 1 (.t 93) .any, some (92, true)⟩,
 ⟨some 95, .bin .leq (.t 94) (.c (.int .i64 1099511627776)), some (92, true)⟩,
 ⟨some 96, .pick (.t 92) (.t 95) (.c (.bool false)), none⟩,
 ⟨some 97, .eqb true (.t 84) (.t 96), none⟩]
abbrev quietuslaw37_LotsKeepObjects_r15 : List AI := [
 ⟨some 4, .mv true (.c (.bool false)), none⟩]
abbrev quietuslaw37_LotsKeepObjects_r16 : List AI := [
 ⟨some 98, .mv false (.t 13), none⟩,
 ⟨some 99, .bin .eql (.t 98) (.c (.int .i64 0)), none⟩]
abbrev quietuslaw37_LotsKeepObjects_r17 : List AI := [
 ⟨some 100, .mv false (.t 6), none⟩,
 ⟨some 101, .faddr 1 (.t 9), none⟩,
 ⟨some 102, .load false 1 (.t 101) (.site 9), none⟩,
 ⟨some 103, .mv false (.t 7), none⟩,
 ⟨some 104, .faddr 1 (.t 9), none⟩,
 ⟨some 105, .load false 1 (.t 104) (.site 9), none⟩,
 ⟨some 106, .load true 3 (.t 12) (.site 12), none⟩,
 ⟨some 107, .faddr 3 (.t 9), none⟩,
 ⟨some 108, .load false 1 (.t 107) (.site 9), none⟩,
 ⟨some 109, .faddr 2 (.t 9), none⟩,
 ⟨some 110, .load false 1 (.t 109) (.site 9), none⟩,
 ⟨none, .store 3 (.t 5) (.t 106) (.site 5), none⟩,
 ⟨none, .gd (.mset [.i]) [(.t 100), (.t 102), (.t 108)], none⟩,
 ⟨none, .gd (.mset [.i]) [(.t 103), (.t 105), (.t 110)], none⟩]
abbrev quietuslaw37_LotsKeepObjects_b0 : ACode := .seq (.reg false quietuslaw37_LotsKeepObjects_r13) (.seq (.seq (.reg false quietuslaw37_LotsKeepObjects_r14) (.cond (.t 97) (.seq (.reg false quietuslaw37_LotsKeepObjects_r15) (.ret)) (.skip))) (.seq (.reg false quietuslaw37_LotsKeepObjects_r16) (.cond (.t 99) (.reg true quietuslaw37_LotsKeepObjects_r17) (.skip))))
abbrev quietuslaw37_LotsKeepObjects_r18 : List AI := [
 ⟨some 112, .bin .eql (.t 68) (.c (.int .i64 1)), none⟩,
 ⟨some 111, .mv true (.t 112), none⟩]
abbrev quietuslaw37_LotsKeepObjects_r19 : List AI := [
 ⟨some 114, .load true 3 (.t 5) .any, none⟩,
 ⟨some 115, .faddr 1 (.t 9), none⟩,
 ⟨some 116, .load false 1 (.t 115) .any, none⟩,
 ⟨some 117, .call (.c (.fn f_chunk_Drop)) [(.t 114), (.t 116)] 0, none⟩,
 ⟨some 113, .mv false (.t 117), none⟩,
 ⟨some 118, .ext (.t 113) 0, none⟩,
 ⟨some 119, .ext (.t 113) 1, none⟩,
 ⟨some 120, .ext (.t 113) 2, none⟩,
 ⟨some 14, .alloc [(.int .i64 0), .nilS, .nilS], none⟩,
 ⟨none, .store 3 (.t 14) (.t 118) .any, none⟩,
 ⟨some 15, .mv true (.t 119), none⟩,
 ⟨some 16, .mv true (.t 120), none⟩]
abbrev quietuslaw37_LotsKeepObjects_r20 : List AI := [
 ⟨some 121, .mv false (.t 16), none⟩,
 ⟨some 122, .bin .eql (.t 121) (.c (.int .i64 0)), none⟩,
 ⟨some 123, .mv false (.t 11), none⟩,
 ⟨some 124, .eqb true (.t 122) (.t 123), none⟩]
abbrev quietuslaw37_LotsKeepObjects_r21 : List AI := [
 ⟨some 4, .mv true (.c (.bool false)), none⟩]
abbrev quietuslaw37_LotsKeepObjects_r22 : List AI := [
 ⟨some 125, .mv false (.t 11), none⟩]
abbrev quietuslaw37_LotsKeepObjects_r23 : List AI := [
 ⟨some 126, .load true 3 (.t 14) .any, none⟩,
 ⟨none, .store 3 (.t 5) (.t 126) .any, none⟩]
abbrev quietuslaw37_LotsKeepObjects_r24 : List AI := [
 ⟨some 127, .mv false (.t 6), none⟩,
 ⟨some 128, .faddr 1 (.t 9), none⟩,
 ⟨some 129, .load false 1 (.t 128) .any, none⟩,
 ⟨none, .gd (.mdel [.i]) [(.t 127), (.t 129)], none⟩]
abbrev quietuslaw37_LotsKeepObjects_r25 : List AI := [
 ⟨some 130, .mv false (.t 7), none⟩,
 ⟨some 131, .faddr 1 (.t 9), none⟩,
 ⟨some 132, .load false 1 (.t 131) .any, none⟩,
 ⟨none, .gd (.mdel [.i]) [(.t 130), (.t 132)], none⟩]
abbrev quietuslaw37_LotsKeepObjects_b1 : ACode := .seq (.reg false quietuslaw37_LotsKeepObjects_r23) (.seq (.reg false quietuslaw37_LotsKeepObjects_r24) (.reg false quietuslaw37_LotsKeepObjects_r25))
abbrev quietuslaw37_LotsKeepObjects_b2 : ACode := .seq (.reg false quietuslaw37_LotsKeepObjects_r19) (.seq (.seq (.reg false quietuslaw37_LotsKeepObjects_r20) (.cond (.t 124) (.seq (.reg false quietuslaw37_LotsKeepObjects_r21) (.ret)) (.skip))) (.seq (.reg false quietuslaw37_LotsKeepObjects_r22) (.cond (.t 125) (quietuslaw37_LotsKeepObjects_b1) (.skip))))
abbrev quietuslaw37_LotsKeepObjects_r26 : List AI := [
 ⟨some 134, .bin .eql (.t 68) (.c (.int .i64 2)), none⟩,
 ⟨some 133, .mv true (.t 134), none⟩]
abbrev quietuslaw37_LotsKeepObjects_r27 : List AI := [
 ⟨some 136, .load true 3 (.t 5) .any, none⟩,
 ⟨some 137, .faddr 1 (.t 9), none⟩,
 ⟨some 138, .load false 1 (.t 137) .any, none⟩,
 ⟨some 139, .faddr 2 (.t 9), none⟩,
 ⟨some 140, .load false 1 (.t 139) .any, none⟩,
 ⟨some 141, .call (.c (.fn f_chunk_Move)) [(.t 136), (.t 138), (.t 140)] 0, none⟩,
 ⟨some 135, .mv false (.t 141), none⟩,
 ⟨some 142, .ext (.t 135) 0, none⟩,
 ⟨some 143, .ext (.t 135) 1, none⟩,
 ⟨some 144, .ext (.t 135) 2, none⟩,
 ⟨some 17, .alloc [(.int .i64 0), .nilS, .nilS], none⟩,
 ⟨none, .store 3 (.t 17) (.t 142) .any, none⟩,
 ⟨some 18, .mv true (.t 143), none⟩,
 ⟨some 19, .mv true (.t 144), none⟩]
abbrev quietuslaw37_LotsKeepObjects_r28 : List AI := [
 ⟨some 145, .mv false (.t 19), none⟩,
 ⟨some 146, .bin .eql (.t 145) (.c (.int .i64 0)), none⟩,
 ⟨some 147, .mv false (.t 11), none⟩,
 ⟨some 148, .eqb true (.t 146) (.t 147), none⟩]
abbrev quietuslaw37_LotsKeepObjects_r29 : List AI := [
 ⟨some 4, .mv true (.c (.bool false)), none⟩]
abbrev quietuslaw37_LotsKeepObjects_r30 : List AI := [
 ⟨some 149, .mv false (.t 11), none⟩]
abbrev quietuslaw37_LotsKeepObjects_r31 : List AI := [
 ⟨some 150, .mv false (.t 7), none⟩,
 ⟨some 151, .faddr 1 (.t 9), none⟩,
 ⟨some 152, .load false 1 (.t 151) (.site 9), none⟩,
 ⟨some 153, .load true 3 (.t 17) (.site 17), none⟩,
 ⟨some 154, .faddr 2 (.t 9), none⟩,
 ⟨some 155, .load false 1 (.t 154) (.site 9), none⟩,
 ⟨none, .store 3 (.t 5) (.t 153) (.site 5), none⟩,
 ⟨none, .gd (.mset [.i]) [(.t 150), (.t 152), (.t 155)], none⟩]
abbrev quietuslaw37_LotsKeepObjects_b3 : ACode := .seq (.reg false quietuslaw37_LotsKeepObjects_r27) (.seq (.seq (.reg false quietuslaw37_LotsKeepObjects_r28) (.cond (.t 148) (.seq (.reg false quietuslaw37_LotsKeepObjects_r29) (.ret)) (.skip))) (.seq (.reg false quietuslaw37_LotsKeepObjects_r30) (.cond (.t 149) (.reg true quietuslaw37_LotsKeepObjects_r31) (.skip))))
abbrev quietuslaw37_LotsKeepObjects_b4 : ACode := .seq (.reg false quietuslaw37_LotsKeepObjects_r26) (.cond (.t 133) (quietuslaw37_LotsKeepObjects_b3) (.skip))
abbrev quietuslaw37_LotsKeepObjects_b5 : ACode := .seq (.reg false quietuslaw37_LotsKeepObjects_r18) (.cond (.t 111) (quietuslaw37_LotsKeepObjects_b2) (quietuslaw37_LotsKeepObjects_b4))
abbrev quietuslaw37_LotsKeepObjects_r32 : List AI := [
 ⟨some 156, .load true 3 (.t 5) .any, none⟩,
 ⟨some 157, .call (.c (.fn f_chunk_Valid)) [(.t 156)] 0, none⟩,
 ⟨some 158, .not (.t 157), none⟩,
 ⟨some 159, .mv false (.t 158), none⟩,
 ⟨some 160, .faddr 2 (.t 5), some (159, false)⟩,
 ⟨some 161, .load false 1 (.t 160) .any, some (159, false)⟩,
 ⟨some 162, .len false (.t 161), some (159, false)⟩,
 ⟨some 163, .mv false (.t 6), some (159, false)⟩,
 ⟨some 164, .gd .mlen [(.t 163)], some (159, false)⟩,
 ⟨some 165, .bin .neq (.t 162) (.t 164), some (159, false)⟩,
 ⟨some 166, .pick (.t 159) (.c (.bool true)) (.t 165), none⟩]
abbrev quietuslaw37_LotsKeepObjects_r33 : List AI := [
 ⟨some 4, .mv true (.c (.bool false)), none⟩]
abbrev quietuslaw37_LotsKeepObjects_r34 : List AI := [
 ⟨some 167, .faddr 2 (.t 5), none⟩,
 ⟨some 168, .load false 1 (.t 167) .any, none⟩,
 ⟨some 169, .len false (.t 168), none⟩,
 ⟨some 170, .mv false (.c (.int .i64 0)), none⟩]
abbrev quietuslaw37_LotsKeepObjects_r35 : List AI := [
 ⟨some 171, .bin .lss (.t 170) (.t 169), none⟩]
abbrev quietuslaw37_LotsKeepObjects_r36 : List AI := [
 ⟨some 172, .iaddr 3 (.t 168) (.t 170), none⟩,
 ⟨some 173, .load true 3 (.t 172) .any, none⟩,
 ⟨some 21, .alloc [(.int .i64 0), (.str []), .nilS], none⟩,
 ⟨none, .store 3 (.t 21) (.t 173) .any, none⟩]
abbrev quietuslaw37_LotsKeepObjects_r37 : List AI := [
 ⟨some 175, .load true 3 (.t 5) .any, none⟩,
 ⟨some 176, .faddr 0 (.t 21), none⟩,
 ⟨some 177, .load false 1 (.t 176) .any, none⟩,
 ⟨some 178, .call (.c (.fn f_chunk_Get)) [(.t 175), (.t 177)] 0, none⟩,
 ⟨some 174, .mv false (.t 178), none⟩,
 ⟨some 179, .ext (.t 174) 0, none⟩,
 ⟨some 180, .ext (.t 174) 1, none⟩,
 ⟨some 22, .mv true (.t 179), none⟩,
 ⟨some 23, .mv true (.t 180), none⟩]
abbrev quietuslaw37_LotsKeepObjects_r38 : List AI := [
 ⟨some 182, .mv false (.t 6), none⟩,
 ⟨some 183, .faddr 0 (.t 21), none⟩,
 ⟨some 184, .load false 1 (.t 183) .any, none⟩,
 ⟨some 185, .gd (.mlook [.i] (.str []) true) [(.t 182), (.t 184)], none⟩,
 ⟨some 181, .mv false (.t 185), none⟩,
 ⟨some 186, .ext (.t 181) 0, none⟩,
 ⟨some 187, .ext (.t 181) 1, none⟩,
 ⟨some 24, .mv true (.t 186), none⟩,
 ⟨some 25, .mv true (.t 187), none⟩]
abbrev quietuslaw37_LotsKeepObjects_r39 : List AI := [
 ⟨some 188, .mv false (.t 23), none⟩,
 ⟨some 189, .bin .neq (.t 188) (.c (.int .i64 0)), none⟩,
 ⟨some 190, .mv false (.t 189), none⟩,
 ⟨some 191, .mv false (.t 25), some (190, false)⟩,
 ⟨some 192, .not (.t 191), some (190, false)⟩,
 ⟨some 193, .pick (.t 190) (.c (.bool true)) (.t 192), none⟩,
 ⟨some 194, .mv false (.t 193), none⟩,
 ⟨some 195, .mv false (.t 22), some (194, false)⟩,
 ⟨some 196, .mv false (.t 24), some (194, false)⟩,
 ⟨some 197, .bin .neq (.t 195) (.t 196), some (194, false)⟩,
 ⟨some 198, .pick (.t 194) (.c (.bool true)) (.t 197), none⟩,
 ⟨some 199, .mv false (.t 198), none⟩,
 ⟨some 200, .faddr 1 (.t 21), some (199, false)⟩,
 ⟨some 201, .load false 1 (.t 200) .any, some (199, false)⟩,
 ⟨some 202, .mv false (.t 7), some (199, false)⟩,
 ⟨some 203, .faddr 0 (.t 21), some (199, false)⟩,
 ⟨some 204, .load false 1 (.t 203) .any, some (199, false)⟩,
 ⟨some 205, .gd (.mlook [.i] (.str []) false) [(.t 202), (.t 204)], some (199, false)⟩,
 ⟨some 206, .bin .neq (.t 201) (.t 205), some (199, false)⟩,
 ⟨some 207, .pick (.t 199) (.c (.bool true)) (.t 206), none⟩]
abbrev quietuslaw37_LotsKeepObjects_r40 : List AI := [
 ⟨some 4, .mv true (.c (.bool false)), none⟩]
abbrev quietuslaw37_LotsKeepObjects_r41 : List AI := [
 ⟨some 208, .bin .add (.t 170) (.c (.int .i64 1)), none⟩,
 ⟨some 170, .mv false (.t 208), none⟩]
abbrev quietuslaw37_LotsKeepObjects_l0 : ACode := .seq (.reg false quietuslaw37_LotsKeepObjects_r35) (.seq (.cond (.t 171) (.skip) (.exit 3)) (.seq (.block 4 (.seq (.reg false quietuslaw37_LotsKeepObjects_r36) (.seq (.reg false quietuslaw37_LotsKeepObjects_r37) (.seq (.reg false quietuslaw37_LotsKeepObjects_r38) (.seq (.reg false quietuslaw37_LotsKeepObjects_r39) (.cond (.t 207) (.seq (.reg false quietuslaw37_LotsKeepObjects_r40) (.ret)) (.skip))))))) (.reg false quietuslaw37_LotsKeepObjects_r41)))
abbrev quietuslaw37_LotsKeepObjects_r42 : List AI := [
 ⟨some 209, .faddr 1 (.t 5), none⟩,
 ⟨some 210, .load false 1 (.t 209) .any, none⟩,
 ⟨some 211, .len false (.t 210), none⟩,
 ⟨some 212, .mv false (.c (.int .i64 0)), none⟩]
abbrev quietuslaw37_LotsKeepObjects_r43 : List AI := [
 ⟨some 213, .bin .lss (.t 212) (.t 211), none⟩]
abbrev quietuslaw37_LotsKeepObjects_r44 : List AI := [
 ⟨some 214, .iaddr 4 (.t 210) (.t 212), none⟩,
 ⟨some 215, .load true 4 (.t 214) .any, none⟩,
 ⟨some 27, .alloc [(.int .i64 0), (.str []), (.str []), (.int .i64 0)], none⟩,
 ⟨none, .store 4 (.t 27) (.t 215) .any, none⟩]
abbrev quietuslaw37_LotsKeepObjects_r45 : List AI := [
 ⟨some 28, .mv true (.c (.bool false)), none⟩]
abbrev quietuslaw37_LotsKeepObjects_r46 : List AI := [
 ⟨some 216, .faddr 2 (.t 5), none⟩,
 ⟨some 217, .load false 1 (.t 216) .any, none⟩,
 ⟨some 218, .len false (.t 217), none⟩,
 ⟨some 219, .mv false (.c (.int .i64 0)), none⟩]
abbrev quietuslaw37_LotsKeepObjects_r47 : List AI := [
 ⟨some 220, .bin .lss (.t 219) (.t 218), none⟩]
abbrev quietuslaw37_LotsKeepObjects_r48 : List AI := [
 ⟨some 221, .iaddr 3 (.t 217) (.t 219), none⟩,
 ⟨some 222, .load true 3 (.t 221) .any, none⟩,
 ⟨some 30, .alloc [(.int .i64 0), (.str []), .nilS], none⟩,
 ⟨none, .store 3 (.t 30) (.t 222) .any, none⟩]
abbrev quietuslaw37_LotsKeepObjects_r49 : List AI := [
 ⟨some 223, .mv false (.t 28), none⟩,
 ⟨some 224, .mv false (.t 223), none⟩,
 ⟨some 225, .faddr 1 (.t 30), some (224, false)⟩,
 ⟨some 226, .load false 1 (.t 225) .any, some (224, false)⟩,
 ⟨some 227, .faddr 1 (.t 27), some (224, false)⟩,
 ⟨some 228, .load false 1 (.t 227) .any, some (224, false)⟩,
 ⟨some 229, .bin .eql (.t 226) (.t 228), some (224, false)⟩,
 ⟨some 230, .pick (.t 224) (.c (.bool true)) (.t 229), none⟩,
 ⟨some 28, .mv true (.t 230), none⟩]
abbrev quietuslaw37_LotsKeepObjects_r50 : List AI := [
 ⟨some 231, .bin .add (.t 219) (.c (.int .i64 1)), none⟩,
 ⟨some 219, .mv false (.t 231), none⟩]
abbrev quietuslaw37_LotsKeepObjects_l1 : ACode := .seq (.reg false quietuslaw37_LotsKeepObjects_r47) (.seq (.cond (.t 220) (.skip) (.exit 7)) (.seq (.block 8 (.seq (.reg false quietuslaw37_LotsKeepObjects_r48) (.reg false quietuslaw37_LotsKeepObjects_r49))) (.reg false quietuslaw37_LotsKeepObjects_r50)))
abbrev quietuslaw37_LotsKeepObjects_r51 : List AI := [
 ⟨some 232, .mv false (.t 28), none⟩,
 ⟨some 233, .not (.t 232), none⟩]
abbrev quietuslaw37_LotsKeepObjects_r52 : List AI := [
 ⟨some 4, .mv true (.c (.bool false)), none⟩]
abbrev quietuslaw37_LotsKeepObjects_r53 : List AI := [
 ⟨some 234, .bin .add (.t 212) (.c (.int .i64 1)), none⟩,
 ⟨some 212, .mv false (.t 234), none⟩]
abbrev quietuslaw37_LotsKeepObjects_l2 : ACode := .seq (.reg false quietuslaw37_LotsKeepObjects_r43) (.seq (.cond (.t 213) (.skip) (.exit 5)) (.seq (.block 6 (.seq (.reg false quietuslaw37_LotsKeepObjects_r44) (.seq (.reg false quietuslaw37_LotsKeepObjects_r45) (.seq (.seq (.reg false quietuslaw37_LotsKeepObjects_r46) (.block 7 (.loop quietuslaw37_LotsKeepObjects_l1))) (.seq (.reg false quietuslaw37_LotsKeepObjects_r51) (.cond (.t 233) (.seq (.reg false quietuslaw37_LotsKeepObjects_r52) (.ret)) (.skip))))))) (.reg false quietuslaw37_LotsKeepObjects_r53)))
abbrev quietuslaw37_LotsKeepObjects_r54 : List AI := [
 ⟨some 235, .bin .add (.t 45) (.c (.int .i64 1)), none⟩,
 ⟨some 45, .mv false (.t 235), none⟩]
abbrev quietuslaw37_LotsKeepObjects_l3 : ACode := .seq (.reg false quietuslaw37_LotsKeepObjects_r6) (.seq (.cond (.t 46) (.skip) (.exit 0)) (.seq (.block 1 (.seq (.reg false quietuslaw37_LotsKeepObjects_r7) (.seq (.seq (.reg false quietuslaw37_LotsKeepObjects_r8) (.cond (.t 58) (.seq (.reg false quietuslaw37_LotsKeepObjects_r9) (.ret)) (.skip))) (.seq (.reg false quietuslaw37_LotsKeepObjects_r10) (.seq (.seq (.reg false quietuslaw37_LotsKeepObjects_r11) (.block 2 (.seq (.reg false quietuslaw37_LotsKeepObjects_r12) (.cond (.t 69) (quietuslaw37_LotsKeepObjects_b0) (quietuslaw37_LotsKeepObjects_b5))))) (.seq (.seq (.reg false quietuslaw37_LotsKeepObjects_r32) (.cond (.t 166) (.seq (.reg false quietuslaw37_LotsKeepObjects_r33) (.ret)) (.skip))) (.seq (.seq (.reg false quietuslaw37_LotsKeepObjects_r34) (.block 3 (.loop quietuslaw37_LotsKeepObjects_l0))) (.seq (.reg false quietuslaw37_LotsKeepObjects_r42) (.block 5 (.loop quietuslaw37_LotsKeepObjects_l2)))))))))) (.reg false quietuslaw37_LotsKeepObjects_r54)))
abbrev quietuslaw37_LotsKeepObjects_r55 : List AI := [
 ⟨some 236, .call (.c (.fn f_quietuslaw37_sanity)) [] 0, none⟩,
 ⟨some 4, .mv true (.t 236), none⟩]
abbrev quietuslaw37_LotsKeepObjects_c : ACode := .seq (.reg false quietuslaw37_LotsKeepObjects_r0) (.seq (.seq (.reg false quietuslaw37_LotsKeepObjects_r1) (.cond (.t 38) (.seq (.reg false quietuslaw37_LotsKeepObjects_r2) (.ret)) (.skip))) (.seq (.reg false quietuslaw37_LotsKeepObjects_r3) (.seq (.reg false quietuslaw37_LotsKeepObjects_r4) (.seq (.seq (.reg false quietuslaw37_LotsKeepObjects_r5) (.block 0 (.loop quietuslaw37_LotsKeepObjects_l3))) (.seq (.reg false quietuslaw37_LotsKeepObjects_r55) (.ret))))))
def quietuslaw37_LotsKeepObjects_F : AFunc := ⟨237, [.tmp 4], quietuslaw37_LotsKeepObjects_c⟩
theorem quietuslaw37_LotsKeepObjects_cp : compile Try.prog [] f_quietuslaw37_LotsKeepObjects = some quietuslaw37_LotsKeepObjects_F := by kernel_rfl
abbrev quietuslaw37_sanity_r0 : List AI := [
 ⟨some 0, .mv true (.c (.bool false)), none⟩]
abbrev quietuslaw37_sanity_r1 : List AI := [
 ⟨some 21, .build [(.int .i64 0), (.int .i64 0), (.int .i64 0)] [(0, 1, (.c (.int .i64 2))), (1, 1, (.c (.int .i64 4))), (2, 1, (.c (.int .i64 1)))], none⟩,
 ⟨some 1, .alloc [(.int .i64 0), (.int .i64 0), (.int .i64 0)], none⟩,
 ⟨none, .store 3 (.t 1) (.t 21) .any, none⟩]
abbrev quietuslaw37_sanity_r2 : List AI := [
 ⟨some 23, .load true 3 (.t 1) .any, none⟩,
 ⟨some 24, .call (.c (.fn f_chunk_Cut)) [(.t 23), (.c (.str [97, 98, 99, 100, 101, 102, 103, 104]))] 0, none⟩,
 ⟨some 22, .mv false (.t 24), none⟩,
 ⟨some 25, .ext (.t 22) 0, none⟩,
 ⟨some 26, .ext (.t 22) 1, none⟩,
 ⟨some 2, .mv true (.t 25), none⟩,
 ⟨some 3, .mv true (.t 26), none⟩]
abbrev quietuslaw37_sanity_r3 : List AI := [
 ⟨some 28, .load true 3 (.t 1) .any, none⟩,
 ⟨some 29, .call (.c (.fn f_chunk_Cut)) [(.t 28), (.c (.str [98, 98, 98, 98, 98, 98, 98, 98, 98]))] 0, none⟩,
 ⟨some 27, .mv false (.t 29), none⟩,
 ⟨some 30, .ext (.t 27) 0, none⟩,
 ⟨some 31, .ext (.t 27) 1, none⟩,
 ⟨some 4, .mv true (.t 30), none⟩,
 ⟨some 5, .mv true (.t 31), none⟩]
abbrev quietuslaw37_sanity_r4 : List AI := [
 ⟨some 33, .build [(.int .i64 0), .nilS, .nilS] [(0, 1, (.c (.int .i64 1)))], none⟩,
 ⟨some 34, .load true 3 (.t 1) .any, none⟩,
 ⟨some 35, .call (.c (.fn f_chunk_Put)) [(.t 33), (.t 34), (.c (.int .i64 7)), (.c (.str [120])), (.c (.str [98, 98, 98, 98, 98]))] 0, none⟩,
 ⟨some 32, .mv false (.t 35), none⟩,
 ⟨some 36, .ext (.t 32) 0, none⟩,
 ⟨some 37, .ext (.t 32) 1, none⟩,
 ⟨some 6, .alloc [(.int .i64 0), .nilS, .nilS], none⟩,
 ⟨none, .store 3 (.t 6) (.t 36) .any, none⟩,
 ⟨some 7, .mv true (.t 37), none⟩]
abbrev quietuslaw37_sanity_r5 : List AI := [
 ⟨some 38, .build [(.int .i64 0), (.str []), (.str []), (.int .i64 0)] [(0, 1, (.c (.int .i64 1))), (1, 1, (.c (.str [120]))), (2, 1, (.c (.str [98, 98]))), (3, 1, (.c (.int .i64 2)))], none⟩,
 ⟨some 39, .build [(.int .i64 0), (.str []), (.str []), (.int .i64 0)] [(0, 1, (.c (.int .i64 2))), (1, 1, (.c (.str [120]))), (2, 1, (.c (.str [98]))), (3, 1, (.c (.int .i64 1)))], none⟩,
 ⟨some 40, .mkslice 4 2 (.agg [(.int .i64 0), (.str []), (.str []), (.int .i64 0)]) [(0, (.t 38)), (1, (.t 39))], none⟩,
 ⟨some 41, .mkslice 1 3 (.int .i64 0) [(0, (.c (.int .i64 1))), (1, (.c (.int .i64 1))), (2, (.c (.int .i64 2)))], none⟩,
 ⟨some 42, .build [(.int .i64 0), (.str []), .nilS] [(0, 1, (.c (.int .i64 7))), (1, 1, (.c (.str [120]))), (2, 1, (.t 41))], none⟩,
 ⟨some 43, .mkslice 3 1 (.agg [(.int .i64 0), (.str []), .nilS]) [(0, (.t 42))], none⟩,
 ⟨some 44, .build [(.int .i64 0), .nilS, .nilS] [(0, 1, (.c (.int .i64 3))), (1, 1, (.t 40)), (2, 1, (.t 43))], none⟩,
 ⟨some 8, .alloc [(.int .i64 0), .nilS, .nilS], none⟩,
 ⟨none, .store 3 (.t 8) (.t 44) .any, none⟩]
abbrev quietuslaw37_sanity_r6 : List AI := [
 ⟨some 45, .mv false (.t 3), none⟩,
 ⟨some 46, .bin .eql (.t 45) (.c (.int .i64 0)), none⟩,
 ⟨some 47, .mv false (.t 46), none⟩,
 ⟨some 48, .mv false (.t 5), some (47, true)⟩,
 ⟨some 49, .bin .eql (.t 48) (.c (.int .i64 0)), some (47, true)⟩,
 ⟨some 50, .pick (.t 47) (.t 49) (.c (.bool false)), none⟩,
 ⟨some 51, .mv false (.t 50), none⟩,
 ⟨some 52, .mv false (.t 2), some (51, true)⟩,
 ⟨some 53, .mkslice 1 4 (.str []) [(0, (.c (.str [97, 98]))), (1, (.c (.str [99, 100]))), (2, (.c (.str [101, 102]))), (3, (.c (.str [103, 104])))], some (51, true)⟩,
 ⟨some 54, .call (.c (.fn f_quietusref07_SameTexts)) [(.t 52), (.t 53)] 0, some (51, true)⟩,
 ⟨some 55, .pick (.t 51) (.t 54) (.c (.bool false)), none⟩,
 ⟨some 56, .mv false (.t 55), none⟩,
 ⟨some 57, .mv false (.t 4), some (56, true)⟩,
 ⟨some 58, .mkslice 1 5 (.str []) [(0, (.c (.str [98, 98]))), (1, (.c (.str [98, 98]))), (2, (.c (.str [98, 98]))), (3, (.c (.str [98, 98]))), (4, (.c (.str [98])))], some (56, true)⟩,
 ⟨some 59, .call (.c (.fn f_quietusref07_SameTexts)) [(.t 57), (.t 58)] 0, some (56, true)⟩,
 ⟨some 60, .pick (.t 56) (.t 59) (.c (.bool false)), none⟩,
 ⟨some 9, .mv true (.t 60), none⟩]
abbrev quietuslaw37_sanity_r7 : List AI := [
 ⟨some 61, .mv false (.t 9), none⟩,
 ⟨some 62, .not (.t 61), none⟩,
 ⟨some 63, .mv false (.t 62), none⟩,
 ⟨some 64, .mv false (.t 7), some (63, false)⟩,
 ⟨some 65, .bin .neq (.t 64) (.c (.int .i64 0)), some (63, false)⟩,
 ⟨some 66, .pick (.t 63) (.c (.bool true)) (.t 65), none⟩,
 ⟨some 67, .mv false (.t 66), none⟩,
 ⟨some 68, .load true 3 (.t 6) .any, some (67, false)⟩,
 ⟨some 69, .load true 3 (.t 8) .any, some (67, false)⟩,
 ⟨some 70, .call (.c (.fn f_quietusref37_Same)) [(.t 68), (.t 69)] 0, some (67, false)⟩,
 ⟨some 71, .not (.t 70), some (67, false)⟩,
 ⟨some 72, .pick (.t 67) (.c (.bool true)) (.t 71), none⟩]
abbrev quietuslaw37_sanity_r8 : List AI := [
 ⟨some 0, .mv true (.c (.bool false)), none⟩]
abbrev quietuslaw37_sanity_r9 : List AI := [
 ⟨some 74, .load true 3 (.t 6) .any, none⟩,
 ⟨some 75, .load true 3 (.t 1) .any, none⟩,
 ⟨some 76, .call (.c (.fn f_chunk_Put)) [(.t 74), (.t 75), (.c (.int .i64 3)), (.c (.str [121])), (.c (.str [98, 98, 98]))] 0, none⟩,
 ⟨some 73, .mv false (.t 76), none⟩,
 ⟨some 77, .ext (.t 73) 0, none⟩,
 ⟨some 78, .ext (.t 73) 1, none⟩,
 ⟨none, .store 3 (.t 6) (.t 77) .any, none⟩,
 ⟨some 10, .mv true (.t 78), none⟩]
abbrev quietuslaw37_sanity_r10 : List AI := [
 ⟨some 80, .load true 3 (.t 6) .any, none⟩,
 ⟨some 81, .load true 3 (.t 1) .any, none⟩,
 ⟨some 82, .call (.c (.fn f_chunk_Put)) [(.t 80), (.t 81), (.c (.int .i64 4)), (.c (.str [120])), (.c (.str [98, 98]))] 0, none⟩,
 ⟨some 79, .mv false (.t 82), none⟩,
 ⟨some 83, .ext (.t 79) 0, none⟩,
 ⟨some 84, .ext (.t 79) 1, none⟩,
 ⟨none, .store 3 (.t 6) (.t 83) .any, none⟩,
 ⟨some 11, .mv true (.t 84), none⟩]
abbrev quietuslaw37_sanity_r11 : List AI := [
 ⟨some 85, .mv false (.t 10), none⟩,
 ⟨some 86, .bin .neq (.t 85) (.c (.int .i64 0)), none⟩,
 ⟨some 87, .mv false (.t 86), none⟩,
 ⟨some 88, .mv false (.t 11), some (87, false)⟩,
 ⟨some 89, .bin .neq (.t 88) (.c (.int .i64 0)), some (87, false)⟩,
 ⟨some 90, .pick (.t 87) (.c (.bool true)) (.t 89), none⟩,
 ⟨some 91, .mv false (.t 90), none⟩,
 ⟨some 92, .faddr 1 (.t 6), some (91, false)⟩,
 ⟨some 93, .load false 1 (.t 92) .any, some (91, false)⟩,
 ⟨some 94, .len false (.t 93), some (91, false)⟩,
 ⟨some 95, .bin .neq (.t 94) (.c (.int .i64 4)), some (91, false)⟩,
 ⟨some 96, .pick (.t 91) (.c (.bool true)) (.t 95), none⟩,
 ⟨some 97, .mv false (.t 96), none⟩,
 ⟨some 98, .faddr 1 (.t 6), some (97, false)⟩,
 ⟨some 99, .load false 1 (.t 98) .any, some (97, false)⟩,
 ⟨some 100, .iaddr 4 (.t 99) (.c (.int .i64 0)), some (97, false)⟩,
 ⟨some 101, .faddr 3 (.t 100), some (97, false)⟩,
 ⟨some 102, .load false 1 (.t 101) .any, some (97, false)⟩,
 ⟨some 103, .bin .neq (.t 102) (.c (.int .i64 3)), some (97, false)⟩,
 ⟨some 104, .pick (.t 97) (.c (.bool true)) (.t 103), none⟩,
 ⟨some 105, .mv false (.t 104), none⟩,
 ⟨some 106, .faddr 0 (.t 6), some (105, false)⟩,
 ⟨some 107, .load false 1 (.t 106) .any, some (105, false)⟩,
 ⟨some 108, .bin .neq (.t 107) (.c (.int .i64 5)), some (105, false)⟩,
 ⟨some 109, .pick (.t 105) (.c (.bool true)) (.t 108), none⟩,
 ⟨some 110, .mv false (.t 109), none⟩,
 ⟨some 111, .faddr 2 (.t 6), some (110, false)⟩,
 ⟨some 112, .load false 1 (.t 111) .any, some (110, false)⟩,
 ⟨some 113, .len false (.t 112), some (110, false)⟩,
 ⟨some 114, .bin .neq (.t 113) (.c (.int .i64 3)), some (110, false)⟩,
 ⟨some 115, .pick (.t 110) (.c (.bool true)) (.t 114), none⟩,
 ⟨some 116, .mv false (.t 115), none⟩,
 ⟨some 117, .faddr 2 (.t 6), some (116, false)⟩,
 ⟨some 118, .load false 1 (.t 117) .any, some (116, false)⟩,
 ⟨some 119, .iaddr 3 (.t 118) (.c (.int .i64 0)), some (116, false)⟩,
 ⟨some 120, .faddr 0 (.t 119), some (116, false)⟩,
 ⟨some 121, .load false 1 (.t 120) .any, some (116, false)⟩,
 ⟨some 122, .bin .neq (.t 121) (.c (.int .i64 3)), some (116, false)⟩,
 ⟨some 123, .pick (.t 116) (.c (.bool true)) (.t 122), none⟩]
abbrev quietuslaw37_sanity_r12 : List AI := [
 ⟨some 0, .mv true (.c (.bool false)), none⟩]
abbrev quietuslaw37_sanity_r13 : List AI := [
 ⟨some 125, .load true 3 (.t 6) .any, none⟩,
 ⟨some 126, .call (.c (.fn f_chunk_Drop)) [(.t 125), (.c (.int .i64 7))] 0, none⟩,
 ⟨some 124, .mv false (.t 126), none⟩,
 ⟨some 127, .ext (.t 124) 0, none⟩,
 ⟨some 128, .ext (.t 124) 1, none⟩,
 ⟨some 129, .ext (.t 124) 2, none⟩,
 ⟨none, .store 3 (.t 6) (.t 127) .any, none⟩,
 ⟨some 12, .mv true (.t 128), none⟩,
 ⟨some 13, .mv true (.t 129), none⟩]
abbrev quietuslaw37_sanity_r14 : List AI := [
 ⟨some 131, .load true 3 (.t 6) .any, none⟩,
 ⟨some 132, .call (.c (.fn f_chunk_Get)) [(.t 131), (.c (.int .i64 4))] 0, none⟩,
 ⟨some 130, .mv false (.t 132), none⟩,
 ⟨some 133, .ext (.t 130) 0, none⟩,
 ⟨some 134, .ext (.t 130) 1, none⟩,
 ⟨some 14, .mv true (.t 133), none⟩,
 ⟨some 15, .mv true (.t 134), none⟩]
abbrev quietuslaw37_sanity_r15 : List AI := [
 ⟨some 136, .load true 3 (.t 6) .any, none⟩,
 ⟨some 137, .call (.c (.fn f_chunk_Get)) [(.t 136), (.c (.int .i64 7))] 0, none⟩,
 ⟨some 135, .mv false (.t 137), none⟩,
 ⟨some 138, .ext (.t 135) 0, none⟩,
 ⟨some 139, .ext (.t 135) 1, none⟩,
 ⟨some 16, .mv true (.t 138), none⟩,
 ⟨some 17, .mv true (.t 139), none⟩]
abbrev quietuslaw37_sanity_r16 : List AI := [
 ⟨some 141, .load true 3 (.t 6) .any, none⟩,
 ⟨some 142, .call (.c (.fn f_chunk_Move)) [(.t 141), (.c (.int .i64 4)), (.c (.str [121]))] 0, none⟩,
 ⟨some 140, .mv false (.t 142), none⟩,
 ⟨some 143, .ext (.t 140) 0, none⟩,
 ⟨some 144, .ext (.t 140) 1, none⟩,
 ⟨some 145, .ext (.t 140) 2, none⟩,
 ⟨none, .store 3 (.t 6) (.t 143) .any, none⟩,
 ⟨some 18, .mv true (.t 144), none⟩,
 ⟨some 19, .mv true (.t 145), none⟩]
abbrev quietuslaw37_sanity_r17 : List AI := [
 ⟨some 146, .mv false (.t 13), none⟩,
 ⟨some 147, .bin .eql (.t 146) (.c (.int .i64 0)), none⟩,
 ⟨some 148, .mv false (.t 147), none⟩,
 ⟨some 149, .mv false (.t 12), some (148, true)⟩,
 ⟨some 150, .mkslice 1 1 (.int .i64 0) [(0, (.c (.int .i64 2)))], some (148, true)⟩,
 ⟨some 151, .call (.c (.fn f_quietusref37_SameList)) [(.t 149), (.t 150)] 0, some (148, true)⟩,
 ⟨some 152, .pick (.t 148) (.t 151) (.c (.bool false)), none⟩,
 ⟨some 153, .mv false (.t 152), none⟩,
 ⟨some 154, .mv false (.t 14), some (153, true)⟩,
 ⟨some 155, .bin .eql (.t 154) (.c (.str [98, 98])), some (153, true)⟩,
 ⟨some 156, .pick (.t 153) (.t 155) (.c (.bool false)), none⟩,
 ⟨some 157, .mv false (.t 156), none⟩,
 ⟨some 158, .mv false (.t 15), some (157, true)⟩,
 ⟨some 159, .bin .eql (.t 158) (.c (.int .i64 0)), some (157, true)⟩,
 ⟨some 160, .pick (.t 157) (.t 159) (.c (.bool false)), none⟩,
 ⟨some 161, .mv false (.t 160), none⟩,
 ⟨some 162, .mv false (.t 17), some (161, true)⟩,
 ⟨some 163, .bin .eql (.t 162) (.c (.int .i64 8)), some (161, true)⟩,
 ⟨some 164, .pick (.t 161) (.t 163) (.c (.bool false)), none⟩,
 ⟨some 165, .mv false (.t 164), none⟩,
 ⟨some 166, .mv false (.t 19), some (165, true)⟩,
 ⟨some 167, .bin .eql (.t 166) (.c (.int .i64 0)), some (165, true)⟩,
 ⟨some 168, .pick (.t 165) (.t 167) (.c (.bool false)), none⟩,
 ⟨some 169, .mv false (.t 168), none⟩,
 ⟨some 170, .mv false (.t 18), some (169, true)⟩,
 ⟨some 171, .mkslice 1 1 (.int .i64 0) [(0, (.c (.int .i64 1)))], some (169, true)⟩,
 ⟨some 172, .call (.c (.fn f_quietusref37_SameList)) [(.t 170), (.t 171)] 0, some (169, true)⟩,
 ⟨some 173, .pick (.t 169) (.t 172) (.c (.bool false)), none⟩,
 ⟨some 20, .mv true (.t 173), none⟩]
abbrev quietuslaw37_sanity_r18 : List AI := [
 ⟨some 174, .mv false (.t 20), none⟩,
 ⟨some 175, .mv false (.t 174), none⟩,
 ⟨some 176, .load true 3 (.t 6) .any, some (175, true)⟩,
 ⟨some 177, .call (.c (.fn f_chunk_Valid)) [(.t 176)] 0, some (175, true)⟩,
 ⟨some 178, .pick (.t 175) (.t 177) (.c (.bool false)), none⟩,
 ⟨some 179, .mv false (.t 178), none⟩,
 ⟨some 180, .faddr 1 (.t 6), some (179, true)⟩,
 ⟨some 181, .load false 1 (.t 180) .any, some (179, true)⟩,
 ⟨some 182, .len false (.t 181), some (179, true)⟩,
 ⟨some 183, .bin .eql (.t 182) (.c (.int .i64 2)), some (179, true)⟩,
 ⟨some 184, .pick (.t 179) (.t 183) (.c (.bool false)), none⟩,
 ⟨some 185, .mv false (.t 184), none⟩,
 ⟨some 186, .faddr 1 (.t 6), some (185, true)⟩,
 ⟨some 187, .load false 1 (.t 186) .any, some (185, true)⟩,
 ⟨some 188, .iaddr 4 (.t 187) (.c (.int .i64 0)), some (185, true)⟩,
 ⟨some 189, .load true 4 (.t 188) .any, some (185, true)⟩,
 ⟨some 190, .build [(.int .i64 0), (.str []), (.str []), (.int .i64 0)] [(0, 1, (.c (.int .i64 3))), (1, 1, (.c (.str [121]))), (2, 1, (.c (.str [98, 98]))), (3, 1, (.c (.int .i64 2)))], some (185, true)⟩,
 ⟨some 191, .eqs false [.i, .s, .s, .i] (.t 189) (.t 190), some (185, true)⟩,
 ⟨some 192, .pick (.t 185) (.t 191) (.c (.bool false)), none⟩,
 ⟨some 0, .mv true (.t 192), none⟩]
abbrev quietuslaw37_sanity_c : ACode := .seq (.reg false quietuslaw37_sanity_r0) (.seq (.reg false quietuslaw37_sanity_r1) (.seq (.reg false quietuslaw37_sanity_r2) (.seq (.reg false quietuslaw37_sanity_r3) (.seq (.reg false quietuslaw37_sanity_r4) (.seq (.reg false quietuslaw37_sanity_r5) (.seq (.reg false quietuslaw37_sanity_r6) (.seq (.seq (.reg false quietuslaw37_sanity_r7) (.cond (.t 72) (.seq (.reg false quietuslaw37_sanity_r8) (.ret)) (.skip))) (.seq (.reg false quietuslaw37_sanity_r9) (.seq (.reg false quietuslaw37_sanity_r10) (.seq (.seq (.reg false quietuslaw37_sanity_r11) (.cond (.t 123) (.seq (.reg false quietuslaw37_sanity_r12) (.ret)) (.skip))) (.seq (.reg false quietuslaw37_sanity_r13) (.seq (.reg false quietuslaw37_sanity_r14) (.seq (.reg false quietuslaw37_sanity_r15) (.seq (.reg false quietuslaw37_sanity_r16) (.seq (.reg false quietuslaw37_sanity_r17) (.seq (.reg false quietuslaw37_sanity_r18) (.ret)))))))))))))))))
def quietuslaw37_sanity_F : AFunc := ⟨193, [.tmp 0], quietuslaw37_sanity_c⟩
theorem quietuslaw37_sanity_cp : compile Try.prog [] f_quietuslaw37_sanity = some quietuslaw37_sanity_F := by kernel_rfl
-- loop 0: [3, 7, 8, 21]
abbrev chunk_Cut_r0 : List AI := [
 ⟨some 2, .box 3 (.t 0), none⟩,
 ⟨some 3, .gn (.box 1) [(.t 1)], none⟩,
 ⟨some 4, .mv true (.c .nilS), none⟩,
 ⟨some 5, .mv true (.c (.int .i64 0)), none⟩]
abbrev chunk_Cut_r1 : List AI := [
 ⟨some 10, .load true 3 (.t 2) .any, none⟩,
 ⟨some 11, .call (.c (.fn f_chunk_Check)) [(.t 10)] 0, none⟩,
 ⟨some 6, .mv true (.t 11), none⟩]
abbrev chunk_Cut_r2 : List AI := [
 ⟨some 12, .mv false (.t 6), none⟩,
 ⟨some 13, .bin .neq (.t 12) (.c (.int .i64 0)), none⟩]
abbrev chunk_Cut_r3 : List AI := [
 ⟨some 14, .mv false (.t 6), none⟩,
 ⟨some 4, .mv true (.c .nilS), none⟩,
 ⟨some 5, .mv true (.t 14), none⟩]
abbrev chunk_Cut_r4 : List AI := [
 ⟨some 15, .load false 1 (.t 3) .any, none⟩,
 ⟨some 16, .len true (.t 15), none⟩,
 ⟨some 17, .bin .gtr (.t 16) (.c (.int .i64 65536)), none⟩]
abbrev chunk_Cut_r5 : List AI := [
 ⟨some 4, .mv true (.c .nilS), none⟩,
 ⟨some 5, .mv true (.c (.int .i64 2)), none⟩]
abbrev chunk_Cut_r6 : List AI := [
 ⟨some 7, .gn (.alloc [.nilS]) [], none⟩]
abbrev chunk_Cut_r7 : List AI := [
 ⟨some 8, .gn (.alloc [(.int .i64 0)]) [], none⟩,
 ⟨none, .store 1 (.t 8) (.c (.int .i64 0)) .any, none⟩]
abbrev chunk_Cut_r8 : List AI := [
 ⟨some 18, .load true 3 (.t 2) .any, none⟩,
 ⟨some 19, .load false 1 (.t 3) .any, none⟩,
 ⟨some 20, .call (.c (.fn f_chunk_cuts)) [(.t 18), (.t 19)] 0, none⟩]
abbrev chunk_Cut_r9 : List AI := [
 ⟨some 9, .mv true (.t 21), none⟩]
abbrev chunk_Cut_r10 : List AI := [
 ⟨some 22, .load false 1 (.t 7) .foreign, none⟩,
 ⟨some 23, .load false 1 (.t 3) .foreign, none⟩,
 ⟨some 24, .load false 1 (.t 8) .foreign, none⟩,
 ⟨some 25, .mv false (.t 9), none⟩,
 ⟨some 26, .slS (.t 23) (some (.t 24)) (some (.t 25)), none⟩,
 ⟨some 27, .mkslice 1 1 (.str []) [(0, (.t 26))], none⟩,
 ⟨some 28, .appG 1 16 [(.str [])] (.t 22) (.t 27), none⟩,
 ⟨none, .store 1 (.t 7) (.t 28) .gp, none⟩]
abbrev chunk_Cut_r11 : List AI := [
 ⟨some 29, .mv false (.t 9), none⟩,
 ⟨none, .store 1 (.t 8) (.t 29) .any, none⟩]
abbrev chunk_Cut_y0a : ACode := .reg false chunk_Cut_r9
abbrev chunk_Cut_y0b : ACode := .block 1 (.seq (.reg true chunk_Cut_r10) (.reg false chunk_Cut_r11))
abbrev chunk_Cut_r12 : List AI := [
 ⟨some 30, .load false 1 (.t 7) .any, none⟩,
 ⟨some 4, .mv true (.t 30), none⟩,
 ⟨some 5, .mv true (.c (.int .i64 0)), none⟩]
abbrev chunk_Cut_c : ACode := .seq (.reg false chunk_Cut_r0) (.seq (.seq (.reg false chunk_Cut_r1) (.seq (.reg false chunk_Cut_r2) (.cond (.t 13) (.seq (.reg false chunk_Cut_r3) (.ret)) (.skip)))) (.seq (.seq (.reg false chunk_Cut_r4) (.cond (.t 17) (.seq (.reg false chunk_Cut_r5) (.ret)) (.skip))) (.seq (.reg false chunk_Cut_r6) (.seq (.reg false chunk_Cut_r7) (.seq (.seq (.reg false chunk_Cut_r8) (.block 0 (.rangeF (.t 20) [21] chunk_Cut_y0a chunk_Cut_y0b))) (.seq (.reg false chunk_Cut_r12) (.ret)))))))
def chunk_Cut_F : AFunc := ⟨31, [.tmp 4, .tmp 5], chunk_Cut_c⟩
theorem chunk_Cut_cp : compile Try.prog [3, 7, 8, 28] f_chunk_Cut = some chunk_Cut_F := by kernel_rfl
-- loop 0: [1, 2, 4, 6, 7, 8]
abbrev chunk_Check_r0 : List AI := [
 ⟨some 1, .box 3 (.t 0), none⟩,
 ⟨some 2, .mv true (.c (.int .i64 0)), none⟩]
abbrev chunk_Check_r1 : List AI := [
 ⟨some 3, .faddr 0 (.t 1), none⟩,
 ⟨some 4, .load false 1 (.t 3) .any, none⟩,
 ⟨some 5, .bin .lss (.t 4) (.c (.int .i64 1)), none⟩,
 ⟨some 6, .mv false (.t 5), none⟩,
 ⟨some 7, .faddr 0 (.t 1), some (6, false)⟩,
 ⟨some 8, .load false 1 (.t 7) .any, some (6, false)⟩,
 ⟨some 9, .faddr 1 (.t 1), some (6, false)⟩,
 ⟨some 10, .load false 1 (.t 9) .any, some (6, false)⟩,
 ⟨some 11, .bin .gtr (.t 8) (.t 10), some (6, false)⟩,
 ⟨some 12, .pick (.t 6) (.c (.bool true)) (.t 11), none⟩,
 ⟨some 13, .mv false (.t 12), none⟩,
 ⟨some 14, .faddr 1 (.t 1), some (13, false)⟩,
 ⟨some 15, .load false 1 (.t 14) .any, some (13, false)⟩,
 ⟨some 16, .bin .gtr (.t 15) (.c (.int .i64 4096)), some (13, false)⟩,
 ⟨some 17, .pick (.t 13) (.c (.bool true)) (.t 16), none⟩,
 ⟨some 18, .mv false (.t 17), none⟩,
 ⟨some 19, .faddr 2 (.t 1), some (18, false)⟩,
 ⟨some 20, .load false 1 (.t 19) .any, some (18, false)⟩,
 ⟨some 21, .bin .lss (.t 20) (.c (.int .i64 0)), some (18, false)⟩,
 ⟨some 22, .pick (.t 18) (.c (.bool true)) (.t 21), none⟩,
 ⟨some 23, .mv false (.t 22), none⟩,
 ⟨some 24, .faddr 2 (.t 1), some (23, false)⟩,
 ⟨some 25, .load false 1 (.t 24) .any, some (23, false)⟩,
 ⟨some 26, .bin .gtr (.t 25) (.c (.int .i64 8)), some (23, false)⟩,
 ⟨some 27, .pick (.t 23) (.c (.bool true)) (.t 26), none⟩]
abbrev chunk_Check_r2 : List AI := [
 ⟨some 2, .mv true (.c (.int .i64 3)), none⟩]
abbrev chunk_Check_r3 : List AI := [
 ⟨some 2, .mv true (.c (.int .i64 0)), none⟩]
abbrev chunk_Check_c : ACode := .seq (.reg false chunk_Check_r0) (.seq (.seq (.reg false chunk_Check_r1) (.cond (.t 27) (.seq (.reg false chunk_Check_r2) (.ret)) (.skip))) (.seq (.reg false chunk_Check_r3) (.ret)))
def chunk_Check_F : AFunc := ⟨28, [.tmp 2], chunk_Check_c⟩
theorem chunk_Check_cp : compile Try.prog [] f_chunk_Check = some chunk_Check_F := by kernel_rfl
-- loop 0: [0, 1, 5]
abbrev quietusref07_SameTexts_r0 : List AI := [
 ⟨some 4, .mv true (.c (.bool false)), none⟩]
abbrev quietusref07_SameTexts_r1 : List AI := [
 ⟨some 6, .mv false (.t 0), none⟩,
 ⟨some 7, .len false (.t 6), none⟩,
 ⟨some 8, .mv false (.t 1), none⟩,
 ⟨some 9, .len false (.t 8), none⟩,
 ⟨some 10, .bin .neq (.t 7) (.t 9), none⟩]
abbrev quietusref07_SameTexts_r2 : List AI := [
 ⟨some 4, .mv true (.c (.bool false)), none⟩]
abbrev quietusref07_SameTexts_r3 : List AI := [
 ⟨some 5, .mv true (.c (.int .i64 0)), none⟩]
abbrev quietusref07_SameTexts_r4 : List AI := [
 ⟨some 11, .mv false (.t 5), none⟩,
 ⟨some 12, .mv false (.t 0), none⟩,
 ⟨some 13, .len false (.t 12), none⟩,
 ⟨some 14, .bin .lss (.t 11) (.t 13), none⟩]
abbrev quietusref07_SameTexts_r5 : List AI := [
 ⟨some 17, .mv false (.t 0), none⟩,
 ⟨some 18, .mv false (.t 5), none⟩,
 ⟨some 19, .iaddr 1 (.t 17) (.t 18), none⟩,
 ⟨some 20, .load false 1 (.t 19) .foreign, none⟩,
 ⟨some 21, .mv false (.t 1), none⟩,
 ⟨some 22, .mv false (.t 5), none⟩,
 ⟨some 23, .iaddr 1 (.t 21) (.t 22), none⟩,
 ⟨some 24, .load false 1 (.t 23) .foreign, none⟩,
 ⟨some 25, .bin .neq (.t 20) (.t 24), none⟩]
abbrev quietusref07_SameTexts_r6 : List AI := [
 ⟨some 4, .mv true (.c (.bool false)), none⟩]
abbrev quietusref07_SameTexts_r7 : List AI := [
 ⟨some 15, .mv false (.t 5), none⟩,
 ⟨some 16, .bin .add (.t 15) (.c (.int .i64 1)), none⟩,
 ⟨some 5, .mv true (.t 16), none⟩]
abbrev quietusref07_SameTexts_l0 : ACode := .seq (.seq (.reg false quietusref07_SameTexts_r4) (.cond (.t 14) (.skip) (.exit 0))) (.seq (.block 1 (.seq (.reg true quietusref07_SameTexts_r5) (.cond (.t 25) (.seq (.reg false quietusref07_SameTexts_r6) (.ret)) (.skip)))) (.reg false quietusref07_SameTexts_r7))
abbrev quietusref07_SameTexts_r8 : List AI := [
 ⟨some 4, .mv true (.c (.bool true)), none⟩]
abbrev quietusref07_SameTexts_c : ACode := .seq (.reg false quietusref07_SameTexts_r0) (.seq (.seq (.reg false quietusref07_SameTexts_r1) (.cond (.t 10) (.seq (.reg false quietusref07_SameTexts_r2) (.ret)) (.skip))) (.seq (.seq (.reg false quietusref07_SameTexts_r3) (.block 0 (.loop quietusref07_SameTexts_l0))) (.seq (.reg false quietusref07_SameTexts_r8) (.ret))))
def quietusref07_SameTexts_F : AFunc := ⟨26, [.tmp 4], quietusref07_SameTexts_c⟩
theorem quietusref07_SameTexts_cp : compile Try.prog [] f_quietusref07_SameTexts = some quietusref07_SameTexts_F := by kernel_rfl
-- loop 0: [3, 6, 7, 8]
abbrev chunk_Get_r0 : List AI := [
 ⟨some 2, .box 3 (.t 0), none⟩,
 ⟨some 4, .mv true (.c (.str [])), none⟩,
 ⟨some 5, .mv true (.c (.int .i64 0)), none⟩]
abbrev chunk_Get_r1 : List AI := [
 ⟨some 8, .load true 3 (.t 2) .any, none⟩,
 ⟨some 9, .call (.c (.fn f_chunk_Valid)) [(.t 8)] 0, none⟩,
 ⟨some 10, .not (.t 9), none⟩]
abbrev chunk_Get_r2 : List AI := [
 ⟨some 4, .mv true (.c (.str [])), none⟩,
 ⟨some 5, .mv true (.c (.int .i64 1)), none⟩]
abbrev chunk_Get_r3 : List AI := [
 ⟨some 12, .load true 3 (.t 2) .any, none⟩,
 ⟨some 13, .mv false (.t 1), none⟩,
 ⟨some 14, .call (.c (.fn f_chunk_object)) [(.t 12), (.t 13)] 0, none⟩,
 ⟨some 11, .mv false (.t 14), none⟩,
 ⟨some 15, .ext (.t 11) 0, none⟩,
 ⟨some 16, .ext (.t 11) 1, none⟩,
 ⟨some 6, .mv true (.t 15), none⟩,
 ⟨some 7, .mv true (.t 16), none⟩]
abbrev chunk_Get_r4 : List AI := [
 ⟨some 17, .mv false (.t 7), none⟩,
 ⟨some 18, .not (.t 17), none⟩]
abbrev chunk_Get_r5 : List AI := [
 ⟨some 4, .mv true (.c (.str [])), none⟩,
 ⟨some 5, .mv true (.c (.int .i64 8)), none⟩]
abbrev chunk_Get_r6 : List AI := [
 ⟨some 19, .load true 3 (.t 2) (.site 2), none⟩,
 ⟨some 20, .faddr 2 (.t 2), none⟩,
 ⟨some 21, .load false 1 (.t 20) (.site 2), none⟩,
 ⟨some 22, .mv false (.t 6), none⟩,
 ⟨some 23, .iaddr 3 (.t 21) (.t 22), none⟩,
 ⟨some 24, .load true 3 (.t 23) .foreign, none⟩,
 ⟨some 25, .call (.c (.fn f_chunk_parts)) [(.t 19), (.t 24)] 1, none⟩,
 ⟨some 26, .call (.c (.fn f_strings_Join)) [(.t 25), (.c (.str []))] 1, none⟩,
 ⟨some 4, .mv true (.t 26), none⟩,
 ⟨some 5, .mv true (.c (.int .i64 0)), none⟩]
abbrev chunk_Get_c : ACode := .seq (.reg false chunk_Get_r0) (.seq (.seq (.reg false chunk_Get_r1) (.cond (.t 10) (.seq (.reg false chunk_Get_r2) (.ret)) (.skip))) (.seq (.reg false chunk_Get_r3) (.seq (.seq (.reg false chunk_Get_r4) (.cond (.t 18) (.seq (.reg false chunk_Get_r5) (.ret)) (.skip))) (.seq (.reg true chunk_Get_r6) (.ret)))))
def chunk_Get_F : AFunc := ⟨27, [.tmp 4, .tmp 5], chunk_Get_c⟩
theorem chunk_Get_cp : compile Try.prog [] f_chunk_Get = some chunk_Get_F := by kernel_rfl
abbrev chunk_Put_r0 : List AI := [
 ⟨some 5, .box 3 (.t 0), none⟩,
 ⟨some 6, .box 3 (.t 1), none⟩,
 ⟨some 10, .alloc [(.int .i64 0), .nilS, .nilS], none⟩,
 ⟨some 11, .mv true (.c (.int .i64 0)), none⟩]
abbrev chunk_Put_r1 : List AI := [
 ⟨some 16, .load true 3 (.t 5) .any, none⟩,
 ⟨some 17, .call (.c (.fn f_chunk_Valid)) [(.t 16)] 0, none⟩,
 ⟨some 18, .not (.t 17), none⟩]
abbrev chunk_Put_r2 : List AI := [
 ⟨some 19, .build [(.int .i64 0), .nilS, .nilS] [], none⟩,
 ⟨none, .store 3 (.t 10) (.t 19) .any, none⟩,
 ⟨some 11, .mv true (.c (.int .i64 1)), none⟩]
abbrev chunk_Put_r3 : List AI := [
 ⟨some 21, .load true 3 (.t 6) .any, none⟩,
 ⟨some 22, .mv false (.t 4), none⟩,
 ⟨some 23, .call (.c (.fn f_chunk_Cut)) [(.t 21), (.t 22)] 0, none⟩,
 ⟨some 20, .mv false (.t 23), none⟩,
 ⟨some 24, .ext (.t 20) 0, none⟩,
 ⟨some 25, .ext (.t 20) 1, none⟩,
 ⟨some 12, .mv true (.t 24), none⟩,
 ⟨some 13, .mv true (.t 25), none⟩]
abbrev chunk_Put_r4 : List AI := [
 ⟨some 26, .mv false (.t 13), none⟩,
 ⟨some 27, .bin .neq (.t 26) (.c (.int .i64 0)), none⟩]
abbrev chunk_Put_r5 : List AI := [
 ⟨some 28, .build [(.int .i64 0), .nilS, .nilS] [], none⟩,
 ⟨some 29, .mv false (.t 13), none⟩,
 ⟨none, .store 3 (.t 10) (.t 28) .any, none⟩,
 ⟨some 11, .mv true (.t 29), none⟩]
abbrev chunk_Put_r6 : List AI := [
 ⟨some 30, .mv false (.t 2), none⟩,
 ⟨some 31, .bin .lss (.t 30) (.c (.int .i64 1)), none⟩,
 ⟨some 32, .mv false (.t 31), none⟩,
 ⟨some 33, .mv false (.t 2), some (32, false)⟩,
 ⟨some 34, .bin .gtr (.t 33) (.c (.int .i64 1099511627776)), some (32, false)⟩,
 ⟨some 35, .pick (.t 32) (.c (.bool true)) (.t 34), none⟩,
 ⟨some 36, .mv false (.t 35), none⟩,
 ⟨some 37, .mv false (.t 3), some (36, false)⟩,
 ⟨some 38, .len true (.t 37), some (36, false)⟩,
 ⟨some 39, .bin .gtr (.t 38) (.c (.int .i64 65536)), some (36, false)⟩,
 ⟨some 40, .pick (.t 36) (.c (.bool true)) (.t 39), none⟩]
abbrev chunk_Put_r7 : List AI := [
 ⟨some 41, .build [(.int .i64 0), .nilS, .nilS] [], none⟩,
 ⟨none, .store 3 (.t 10) (.t 41) .any, none⟩,
 ⟨some 11, .mv true (.c (.int .i64 1)), none⟩]
abbrev chunk_Put_r8 : List AI := [
 ⟨some 43, .load true 3 (.t 5) .any, none⟩,
 ⟨some 44, .mv false (.t 2), none⟩,
 ⟨some 45, .call (.c (.fn f_chunk_object)) [(.t 43), (.t 44)] 0, none⟩,
 ⟨some 42, .mv false (.t 45), none⟩,
 ⟨some 46, .ext (.t 42) 0, none⟩,
 ⟨some 47, .ext (.t 42) 1, none⟩,
 ⟨some 14, .mv true (.t 46), none⟩,
 ⟨some 15, .mv true (.t 47), none⟩]
abbrev chunk_Put_r9 : List AI := [
 ⟨some 48, .mv false (.t 15), none⟩]
abbrev chunk_Put_r10 : List AI := [
 ⟨some 49, .build [(.int .i64 0), .nilS, .nilS] [], none⟩,
 ⟨none, .store 3 (.t 10) (.t 49) .any, none⟩,
 ⟨some 11, .mv true (.c (.int .i64 9)), none⟩]
abbrev chunk_Put_r11 : List AI := [
 ⟨some 50, .load true 3 (.t 5) .any, none⟩,
 ⟨some 51, .call (.c (.fn f_chunk_clone)) [(.t 50)] 0, none⟩,
 ⟨some 52, .mv false (.t 2), none⟩,
 ⟨some 53, .mv false (.t 3), none⟩,
 ⟨some 54, .mv false (.t 12), none⟩,
 ⟨some 55, .call (.c (.fn f_chunk_add)) [(.t 51), (.t 52), (.t 53), (.t 54)] 0, none⟩,
 ⟨some 56, .ext (.t 55) 0, none⟩,
 ⟨some 57, .ext (.t 55) 1, none⟩,
 ⟨none, .store 3 (.t 10) (.t 56) .any, none⟩,
 ⟨some 11, .mv true (.t 57), none⟩]
abbrev chunk_Put_c : ACode := .seq (.reg false chunk_Put_r0) (.seq (.seq (.reg false chunk_Put_r1) (.cond (.t 18) (.seq (.reg false chunk_Put_r2) (.ret)) (.skip))) (.seq (.reg false chunk_Put_r3) (.seq (.seq (.reg false chunk_Put_r4) (.cond (.t 27) (.seq (.reg false chunk_Put_r5) (.ret)) (.skip))) (.seq (.seq (.reg false chunk_Put_r6) (.cond (.t 40) (.seq (.reg false chunk_Put_r7) (.ret)) (.skip))) (.seq (.seq (.reg false chunk_Put_r8) (.seq (.reg false chunk_Put_r9) (.cond (.t 48) (.seq (.reg false chunk_Put_r10) (.ret)) (.skip)))) (.seq (.reg false chunk_Put_r11) (.ret)))))))
def chunk_Put_F : AFunc := ⟨58, [.cell 10 true 3, .tmp 11], chunk_Put_c⟩
theorem chunk_Put_cp : compile Try.prog [] f_chunk_Put = some chunk_Put_F := by kernel_rfl
abbrev chunk_Drop_r0 : List AI := [
 ⟨some 2, .box 3 (.t 0), none⟩,
 ⟨some 4, .alloc [(.int .i64 0), .nilS, .nilS], none⟩,
 ⟨some 5, .mv true (.c .nilS), none⟩,
 ⟨some 6, .mv true (.c (.int .i64 0)), none⟩]
abbrev chunk_Drop_r1 : List AI := [
 ⟨some 11, .load true 3 (.t 2) .any, none⟩,
 ⟨some 12, .call (.c (.fn f_chunk_Valid)) [(.t 11)] 0, none⟩,
 ⟨some 13, .not (.t 12), none⟩]
abbrev chunk_Drop_r2 : List AI := [
 ⟨some 14, .build [(.int .i64 0), .nilS, .nilS] [], none⟩,
 ⟨none, .store 3 (.t 4) (.t 14) .any, none⟩,
 ⟨some 5, .mv true (.c .nilS), none⟩,
 ⟨some 6, .mv true (.c (.int .i64 1)), none⟩]
abbrev chunk_Drop_r3 : List AI := [
 ⟨some 16, .load true 3 (.t 2) .any, none⟩,
 ⟨some 17, .mv false (.t 1), none⟩,
 ⟨some 18, .call (.c (.fn f_chunk_object)) [(.t 16), (.t 17)] 0, none⟩,
 ⟨some 15, .mv false (.t 18), none⟩,
 ⟨some 19, .ext (.t 15) 0, none⟩,
 ⟨some 20, .ext (.t 15) 1, none⟩,
 ⟨some 7, .mv true (.t 19), none⟩,
 ⟨some 8, .mv true (.t 20), none⟩]
abbrev chunk_Drop_r4 : List AI := [
 ⟨some 21, .mv false (.t 8), none⟩,
 ⟨some 22, .not (.t 21), none⟩]
abbrev chunk_Drop_r5 : List AI := [
 ⟨some 23, .build [(.int .i64 0), .nilS, .nilS] [], none⟩,
 ⟨none, .store 3 (.t 4) (.t 23) .any, none⟩,
 ⟨some 5, .mv true (.c .nilS), none⟩,
 ⟨some 6, .mv true (.c (.int .i64 8)), none⟩]
abbrev chunk_Drop_r6 : List AI := [
 ⟨some 25, .load true 3 (.t 2) .any, none⟩,
 ⟨some 26, .mv false (.t 7), none⟩,
 ⟨some 27, .call (.c (.fn f_chunk_remove)) [(.t 25), (.t 26)] 0, none⟩,
 ⟨some 24, .mv false (.t 27), none⟩,
 ⟨some 28, .ext (.t 24) 0, none⟩,
 ⟨some 29, .ext (.t 24) 1, none⟩,
 ⟨some 9, .alloc [(.int .i64 0), .nilS, .nilS], none⟩,
 ⟨none, .store 3 (.t 9) (.t 28) .any, none⟩,
 ⟨some 10, .mv true (.t 29), none⟩]
abbrev chunk_Drop_r7 : List AI := [
 ⟨some 30, .load true 3 (.t 9) .any, none⟩,
 ⟨some 31, .mv false (.t 10), none⟩,
 ⟨none, .store 3 (.t 4) (.t 30) .any, none⟩,
 ⟨some 5, .mv true (.t 31), none⟩,
 ⟨some 6, .mv true (.c (.int .i64 0)), none⟩]
abbrev chunk_Drop_c : ACode := .seq (.reg false chunk_Drop_r0) (.seq (.seq (.reg false chunk_Drop_r1) (.cond (.t 13) (.seq (.reg false chunk_Drop_r2) (.ret)) (.skip))) (.seq (.reg false chunk_Drop_r3) (.seq (.seq (.reg false chunk_Drop_r4) (.cond (.t 22) (.seq (.reg false chunk_Drop_r5) (.ret)) (.skip))) (.seq (.reg false chunk_Drop_r6) (.seq (.reg false chunk_Drop_r7) (.ret))))))
def chunk_Drop_F : AFunc := ⟨32, [.cell 4 true 3, .tmp 5, .tmp 6], chunk_Drop_c⟩
theorem chunk_Drop_cp : compile Try.prog [] f_chunk_Drop = some chunk_Drop_F := by kernel_rfl
abbrev chunk_Move_r0 : List AI := [
 ⟨some 3, .box 3 (.t 0), none⟩,
 ⟨some 6, .alloc [(.int .i64 0), .nilS, .nilS], none⟩,
 ⟨some 7, .mv true (.c .nilS), none⟩,
 ⟨some 8, .mv true (.c (.int .i64 0)), none⟩]
abbrev chunk_Move_r1 : List AI := [
 ⟨some 15, .load true 3 (.t 3) .any, none⟩,
 ⟨some 16, .call (.c (.fn f_chunk_Valid)) [(.t 15)] 0, none⟩,
 ⟨some 17, .not (.t 16), none⟩]
abbrev chunk_Move_r2 : List AI := [
 ⟨some 18, .build [(.int .i64 0), .nilS, .nilS] [], none⟩,
 ⟨none, .store 3 (.t 6) (.t 18) .any, none⟩,
 ⟨some 7, .mv true (.c .nilS), none⟩,
 ⟨some 8, .mv true (.c (.int .i64 1)), none⟩]
abbrev chunk_Move_r3 : List AI := [
 ⟨some 20, .load true 3 (.t 3) .any, none⟩,
 ⟨some 21, .mv false (.t 1), none⟩,
 ⟨some 22, .call (.c (.fn f_chunk_object)) [(.t 20), (.t 21)] 0, none⟩,
 ⟨some 19, .mv false (.t 22), none⟩,
 ⟨some 23, .ext (.t 19) 0, none⟩,
 ⟨some 24, .ext (.t 19) 1, none⟩,
 ⟨some 9, .mv true (.t 23), none⟩,
 ⟨some 10, .mv true (.t 24), none⟩]
abbrev chunk_Move_r4 : List AI := [
 ⟨some 26, .mv false (.t 10), none⟩,
 ⟨some 27, .not (.t 26), none⟩,
 ⟨some 25, .mv true (.t 27), none⟩]
abbrev chunk_Move_r5 : List AI := [
 ⟨some 28, .build [(.int .i64 0), .nilS, .nilS] [], none⟩,
 ⟨none, .store 3 (.t 6) (.t 28) .any, none⟩,
 ⟨some 7, .mv true (.c .nilS), none⟩,
 ⟨some 8, .mv true (.c (.int .i64 8)), none⟩]
abbrev chunk_Move_r6 : List AI := [
 ⟨some 30, .mv false (.t 2), none⟩,
 ⟨some 31, .len true (.t 30), none⟩,
 ⟨some 32, .bin .gtr (.t 31) (.c (.int .i64 65536)), none⟩,
 ⟨some 29, .mv true (.t 32), none⟩]
abbrev chunk_Move_r7 : List AI := [
 ⟨some 33, .build [(.int .i64 0), .nilS, .nilS] [], none⟩,
 ⟨none, .store 3 (.t 6) (.t 33) .any, none⟩,
 ⟨some 7, .mv true (.c .nilS), none⟩,
 ⟨some 8, .mv true (.c (.int .i64 1)), none⟩]
abbrev chunk_Move_r8 : List AI := [
 ⟨some 35, .faddr 2 (.t 3), none⟩,
 ⟨some 36, .load false 1 (.t 35) .any, none⟩,
 ⟨some 37, .mv false (.t 9), none⟩,
 ⟨some 38, .iaddr 3 (.t 36) (.t 37), none⟩,
 ⟨some 39, .faddr 1 (.t 38), none⟩,
 ⟨some 40, .load false 1 (.t 39) .any, none⟩,
 ⟨some 41, .mv false (.t 2), none⟩,
 ⟨some 42, .bin .eql (.t 40) (.t 41), none⟩,
 ⟨some 34, .mv true (.t 42), none⟩]
abbrev chunk_Move_r9 : List AI := [
 ⟨some 43, .load true 3 (.t 3) .any, none⟩,
 ⟨some 44, .call (.c (.fn f_chunk_clone)) [(.t 43)] 0, none⟩,
 ⟨none, .store 3 (.t 6) (.t 44) .any, none⟩,
 ⟨some 7, .mv true (.c .nilS), none⟩,
 ⟨some 8, .mv true (.c (.int .i64 0)), none⟩]
abbrev chunk_Move_b0 : ACode := .seq (.reg false chunk_Move_r8) (.cond (.t 34) (.seq (.reg false chunk_Move_r9) (.ret)) (.skip))
abbrev chunk_Move_b1 : ACode := .seq (.reg false chunk_Move_r6) (.cond (.t 29) (.seq (.reg false chunk_Move_r7) (.ret)) (chunk_Move_b0))
abbrev chunk_Move_r10 : List AI := [
 ⟨some 46, .load true 3 (.t 3) .any, none⟩,
 ⟨some 47, .mv false (.t 9), none⟩,
 ⟨some 48, .call (.c (.fn f_chunk_remove)) [(.t 46), (.t 47)] 0, none⟩,
 ⟨some 45, .mv false (.t 48), none⟩,
 ⟨some 49, .ext (.t 45) 0, none⟩,
 ⟨some 50, .ext (.t 45) 1, none⟩,
 ⟨some 11, .alloc [(.int .i64 0), .nilS, .nilS], none⟩,
 ⟨none, .store 3 (.t 11) (.t 49) .any, none⟩,
 ⟨some 12, .mv true (.t 50), none⟩]
abbrev chunk_Move_r11 : List AI := [
 ⟨some 52, .load true 3 (.t 11) (.site 11), none⟩,
 ⟨some 53, .mv false (.t 1), none⟩,
 ⟨some 54, .mv false (.t 2), none⟩,
 ⟨some 55, .load true 3 (.t 3) (.site 3), none⟩,
 ⟨some 56, .faddr 2 (.t 3), none⟩,
 ⟨some 57, .load false 1 (.t 56) (.site 3), none⟩,
 ⟨some 58, .mv false (.t 9), none⟩,
 ⟨some 59, .iaddr 3 (.t 57) (.t 58), none⟩,
 ⟨some 60, .load true 3 (.t 59) .foreign, none⟩,
 ⟨some 13, .alloc [(.int .i64 0), .nilS, .nilS], none⟩,
 ⟨some 61, .call (.c (.fn f_chunk_parts)) [(.t 55), (.t 60)] 1, none⟩,
 ⟨some 62, .call (.c (.fn f_chunk_add)) [(.t 52), (.t 53), (.t 54), (.t 61)] 2, none⟩,
 ⟨some 51, .mv false (.t 62), none⟩,
 ⟨some 63, .ext (.t 51) 0, none⟩,
 ⟨some 64, .ext (.t 51) 1, none⟩,
 ⟨none, .store 3 (.t 13) (.t 63) (.site 13), none⟩,
 ⟨some 14, .mv true (.t 64), none⟩]
abbrev chunk_Move_r12 : List AI := [
 ⟨some 65, .mv false (.t 14), none⟩,
 ⟨some 66, .bin .neq (.t 65) (.c (.int .i64 0)), none⟩]
abbrev chunk_Move_r13 : List AI := [
 ⟨some 67, .build [(.int .i64 0), .nilS, .nilS] [], none⟩,
 ⟨some 68, .mv false (.t 14), none⟩,
 ⟨none, .store 3 (.t 6) (.t 67) .any, none⟩,
 ⟨some 7, .mv true (.c .nilS), none⟩,
 ⟨some 8, .mv true (.t 68), none⟩]
abbrev chunk_Move_r14 : List AI := [
 ⟨some 69, .load true 3 (.t 13) .any, none⟩,
 ⟨some 70, .mv false (.t 12), none⟩,
 ⟨none, .store 3 (.t 6) (.t 69) .any, none⟩,
 ⟨some 7, .mv true (.t 70), none⟩,
 ⟨some 8, .mv true (.c (.int .i64 0)), none⟩]
abbrev chunk_Move_c : ACode := .seq (.reg false chunk_Move_r0) (.seq (.seq (.reg false chunk_Move_r1) (.cond (.t 17) (.seq (.reg false chunk_Move_r2) (.ret)) (.skip))) (.seq (.reg false chunk_Move_r3) (.seq (.block 0 (.seq (.reg false chunk_Move_r4) (.cond (.t 25) (.seq (.reg false chunk_Move_r5) (.ret)) (chunk_Move_b1)))) (.seq (.reg false chunk_Move_r10) (.seq (.reg true chunk_Move_r11) (.seq (.seq (.reg false chunk_Move_r12) (.cond (.t 66) (.seq (.reg false chunk_Move_r13) (.ret)) (.skip))) (.seq (.reg false chunk_Move_r14) (.ret))))))))
def chunk_Move_F : AFunc := ⟨71, [.cell 6 true 3, .tmp 7, .tmp 8], chunk_Move_c⟩
theorem chunk_Move_cp : compile Try.prog [62] f_chunk_Move = some chunk_Move_F := by kernel_rfl
-- loop 0: [2, 4, 6, 7, 8]
-- loop 0: [1, 2, 3, 6, 8, 9, 10]
-- loop 0: [2, 3, 5]
-- loop 1: [2, 3, 6]
abbrev quietusref37_Same_r0 : List AI := [
 ⟨some 2, .box 3 (.t 0), none⟩,
 ⟨some 3, .box 3 (.t 1), none⟩,
 ⟨some 4, .mv true (.c (.bool false)), none⟩]
abbrev quietusref37_Same_r1 : List AI := [
 ⟨some 8, .faddr 0 (.t 2), none⟩,
 ⟨some 9, .load false 1 (.t 8) .any, none⟩,
 ⟨some 10, .faddr 0 (.t 3), none⟩,
 ⟨some 11, .load false 1 (.t 10) .any, none⟩,
 ⟨some 12, .bin .neq (.t 9) (.t 11), none⟩,
 ⟨some 13, .mv false (.t 12), none⟩,
 ⟨some 14, .faddr 1 (.t 2), some (13, false)⟩,
 ⟨some 15, .load false 1 (.t 14) .any, some (13, false)⟩,
 ⟨some 16, .len false (.t 15), some (13, false)⟩,
 ⟨some 17, .faddr 1 (.t 3), some (13, false)⟩,
 ⟨some 18, .load false 1 (.t 17) .any, some (13, false)⟩,
 ⟨some 19, .len false (.t 18), some (13, false)⟩,
 ⟨some 20, .bin .neq (.t 16) (.t 19), some (13, false)⟩,
 ⟨some 21, .pick (.t 13) (.c (.bool true)) (.t 20), none⟩,
 ⟨some 22, .mv false (.t 21), none⟩,
 ⟨some 23, .faddr 2 (.t 2), some (22, false)⟩,
 ⟨some 24, .load false 1 (.t 23) .any, some (22, false)⟩,
 ⟨some 25, .len false (.t 24), some (22, false)⟩,
 ⟨some 26, .faddr 2 (.t 3), some (22, false)⟩,
 ⟨some 27, .load false 1 (.t 26) .any, some (22, false)⟩,
 ⟨some 28, .len false (.t 27), some (22, false)⟩,
 ⟨some 29, .bin .neq (.t 25) (.t 28), some (22, false)⟩,
 ⟨some 30, .pick (.t 22) (.c (.bool true)) (.t 29), none⟩]
abbrev quietusref37_Same_r2 : List AI := [
 ⟨some 4, .mv true (.c (.bool false)), none⟩]
abbrev quietusref37_Same_r3 : List AI := [
 ⟨some 5, .mv true (.c (.int .i64 0)), none⟩]
abbrev quietusref37_Same_r4 : List AI := [
 ⟨some 31, .mv false (.t 5), none⟩,
 ⟨some 32, .faddr 1 (.t 2), none⟩,
 ⟨some 33, .load false 1 (.t 32) .any, none⟩,
 ⟨some 34, .len false (.t 33), none⟩,
 ⟨some 35, .bin .lss (.t 31) (.t 34), none⟩]
abbrev quietusref37_Same_r5 : List AI := [
 ⟨some 38, .faddr 1 (.t 2), none⟩,
 ⟨some 39, .load false 1 (.t 38) (.site 2), none⟩,
 ⟨some 40, .mv false (.t 5), none⟩,
 ⟨some 41, .iaddr 4 (.t 39) (.t 40), none⟩,
 ⟨some 42, .load true 4 (.t 41) .foreign, none⟩,
 ⟨some 43, .faddr 1 (.t 3), none⟩,
 ⟨some 44, .load false 1 (.t 43) (.site 3), none⟩,
 ⟨some 45, .mv false (.t 5), none⟩,
 ⟨some 46, .iaddr 4 (.t 44) (.t 45), none⟩,
 ⟨some 47, .load true 4 (.t 46) .foreign, none⟩,
 ⟨some 48, .eqs true [.i, .s, .s, .i] (.t 42) (.t 47), none⟩]
abbrev quietusref37_Same_r6 : List AI := [
 ⟨some 4, .mv true (.c (.bool false)), none⟩]
abbrev quietusref37_Same_r7 : List AI := [
 ⟨some 36, .mv false (.t 5), none⟩,
 ⟨some 37, .bin .add (.t 36) (.c (.int .i64 1)), none⟩,
 ⟨some 5, .mv true (.t 37), none⟩]
abbrev quietusref37_Same_l0 : ACode := .seq (.seq (.reg false quietusref37_Same_r4) (.cond (.t 35) (.skip) (.exit 0))) (.seq (.block 1 (.seq (.reg true quietusref37_Same_r5) (.cond (.t 48) (.seq (.reg false quietusref37_Same_r6) (.ret)) (.skip)))) (.reg false quietusref37_Same_r7))
abbrev quietusref37_Same_r8 : List AI := [
 ⟨some 6, .mv true (.c (.int .i64 0)), none⟩]
abbrev quietusref37_Same_r9 : List AI := [
 ⟨some 49, .mv false (.t 6), none⟩,
 ⟨some 50, .faddr 2 (.t 2), none⟩,
 ⟨some 51, .load false 1 (.t 50) .any, none⟩,
 ⟨some 52, .len false (.t 51), none⟩,
 ⟨some 53, .bin .lss (.t 49) (.t 52), none⟩]
abbrev quietusref37_Same_r10 : List AI := [
 ⟨some 56, .faddr 2 (.t 2), none⟩,
 ⟨some 57, .load false 1 (.t 56) (.site 2), none⟩,
 ⟨some 58, .mv false (.t 6), none⟩,
 ⟨some 59, .iaddr 3 (.t 57) (.t 58), none⟩,
 ⟨some 60, .faddr 2 (.t 59), none⟩,
 ⟨some 61, .load false 1 (.t 60) .foreign, none⟩,
 ⟨some 62, .faddr 2 (.t 3), none⟩,
 ⟨some 63, .load false 1 (.t 62) (.site 3), none⟩,
 ⟨some 64, .mv false (.t 6), none⟩,
 ⟨some 65, .iaddr 3 (.t 63) (.t 64), none⟩,
 ⟨some 66, .faddr 2 (.t 65), none⟩,
 ⟨some 67, .load false 1 (.t 66) .foreign, none⟩,
 ⟨some 68, .call (.c (.fn f_quietusref37_SameList)) [(.t 61), (.t 67)] 1, none⟩,
 ⟨some 7, .mv true (.t 68), none⟩]
abbrev quietusref37_Same_r11 : List AI := [
 ⟨some 69, .mv false (.t 7), none⟩,
 ⟨some 70, .not (.t 69), none⟩,
 ⟨some 71, .mv false (.t 70), none⟩,
 ⟨some 72, .faddr 2 (.t 2), some (71, false)⟩,
 ⟨some 73, .load false 1 (.t 72) (.site 2), some (71, false)⟩,
 ⟨some 74, .mv false (.t 6), some (71, false)⟩,
 ⟨some 75, .iaddr 3 (.t 73) (.t 74), some (71, false)⟩,
 ⟨some 76, .faddr 0 (.t 75), some (71, false)⟩,
 ⟨some 77, .load false 1 (.t 76) .foreign, some (71, false)⟩,
 ⟨some 78, .faddr 2 (.t 3), some (71, false)⟩,
 ⟨some 79, .load false 1 (.t 78) (.site 3), some (71, false)⟩,
 ⟨some 80, .mv false (.t 6), some (71, false)⟩,
 ⟨some 81, .iaddr 3 (.t 79) (.t 80), some (71, false)⟩,
 ⟨some 82, .faddr 0 (.t 81), some (71, false)⟩,
 ⟨some 83, .load false 1 (.t 82) .foreign, some (71, false)⟩,
 ⟨some 84, .bin .neq (.t 77) (.t 83), some (71, false)⟩,
 ⟨some 85, .pick (.t 71) (.c (.bool true)) (.t 84), none⟩,
 ⟨some 86, .mv false (.t 85), none⟩,
 ⟨some 87, .faddr 2 (.t 2), some (86, false)⟩,
 ⟨some 88, .load false 1 (.t 87) (.site 2), some (86, false)⟩,
 ⟨some 89, .mv false (.t 6), some (86, false)⟩,
 ⟨some 90, .iaddr 3 (.t 88) (.t 89), some (86, false)⟩,
 ⟨some 91, .faddr 1 (.t 90), some (86, false)⟩,
 ⟨some 92, .load false 1 (.t 91) .foreign, some (86, false)⟩,
 ⟨some 93, .faddr 2 (.t 3), some (86, false)⟩,
 ⟨some 94, .load false 1 (.t 93) (.site 3), some (86, false)⟩,
 ⟨some 95, .mv false (.t 6), some (86, false)⟩,
 ⟨some 96, .iaddr 3 (.t 94) (.t 95), some (86, false)⟩,
 ⟨some 97, .faddr 1 (.t 96), some (86, false)⟩,
 ⟨some 98, .load false 1 (.t 97) .foreign, some (86, false)⟩,
 ⟨some 99, .bin .neq (.t 92) (.t 98), some (86, false)⟩,
 ⟨some 100, .pick (.t 86) (.c (.bool true)) (.t 99), none⟩]
abbrev quietusref37_Same_r12 : List AI := [
 ⟨some 4, .mv true (.c (.bool false)), none⟩]
abbrev quietusref37_Same_r13 : List AI := [
 ⟨some 54, .mv false (.t 6), none⟩,
 ⟨some 55, .bin .add (.t 54) (.c (.int .i64 1)), none⟩,
 ⟨some 6, .mv true (.t 55), none⟩]
abbrev quietusref37_Same_l1 : ACode := .seq (.seq (.reg false quietusref37_Same_r9) (.cond (.t 53) (.skip) (.exit 2))) (.seq (.block 3 (.seq (.reg true quietusref37_Same_r10) (.seq (.reg true quietusref37_Same_r11) (.cond (.t 100) (.seq (.reg false quietusref37_Same_r12) (.ret)) (.skip))))) (.reg false quietusref37_Same_r13))
abbrev quietusref37_Same_r14 : List AI := [
 ⟨some 4, .mv true (.c (.bool true)), none⟩]
abbrev quietusref37_Same_c : ACode := .seq (.reg false quietusref37_Same_r0) (.seq (.seq (.reg false quietusref37_Same_r1) (.cond (.t 30) (.seq (.reg false quietusref37_Same_r2) (.ret)) (.skip))) (.seq (.seq (.reg false quietusref37_Same_r3) (.block 0 (.loop quietusref37_Same_l0))) (.seq (.seq (.reg false quietusref37_Same_r8) (.block 2 (.loop quietusref37_Same_l1))) (.seq (.reg false quietusref37_Same_r14) (.ret)))))
def quietusref37_Same_F : AFunc := ⟨101, [.tmp 4], quietusref37_Same_c⟩
theorem quietusref37_Same_cp : compile Try.prog [] f_quietusref37_Same = some quietusref37_Same_F := by kernel_rfl
-- loop 0: [0, 1, 5]
abbrev quietusref37_SameList_r0 : List AI := [
 ⟨some 4, .mv true (.c (.bool false)), none⟩]
abbrev quietusref37_SameList_r1 : List AI := [
 ⟨some 6, .mv false (.t 0), none⟩,
 ⟨some 7, .len false (.t 6), none⟩,
 ⟨some 8, .mv false (.t 1), none⟩,
 ⟨some 9, .len false (.t 8), none⟩,
 ⟨some 10, .bin .neq (.t 7) (.t 9), none⟩]
abbrev quietusref37_SameList_r2 : List AI := [
 ⟨some 4, .mv true (.c (.bool false)), none⟩]
abbrev quietusref37_SameList_r3 : List AI := [
 ⟨some 5, .mv true (.c (.int .i64 0)), none⟩]
abbrev quietusref37_SameList_r4 : List AI := [
 ⟨some 11, .mv false (.t 5), none⟩,
 ⟨some 12, .mv false (.t 0), none⟩,
 ⟨some 13, .len false (.t 12), none⟩,
 ⟨some 14, .bin .lss (.t 11) (.t 13), none⟩]
abbrev quietusref37_SameList_r5 : List AI := [
 ⟨some 17, .mv false (.t 0), none⟩,
 ⟨some 18, .mv false (.t 5), none⟩,
 ⟨some 19, .iaddr 1 (.t 17) (.t 18), none⟩,
 ⟨some 20, .load false 1 (.t 19) .foreign, none⟩,
 ⟨some 21, .mv false (.t 1), none⟩,
 ⟨some 22, .mv false (.t 5), none⟩,
 ⟨some 23, .iaddr 1 (.t 21) (.t 22), none⟩,
 ⟨some 24, .load false 1 (.t 23) .foreign, none⟩,
 ⟨some 25, .bin .neq (.t 20) (.t 24), none⟩]
abbrev quietusref37_SameList_r6 : List AI := [
 ⟨some 4, .mv true (.c (.bool false)), none⟩]
abbrev quietusref37_SameList_r7 : List AI := [
 ⟨some 15, .mv false (.t 5), none⟩,
 ⟨some 16, .bin .add (.t 15) (.c (.int .i64 1)), none⟩,
 ⟨some 5, .mv true (.t 16), none⟩]
abbrev quietusref37_SameList_l0 : ACode := .seq (.seq (.reg false quietusref37_SameList_r4) (.cond (.t 14) (.skip) (.exit 0))) (.seq (.block 1 (.seq (.reg true quietusref37_SameList_r5) (.cond (.t 25) (.seq (.reg false quietusref37_SameList_r6) (.ret)) (.skip)))) (.reg false quietusref37_SameList_r7))
abbrev quietusref37_SameList_r8 : List AI := [
 ⟨some 4, .mv true (.c (.bool true)), none⟩]
abbrev quietusref37_SameList_c : ACode := .seq (.reg false quietusref37_SameList_r0) (.seq (.seq (.reg false quietusref37_SameList_r1) (.cond (.t 10) (.seq (.reg false quietusref37_SameList_r2) (.ret)) (.skip))) (.seq (.seq (.reg false quietusref37_SameList_r3) (.block 0 (.loop quietusref37_SameList_l0))) (.seq (.reg false quietusref37_SameList_r8) (.ret))))
def quietusref37_SameList_F : AFunc := ⟨26, [.tmp 4], quietusref37_SameList_c⟩
theorem quietusref37_SameList_cp : compile Try.prog [] f_quietusref37_SameList = some quietusref37_SameList_F := by kernel_rfl
-- loop 0: [1, 3, 4, 41, 42, 43]
-- loop 1: [1, 4, 8, 10, 11, 119, 120, 121, 157, 158, 159]
-- loop 2: [1, 4, 8, 119, 120, 121]
-- loop 3: [8, 202, 203, 204]
abbrev chunk_Valid_r0 : List AI := [
 ⟨some 1, .box 3 (.t 0), none⟩,
 ⟨some 2, .mv true (.c (.bool false)), none⟩]
abbrev chunk_Valid_r1 : List AI := [
 ⟨some 18, .faddr 0 (.t 1), none⟩,
 ⟨some 19, .load false 1 (.t 18) .any, none⟩,
 ⟨some 20, .bin .lss (.t 19) (.c (.int .i64 1)), none⟩,
 ⟨some 21, .mv false (.t 20), none⟩,
 ⟨some 22, .faddr 0 (.t 1), some (21, false)⟩,
 ⟨some 23, .load false 1 (.t 22) .any, some (21, false)⟩,
 ⟨some 24, .bin .gtr (.t 23) (.c (.int .i64 1099511627776)), some (21, false)⟩,
 ⟨some 25, .pick (.t 21) (.c (.bool true)) (.t 24), none⟩,
 ⟨some 26, .mv false (.t 25), none⟩,
 ⟨some 27, .faddr 1 (.t 1), some (26, false)⟩,
 ⟨some 28, .load false 1 (.t 27) .any, some (26, false)⟩,
 ⟨some 29, .len false (.t 28), some (26, false)⟩,
 ⟨some 30, .bin .gtr (.t 29) (.c (.int .i64 1000)), some (26, false)⟩,
 ⟨some 31, .pick (.t 26) (.c (.bool true)) (.t 30), none⟩,
 ⟨some 32, .mv false (.t 31), none⟩,
 ⟨some 33, .faddr 2 (.t 1), some (32, false)⟩,
 ⟨some 34, .load false 1 (.t 33) .any, some (32, false)⟩,
 ⟨some 35, .len false (.t 34), some (32, false)⟩,
 ⟨some 36, .bin .gtr (.t 35) (.c (.int .i64 1000)), some (32, false)⟩,
 ⟨some 37, .pick (.t 32) (.c (.bool true)) (.t 36), none⟩]
abbrev chunk_Valid_r2 : List AI := [
 ⟨some 2, .mv true (.c (.bool false)), none⟩]
abbrev chunk_Valid_r3 : List AI := [
 ⟨some 38, .gn .mkM [], none⟩,
 ⟨some 39, .gn .mkM [], none⟩,
 ⟨some 3, .mv true (.t 38), none⟩,
 ⟨some 4, .mv true (.t 39), none⟩]
abbrev chunk_Valid_r4 : List AI := [
 ⟨some 40, .faddr 1 (.t 1), none⟩,
 ⟨some 41, .load false 1 (.t 40) .any, none⟩,
 ⟨some 42, .len false (.t 41), none⟩,
 ⟨some 43, .mv false (.c (.int .i64 0)), none⟩]
abbrev chunk_Valid_r5 : List AI := [
 ⟨some 44, .bin .lss (.t 43) (.t 42), none⟩]
abbrev chunk_Valid_r6 : List AI := [
 ⟨some 45, .mv false (.t 43), none⟩,
 ⟨some 46, .iaddr 4 (.t 41) (.t 43), none⟩,
 ⟨some 47, .load true 4 (.t 46) .any, none⟩,
 ⟨some 6, .alloc [(.int .i64 0), (.str []), (.str []), (.int .i64 0)], none⟩,
 ⟨some 5, .mv true (.t 45), none⟩,
 ⟨none, .store 4 (.t 6) (.t 47) .any, none⟩]
abbrev chunk_Valid_r7 : List AI := [
 ⟨some 48, .faddr 1 (.t 6), none⟩,
 ⟨some 49, .load false 1 (.t 48) .any, none⟩,
 ⟨some 50, .faddr 2 (.t 6), none⟩,
 ⟨some 51, .load false 1 (.t 50) .any, none⟩,
 ⟨some 52, .build [(.str []), (.str [])] [(0, 1, (.t 49)), (1, 1, (.t 51))], none⟩,
 ⟨some 7, .alloc [(.str []), (.str [])], none⟩,
 ⟨none, .store 2 (.t 7) (.t 52) .any, none⟩]
abbrev chunk_Valid_r8 : List AI := [
 ⟨some 53, .faddr 0 (.t 6), none⟩,
 ⟨some 54, .load false 1 (.t 53) (.site 6), none⟩,
 ⟨some 55, .bin .lss (.t 54) (.c (.int .i64 1)), none⟩,
 ⟨some 56, .mv false (.t 55), none⟩,
 ⟨some 57, .faddr 0 (.t 6), some (56, false)⟩,
 ⟨some 58, .load false 1 (.t 57) (.site 6), some (56, false)⟩,
 ⟨some 59, .faddr 0 (.t 1), some (56, false)⟩,
 ⟨some 60, .load false 1 (.t 59) (.site 1), some (56, false)⟩,
 ⟨some 61, .bin .geq (.t 58) (.t 60), some (56, false)⟩,
 ⟨some 62, .pick (.t 56) (.c (.bool true)) (.t 61), none⟩,
 ⟨some 63, .mv false (.t 62), none⟩,
 ⟨some 64, .mv false (.t 5), some (63, false)⟩,
 ⟨some 65, .bin .gtr (.t 64) (.c (.int .i64 0)), some (63, false)⟩,
 ⟨some 66, .mv false (.t 65), some (63, false)⟩,
 ⟨some 67, .faddr 1 (.t 1), some (66, true)⟩,
 ⟨some 68, .load false 1 (.t 67) (.site 1), some (66, true)⟩,
 ⟨some 69, .mv false (.t 5), some (66, true)⟩,
 ⟨some 70, .bin .sub (.t 69) (.c (.int .i64 1)), some (66, true)⟩,
 ⟨some 71, .iaddr 4 (.t 68) (.t 70), some (66, true)⟩,
 ⟨some 72, .faddr 0 (.t 71), some (66, true)⟩,
 ⟨some 73, .load false 1 (.t 72) .foreign, some (66, true)⟩,
 ⟨some 74, .faddr 0 (.t 6), some (66, true)⟩,
 ⟨some 75, .load false 1 (.t 74) (.site 6), some (66, true)⟩,
 ⟨some 76, .bin .geq (.t 73) (.t 75), some (66, true)⟩,
 ⟨some 77, .pick (.t 66) (.t 76) (.c (.bool false)), some (63, false)⟩,
 ⟨some 78, .pick (.t 63) (.c (.bool true)) (.t 77), none⟩,
 ⟨some 79, .mv false (.t 78), none⟩,
 ⟨some 80, .faddr 2 (.t 6), some (79, false)⟩,
 ⟨some 81, .load false 1 (.t 80) (.site 6), some (79, false)⟩,
 ⟨some 82, .len true (.t 81), some (79, false)⟩,
 ⟨some 83, .bin .lss (.t 82) (.c (.int .i64 1)), some (79, false)⟩,
 ⟨some 84, .pick (.t 79) (.c (.bool true)) (.t 83), none⟩,
 ⟨some 85, .mv false (.t 84), none⟩,
 ⟨some 86, .faddr 2 (.t 6), some (85, false)⟩,
 ⟨some 87, .load false 1 (.t 86) (.site 6), some (85, false)⟩,
 ⟨some 88, .len true (.t 87), some (85, false)⟩,
 ⟨some 89, .bin .gtr (.t 88) (.c (.int .i64 4096)), some (85, false)⟩,
 ⟨some 90, .pick (.t 85) (.c (.bool true)) (.t 89), none⟩,
 ⟨some 91, .mv false (.t 90), none⟩,
 ⟨some 92, .faddr 1 (.t 6), some (91, false)⟩,
 ⟨some 93, .load false 1 (.t 92) (.site 6), some (91, false)⟩,
 ⟨some 94, .len true (.t 93), some (91, false)⟩,
 ⟨some 95, .bin .gtr (.t 94) (.c (.int .i64 65536)), some (91, false)⟩,
 ⟨some 96, .pick (.t 91) (.c (.bool true)) (.t 95), none⟩,
 ⟨some 97, .mv false (.t 96), none⟩,
 ⟨some 98, .mv false (.t 3), some (97, false)⟩,
 ⟨some 99, .load true 2 (.t 7) (.site 7), some (97, false)⟩,
 ⟨some 100, .gd (.mlook [.s, .s] (.bool false) false) [(.t 98), (.t 99)], some (97, false)⟩,
 ⟨some 101, .pick (.t 97) (.c (.bool true)) (.t 100), none⟩,
 ⟨some 102, .mv false (.t 101), none⟩,
 ⟨some 103, .faddr 3 (.t 6), some (102, false)⟩,
 ⟨some 104, .load false 1 (.t 103) (.site 6), some (102, false)⟩,
 ⟨some 105, .bin .lss (.t 104) (.c (.int .i64 1)), some (102, false)⟩,
 ⟨some 106, .pick (.t 102) (.c (.bool true)) (.t 105), none⟩]
abbrev chunk_Valid_r9 : List AI := [
 ⟨some 2, .mv true (.c (.bool false)), none⟩]
abbrev chunk_Valid_r10 : List AI := [
 ⟨some 107, .mv false (.t 3), none⟩,
 ⟨some 108, .load true 2 (.t 7) (.site 7), none⟩,
 ⟨some 109, .mv false (.t 4), none⟩,
 ⟨some 110, .faddr 0 (.t 6), none⟩,
 ⟨some 111, .load false 1 (.t 110) (.site 6), none⟩,
 ⟨some 112, .mv false (.t 5), none⟩,
 ⟨none, .gd (.mset [.s, .s]) [(.t 107), (.t 108), (.c (.bool true))], none⟩,
 ⟨none, .gd (.mset [.i]) [(.t 109), (.t 111), (.t 112)], none⟩]
abbrev chunk_Valid_r11 : List AI := [
 ⟨some 113, .bin .add (.t 43) (.c (.int .i64 1)), none⟩,
 ⟨some 43, .mv false (.t 113), none⟩]
abbrev chunk_Valid_l0 : ACode := .seq (.reg false chunk_Valid_r5) (.seq (.cond (.t 44) (.skip) (.exit 0)) (.seq (.block 1 (.seq (.reg false chunk_Valid_r6) (.seq (.reg false chunk_Valid_r7) (.seq (.seq (.reg true chunk_Valid_r8) (.cond (.t 106) (.seq (.reg false chunk_Valid_r9) (.ret)) (.skip))) (.reg true chunk_Valid_r10))))) (.reg false chunk_Valid_r11)))
abbrev chunk_Valid_r12 : List AI := [
 ⟨some 114, .faddr 1 (.t 1), none⟩,
 ⟨some 115, .load false 1 (.t 114) .any, none⟩,
 ⟨some 116, .len false (.t 115), none⟩,
 ⟨some 117, .gn (.mkSl 1 8 [(.int .i64 0)]) [(.t 116), (.t 116)], none⟩,
 ⟨some 8, .mv true (.t 117), none⟩]
abbrev chunk_Valid_r13 : List AI := [
 ⟨some 118, .faddr 2 (.t 1), none⟩,
 ⟨some 119, .load false 1 (.t 118) .any, none⟩,
 ⟨some 120, .len false (.t 119), none⟩,
 ⟨some 121, .mv false (.c (.int .i64 0)), none⟩]
abbrev chunk_Valid_r14 : List AI := [
 ⟨some 122, .bin .lss (.t 121) (.t 120), none⟩]
abbrev chunk_Valid_r15 : List AI := [
 ⟨some 123, .mv false (.t 121), none⟩,
 ⟨some 124, .iaddr 3 (.t 119) (.t 121), none⟩,
 ⟨some 125, .load true 3 (.t 124) .any, none⟩,
 ⟨some 10, .alloc [(.int .i64 0), (.str []), .nilS], none⟩,
 ⟨some 9, .mv true (.t 123), none⟩,
 ⟨none, .store 3 (.t 10) (.t 125) .any, none⟩]
abbrev chunk_Valid_r16 : List AI := [
 ⟨some 126, .faddr 0 (.t 10), none⟩,
 ⟨some 127, .load false 1 (.t 126) (.site 10), none⟩,
 ⟨some 128, .bin .lss (.t 127) (.c (.int .i64 1)), none⟩,
 ⟨some 129, .mv false (.t 128), none⟩,
 ⟨some 130, .faddr 0 (.t 10), some (129, false)⟩,
 ⟨some 131, .load false 1 (.t 130) (.site 10), some (129, false)⟩,
 ⟨some 132, .bin .gtr (.t 131) (.c (.int .i64 1099511627776)), some (129, false)⟩,
 ⟨some 133, .pick (.t 129) (.c (.bool true)) (.t 132), none⟩,
 ⟨some 134, .mv false (.t 133), none⟩,
 ⟨some 135, .mv false (.t 9), some (134, false)⟩,
 ⟨some 136, .bin .gtr (.t 135) (.c (.int .i64 0)), some (134, false)⟩,
 ⟨some 137, .mv false (.t 136), some (134, false)⟩,
 ⟨some 138, .faddr 2 (.t 1), some (137, true)⟩,
 ⟨some 139, .load false 1 (.t 138) (.site 1), some (137, true)⟩,
 ⟨some 140, .mv false (.t 9), some (137, true)⟩,
 ⟨some 141, .bin .sub (.t 140) (.c (.int .i64 1)), some (137, true)⟩,
 ⟨some 142, .iaddr 3 (.t 139) (.t 141), some (137, true)⟩,
 ⟨some 143, .faddr 0 (.t 142), some (137, true)⟩,
 ⟨some 144, .load false 1 (.t 143) .foreign, some (137, true)⟩,
 ⟨some 145, .faddr 0 (.t 10), some (137, true)⟩,
 ⟨some 146, .load false 1 (.t 145) (.site 10), some (137, true)⟩,
 ⟨some 147, .bin .geq (.t 144) (.t 146), some (137, true)⟩,
 ⟨some 148, .pick (.t 137) (.t 147) (.c (.bool false)), some (134, false)⟩,
 ⟨some 149, .pick (.t 134) (.c (.bool true)) (.t 148), none⟩,
 ⟨some 150, .mv false (.t 149), none⟩,
 ⟨some 151, .faddr 1 (.t 10), some (150, false)⟩,
 ⟨some 152, .load false 1 (.t 151) (.site 10), some (150, false)⟩,
 ⟨some 153, .len true (.t 152), some (150, false)⟩,
 ⟨some 154, .bin .gtr (.t 153) (.c (.int .i64 65536)), some (150, false)⟩,
 ⟨some 155, .pick (.t 150) (.c (.bool true)) (.t 154), none⟩]
abbrev chunk_Valid_r17 : List AI := [
 ⟨some 2, .mv true (.c (.bool false)), none⟩]
abbrev chunk_Valid_r18 : List AI := [
 ⟨some 11, .mv true (.c (.int .i64 0)), none⟩]
abbrev chunk_Valid_r19 : List AI := [
 ⟨some 156, .faddr 2 (.t 10), none⟩,
 ⟨some 157, .load false 1 (.t 156) .any, none⟩,
 ⟨some 158, .len false (.t 157), none⟩,
 ⟨some 159, .mv false (.c (.int .i64 0)), none⟩]
abbrev chunk_Valid_r20 : List AI := [
 ⟨some 160, .bin .lss (.t 159) (.t 158), none⟩]
abbrev chunk_Valid_r21 : List AI := [
 ⟨some 161, .iaddr 1 (.t 157) (.t 159), none⟩,
 ⟨some 162, .load false 1 (.t 161) .any, none⟩,
 ⟨some 13, .mv true (.t 162), none⟩]
abbrev chunk_Valid_r22 : List AI := [
 ⟨some 164, .mv false (.t 4), none⟩,
 ⟨some 165, .mv false (.t 13), none⟩,
 ⟨some 166, .gd (.mlook [.i] (.int .i64 0) true) [(.t 164), (.t 165)], none⟩,
 ⟨some 163, .mv false (.t 166), none⟩,
 ⟨some 167, .ext (.t 163) 0, none⟩,
 ⟨some 168, .ext (.t 163) 1, none⟩,
 ⟨some 14, .mv true (.t 167), none⟩,
 ⟨some 15, .mv true (.t 168), none⟩]
abbrev chunk_Valid_r23 : List AI := [
 ⟨some 169, .mv false (.t 15), none⟩,
 ⟨some 170, .not (.t 169), none⟩,
 ⟨some 171, .mv false (.t 170), none⟩,
 ⟨some 172, .faddr 1 (.t 1), some (171, false)⟩,
 ⟨some 173, .load false 1 (.t 172) (.site 1), some (171, false)⟩,
 ⟨some 174, .mv false (.t 14), some (171, false)⟩,
 ⟨some 175, .iaddr 4 (.t 173) (.t 174), some (171, false)⟩,
 ⟨some 176, .faddr 1 (.t 175), some (171, false)⟩,
 ⟨some 177, .load false 1 (.t 176) .foreign, some (171, false)⟩,
 ⟨some 178, .faddr 1 (.t 10), some (171, false)⟩,
 ⟨some 179, .load false 1 (.t 178) (.site 10), some (171, false)⟩,
 ⟨some 180, .bin .neq (.t 177) (.t 179), some (171, false)⟩,
 ⟨some 181, .pick (.t 171) (.c (.bool true)) (.t 180), none⟩]
abbrev chunk_Valid_r24 : List AI := [
 ⟨some 2, .mv true (.c (.bool false)), none⟩]
abbrev chunk_Valid_r25 : List AI := [
 ⟨some 182, .mv false (.t 8), none⟩,
 ⟨some 183, .mv false (.t 14), none⟩,
 ⟨some 184, .iaddr 1 (.t 182) (.t 183), none⟩,
 ⟨some 185, .load false 1 (.t 184) .any, none⟩,
 ⟨some 186, .bin .add (.t 185) (.c (.int .i64 1)), none⟩,
 ⟨some 187, .iaddr 1 (.t 182) (.t 183), none⟩,
 ⟨none, .store 1 (.t 187) (.t 186) .any, none⟩]
abbrev chunk_Valid_r26 : List AI := [
 ⟨some 188, .mv false (.t 11), none⟩,
 ⟨some 189, .faddr 1 (.t 1), none⟩,
 ⟨some 190, .load false 1 (.t 189) .any, none⟩,
 ⟨some 191, .mv false (.t 14), none⟩,
 ⟨some 192, .iaddr 4 (.t 190) (.t 191), none⟩,
 ⟨some 193, .faddr 2 (.t 192), none⟩,
 ⟨some 194, .load false 1 (.t 193) .any, none⟩,
 ⟨some 195, .len true (.t 194), none⟩,
 ⟨some 196, .bin .add (.t 188) (.t 195), none⟩,
 ⟨some 11, .mv true (.t 196), none⟩]
abbrev chunk_Valid_r27 : List AI := [
 ⟨some 197, .mv false (.t 11), none⟩,
 ⟨some 198, .bin .gtr (.t 197) (.c (.int .i64 65536)), none⟩]
abbrev chunk_Valid_r28 : List AI := [
 ⟨some 2, .mv true (.c (.bool false)), none⟩]
abbrev chunk_Valid_r29 : List AI := [
 ⟨some 199, .bin .add (.t 159) (.c (.int .i64 1)), none⟩,
 ⟨some 159, .mv false (.t 199), none⟩]
abbrev chunk_Valid_l1 : ACode := .seq (.reg false chunk_Valid_r20) (.seq (.cond (.t 160) (.skip) (.exit 4)) (.seq (.block 5 (.seq (.reg false chunk_Valid_r21) (.seq (.reg false chunk_Valid_r22) (.seq (.seq (.reg true chunk_Valid_r23) (.cond (.t 181) (.seq (.reg false chunk_Valid_r24) (.ret)) (.skip))) (.seq (.reg false chunk_Valid_r25) (.seq (.reg false chunk_Valid_r26) (.seq (.reg false chunk_Valid_r27) (.cond (.t 198) (.seq (.reg false chunk_Valid_r28) (.ret)) (.skip))))))))) (.reg false chunk_Valid_r29)))
abbrev chunk_Valid_r30 : List AI := [
 ⟨some 200, .bin .add (.t 121) (.c (.int .i64 1)), none⟩,
 ⟨some 121, .mv false (.t 200), none⟩]
abbrev chunk_Valid_l2 : ACode := .seq (.reg false chunk_Valid_r14) (.seq (.cond (.t 122) (.skip) (.exit 2)) (.seq (.block 3 (.seq (.reg false chunk_Valid_r15) (.seq (.seq (.reg true chunk_Valid_r16) (.cond (.t 155) (.seq (.reg false chunk_Valid_r17) (.ret)) (.skip))) (.seq (.reg false chunk_Valid_r18) (.seq (.reg false chunk_Valid_r19) (.block 4 (.loop chunk_Valid_l1))))))) (.reg false chunk_Valid_r30)))
abbrev chunk_Valid_r31 : List AI := [
 ⟨some 201, .faddr 1 (.t 1), none⟩,
 ⟨some 202, .load false 1 (.t 201) .any, none⟩,
 ⟨some 203, .len false (.t 202), none⟩,
 ⟨some 204, .mv false (.c (.int .i64 0)), none⟩]
abbrev chunk_Valid_r32 : List AI := [
 ⟨some 205, .bin .lss (.t 204) (.t 203), none⟩]
abbrev chunk_Valid_r33 : List AI := [
 ⟨some 206, .mv false (.t 204), none⟩,
 ⟨some 207, .iaddr 4 (.t 202) (.t 204), none⟩,
 ⟨some 208, .load true 4 (.t 207) .any, none⟩,
 ⟨some 17, .alloc [(.int .i64 0), (.str []), (.str []), (.int .i64 0)], none⟩,
 ⟨some 16, .mv true (.t 206), none⟩,
 ⟨none, .store 4 (.t 17) (.t 208) .any, none⟩]
abbrev chunk_Valid_r34 : List AI := [
 ⟨some 209, .faddr 3 (.t 17), none⟩,
 ⟨some 210, .load false 1 (.t 209) (.site 17), none⟩,
 ⟨some 211, .mv false (.t 8), none⟩,
 ⟨some 212, .mv false (.t 16), none⟩,
 ⟨some 213, .iaddr 1 (.t 211) (.t 212), none⟩,
 ⟨some 214, .load false 1 (.t 213) .foreign, none⟩,
 ⟨some 215, .bin .neq (.t 210) (.t 214), none⟩]
abbrev chunk_Valid_r35 : List AI := [
 ⟨some 2, .mv true (.c (.bool false)), none⟩]
abbrev chunk_Valid_r36 : List AI := [
 ⟨some 216, .bin .add (.t 204) (.c (.int .i64 1)), none⟩,
 ⟨some 204, .mv false (.t 216), none⟩]
abbrev chunk_Valid_l3 : ACode := .seq (.reg false chunk_Valid_r32) (.seq (.cond (.t 205) (.skip) (.exit 6)) (.seq (.block 7 (.seq (.reg false chunk_Valid_r33) (.seq (.reg true chunk_Valid_r34) (.cond (.t 215) (.seq (.reg false chunk_Valid_r35) (.ret)) (.skip))))) (.reg false chunk_Valid_r36)))
abbrev chunk_Valid_r37 : List AI := [
 ⟨some 2, .mv true (.c (.bool true)), none⟩]
abbrev chunk_Valid_c : ACode := .seq (.reg false chunk_Valid_r0) (.seq (.seq (.reg false chunk_Valid_r1) (.cond (.t 37) (.seq (.reg false chunk_Valid_r2) (.ret)) (.skip))) (.seq (.reg false chunk_Valid_r3) (.seq (.seq (.reg false chunk_Valid_r4) (.block 0 (.loop chunk_Valid_l0))) (.seq (.reg false chunk_Valid_r12) (.seq (.seq (.reg false chunk_Valid_r13) (.block 2 (.loop chunk_Valid_l2))) (.seq (.seq (.reg false chunk_Valid_r31) (.block 6 (.loop chunk_Valid_l3))) (.seq (.reg false chunk_Valid_r37) (.ret))))))))
def chunk_Valid_F : AFunc := ⟨217, [.tmp 2], chunk_Valid_c⟩
theorem chunk_Valid_cp : compile Try.prog [] f_chunk_Valid = some chunk_Valid_F := by kernel_rfl
-- loop 0: [1, 3, 5, 6, 7, 8]
-- loop 1: [1, 3, 5]
-- loop 0: [0, 1, 5]
abbrev chunk_cuts_r0 : List AI := [
 ⟨some 2, .gn (.box 3) [(.t 0)], none⟩,
 ⟨some 3, .gn (.box 1) [(.t 1)], none⟩,
 ⟨some 4, .mv true (.c .nilF), none⟩]
abbrev chunk_cuts_r1 : List AI := [
 ⟨some 5, .gd (.clo f_chunk_cuts_1) [(.t 3), (.t 2)], none⟩,
 ⟨some 4, .mv true (.t 5), none⟩]
abbrev chunk_cuts_c : ACode := .seq (.reg false chunk_cuts_r0) (.seq (.reg false chunk_cuts_r1) (.ret))
def chunk_cuts_F : AFunc := ⟨6, [.tmp 4], chunk_cuts_c⟩
theorem chunk_cuts_cp : compile Try.prog [2, 3, 5] f_chunk_cuts = some chunk_cuts_F := by kernel_rfl
-- loop 0: [0, 3, 4]
-- loop 0: [2, 5]
abbrev chunk_object_r0 : List AI := [
 ⟨some 2, .box 3 (.t 0), none⟩,
 ⟨some 4, .mv true (.c (.int .i64 0)), none⟩,
 ⟨some 5, .mv true (.c (.bool false)), none⟩]
abbrev chunk_object_r1 : List AI := [
 ⟨some 6, .faddr 2 (.t 2), none⟩,
 ⟨some 7, .load false 1 (.t 6) .any, none⟩,
 ⟨some 8, .mv false (.t 1), none⟩,
 ⟨some 9, .call (.c (.fn f_slices_BinarySearchFunc_api_LotObject_api_LotObject_int)) [(.t 7), (.t 8), (.c (.fn f_chunk_object_1))] 0, none⟩,
 ⟨some 10, .ext (.t 9) 0, none⟩,
 ⟨some 11, .ext (.t 9) 1, none⟩,
 ⟨some 4, .mv true (.t 10), none⟩,
 ⟨some 5, .mv true (.t 11), none⟩]
abbrev chunk_object_c : ACode := .seq (.reg false chunk_object_r0) (.seq (.reg false chunk_object_r1) (.ret))
def chunk_object_F : AFunc := ⟨12, [.tmp 4, .tmp 5], chunk_object_c⟩
theorem chunk_object_cp : compile Try.prog [] f_chunk_object = some chunk_object_F := by kernel_rfl
-- loop 0: [3, 5, 13, 14, 15]
-- loop 1: [5, 8, 26, 27, 28]
abbrev chunk_parts_r0 : List AI := [
 ⟨some 2, .box 3 (.t 0), none⟩,
 ⟨some 3, .box 3 (.t 1), none⟩,
 ⟨some 4, .mv true (.c .nilS), none⟩]
abbrev chunk_parts_r1 : List AI := [
 ⟨some 11, .gn .mkM [], none⟩,
 ⟨some 5, .mv true (.t 11), none⟩]
abbrev chunk_parts_r2 : List AI := [
 ⟨some 12, .faddr 1 (.t 2), none⟩,
 ⟨some 13, .load false 1 (.t 12) .any, none⟩,
 ⟨some 14, .len false (.t 13), none⟩,
 ⟨some 15, .mv false (.c (.int .i64 0)), none⟩]
abbrev chunk_parts_r3 : List AI := [
 ⟨some 16, .bin .lss (.t 15) (.t 14), none⟩]
abbrev chunk_parts_r4 : List AI := [
 ⟨some 17, .iaddr 4 (.t 13) (.t 15), none⟩,
 ⟨some 18, .load true 4 (.t 17) .any, none⟩,
 ⟨some 7, .alloc [(.int .i64 0), (.str []), (.str []), (.int .i64 0)], none⟩,
 ⟨none, .store 4 (.t 7) (.t 18) .any, none⟩]
abbrev chunk_parts_r5 : List AI := [
 ⟨some 19, .mv false (.t 5), none⟩,
 ⟨some 20, .faddr 0 (.t 7), none⟩,
 ⟨some 21, .load false 1 (.t 20) .any, none⟩,
 ⟨some 22, .faddr 2 (.t 7), none⟩,
 ⟨some 23, .load false 1 (.t 22) .any, none⟩,
 ⟨none, .gd (.mset [.i]) [(.t 19), (.t 21), (.t 23)], none⟩]
abbrev chunk_parts_r6 : List AI := [
 ⟨some 24, .bin .add (.t 15) (.c (.int .i64 1)), none⟩,
 ⟨some 15, .mv false (.t 24), none⟩]
abbrev chunk_parts_l0 : ACode := .seq (.reg false chunk_parts_r3) (.seq (.cond (.t 16) (.skip) (.exit 0)) (.seq (.block 1 (.seq (.reg false chunk_parts_r4) (.reg false chunk_parts_r5))) (.reg false chunk_parts_r6)))
abbrev chunk_parts_r7 : List AI := [
 ⟨some 8, .mv true (.c .nilS), none⟩]
abbrev chunk_parts_r8 : List AI := [
 ⟨some 25, .faddr 2 (.t 3), none⟩,
 ⟨some 26, .load false 1 (.t 25) .any, none⟩,
 ⟨some 27, .len false (.t 26), none⟩,
 ⟨some 28, .mv false (.c (.int .i64 0)), none⟩]
abbrev chunk_parts_r9 : List AI := [
 ⟨some 29, .bin .lss (.t 28) (.t 27), none⟩]
abbrev chunk_parts_r10 : List AI := [
 ⟨some 30, .iaddr 1 (.t 26) (.t 28), none⟩,
 ⟨some 31, .load false 1 (.t 30) .any, none⟩,
 ⟨some 10, .mv true (.t 31), none⟩]
abbrev chunk_parts_r11 : List AI := [
 ⟨some 32, .mv true (.t 8), none⟩,
 ⟨some 33, .mv false (.t 5), none⟩,
 ⟨some 34, .mv false (.t 10), none⟩,
 ⟨some 35, .gd (.mlook [.i] (.str []) false) [(.t 33), (.t 34)], none⟩,
 ⟨some 36, .mkslice 1 1 (.str []) [(0, (.t 35))], none⟩,
 ⟨some 37, .append 1 16 (.t 32) (.t 36), none⟩,
 ⟨some 8, .mv true (.t 37), none⟩]
abbrev chunk_parts_r12 : List AI := [
 ⟨some 38, .bin .add (.t 28) (.c (.int .i64 1)), none⟩,
 ⟨some 28, .mv false (.t 38), none⟩]
abbrev chunk_parts_l1 : ACode := .seq (.reg false chunk_parts_r9) (.seq (.cond (.t 29) (.skip) (.exit 2)) (.seq (.block 3 (.seq (.reg false chunk_parts_r10) (.reg false chunk_parts_r11))) (.reg false chunk_parts_r12)))
abbrev chunk_parts_r13 : List AI := [
 ⟨some 39, .mv false (.t 8), none⟩,
 ⟨some 4, .mv true (.t 39), none⟩]
abbrev chunk_parts_c : ACode := .seq (.reg false chunk_parts_r0) (.seq (.reg false chunk_parts_r1) (.seq (.seq (.reg false chunk_parts_r2) (.block 0 (.loop chunk_parts_l0))) (.seq (.reg false chunk_parts_r7) (.seq (.seq (.reg false chunk_parts_r8) (.block 2 (.loop chunk_parts_l1))) (.seq (.reg false chunk_parts_r13) (.ret))))))
def chunk_parts_F : AFunc := ⟨40, [.tmp 4], chunk_parts_c⟩
theorem chunk_parts_cp : compile Try.prog [] f_chunk_parts = some chunk_parts_F := by kernel_rfl
-- loop 0: [1, 2, 3, 4, 8, 10, 23, 24, 25]
-- loop 1: [1, 2, 4, 8, 10, 13, 41, 42, 43]
abbrev chunk_add_r0 : List AI := [
 ⟨some 4, .box 3 (.t 0), none⟩,
 ⟨some 8, .alloc [(.int .i64 0), .nilS, .nilS], none⟩,
 ⟨some 9, .mv true (.c (.int .i64 0)), none⟩]
abbrev chunk_add_r1 : List AI := [
 ⟨some 21, .gn .mkM [], none⟩,
 ⟨some 10, .mv true (.t 21), none⟩]
abbrev chunk_add_r2 : List AI := [
 ⟨some 22, .faddr 1 (.t 4), none⟩,
 ⟨some 23, .load false 1 (.t 22) .any, none⟩,
 ⟨some 24, .len false (.t 23), none⟩,
 ⟨some 25, .mv false (.c (.int .i64 0)), none⟩]
abbrev chunk_add_r3 : List AI := [
 ⟨some 26, .bin .lss (.t 25) (.t 24), none⟩]
abbrev chunk_add_r4 : List AI := [
 ⟨some 27, .mv false (.t 25), none⟩,
 ⟨some 28, .iaddr 4 (.t 23) (.t 25), none⟩,
 ⟨some 29, .load true 4 (.t 28) .any, none⟩,
 ⟨some 12, .alloc [(.int .i64 0), (.str []), (.str []), (.int .i64 0)], none⟩,
 ⟨some 11, .mv true (.t 27), none⟩,
 ⟨none, .store 4 (.t 12) (.t 29) .any, none⟩]
abbrev chunk_add_r5 : List AI := [
 ⟨some 30, .mv false (.t 10), none⟩,
 ⟨some 31, .faddr 1 (.t 12), none⟩,
 ⟨some 32, .load false 1 (.t 31) .any, none⟩,
 ⟨some 33, .faddr 2 (.t 12), none⟩,
 ⟨some 34, .load false 1 (.t 33) .any, none⟩,
 ⟨some 35, .build [(.str []), (.str [])] [(0, 1, (.t 32)), (1, 1, (.t 34))], none⟩,
 ⟨some 36, .mv false (.t 11), none⟩,
 ⟨none, .gd (.mset [.s, .s]) [(.t 30), (.t 35), (.t 36)], none⟩]
abbrev chunk_add_r6 : List AI := [
 ⟨some 37, .bin .add (.t 25) (.c (.int .i64 1)), none⟩,
 ⟨some 25, .mv false (.t 37), none⟩]
abbrev chunk_add_l0 : ACode := .seq (.reg false chunk_add_r3) (.seq (.cond (.t 26) (.skip) (.exit 0)) (.seq (.block 1 (.seq (.reg false chunk_add_r4) (.reg false chunk_add_r5))) (.reg false chunk_add_r6)))
abbrev chunk_add_r7 : List AI := [
 ⟨some 38, .mv false (.t 1), none⟩,
 ⟨some 39, .mv false (.t 2), none⟩,
 ⟨some 40, .build [(.int .i64 0), (.str []), .nilS] [(0, 1, (.t 38)), (1, 1, (.t 39))], none⟩,
 ⟨some 13, .alloc [(.int .i64 0), (.str []), .nilS], none⟩,
 ⟨none, .store 3 (.t 13) (.t 40) .any, none⟩]
abbrev chunk_add_r8 : List AI := [
 ⟨some 41, .mv false (.t 3), none⟩,
 ⟨some 42, .len false (.t 41), none⟩,
 ⟨some 43, .mv false (.c (.int .i64 0)), none⟩]
abbrev chunk_add_r9 : List AI := [
 ⟨some 44, .bin .lss (.t 43) (.t 42), none⟩]
abbrev chunk_add_r10 : List AI := [
 ⟨some 45, .iaddr 1 (.t 41) (.t 43), none⟩,
 ⟨some 46, .load false 1 (.t 45) .any, none⟩,
 ⟨some 15, .mv true (.t 46), none⟩]
abbrev chunk_add_r11 : List AI := [
 ⟨some 47, .mv false (.t 2), none⟩,
 ⟨some 48, .mv false (.t 15), none⟩,
 ⟨some 49, .build [(.str []), (.str [])] [(0, 1, (.t 47)), (1, 1, (.t 48))], none⟩,
 ⟨some 16, .alloc [(.str []), (.str [])], none⟩,
 ⟨none, .store 2 (.t 16) (.t 49) .any, none⟩]
abbrev chunk_add_r12 : List AI := [
 ⟨some 51, .mv false (.t 10), none⟩,
 ⟨some 52, .load true 2 (.t 16) .any, none⟩,
 ⟨some 53, .gd (.mlook [.s, .s] (.int .i64 0) true) [(.t 51), (.t 52)], none⟩,
 ⟨some 50, .mv false (.t 53), none⟩,
 ⟨some 54, .ext (.t 50) 0, none⟩,
 ⟨some 55, .ext (.t 50) 1, none⟩,
 ⟨some 17, .mv true (.t 54), none⟩,
 ⟨some 18, .mv true (.t 55), none⟩]
abbrev chunk_add_r13 : List AI := [
 ⟨some 56, .mv false (.t 18), none⟩,
 ⟨some 57, .not (.t 56), none⟩]
abbrev chunk_add_r14 : List AI := [
 ⟨some 58, .faddr 1 (.t 4), none⟩,
 ⟨some 59, .load false 1 (.t 58) .any, none⟩,
 ⟨some 60, .len false (.t 59), none⟩,
 ⟨some 17, .mv true (.t 60), none⟩]
abbrev chunk_add_r15 : List AI := [
 ⟨some 61, .mv false (.t 10), none⟩,
 ⟨some 62, .load true 2 (.t 16) .any, none⟩,
 ⟨some 63, .mv false (.t 17), none⟩,
 ⟨none, .gd (.mset [.s, .s]) [(.t 61), (.t 62), (.t 63)], none⟩]
abbrev chunk_add_r16 : List AI := [
 ⟨some 64, .faddr 1 (.t 4), none⟩,
 ⟨some 65, .load false 1 (.t 64) .any, none⟩,
 ⟨some 66, .faddr 0 (.t 4), none⟩,
 ⟨some 67, .load false 1 (.t 66) .any, none⟩,
 ⟨some 68, .mv false (.t 2), none⟩,
 ⟨some 69, .mv false (.t 15), none⟩,
 ⟨some 70, .build [(.int .i64 0), (.str []), (.str []), (.int .i64 0)] [(0, 1, (.t 67)), (1, 1, (.t 68)), (2, 1, (.t 69))], none⟩,
 ⟨some 71, .mkslice 4 1 (.agg [(.int .i64 0), (.str []), (.str []), (.int .i64 0)]) [(0, (.t 70))], none⟩,
 ⟨some 72, .appG 4 48 [(.int .i64 0), (.str []), (.str []), (.int .i64 0)] (.t 65) (.t 71), none⟩,
 ⟨some 73, .faddr 1 (.t 4), none⟩,
 ⟨none, .store 1 (.t 73) (.t 72) .any, none⟩]
abbrev chunk_add_r17 : List AI := [
 ⟨some 74, .faddr 0 (.t 4), none⟩,
 ⟨some 75, .load false 1 (.t 74) .any, none⟩,
 ⟨some 76, .bin .add (.t 75) (.c (.int .i64 1)), none⟩,
 ⟨some 77, .faddr 0 (.t 4), none⟩,
 ⟨none, .store 1 (.t 77) (.t 76) .any, none⟩]
abbrev chunk_add_b0 : ACode := .seq (.reg false chunk_add_r14) (.seq (.reg false chunk_add_r15) (.seq (.reg false chunk_add_r16) (.reg false chunk_add_r17)))
abbrev chunk_add_r18 : List AI := [
 ⟨some 78, .faddr 1 (.t 4), none⟩,
 ⟨some 79, .load false 1 (.t 78) .any, none⟩,
 ⟨some 80, .mv false (.t 17), none⟩,
 ⟨some 81, .iaddr 4 (.t 79) (.t 80), none⟩,
 ⟨some 82, .faddr 3 (.t 81), none⟩,
 ⟨some 83, .load false 1 (.t 82) .any, none⟩,
 ⟨some 84, .bin .add (.t 83) (.c (.int .i64 1)), none⟩,
 ⟨some 85, .iaddr 4 (.t 79) (.t 80), none⟩,
 ⟨some 86, .faddr 3 (.t 85), none⟩,
 ⟨none, .store 1 (.t 86) (.t 84) .any, none⟩]
abbrev chunk_add_r19 : List AI := [
 ⟨some 87, .faddr 2 (.t 13), none⟩,
 ⟨some 88, .load false 1 (.t 87) (.site 13), none⟩,
 ⟨some 89, .faddr 1 (.t 4), none⟩,
 ⟨some 90, .load false 1 (.t 89) (.site 4), none⟩,
 ⟨some 91, .mv false (.t 17), none⟩,
 ⟨some 92, .iaddr 4 (.t 90) (.t 91), none⟩,
 ⟨some 93, .faddr 0 (.t 92), none⟩,
 ⟨some 94, .load false 1 (.t 93) .foreign, none⟩,
 ⟨some 95, .mkslice 1 1 (.int .i64 0) [(0, (.t 94))], none⟩,
 ⟨some 96, .appG 1 8 [(.int .i64 0)] (.t 88) (.t 95), none⟩,
 ⟨some 97, .faddr 2 (.t 13), none⟩,
 ⟨none, .store 1 (.t 97) (.t 96) (.site 13), none⟩]
abbrev chunk_add_r20 : List AI := [
 ⟨some 98, .bin .add (.t 43) (.c (.int .i64 1)), none⟩,
 ⟨some 43, .mv false (.t 98), none⟩]
abbrev chunk_add_l1 : ACode := .seq (.reg false chunk_add_r9) (.seq (.cond (.t 44) (.skip) (.exit 2)) (.seq (.block 3 (.seq (.reg false chunk_add_r10) (.seq (.reg false chunk_add_r11) (.seq (.reg false chunk_add_r12) (.seq (.seq (.reg false chunk_add_r13) (.cond (.t 57) (chunk_add_b0) (.skip))) (.seq (.reg false chunk_add_r18) (.reg true chunk_add_r19))))))) (.reg false chunk_add_r20)))
abbrev chunk_add_r21 : List AI := [
 ⟨some 100, .load true 3 (.t 4) .any, none⟩,
 ⟨some 101, .mv false (.t 1), none⟩,
 ⟨some 102, .call (.c (.fn f_chunk_object)) [(.t 100), (.t 101)] 0, none⟩,
 ⟨some 99, .mv false (.t 102), none⟩,
 ⟨some 103, .ext (.t 99) 0, none⟩,
 ⟨some 104, .ext (.t 99) 1, none⟩,
 ⟨some 19, .mv true (.t 103), none⟩,
 ⟨some 20, .mv true (.t 104), none⟩]
abbrev chunk_add_r22 : List AI := [
 ⟨some 105, .faddr 2 (.t 4), none⟩,
 ⟨some 106, .load false 1 (.t 105) .any, none⟩,
 ⟨some 107, .mv false (.t 19), none⟩,
 ⟨some 108, .load true 3 (.t 13) .any, none⟩,
 ⟨some 109, .mkslice 3 1 (.agg [(.int .i64 0), (.str []), .nilS]) [(0, (.t 108))], none⟩,
 ⟨some 110, .call (.c (.fn f_slices_Insert_api_LotObject_api_LotObject)) [(.t 106), (.t 107), (.t 109)] 0, none⟩,
 ⟨some 111, .faddr 2 (.t 4), none⟩,
 ⟨none, .store 1 (.t 111) (.t 110) .any, none⟩]
abbrev chunk_add_r23 : List AI := [
 ⟨some 112, .faddr 2 (.t 4), none⟩,
 ⟨some 113, .load false 1 (.t 112) .any, none⟩,
 ⟨some 114, .len false (.t 113), none⟩,
 ⟨some 115, .bin .gtr (.t 114) (.c (.int .i64 1000)), none⟩,
 ⟨some 116, .mv false (.t 115), none⟩,
 ⟨some 117, .faddr 1 (.t 4), some (116, false)⟩,
 ⟨some 118, .load false 1 (.t 117) .any, some (116, false)⟩,
 ⟨some 119, .len false (.t 118), some (116, false)⟩,
 ⟨some 120, .bin .gtr (.t 119) (.c (.int .i64 1000)), some (116, false)⟩,
 ⟨some 121, .pick (.t 116) (.c (.bool true)) (.t 120), none⟩,
 ⟨some 122, .mv false (.t 121), none⟩,
 ⟨some 123, .faddr 0 (.t 4), some (122, false)⟩,
 ⟨some 124, .load false 1 (.t 123) .any, some (122, false)⟩,
 ⟨some 125, .bin .gtr (.t 124) (.c (.int .i64 1099511627776)), some (122, false)⟩,
 ⟨some 126, .pick (.t 122) (.c (.bool true)) (.t 125), none⟩]
abbrev chunk_add_r24 : List AI := [
 ⟨some 127, .build [(.int .i64 0), .nilS, .nilS] [], none⟩,
 ⟨none, .store 3 (.t 8) (.t 127) .any, none⟩,
 ⟨some 9, .mv true (.c (.int .i64 13)), none⟩]
abbrev chunk_add_r25 : List AI := [
 ⟨some 128, .load true 3 (.t 4) .any, none⟩,
 ⟨none, .store 3 (.t 8) (.t 128) .any, none⟩,
 ⟨some 9, .mv true (.c (.int .i64 0)), none⟩]
abbrev chunk_add_c : ACode := .seq (.reg false chunk_add_r0) (.seq (.reg false chunk_add_r1) (.seq (.seq (.reg false chunk_add_r2) (.block 0 (.loop chunk_add_l0))) (.seq (.reg false chunk_add_r7) (.seq (.seq (.reg false chunk_add_r8) (.block 2 (.loop chunk_add_l1))) (.seq (.reg false chunk_add_r21) (.seq (.reg false chunk_add_r22) (.seq (.seq (.reg false chunk_add_r23) (.cond (.t 126) (.seq (.reg false chunk_add_r24) (.ret)) (.skip))) (.seq (.reg false chunk_add_r25) (.ret)))))))))
def chunk_add_F : AFunc := ⟨129, [.cell 8 true 3, .tmp 9], chunk_add_c⟩
theorem chunk_add_cp : compile Try.prog [72, 96] f_chunk_add = some chunk_add_F := by kernel_rfl
-- loop 0: [2, 3, 19, 20, 21]
abbrev chunk_clone_r0 : List AI := [
 ⟨some 1, .box 3 (.t 0), none⟩,
 ⟨some 2, .alloc [(.int .i64 0), .nilS, .nilS], none⟩]
abbrev chunk_clone_r1 : List AI := [
 ⟨some 6, .faddr 0 (.t 1), none⟩,
 ⟨some 7, .load false 1 (.t 6) (.site 1), none⟩,
 ⟨some 8, .faddr 1 (.t 1), none⟩,
 ⟨some 9, .load false 1 (.t 8) (.site 1), none⟩,
 ⟨some 10, .len false (.t 9), none⟩,
 ⟨some 3, .alloc [(.int .i64 0), .nilS, .nilS], none⟩,
 ⟨some 11, .gn (.mkSl 4 48 [(.int .i64 0), (.str []), (.str []), (.int .i64 0)]) [(.t 10), (.t 10)], none⟩,
 ⟨some 12, .build [(.int .i64 0), .nilS, .nilS] [(0, 1, (.t 7)), (1, 1, (.t 11))], none⟩,
 ⟨none, .store 3 (.t 3) (.t 12) (.site 3), none⟩]
abbrev chunk_clone_r2 : List AI := [
 ⟨some 13, .faddr 1 (.t 3), none⟩,
 ⟨some 14, .load false 1 (.t 13) .any, none⟩,
 ⟨some 15, .faddr 1 (.t 1), none⟩,
 ⟨some 16, .load false 1 (.t 15) .any, none⟩,
 ⟨some 17, .copy 4 (.t 14) (.t 16), none⟩]
abbrev chunk_clone_r3 : List AI := [
 ⟨some 18, .faddr 2 (.t 1), none⟩,
 ⟨some 19, .load false 1 (.t 18) .any, none⟩,
 ⟨some 20, .len false (.t 19), none⟩,
 ⟨some 21, .mv false (.c (.int .i64 0)), none⟩]
abbrev chunk_clone_r4 : List AI := [
 ⟨some 22, .bin .lss (.t 21) (.t 20), none⟩]
abbrev chunk_clone_r5 : List AI := [
 ⟨some 23, .iaddr 3 (.t 19) (.t 21), none⟩,
 ⟨some 24, .load true 3 (.t 23) .any, none⟩,
 ⟨some 5, .alloc [(.int .i64 0), (.str []), .nilS], none⟩,
 ⟨none, .store 3 (.t 5) (.t 24) .any, none⟩]
abbrev chunk_clone_r6 : List AI := [
 ⟨some 25, .faddr 2 (.t 5), none⟩,
 ⟨some 26, .load false 1 (.t 25) .any, none⟩,
 ⟨some 27, .call (.c (.fn f_slices_Clone_int_int)) [(.t 26)] 0, none⟩,
 ⟨some 28, .faddr 2 (.t 5), none⟩,
 ⟨none, .store 1 (.t 28) (.t 27) .any, none⟩]
abbrev chunk_clone_r7 : List AI := [
 ⟨some 29, .faddr 2 (.t 3), none⟩,
 ⟨some 30, .load false 1 (.t 29) .any, none⟩,
 ⟨some 31, .load true 3 (.t 5) .any, none⟩,
 ⟨some 32, .mkslice 3 1 (.agg [(.int .i64 0), (.str []), .nilS]) [(0, (.t 31))], none⟩,
 ⟨some 33, .appG 3 48 [(.int .i64 0), (.str []), .nilS] (.t 30) (.t 32), none⟩,
 ⟨some 34, .faddr 2 (.t 3), none⟩,
 ⟨none, .store 1 (.t 34) (.t 33) .any, none⟩]
abbrev chunk_clone_r8 : List AI := [
 ⟨some 35, .bin .add (.t 21) (.c (.int .i64 1)), none⟩,
 ⟨some 21, .mv false (.t 35), none⟩]
abbrev chunk_clone_l0 : ACode := .seq (.reg false chunk_clone_r4) (.seq (.cond (.t 22) (.skip) (.exit 0)) (.seq (.block 1 (.seq (.reg false chunk_clone_r5) (.seq (.reg false chunk_clone_r6) (.reg false chunk_clone_r7)))) (.reg false chunk_clone_r8)))
abbrev chunk_clone_r9 : List AI := [
 ⟨some 36, .load true 3 (.t 3) .any, none⟩,
 ⟨none, .store 3 (.t 2) (.t 36) .any, none⟩]
abbrev chunk_clone_c : ACode := .seq (.reg false chunk_clone_r0) (.seq (.reg true chunk_clone_r1) (.seq (.reg false chunk_clone_r2) (.seq (.seq (.reg false chunk_clone_r3) (.block 0 (.loop chunk_clone_l0))) (.seq (.reg false chunk_clone_r9) (.ret)))))
def chunk_clone_F : AFunc := ⟨37, [.cell 2 true 3], chunk_clone_c⟩
theorem chunk_clone_cp : compile Try.prog [33] f_chunk_clone = some chunk_clone_F := by kernel_rfl
-- loop 0: [1, 2, 4, 6, 7, 21, 22, 23]
-- loop 1: [4, 6, 7, 10, 44, 45, 46]
abbrev chunk_remove_r0 : List AI := [
 ⟨some 2, .box 3 (.t 0), none⟩,
 ⟨some 4, .alloc [(.int .i64 0), .nilS, .nilS], none⟩,
 ⟨some 5, .mv true (.c .nilS), none⟩]
abbrev chunk_remove_r1 : List AI := [
 ⟨some 13, .load true 3 (.t 2) .any, none⟩,
 ⟨some 14, .call (.c (.fn f_chunk_clone)) [(.t 13)] 0, none⟩,
 ⟨some 6, .alloc [(.int .i64 0), .nilS, .nilS], none⟩,
 ⟨none, .store 3 (.t 6) (.t 14) .any, none⟩]
abbrev chunk_remove_r2 : List AI := [
 ⟨some 15, .gn .mkM [], none⟩,
 ⟨some 7, .mv true (.t 15), none⟩]
abbrev chunk_remove_r3 : List AI := [
 ⟨some 16, .faddr 2 (.t 2), none⟩,
 ⟨some 17, .load false 1 (.t 16) .any, none⟩,
 ⟨some 18, .mv false (.t 1), none⟩,
 ⟨some 19, .iaddr 3 (.t 17) (.t 18), none⟩,
 ⟨some 20, .faddr 2 (.t 19), none⟩,
 ⟨some 21, .load false 1 (.t 20) .any, none⟩,
 ⟨some 22, .len false (.t 21), none⟩,
 ⟨some 23, .mv false (.c (.int .i64 0)), none⟩]
abbrev chunk_remove_r4 : List AI := [
 ⟨some 24, .bin .lss (.t 23) (.t 22), none⟩]
abbrev chunk_remove_r5 : List AI := [
 ⟨some 25, .iaddr 1 (.t 21) (.t 23), none⟩,
 ⟨some 26, .load false 1 (.t 25) .any, none⟩,
 ⟨some 9, .mv true (.t 26), none⟩]
abbrev chunk_remove_r6 : List AI := [
 ⟨some 27, .mv false (.t 7), none⟩,
 ⟨some 28, .mv false (.t 9), none⟩,
 ⟨some 29, .gd (.mlook [.i] (.int .i64 0) false) [(.t 27), (.t 28)], none⟩,
 ⟨some 30, .bin .add (.t 29) (.c (.int .i64 1)), none⟩,
 ⟨none, .gd (.mset [.i]) [(.t 27), (.t 28), (.t 30)], none⟩]
abbrev chunk_remove_r7 : List AI := [
 ⟨some 31, .bin .add (.t 23) (.c (.int .i64 1)), none⟩,
 ⟨some 23, .mv false (.t 31), none⟩]
abbrev chunk_remove_l0 : ACode := .seq (.reg false chunk_remove_r4) (.seq (.cond (.t 24) (.skip) (.exit 0)) (.seq (.block 1 (.seq (.reg false chunk_remove_r5) (.reg false chunk_remove_r6))) (.reg false chunk_remove_r7)))
abbrev chunk_remove_r8 : List AI := [
 ⟨some 32, .faddr 2 (.t 6), none⟩,
 ⟨some 33, .load false 1 (.t 32) .any, none⟩,
 ⟨some 34, .mv false (.t 1), none⟩,
 ⟨some 35, .mv false (.t 1), none⟩,
 ⟨some 36, .bin .add (.t 35) (.c (.int .i64 1)), none⟩,
 ⟨some 37, .call (.c (.fn f_slices_Delete_api_LotObject_api_LotObject)) [(.t 33), (.t 34), (.t 36)] 0, none⟩,
 ⟨some 38, .faddr 2 (.t 6), none⟩,
 ⟨none, .store 1 (.t 38) (.t 37) .any, none⟩]
abbrev chunk_remove_r9 : List AI := [
 ⟨some 10, .mv true (.c .nilS), none⟩]
abbrev chunk_remove_r10 : List AI := [
 ⟨some 39, .faddr 1 (.t 6), none⟩,
 ⟨some 40, .load false 1 (.t 39) .any, none⟩,
 ⟨some 41, .sl 4 (.t 40) none (some (.c (.int .i64 0))), none⟩,
 ⟨some 42, .faddr 1 (.t 6), none⟩,
 ⟨none, .store 1 (.t 42) (.t 41) .any, none⟩]
abbrev chunk_remove_r11 : List AI := [
 ⟨some 43, .faddr 1 (.t 2), none⟩,
 ⟨some 44, .load false 1 (.t 43) .any, none⟩,
 ⟨some 45, .len false (.t 44), none⟩,
 ⟨some 46, .mv false (.c (.int .i64 0)), none⟩]
abbrev chunk_remove_r12 : List AI := [
 ⟨some 47, .bin .lss (.t 46) (.t 45), none⟩]
abbrev chunk_remove_r13 : List AI := [
 ⟨some 48, .iaddr 4 (.t 44) (.t 46), none⟩,
 ⟨some 49, .load true 4 (.t 48) .any, none⟩,
 ⟨some 12, .alloc [(.int .i64 0), (.str []), (.str []), (.int .i64 0)], none⟩,
 ⟨none, .store 4 (.t 12) (.t 49) .any, none⟩]
abbrev chunk_remove_r14 : List AI := [
 ⟨some 50, .faddr 3 (.t 12), none⟩,
 ⟨some 51, .load false 1 (.t 50) .any, none⟩,
 ⟨some 52, .mv false (.t 7), none⟩,
 ⟨some 53, .faddr 0 (.t 12), none⟩,
 ⟨some 54, .load false 1 (.t 53) .any, none⟩,
 ⟨some 55, .gd (.mlook [.i] (.int .i64 0) false) [(.t 52), (.t 54)], none⟩,
 ⟨some 56, .bin .sub (.t 51) (.t 55), none⟩,
 ⟨some 57, .faddr 3 (.t 12), none⟩,
 ⟨none, .store 1 (.t 57) (.t 56) .any, none⟩]
abbrev chunk_remove_r15 : List AI := [
 ⟨some 58, .faddr 3 (.t 12), none⟩,
 ⟨some 59, .load false 1 (.t 58) .any, none⟩,
 ⟨some 60, .bin .gtr (.t 59) (.c (.int .i64 0)), none⟩]
abbrev chunk_remove_r16 : List AI := [
 ⟨some 61, .faddr 1 (.t 6), none⟩,
 ⟨some 62, .load false 1 (.t 61) .any, none⟩,
 ⟨some 63, .load true 4 (.t 12) .any, none⟩,
 ⟨some 64, .mkslice 4 1 (.agg [(.int .i64 0), (.str []), (.str []), (.int .i64 0)]) [(0, (.t 63))], none⟩,
 ⟨some 65, .appG 4 48 [(.int .i64 0), (.str []), (.str []), (.int .i64 0)] (.t 62) (.t 64), none⟩,
 ⟨some 66, .faddr 1 (.t 6), none⟩,
 ⟨none, .store 1 (.t 66) (.t 65) .any, none⟩]
abbrev chunk_remove_r17 : List AI := [
 ⟨some 67, .mv true (.t 10), none⟩,
 ⟨some 68, .faddr 0 (.t 12), none⟩,
 ⟨some 69, .load false 1 (.t 68) .any, none⟩,
 ⟨some 70, .mkslice 1 1 (.int .i64 0) [(0, (.t 69))], none⟩,
 ⟨some 71, .append 1 8 (.t 67) (.t 70), none⟩,
 ⟨some 10, .mv true (.t 71), none⟩]
abbrev chunk_remove_r18 : List AI := [
 ⟨some 72, .bin .add (.t 46) (.c (.int .i64 1)), none⟩,
 ⟨some 46, .mv false (.t 72), none⟩]
abbrev chunk_remove_l1 : ACode := .seq (.reg false chunk_remove_r12) (.seq (.cond (.t 47) (.skip) (.exit 2)) (.seq (.block 3 (.seq (.reg false chunk_remove_r13) (.seq (.reg false chunk_remove_r14) (.seq (.reg false chunk_remove_r15) (.cond (.t 60) (.reg false chunk_remove_r16) (.reg false chunk_remove_r17)))))) (.reg false chunk_remove_r18)))
abbrev chunk_remove_r19 : List AI := [
 ⟨some 73, .load true 3 (.t 6) .any, none⟩,
 ⟨some 74, .mv false (.t 10), none⟩,
 ⟨none, .store 3 (.t 4) (.t 73) .any, none⟩,
 ⟨some 5, .mv true (.t 74), none⟩]
abbrev chunk_remove_c : ACode := .seq (.reg false chunk_remove_r0) (.seq (.reg false chunk_remove_r1) (.seq (.reg false chunk_remove_r2) (.seq (.seq (.reg false chunk_remove_r3) (.block 0 (.loop chunk_remove_l0))) (.seq (.reg false chunk_remove_r8) (.seq (.reg false chunk_remove_r9) (.seq (.reg false chunk_remove_r10) (.seq (.seq (.reg false chunk_remove_r11) (.block 2 (.loop chunk_remove_l1))) (.seq (.reg false chunk_remove_r19) (.ret)))))))))
def chunk_remove_F : AFunc := ⟨75, [.cell 4 true 3, .tmp 5], chunk_remove_c⟩
theorem chunk_remove_cp : compile Try.prog [65] f_chunk_remove = some chunk_remove_F := by kernel_rfl
-- loop 0: [1, 2, 5]
-- loop 0: [1, 2, 5]
-- loop 0: [1, 2, 3, 4, 8, 9, 10, 11]
-- loop 1: [1, 4, 8, 9, 10, 13, 14]
-- loop 0: [1, 2, 4, 5, 6]
-- loop 1: [2, 4, 5, 7, 8]
-- loop 0: [1, 3, 4, 5]
-- loop 1: [1, 3]
-- loop 0: [0, 1, 2, 4, 5, 10, 11]
abbrev chunk_cuts_1_r0 : List AI := [
 ⟨some 4, .mv true (.c (.int .i64 0)), none⟩]
abbrev chunk_cuts_1_r1 : List AI := [
 ⟨some 5, .alloc [(.int .i64 0), (.int .i64 0), (.int .i64 0), (.int .i64 0)], none⟩]
abbrev chunk_cuts_1_r2 : List AI := [
 ⟨some 9, .load false 1 (.t 1) .any, none⟩,
 ⟨some 10, .len true (.t 9), none⟩,
 ⟨some 11, .mv false (.c (.int .i64 0)), none⟩]
abbrev chunk_cuts_1_r3 : List AI := [
 ⟨some 12, .bin .lss (.t 11) (.t 10), none⟩]
abbrev chunk_cuts_1_r4 : List AI := [
 ⟨some 13, .mv false (.t 11), none⟩,
 ⟨some 6, .mv true (.t 13), none⟩]
abbrev chunk_cuts_1_r5 : List AI := [
 ⟨some 14, .load false 1 (.t 1) .foreign, none⟩,
 ⟨some 15, .mv false (.t 6), none⟩,
 ⟨some 16, .idxS (.t 14) (.t 15), none⟩,
 ⟨some 17, .conv .i64 (.t 16), none⟩,
 ⟨some 18, .iaddrA 4 1 (.t 5) (.c (.int .i64 0)), none⟩,
 ⟨some 19, .load false 1 (.t 18) (.site 5), none⟩,
 ⟨some 20, .iaddrA 4 1 (.t 5) (.c (.int .i64 1)), none⟩,
 ⟨some 21, .load false 1 (.t 20) (.site 5), none⟩,
 ⟨some 22, .iaddrA 4 1 (.t 5) (.c (.int .i64 2)), none⟩,
 ⟨some 23, .load false 1 (.t 22) (.site 5), none⟩,
 ⟨some 24, .build [(.int .i64 0), (.int .i64 0), (.int .i64 0), (.int .i64 0)] [(0, 1, (.t 17)), (1, 1, (.t 19)), (2, 1, (.t 21)), (3, 1, (.t 23))], none⟩,
 ⟨none, .store 4 (.t 5) (.t 24) (.site 5), none⟩]
abbrev chunk_cuts_1_r6 : List AI := [
 ⟨some 25, .iaddrA 4 1 (.t 5) (.c (.int .i64 0)), none⟩,
 ⟨some 26, .load false 1 (.t 25) .any, none⟩,
 ⟨some 27, .iaddrA 4 1 (.t 5) (.c (.int .i64 1)), none⟩,
 ⟨some 28, .load false 1 (.t 27) .any, none⟩,
 ⟨some 29, .bin .shl (.t 28) (.c (.int .u64 1)), none⟩,
 ⟨some 30, .bin .add (.t 26) (.t 29), none⟩,
 ⟨some 31, .iaddrA 4 1 (.t 5) (.c (.int .i64 2)), none⟩,
 ⟨some 32, .load false 1 (.t 31) .any, none⟩,
 ⟨some 33, .bin .shl (.t 32) (.c (.int .u64 2)), none⟩,
 ⟨some 34, .bin .add (.t 30) (.t 33), none⟩,
 ⟨some 35, .iaddrA 4 1 (.t 5) (.c (.int .i64 3)), none⟩,
 ⟨some 36, .load false 1 (.t 35) .any, none⟩,
 ⟨some 37, .bin .shl (.t 36) (.c (.int .u64 3)), none⟩,
 ⟨some 38, .bin .add (.t 34) (.t 37), none⟩,
 ⟨some 7, .mv true (.t 38), none⟩]
abbrev chunk_cuts_1_r7 : List AI := [
 ⟨some 39, .mv false (.t 6), none⟩,
 ⟨some 40, .bin .add (.t 39) (.c (.int .i64 1)), none⟩,
 ⟨some 41, .mv false (.t 4), none⟩,
 ⟨some 42, .bin .sub (.t 40) (.t 41), none⟩,
 ⟨some 8, .mv true (.t 42), none⟩]
abbrev chunk_cuts_1_r8 : List AI := [
 ⟨some 43, .mv false (.t 8), none⟩,
 ⟨some 44, .faddr 0 (.t 2), none⟩,
 ⟨some 45, .load false 1 (.t 44) .any, none⟩,
 ⟨some 46, .bin .geq (.t 43) (.t 45), none⟩,
 ⟨some 47, .mv false (.t 46), none⟩,
 ⟨some 48, .mv false (.t 7), some (47, true)⟩,
 ⟨some 49, .faddr 2 (.t 2), some (47, true)⟩,
 ⟨some 50, .load false 1 (.t 49) .any, some (47, true)⟩,
 ⟨some 51, .bin .shl (.c (.int .i64 1)) (.t 50), some (47, true)⟩,
 ⟨some 52, .bin .sub (.t 51) (.c (.int .i64 1)), some (47, true)⟩,
 ⟨some 53, .bin .and (.t 48) (.t 52), some (47, true)⟩,
 ⟨some 54, .bin .eql (.t 53) (.c (.int .i64 0)), some (47, true)⟩,
 ⟨some 55, .pick (.t 47) (.t 54) (.c (.bool false)), none⟩,
 ⟨some 56, .mv false (.t 55), none⟩,
 ⟨some 57, .mv false (.t 8), some (56, false)⟩,
 ⟨some 58, .faddr 1 (.t 2), some (56, false)⟩,
 ⟨some 59, .load false 1 (.t 58) .any, some (56, false)⟩,
 ⟨some 60, .bin .eql (.t 57) (.t 59), some (56, false)⟩,
 ⟨some 61, .pick (.t 56) (.c (.bool true)) (.t 60), none⟩,
 ⟨some 62, .mv false (.t 61), none⟩,
 ⟨some 63, .mv false (.t 6), some (62, false)⟩,
 ⟨some 64, .bin .add (.t 63) (.c (.int .i64 1)), some (62, false)⟩,
 ⟨some 65, .load false 1 (.t 1) .any, some (62, false)⟩,
 ⟨some 66, .len true (.t 65), some (62, false)⟩,
 ⟨some 67, .bin .eql (.t 64) (.t 66), some (62, false)⟩,
 ⟨some 68, .pick (.t 62) (.c (.bool true)) (.t 67), none⟩]
abbrev chunk_cuts_1_r9 : List AI := [
 ⟨some 69, .mv false (.t 0), none⟩,
 ⟨some 70, .mv false (.t 6), none⟩,
 ⟨some 71, .bin .add (.t 70) (.c (.int .i64 1)), none⟩,
 ⟨some 72, .call (.t 69) [(.t 71)] 0, none⟩,
 ⟨some 73, .not (.t 72), none⟩]
abbrev chunk_cuts_1_r10 : List AI := [
 ⟨some 74, .mv false (.t 6), none⟩,
 ⟨some 75, .bin .add (.t 74) (.c (.int .i64 1)), none⟩,
 ⟨some 4, .mv true (.t 75), none⟩]
abbrev chunk_cuts_1_b0 : ACode := .seq (.seq (.reg false chunk_cuts_1_r9) (.cond (.t 73) (.ret) (.skip))) (.reg false chunk_cuts_1_r10)
abbrev chunk_cuts_1_r11 : List AI := [
 ⟨some 76, .bin .add (.t 11) (.c (.int .i64 1)), none⟩,
 ⟨some 11, .mv false (.t 76), none⟩]
abbrev chunk_cuts_1_l0 : ACode := .seq (.reg false chunk_cuts_1_r3) (.seq (.cond (.t 12) (.skip) (.exit 0)) (.seq (.block 1 (.seq (.reg false chunk_cuts_1_r4) (.seq (.reg true chunk_cuts_1_r5) (.seq (.reg false chunk_cuts_1_r6) (.seq (.reg false chunk_cuts_1_r7) (.seq (.reg false chunk_cuts_1_r8) (.cond (.t 68) (chunk_cuts_1_b0) (.skip)))))))) (.reg false chunk_cuts_1_r11)))
abbrev chunk_cuts_1_c : ACode := .seq (.reg false chunk_cuts_1_r0) (.seq (.reg false chunk_cuts_1_r1) (.seq (.reg false chunk_cuts_1_r2) (.block 0 (.loop chunk_cuts_1_l0))))
def chunk_cuts_1_F : AFunc := ⟨77, [], chunk_cuts_1_c⟩
theorem chunk_cuts_1_cp : compile Try.prog [] f_chunk_cuts_1 = some chunk_cuts_1_F := by kernel_rfl
-- loop 0: [0, 1, 2, 8, 9, 10]
abbrev slices_BinarySearchFunc_api_LotObject_api_LotObject_int_r0 : List AI := [
 ⟨some 6, .mv true (.c (.int .i64 0)), none⟩,
 ⟨some 7, .mv true (.c (.bool false)), none⟩]
abbrev slices_BinarySearchFunc_api_LotObject_api_LotObject_int_r1 : List AI := [
 ⟨some 12, .mv false (.t 0), none⟩,
 ⟨some 13, .len false (.t 12), none⟩,
 ⟨some 8, .mv true (.t 13), none⟩]
abbrev slices_BinarySearchFunc_api_LotObject_api_LotObject_int_r2 : List AI := [
 ⟨some 14, .mv false (.t 8), none⟩,
 ⟨some 9, .mv true (.c (.int .i64 0)), none⟩,
 ⟨some 10, .mv true (.t 14), none⟩]
abbrev slices_BinarySearchFunc_api_LotObject_api_LotObject_int_r3 : List AI := [
 ⟨some 15, .mv false (.t 9), none⟩,
 ⟨some 16, .mv false (.t 10), none⟩,
 ⟨some 17, .bin .lss (.t 15) (.t 16), none⟩]
abbrev slices_BinarySearchFunc_api_LotObject_api_LotObject_int_r4 : List AI := [
 ⟨some 18, .mv false (.t 9), none⟩,
 ⟨some 19, .mv false (.t 10), none⟩,
 ⟨some 20, .bin .add (.t 18) (.t 19), none⟩,
 ⟨some 21, .conv .u64 (.t 20), none⟩,
 ⟨some 22, .bin .shr (.t 21) (.c (.int .u64 1)), none⟩,
 ⟨some 23, .conv .i64 (.t 22), none⟩,
 ⟨some 11, .mv true (.t 23), none⟩]
abbrev slices_BinarySearchFunc_api_LotObject_api_LotObject_int_r5 : List AI := [
 ⟨some 24, .mv false (.t 2), none⟩,
 ⟨some 25, .mv false (.t 0), none⟩,
 ⟨some 26, .mv false (.t 11), none⟩,
 ⟨some 27, .iaddr 3 (.t 25) (.t 26), none⟩,
 ⟨some 28, .load true 3 (.t 27) .any, none⟩,
 ⟨some 29, .mv false (.t 1), none⟩,
 ⟨some 30, .call (.t 24) [(.t 28), (.t 29)] 0, none⟩,
 ⟨some 31, .bin .lss (.t 30) (.c (.int .i64 0)), none⟩]
abbrev slices_BinarySearchFunc_api_LotObject_api_LotObject_int_r6 : List AI := [
 ⟨some 32, .mv false (.t 11), none⟩,
 ⟨some 33, .bin .add (.t 32) (.c (.int .i64 1)), none⟩,
 ⟨some 9, .mv true (.t 33), none⟩]
abbrev slices_BinarySearchFunc_api_LotObject_api_LotObject_int_r7 : List AI := [
 ⟨some 34, .mv false (.t 11), none⟩,
 ⟨some 10, .mv true (.t 34), none⟩]
abbrev slices_BinarySearchFunc_api_LotObject_api_LotObject_int_l0 : ACode := .seq (.seq (.reg false slices_BinarySearchFunc_api_LotObject_api_LotObject_int_r3) (.cond (.t 17) (.skip) (.exit 0))) (.block 1 (.seq (.reg false slices_BinarySearchFunc_api_LotObject_api_LotObject_int_r4) (.seq (.reg false slices_BinarySearchFunc_api_LotObject_api_LotObject_int_r5) (.cond (.t 31) (.reg false slices_BinarySearchFunc_api_LotObject_api_LotObject_int_r6) (.reg false slices_BinarySearchFunc_api_LotObject_api_LotObject_int_r7)))))
abbrev slices_BinarySearchFunc_api_LotObject_api_LotObject_int_r8 : List AI := [
 ⟨some 35, .mv false (.t 9), none⟩,
 ⟨some 36, .mv false (.t 9), none⟩,
 ⟨some 37, .mv false (.t 8), none⟩,
 ⟨some 38, .bin .lss (.t 36) (.t 37), none⟩,
 ⟨some 39, .mv false (.t 38), none⟩,
 ⟨some 40, .mv false (.t 2), some (39, true)⟩,
 ⟨some 41, .mv false (.t 0), some (39, true)⟩,
 ⟨some 42, .mv false (.t 9), some (39, true)⟩,
 ⟨some 43, .iaddr 3 (.t 41) (.t 42), some (39, true)⟩,
 ⟨some 44, .load true 3 (.t 43) .any, some (39, true)⟩,
 ⟨some 45, .mv false (.t 1), some (39, true)⟩,
 ⟨some 46, .call (.t 40) [(.t 44), (.t 45)] 0, some (39, true)⟩,
 ⟨some 47, .bin .eql (.t 46) (.c (.int .i64 0)), some (39, true)⟩,
 ⟨some 48, .pick (.t 39) (.t 47) (.c (.bool false)), none⟩,
 ⟨some 6, .mv true (.t 35), none⟩,
 ⟨some 7, .mv true (.t 48), none⟩]
abbrev slices_BinarySearchFunc_api_LotObject_api_LotObject_int_c : ACode := .seq (.reg false slices_BinarySearchFunc_api_LotObject_api_LotObject_int_r0) (.seq (.reg false slices_BinarySearchFunc_api_LotObject_api_LotObject_int_r1) (.seq (.reg false slices_BinarySearchFunc_api_LotObject_api_LotObject_int_r2) (.seq (.block 0 (.loop slices_BinarySearchFunc_api_LotObject_api_LotObject_int_l0)) (.seq (.reg false slices_BinarySearchFunc_api_LotObject_api_LotObject_int_r8) (.ret)))))
def slices_BinarySearchFunc_api_LotObject_api_LotObject_int_F : AFunc := ⟨49, [.tmp 6, .tmp 7], slices_BinarySearchFunc_api_LotObject_api_LotObject_int_c⟩
theorem slices_BinarySearchFunc_api_LotObject_api_LotObject_int_cp : compile Try.prog [] f_slices_BinarySearchFunc_api_LotObject_api_LotObject_int = some slices_BinarySearchFunc_api_LotObject_api_LotObject_int_F := by kernel_rfl
abbrev chunk_object_1_r0 : List AI := [
 ⟨some 2, .box 3 (.t 0), none⟩,
 ⟨some 4, .mv true (.c (.int .i64 0)), none⟩]
abbrev chunk_object_1_r1 : List AI := [
 ⟨some 5, .faddr 0 (.t 2), none⟩,
 ⟨some 6, .load false 1 (.t 5) .any, none⟩,
 ⟨some 7, .mv false (.t 1), none⟩,
 ⟨some 8, .call (.c (.fn f_cmp_Compare_int)) [(.t 6), (.t 7)] 0, none⟩,
 ⟨some 4, .mv true (.t 8), none⟩]
abbrev chunk_object_1_c : ACode := .seq (.reg false chunk_object_1_r0) (.seq (.reg false chunk_object_1_r1) (.ret))
def chunk_object_1_F : AFunc := ⟨9, [.tmp 4], chunk_object_1_c⟩
theorem chunk_object_1_cp : compile Try.prog [] f_chunk_object_1 = some chunk_object_1_F := by kernel_rfl
abbrev cmp_Compare_int_r0 : List AI := [
 ⟨some 4, .mv true (.c (.int .i64 0)), none⟩]
abbrev cmp_Compare_int_r1 : List AI := [
 ⟨some 7, .mv false (.t 0), none⟩,
 ⟨some 8, .call (.c (.fn f_cmp_isNaN_int)) [(.t 7)] 0, none⟩,
 ⟨some 5, .mv true (.t 8), none⟩]
abbrev cmp_Compare_int_r2 : List AI := [
 ⟨some 9, .mv false (.t 1), none⟩,
 ⟨some 10, .call (.c (.fn f_cmp_isNaN_int)) [(.t 9)] 0, none⟩,
 ⟨some 6, .mv true (.t 10), none⟩]
abbrev cmp_Compare_int_r3 : List AI := [
 ⟨some 11, .mv false (.t 5), none⟩]
abbrev cmp_Compare_int_r4 : List AI := [
 ⟨some 12, .mv false (.t 6), none⟩]
abbrev cmp_Compare_int_r5 : List AI := [
 ⟨some 4, .mv true (.c (.int .i64 0)), none⟩]
abbrev cmp_Compare_int_r6 : List AI := [
 ⟨some 4, .mv true (.c (.int .i64 (-1))), none⟩]
abbrev cmp_Compare_int_b0 : ACode := .seq (.seq (.reg false cmp_Compare_int_r4) (.cond (.t 12) (.seq (.reg false cmp_Compare_int_r5) (.ret)) (.skip))) (.seq (.reg false cmp_Compare_int_r6) (.ret))
abbrev cmp_Compare_int_r7 : List AI := [
 ⟨some 13, .mv false (.t 6), none⟩]
abbrev cmp_Compare_int_r8 : List AI := [
 ⟨some 4, .mv true (.c (.int .i64 1)), none⟩]
abbrev cmp_Compare_int_r9 : List AI := [
 ⟨some 14, .mv false (.t 0), none⟩,
 ⟨some 15, .mv false (.t 1), none⟩,
 ⟨some 16, .bin .lss (.t 14) (.t 15), none⟩]
abbrev cmp_Compare_int_r10 : List AI := [
 ⟨some 4, .mv true (.c (.int .i64 (-1))), none⟩]
abbrev cmp_Compare_int_r11 : List AI := [
 ⟨some 17, .mv false (.t 0), none⟩,
 ⟨some 18, .mv false (.t 1), none⟩,
 ⟨some 19, .bin .gtr (.t 17) (.t 18), none⟩]
abbrev cmp_Compare_int_r12 : List AI := [
 ⟨some 4, .mv true (.c (.int .i64 1)), none⟩]
abbrev cmp_Compare_int_r13 : List AI := [
 ⟨some 4, .mv true (.c (.int .i64 0)), none⟩]
abbrev cmp_Compare_int_c : ACode := .seq (.reg false cmp_Compare_int_r0) (.seq (.reg false cmp_Compare_int_r1) (.seq (.reg false cmp_Compare_int_r2) (.seq (.seq (.reg false cmp_Compare_int_r3) (.cond (.t 11) (cmp_Compare_int_b0) (.skip))) (.seq (.seq (.reg false cmp_Compare_int_r7) (.cond (.t 13) (.seq (.reg false cmp_Compare_int_r8) (.ret)) (.skip))) (.seq (.seq (.reg false cmp_Compare_int_r9) (.cond (.t 16) (.seq (.reg false cmp_Compare_int_r10) (.ret)) (.skip))) (.seq (.seq (.reg false cmp_Compare_int_r11) (.cond (.t 19) (.seq (.reg false cmp_Compare_int_r12) (.ret)) (.skip))) (.seq (.reg false cmp_Compare_int_r13) (.ret))))))))
def cmp_Compare_int_F : AFunc := ⟨20, [.tmp 4], cmp_Compare_int_c⟩
theorem cmp_Compare_int_cp : compile Try.prog [] f_cmp_Compare_int = some cmp_Compare_int_F := by kernel_rfl
abbrev slices_Insert_api_LotObject_api_LotObject_r0 : List AI := [
 ⟨some 6, .mv true (.c .nilS), none⟩]
abbrev slices_Insert_api_LotObject_api_LotObject_r1 : List AI := [
 ⟨some 10, .mv false (.t 0), none⟩,
 ⟨some 11, .mv false (.t 1), none⟩,
 ⟨some 12, .sl 3 (.t 10) (some (.t 11)) none, none⟩]
abbrev slices_Insert_api_LotObject_api_LotObject_r2 : List AI := [
 ⟨some 13, .mv false (.t 2), none⟩,
 ⟨some 14, .len false (.t 13), none⟩,
 ⟨some 7, .mv true (.t 14), none⟩]
abbrev slices_Insert_api_LotObject_api_LotObject_r3 : List AI := [
 ⟨some 15, .mv false (.t 7), none⟩,
 ⟨some 16, .bin .eql (.t 15) (.c (.int .i64 0)), none⟩]
abbrev slices_Insert_api_LotObject_api_LotObject_r4 : List AI := [
 ⟨some 17, .mv false (.t 0), none⟩,
 ⟨some 6, .mv true (.t 17), none⟩]
abbrev slices_Insert_api_LotObject_api_LotObject_r5 : List AI := [
 ⟨some 18, .mv false (.t 0), none⟩,
 ⟨some 19, .len false (.t 18), none⟩,
 ⟨some 8, .mv true (.t 19), none⟩]
abbrev slices_Insert_api_LotObject_api_LotObject_r6 : List AI := [
 ⟨some 20, .mv false (.t 1), none⟩,
 ⟨some 21, .mv false (.t 8), none⟩,
 ⟨some 22, .bin .eql (.t 20) (.t 21), none⟩]
abbrev slices_Insert_api_LotObject_api_LotObject_r7 : List AI := [
 ⟨some 23, .mv true (.t 0), none⟩,
 ⟨some 24, .mv false (.t 2), none⟩,
 ⟨some 25, .appG 3 48 [(.int .i64 0), (.str []), .nilS] (.t 23) (.t 24), none⟩,
 ⟨some 6, .mv true (.t 25), none⟩]
abbrev slices_Insert_api_LotObject_api_LotObject_r8 : List AI := [
 ⟨some 26, .mv false (.t 8), none⟩,
 ⟨some 27, .mv false (.t 7), none⟩,
 ⟨some 28, .bin .add (.t 26) (.t 27), none⟩,
 ⟨some 29, .mv false (.t 0), none⟩,
 ⟨some 30, .cap (.t 29), none⟩,
 ⟨some 31, .bin .gtr (.t 28) (.t 30), none⟩]
abbrev slices_Insert_api_LotObject_api_LotObject_r9 : List AI := [
 ⟨some 32, .mv false (.t 0), none⟩,
 ⟨some 33, .mv false (.t 1), none⟩,
 ⟨some 34, .sl 3 (.t 32) none (some (.t 33)), none⟩,
 ⟨some 35, .mv false (.t 8), none⟩,
 ⟨some 36, .mv false (.t 7), none⟩,
 ⟨some 37, .bin .add (.t 35) (.t 36), none⟩,
 ⟨some 38, .mv false (.t 1), none⟩,
 ⟨some 39, .bin .sub (.t 37) (.t 38), none⟩,
 ⟨some 40, .appZ 3 48 [(.int .i64 0), (.str []), .nilS] (.t 34) (.t 39), none⟩,
 ⟨some 9, .mv true (.t 40), none⟩]
abbrev slices_Insert_api_LotObject_api_LotObject_r10 : List AI := [
 ⟨some 41, .mv false (.t 9), none⟩,
 ⟨some 42, .mv false (.t 1), none⟩,
 ⟨some 43, .sl 3 (.t 41) (some (.t 42)) none, none⟩,
 ⟨some 44, .mv false (.t 2), none⟩,
 ⟨some 45, .copy 3 (.t 43) (.t 44), none⟩]
abbrev slices_Insert_api_LotObject_api_LotObject_r11 : List AI := [
 ⟨some 46, .mv false (.t 9), none⟩,
 ⟨some 47, .mv false (.t 1), none⟩,
 ⟨some 48, .mv false (.t 7), none⟩,
 ⟨some 49, .bin .add (.t 47) (.t 48), none⟩,
 ⟨some 50, .sl 3 (.t 46) (some (.t 49)) none, none⟩,
 ⟨some 51, .mv false (.t 0), none⟩,
 ⟨some 52, .mv false (.t 1), none⟩,
 ⟨some 53, .sl 3 (.t 51) (some (.t 52)) none, none⟩,
 ⟨some 54, .copy 3 (.t 50) (.t 53), none⟩]
abbrev slices_Insert_api_LotObject_api_LotObject_r12 : List AI := [
 ⟨some 55, .mv false (.t 9), none⟩,
 ⟨some 6, .mv true (.t 55), none⟩]
abbrev slices_Insert_api_LotObject_api_LotObject_b0 : ACode := .seq (.reg false slices_Insert_api_LotObject_api_LotObject_r9) (.seq (.reg false slices_Insert_api_LotObject_api_LotObject_r10) (.seq (.reg true slices_Insert_api_LotObject_api_LotObject_r11) (.seq (.reg false slices_Insert_api_LotObject_api_LotObject_r12) (.ret))))
abbrev slices_Insert_api_LotObject_api_LotObject_r13 : List AI := [
 ⟨some 56, .mv false (.t 0), none⟩,
 ⟨some 57, .mv false (.t 8), none⟩,
 ⟨some 58, .mv false (.t 7), none⟩,
 ⟨some 59, .bin .add (.t 57) (.t 58), none⟩,
 ⟨some 60, .sl 3 (.t 56) none (some (.t 59)), none⟩,
 ⟨some 0, .mv true (.t 60), none⟩]
abbrev slices_Insert_api_LotObject_api_LotObject_r14 : List AI := [
 ⟨some 61, .mv false (.t 2), none⟩,
 ⟨some 62, .mv false (.t 0), none⟩,
 ⟨some 63, .mv false (.t 1), none⟩,
 ⟨some 64, .mv false (.t 7), none⟩,
 ⟨some 65, .bin .add (.t 63) (.t 64), none⟩,
 ⟨some 66, .sl 3 (.t 62) (some (.t 65)) none, none⟩,
 ⟨some 67, .call (.c (.fn f_slices_overlaps_api_LotObject)) [(.t 61), (.t 66)] 0, none⟩,
 ⟨some 68, .not (.t 67), none⟩]
abbrev slices_Insert_api_LotObject_api_LotObject_r15 : List AI := [
 ⟨some 69, .mv false (.t 0), none⟩,
 ⟨some 70, .mv false (.t 1), none⟩,
 ⟨some 71, .mv false (.t 7), none⟩,
 ⟨some 72, .bin .add (.t 70) (.t 71), none⟩,
 ⟨some 73, .sl 3 (.t 69) (some (.t 72)) none, none⟩,
 ⟨some 74, .mv false (.t 0), none⟩,
 ⟨some 75, .mv false (.t 1), none⟩,
 ⟨some 76, .sl 3 (.t 74) (some (.t 75)) none, none⟩,
 ⟨some 77, .copy 3 (.t 73) (.t 76), none⟩]
abbrev slices_Insert_api_LotObject_api_LotObject_r16 : List AI := [
 ⟨some 78, .mv false (.t 0), none⟩,
 ⟨some 79, .mv false (.t 1), none⟩,
 ⟨some 80, .sl 3 (.t 78) (some (.t 79)) none, none⟩,
 ⟨some 81, .mv false (.t 2), none⟩,
 ⟨some 82, .copy 3 (.t 80) (.t 81), none⟩]
abbrev slices_Insert_api_LotObject_api_LotObject_r17 : List AI := [
 ⟨some 83, .mv false (.t 0), none⟩,
 ⟨some 6, .mv true (.t 83), none⟩]
abbrev slices_Insert_api_LotObject_api_LotObject_b1 : ACode := .seq (.reg true slices_Insert_api_LotObject_api_LotObject_r15) (.seq (.reg false slices_Insert_api_LotObject_api_LotObject_r16) (.seq (.reg false slices_Insert_api_LotObject_api_LotObject_r17) (.ret)))
abbrev slices_Insert_api_LotObject_api_LotObject_r18 : List AI := [
 ⟨some 84, .mv false (.t 0), none⟩,
 ⟨some 85, .mv false (.t 8), none⟩,
 ⟨some 86, .sl 3 (.t 84) (some (.t 85)) none, none⟩,
 ⟨some 87, .mv false (.t 2), none⟩,
 ⟨some 88, .copy 3 (.t 86) (.t 87), none⟩]
abbrev slices_Insert_api_LotObject_api_LotObject_r19 : List AI := [
 ⟨some 89, .mv false (.t 0), none⟩,
 ⟨some 90, .mv false (.t 1), none⟩,
 ⟨some 91, .sl 3 (.t 89) (some (.t 90)) none, none⟩,
 ⟨some 92, .mv false (.t 7), none⟩,
 ⟨some 93, .call (.c (.fn f_slices_rotateRight_api_LotObject)) [(.t 91), (.t 92)] 0, none⟩]
abbrev slices_Insert_api_LotObject_api_LotObject_r20 : List AI := [
 ⟨some 94, .mv false (.t 0), none⟩,
 ⟨some 6, .mv true (.t 94), none⟩]
abbrev slices_Insert_api_LotObject_api_LotObject_c : ACode := .seq (.reg false slices_Insert_api_LotObject_api_LotObject_r0) (.seq (.reg false slices_Insert_api_LotObject_api_LotObject_r1) (.seq (.reg false slices_Insert_api_LotObject_api_LotObject_r2) (.seq (.seq (.reg false slices_Insert_api_LotObject_api_LotObject_r3) (.cond (.t 16) (.seq (.reg false slices_Insert_api_LotObject_api_LotObject_r4) (.ret)) (.skip))) (.seq (.reg false slices_Insert_api_LotObject_api_LotObject_r5) (.seq (.seq (.reg false slices_Insert_api_LotObject_api_LotObject_r6) (.cond (.t 22) (.seq (.reg false slices_Insert_api_LotObject_api_LotObject_r7) (.ret)) (.skip))) (.seq (.seq (.reg false slices_Insert_api_LotObject_api_LotObject_r8) (.cond (.t 31) (slices_Insert_api_LotObject_api_LotObject_b0) (.skip))) (.seq (.reg false slices_Insert_api_LotObject_api_LotObject_r13) (.seq (.seq (.reg false slices_Insert_api_LotObject_api_LotObject_r14) (.cond (.t 68) (slices_Insert_api_LotObject_api_LotObject_b1) (.skip))) (.seq (.reg false slices_Insert_api_LotObject_api_LotObject_r18) (.seq (.reg false slices_Insert_api_LotObject_api_LotObject_r19) (.seq (.reg false slices_Insert_api_LotObject_api_LotObject_r20) (.ret))))))))))))
def slices_Insert_api_LotObject_api_LotObject_F : AFunc := ⟨95, [.tmp 6], slices_Insert_api_LotObject_api_LotObject_c⟩
theorem slices_Insert_api_LotObject_api_LotObject_cp : compile Try.prog [25] f_slices_Insert_api_LotObject_api_LotObject = some slices_Insert_api_LotObject_api_LotObject_F := by kernel_rfl
abbrev slices_Clone_int_int_r0 : List AI := [
 ⟨some 2, .mv true (.c .nilS), none⟩]
abbrev slices_Clone_int_int_r1 : List AI := [
 ⟨some 3, .mv false (.t 0), none⟩,
 ⟨some 4, .isnil false (.t 3), none⟩]
abbrev slices_Clone_int_int_r2 : List AI := [
 ⟨some 2, .mv true (.c .nilS), none⟩]
abbrev slices_Clone_int_int_r3 : List AI := [
 ⟨some 5, .mkslice 1 0 (.int .i64 0) [], none⟩,
 ⟨some 6, .mv false (.t 0), none⟩,
 ⟨some 7, .append 1 8 (.t 5) (.t 6), none⟩,
 ⟨some 2, .mv true (.t 7), none⟩]
abbrev slices_Clone_int_int_c : ACode := .seq (.reg false slices_Clone_int_int_r0) (.seq (.seq (.reg false slices_Clone_int_int_r1) (.cond (.t 4) (.seq (.reg false slices_Clone_int_int_r2) (.ret)) (.skip))) (.seq (.reg false slices_Clone_int_int_r3) (.ret)))
def slices_Clone_int_int_F : AFunc := ⟨8, [.tmp 2], slices_Clone_int_int_c⟩
theorem slices_Clone_int_int_cp : compile Try.prog [] f_slices_Clone_int_int = some slices_Clone_int_int_F := by kernel_rfl
abbrev slices_Delete_api_LotObject_api_LotObject_r0 : List AI := [
 ⟨some 6, .mv true (.c .nilS), none⟩]
abbrev slices_Delete_api_LotObject_api_LotObject_r1 : List AI := [
 ⟨some 8, .mv false (.t 0), none⟩,
 ⟨some 9, .mv false (.t 1), none⟩,
 ⟨some 10, .mv false (.t 2), none⟩,
 ⟨some 11, .mv false (.t 0), none⟩,
 ⟨some 12, .len false (.t 11), none⟩,
 ⟨some 13, .sl3 3 (.t 8) (some (.t 9)) (.t 10) (.t 12), none⟩]
abbrev slices_Delete_api_LotObject_api_LotObject_r2 : List AI := [
 ⟨some 14, .mv false (.t 1), none⟩,
 ⟨some 15, .mv false (.t 2), none⟩,
 ⟨some 16, .bin .eql (.t 14) (.t 15), none⟩]
abbrev slices_Delete_api_LotObject_api_LotObject_r3 : List AI := [
 ⟨some 17, .mv false (.t 0), none⟩,
 ⟨some 6, .mv true (.t 17), none⟩]
abbrev slices_Delete_api_LotObject_api_LotObject_r4 : List AI := [
 ⟨some 18, .mv false (.t 0), none⟩,
 ⟨some 19, .len false (.t 18), none⟩,
 ⟨some 7, .mv true (.t 19), none⟩]
abbrev slices_Delete_api_LotObject_api_LotObject_r5 : List AI := [
 ⟨some 20, .mv false (.t 0), none⟩,
 ⟨some 21, .mv false (.t 1), none⟩,
 ⟨some 22, .sl 3 (.t 20) none (some (.t 21)), none⟩,
 ⟨some 23, .mv false (.t 0), none⟩,
 ⟨some 24, .mv false (.t 2), none⟩,
 ⟨some 25, .sl 3 (.t 23) (some (.t 24)) none, none⟩,
 ⟨some 26, .appG 3 48 [(.int .i64 0), (.str []), .nilS] (.t 22) (.t 25), none⟩,
 ⟨some 0, .mv true (.t 26), none⟩]
abbrev slices_Delete_api_LotObject_api_LotObject_r6 : List AI := [
 ⟨some 27, .mv false (.t 0), none⟩,
 ⟨some 28, .mv false (.t 0), none⟩,
 ⟨some 29, .len false (.t 28), none⟩,
 ⟨some 30, .mv false (.t 7), none⟩,
 ⟨some 31, .sl 3 (.t 27) (some (.t 29)) (some (.t 30)), none⟩,
 ⟨none, .gd (.clr 3 [(.int .i64 0), (.str []), .nilS]) [(.t 31)], none⟩]
abbrev slices_Delete_api_LotObject_api_LotObject_r7 : List AI := [
 ⟨some 32, .mv false (.t 0), none⟩,
 ⟨some 6, .mv true (.t 32), none⟩]
abbrev slices_Delete_api_LotObject_api_LotObject_c : ACode := .seq (.reg false slices_Delete_api_LotObject_api_LotObject_r0) (.seq (.reg false slices_Delete_api_LotObject_api_LotObject_r1) (.seq (.seq (.reg false slices_Delete_api_LotObject_api_LotObject_r2) (.cond (.t 16) (.seq (.reg false slices_Delete_api_LotObject_api_LotObject_r3) (.ret)) (.skip))) (.seq (.reg false slices_Delete_api_LotObject_api_LotObject_r4) (.seq (.reg true slices_Delete_api_LotObject_api_LotObject_r5) (.seq (.reg false slices_Delete_api_LotObject_api_LotObject_r6) (.seq (.reg false slices_Delete_api_LotObject_api_LotObject_r7) (.ret)))))))
def slices_Delete_api_LotObject_api_LotObject_F : AFunc := ⟨33, [.tmp 6], slices_Delete_api_LotObject_api_LotObject_c⟩
theorem slices_Delete_api_LotObject_api_LotObject_cp : compile Try.prog [26] f_slices_Delete_api_LotObject_api_LotObject = some slices_Delete_api_LotObject_api_LotObject_F := by kernel_rfl
-- loop 0: [1, 2, 3, 7]
-- loop 0: [1, 2, 5, 6, 7]
-- loop 1: [1, 2, 5, 6]
abbrev cmp_isNaN_int_r0 : List AI := [
 ⟨some 2, .mv true (.c (.bool false)), none⟩]
abbrev cmp_isNaN_int_r1 : List AI := [
 ⟨some 3, .mv false (.t 0), none⟩,
 ⟨some 4, .mv false (.t 0), none⟩,
 ⟨some 5, .bin .neq (.t 3) (.t 4), none⟩,
 ⟨some 2, .mv true (.t 5), none⟩]
abbrev cmp_isNaN_int_c : ACode := .seq (.reg false cmp_isNaN_int_r0) (.seq (.reg false cmp_isNaN_int_r1) (.ret))
def cmp_isNaN_int_F : AFunc := ⟨6, [.tmp 2], cmp_isNaN_int_c⟩
theorem cmp_isNaN_int_cp : compile Try.prog [] f_cmp_isNaN_int = some cmp_isNaN_int_F := by kernel_rfl
theorem fol : Try.prog.follows .mixedOrders = true := by kernel_rfl
end
end Go.Proofs.Ytbcnnomgfheaoaa
