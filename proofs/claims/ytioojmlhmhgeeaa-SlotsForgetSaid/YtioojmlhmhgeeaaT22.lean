/-
 The functions' code in the evaluator's form, printed by a program of ours from the loaded program, and checked against it.
 Conditions: none.
-/
import Derived.Test.YtioojmlhmhgeeaaProg
import Derived.KernelRfl
import Derived.Test.YtioojmlhmhgeeaaEZ
namespace Go.Proofs.Ytioojmlhmhgeeaa
open Go Go.E2
noncomputable section
abbrev f_zz0 : FuncId := 9
abbrev f_zz32 : FuncId := 11
abbrev f_zz3 : FuncId := 12
abbrev f_zz14 : FuncId := 13
abbrev f_zz27 : FuncId := 15
abbrev f_zz31 : FuncId := 16
abbrev f_zz21 : FuncId := 17
abbrev f_zz17 : FuncId := 18
abbrev f_zz10 : FuncId := 19
abbrev f_zz16 : FuncId := 20
abbrev f_zz12 : FuncId := 26
abbrev f_zz22 : FuncId := 27
abbrev f_zz20 : FuncId := 28
abbrev f_zz13 : FuncId := 29
abbrev f_zz25 : FuncId := 32
abbrev f_zz23 : FuncId := 33
abbrev f_zz26 : FuncId := 35
abbrev f_zz2 : FuncId := 39
abbrev f_zz1 : FuncId := 40
abbrev f_zz8 : FuncId := 46
abbrev f_zz15 : FuncId := 47
abbrev f_zz24 : FuncId := 48
abbrev f_zz29 : FuncId := 49
abbrev f_zz19 : FuncId := 50
abbrev f_zz18 : FuncId := 51
abbrev f_zz6 : FuncId := 52
abbrev f_zz7 : FuncId := 61
abbrev f_zz30 : FuncId := 62
abbrev f_zz9 : FuncId := 70
abbrev f_zz28 : FuncId := 71
abbrev f_zz11 : FuncId := 72
abbrev f_zz4 : FuncId := 74
abbrev f_zz5 : FuncId := 80
-- loop 0: [7, 8, 9, 10, 61]
-- loop 0: [0, 2, 9, 10, 101]
-- loop 1: [0, 2, 9, 10, 15, 128, 129, 130]
abbrev zz0_r0 : List AI := [
 ⟨some 6, .mv true (.c (.bool false)), none⟩]
abbrev zz0_r1 : List AI := [
 ⟨some 21, .call (.c (.fn f_zz32)) [(.c (.int .i64 6))] 0, none⟩,
 ⟨some 22, .call (.c (.fn f_zz32)) [(.c (.int .i64 6))] 0, none⟩,
 ⟨some 7, .mv true (.t 21), none⟩,
 ⟨some 8, .mv true (.t 22), none⟩]
abbrev zz0_r2 : List AI := [
 ⟨some 23, .mv false (.t 0), none⟩,
 ⟨some 24, .len false (.t 23), none⟩,
 ⟨some 25, .bin .eql (.t 24) (.c (.int .i64 0)), none⟩,
 ⟨some 26, .mv false (.t 25), none⟩,
 ⟨some 27, .mv false (.t 0), some (26, false)⟩,
 ⟨some 28, .len false (.t 27), some (26, false)⟩,
 ⟨some 29, .bin .gtr (.t 28) (.c (.int .i64 30)), some (26, false)⟩,
 ⟨some 30, .pick (.t 26) (.c (.bool true)) (.t 29), none⟩,
 ⟨some 31, .mv false (.t 30), none⟩,
 ⟨some 32, .mv false (.t 2), some (31, false)⟩,
 ⟨some 33, .len true (.t 32), some (31, false)⟩,
 ⟨some 34, .bin .lss (.t 33) (.c (.int .i64 1)), some (31, false)⟩,
 ⟨some 35, .pick (.t 31) (.c (.bool true)) (.t 34), none⟩,
 ⟨some 36, .mv false (.t 35), none⟩,
 ⟨some 37, .mv false (.t 2), some (36, false)⟩,
 ⟨some 38, .len true (.t 37), some (36, false)⟩,
 ⟨some 39, .bin .gtr (.t 38) (.c (.int .i64 55)), some (36, false)⟩,
 ⟨some 40, .pick (.t 36) (.c (.bool true)) (.t 39), none⟩,
 ⟨some 41, .mv false (.t 40), none⟩,
 ⟨some 42, .mv false (.t 7), some (41, false)⟩,
 ⟨some 43, .gd (.pnil 0 false) [(.t 42)], some (41, false)⟩,
 ⟨some 44, .pick (.t 41) (.c (.bool true)) (.t 43), none⟩,
 ⟨some 45, .mv false (.t 44), none⟩,
 ⟨some 46, .mv false (.t 8), some (45, false)⟩,
 ⟨some 47, .gd (.pnil 0 false) [(.t 46)], some (45, false)⟩,
 ⟨some 48, .pick (.t 45) (.c (.bool true)) (.t 47), none⟩]
abbrev zz0_r3 : List AI := [
 ⟨some 49, .call (.c (.fn f_zz3)) [] 0, none⟩,
 ⟨some 6, .mv true (.t 49), none⟩]
abbrev zz0_r4 : List AI := [
 ⟨some 50, .mv false (.t 1), none⟩,
 ⟨some 51, .conv .i64 (.t 50), none⟩,
 ⟨some 52, .mv false (.t 0), none⟩,
 ⟨some 53, .len false (.t 52), none⟩,
 ⟨some 54, .bin .rem (.t 51) (.t 53), none⟩,
 ⟨some 9, .mv true (.t 54), none⟩]
abbrev zz0_r5 : List AI := [
 ⟨some 55, .mv false (.t 0), none⟩,
 ⟨some 56, .mv false (.t 9), none⟩,
 ⟨some 57, .iaddr 4 (.t 55) (.t 56), none⟩,
 ⟨some 58, .faddr 0 (.t 57), none⟩,
 ⟨some 59, .load false 1 (.t 58) .any, none⟩,
 ⟨some 60, .bin .neq (.t 59) (.c (.int .i64 0)), none⟩,
 ⟨some 61, .mv false (.t 60), none⟩,
 ⟨some 62, .mv false (.t 0), some (61, false)⟩,
 ⟨some 63, .mv false (.t 9), some (61, false)⟩,
 ⟨some 64, .iaddr 4 (.t 62) (.t 63), some (61, false)⟩,
 ⟨some 65, .faddr 2 (.t 64), some (61, false)⟩,
 ⟨some 66, .load false 1 (.t 65) .any, some (61, false)⟩,
 ⟨some 67, .len true (.t 66), some (61, false)⟩,
 ⟨some 68, .bin .lss (.t 67) (.c (.int .i64 1)), some (61, false)⟩,
 ⟨some 69, .pick (.t 61) (.c (.bool true)) (.t 68), none⟩,
 ⟨some 70, .mv false (.t 69), none⟩,
 ⟨some 71, .mv false (.t 0), some (70, false)⟩,
 ⟨some 72, .mv false (.t 9), some (70, false)⟩,
 ⟨some 73, .iaddr 4 (.t 71) (.t 72), some (70, false)⟩,
 ⟨some 74, .faddr 2 (.t 73), some (70, false)⟩,
 ⟨some 75, .load false 1 (.t 74) .any, some (70, false)⟩,
 ⟨some 76, .len true (.t 75), some (70, false)⟩,
 ⟨some 77, .bin .gtr (.t 76) (.c (.int .i64 55)), some (70, false)⟩,
 ⟨some 78, .pick (.t 70) (.c (.bool true)) (.t 77), none⟩,
 ⟨some 79, .mv false (.t 78), none⟩,
 ⟨some 80, .mv false (.t 0), some (79, false)⟩,
 ⟨some 81, .mv false (.t 9), some (79, false)⟩,
 ⟨some 82, .iaddr 4 (.t 80) (.t 81), some (79, false)⟩,
 ⟨some 83, .faddr 1 (.t 82), some (79, false)⟩,
 ⟨some 84, .load false 1 (.t 83) .any, some (79, false)⟩,
 ⟨some 85, .bin .lss (.t 84) (.c (.int .i64 0)), some (79, false)⟩,
 ⟨some 86, .pick (.t 79) (.c (.bool true)) (.t 85), none⟩,
 ⟨some 87, .mv false (.t 86), none⟩,
 ⟨some 88, .mv false (.t 0), some (87, false)⟩,
 ⟨some 89, .mv false (.t 9), some (87, false)⟩,
 ⟨some 90, .iaddr 4 (.t 88) (.t 89), some (87, false)⟩,
 ⟨some 91, .faddr 1 (.t 90), some (87, false)⟩,
 ⟨some 92, .load false 1 (.t 91) .any, some (87, false)⟩,
 ⟨some 93, .bin .gtr (.t 92) (.c (.int .i64 2)), some (87, false)⟩,
 ⟨some 94, .pick (.t 87) (.c (.bool true)) (.t 93), none⟩]
abbrev zz0_r6 : List AI := [
 ⟨some 95, .call (.c (.fn f_zz3)) [] 0, none⟩,
 ⟨some 6, .mv true (.t 95), none⟩]
abbrev zz0_r7 : List AI := [
 ⟨some 96, .mv false (.t 7), none⟩,
 ⟨some 97, .mv false (.t 8), none⟩,
 ⟨some 98, .build [.nilP, .nilP] [(0, 1, (.t 96)), (1, 1, (.t 97))], none⟩,
 ⟨some 99, .build [.nilP, .nilP, .nilP, .nilP] [(0, 2, (.t 98))], none⟩,
 ⟨some 100, .gn (.box 4) [(.t 99)], none⟩,
 ⟨some 10, .mv true (.t 100), none⟩]
abbrev zz0_r8 : List AI := [
 ⟨some 101, .mv false (.c (.int .i64 0)), none⟩]
abbrev zz0_r9 : List AI := [
 ⟨some 102, .bin .lss (.t 101) (.c (.int .i64 2)), none⟩]
abbrev zz0_r10 : List AI := [
 ⟨some 103, .mv false (.t 101), none⟩,
 ⟨some 11, .mv true (.t 103), none⟩]
abbrev zz0_r11 : List AI := [
 ⟨some 105, .mv false (.t 10), none⟩,
 ⟨some 106, .mv false (.t 11), none⟩,
 ⟨some 107, .nilck (.t 105), none⟩,
 ⟨some 108, .faddr 0 (.t 107), none⟩,
 ⟨some 109, .iaddrA 2 1 (.t 108) (.t 106), none⟩,
 ⟨some 110, .load false 1 (.t 109) .any, none⟩,
 ⟨some 111, .call (.c (.fn f_zz31)) [(.t 110), (.c (.int .i64 0)), (.c (.int .i64 3))] 0, none⟩,
 ⟨some 104, .mv false (.t 111), none⟩,
 ⟨some 112, .ext (.t 104) 0, none⟩,
 ⟨some 113, .ext (.t 104) 1, none⟩,
 ⟨some 114, .ext (.t 104) 2, none⟩,
 ⟨some 12, .mv true (.t 112), none⟩,
 ⟨some 13, .mv true (.t 113), none⟩,
 ⟨some 14, .mv true (.t 114), none⟩]
abbrev zz0_r12 : List AI := [
 ⟨some 115, .mv false (.t 12), none⟩,
 ⟨some 116, .gd (.pnil 0 false) [(.t 115)], none⟩,
 ⟨some 117, .mv false (.t 116), none⟩,
 ⟨some 118, .mv false (.t 14), some (117, false)⟩,
 ⟨some 119, .bin .neq (.t 118) (.c (.int .i64 0)), some (117, false)⟩,
 ⟨some 120, .pick (.t 117) (.c (.bool true)) (.t 119), none⟩]
abbrev zz0_r13 : List AI := [
 ⟨some 6, .mv true (.c (.bool false)), none⟩]
abbrev zz0_r14 : List AI := [
 ⟨some 121, .mv false (.t 10), none⟩,
 ⟨some 122, .mv false (.t 11), none⟩,
 ⟨some 123, .mv false (.t 12), none⟩,
 ⟨some 124, .nilck (.t 121), none⟩,
 ⟨some 125, .faddr 2 (.t 124), none⟩,
 ⟨some 126, .iaddrA 2 1 (.t 125) (.t 122), none⟩,
 ⟨none, .store 1 (.t 126) (.t 123) .any, none⟩]
abbrev zz0_r15 : List AI := [
 ⟨some 127, .bin .add (.t 101) (.c (.int .i64 1)), none⟩,
 ⟨some 101, .mv false (.t 127), none⟩]
abbrev zz0_l0 : ACode := .seq (.reg false zz0_r9) (.seq (.cond (.t 102) (.skip) (.exit 0)) (.seq (.block 1 (.seq (.reg false zz0_r10) (.seq (.reg false zz0_r11) (.seq (.seq (.reg false zz0_r12) (.cond (.t 120) (.seq (.reg false zz0_r13) (.ret)) (.skip))) (.reg false zz0_r14))))) (.reg false zz0_r15)))
abbrev zz0_r16 : List AI := [
 ⟨some 15, .mv true (.c (.bool false)), none⟩]
abbrev zz0_r17 : List AI := [
 ⟨some 128, .mv false (.t 0), none⟩,
 ⟨some 129, .len false (.t 128), none⟩,
 ⟨some 130, .mv false (.c (.int .i64 0)), none⟩]
abbrev zz0_r18 : List AI := [
 ⟨some 131, .bin .lss (.t 130) (.t 129), none⟩]
abbrev zz0_r19 : List AI := [
 ⟨some 132, .mv false (.t 130), none⟩,
 ⟨some 133, .iaddr 4 (.t 128) (.t 130), none⟩,
 ⟨some 134, .load true 4 (.t 133) .any, none⟩,
 ⟨some 17, .alloc [(.int .i64 0), (.int .i64 0), (.str []), .nilS], none⟩,
 ⟨some 16, .mv true (.t 132), none⟩,
 ⟨none, .store 4 (.t 17) (.t 134) .any, none⟩]
abbrev zz0_r20 : List AI := [
 ⟨some 135, .mv false (.t 10), none⟩,
 ⟨some 136, .nilck (.t 135), none⟩,
 ⟨some 137, .faddr 0 (.t 136), none⟩,
 ⟨some 138, .iaddrA 2 1 (.t 137) (.c (.int .i64 0)), none⟩,
 ⟨some 139, .load false 1 (.t 138) .any, none⟩,
 ⟨some 140, .call (.c (.fn f_zz20)) [(.t 139)] 0, none⟩,
 ⟨some 141, .mv false (.t 140), none⟩,
 ⟨some 142, .faddr 0 (.t 17), some (141, true)⟩,
 ⟨some 143, .load false 1 (.t 142) .any, some (141, true)⟩,
 ⟨some 144, .bin .neq (.t 143) (.c (.int .i64 4)), some (141, true)⟩,
 ⟨some 145, .pick (.t 141) (.t 144) (.c (.bool false)), none⟩]
abbrev zz0_r21 : List AI := [
 ⟨some 146, .faddr 2 (.t 17), none⟩,
 ⟨some 147, .load false 1 (.t 146) .any, none⟩,
 ⟨some 148, .faddr 2 (.t 17), none⟩,
 ⟨some 149, .load false 1 (.t 148) .any, none⟩,
 ⟨some 150, .build [(.str []), (.str [])] [(0, 1, (.t 147)), (1, 1, (.t 149))], none⟩,
 ⟨some 18, .alloc [(.str []), (.str [])], none⟩,
 ⟨none, .store 2 (.t 18) (.t 150) .any, none⟩]
abbrev zz0_r22 : List AI := [
 ⟨some 151, .mv false (.t 16), none⟩,
 ⟨some 152, .mv false (.t 9), none⟩,
 ⟨some 153, .bin .eql (.t 151) (.t 152), none⟩]
abbrev zz0_r23 : List AI := [
 ⟨some 154, .mv false (.t 2), none⟩,
 ⟨some 155, .iaddrA 2 1 (.t 18) (.c (.int .i64 1)), none⟩,
 ⟨none, .store 1 (.t 155) (.t 154) .any, none⟩]
abbrev zz0_r24 : List AI := [
 ⟨some 157, .mv false (.t 10), none⟩,
 ⟨some 158, .load true 4 (.t 17) .any, none⟩,
 ⟨some 159, .load true 2 (.t 18) .any, none⟩,
 ⟨some 160, .call (.c (.fn f_zz2)) [(.t 157), (.t 158), (.t 159)] 0, none⟩,
 ⟨some 156, .mv false (.t 160), none⟩,
 ⟨some 161, .ext (.t 156) 0, none⟩,
 ⟨some 162, .ext (.t 156) 1, none⟩,
 ⟨some 19, .mv true (.t 161), none⟩,
 ⟨some 20, .mv true (.t 162), none⟩]
abbrev zz0_r25 : List AI := [
 ⟨some 163, .mv false (.t 19), none⟩,
 ⟨some 164, .not (.t 163), none⟩]
abbrev zz0_r26 : List AI := [
 ⟨some 6, .mv true (.c (.bool false)), none⟩]
abbrev zz0_r27 : List AI := [
 ⟨some 165, .mv false (.t 15), none⟩,
 ⟨some 166, .mv false (.t 165), none⟩,
 ⟨some 167, .mv false (.t 16), some (166, false)⟩,
 ⟨some 168, .mv false (.t 9), some (166, false)⟩,
 ⟨some 169, .bin .gtr (.t 167) (.t 168), some (166, false)⟩,
 ⟨some 170, .mv false (.t 169), some (166, false)⟩,
 ⟨some 171, .faddr 0 (.t 17), some (170, true)⟩,
 ⟨some 172, .load false 1 (.t 171) (.site 17), some (170, true)⟩,
 ⟨some 173, .bin .leq (.t 172) (.c (.int .i64 1)), some (170, true)⟩,
 ⟨some 174, .pick (.t 170) (.t 173) (.c (.bool false)), some (166, false)⟩,
 ⟨some 175, .mv false (.t 174), some (166, false)⟩,
 ⟨some 176, .faddr 0 (.t 17), some (175, true)⟩,
 ⟨some 177, .load false 1 (.t 176) (.site 17), some (175, true)⟩,
 ⟨some 178, .bin .geq (.t 177) (.c (.int .i64 0)), some (175, true)⟩,
 ⟨some 179, .pick (.t 175) (.t 178) (.c (.bool false)), some (166, false)⟩,
 ⟨some 180, .mv false (.t 179), some (166, false)⟩,
 ⟨some 181, .faddr 1 (.t 17), some (180, true)⟩,
 ⟨some 182, .load false 1 (.t 181) (.site 17), some (180, true)⟩,
 ⟨some 183, .mv false (.t 0), some (180, true)⟩,
 ⟨some 184, .mv false (.t 9), some (180, true)⟩,
 ⟨some 185, .iaddr 4 (.t 183) (.t 184), some (180, true)⟩,
 ⟨some 186, .faddr 1 (.t 185), some (180, true)⟩,
 ⟨some 187, .load false 1 (.t 186) .foreign, some (180, true)⟩,
 ⟨some 188, .bin .eql (.t 182) (.t 187), some (180, true)⟩,
 ⟨some 189, .pick (.t 180) (.t 188) (.c (.bool false)), some (166, false)⟩,
 ⟨some 190, .mv false (.t 189), some (166, false)⟩,
 ⟨some 191, .mv false (.t 20), some (190, true)⟩,
 ⟨some 192, .bin .eql (.t 191) (.c (.int .i64 0)), some (190, true)⟩,
 ⟨some 193, .pick (.t 190) (.t 192) (.c (.bool false)), some (166, false)⟩,
 ⟨some 194, .pick (.t 166) (.c (.bool true)) (.t 193), none⟩,
 ⟨some 15, .mv true (.t 194), none⟩]
abbrev zz0_r28 : List AI := [
 ⟨some 195, .mv false (.t 15), none⟩,
 ⟨some 196, .mv false (.t 195), none⟩,
 ⟨some 197, .mv false (.t 16), some (196, false)⟩,
 ⟨some 198, .mv false (.t 9), some (196, false)⟩,
 ⟨some 199, .bin .lss (.t 197) (.t 198), some (196, false)⟩,
 ⟨some 200, .pick (.t 196) (.c (.bool true)) (.t 199), none⟩,
 ⟨some 201, .mv false (.t 200), none⟩,
 ⟨some 202, .mv false (.t 10), some (201, true)⟩,
 ⟨some 203, .call (.c (.fn f_zz1)) [(.t 202)] 0, some (201, true)⟩,
 ⟨some 204, .not (.t 203), some (201, true)⟩,
 ⟨some 205, .pick (.t 201) (.t 204) (.c (.bool false)), none⟩]
abbrev zz0_r29 : List AI := [
 ⟨some 6, .mv true (.c (.bool false)), none⟩]
abbrev zz0_r30 : List AI := [
 ⟨some 206, .bin .add (.t 130) (.c (.int .i64 1)), none⟩,
 ⟨some 130, .mv false (.t 206), none⟩]
abbrev zz0_l1 : ACode := .seq (.reg false zz0_r18) (.seq (.cond (.t 131) (.skip) (.exit 2)) (.seq (.block 3 (.seq (.reg false zz0_r19) (.seq (.seq (.reg false zz0_r20) (.cond (.t 145) (.exit 3) (.skip))) (.seq (.reg false zz0_r21) (.seq (.seq (.reg false zz0_r22) (.cond (.t 153) (.reg false zz0_r23) (.skip))) (.seq (.reg false zz0_r24) (.seq (.seq (.reg false zz0_r25) (.cond (.t 164) (.seq (.reg false zz0_r26) (.ret)) (.skip))) (.seq (.reg true zz0_r27) (.seq (.reg false zz0_r28) (.cond (.t 205) (.seq (.reg false zz0_r29) (.ret)) (.skip))))))))))) (.reg false zz0_r30)))
abbrev zz0_r31 : List AI := [
 ⟨some 207, .call (.c (.fn f_zz3)) [] 0, none⟩,
 ⟨some 6, .mv true (.t 207), none⟩]
abbrev zz0_c : ACode := .seq (.reg false zz0_r0) (.seq (.reg false zz0_r1) (.seq (.seq (.reg false zz0_r2) (.cond (.t 48) (.seq (.reg false zz0_r3) (.ret)) (.skip))) (.seq (.reg false zz0_r4) (.seq (.seq (.reg false zz0_r5) (.cond (.t 94) (.seq (.reg false zz0_r6) (.ret)) (.skip))) (.seq (.reg false zz0_r7) (.seq (.seq (.reg false zz0_r8) (.block 0 (.loop zz0_l0))) (.seq (.reg false zz0_r16) (.seq (.seq (.reg false zz0_r17) (.block 2 (.loop zz0_l1))) (.seq (.reg false zz0_r31) (.ret))))))))))
def zz0_F : AFunc := ⟨208, [.tmp 6], zz0_c⟩
theorem zz0_cp : compile Try.prog [100] f_zz0 = some zz0_F := by kernel_rfl
abbrev zz32_r0 : List AI := [
 ⟨some 2, .mv true (.c .nilP), none⟩]
abbrev zz32_r1 : List AI := [
 ⟨some 3, .mv false (.t 0), none⟩,
 ⟨some 4, .bin .lss (.t 3) (.c (.int .i64 1)), none⟩,
 ⟨some 5, .mv false (.t 4), none⟩,
 ⟨some 6, .mv false (.t 0), some (5, false)⟩,
 ⟨some 7, .bin .gtr (.t 6) (.c (.int .i64 65536)), some (5, false)⟩,
 ⟨some 8, .pick (.t 5) (.c (.bool true)) (.t 7), none⟩]
abbrev zz32_r2 : List AI := [
 ⟨some 2, .mv true (.c .nilP), none⟩]
abbrev zz32_r3 : List AI := [
 ⟨some 9, .mv false (.t 0), none⟩,
 ⟨some 10, .gn (.mkSl 65 65 (zr 64 (.int .u8 0) ++ [(.bool false)])) [(.t 9), (.t 9)], none⟩,
 ⟨some 11, .gn .mkM [], none⟩,
 ⟨some 12, .build [.nilS, .nilM, (.int .i64 0), (.int .i64 0), (.bool false)] [(0, 1, (.t 10)), (1, 1, (.t 11)), (3, 1, (.c (.int .i64 (-1))))], none⟩,
 ⟨some 13, .gn (.box 5) [(.t 12)], none⟩,
 ⟨some 2, .mv true (.t 13), none⟩]
abbrev zz32_c : ACode := .seq (.reg false zz32_r0) (.seq (.seq (.reg false zz32_r1) (.cond (.t 8) (.seq (.reg false zz32_r2) (.ret)) (.skip))) (.seq (.reg false zz32_r3) (.ret)))
def zz32_F : AFunc := ⟨14, [.tmp 2], zz32_c⟩
theorem zz32_cp : compile Try.prog [13] f_zz32 = some zz32_F := by kernel_rfl
abbrev zz3_r0 : List AI := [
 ⟨some 0, .mv true (.c (.bool false)), none⟩]
abbrev zz3_r1 : List AI := [
 ⟨some 24, .call (.c (.fn f_zz32)) [(.c (.int .i64 8))] 0, none⟩,
 ⟨some 1, .mv true (.t 24), none⟩]
abbrev zz3_r2 : List AI := [
 ⟨some 25, .mv false (.t 1), none⟩,
 ⟨some 26, .gd (.pnil 0 false) [(.t 25)], none⟩,
 ⟨some 27, .mv false (.t 26), none⟩,
 ⟨some 28, .mv false (.t 1), some (27, false)⟩,
 ⟨some 29, .call (.c (.fn f_zz27)) [(.t 28), (.c (.int .i64 0)), (.c (.int .i64 4))] 0, some (27, false)⟩,
 ⟨some 30, .bin .neq (.t 29) (.c (.int .i64 0)), some (27, false)⟩,
 ⟨some 31, .pick (.t 27) (.c (.bool true)) (.t 30), none⟩,
 ⟨some 32, .mv false (.t 31), none⟩,
 ⟨some 33, .mv false (.t 1), some (32, false)⟩,
 ⟨some 34, .call (.c (.fn f_zz13)) [(.t 33)] 0, some (32, false)⟩,
 ⟨some 35, .bin .neq (.t 34) (.c (.int .i64 9)), some (32, false)⟩,
 ⟨some 36, .pick (.t 32) (.c (.bool true)) (.t 35), none⟩]
abbrev zz3_r3 : List AI := [
 ⟨some 0, .mv true (.c (.bool false)), none⟩]
abbrev zz3_r4 : List AI := [
 ⟨some 38, .mv false (.t 1), none⟩,
 ⟨some 39, .call (.c (.fn f_zz31)) [(.t 38), (.c (.int .i64 0)), (.c (.int .i64 4))] 0, none⟩,
 ⟨some 37, .mv false (.t 39), none⟩,
 ⟨some 40, .ext (.t 37) 0, none⟩,
 ⟨some 41, .ext (.t 37) 1, none⟩,
 ⟨some 42, .ext (.t 37) 2, none⟩,
 ⟨some 2, .mv true (.t 40), none⟩,
 ⟨some 3, .mv true (.t 41), none⟩,
 ⟨some 4, .mv true (.t 42), none⟩]
abbrev zz3_r5 : List AI := [
 ⟨some 43, .mv false (.t 4), none⟩,
 ⟨some 44, .bin .neq (.t 43) (.c (.int .i64 0)), none⟩,
 ⟨some 45, .mv false (.t 44), none⟩,
 ⟨some 46, .mv false (.t 2), some (45, false)⟩,
 ⟨some 47, .gd (.pnil 0 false) [(.t 46)], some (45, false)⟩,
 ⟨some 48, .pick (.t 45) (.c (.bool true)) (.t 47), none⟩,
 ⟨some 49, .mv false (.t 48), none⟩,
 ⟨some 50, .mv false (.t 3), some (49, false)⟩,
 ⟨some 51, .len false (.t 50), some (49, false)⟩,
 ⟨some 52, .bin .neq (.t 51) (.c (.int .i64 0)), some (49, false)⟩,
 ⟨some 53, .pick (.t 49) (.c (.bool true)) (.t 52), none⟩,
 ⟨some 54, .mv false (.t 53), none⟩,
 ⟨some 55, .mv false (.t 1), some (54, false)⟩,
 ⟨some 56, .call (.c (.fn f_zz13)) [(.t 55)] 0, some (54, false)⟩,
 ⟨some 57, .bin .neq (.t 56) (.c (.int .i64 9)), some (54, false)⟩,
 ⟨some 58, .pick (.t 54) (.c (.bool true)) (.t 57), none⟩]
abbrev zz3_r6 : List AI := [
 ⟨some 0, .mv true (.c (.bool false)), none⟩]
abbrev zz3_r7 : List AI := [
 ⟨some 60, .mv false (.t 2), none⟩,
 ⟨some 61, .call (.c (.fn f_zz16)) [(.t 60), (.c (.int .i64 1))] 0, none⟩,
 ⟨some 59, .mv false (.t 61), none⟩,
 ⟨some 62, .ext (.t 59) 0, none⟩,
 ⟨some 63, .ext (.t 59) 1, none⟩,
 ⟨some 5, .mv true (.t 62), none⟩,
 ⟨some 6, .mv true (.t 63), none⟩]
abbrev zz3_r8 : List AI := [
 ⟨some 64, .mv false (.t 2), none⟩,
 ⟨some 65, .call (.c (.fn f_zz17)) [(.t 64), (.c (.int .i64 1)), (.c (.str [107, 101, 121]))] 0, none⟩,
 ⟨some 7, .mv true (.t 65), none⟩]
abbrev zz3_r9 : List AI := [
 ⟨some 67, .mv false (.t 2), none⟩,
 ⟨some 68, .call (.c (.fn f_zz16)) [(.t 67), (.c (.int .i64 1))] 0, none⟩,
 ⟨some 66, .mv false (.t 68), none⟩,
 ⟨some 69, .ext (.t 66) 0, none⟩,
 ⟨some 70, .ext (.t 66) 1, none⟩,
 ⟨some 8, .mv true (.t 69), none⟩,
 ⟨some 9, .mv true (.t 70), none⟩]
abbrev zz3_r10 : List AI := [
 ⟨some 72, .mv false (.t 1), none⟩,
 ⟨some 73, .call (.c (.fn f_zz21)) [(.t 72), (.c (.int .i64 2))] 0, none⟩,
 ⟨some 71, .mv false (.t 73), none⟩,
 ⟨some 74, .ext (.t 71) 0, none⟩,
 ⟨some 75, .ext (.t 71) 1, none⟩,
 ⟨some 10, .alloc (zr 64 (.int .u8 0)), none⟩,
 ⟨none, .store 64 (.t 10) (.t 74) .any, none⟩,
 ⟨some 11, .mv true (.t 75), none⟩]
abbrev zz3_r11 : List AI := [
 ⟨some 77, .mv false (.t 1), none⟩,
 ⟨some 78, .call (.c (.fn f_zz21)) [(.t 77), (.c (.int .i64 3))] 0, none⟩,
 ⟨some 76, .mv false (.t 78), none⟩,
 ⟨some 79, .ext (.t 76) 0, none⟩,
 ⟨some 80, .ext (.t 76) 1, none⟩,
 ⟨some 12, .alloc (zr 64 (.int .u8 0)), none⟩,
 ⟨none, .store 64 (.t 12) (.t 79) .any, none⟩,
 ⟨some 13, .mv true (.t 80), none⟩]
abbrev zz3_r12 : List AI := [
 ⟨some 81, .mv false (.t 6), none⟩,
 ⟨some 82, .bin .neq (.t 81) (.c (.int .i64 8)), none⟩,
 ⟨some 83, .mv false (.t 82), none⟩,
 ⟨some 84, .mv false (.t 7), some (83, false)⟩,
 ⟨some 85, .bin .neq (.t 84) (.c (.int .i64 0)), some (83, false)⟩,
 ⟨some 86, .pick (.t 83) (.c (.bool true)) (.t 85), none⟩,
 ⟨some 87, .mv false (.t 86), none⟩,
 ⟨some 88, .mv false (.t 8), some (87, false)⟩,
 ⟨some 89, .bin .neq (.t 88) (.c (.str [107, 101, 121])), some (87, false)⟩,
 ⟨some 90, .pick (.t 87) (.c (.bool true)) (.t 89), none⟩,
 ⟨some 91, .mv false (.t 90), none⟩,
 ⟨some 92, .mv false (.t 9), some (91, false)⟩,
 ⟨some 93, .bin .neq (.t 92) (.c (.int .i64 0)), some (91, false)⟩,
 ⟨some 94, .pick (.t 91) (.c (.bool true)) (.t 93), none⟩,
 ⟨some 95, .mv false (.t 94), none⟩,
 ⟨some 96, .mv false (.t 11), some (95, false)⟩,
 ⟨some 97, .bin .neq (.t 96) (.c (.int .i64 0)), some (95, false)⟩,
 ⟨some 98, .pick (.t 95) (.c (.bool true)) (.t 97), none⟩,
 ⟨some 99, .mv false (.t 98), none⟩,
 ⟨some 100, .mv false (.t 13), some (99, false)⟩,
 ⟨some 101, .bin .neq (.t 100) (.c (.int .i64 0)), some (99, false)⟩,
 ⟨some 102, .pick (.t 99) (.c (.bool true)) (.t 101), none⟩,
 ⟨some 103, .mv false (.t 102), none⟩,
 ⟨some 104, .load true 64 (.t 10) (.site 10), some (103, false)⟩,
 ⟨some 105, .call (.c (.fn f_zz8)) [(.c (.int .i64 2)), (.c (.str [107, 101, 121]))] 2, some (103, false)⟩,
 ⟨some 106, .eqs true (kr 64 .i) (.t 104) (.t 105), some (103, false)⟩,
 ⟨some 107, .pick (.t 103) (.c (.bool true)) (.t 106), none⟩,
 ⟨some 108, .mv false (.t 107), none⟩,
 ⟨some 109, .load true 64 (.t 12) (.site 12), some (108, false)⟩,
 ⟨some 110, .load true 64 (.t 10) (.site 10), some (108, false)⟩,
 ⟨some 111, .eqs true (kr 64 .i) (.t 109) (.t 110), some (108, false)⟩,
 ⟨some 112, .pick (.t 108) (.c (.bool true)) (.t 111), none⟩,
 ⟨some 113, .mv false (.t 112), none⟩,
 ⟨some 114, .iaddrA 64 1 (.t 10) (.c (.int .i64 3)), some (113, false)⟩,
 ⟨some 115, .load false 1 (.t 114) (.site 10), some (113, false)⟩,
 ⟨some 116, .bin .neq (.t 115) (.c (.int .u8 2)), some (113, false)⟩,
 ⟨some 117, .pick (.t 113) (.c (.bool true)) (.t 116), none⟩,
 ⟨some 118, .mv false (.t 117), none⟩,
 ⟨some 119, .iaddrA 64 1 (.t 10) (.c (.int .i64 4)), some (118, false)⟩,
 ⟨some 120, .load false 1 (.t 119) (.site 10), some (118, false)⟩,
 ⟨some 121, .bin .neq (.t 120) (.c (.int .u8 107)), some (118, false)⟩,
 ⟨some 122, .pick (.t 118) (.c (.bool true)) (.t 121), none⟩,
 ⟨some 123, .mv false (.t 122), none⟩,
 ⟨some 124, .iaddrA 64 1 (.t 10) (.c (.int .i64 36)), some (123, false)⟩,
 ⟨some 125, .load false 1 (.t 124) (.site 10), some (123, false)⟩,
 ⟨some 126, .bin .neq (.t 125) (.c (.int .u8 3)), some (123, false)⟩,
 ⟨some 127, .pick (.t 123) (.c (.bool true)) (.t 126), none⟩,
 ⟨some 128, .mv false (.t 127), none⟩,
 ⟨some 129, .mv false (.t 1), some (128, false)⟩,
 ⟨some 130, .call (.c (.fn f_zz13)) [(.t 129)] 2, some (128, false)⟩,
 ⟨some 131, .bin .neq (.t 130) (.c (.int .i64 13)), some (128, false)⟩,
 ⟨some 132, .pick (.t 128) (.c (.bool true)) (.t 131), none⟩]
abbrev zz3_r13 : List AI := [
 ⟨some 0, .mv true (.c (.bool false)), none⟩]
abbrev zz3_r14 : List AI := [
 ⟨some 133, .mv false (.t 1), none⟩,
 ⟨some 134, .call (.c (.fn f_zz26)) [(.t 133), (.c (.int .i64 2))] 0, none⟩,
 ⟨some 14, .mv true (.t 134), none⟩]
abbrev zz3_r15 : List AI := [
 ⟨some 136, .mv false (.t 2), none⟩,
 ⟨some 137, .call (.c (.fn f_zz16)) [(.t 136), (.c (.int .i64 1))] 0, none⟩,
 ⟨some 135, .mv false (.t 137), none⟩,
 ⟨some 138, .ext (.t 135) 0, none⟩,
 ⟨some 139, .ext (.t 135) 1, none⟩,
 ⟨some 15, .mv true (.t 138), none⟩,
 ⟨some 16, .mv true (.t 139), none⟩]
abbrev zz3_r16 : List AI := [
 ⟨some 140, .mv false (.t 2), none⟩,
 ⟨some 141, .call (.c (.fn f_zz17)) [(.t 140), (.c (.int .i64 1)), (.c (.str [110, 101, 119]))] 0, none⟩,
 ⟨some 17, .mv true (.t 141), none⟩]
abbrev zz3_r17 : List AI := [
 ⟨some 142, .mv false (.t 1), none⟩,
 ⟨some 143, .call (.c (.fn f_zz13)) [(.t 142)] 0, none⟩,
 ⟨some 18, .mv true (.t 143), none⟩]
abbrev zz3_r18 : List AI := [
 ⟨some 144, .mv false (.t 2), none⟩,
 ⟨some 145, .call (.c (.fn f_zz10)) [(.t 144), (.c (.int .i64 1))] 0, none⟩,
 ⟨some 19, .mv true (.t 145), none⟩]
abbrev zz3_r19 : List AI := [
 ⟨some 147, .mv false (.t 2), none⟩,
 ⟨some 148, .call (.c (.fn f_zz16)) [(.t 147), (.c (.int .i64 1))] 0, none⟩,
 ⟨some 146, .mv false (.t 148), none⟩,
 ⟨some 149, .ext (.t 146) 0, none⟩,
 ⟨some 150, .ext (.t 146) 1, none⟩,
 ⟨some 20, .mv true (.t 149), none⟩,
 ⟨some 21, .mv true (.t 150), none⟩]
abbrev zz3_r20 : List AI := [
 ⟨some 152, .mv false (.t 2), none⟩,
 ⟨some 153, .call (.c (.fn f_zz16)) [(.t 152), (.c (.int .i64 4))] 0, none⟩,
 ⟨some 151, .mv false (.t 153), none⟩,
 ⟨some 154, .ext (.t 151) 0, none⟩,
 ⟨some 155, .ext (.t 151) 1, none⟩,
 ⟨some 22, .mv true (.t 154), none⟩,
 ⟨some 23, .mv true (.t 155), none⟩]
abbrev zz3_r21 : List AI := [
 ⟨some 156, .mv false (.t 14), none⟩,
 ⟨some 157, .bin .eql (.t 156) (.c (.int .i64 0)), none⟩,
 ⟨some 158, .mv false (.t 157), none⟩,
 ⟨some 159, .mv false (.t 15), some (158, true)⟩,
 ⟨some 160, .bin .eql (.t 159) (.c (.str [107, 101, 121])), some (158, true)⟩,
 ⟨some 161, .pick (.t 158) (.t 160) (.c (.bool false)), none⟩,
 ⟨some 162, .mv false (.t 161), none⟩,
 ⟨some 163, .mv false (.t 16), some (162, true)⟩,
 ⟨some 164, .bin .eql (.t 163) (.c (.int .i64 0)), some (162, true)⟩,
 ⟨some 165, .pick (.t 162) (.t 164) (.c (.bool false)), none⟩,
 ⟨some 166, .mv false (.t 165), none⟩,
 ⟨some 167, .mv false (.t 17), some (166, true)⟩,
 ⟨some 168, .bin .eql (.t 167) (.c (.int .i64 0)), some (166, true)⟩,
 ⟨some 169, .pick (.t 166) (.t 168) (.c (.bool false)), none⟩,
 ⟨some 170, .mv false (.t 169), none⟩,
 ⟨some 171, .mv false (.t 18), some (170, true)⟩,
 ⟨some 172, .bin .eql (.t 171) (.c (.int .i64 19)), some (170, true)⟩,
 ⟨some 173, .pick (.t 170) (.t 172) (.c (.bool false)), none⟩,
 ⟨some 174, .mv false (.t 173), none⟩,
 ⟨some 175, .mv false (.t 19), some (174, true)⟩,
 ⟨some 176, .bin .eql (.t 175) (.c (.int .i64 0)), some (174, true)⟩,
 ⟨some 177, .pick (.t 174) (.t 176) (.c (.bool false)), none⟩,
 ⟨some 178, .mv false (.t 177), none⟩,
 ⟨some 179, .mv false (.t 21), some (178, true)⟩,
 ⟨some 180, .bin .eql (.t 179) (.c (.int .i64 8)), some (178, true)⟩,
 ⟨some 181, .pick (.t 178) (.t 180) (.c (.bool false)), none⟩,
 ⟨some 182, .mv false (.t 181), none⟩,
 ⟨some 183, .mv false (.t 23), some (182, true)⟩,
 ⟨some 184, .bin .eql (.t 183) (.c (.int .i64 1)), some (182, true)⟩,
 ⟨some 185, .pick (.t 182) (.t 184) (.c (.bool false)), none⟩,
 ⟨some 186, .mv false (.t 185), none⟩,
 ⟨some 187, .mv false (.t 2), some (186, true)⟩,
 ⟨some 188, .call (.c (.fn f_zz17)) [(.t 187), (.c (.int .i64 1)), (.c (.str []))] 0, some (186, true)⟩,
 ⟨some 189, .bin .eql (.t 188) (.c (.int .i64 1)), some (186, true)⟩,
 ⟨some 190, .pick (.t 186) (.t 189) (.c (.bool false)), none⟩,
 ⟨some 0, .mv true (.t 190), none⟩]
abbrev zz3_c : ACode := .seq (.reg false zz3_r0) (.seq (.reg false zz3_r1) (.seq (.seq (.reg false zz3_r2) (.cond (.t 36) (.seq (.reg false zz3_r3) (.ret)) (.skip))) (.seq (.reg false zz3_r4) (.seq (.seq (.reg false zz3_r5) (.cond (.t 58) (.seq (.reg false zz3_r6) (.ret)) (.skip))) (.seq (.reg false zz3_r7) (.seq (.reg false zz3_r8) (.seq (.reg false zz3_r9) (.seq (.reg false zz3_r10) (.seq (.reg false zz3_r11) (.seq (.seq (.reg true zz3_r12) (.cond (.t 132) (.seq (.reg false zz3_r13) (.ret)) (.skip))) (.seq (.reg false zz3_r14) (.seq (.reg false zz3_r15) (.seq (.reg false zz3_r16) (.seq (.reg false zz3_r17) (.seq (.reg false zz3_r18) (.seq (.reg false zz3_r19) (.seq (.reg false zz3_r20) (.seq (.reg false zz3_r21) (.ret)))))))))))))))))))
def zz3_F : AFunc := ⟨191, [.tmp 0], zz3_c⟩
theorem zz3_cp : compile Try.prog [] f_zz3 = some zz3_F := by kernel_rfl
abbrev zz14_r0 : List AI := [
 ⟨some 5, .box 64 (.t 2), none⟩,
 ⟨some 6, .mv true (.c (.int .i64 0)), none⟩]
abbrev zz14_r1 : List AI := [
 ⟨some 8, .mv false (.t 0), none⟩,
 ⟨some 9, .mv false (.t 1), none⟩,
 ⟨some 10, .call (.c (.fn f_zz15)) [(.t 8), (.t 9)] 0, none⟩,
 ⟨some 7, .mv true (.t 10), none⟩]
abbrev zz14_r2 : List AI := [
 ⟨some 11, .mv false (.t 7), none⟩,
 ⟨some 12, .bin .eql (.t 11) (.c (.int .i64 0)), none⟩]
abbrev zz14_r3 : List AI := [
 ⟨some 13, .mv false (.t 0), none⟩,
 ⟨some 14, .call (.c (.fn f_zz24)) [(.t 13)] 0, none⟩,
 ⟨some 7, .mv true (.t 14), none⟩]
abbrev zz14_r4 : List AI := [
 ⟨some 15, .mv false (.t 7), none⟩,
 ⟨some 16, .bin .eql (.t 15) (.c (.int .i64 0)), none⟩]
abbrev zz14_r5 : List AI := [
 ⟨some 17, .mv false (.t 0), none⟩,
 ⟨some 18, .nilck (.t 17), none⟩,
 ⟨some 19, .faddr 1 (.t 18), none⟩,
 ⟨some 20, .load false 1 (.t 19) .foreign, none⟩,
 ⟨some 21, .mv false (.t 1), none⟩,
 ⟨some 22, .mv false (.t 0), none⟩,
 ⟨some 23, .nilck (.t 22), none⟩,
 ⟨some 24, .faddr 1 (.t 23), none⟩,
 ⟨some 25, .load false 1 (.t 24) .foreign, none⟩,
 ⟨some 26, .mv false (.t 1), none⟩,
 ⟨some 27, .gd (.mlook [.i] .nilS false) [(.t 25), (.t 26)], none⟩,
 ⟨some 28, .load true 64 (.t 5) (.site 5), none⟩,
 ⟨some 29, .mkslice 64 1 (.agg (zr 64 (.int .u8 0))) [(0, (.t 28))], none⟩,
 ⟨some 30, .kp [(.ld false 1 (.t 19))] (.appG 64 64 (zr 64 (.int .u8 0)) (.t 27) (.t 29)), none⟩,
 ⟨none, .gd (.mset [.i]) [(.t 20), (.t 21), (.t 30)], none⟩]
abbrev zz14_r6 : List AI := [
 ⟨some 31, .mv false (.t 7), none⟩,
 ⟨some 6, .mv true (.t 31), none⟩]
abbrev zz14_c : ACode := .seq (.reg false zz14_r0) (.seq (.reg false zz14_r1) (.seq (.seq (.reg false zz14_r2) (.cond (.t 12) (.reg false zz14_r3) (.skip))) (.seq (.seq (.reg false zz14_r4) (.cond (.t 16) (.reg true zz14_r5) (.skip))) (.seq (.reg false zz14_r6) (.ret)))))
def zz14_F : AFunc := ⟨32, [.tmp 6], zz14_c⟩
theorem zz14_cp : compile Try.prog [30] f_zz14 = some zz14_F := by kernel_rfl
-- loop 0: [0, 2, 3, 4]
-- loop 0: [0, 1, 31, 32]
abbrev zz27_r0 : List AI := [
 ⟨some 6, .mv true (.c (.int .i64 0)), none⟩]
abbrev zz27_r1 : List AI := [
 ⟨some 9, .mv false (.t 2), none⟩,
 ⟨some 10, .bin .lss (.t 9) (.c (.int .i64 1)), none⟩,
 ⟨some 11, .mv false (.t 10), none⟩,
 ⟨some 12, .mv false (.t 1), some (11, false)⟩,
 ⟨some 13, .bin .lss (.t 12) (.c (.int .i64 0)), some (11, false)⟩,
 ⟨some 14, .pick (.t 11) (.c (.bool true)) (.t 13), none⟩,
 ⟨some 15, .mv false (.t 14), none⟩,
 ⟨some 16, .mv false (.t 1), some (15, false)⟩,
 ⟨some 17, .mv false (.t 0), some (15, false)⟩,
 ⟨some 18, .call (.c (.fn f_zz22)) [(.t 17)] 0, some (15, false)⟩,
 ⟨some 19, .bin .gtr (.t 16) (.t 18), some (15, false)⟩,
 ⟨some 20, .pick (.t 15) (.c (.bool true)) (.t 19), none⟩,
 ⟨some 21, .mv false (.t 20), none⟩,
 ⟨some 22, .mv false (.t 2), some (21, false)⟩,
 ⟨some 23, .mv false (.t 0), some (21, false)⟩,
 ⟨some 24, .call (.c (.fn f_zz22)) [(.t 23)] 0, some (21, false)⟩,
 ⟨some 25, .mv false (.t 1), some (21, false)⟩,
 ⟨some 26, .bin .sub (.t 24) (.t 25), some (21, false)⟩,
 ⟨some 27, .bin .quo (.t 26) (.c (.int .i64 2)), some (21, false)⟩,
 ⟨some 28, .bin .gtr (.t 22) (.t 27), some (21, false)⟩,
 ⟨some 29, .pick (.t 21) (.c (.bool true)) (.t 28), none⟩]
abbrev zz27_r2 : List AI := [
 ⟨some 6, .mv true (.c (.int .i64 1)), none⟩]
abbrev zz27_r3 : List AI := [
 ⟨some 30, .mv false (.t 2), none⟩,
 ⟨some 31, .bin .mul (.c (.int .i64 2)) (.t 30), none⟩,
 ⟨some 32, .mv false (.c (.int .i64 0)), none⟩]
abbrev zz27_r4 : List AI := [
 ⟨some 33, .bin .lss (.t 32) (.t 31), none⟩]
abbrev zz27_r5 : List AI := [
 ⟨some 34, .mv false (.t 32), none⟩,
 ⟨some 7, .mv true (.t 34), none⟩]
abbrev zz27_r6 : List AI := [
 ⟨some 35, .mv false (.t 0), none⟩,
 ⟨some 36, .mv false (.t 1), none⟩,
 ⟨some 37, .mv false (.t 7), none⟩,
 ⟨some 38, .bin .add (.t 36) (.t 37), none⟩,
 ⟨some 39, .call (.c (.fn f_zz29)) [(.c (.int .u32 1)), (.c (.str []))] 0, none⟩,
 ⟨some 40, .call (.c (.fn f_zz14)) [(.t 35), (.t 38), (.t 39)] 0, none⟩,
 ⟨some 8, .mv true (.t 40), none⟩]
abbrev zz27_r7 : List AI := [
 ⟨some 41, .mv false (.t 8), none⟩,
 ⟨some 42, .bin .neq (.t 41) (.c (.int .i64 0)), none⟩]
abbrev zz27_r8 : List AI := [
 ⟨some 43, .mv false (.t 8), none⟩,
 ⟨some 6, .mv true (.t 43), none⟩]
abbrev zz27_r9 : List AI := [
 ⟨some 44, .bin .add (.t 32) (.c (.int .i64 1)), none⟩,
 ⟨some 32, .mv false (.t 44), none⟩]
abbrev zz27_l0 : ACode := .seq (.reg false zz27_r4) (.seq (.cond (.t 33) (.skip) (.exit 0)) (.seq (.block 1 (.seq (.reg false zz27_r5) (.seq (.reg false zz27_r6) (.seq (.reg false zz27_r7) (.cond (.t 42) (.seq (.reg false zz27_r8) (.ret)) (.skip)))))) (.reg false zz27_r9)))
abbrev zz27_r10 : List AI := [
 ⟨some 45, .mv false (.t 0), none⟩,
 ⟨some 46, .call (.c (.fn f_zz23)) [(.t 45)] 0, none⟩,
 ⟨some 6, .mv true (.t 46), none⟩]
abbrev zz27_c : ACode := .seq (.reg false zz27_r0) (.seq (.seq (.reg false zz27_r1) (.cond (.t 29) (.seq (.reg false zz27_r2) (.ret)) (.skip))) (.seq (.seq (.reg false zz27_r3) (.block 0 (.loop zz27_l0))) (.seq (.reg false zz27_r10) (.ret))))
def zz27_F : AFunc := ⟨47, [.tmp 6], zz27_c⟩
theorem zz27_cp : compile Try.prog [] f_zz27 = some zz27_F := by kernel_rfl
-- loop 0: [0, 1, 9, 10, 42, 43]
abbrev zz31_r0 : List AI := [
 ⟨some 6, .mv true (.c .nilP), none⟩,
 ⟨some 7, .mv true (.c .nilS), none⟩,
 ⟨some 8, .mv true (.c (.int .i64 0)), none⟩]
abbrev zz31_r1 : List AI := [
 ⟨some 15, .mv false (.t 2), none⟩,
 ⟨some 16, .bin .lss (.t 15) (.c (.int .i64 1)), none⟩,
 ⟨some 17, .mv false (.t 16), none⟩,
 ⟨some 18, .mv false (.t 1), some (17, false)⟩,
 ⟨some 19, .bin .lss (.t 18) (.c (.int .i64 0)), some (17, false)⟩,
 ⟨some 20, .pick (.t 17) (.c (.bool true)) (.t 19), none⟩,
 ⟨some 21, .mv false (.t 20), none⟩,
 ⟨some 22, .mv false (.t 1), some (21, false)⟩,
 ⟨some 23, .mv false (.t 0), some (21, false)⟩,
 ⟨some 24, .call (.c (.fn f_zz22)) [(.t 23)] 0, some (21, false)⟩,
 ⟨some 25, .bin .gtr (.t 22) (.t 24), some (21, false)⟩,
 ⟨some 26, .pick (.t 21) (.c (.bool true)) (.t 25), none⟩,
 ⟨some 27, .mv false (.t 26), none⟩,
 ⟨some 28, .mv false (.t 2), some (27, false)⟩,
 ⟨some 29, .mv false (.t 0), some (27, false)⟩,
 ⟨some 30, .call (.c (.fn f_zz22)) [(.t 29)] 0, some (27, false)⟩,
 ⟨some 31, .mv false (.t 1), some (27, false)⟩,
 ⟨some 32, .bin .sub (.t 30) (.t 31), some (27, false)⟩,
 ⟨some 33, .bin .quo (.t 32) (.c (.int .i64 2)), some (27, false)⟩,
 ⟨some 34, .bin .gtr (.t 28) (.t 33), some (27, false)⟩,
 ⟨some 35, .pick (.t 27) (.c (.bool true)) (.t 34), none⟩]
abbrev zz31_r2 : List AI := [
 ⟨some 6, .mv true (.c .nilP), none⟩,
 ⟨some 7, .mv true (.c .nilS), none⟩,
 ⟨some 8, .mv true (.c (.int .i64 1)), none⟩]
abbrev zz31_r3 : List AI := [
 ⟨some 36, .mv false (.t 0), none⟩,
 ⟨some 37, .mv false (.t 1), none⟩,
 ⟨some 38, .mv false (.t 2), none⟩,
 ⟨some 39, .build [.nilP, (.int .i64 0), (.int .i64 0)] [(0, 1, (.t 36)), (1, 1, (.t 37)), (2, 1, (.t 38))], none⟩,
 ⟨some 40, .build [.nilP, (.int .i64 0), (.int .i64 0)] [(0, 3, (.t 39))], none⟩,
 ⟨some 41, .gn (.box 3) [(.t 40)], none⟩,
 ⟨some 9, .mv true (.t 41), none⟩]
abbrev zz31_r4 : List AI := [
 ⟨some 10, .mv true (.c .nilS), none⟩]
abbrev zz31_r5 : List AI := [
 ⟨some 42, .mv false (.t 2), none⟩,
 ⟨some 43, .mv false (.c (.int .i64 0)), none⟩]
abbrev zz31_r6 : List AI := [
 ⟨some 44, .bin .lss (.t 43) (.t 42), none⟩]
abbrev zz31_r7 : List AI := [
 ⟨some 45, .mv false (.t 43), none⟩,
 ⟨some 11, .mv true (.t 45), none⟩]
abbrev zz31_r8 : List AI := [
 ⟨some 47, .mv false (.t 9), none⟩,
 ⟨some 48, .nilck (.t 47), none⟩,
 ⟨some 49, .faddr 0 (.t 48), none⟩,
 ⟨some 50, .load true 3 (.t 49) .any, none⟩,
 ⟨some 51, .mv false (.t 11), none⟩,
 ⟨some 52, .call (.c (.fn f_zz19)) [(.t 50), (.t 51)] 0, none⟩,
 ⟨some 46, .mv false (.t 52), none⟩,
 ⟨some 53, .ext (.t 46) 0, none⟩,
 ⟨some 54, .ext (.t 46) 1, none⟩,
 ⟨some 55, .ext (.t 46) 2, none⟩,
 ⟨some 12, .alloc (zr 64 (.int .u8 0) ++ [(.int .i64 0), (.bool false)]), none⟩,
 ⟨some 13, .alloc (zr 64 (.int .u8 0) ++ [(.int .i64 0), (.bool false)]), none⟩,
 ⟨none, .store 66 (.t 12) (.t 53) .any, none⟩,
 ⟨none, .store 66 (.t 13) (.t 54) .any, none⟩,
 ⟨some 14, .mv true (.t 55), none⟩]
abbrev zz31_r9 : List AI := [
 ⟨some 56, .mv false (.t 14), none⟩,
 ⟨some 57, .bin .neq (.t 56) (.c (.int .i64 0)), none⟩]
abbrev zz31_r10 : List AI := [
 ⟨some 58, .mv false (.t 14), none⟩,
 ⟨some 6, .mv true (.c .nilP), none⟩,
 ⟨some 7, .mv true (.c .nilS), none⟩,
 ⟨some 8, .mv true (.t 58), none⟩]
abbrev zz31_r11 : List AI := [
 ⟨some 59, .faddr 65 (.t 12), none⟩,
 ⟨some 60, .load false 1 (.t 59) .any, none⟩]
abbrev zz31_r12 : List AI := [
 ⟨some 61, .mv false (.t 9), none⟩,
 ⟨some 62, .nilck (.t 61), none⟩,
 ⟨some 63, .faddr 0 (.t 62), none⟩,
 ⟨some 64, .load true 3 (.t 63) .foreign, none⟩,
 ⟨some 65, .load true 66 (.t 12) (.site 12), none⟩,
 ⟨some 66, .load true 66 (.t 13) (.site 13), none⟩,
 ⟨some 67, .call (.c (.fn f_zz18)) [(.t 64), (.t 65), (.t 66)] 2, none⟩,
 ⟨some 14, .mv true (.t 67), none⟩]
abbrev zz31_r13 : List AI := [
 ⟨some 68, .mv true (.t 10), none⟩,
 ⟨some 69, .mv false (.t 11), none⟩,
 ⟨some 70, .mkslice 1 1 (.int .i64 0) [(0, (.t 69))], none⟩,
 ⟨some 71, .append 1 8 (.t 68) (.t 70), none⟩,
 ⟨some 10, .mv true (.t 71), none⟩]
abbrev zz31_r14 : List AI := [
 ⟨some 72, .mv false (.t 0), none⟩,
 ⟨some 73, .mv false (.t 1), none⟩,
 ⟨some 74, .mv false (.t 11), none⟩,
 ⟨some 75, .bin .mul (.c (.int .i64 2)) (.t 74), none⟩,
 ⟨some 76, .bin .add (.t 73) (.t 75), none⟩,
 ⟨some 77, .call (.c (.fn f_zz27)) [(.t 72), (.t 76), (.c (.int .i64 1))] 0, none⟩,
 ⟨some 14, .mv true (.t 77), none⟩]
abbrev zz31_r15 : List AI := [
 ⟨some 78, .mv false (.t 14), none⟩,
 ⟨some 79, .bin .neq (.t 78) (.c (.int .i64 0)), none⟩]
abbrev zz31_r16 : List AI := [
 ⟨some 80, .mv false (.t 14), none⟩,
 ⟨some 6, .mv true (.c .nilP), none⟩,
 ⟨some 7, .mv true (.c .nilS), none⟩,
 ⟨some 8, .mv true (.t 80), none⟩]
abbrev zz31_r17 : List AI := [
 ⟨some 81, .bin .add (.t 43) (.c (.int .i64 1)), none⟩,
 ⟨some 43, .mv false (.t 81), none⟩]
abbrev zz31_l0 : ACode := .seq (.reg false zz31_r6) (.seq (.cond (.t 44) (.skip) (.exit 0)) (.seq (.block 1 (.seq (.reg false zz31_r7) (.seq (.reg false zz31_r8) (.seq (.seq (.reg false zz31_r9) (.cond (.t 57) (.seq (.reg false zz31_r10) (.ret)) (.skip))) (.seq (.seq (.reg false zz31_r11) (.cond (.t 60) (.reg true zz31_r12) (.seq (.reg false zz31_r13) (.reg false zz31_r14)))) (.seq (.reg false zz31_r15) (.cond (.t 79) (.seq (.reg false zz31_r16) (.ret)) (.skip)))))))) (.reg false zz31_r17)))
abbrev zz31_r18 : List AI := [
 ⟨some 82, .mv false (.t 9), none⟩,
 ⟨some 83, .mv false (.t 10), none⟩,
 ⟨some 6, .mv true (.t 82), none⟩,
 ⟨some 7, .mv true (.t 83), none⟩,
 ⟨some 8, .mv true (.c (.int .i64 0)), none⟩]
abbrev zz31_c : ACode := .seq (.reg false zz31_r0) (.seq (.seq (.reg false zz31_r1) (.cond (.t 35) (.seq (.reg false zz31_r2) (.ret)) (.skip))) (.seq (.reg false zz31_r3) (.seq (.reg false zz31_r4) (.seq (.seq (.reg false zz31_r5) (.block 0 (.loop zz31_l0))) (.seq (.reg false zz31_r18) (.ret))))))
def zz31_F : AFunc := ⟨84, [.tmp 6, .tmp 7, .tmp 8], zz31_c⟩
theorem zz31_cp : compile Try.prog [41, 67] f_zz31 = some zz31_F := by kernel_rfl
abbrev zz21_r0 : List AI := [
 ⟨some 4, .alloc (zr 64 (.int .u8 0)), none⟩,
 ⟨some 5, .mv true (.c (.int .i64 0)), none⟩]
abbrev zz21_r1 : List AI := [
 ⟨some 8, .mv false (.t 0), none⟩,
 ⟨some 9, .mv false (.t 1), none⟩,
 ⟨some 10, .call (.c (.fn f_zz15)) [(.t 8), (.t 9)] 0, none⟩,
 ⟨some 6, .mv true (.t 10), none⟩]
abbrev zz21_r2 : List AI := [
 ⟨some 11, .mv false (.t 6), none⟩,
 ⟨some 12, .bin .neq (.t 11) (.c (.int .i64 0)), none⟩]
abbrev zz21_r3 : List AI := [
 ⟨some 13, .build (zr 64 (.int .u8 0)) [], none⟩,
 ⟨some 14, .mv false (.t 6), none⟩,
 ⟨none, .store 64 (.t 4) (.t 13) .any, none⟩,
 ⟨some 5, .mv true (.t 14), none⟩]
abbrev zz21_r4 : List AI := [
 ⟨some 15, .mv false (.t 0), none⟩,
 ⟨some 16, .nilck (.t 15), none⟩,
 ⟨some 17, .faddr 1 (.t 16), none⟩,
 ⟨some 18, .load false 1 (.t 17) .any, none⟩,
 ⟨some 19, .mv false (.t 1), none⟩,
 ⟨some 20, .gd (.mlook [.i] .nilS false) [(.t 18), (.t 19)], none⟩,
 ⟨some 7, .mv true (.t 20), none⟩]
abbrev zz21_r5 : List AI := [
 ⟨some 21, .mv false (.t 7), none⟩,
 ⟨some 22, .len false (.t 21), none⟩,
 ⟨some 23, .bin .gtr (.t 22) (.c (.int .i64 0)), none⟩]
abbrev zz21_r6 : List AI := [
 ⟨some 24, .mv false (.t 7), none⟩,
 ⟨some 25, .mv false (.t 7), none⟩,
 ⟨some 26, .len false (.t 25), none⟩,
 ⟨some 27, .bin .sub (.t 26) (.c (.int .i64 1)), none⟩,
 ⟨some 28, .iaddr 64 (.t 24) (.t 27), none⟩,
 ⟨some 29, .load true 64 (.t 28) .any, none⟩,
 ⟨none, .store 64 (.t 4) (.t 29) .any, none⟩,
 ⟨some 5, .mv true (.c (.int .i64 0)), none⟩]
abbrev zz21_r7 : List AI := [
 ⟨some 30, .mv false (.t 0), none⟩,
 ⟨some 31, .nilck (.t 30), none⟩,
 ⟨some 32, .faddr 0 (.t 31), none⟩,
 ⟨some 33, .load false 1 (.t 32) .any, none⟩,
 ⟨some 34, .mv false (.t 1), none⟩,
 ⟨some 35, .iaddr 65 (.t 33) (.t 34), none⟩,
 ⟨some 36, .faddr 64 (.t 35), none⟩,
 ⟨some 37, .load false 1 (.t 36) .any, none⟩]
abbrev zz21_r8 : List AI := [
 ⟨some 38, .build (zr 64 (.int .u8 0)) [], none⟩,
 ⟨none, .store 64 (.t 4) (.t 38) .any, none⟩,
 ⟨some 5, .mv true (.c (.int .i64 14)), none⟩]
abbrev zz21_r9 : List AI := [
 ⟨some 39, .mv false (.t 0), none⟩,
 ⟨some 40, .nilck (.t 39), none⟩,
 ⟨some 41, .faddr 0 (.t 40), none⟩,
 ⟨some 42, .load false 1 (.t 41) .any, none⟩,
 ⟨some 43, .mv false (.t 1), none⟩,
 ⟨some 44, .iaddr 65 (.t 42) (.t 43), none⟩,
 ⟨some 45, .faddr 0 (.t 44), none⟩,
 ⟨some 46, .load true 64 (.t 45) .any, none⟩,
 ⟨none, .store 64 (.t 4) (.t 46) .any, none⟩,
 ⟨some 5, .mv true (.c (.int .i64 0)), none⟩]
abbrev zz21_c : ACode := .seq (.reg false zz21_r0) (.seq (.seq (.reg false zz21_r1) (.seq (.reg false zz21_r2) (.cond (.t 12) (.seq (.reg false zz21_r3) (.ret)) (.skip)))) (.seq (.seq (.reg false zz21_r4) (.seq (.reg false zz21_r5) (.cond (.t 23) (.seq (.reg false zz21_r6) (.ret)) (.skip)))) (.seq (.seq (.reg false zz21_r7) (.cond (.t 37) (.seq (.reg false zz21_r8) (.ret)) (.skip))) (.seq (.reg false zz21_r9) (.ret)))))
def zz21_F : AFunc := ⟨47, [.cell 4 true 64, .tmp 5], zz21_c⟩
theorem zz21_cp : compile Try.prog [] f_zz21 = some zz21_F := by kernel_rfl
abbrev zz17_r0 : List AI := [
 ⟨some 6, .mv true (.c (.int .i64 0)), none⟩]
abbrev zz17_r1 : List AI := [
 ⟨some 7, .mv false (.t 1), none⟩,
 ⟨some 8, .bin .lss (.t 7) (.c (.int .i64 0)), none⟩,
 ⟨some 9, .mv false (.t 8), none⟩,
 ⟨some 10, .mv false (.t 1), some (9, false)⟩,
 ⟨some 11, .mv false (.t 0), some (9, false)⟩,
 ⟨some 12, .nilck (.t 11), some (9, false)⟩,
 ⟨some 13, .faddr 0 (.t 12), some (9, false)⟩,
 ⟨some 14, .faddr 2 (.t 13), some (9, false)⟩,
 ⟨some 15, .load false 1 (.t 14) .any, some (9, false)⟩,
 ⟨some 16, .bin .geq (.t 10) (.t 15), some (9, false)⟩,
 ⟨some 17, .pick (.t 9) (.c (.bool true)) (.t 16), none⟩,
 ⟨some 18, .mv false (.t 17), none⟩,
 ⟨some 19, .mv false (.t 2), some (18, false)⟩,
 ⟨some 20, .len true (.t 19), some (18, false)⟩,
 ⟨some 21, .bin .lss (.t 20) (.c (.int .i64 1)), some (18, false)⟩,
 ⟨some 22, .pick (.t 18) (.c (.bool true)) (.t 21), none⟩,
 ⟨some 23, .mv false (.t 22), none⟩,
 ⟨some 24, .mv false (.t 2), some (23, false)⟩,
 ⟨some 25, .len true (.t 24), some (23, false)⟩,
 ⟨some 26, .bin .gtr (.t 25) (.c (.int .i64 55)), some (23, false)⟩,
 ⟨some 27, .pick (.t 23) (.c (.bool true)) (.t 26), none⟩]
abbrev zz17_r2 : List AI := [
 ⟨some 6, .mv true (.c (.int .i64 1)), none⟩]
abbrev zz17_r3 : List AI := [
 ⟨some 28, .mv false (.t 0), none⟩,
 ⟨some 29, .mv false (.t 1), none⟩,
 ⟨some 30, .mv false (.t 2), none⟩,
 ⟨some 31, .call (.c (.fn f_zz6)) [(.t 28), (.t 29), (.t 30)] 0, none⟩,
 ⟨some 6, .mv true (.t 31), none⟩]
abbrev zz17_c : ACode := .seq (.reg false zz17_r0) (.seq (.seq (.reg false zz17_r1) (.cond (.t 27) (.seq (.reg false zz17_r2) (.ret)) (.skip))) (.seq (.reg false zz17_r3) (.ret)))
def zz17_F : AFunc := ⟨32, [.tmp 6], zz17_c⟩
theorem zz17_cp : compile Try.prog [] f_zz17 = some zz17_F := by kernel_rfl
abbrev zz10_r0 : List AI := [
 ⟨some 4, .mv true (.c (.int .i64 0)), none⟩]
abbrev zz10_r1 : List AI := [
 ⟨some 5, .mv false (.t 1), none⟩,
 ⟨some 6, .bin .lss (.t 5) (.c (.int .i64 0)), none⟩,
 ⟨some 7, .mv false (.t 6), none⟩,
 ⟨some 8, .mv false (.t 1), some (7, false)⟩,
 ⟨some 9, .mv false (.t 0), some (7, false)⟩,
 ⟨some 10, .nilck (.t 9), some (7, false)⟩,
 ⟨some 11, .faddr 0 (.t 10), some (7, false)⟩,
 ⟨some 12, .faddr 2 (.t 11), some (7, false)⟩,
 ⟨some 13, .load false 1 (.t 12) .any, some (7, false)⟩,
 ⟨some 14, .bin .geq (.t 8) (.t 13), some (7, false)⟩,
 ⟨some 15, .pick (.t 7) (.c (.bool true)) (.t 14), none⟩]
abbrev zz10_r2 : List AI := [
 ⟨some 4, .mv true (.c (.int .i64 1)), none⟩]
abbrev zz10_r3 : List AI := [
 ⟨some 16, .mv false (.t 0), none⟩,
 ⟨some 17, .mv false (.t 1), none⟩,
 ⟨some 18, .call (.c (.fn f_zz6)) [(.t 16), (.t 17), (.c (.str []))] 0, none⟩,
 ⟨some 4, .mv true (.t 18), none⟩]
abbrev zz10_c : ACode := .seq (.reg false zz10_r0) (.seq (.seq (.reg false zz10_r1) (.cond (.t 15) (.seq (.reg false zz10_r2) (.ret)) (.skip))) (.seq (.reg false zz10_r3) (.ret)))
def zz10_F : AFunc := ⟨19, [.tmp 4], zz10_c⟩
theorem zz10_cp : compile Try.prog [] f_zz10 = some zz10_F := by kernel_rfl
abbrev zz16_r0 : List AI := [
 ⟨some 4, .mv true (.c (.str [])), none⟩,
 ⟨some 5, .mv true (.c (.int .i64 0)), none⟩]
abbrev zz16_r1 : List AI := [
 ⟨some 11, .mv false (.t 1), none⟩,
 ⟨some 12, .bin .lss (.t 11) (.c (.int .i64 0)), none⟩,
 ⟨some 13, .mv false (.t 12), none⟩,
 ⟨some 14, .mv false (.t 1), some (13, false)⟩,
 ⟨some 15, .mv false (.t 0), some (13, false)⟩,
 ⟨some 16, .nilck (.t 15), some (13, false)⟩,
 ⟨some 17, .faddr 0 (.t 16), some (13, false)⟩,
 ⟨some 18, .faddr 2 (.t 17), some (13, false)⟩,
 ⟨some 19, .load false 1 (.t 18) .any, some (13, false)⟩,
 ⟨some 20, .bin .geq (.t 14) (.t 19), some (13, false)⟩,
 ⟨some 21, .pick (.t 13) (.c (.bool true)) (.t 20), none⟩]
abbrev zz16_r2 : List AI := [
 ⟨some 4, .mv true (.c (.str [])), none⟩,
 ⟨some 5, .mv true (.c (.int .i64 1)), none⟩]
abbrev zz16_r3 : List AI := [
 ⟨some 23, .mv false (.t 0), none⟩,
 ⟨some 24, .nilck (.t 23), none⟩,
 ⟨some 25, .faddr 0 (.t 24), none⟩,
 ⟨some 26, .load true 3 (.t 25) .any, none⟩,
 ⟨some 27, .mv false (.t 1), none⟩,
 ⟨some 28, .call (.c (.fn f_zz19)) [(.t 26), (.t 27)] 0, none⟩,
 ⟨some 22, .mv false (.t 28), none⟩,
 ⟨some 29, .ext (.t 22) 0, none⟩,
 ⟨some 30, .ext (.t 22) 1, none⟩,
 ⟨some 31, .ext (.t 22) 2, none⟩,
 ⟨some 6, .gn (.alloc (zr 64 (.int .u8 0) ++ [(.int .i64 0), (.bool false)])) [], none⟩,
 ⟨some 7, .alloc (zr 64 (.int .u8 0) ++ [(.int .i64 0), (.bool false)]), none⟩,
 ⟨none, .store 66 (.t 6) (.t 29) .any, none⟩,
 ⟨none, .store 66 (.t 7) (.t 30) .any, none⟩,
 ⟨some 8, .mv true (.t 31), none⟩]
abbrev zz16_r4 : List AI := [
 ⟨some 33, .mv false (.t 8), none⟩,
 ⟨some 34, .bin .neq (.t 33) (.c (.int .i64 0)), none⟩,
 ⟨some 32, .mv true (.t 34), none⟩]
abbrev zz16_r5 : List AI := [
 ⟨some 35, .mv false (.t 8), none⟩,
 ⟨some 4, .mv true (.c (.str [])), none⟩,
 ⟨some 5, .mv true (.t 35), none⟩]
abbrev zz16_r6 : List AI := [
 ⟨some 37, .faddr 65 (.t 6), none⟩,
 ⟨some 38, .load false 1 (.t 37) .any, none⟩,
 ⟨some 39, .not (.t 38), none⟩,
 ⟨some 36, .mv true (.t 39), none⟩]
abbrev zz16_r7 : List AI := [
 ⟨some 4, .mv true (.c (.str [])), none⟩,
 ⟨some 5, .mv true (.c (.int .i64 14)), none⟩]
abbrev zz16_r8 : List AI := [
 ⟨some 41, .faddr 0 (.t 6), none⟩,
 ⟨some 42, .iaddrA 64 1 (.t 41) (.c (.int .i64 36)), none⟩,
 ⟨some 43, .load false 1 (.t 42) .any, none⟩,
 ⟨some 44, .bin .eql (.t 43) (.c (.int .u8 0)), none⟩,
 ⟨some 40, .mv true (.t 44), none⟩]
abbrev zz16_r9 : List AI := [
 ⟨some 4, .mv true (.c (.str [])), none⟩,
 ⟨some 5, .mv true (.c (.int .i64 8)), none⟩]
abbrev zz16_b0 : ACode := .seq (.reg false zz16_r8) (.cond (.t 40) (.seq (.reg false zz16_r9) (.ret)) (.skip))
abbrev zz16_b1 : ACode := .seq (.reg false zz16_r6) (.cond (.t 36) (.seq (.reg false zz16_r7) (.ret)) (zz16_b0))
abbrev zz16_r10 : List AI := [
 ⟨some 45, .faddr 0 (.t 6), none⟩,
 ⟨some 46, .iaddrA 64 1 (.t 45) (.c (.int .i64 36)), none⟩,
 ⟨some 47, .load false 1 (.t 46) .any, none⟩,
 ⟨some 48, .conv .i64 (.t 47), none⟩,
 ⟨some 9, .mv true (.t 48), none⟩]
abbrev zz16_r11 : List AI := [
 ⟨some 49, .mkG 1 0 (.int .u8 0) [], none⟩,
 ⟨some 50, .faddr 0 (.t 6), none⟩,
 ⟨some 51, .mv false (.t 9), none⟩,
 ⟨some 52, .mn (.t 51) (.c (.int .i64 28)), none⟩,
 ⟨some 53, .bin .add (.c (.int .i64 4)) (.t 52), none⟩,
 ⟨some 54, .gd (.arrS 1 64 true true false) [(.t 50), (.c (.int .i64 4)), (.t 53)], none⟩,
 ⟨some 55, .appG 1 1 [(.int .u8 0)] (.t 49) (.t 54), none⟩,
 ⟨some 10, .mv true (.t 55), none⟩]
abbrev zz16_r12 : List AI := [
 ⟨some 56, .mv false (.t 9), none⟩,
 ⟨some 57, .bin .gtr (.t 56) (.c (.int .i64 28)), none⟩]
abbrev zz16_r13 : List AI := [
 ⟨some 58, .mv true (.t 10), none⟩,
 ⟨some 59, .faddr 0 (.t 6), none⟩,
 ⟨some 60, .mv false (.t 9), none⟩,
 ⟨some 61, .bin .add (.c (.int .i64 37)) (.t 60), none⟩,
 ⟨some 62, .bin .sub (.t 61) (.c (.int .i64 28)), none⟩,
 ⟨some 63, .gd (.arrS 1 64 true true false) [(.t 59), (.c (.int .i64 37)), (.t 62)], none⟩,
 ⟨some 64, .appG 1 1 [(.int .u8 0)] (.t 58) (.t 63), none⟩,
 ⟨some 10, .mv true (.t 64), none⟩]
abbrev zz16_r14 : List AI := [
 ⟨some 65, .mv false (.t 10), none⟩,
 ⟨some 66, .gd .b2s [(.t 65)], none⟩,
 ⟨some 4, .mv true (.t 66), none⟩,
 ⟨some 5, .mv true (.c (.int .i64 0)), none⟩]
abbrev zz16_c : ACode := .seq (.reg false zz16_r0) (.seq (.seq (.reg false zz16_r1) (.cond (.t 21) (.seq (.reg false zz16_r2) (.ret)) (.skip))) (.seq (.reg false zz16_r3) (.seq (.block 0 (.seq (.reg false zz16_r4) (.cond (.t 32) (.seq (.reg false zz16_r5) (.ret)) (zz16_b1)))) (.seq (.reg false zz16_r10) (.seq (.reg false zz16_r11) (.seq (.seq (.reg false zz16_r12) (.cond (.t 57) (.reg false zz16_r13) (.skip))) (.seq (.reg false zz16_r14) (.ret))))))))
def zz16_F : AFunc := ⟨67, [.tmp 4, .tmp 5], zz16_c⟩
theorem zz16_cp : compile Try.prog [6, 49, 55, 64, 66] f_zz16 = some zz16_F := by kernel_rfl
-- loop 0: [1, 2, 3, 4, 62, 63, 64]
-- loop 0: [1, 5, 6, 7, 8, 9, 17, 18, 19, 58]
-- loop 1: [1, 5, 6, 7, 8, 9, 17, 18, 19]
-- loop 0: [0, 1, 5, 25, 26, 27]
abbrev zz12_r0 : List AI := [
 ⟨some 4, .mv true (.c .nilP), none⟩]
abbrev zz12_r1 : List AI := [
 ⟨some 9, .mv false (.t 0), none⟩,
 ⟨some 10, .nilck (.t 9), none⟩,
 ⟨some 11, .faddr 0 (.t 10), none⟩,
 ⟨some 12, .load false 1 (.t 11) .any, none⟩,
 ⟨some 13, .len false (.t 12), none⟩,
 ⟨some 14, .call (.c (.fn f_zz32)) [(.t 13)] 0, none⟩,
 ⟨some 5, .mv true (.t 14), none⟩]
abbrev zz12_r2 : List AI := [
 ⟨some 15, .mv false (.t 5), none⟩,
 ⟨some 16, .nilck (.t 15), none⟩,
 ⟨some 17, .faddr 0 (.t 16), none⟩,
 ⟨some 18, .load false 1 (.t 17) .foreign, none⟩,
 ⟨some 19, .mv false (.t 0), none⟩,
 ⟨some 20, .nilck (.t 19), none⟩,
 ⟨some 21, .faddr 0 (.t 20), none⟩,
 ⟨some 22, .load false 1 (.t 21) .foreign, none⟩,
 ⟨some 23, .copy 65 (.t 18) (.t 22), none⟩]
abbrev zz12_r3 : List AI := [
 ⟨some 24, .mv false (.t 0), none⟩,
 ⟨some 25, .call (.c (.fn f_zz7)) [(.t 24)] 0, none⟩,
 ⟨some 26, .len false (.t 25), none⟩,
 ⟨some 27, .mv false (.c (.int .i64 0)), none⟩]
abbrev zz12_r4 : List AI := [
 ⟨some 28, .bin .lss (.t 27) (.t 26), none⟩]
abbrev zz12_r5 : List AI := [
 ⟨some 29, .mv false (.t 27), none⟩,
 ⟨some 30, .iaddr 1 (.t 25) (.t 27), none⟩,
 ⟨some 31, .load false 1 (.t 30) .any, none⟩,
 ⟨some 6, .mv true (.t 29), none⟩,
 ⟨some 7, .mv true (.t 31), none⟩]
abbrev zz12_r6 : List AI := [
 ⟨some 8, .mv true (.c (.int .i64 0)), none⟩]
abbrev zz12_r7 : List AI := [
 ⟨some 32, .mv false (.t 1), none⟩,
 ⟨some 33, .len false (.t 32), none⟩,
 ⟨some 34, .bin .gtr (.t 33) (.c (.int .i64 0)), none⟩]
abbrev zz12_r8 : List AI := [
 ⟨some 35, .mv false (.t 1), none⟩,
 ⟨some 36, .mv false (.t 6), none⟩,
 ⟨some 37, .mv false (.t 1), none⟩,
 ⟨some 38, .len false (.t 37), none⟩,
 ⟨some 39, .bin .rem (.t 36) (.t 38), none⟩,
 ⟨some 40, .iaddr 1 (.t 35) (.t 39), none⟩,
 ⟨some 41, .load false 1 (.t 40) .any, none⟩,
 ⟨some 8, .mv true (.t 41), none⟩]
abbrev zz12_r9 : List AI := [
 ⟨some 42, .mv false (.t 5), none⟩,
 ⟨some 43, .nilck (.t 42), none⟩,
 ⟨some 44, .faddr 0 (.t 43), none⟩,
 ⟨some 45, .load false 1 (.t 44) .foreign, none⟩,
 ⟨some 46, .mv false (.t 7), none⟩,
 ⟨some 47, .mv false (.t 0), none⟩,
 ⟨some 48, .nilck (.t 47), none⟩,
 ⟨some 49, .faddr 0 (.t 48), none⟩,
 ⟨some 50, .load false 1 (.t 49) .foreign, none⟩,
 ⟨some 51, .mv false (.t 7), none⟩,
 ⟨some 52, .iaddr 65 (.t 50) (.t 51), none⟩,
 ⟨some 53, .load true 65 (.t 52) .foreign, none⟩,
 ⟨some 54, .mv false (.t 0), none⟩,
 ⟨some 55, .nilck (.t 54), none⟩,
 ⟨some 56, .faddr 1 (.t 55), none⟩,
 ⟨some 57, .load false 1 (.t 56) .foreign, none⟩,
 ⟨some 58, .mv false (.t 7), none⟩,
 ⟨some 59, .gd (.mlook [.i] .nilS false) [(.t 57), (.t 58)], none⟩,
 ⟨some 60, .mv false (.t 8), none⟩,
 ⟨some 61, .call (.c (.fn f_zz30)) [(.t 53), (.t 59), (.t 60)] 1, none⟩,
 ⟨some 62, .iaddr 65 (.t 45) (.t 46), none⟩,
 ⟨none, .store 65 (.t 62) (.t 61) .gp, none⟩]
abbrev zz12_r10 : List AI := [
 ⟨some 63, .bin .add (.t 27) (.c (.int .i64 1)), none⟩,
 ⟨some 27, .mv false (.t 63), none⟩]
abbrev zz12_l0 : ACode := .seq (.reg false zz12_r4) (.seq (.cond (.t 28) (.skip) (.exit 0)) (.seq (.block 1 (.seq (.reg false zz12_r5) (.seq (.reg false zz12_r6) (.seq (.seq (.reg false zz12_r7) (.cond (.t 34) (.reg false zz12_r8) (.skip))) (.reg true zz12_r9))))) (.reg false zz12_r10)))
abbrev zz12_r11 : List AI := [
 ⟨some 64, .mv false (.t 5), none⟩,
 ⟨some 4, .mv true (.t 64), none⟩]
abbrev zz12_c : ACode := .seq (.reg false zz12_r0) (.seq (.reg false zz12_r1) (.seq (.reg true zz12_r2) (.seq (.seq (.reg false zz12_r3) (.block 0 (.loop zz12_l0))) (.seq (.reg false zz12_r11) (.ret)))))
def zz12_F : AFunc := ⟨65, [.tmp 4], zz12_c⟩
theorem zz12_cp : compile Try.prog [] f_zz12 = some zz12_F := by kernel_rfl
abbrev zz22_r0 : List AI := [
 ⟨some 2, .mv true (.c (.int .i64 0)), none⟩]
abbrev zz22_r1 : List AI := [
 ⟨some 3, .mv false (.t 0), none⟩,
 ⟨some 4, .nilck (.t 3), none⟩,
 ⟨some 5, .faddr 0 (.t 4), none⟩,
 ⟨some 6, .load false 1 (.t 5) .any, none⟩,
 ⟨some 7, .len false (.t 6), none⟩,
 ⟨some 2, .mv true (.t 7), none⟩]
abbrev zz22_c : ACode := .seq (.reg false zz22_r0) (.seq (.reg false zz22_r1) (.ret))
def zz22_F : AFunc := ⟨8, [.tmp 2], zz22_c⟩
theorem zz22_cp : compile Try.prog [] f_zz22 = some zz22_F := by kernel_rfl
abbrev zz20_r0 : List AI := [
 ⟨some 2, .mv true (.c (.bool false)), none⟩]
abbrev zz20_r1 : List AI := [
 ⟨some 3, .mv false (.t 0), none⟩,
 ⟨some 4, .nilck (.t 3), none⟩,
 ⟨some 5, .faddr 4 (.t 4), none⟩,
 ⟨some 6, .load false 1 (.t 5) .any, none⟩,
 ⟨some 2, .mv true (.t 6), none⟩]
abbrev zz20_c : ACode := .seq (.reg false zz20_r0) (.seq (.reg false zz20_r1) (.ret))
def zz20_F : AFunc := ⟨7, [.tmp 2], zz20_c⟩
theorem zz20_cp : compile Try.prog [] f_zz20 = some zz20_F := by kernel_rfl
abbrev zz13_r0 : List AI := [
 ⟨some 2, .mv true (.c (.int .i64 0)), none⟩]
abbrev zz13_r1 : List AI := [
 ⟨some 3, .mv false (.t 0), none⟩,
 ⟨some 4, .nilck (.t 3), none⟩,
 ⟨some 5, .faddr 2 (.t 4), none⟩,
 ⟨some 6, .load false 1 (.t 5) .any, none⟩,
 ⟨some 2, .mv true (.t 6), none⟩]
abbrev zz13_c : ACode := .seq (.reg false zz13_r0) (.seq (.reg false zz13_r1) (.ret))
def zz13_F : AFunc := ⟨7, [.tmp 2], zz13_c⟩
theorem zz13_cp : compile Try.prog [] f_zz13 = some zz13_F := by kernel_rfl
-- loop 0: [0, 3, 7, 8, 9]
-- loop 0: [1, 3, 4, 6, 9, 27, 28, 29]
abbrev zz25_r0 : List AI := [
 ⟨some 4, .mv false (.t 0), none⟩,
 ⟨some 5, .mv false (.t 1), none⟩,
 ⟨some 6, .mx (.t 5) (.c (.int .i64 (-1))), none⟩,
 ⟨some 7, .nilck (.t 4), none⟩,
 ⟨some 8, .faddr 3 (.t 7), none⟩,
 ⟨none, .store 1 (.t 8) (.t 6) .any, none⟩]
abbrev zz25_c : ACode := .reg false zz25_r0
def zz25_F : AFunc := ⟨9, [], zz25_c⟩
theorem zz25_cp : compile Try.prog [] f_zz25 = some zz25_F := by kernel_rfl
-- loop 0: [0, 19]
abbrev zz23_r0 : List AI := [
 ⟨some 2, .mv true (.c (.int .i64 0)), none⟩]
abbrev zz23_r1 : List AI := [
 ⟨some 6, .mv false (.t 0), none⟩,
 ⟨some 7, .call (.c (.fn f_zz15)) [(.t 6), (.c (.int .i64 0))] 0, none⟩,
 ⟨some 3, .mv true (.t 7), none⟩]
abbrev zz23_r2 : List AI := [
 ⟨some 8, .mv false (.t 3), none⟩,
 ⟨some 9, .bin .eql (.t 8) (.c (.int .i64 0)), none⟩]
abbrev zz23_r3 : List AI := [
 ⟨some 10, .mv false (.t 0), none⟩,
 ⟨some 11, .call (.c (.fn f_zz24)) [(.t 10)] 0, none⟩,
 ⟨some 3, .mv true (.t 11), none⟩]
abbrev zz23_r4 : List AI := [
 ⟨some 12, .mv false (.t 3), none⟩,
 ⟨some 13, .bin .neq (.t 12) (.c (.int .i64 0)), none⟩]
abbrev zz23_r5 : List AI := [
 ⟨some 14, .mv false (.t 3), none⟩,
 ⟨some 2, .mv true (.t 14), none⟩]
abbrev zz23_r6 : List AI := [
 ⟨some 15, .mv false (.t 0), none⟩,
 ⟨some 16, .nilck (.t 15), none⟩,
 ⟨some 17, .faddr 1 (.t 16), none⟩,
 ⟨some 18, .load false 1 (.t 17) .any, none⟩,
 ⟨some 19, .gn .rng [(.t 18)], none⟩]
abbrev zz23_r7 : List AI := [
 ⟨some 20, .gn .nxt [(.t 19)], none⟩,
 ⟨some 21, .ext (.t 20) 0, none⟩]
abbrev zz23_r8 : List AI := [
 ⟨some 22, .gd .entry [(.t 19)], none⟩,
 ⟨some 23, .ext (.t 22) 0, none⟩,
 ⟨some 24, .ext (.t 22) 1, none⟩,
 ⟨some 4, .mv true (.t 23), none⟩,
 ⟨some 5, .mv true (.t 24), none⟩]
abbrev zz23_r9 : List AI := [
 ⟨some 25, .mv false (.t 0), none⟩,
 ⟨some 26, .nilck (.t 25), none⟩,
 ⟨some 27, .faddr 0 (.t 26), none⟩,
 ⟨some 28, .load false 1 (.t 27) .foreign, none⟩,
 ⟨some 29, .mv false (.t 4), none⟩,
 ⟨some 30, .mv false (.t 5), none⟩,
 ⟨some 31, .mv false (.t 5), none⟩,
 ⟨some 32, .len false (.t 31), none⟩,
 ⟨some 33, .bin .sub (.t 32) (.c (.int .i64 1)), none⟩,
 ⟨some 34, .iaddr 64 (.t 30) (.t 33), none⟩,
 ⟨some 35, .load true 64 (.t 34) .foreign, none⟩,
 ⟨some 36, .build (zr 64 (.int .u8 0) ++ [(.bool false)]) [(0, 64, (.t 35))], none⟩,
 ⟨some 37, .iaddr 65 (.t 28) (.t 29), none⟩,
 ⟨none, .store 65 (.t 37) (.t 36) .gp, none⟩]
abbrev zz23_r10 : List AI := [
 ⟨some 38, .mv false (.t 0), none⟩,
 ⟨some 39, .nilck (.t 38), none⟩,
 ⟨some 40, .faddr 1 (.t 39), none⟩,
 ⟨some 41, .load false 1 (.t 40) .any, none⟩,
 ⟨some 42, .mv false (.t 4), none⟩,
 ⟨none, .gd (.mdel [.i]) [(.t 41), (.t 42)], none⟩]
abbrev zz23_l0 : ACode := .seq (.reg false zz23_r7) (.seq (.cond (.t 21) (.skip) (.exit 0)) (.block 1 (.seq (.reg false zz23_r8) (.seq (.reg true zz23_r9) (.reg false zz23_r10)))))
abbrev zz23_r11 : List AI := [
 ⟨some 2, .mv true (.c (.int .i64 0)), none⟩]
abbrev zz23_c : ACode := .seq (.reg false zz23_r0) (.seq (.reg false zz23_r1) (.seq (.seq (.reg false zz23_r2) (.cond (.t 9) (.reg false zz23_r3) (.skip))) (.seq (.seq (.reg false zz23_r4) (.cond (.t 13) (.seq (.reg false zz23_r5) (.ret)) (.skip))) (.seq (.seq (.reg false zz23_r6) (.block 0 (.loop zz23_l0))) (.seq (.reg false zz23_r11) (.ret))))))
def zz23_F : AFunc := ⟨43, [.tmp 2], zz23_c⟩
theorem zz23_cp : compile Try.prog [] f_zz23 = some zz23_F := by kernel_rfl
abbrev zz26_r0 : List AI := [
 ⟨some 4, .mv true (.c (.int .i64 0)), none⟩]
abbrev zz26_r1 : List AI := [
 ⟨some 6, .mv false (.t 0), none⟩,
 ⟨some 7, .mv false (.t 1), none⟩,
 ⟨some 8, .call (.c (.fn f_zz15)) [(.t 6), (.t 7)] 0, none⟩,
 ⟨some 5, .mv true (.t 8), none⟩]
abbrev zz26_r2 : List AI := [
 ⟨some 9, .mv false (.t 5), none⟩,
 ⟨some 10, .bin .eql (.t 9) (.c (.int .i64 0)), none⟩]
abbrev zz26_r3 : List AI := [
 ⟨some 11, .mv false (.t 0), none⟩,
 ⟨some 12, .nilck (.t 11), none⟩,
 ⟨some 13, .faddr 0 (.t 12), none⟩,
 ⟨some 14, .load false 1 (.t 13) .any, none⟩,
 ⟨some 15, .mv false (.t 1), none⟩,
 ⟨some 16, .build (zr 64 (.int .u8 0) ++ [(.bool false)]) [(64, 1, (.c (.bool true)))], none⟩,
 ⟨some 17, .iaddr 65 (.t 14) (.t 15), none⟩,
 ⟨none, .store 65 (.t 17) (.t 16) .any, none⟩]
abbrev zz26_r4 : List AI := [
 ⟨some 18, .mv false (.t 5), none⟩,
 ⟨some 4, .mv true (.t 18), none⟩]
abbrev zz26_c : ACode := .seq (.reg false zz26_r0) (.seq (.reg false zz26_r1) (.seq (.seq (.reg false zz26_r2) (.cond (.t 10) (.reg false zz26_r3) (.skip))) (.seq (.reg false zz26_r4) (.ret))))
def zz26_F : AFunc := ⟨19, [.tmp 4], zz26_c⟩
theorem zz26_cp : compile Try.prog [] f_zz26 = some zz26_F := by kernel_rfl
-- loop 0: [0, 4, 5, 8, 10]
abbrev zz2_r0 : List AI := [
 ⟨some 4, .box 4 (.t 1), none⟩,
 ⟨some 5, .box 2 (.t 2), none⟩,
 ⟨some 6, .mv true (.c (.bool false)), none⟩,
 ⟨some 7, .mv true (.c (.int .i64 0)), none⟩]
abbrev zz2_r1 : List AI := [
 ⟨some 8, .alloc [(.int .i64 0), (.int .i64 0)], none⟩]
abbrev zz2_r2 : List AI := [
 ⟨some 10, .mv false (.c (.int .i64 0)), none⟩]
abbrev zz2_r3 : List AI := [
 ⟨some 11, .bin .lss (.t 10) (.c (.int .i64 2)), none⟩]
abbrev zz2_r4 : List AI := [
 ⟨some 12, .mv false (.t 10), none⟩,
 ⟨some 9, .mv true (.t 12), none⟩]
abbrev zz2_r5 : List AI := [
 ⟨some 13, .faddr 0 (.t 4), none⟩,
 ⟨some 14, .load false 1 (.t 13) .any, none⟩,
 ⟨some 15, .bin .eql (.t 14) (.c (.int .i64 4)), none⟩]
abbrev zz2_r6 : List AI := [
 ⟨some 16, .mv false (.t 0), none⟩,
 ⟨some 17, .mv false (.t 9), none⟩,
 ⟨some 18, .mv false (.t 0), none⟩,
 ⟨some 19, .mv false (.t 9), none⟩,
 ⟨some 20, .nilck (.t 18), none⟩,
 ⟨some 21, .faddr 0 (.t 20), none⟩,
 ⟨some 22, .iaddrA 2 1 (.t 21) (.t 19), none⟩,
 ⟨some 23, .load false 1 (.t 22) .foreign, none⟩,
 ⟨some 24, .faddr 3 (.t 4), none⟩,
 ⟨some 25, .load false 1 (.t 24) (.site 4), none⟩,
 ⟨some 27, .nilck (.t 16), none⟩,
 ⟨some 28, .faddr 0 (.t 27), none⟩,
 ⟨some 26, .call (.c (.fn f_zz12)) [(.t 23), (.t 25)] 2, none⟩,
 ⟨some 29, .iaddrA 2 1 (.t 28) (.t 17), none⟩,
 ⟨none, .store 1 (.t 29) (.t 26) .gp, none⟩]
abbrev zz2_r7 : List AI := [
 ⟨some 30, .mv false (.t 0), none⟩,
 ⟨some 31, .mv false (.t 9), none⟩,
 ⟨some 32, .nilck (.t 30), none⟩,
 ⟨some 33, .faddr 0 (.t 32), none⟩,
 ⟨some 34, .iaddrA 2 1 (.t 33) (.t 31), none⟩,
 ⟨some 35, .load false 1 (.t 34) .any, none⟩,
 ⟨some 36, .gd (.pnil 0 false) [(.t 35)], none⟩]
abbrev zz2_r8 : List AI := [
 ⟨some 6, .mv true (.c (.bool false)), none⟩,
 ⟨some 7, .mv true (.c (.int .i64 0)), none⟩]
abbrev zz2_r9 : List AI := [
 ⟨some 38, .mv false (.t 0), none⟩,
 ⟨some 39, .mv false (.t 9), none⟩,
 ⟨some 40, .mv false (.t 9), none⟩,
 ⟨some 41, .mv false (.t 0), none⟩,
 ⟨some 42, .mv false (.t 9), none⟩,
 ⟨some 43, .nilck (.t 41), none⟩,
 ⟨some 44, .faddr 0 (.t 43), none⟩,
 ⟨some 45, .iaddrA 2 1 (.t 44) (.t 42), none⟩,
 ⟨some 46, .load false 1 (.t 45) .foreign, none⟩,
 ⟨some 51, .nilck (.t 38), none⟩,
 ⟨some 52, .faddr 2 (.t 51), none⟩,
 ⟨some 47, .call (.c (.fn f_zz31)) [(.t 46), (.c (.int .i64 0)), (.c (.int .i64 3))] 2, none⟩,
 ⟨some 37, .mv false (.t 47), none⟩,
 ⟨some 48, .ext (.t 37) 0, none⟩,
 ⟨some 49, .ext (.t 37) 1, none⟩,
 ⟨some 50, .ext (.t 37) 2, none⟩,
 ⟨some 53, .iaddrA 2 1 (.t 52) (.t 39), none⟩,
 ⟨none, .store 1 (.t 53) (.t 48) .gp, none⟩,
 ⟨some 54, .iaddrA 2 1 (.t 8) (.t 40), none⟩,
 ⟨none, .store 1 (.t 54) (.t 50) (.site 8), none⟩]
abbrev zz2_b0 : ACode := .seq (.reg true zz2_r6) (.seq (.seq (.reg false zz2_r7) (.cond (.t 36) (.seq (.reg false zz2_r8) (.ret)) (.skip))) (.reg true zz2_r9))
abbrev zz2_r10 : List AI := [
 ⟨some 55, .mv false (.t 0), none⟩,
 ⟨some 56, .mv false (.t 9), none⟩,
 ⟨some 57, .nilck (.t 55), none⟩,
 ⟨some 58, .faddr 2 (.t 57), none⟩,
 ⟨some 59, .iaddrA 2 1 (.t 58) (.t 56), none⟩,
 ⟨some 60, .load false 1 (.t 59) .any, none⟩,
 ⟨some 61, .gd (.pnil 0 false) [(.t 60)], none⟩]
abbrev zz2_r11 : List AI := [
 ⟨some 6, .mv true (.c (.bool false)), none⟩,
 ⟨some 7, .mv true (.c (.int .i64 0)), none⟩]
abbrev zz2_r12 : List AI := [
 ⟨some 62, .faddr 0 (.t 4), none⟩,
 ⟨some 63, .load false 1 (.t 62) .any, none⟩]
abbrev zz2_r13 : List AI := [
 ⟨some 65, .bin .eql (.t 63) (.c (.int .i64 0)), none⟩,
 ⟨some 64, .mv true (.t 65), none⟩]
abbrev zz2_r14 : List AI := [
 ⟨some 66, .mv false (.t 9), none⟩,
 ⟨some 67, .mv false (.t 0), none⟩,
 ⟨some 68, .mv false (.t 9), none⟩,
 ⟨some 69, .nilck (.t 67), none⟩,
 ⟨some 70, .faddr 2 (.t 69), none⟩,
 ⟨some 71, .iaddrA 2 1 (.t 70) (.t 68), none⟩,
 ⟨some 72, .load false 1 (.t 71) .foreign, none⟩,
 ⟨some 73, .faddr 1 (.t 4), none⟩,
 ⟨some 74, .load false 1 (.t 73) (.site 4), none⟩,
 ⟨some 75, .mv false (.t 9), none⟩,
 ⟨some 76, .iaddrA 2 1 (.t 5) (.t 75), none⟩,
 ⟨some 77, .load false 1 (.t 76) (.site 5), none⟩,
 ⟨some 78, .call (.c (.fn f_zz17)) [(.t 72), (.t 74), (.t 77)] 2, none⟩,
 ⟨some 79, .iaddrA 2 1 (.t 8) (.t 66), none⟩,
 ⟨none, .store 1 (.t 79) (.t 78) (.site 8), none⟩]
abbrev zz2_r15 : List AI := [
 ⟨some 81, .bin .eql (.t 63) (.c (.int .i64 1)), none⟩,
 ⟨some 80, .mv true (.t 81), none⟩]
abbrev zz2_r16 : List AI := [
 ⟨some 82, .mv false (.t 9), none⟩,
 ⟨some 83, .mv false (.t 0), none⟩,
 ⟨some 84, .mv false (.t 9), none⟩,
 ⟨some 85, .nilck (.t 83), none⟩,
 ⟨some 86, .faddr 2 (.t 85), none⟩,
 ⟨some 87, .iaddrA 2 1 (.t 86) (.t 84), none⟩,
 ⟨some 88, .load false 1 (.t 87) .foreign, none⟩,
 ⟨some 89, .faddr 1 (.t 4), none⟩,
 ⟨some 90, .load false 1 (.t 89) (.site 4), none⟩,
 ⟨some 91, .call (.c (.fn f_zz10)) [(.t 88), (.t 90)] 2, none⟩,
 ⟨some 92, .iaddrA 2 1 (.t 8) (.t 82), none⟩,
 ⟨none, .store 1 (.t 92) (.t 91) (.site 8), none⟩]
abbrev zz2_r17 : List AI := [
 ⟨some 94, .bin .eql (.t 63) (.c (.int .i64 3)), none⟩,
 ⟨some 93, .mv true (.t 94), none⟩]
abbrev zz2_r18 : List AI := [
 ⟨some 95, .mv false (.t 0), none⟩,
 ⟨some 96, .mv false (.t 9), none⟩,
 ⟨some 97, .nilck (.t 95), none⟩,
 ⟨some 98, .faddr 0 (.t 97), none⟩,
 ⟨some 99, .iaddrA 2 1 (.t 98) (.t 96), none⟩,
 ⟨some 100, .load false 1 (.t 99) .foreign, none⟩,
 ⟨some 101, .faddr 1 (.t 4), none⟩,
 ⟨some 102, .load false 1 (.t 101) (.site 4), none⟩,
 ⟨some 103, .call (.c (.fn f_zz25)) [(.t 100), (.t 102)] 2, none⟩]
abbrev zz2_r19 : List AI := [
 ⟨some 105, .bin .eql (.t 63) (.c (.int .i64 5)), none⟩,
 ⟨some 104, .mv true (.t 105), none⟩]
abbrev zz2_r20 : List AI := [
 ⟨some 106, .mv false (.t 9), none⟩,
 ⟨some 107, .mv false (.t 0), none⟩,
 ⟨some 108, .mv false (.t 9), none⟩,
 ⟨some 109, .nilck (.t 107), none⟩,
 ⟨some 110, .faddr 0 (.t 109), none⟩,
 ⟨some 111, .iaddrA 2 1 (.t 110) (.t 108), none⟩,
 ⟨some 112, .load false 1 (.t 111) .foreign, none⟩,
 ⟨some 113, .faddr 1 (.t 4), none⟩,
 ⟨some 114, .load false 1 (.t 113) (.site 4), none⟩,
 ⟨some 115, .call (.c (.fn f_zz26)) [(.t 112), (.t 114)] 2, none⟩,
 ⟨some 116, .iaddrA 2 1 (.t 8) (.t 106), none⟩,
 ⟨none, .store 1 (.t 116) (.t 115) (.site 8), none⟩]
abbrev zz2_b1 : ACode := .seq (.reg false zz2_r19) (.cond (.t 104) (.reg true zz2_r20) (.skip))
abbrev zz2_b2 : ACode := .seq (.reg false zz2_r17) (.cond (.t 93) (.reg true zz2_r18) (zz2_b1))
abbrev zz2_b3 : ACode := .seq (.reg false zz2_r15) (.cond (.t 80) (.reg true zz2_r16) (zz2_b2))
abbrev zz2_r21 : List AI := [
 ⟨some 117, .bin .add (.t 10) (.c (.int .i64 1)), none⟩,
 ⟨some 10, .mv false (.t 117), none⟩]
abbrev zz2_l0 : ACode := .seq (.reg false zz2_r3) (.seq (.cond (.t 11) (.skip) (.exit 0)) (.seq (.block 1 (.seq (.reg false zz2_r4) (.seq (.seq (.reg false zz2_r5) (.cond (.t 15) (zz2_b0) (.skip))) (.seq (.seq (.reg false zz2_r10) (.cond (.t 61) (.seq (.reg false zz2_r11) (.ret)) (.skip))) (.seq (.reg false zz2_r12) (.block 2 (.seq (.reg false zz2_r13) (.cond (.t 64) (.reg true zz2_r14) (zz2_b3))))))))) (.reg false zz2_r21)))
abbrev zz2_r22 : List AI := [
 ⟨some 118, .iaddrA 2 1 (.t 8) (.c (.int .i64 0)), none⟩,
 ⟨some 119, .load false 1 (.t 118) (.site 8), none⟩,
 ⟨some 120, .iaddrA 2 1 (.t 8) (.c (.int .i64 1)), none⟩,
 ⟨some 121, .load false 1 (.t 120) (.site 8), none⟩,
 ⟨some 122, .bin .eql (.t 119) (.t 121), none⟩,
 ⟨some 123, .mv false (.t 122), none⟩,
 ⟨some 124, .mv false (.t 0), some (123, true)⟩,
 ⟨some 125, .nilck (.t 124), some (123, true)⟩,
 ⟨some 126, .faddr 0 (.t 125), some (123, true)⟩,
 ⟨some 127, .iaddrA 2 1 (.t 126) (.c (.int .i64 0)), some (123, true)⟩,
 ⟨some 128, .load false 1 (.t 127) .foreign, some (123, true)⟩,
 ⟨some 130, .mv false (.t 0), some (123, true)⟩,
 ⟨some 131, .nilck (.t 130), some (123, true)⟩,
 ⟨some 132, .faddr 0 (.t 131), some (123, true)⟩,
 ⟨some 133, .iaddrA 2 1 (.t 132) (.c (.int .i64 1)), some (123, true)⟩,
 ⟨some 134, .load false 1 (.t 133) .foreign, some (123, true)⟩,
 ⟨some 153, .iaddrA 2 1 (.t 8) (.c (.int .i64 0)), none⟩,
 ⟨some 154, .load false 1 (.t 153) (.site 8), none⟩,
 ⟨some 129, .call (.c (.fn f_zz13)) [(.t 128)] 1, some (123, true)⟩,
 ⟨some 135, .call (.c (.fn f_zz13)) [(.t 134)] 1, some (123, true)⟩,
 ⟨some 136, .bin .eql (.t 129) (.t 135), some (123, true)⟩,
 ⟨some 137, .pick (.t 123) (.t 136) (.c (.bool false)), none⟩,
 ⟨some 138, .mv false (.t 137), none⟩,
 ⟨some 139, .mv false (.t 0), some (138, true)⟩,
 ⟨some 140, .nilck (.t 139), some (138, true)⟩,
 ⟨some 141, .faddr 0 (.t 140), some (138, true)⟩,
 ⟨some 142, .iaddrA 2 1 (.t 141) (.c (.int .i64 0)), some (138, true)⟩,
 ⟨some 143, .load false 1 (.t 142) .foreign, some (138, true)⟩,
 ⟨some 145, .mv false (.t 0), some (138, true)⟩,
 ⟨some 146, .nilck (.t 145), some (138, true)⟩,
 ⟨some 147, .faddr 0 (.t 146), some (138, true)⟩,
 ⟨some 148, .iaddrA 2 1 (.t 147) (.c (.int .i64 1)), some (138, true)⟩,
 ⟨some 149, .load false 1 (.t 148) .foreign, some (138, true)⟩,
 ⟨some 144, .call (.c (.fn f_zz20)) [(.t 143)] 1, some (138, true)⟩,
 ⟨some 150, .call (.c (.fn f_zz20)) [(.t 149)] 1, some (138, true)⟩,
 ⟨some 151, .eqb false (.t 144) (.t 150), some (138, true)⟩,
 ⟨some 152, .pick (.t 138) (.t 151) (.c (.bool false)), none⟩,
 ⟨some 6, .mv true (.t 152), none⟩,
 ⟨some 7, .mv true (.t 154), none⟩]
abbrev zz2_c : ACode := .seq (.reg false zz2_r0) (.seq (.reg false zz2_r1) (.seq (.seq (.reg false zz2_r2) (.block 0 (.loop zz2_l0))) (.seq (.reg true zz2_r22) (.ret))))
def zz2_F : AFunc := ⟨155, [.tmp 6, .tmp 7], zz2_c⟩
theorem zz2_cp : compile Try.prog [26, 47, 78, 91, 103, 115] f_zz2 = some zz2_F := by kernel_rfl
-- loop 0: [0, 8]
abbrev zz1_r0 : List AI := [
 ⟨some 2, .mv true (.c (.bool false)), none⟩]
abbrev zz1_r1 : List AI := [
 ⟨some 8, .mv false (.c (.int .i64 0)), none⟩]
abbrev zz1_r2 : List AI := [
 ⟨some 9, .bin .lss (.t 8) (.c (.int .i64 6)), none⟩]
abbrev zz1_r3 : List AI := [
 ⟨some 10, .mv false (.t 8), none⟩,
 ⟨some 3, .mv true (.t 10), none⟩]
abbrev zz1_r4 : List AI := [
 ⟨some 12, .mv false (.t 0), none⟩,
 ⟨some 13, .nilck (.t 12), none⟩,
 ⟨some 14, .faddr 0 (.t 13), none⟩,
 ⟨some 15, .iaddrA 2 1 (.t 14) (.c (.int .i64 0)), none⟩,
 ⟨some 16, .load false 1 (.t 15) .any, none⟩,
 ⟨some 17, .mv false (.t 3), none⟩,
 ⟨some 18, .call (.c (.fn f_zz21)) [(.t 16), (.t 17)] 0, none⟩,
 ⟨some 11, .mv false (.t 18), none⟩,
 ⟨some 19, .ext (.t 11) 0, none⟩,
 ⟨some 20, .ext (.t 11) 1, none⟩,
 ⟨some 4, .alloc (zr 64 (.int .u8 0)), none⟩,
 ⟨none, .store 64 (.t 4) (.t 19) .any, none⟩,
 ⟨some 5, .mv true (.t 20), none⟩]
abbrev zz1_r5 : List AI := [
 ⟨some 22, .mv false (.t 0), none⟩,
 ⟨some 23, .nilck (.t 22), none⟩,
 ⟨some 24, .faddr 0 (.t 23), none⟩,
 ⟨some 25, .iaddrA 2 1 (.t 24) (.c (.int .i64 1)), none⟩,
 ⟨some 26, .load false 1 (.t 25) .any, none⟩,
 ⟨some 27, .mv false (.t 3), none⟩,
 ⟨some 28, .call (.c (.fn f_zz21)) [(.t 26), (.t 27)] 0, none⟩,
 ⟨some 21, .mv false (.t 28), none⟩,
 ⟨some 29, .ext (.t 21) 0, none⟩,
 ⟨some 30, .ext (.t 21) 1, none⟩,
 ⟨some 6, .alloc (zr 64 (.int .u8 0)), none⟩,
 ⟨none, .store 64 (.t 6) (.t 29) .any, none⟩,
 ⟨some 7, .mv true (.t 30), none⟩]
abbrev zz1_r6 : List AI := [
 ⟨some 31, .load true 64 (.t 4) .any, none⟩,
 ⟨some 32, .load true 64 (.t 6) .any, none⟩,
 ⟨some 33, .eqs true (kr 64 .i) (.t 31) (.t 32), none⟩,
 ⟨some 34, .mv false (.t 33), none⟩,
 ⟨some 35, .mv false (.t 5), some (34, false)⟩,
 ⟨some 36, .mv false (.t 7), some (34, false)⟩,
 ⟨some 37, .bin .neq (.t 35) (.t 36), some (34, false)⟩,
 ⟨some 38, .pick (.t 34) (.c (.bool true)) (.t 37), none⟩]
abbrev zz1_r7 : List AI := [
 ⟨some 2, .mv true (.c (.bool false)), none⟩]
abbrev zz1_r8 : List AI := [
 ⟨some 39, .bin .add (.t 8) (.c (.int .i64 1)), none⟩,
 ⟨some 8, .mv false (.t 39), none⟩]
abbrev zz1_l0 : ACode := .seq (.reg false zz1_r2) (.seq (.cond (.t 9) (.skip) (.exit 0)) (.seq (.block 1 (.seq (.reg false zz1_r3) (.seq (.reg false zz1_r4) (.seq (.reg false zz1_r5) (.seq (.reg false zz1_r6) (.cond (.t 38) (.seq (.reg false zz1_r7) (.ret)) (.skip))))))) (.reg false zz1_r8)))
abbrev zz1_r9 : List AI := [
 ⟨some 2, .mv true (.c (.bool true)), none⟩]
abbrev zz1_c : ACode := .seq (.reg false zz1_r0) (.seq (.seq (.reg false zz1_r1) (.block 0 (.loop zz1_l0))) (.seq (.reg false zz1_r9) (.ret)))
def zz1_F : AFunc := ⟨40, [.tmp 2], zz1_c⟩
theorem zz1_cp : compile Try.prog [] f_zz1 = some zz1_F := by kernel_rfl
-- loop 0: [0, 1, 4, 5, 6]
-- loop 1: [1, 4, 5, 7]
abbrev zz8_r0 : List AI := [
 ⟨some 4, .alloc (zr 64 (.int .u8 0)), none⟩]
abbrev zz8_r1 : List AI := [
 ⟨some 5, .alloc (zr 64 (.int .u8 0)), none⟩]
abbrev zz8_r2 : List AI := [
 ⟨some 6, .mv true (.c (.int .i64 0)), none⟩]
abbrev zz8_r3 : List AI := [
 ⟨some 8, .mv false (.t 6), none⟩,
 ⟨some 9, .bin .lss (.t 8) (.c (.int .i64 2)), none⟩]
abbrev zz8_r4 : List AI := [
 ⟨some 12, .mv false (.t 6), none⟩,
 ⟨some 13, .bin .mul (.c (.int .i64 32)) (.t 12), none⟩,
 ⟨some 14, .mv false (.t 0), none⟩,
 ⟨some 15, .bin .quo (.t 14) (.c (.int .i64 16777216)), none⟩,
 ⟨some 16, .conv .u8 (.t 15), none⟩,
 ⟨some 17, .iaddrA 64 1 (.t 5) (.t 13), none⟩,
 ⟨none, .store 1 (.t 17) (.t 16) .any, none⟩]
abbrev zz8_r5 : List AI := [
 ⟨some 18, .mv false (.t 6), none⟩,
 ⟨some 19, .bin .mul (.c (.int .i64 32)) (.t 18), none⟩,
 ⟨some 20, .bin .add (.t 19) (.c (.int .i64 1)), none⟩,
 ⟨some 21, .mv false (.t 0), none⟩,
 ⟨some 22, .bin .quo (.t 21) (.c (.int .i64 65536)), none⟩,
 ⟨some 23, .bin .rem (.t 22) (.c (.int .i64 256)), none⟩,
 ⟨some 24, .conv .u8 (.t 23), none⟩,
 ⟨some 25, .iaddrA 64 1 (.t 5) (.t 20), none⟩,
 ⟨none, .store 1 (.t 25) (.t 24) .any, none⟩]
abbrev zz8_r6 : List AI := [
 ⟨some 26, .mv false (.t 6), none⟩,
 ⟨some 27, .bin .mul (.c (.int .i64 32)) (.t 26), none⟩,
 ⟨some 28, .bin .add (.t 27) (.c (.int .i64 2)), none⟩,
 ⟨some 29, .mv false (.t 0), none⟩,
 ⟨some 30, .bin .quo (.t 29) (.c (.int .i64 256)), none⟩,
 ⟨some 31, .bin .rem (.t 30) (.c (.int .i64 256)), none⟩,
 ⟨some 32, .conv .u8 (.t 31), none⟩,
 ⟨some 33, .iaddrA 64 1 (.t 5) (.t 28), none⟩,
 ⟨none, .store 1 (.t 33) (.t 32) .any, none⟩]
abbrev zz8_r7 : List AI := [
 ⟨some 34, .mv false (.t 6), none⟩,
 ⟨some 35, .bin .mul (.c (.int .i64 32)) (.t 34), none⟩,
 ⟨some 36, .bin .add (.t 35) (.c (.int .i64 3)), none⟩,
 ⟨some 37, .mv false (.t 0), none⟩,
 ⟨some 38, .bin .rem (.t 37) (.c (.int .i64 256)), none⟩,
 ⟨some 39, .conv .u8 (.t 38), none⟩,
 ⟨some 40, .iaddrA 64 1 (.t 5) (.t 36), none⟩,
 ⟨none, .store 1 (.t 40) (.t 39) .any, none⟩]
abbrev zz8_r8 : List AI := [
 ⟨some 10, .mv false (.t 6), none⟩,
 ⟨some 11, .bin .add (.t 10) (.c (.int .i64 1)), none⟩,
 ⟨some 6, .mv true (.t 11), none⟩]
abbrev zz8_l0 : ACode := .seq (.seq (.reg false zz8_r3) (.cond (.t 9) (.skip) (.exit 0))) (.seq (.block 1 (.seq (.reg false zz8_r4) (.seq (.reg false zz8_r5) (.seq (.reg false zz8_r6) (.reg false zz8_r7))))) (.reg false zz8_r8))
abbrev zz8_r9 : List AI := [
 ⟨some 41, .mv false (.t 1), none⟩,
 ⟨some 42, .len true (.t 41), none⟩,
 ⟨some 43, .conv .u8 (.t 42), none⟩,
 ⟨some 44, .iaddrA 64 1 (.t 5) (.c (.int .i64 36)), none⟩,
 ⟨none, .store 1 (.t 44) (.t 43) .any, none⟩]
abbrev zz8_r10 : List AI := [
 ⟨some 7, .mv true (.c (.int .i64 0)), none⟩]
abbrev zz8_r11 : List AI := [
 ⟨some 45, .mv false (.t 7), none⟩,
 ⟨some 46, .mv false (.t 1), none⟩,
 ⟨some 47, .len true (.t 46), none⟩,
 ⟨some 48, .bin .lss (.t 45) (.t 47), none⟩]
abbrev zz8_r12 : List AI := [
 ⟨some 51, .mv false (.t 7), none⟩,
 ⟨some 52, .bin .lss (.t 51) (.c (.int .i64 28)), none⟩]
abbrev zz8_r13 : List AI := [
 ⟨some 53, .mv false (.t 7), none⟩,
 ⟨some 54, .bin .add (.c (.int .i64 4)) (.t 53), none⟩,
 ⟨some 55, .mv false (.t 1), none⟩,
 ⟨some 56, .mv false (.t 7), none⟩,
 ⟨some 57, .idxS (.t 55) (.t 56), none⟩,
 ⟨some 58, .iaddrA 64 1 (.t 5) (.t 54), none⟩,
 ⟨none, .store 1 (.t 58) (.t 57) .any, none⟩]
abbrev zz8_r14 : List AI := [
 ⟨some 59, .mv false (.t 7), none⟩,
 ⟨some 60, .bin .add (.c (.int .i64 37)) (.t 59), none⟩,
 ⟨some 61, .bin .sub (.t 60) (.c (.int .i64 28)), none⟩,
 ⟨some 62, .mv false (.t 1), none⟩,
 ⟨some 63, .mv false (.t 7), none⟩,
 ⟨some 64, .idxS (.t 62) (.t 63), none⟩,
 ⟨some 65, .iaddrA 64 1 (.t 5) (.t 61), none⟩,
 ⟨none, .store 1 (.t 65) (.t 64) .any, none⟩]
abbrev zz8_r15 : List AI := [
 ⟨some 49, .mv false (.t 7), none⟩,
 ⟨some 50, .bin .add (.t 49) (.c (.int .i64 1)), none⟩,
 ⟨some 7, .mv true (.t 50), none⟩]
abbrev zz8_l1 : ACode := .seq (.seq (.reg false zz8_r11) (.cond (.t 48) (.skip) (.exit 2))) (.seq (.block 3 (.seq (.reg false zz8_r12) (.cond (.t 52) (.reg false zz8_r13) (.reg false zz8_r14)))) (.reg false zz8_r15))
abbrev zz8_r16 : List AI := [
 ⟨some 66, .load true 64 (.t 5) .any, none⟩,
 ⟨none, .store 64 (.t 4) (.t 66) .any, none⟩]
abbrev zz8_c : ACode := .seq (.reg false zz8_r0) (.seq (.reg false zz8_r1) (.seq (.seq (.reg false zz8_r2) (.block 0 (.loop zz8_l0))) (.seq (.reg false zz8_r9) (.seq (.seq (.reg false zz8_r10) (.block 2 (.loop zz8_l1))) (.seq (.reg false zz8_r16) (.ret))))))
def zz8_F : AFunc := ⟨67, [.cell 4 true 64], zz8_c⟩
theorem zz8_cp : compile Try.prog [] f_zz8 = some zz8_F := by kernel_rfl
abbrev zz15_r0 : List AI := [
 ⟨some 4, .mv true (.c (.int .i64 0)), none⟩]
abbrev zz15_r1 : List AI := [
 ⟨some 6, .mv false (.t 0), none⟩,
 ⟨some 7, .nilck (.t 6), none⟩,
 ⟨some 8, .faddr 4 (.t 7), none⟩,
 ⟨some 9, .load false 1 (.t 8) .any, none⟩,
 ⟨some 5, .mv true (.t 9), none⟩]
abbrev zz15_r2 : List AI := [
 ⟨some 4, .mv true (.c (.int .i64 12)), none⟩]
abbrev zz15_r3 : List AI := [
 ⟨some 11, .mv false (.t 1), none⟩,
 ⟨some 12, .bin .lss (.t 11) (.c (.int .i64 0)), none⟩,
 ⟨some 13, .mv false (.t 12), none⟩,
 ⟨some 14, .mv false (.t 1), some (13, false)⟩,
 ⟨some 15, .mv false (.t 0), some (13, false)⟩,
 ⟨some 16, .nilck (.t 15), some (13, false)⟩,
 ⟨some 17, .faddr 0 (.t 16), some (13, false)⟩,
 ⟨some 18, .load false 1 (.t 17) .any, some (13, false)⟩,
 ⟨some 19, .len false (.t 18), some (13, false)⟩,
 ⟨some 20, .bin .geq (.t 14) (.t 19), some (13, false)⟩,
 ⟨some 21, .pick (.t 13) (.c (.bool true)) (.t 20), none⟩,
 ⟨some 10, .mv true (.t 21), none⟩]
abbrev zz15_r4 : List AI := [
 ⟨some 4, .mv true (.c (.int .i64 1)), none⟩]
abbrev zz15_b0 : ACode := .seq (.reg false zz15_r3) (.cond (.t 10) (.seq (.reg false zz15_r4) (.ret)) (.skip))
abbrev zz15_r5 : List AI := [
 ⟨some 4, .mv true (.c (.int .i64 0)), none⟩]
abbrev zz15_c : ACode := .seq (.reg false zz15_r0) (.seq (.block 0 (.seq (.reg false zz15_r1) (.cond (.t 5) (.seq (.reg false zz15_r2) (.ret)) (zz15_b0)))) (.seq (.reg false zz15_r5) (.ret)))
def zz15_F : AFunc := ⟨22, [.tmp 4], zz15_c⟩
theorem zz15_cp : compile Try.prog [] f_zz15 = some zz15_F := by kernel_rfl
abbrev zz24_r0 : List AI := [
 ⟨some 2, .mv true (.c (.int .i64 0)), none⟩]
abbrev zz24_r1 : List AI := [
 ⟨some 4, .mv false (.t 0), none⟩,
 ⟨some 5, .nilck (.t 4), none⟩,
 ⟨some 6, .faddr 3 (.t 5), none⟩,
 ⟨some 7, .load false 1 (.t 6) .any, none⟩,
 ⟨some 8, .bin .eql (.t 7) (.c (.int .i64 0)), none⟩,
 ⟨some 3, .mv true (.t 8), none⟩]
abbrev zz24_r2 : List AI := [
 ⟨some 9, .mv false (.t 0), none⟩,
 ⟨some 10, .nilck (.t 9), none⟩,
 ⟨some 11, .faddr 4 (.t 10), none⟩,
 ⟨none, .store 1 (.t 11) (.c (.bool true)) .any, none⟩]
abbrev zz24_r3 : List AI := [
 ⟨some 2, .mv true (.c (.int .i64 12)), none⟩]
abbrev zz24_b0 : ACode := .seq (.reg false zz24_r2) (.seq (.reg false zz24_r3) (.ret))
abbrev zz24_r4 : List AI := [
 ⟨some 13, .mv false (.t 0), none⟩,
 ⟨some 14, .nilck (.t 13), none⟩,
 ⟨some 15, .faddr 3 (.t 14), none⟩,
 ⟨some 16, .load false 1 (.t 15) .any, none⟩,
 ⟨some 17, .bin .gtr (.t 16) (.c (.int .i64 0)), none⟩,
 ⟨some 12, .mv true (.t 17), none⟩]
abbrev zz24_r5 : List AI := [
 ⟨some 18, .mv false (.t 0), none⟩,
 ⟨some 19, .nilck (.t 18), none⟩,
 ⟨some 20, .faddr 3 (.t 19), none⟩,
 ⟨some 21, .load false 1 (.t 20) .any, none⟩,
 ⟨some 22, .bin .sub (.t 21) (.c (.int .i64 1)), none⟩,
 ⟨some 23, .nilck (.t 18), none⟩,
 ⟨some 24, .faddr 3 (.t 23), none⟩,
 ⟨none, .store 1 (.t 24) (.t 22) .any, none⟩]
abbrev zz24_b1 : ACode := .seq (.reg false zz24_r4) (.cond (.t 12) (.reg false zz24_r5) (.skip))
abbrev zz24_r6 : List AI := [
 ⟨some 25, .mv false (.t 0), none⟩,
 ⟨some 26, .nilck (.t 25), none⟩,
 ⟨some 27, .faddr 2 (.t 26), none⟩,
 ⟨some 28, .load false 1 (.t 27) .any, none⟩,
 ⟨some 29, .bin .add (.t 28) (.c (.int .i64 1)), none⟩,
 ⟨some 30, .nilck (.t 25), none⟩,
 ⟨some 31, .faddr 2 (.t 30), none⟩,
 ⟨none, .store 1 (.t 31) (.t 29) .any, none⟩]
abbrev zz24_r7 : List AI := [
 ⟨some 2, .mv true (.c (.int .i64 0)), none⟩]
abbrev zz24_c : ACode := .seq (.reg false zz24_r0) (.seq (.block 0 (.seq (.reg false zz24_r1) (.cond (.t 3) (zz24_b0) (zz24_b1)))) (.seq (.reg false zz24_r6) (.seq (.reg false zz24_r7) (.ret))))
def zz24_F : AFunc := ⟨32, [.tmp 2], zz24_c⟩
theorem zz24_cp : compile Try.prog [] f_zz24 = some zz24_F := by kernel_rfl
-- loop 0: [0, 1, 4, 5, 9, 10]
abbrev zz29_r0 : List AI := [
 ⟨some 4, .alloc (zr 64 (.int .u8 0)), none⟩]
abbrev zz29_r1 : List AI := [
 ⟨some 5, .gn (.alloc (zr 64 (.int .u8 0))) [], none⟩]
abbrev zz29_r2 : List AI := [
 ⟨some 9, .build [(.int .i64 0), (.int .i64 0)] [(0, 1, (.c (.int .i64 0))), (1, 1, (.c (.int .i64 32)))], none⟩,
 ⟨some 10, .mv false (.c (.int .i64 0)), none⟩]
abbrev zz29_r3 : List AI := [
 ⟨some 11, .bin .lss (.t 10) (.c (.int .i64 2)), none⟩]
abbrev zz29_r4 : List AI := [
 ⟨some 12, .idxA false 2 1 (.t 9) (.t 10), none⟩,
 ⟨some 7, .mv true (.t 12), none⟩]
abbrev zz29_r5 : List AI := [
 ⟨some 13, .mv false (.t 7), none⟩,
 ⟨some 14, .mv false (.t 7), none⟩,
 ⟨some 15, .bin .add (.t 14) (.c (.int .i64 1)), none⟩,
 ⟨some 16, .mv false (.t 7), none⟩,
 ⟨some 17, .bin .add (.t 16) (.c (.int .i64 2)), none⟩,
 ⟨some 18, .mv false (.t 7), none⟩,
 ⟨some 19, .bin .add (.t 18) (.c (.int .i64 3)), none⟩,
 ⟨some 20, .mv false (.t 0), none⟩,
 ⟨some 21, .bin .shr (.t 20) (.c (.int .u64 24)), none⟩,
 ⟨some 22, .conv .u8 (.t 21), none⟩,
 ⟨some 23, .mv false (.t 0), none⟩,
 ⟨some 24, .bin .shr (.t 23) (.c (.int .u64 16)), none⟩,
 ⟨some 25, .conv .u8 (.t 24), none⟩,
 ⟨some 26, .mv false (.t 0), none⟩,
 ⟨some 27, .bin .shr (.t 26) (.c (.int .u64 8)), none⟩,
 ⟨some 28, .conv .u8 (.t 27), none⟩,
 ⟨some 29, .mv false (.t 0), none⟩,
 ⟨some 30, .conv .u8 (.t 29), none⟩,
 ⟨some 31, .iaddrA 64 1 (.t 5) (.t 13), none⟩,
 ⟨none, .store 1 (.t 31) (.t 22) .any, none⟩,
 ⟨some 32, .iaddrA 64 1 (.t 5) (.t 15), none⟩,
 ⟨none, .store 1 (.t 32) (.t 25) .any, none⟩,
 ⟨some 33, .iaddrA 64 1 (.t 5) (.t 17), none⟩,
 ⟨none, .store 1 (.t 33) (.t 28) .any, none⟩,
 ⟨some 34, .iaddrA 64 1 (.t 5) (.t 19), none⟩,
 ⟨none, .store 1 (.t 34) (.t 30) .any, none⟩]
abbrev zz29_r6 : List AI := [
 ⟨some 35, .bin .add (.t 10) (.c (.int .i64 1)), none⟩,
 ⟨some 10, .mv false (.t 35), none⟩]
abbrev zz29_l0 : ACode := .seq (.reg false zz29_r3) (.seq (.cond (.t 11) (.skip) (.exit 0)) (.seq (.block 1 (.seq (.reg false zz29_r4) (.reg false zz29_r5))) (.reg false zz29_r6)))
abbrev zz29_r7 : List AI := [
 ⟨some 36, .mv false (.t 1), none⟩,
 ⟨some 37, .len true (.t 36), none⟩,
 ⟨some 38, .conv .u8 (.t 37), none⟩,
 ⟨some 39, .iaddrA 64 1 (.t 5) (.c (.int .i64 36)), none⟩,
 ⟨none, .store 1 (.t 39) (.t 38) .any, none⟩]
abbrev zz29_r8 : List AI := [
 ⟨some 40, .gd (.arrS 1 64 true true false) [(.t 5), (.c (.int .i64 4)), (.c (.int .i64 32))], none⟩,
 ⟨some 41, .mv false (.t 1), none⟩,
 ⟨some 42, .gd .copyS [(.t 40), (.t 41)], none⟩,
 ⟨some 8, .mv true (.t 42), none⟩]
abbrev zz29_r9 : List AI := [
 ⟨some 43, .gd (.arrS 1 64 true false false) [(.t 5), (.c (.int .i64 37))], none⟩,
 ⟨some 44, .mv false (.t 1), none⟩,
 ⟨some 45, .mv false (.t 8), none⟩,
 ⟨some 46, .slS (.t 44) (some (.t 45)) none, none⟩,
 ⟨some 47, .gd .copyS [(.t 43), (.t 46)], none⟩]
abbrev zz29_r10 : List AI := [
 ⟨some 48, .load true 64 (.t 5) .any, none⟩,
 ⟨none, .store 64 (.t 4) (.t 48) .any, none⟩]
abbrev zz29_c : ACode := .seq (.reg false zz29_r0) (.seq (.reg false zz29_r1) (.seq (.seq (.reg false zz29_r2) (.block 0 (.loop zz29_l0))) (.seq (.reg false zz29_r7) (.seq (.reg false zz29_r8) (.seq (.reg true zz29_r9) (.seq (.reg false zz29_r10) (.ret)))))))
def zz29_F : AFunc := ⟨49, [.cell 4 true 64], zz29_c⟩
theorem zz29_cp : compile Try.prog [5] f_zz29 = some zz29_F := by kernel_rfl
-- loop 0: [4, 5, 6, 7, 13, 14]
abbrev zz19_r0 : List AI := [
 ⟨some 2, .box 3 (.t 0), none⟩,
 ⟨some 4, .gn (.alloc (zr 64 (.int .u8 0) ++ [(.int .i64 0), (.bool false)])) [], none⟩,
 ⟨some 5, .gn (.alloc (zr 64 (.int .u8 0) ++ [(.int .i64 0), (.bool false)])) [], none⟩,
 ⟨some 6, .gn (.alloc [(.int .i64 0)]) [], none⟩]
abbrev zz19_r1 : List AI := [
 ⟨some 7, .gn (.alloc [.nilS]) [], none⟩]
abbrev zz19_r2 : List AI := [
 ⟨some 10, .load true 3 (.t 2) .any, none⟩,
 ⟨some 11, .mv false (.t 1), none⟩,
 ⟨some 12, .call (.c (.fn f_zz9)) [(.t 10), (.t 11)] 0, none⟩]
abbrev zz19_r3 : List AI := [
 ⟨some 8, .alloc (zr 64 (.int .u8 0) ++ [(.int .i64 0), (.bool false)]), none⟩,
 ⟨none, .store 66 (.t 8) (.t 13) .any, none⟩]
abbrev zz19_r4 : List AI := [
 ⟨some 9, .mv true (.t 14), none⟩]
abbrev zz19_r5 : List AI := [
 ⟨some 15, .mv false (.t 9), none⟩,
 ⟨some 16, .bin .neq (.t 15) (.c (.int .i64 0)), none⟩]
abbrev zz19_r6 : List AI := [
 ⟨some 17, .build (zr 64 (.int .u8 0) ++ [(.int .i64 0), (.bool false)]) [], none⟩,
 ⟨some 18, .build (zr 64 (.int .u8 0) ++ [(.int .i64 0), (.bool false)]) [], none⟩,
 ⟨some 19, .mv false (.t 9), none⟩,
 ⟨none, .store 66 (.t 4) (.t 17) .any, none⟩,
 ⟨none, .store 66 (.t 5) (.t 18) .any, none⟩,
 ⟨none, .store 1 (.t 6) (.t 19) .any, none⟩]
abbrev zz19_r7 : List AI := [
 ⟨some 20, .load false 1 (.t 7) .any, none⟩,
 ⟨some 21, .load true 66 (.t 8) .any, none⟩,
 ⟨some 22, .mkslice 66 1 (.agg (zr 64 (.int .u8 0) ++ [(.int .i64 0), (.bool false)])) [(0, (.t 21))], none⟩,
 ⟨some 23, .appG 66 80 (zr 64 (.int .u8 0) ++ [(.int .i64 0), (.bool false)]) (.t 20) (.t 22), none⟩,
 ⟨none, .store 1 (.t 7) (.t 23) .any, none⟩]
abbrev slots_part_slot_y0a : ACode := .seq (.reg false zz19_r3) (.reg false zz19_r4)
abbrev slots_part_slot_y0b : ACode := .block 1 (.seq (.seq (.reg false zz19_r5) (.cond (.t 16) (.seq (.reg false zz19_r6) (.ret)) (.skip))) (.reg false zz19_r7))
abbrev zz19_r8 : List AI := [
 ⟨some 24, .load false 1 (.t 7) .foreign, none⟩,
 ⟨some 25, .iaddr 66 (.t 24) (.c (.int .i64 1)), none⟩,
 ⟨some 26, .faddr 65 (.t 25), none⟩,
 ⟨some 27, .load false 1 (.t 26) .foreign, none⟩,
 ⟨some 28, .mv false (.t 27), none⟩,
 ⟨some 29, .load false 1 (.t 7) .foreign, some (28, true)⟩,
 ⟨some 30, .iaddr 66 (.t 29) (.c (.int .i64 0)), some (28, true)⟩,
 ⟨some 31, .faddr 65 (.t 30), some (28, true)⟩,
 ⟨some 32, .load false 1 (.t 31) .foreign, some (28, true)⟩,
 ⟨some 33, .not (.t 32), some (28, true)⟩,
 ⟨some 34, .mv false (.t 33), some (28, true)⟩,
 ⟨some 35, .load false 1 (.t 7) .foreign, some (34, false)⟩,
 ⟨some 36, .iaddr 66 (.t 35) (.c (.int .i64 1)), some (34, false)⟩,
 ⟨some 37, .faddr 0 (.t 36), some (34, false)⟩,
 ⟨some 38, .load true 64 (.t 37) .foreign, some (34, false)⟩,
 ⟨some 40, .load false 1 (.t 7) .foreign, some (34, false)⟩,
 ⟨some 41, .iaddr 66 (.t 40) (.c (.int .i64 0)), some (34, false)⟩,
 ⟨some 42, .faddr 0 (.t 41), some (34, false)⟩,
 ⟨some 43, .load true 64 (.t 42) .foreign, some (34, false)⟩,
 ⟨some 39, .call (.c (.fn f_zz28)) [(.t 38), (.c (.int .i64 0))] 1, some (34, false)⟩,
 ⟨some 44, .call (.c (.fn f_zz28)) [(.t 43), (.c (.int .i64 0))] 1, some (34, false)⟩,
 ⟨some 45, .bin .gtr (.t 39) (.t 44), some (34, false)⟩,
 ⟨some 46, .pick (.t 34) (.c (.bool true)) (.t 45), some (28, true)⟩,
 ⟨some 47, .pick (.t 28) (.t 46) (.c (.bool false)), none⟩]
abbrev zz19_r9 : List AI := [
 ⟨some 48, .load false 1 (.t 7) .foreign, none⟩,
 ⟨some 49, .iaddr 66 (.t 48) (.c (.int .i64 1)), none⟩,
 ⟨some 50, .load true 66 (.t 49) .foreign, none⟩,
 ⟨some 51, .load false 1 (.t 7) .foreign, none⟩,
 ⟨some 52, .iaddr 66 (.t 51) (.c (.int .i64 0)), none⟩,
 ⟨some 53, .load true 66 (.t 52) .foreign, none⟩,
 ⟨none, .kp [(.ld false 1 (.t 7)), (.ld true 66 (.t 52))] (.store 66 (.t 4) (.t 50) .gp), none⟩,
 ⟨none, .store 66 (.t 5) (.t 53) .gp, none⟩,
 ⟨none, .store 1 (.t 6) (.c (.int .i64 0)) .gp, none⟩]
abbrev zz19_r10 : List AI := [
 ⟨some 54, .load false 1 (.t 7) .foreign, none⟩,
 ⟨some 55, .iaddr 66 (.t 54) (.c (.int .i64 0)), none⟩,
 ⟨some 56, .load true 66 (.t 55) .foreign, none⟩,
 ⟨some 57, .load false 1 (.t 7) .foreign, none⟩,
 ⟨some 58, .iaddr 66 (.t 57) (.c (.int .i64 1)), none⟩,
 ⟨some 59, .load true 66 (.t 58) .foreign, none⟩,
 ⟨none, .kp [(.ld false 1 (.t 7)), (.ld true 66 (.t 58))] (.store 66 (.t 4) (.t 56) .gp), none⟩,
 ⟨none, .store 66 (.t 5) (.t 59) .gp, none⟩,
 ⟨none, .store 1 (.t 6) (.c (.int .i64 0)) .gp, none⟩]
abbrev zz19_c : ACode := .seq (.reg false zz19_r0) (.seq (.reg false zz19_r1) (.seq (.seq (.reg false zz19_r2) (.block 0 (.rangeF (.t 12) [13, 14] slots_part_slot_y0a slots_part_slot_y0b))) (.seq (.seq (.reg true zz19_r8) (.cond (.t 47) (.seq (.reg true zz19_r9) (.ret)) (.skip))) (.seq (.reg true zz19_r10) (.ret)))))
def zz19_F : AFunc := ⟨60, [.cell 4 true 66, .cell 5 true 66, .cell 6 false 1], zz19_c⟩
theorem zz19_cp : compile Try.prog [4, 5, 6, 7, 23] f_zz19 = some zz19_F := by kernel_rfl
abbrev zz18_r0 : List AI := [
 ⟨some 3, .box 3 (.t 0), none⟩,
 ⟨some 4, .box 66 (.t 1), none⟩,
 ⟨some 5, .box 66 (.t 2), none⟩,
 ⟨some 6, .mv true (.c (.int .i64 0)), none⟩]
abbrev zz18_r1 : List AI := [
 ⟨some 7, .faddr 65 (.t 4), none⟩,
 ⟨some 8, .load false 1 (.t 7) .any, none⟩,
 ⟨some 9, .not (.t 8), none⟩,
 ⟨some 10, .mv false (.t 9), none⟩,
 ⟨some 11, .faddr 65 (.t 5), some (10, false)⟩,
 ⟨some 12, .load false 1 (.t 11) .any, some (10, false)⟩,
 ⟨some 13, .mv false (.t 12), some (10, false)⟩,
 ⟨some 14, .faddr 0 (.t 5), some (13, true)⟩,
 ⟨some 15, .load true 64 (.t 14) .any, some (13, true)⟩,
 ⟨some 16, .faddr 0 (.t 4), some (13, true)⟩,
 ⟨some 17, .load true 64 (.t 16) .any, some (13, true)⟩,
 ⟨some 18, .eqs false (kr 64 .i) (.t 15) (.t 17), some (13, true)⟩,
 ⟨some 19, .pick (.t 13) (.t 18) (.c (.bool false)), some (10, false)⟩,
 ⟨some 20, .pick (.t 10) (.c (.bool true)) (.t 19), none⟩]
abbrev zz18_r2 : List AI := [
 ⟨some 6, .mv true (.c (.int .i64 0)), none⟩]
abbrev zz18_r3 : List AI := [
 ⟨some 21, .load true 3 (.t 3) .any, none⟩,
 ⟨some 22, .faddr 64 (.t 5), none⟩,
 ⟨some 23, .load false 1 (.t 22) .any, none⟩,
 ⟨some 24, .faddr 0 (.t 4), none⟩,
 ⟨some 25, .load true 64 (.t 24) .any, none⟩,
 ⟨some 26, .call (.c (.fn f_zz11)) [(.t 21), (.t 23), (.t 25)] 0, none⟩,
 ⟨some 6, .mv true (.t 26), none⟩]
abbrev zz18_c : ACode := .seq (.reg false zz18_r0) (.seq (.seq (.reg false zz18_r1) (.cond (.t 20) (.seq (.reg false zz18_r2) (.ret)) (.skip))) (.seq (.reg false zz18_r3) (.ret)))
def zz18_F : AFunc := ⟨27, [.tmp 6], zz18_c⟩
theorem zz18_cp : compile Try.prog [] f_zz18 = some zz18_F := by kernel_rfl
abbrev zz6_r0 : List AI := [
 ⟨some 6, .mv true (.c (.int .i64 0)), none⟩]
abbrev zz6_r1 : List AI := [
 ⟨some 15, .mv false (.t 0), none⟩,
 ⟨some 16, .nilck (.t 15), none⟩,
 ⟨some 17, .faddr 0 (.t 16), none⟩,
 ⟨some 18, .load true 3 (.t 17) .any, none⟩,
 ⟨some 19, .mv false (.t 1), none⟩,
 ⟨some 20, .call (.c (.fn f_zz19)) [(.t 18), (.t 19)] 0, none⟩,
 ⟨some 14, .mv false (.t 20), none⟩,
 ⟨some 21, .ext (.t 14) 0, none⟩,
 ⟨some 22, .ext (.t 14) 1, none⟩,
 ⟨some 23, .ext (.t 14) 2, none⟩,
 ⟨some 7, .alloc (zr 64 (.int .u8 0) ++ [(.int .i64 0), (.bool false)]), none⟩,
 ⟨some 8, .alloc (zr 64 (.int .u8 0) ++ [(.int .i64 0), (.bool false)]), none⟩,
 ⟨none, .store 66 (.t 7) (.t 21) .any, none⟩,
 ⟨none, .store 66 (.t 8) (.t 22) .any, none⟩,
 ⟨some 9, .mv true (.t 23), none⟩]
abbrev zz6_r2 : List AI := [
 ⟨some 24, .mv false (.t 9), none⟩,
 ⟨some 25, .bin .neq (.t 24) (.c (.int .i64 0)), none⟩]
abbrev zz6_r3 : List AI := [
 ⟨some 26, .mv false (.t 9), none⟩,
 ⟨some 6, .mv true (.t 26), none⟩]
abbrev zz6_r4 : List AI := [
 ⟨some 27, .mv false (.t 0), none⟩,
 ⟨some 28, .nilck (.t 27), none⟩,
 ⟨some 29, .faddr 0 (.t 28), none⟩,
 ⟨some 30, .load true 3 (.t 29) .foreign, none⟩,
 ⟨some 31, .load true 66 (.t 7) (.site 7), none⟩,
 ⟨some 32, .load true 66 (.t 8) (.site 8), none⟩,
 ⟨some 33, .call (.c (.fn f_zz18)) [(.t 30), (.t 31), (.t 32)] 2, none⟩,
 ⟨some 10, .mv true (.t 33), none⟩]
abbrev zz6_r5 : List AI := [
 ⟨some 34, .mv false (.t 10), none⟩,
 ⟨some 35, .bin .neq (.t 34) (.c (.int .i64 0)), none⟩]
abbrev zz6_r6 : List AI := [
 ⟨some 36, .mv false (.t 10), none⟩,
 ⟨some 6, .mv true (.t 36), none⟩]
abbrev zz6_r7 : List AI := [
 ⟨some 11, .mv true (.c (.int .u32 0)), none⟩]
abbrev zz6_r8 : List AI := [
 ⟨some 37, .faddr 65 (.t 7), none⟩,
 ⟨some 38, .load false 1 (.t 37) .any, none⟩]
abbrev zz6_r9 : List AI := [
 ⟨some 39, .faddr 0 (.t 7), none⟩,
 ⟨some 40, .load true 64 (.t 39) .any, none⟩,
 ⟨some 41, .call (.c (.fn f_zz28)) [(.t 40), (.c (.int .i64 0))] 0, none⟩,
 ⟨some 11, .mv true (.t 41), none⟩]
abbrev zz6_r10 : List AI := [
 ⟨some 42, .mv false (.t 11), none⟩,
 ⟨some 43, .bin .add (.t 42) (.c (.int .u32 1)), none⟩,
 ⟨some 44, .mv false (.t 2), none⟩,
 ⟨some 45, .call (.c (.fn f_zz29)) [(.t 43), (.t 44)] 0, none⟩,
 ⟨some 12, .alloc (zr 64 (.int .u8 0)), none⟩,
 ⟨none, .store 64 (.t 12) (.t 45) .any, none⟩]
abbrev zz6_r11 : List AI := [
 ⟨some 46, .mv false (.t 0), none⟩,
 ⟨some 47, .nilck (.t 46), none⟩,
 ⟨some 48, .faddr 0 (.t 47), none⟩,
 ⟨some 49, .load true 3 (.t 48) .foreign, none⟩,
 ⟨some 50, .mv false (.t 0), none⟩,
 ⟨some 51, .nilck (.t 50), none⟩,
 ⟨some 52, .faddr 0 (.t 51), none⟩,
 ⟨some 53, .faddr 1 (.t 52), none⟩,
 ⟨some 54, .load false 1 (.t 53) .foreign, none⟩,
 ⟨some 55, .mv false (.t 1), none⟩,
 ⟨some 56, .bin .mul (.c (.int .i64 2)) (.t 55), none⟩,
 ⟨some 57, .bin .add (.t 54) (.t 56), none⟩,
 ⟨some 58, .bin .add (.t 57) (.c (.int .i64 1)), none⟩,
 ⟨some 59, .load true 64 (.t 12) (.site 12), none⟩,
 ⟨some 60, .call (.c (.fn f_zz11)) [(.t 49), (.t 58), (.t 59)] 2, none⟩,
 ⟨some 13, .mv true (.t 60), none⟩]
abbrev zz6_r12 : List AI := [
 ⟨some 61, .mv false (.t 13), none⟩,
 ⟨some 62, .bin .neq (.t 61) (.c (.int .i64 0)), none⟩]
abbrev zz6_r13 : List AI := [
 ⟨some 63, .mv false (.t 13), none⟩,
 ⟨some 6, .mv true (.t 63), none⟩]
abbrev zz6_r14 : List AI := [
 ⟨some 64, .mv false (.t 0), none⟩,
 ⟨some 65, .nilck (.t 64), none⟩,
 ⟨some 66, .faddr 0 (.t 65), none⟩,
 ⟨some 67, .load true 3 (.t 66) .foreign, none⟩,
 ⟨some 68, .mv false (.t 0), none⟩,
 ⟨some 69, .nilck (.t 68), none⟩,
 ⟨some 70, .faddr 0 (.t 69), none⟩,
 ⟨some 71, .faddr 1 (.t 70), none⟩,
 ⟨some 72, .load false 1 (.t 71) .foreign, none⟩,
 ⟨some 73, .mv false (.t 1), none⟩,
 ⟨some 74, .bin .mul (.c (.int .i64 2)) (.t 73), none⟩,
 ⟨some 75, .bin .add (.t 72) (.t 74), none⟩,
 ⟨some 76, .load true 64 (.t 12) (.site 12), none⟩,
 ⟨some 77, .call (.c (.fn f_zz11)) [(.t 67), (.t 75), (.t 76)] 2, none⟩,
 ⟨some 6, .mv true (.t 77), none⟩]
abbrev zz6_c : ACode := .seq (.reg false zz6_r0) (.seq (.reg false zz6_r1) (.seq (.seq (.reg false zz6_r2) (.cond (.t 25) (.seq (.reg false zz6_r3) (.ret)) (.skip))) (.seq (.seq (.reg true zz6_r4) (.seq (.reg false zz6_r5) (.cond (.t 35) (.seq (.reg false zz6_r6) (.ret)) (.skip)))) (.seq (.reg false zz6_r7) (.seq (.seq (.reg false zz6_r8) (.cond (.t 38) (.reg false zz6_r9) (.skip))) (.seq (.reg false zz6_r10) (.seq (.seq (.reg true zz6_r11) (.seq (.reg false zz6_r12) (.cond (.t 62) (.seq (.reg false zz6_r13) (.ret)) (.skip)))) (.seq (.reg true zz6_r14) (.ret)))))))))
def zz6_F : AFunc := ⟨78, [.tmp 6], zz6_c⟩
theorem zz6_cp : compile Try.prog [33, 60, 77] f_zz6 = some zz6_F := by kernel_rfl
-- loop 0: [0, 1, 5]
-- loop 0: [3, 9]
abbrev zz7_r0 : List AI := [
 ⟨some 2, .mv true (.c .nilS), none⟩]
abbrev zz7_r1 : List AI := [
 ⟨some 3, .mv true (.c .nilS), none⟩]
abbrev zz7_r2 : List AI := [
 ⟨some 5, .mv false (.t 0), none⟩,
 ⟨some 6, .nilck (.t 5), none⟩,
 ⟨some 7, .faddr 1 (.t 6), none⟩,
 ⟨some 8, .load false 1 (.t 7) .any, none⟩,
 ⟨some 9, .gn .rng [(.t 8)], none⟩]
abbrev zz7_r3 : List AI := [
 ⟨some 10, .gn .nxt [(.t 9)], none⟩,
 ⟨some 11, .ext (.t 10) 0, none⟩]
abbrev zz7_r4 : List AI := [
 ⟨some 12, .gd .entry [(.t 9)], none⟩,
 ⟨some 13, .ext (.t 12) 0, none⟩,
 ⟨some 4, .mv true (.t 13), none⟩]
abbrev zz7_r5 : List AI := [
 ⟨some 14, .mv true (.t 3), none⟩,
 ⟨some 15, .mv false (.t 4), none⟩,
 ⟨some 16, .mkslice 1 1 (.int .i64 0) [(0, (.t 15))], none⟩,
 ⟨some 17, .appG 1 8 [(.int .i64 0)] (.t 14) (.t 16), none⟩,
 ⟨some 3, .mv true (.t 17), none⟩]
abbrev zz7_l0 : ACode := .seq (.reg false zz7_r3) (.seq (.cond (.t 11) (.skip) (.exit 0)) (.block 1 (.seq (.reg false zz7_r4) (.reg false zz7_r5))))
abbrev zz7_r6 : List AI := [
 ⟨some 18, .mv false (.t 3), none⟩,
 ⟨some 19, .call (.c (.fn f_zz4)) [(.t 18)] 0, none⟩]
abbrev zz7_r7 : List AI := [
 ⟨some 20, .mv false (.t 3), none⟩,
 ⟨some 2, .mv true (.t 20), none⟩]
abbrev zz7_c : ACode := .seq (.reg false zz7_r0) (.seq (.reg false zz7_r1) (.seq (.seq (.reg false zz7_r2) (.block 0 (.loop zz7_l0))) (.seq (.reg false zz7_r6) (.seq (.reg false zz7_r7) (.ret)))))
def zz7_F : AFunc := ⟨21, [.tmp 2], zz7_c⟩
theorem zz7_cp : compile Try.prog [17] f_zz7 = some zz7_F := by kernel_rfl
abbrev zz30_r0 : List AI := [
 ⟨some 3, .box 65 (.t 0), none⟩,
 ⟨some 6, .alloc (zr 64 (.int .u8 0) ++ [(.bool false)]), none⟩]
abbrev zz30_r1 : List AI := [
 ⟨some 11, .mv false (.t 1), none⟩,
 ⟨some 12, .len false (.t 11), none⟩,
 ⟨some 7, .mv true (.t 12), none⟩]
abbrev zz30_r2 : List AI := [
 ⟨some 13, .mv false (.t 2), none⟩,
 ⟨some 14, .mv false (.t 7), none⟩,
 ⟨some 15, .bin .add (.t 14) (.c (.int .i64 3)), none⟩,
 ⟨some 16, .bin .rem (.t 13) (.t 15), none⟩,
 ⟨some 17, .mv false (.t 7), none⟩,
 ⟨some 18, .bin .add (.t 16) (.t 17), none⟩,
 ⟨some 19, .bin .add (.t 18) (.c (.int .i64 3)), none⟩,
 ⟨some 20, .mv false (.t 7), none⟩,
 ⟨some 21, .bin .add (.t 20) (.c (.int .i64 3)), none⟩,
 ⟨some 22, .bin .rem (.t 19) (.t 21), none⟩,
 ⟨some 8, .mv true (.t 22), none⟩]
abbrev zz30_r3 : List AI := [
 ⟨some 24, .mv false (.t 8), none⟩,
 ⟨some 25, .bin .eql (.t 24) (.c (.int .i64 0)), none⟩,
 ⟨some 23, .mv true (.t 25), none⟩]
abbrev zz30_r4 : List AI := [
 ⟨some 26, .load true 65 (.t 3) .any, none⟩,
 ⟨none, .store 65 (.t 6) (.t 26) .any, none⟩]
abbrev zz30_r5 : List AI := [
 ⟨some 28, .mv false (.t 8), none⟩,
 ⟨some 29, .mv false (.t 7), none⟩,
 ⟨some 30, .bin .leq (.t 28) (.t 29), none⟩,
 ⟨some 27, .mv true (.t 30), none⟩]
abbrev zz30_r6 : List AI := [
 ⟨some 31, .mv false (.t 1), none⟩,
 ⟨some 32, .mv false (.t 8), none⟩,
 ⟨some 33, .bin .sub (.t 32) (.c (.int .i64 1)), none⟩,
 ⟨some 34, .iaddr 64 (.t 31) (.t 33), none⟩,
 ⟨some 35, .load true 64 (.t 34) .any, none⟩,
 ⟨some 36, .build (zr 64 (.int .u8 0) ++ [(.bool false)]) [(0, 64, (.t 35))], none⟩,
 ⟨none, .store 65 (.t 6) (.t 36) .any, none⟩]
abbrev zz30_r7 : List AI := [
 ⟨some 38, .mv false (.t 8), none⟩,
 ⟨some 39, .mv false (.t 7), none⟩,
 ⟨some 40, .bin .add (.t 39) (.c (.int .i64 1)), none⟩,
 ⟨some 41, .bin .eql (.t 38) (.t 40), none⟩,
 ⟨some 37, .mv true (.t 41), none⟩]
abbrev zz30_r8 : List AI := [
 ⟨some 42, .build (zr 64 (.int .u8 0) ++ [(.bool false)]) [(64, 1, (.c (.bool true)))], none⟩,
 ⟨none, .store 65 (.t 6) (.t 42) .any, none⟩]
abbrev zz30_b0 : ACode := .seq (.reg false zz30_r7) (.cond (.t 37) (.seq (.reg false zz30_r8) (.ret)) (.skip))
abbrev zz30_b1 : ACode := .seq (.reg false zz30_r5) (.cond (.t 27) (.seq (.reg false zz30_r6) (.ret)) (zz30_b0))
abbrev zz30_r9 : List AI := [
 ⟨some 43, .faddr 0 (.t 3), none⟩,
 ⟨some 44, .load true 64 (.t 43) (.site 3), none⟩,
 ⟨some 45, .mv false (.t 1), none⟩,
 ⟨some 46, .mv false (.t 7), none⟩,
 ⟨some 47, .bin .sub (.t 46) (.c (.int .i64 1)), none⟩,
 ⟨some 48, .iaddr 64 (.t 45) (.t 47), none⟩,
 ⟨some 49, .load true 64 (.t 48) .foreign, none⟩,
 ⟨some 9, .gn (.alloc (zr 64 (.int .u8 0))) [], none⟩,
 ⟨some 10, .gn (.alloc (zr 64 (.int .u8 0))) [], none⟩,
 ⟨none, .store 64 (.t 9) (.t 44) .gp, none⟩,
 ⟨none, .store 64 (.t 10) (.t 49) .gp, none⟩]
abbrev zz30_r10 : List AI := [
 ⟨some 50, .mv false (.t 7), none⟩,
 ⟨some 51, .bin .gtr (.t 50) (.c (.int .i64 1)), none⟩]
abbrev zz30_r11 : List AI := [
 ⟨some 52, .mv false (.t 1), none⟩,
 ⟨some 53, .mv false (.t 7), none⟩,
 ⟨some 54, .bin .sub (.t 53) (.c (.int .i64 2)), none⟩,
 ⟨some 55, .iaddr 64 (.t 52) (.t 54), none⟩,
 ⟨some 56, .load true 64 (.t 55) .any, none⟩,
 ⟨none, .store 64 (.t 9) (.t 56) .any, none⟩]
abbrev zz30_r12 : List AI := [
 ⟨some 57, .load true 64 (.t 9) .any, none⟩,
 ⟨some 58, .load true 64 (.t 10) .any, none⟩,
 ⟨some 59, .eqs false (kr 64 .i) (.t 57) (.t 58), none⟩]
abbrev zz30_r13 : List AI := [
 ⟨some 60, .load true 64 (.t 10) .any, none⟩,
 ⟨some 61, .build (zr 64 (.int .u8 0) ++ [(.bool false)]) [(0, 64, (.t 60))], none⟩,
 ⟨none, .store 65 (.t 6) (.t 61) .any, none⟩]
abbrev zz30_r14 : List AI := [
 ⟨some 62, .gd (.arrS 1 64 true false false) [(.t 10), (.c (.int .i64 32))], none⟩,
 ⟨some 63, .gd (.arrS 1 64 true false false) [(.t 9), (.c (.int .i64 32))], none⟩,
 ⟨some 64, .copy 1 (.t 62) (.t 63), none⟩]
abbrev zz30_r15 : List AI := [
 ⟨some 65, .load true 64 (.t 10) .any, none⟩,
 ⟨some 66, .build (zr 64 (.int .u8 0) ++ [(.bool false)]) [(0, 64, (.t 65))], none⟩,
 ⟨none, .store 65 (.t 6) (.t 66) .any, none⟩]
abbrev zz30_c : ACode := .seq (.reg false zz30_r0) (.seq (.reg false zz30_r1) (.seq (.seq (.reg false zz30_r2) (.block 0 (.seq (.reg false zz30_r3) (.cond (.t 23) (.seq (.reg false zz30_r4) (.ret)) (zz30_b1))))) (.seq (.reg true zz30_r9) (.seq (.seq (.reg false zz30_r10) (.cond (.t 51) (.reg false zz30_r11) (.skip))) (.seq (.seq (.reg false zz30_r12) (.cond (.t 59) (.seq (.reg false zz30_r13) (.ret)) (.skip))) (.seq (.reg true zz30_r14) (.seq (.reg false zz30_r15) (.ret))))))))
def zz30_F : AFunc := ⟨67, [.cell 6 true 65], zz30_c⟩
theorem zz30_cp : compile Try.prog [9, 10] f_zz30 = some zz30_F := by kernel_rfl
-- loop 0: [7, 8]
abbrev zz9_r0 : List AI := [
 ⟨some 2, .gn (.box 3) [(.t 0)], none⟩,
 ⟨some 3, .gn (.box 1) [(.t 1)], none⟩,
 ⟨some 4, .mv true (.c .nilF), none⟩]
abbrev zz9_r1 : List AI := [
 ⟨some 5, .gd (.clo f_zz5) [(.t 2), (.t 3)], none⟩,
 ⟨some 4, .mv true (.t 5), none⟩]
abbrev zz9_c : ACode := .seq (.reg false zz9_r0) (.seq (.reg false zz9_r1) (.ret))
def zz9_F : AFunc := ⟨6, [.tmp 4], zz9_c⟩
theorem zz9_cp : compile Try.prog [2, 3, 5] f_zz9 = some zz9_F := by kernel_rfl
abbrev zz28_r0 : List AI := [
 ⟨some 2, .box 64 (.t 0), none⟩,
 ⟨some 4, .mv true (.c (.int .u32 0)), none⟩]
abbrev zz28_r1 : List AI := [
 ⟨some 5, .mv false (.t 1), none⟩,
 ⟨some 6, .iaddrA 64 1 (.t 2) (.t 5), none⟩,
 ⟨some 7, .load false 1 (.t 6) (.site 2), none⟩,
 ⟨some 8, .conv .u32 (.t 7), none⟩,
 ⟨some 9, .bin .shl (.t 8) (.c (.int .u64 24)), none⟩,
 ⟨some 10, .mv false (.t 1), none⟩,
 ⟨some 11, .bin .add (.t 10) (.c (.int .i64 1)), none⟩,
 ⟨some 12, .iaddrA 64 1 (.t 2) (.t 11), none⟩,
 ⟨some 13, .load false 1 (.t 12) (.site 2), none⟩,
 ⟨some 14, .conv .u32 (.t 13), none⟩,
 ⟨some 15, .bin .shl (.t 14) (.c (.int .u64 16)), none⟩,
 ⟨some 16, .bin .or (.t 9) (.t 15), none⟩,
 ⟨some 17, .mv false (.t 1), none⟩,
 ⟨some 18, .bin .add (.t 17) (.c (.int .i64 2)), none⟩,
 ⟨some 19, .iaddrA 64 1 (.t 2) (.t 18), none⟩,
 ⟨some 20, .load false 1 (.t 19) (.site 2), none⟩,
 ⟨some 21, .conv .u32 (.t 20), none⟩,
 ⟨some 22, .bin .shl (.t 21) (.c (.int .u64 8)), none⟩,
 ⟨some 23, .bin .or (.t 16) (.t 22), none⟩,
 ⟨some 24, .mv false (.t 1), none⟩,
 ⟨some 25, .bin .add (.t 24) (.c (.int .i64 3)), none⟩,
 ⟨some 26, .iaddrA 64 1 (.t 2) (.t 25), none⟩,
 ⟨some 27, .load false 1 (.t 26) (.site 2), none⟩,
 ⟨some 28, .conv .u32 (.t 27), none⟩,
 ⟨some 29, .bin .or (.t 23) (.t 28), none⟩,
 ⟨some 4, .mv true (.t 29), none⟩]
abbrev zz28_c : ACode := .seq (.reg false zz28_r0) (.seq (.reg true zz28_r1) (.ret))
def zz28_F : AFunc := ⟨30, [.tmp 4], zz28_c⟩
theorem zz28_cp : compile Try.prog [] f_zz28 = some zz28_F := by kernel_rfl
abbrev zz11_r0 : List AI := [
 ⟨some 3, .box 3 (.t 0), none⟩,
 ⟨some 5, .box 64 (.t 2), none⟩,
 ⟨some 6, .mv true (.c (.int .i64 0)), none⟩]
abbrev zz11_r1 : List AI := [
 ⟨some 8, .faddr 0 (.t 3), none⟩,
 ⟨some 9, .load false 1 (.t 8) .any, none⟩,
 ⟨some 10, .mv false (.t 1), none⟩,
 ⟨some 11, .load true 64 (.t 5) .any, none⟩,
 ⟨some 12, .call (.c (.fn f_zz14)) [(.t 9), (.t 10), (.t 11)] 0, none⟩,
 ⟨some 7, .mv true (.t 12), none⟩]
abbrev zz11_r2 : List AI := [
 ⟨some 13, .mv false (.t 7), none⟩,
 ⟨some 14, .bin .neq (.t 13) (.c (.int .i64 0)), none⟩]
abbrev zz11_r3 : List AI := [
 ⟨some 15, .mv false (.t 7), none⟩,
 ⟨some 6, .mv true (.t 15), none⟩]
abbrev zz11_r4 : List AI := [
 ⟨some 16, .faddr 0 (.t 3), none⟩,
 ⟨some 17, .load false 1 (.t 16) .any, none⟩,
 ⟨some 18, .call (.c (.fn f_zz23)) [(.t 17)] 0, none⟩,
 ⟨some 6, .mv true (.t 18), none⟩]
abbrev zz11_c : ACode := .seq (.reg false zz11_r0) (.seq (.seq (.reg false zz11_r1) (.seq (.reg false zz11_r2) (.cond (.t 14) (.seq (.reg false zz11_r3) (.ret)) (.skip)))) (.seq (.reg false zz11_r4) (.ret)))
def zz11_F : AFunc := ⟨19, [.tmp 6], zz11_c⟩
theorem zz11_cp : compile Try.prog [] f_zz11 = some zz11_F := by kernel_rfl
-- loop 0: [0, 1, 2, 9]
abbrev zz5_r0 : List AI := [
 ⟨some 9, .mv false (.c (.int .i64 0)), none⟩]
abbrev zz5_r1 : List AI := [
 ⟨some 10, .bin .lss (.t 9) (.c (.int .i64 2)), none⟩]
abbrev zz5_r2 : List AI := [
 ⟨some 11, .mv false (.t 9), none⟩,
 ⟨some 4, .mv true (.t 11), none⟩]
abbrev zz5_r3 : List AI := [
 ⟨some 12, .faddr 1 (.t 1), none⟩,
 ⟨some 13, .load false 1 (.t 12) .any, none⟩,
 ⟨some 14, .load false 1 (.t 2) .any, none⟩,
 ⟨some 15, .bin .mul (.c (.int .i64 2)) (.t 14), none⟩,
 ⟨some 16, .bin .add (.t 13) (.t 15), none⟩,
 ⟨some 17, .mv false (.t 4), none⟩,
 ⟨some 18, .bin .add (.t 16) (.t 17), none⟩,
 ⟨some 5, .mv true (.t 18), none⟩]
abbrev zz5_r4 : List AI := [
 ⟨some 20, .faddr 0 (.t 1), none⟩,
 ⟨some 21, .load false 1 (.t 20) .any, none⟩,
 ⟨some 22, .mv false (.t 5), none⟩,
 ⟨some 23, .call (.c (.fn f_zz21)) [(.t 21), (.t 22)] 0, none⟩,
 ⟨some 19, .mv false (.t 23), none⟩,
 ⟨some 24, .ext (.t 19) 0, none⟩,
 ⟨some 25, .ext (.t 19) 1, none⟩,
 ⟨some 6, .alloc (zr 64 (.int .u8 0)), none⟩,
 ⟨none, .store 64 (.t 6) (.t 24) .any, none⟩,
 ⟨some 7, .mv true (.t 25), none⟩]
abbrev zz5_r5 : List AI := [
 ⟨some 26, .load true 64 (.t 6) .any, none⟩,
 ⟨some 27, .mv false (.t 5), none⟩,
 ⟨some 28, .build (zr 64 (.int .u8 0) ++ [(.int .i64 0), (.bool false)]) [(0, 64, (.t 26)), (64, 1, (.t 27))], none⟩,
 ⟨some 8, .alloc (zr 64 (.int .u8 0) ++ [(.int .i64 0), (.bool false)]), none⟩,
 ⟨none, .store 66 (.t 8) (.t 28) .any, none⟩]
abbrev zz5_r6 : List AI := [
 ⟨some 29, .mv false (.t 7), none⟩,
 ⟨some 30, .bin .eql (.t 29) (.c (.int .i64 0)), none⟩]
abbrev zz5_r7 : List AI := [
 ⟨some 31, .load true 64 (.t 6) (.site 6), none⟩,
 ⟨some 33, .load true 64 (.t 6) (.site 6), none⟩,
 ⟨some 32, .call (.c (.fn f_zz28)) [(.t 31), (.c (.int .i64 0))] 2, none⟩,
 ⟨some 34, .call (.c (.fn f_zz28)) [(.t 33), (.c (.int .i64 32))] 2, none⟩,
 ⟨some 35, .bin .eql (.t 32) (.t 34), none⟩,
 ⟨some 36, .mv false (.t 35), none⟩,
 ⟨some 37, .load true 64 (.t 6) (.site 6), some (36, true)⟩,
 ⟨some 38, .call (.c (.fn f_zz28)) [(.t 37), (.c (.int .i64 0))] 2, some (36, true)⟩,
 ⟨some 39, .bin .geq (.t 38) (.c (.int .u32 1)), some (36, true)⟩,
 ⟨some 40, .pick (.t 36) (.t 39) (.c (.bool false)), none⟩,
 ⟨some 41, .mv false (.t 40), none⟩,
 ⟨some 42, .iaddrA 64 1 (.t 6) (.c (.int .i64 36)), some (41, true)⟩,
 ⟨some 43, .load false 1 (.t 42) (.site 6), some (41, true)⟩,
 ⟨some 44, .bin .leq (.t 43) (.c (.int .u8 55)), some (41, true)⟩,
 ⟨some 45, .pick (.t 41) (.t 44) (.c (.bool false)), none⟩,
 ⟨some 46, .faddr 65 (.t 8), none⟩,
 ⟨none, .store 1 (.t 46) (.t 45) (.site 8), none⟩]
abbrev zz5_r8 : List AI := [
 ⟨some 47, .mv false (.t 7), none⟩,
 ⟨some 48, .bin .eql (.t 47) (.c (.int .i64 14)), none⟩]
abbrev zz5_r9 : List AI := [
 ⟨some 7, .mv true (.c (.int .i64 0)), none⟩]
abbrev zz5_r10 : List AI := [
 ⟨some 49, .mv false (.t 0), none⟩,
 ⟨some 50, .load true 66 (.t 8) .any, none⟩,
 ⟨some 51, .mv false (.t 7), none⟩,
 ⟨some 52, .call (.t 49) [(.t 50), (.t 51)] 0, none⟩,
 ⟨some 53, .not (.t 52), none⟩]
abbrev zz5_r11 : List AI := [
 ⟨some 54, .bin .add (.t 9) (.c (.int .i64 1)), none⟩,
 ⟨some 9, .mv false (.t 54), none⟩]
abbrev zz5_l0 : ACode := .seq (.reg false zz5_r1) (.seq (.cond (.t 10) (.skip) (.exit 0)) (.seq (.block 1 (.seq (.reg false zz5_r2) (.seq (.reg false zz5_r3) (.seq (.reg false zz5_r4) (.seq (.reg false zz5_r5) (.seq (.seq (.reg false zz5_r6) (.cond (.t 30) (.reg true zz5_r7) (.skip))) (.seq (.seq (.reg false zz5_r8) (.cond (.t 48) (.reg false zz5_r9) (.skip))) (.seq (.reg false zz5_r10) (.cond (.t 53) (.ret) (.skip)))))))))) (.reg false zz5_r11)))
abbrev zz5_c : ACode := .seq (.reg false zz5_r0) (.block 0 (.loop zz5_l0))
def zz5_F : AFunc := ⟨55, [], zz5_c⟩
theorem zz5_cp : compile Try.prog [] f_zz5 = some zz5_F := by kernel_rfl
theorem fol : Try.prog.follows .mixedOrders = true := by kernel_rfl
end
end Go.Proofs.Ytioojmlhmhgeeaa
