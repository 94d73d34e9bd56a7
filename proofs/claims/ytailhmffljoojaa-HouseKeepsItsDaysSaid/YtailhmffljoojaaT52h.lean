/-
 The functions' code in the evaluator's form (second part),printed by a program of ours from the loaded program,and checked against it.
 Conditions: none.
-/
import Derived.Test.YtailhmffljoojaaT52
namespace Go.Proofs.Ytailhmffljoojaa
open Go Go.E2
noncomputable section
abbrev zz51_r0:List AI:=[
 ⟨some 6,.mv true (.c (.int .i64 0)),none⟩]
abbrev zz51_r1:List AI:=[
 ⟨some 7,.mv false (.t 2),none⟩,
 ⟨some 8,.bin .lss (.t 7) (.c (.int .i64 1)),none⟩,
 ⟨some 9,.mv false (.t 8),none⟩,
 ⟨some 10,.mv false (.t 2),some (9,false)⟩,
 ⟨some 11,.bin .gtr (.t 10) (.c (.int .i64 250)),some (9,false)⟩,
 ⟨some 12,.pick (.t 9) (.c (.bool true)) (.t 11),none⟩]
abbrev zz51_r2:List AI:=[
 ⟨some 6,.mv true (.c (.int .i64 1)),none⟩]
abbrev zz51_r3:List AI:=[
 ⟨some 13,.mv false (.t 0),none⟩,
 ⟨some 14,.mv false (.t 1),none⟩,
 ⟨some 15,.mv false (.t 2),none⟩,
 ⟨some 16,.call (.c (.fn f_zz54)) [(.t 13),(.t 14),(.t 15)] 0,none⟩,
 ⟨some 6,.mv true (.t 16),none⟩]
abbrev zz51_c:ACode:=.seq (.reg false zz51_r0) (.seq (.seq (.reg false zz51_r1) (.cond (.t 12) (.seq (.reg false zz51_r2) (.ret)) (.skip))) (.seq (.reg false zz51_r3) (.ret)))
def zz51_F:AFunc:=⟨17,[.tmp 6],zz51_c⟩
theorem zz51_cp:zi Try.prog [] f_zz51=some zz51_F:=by kernel_rfl
-- loop 0: [6, 7, 8, 11, 46, 47]
-- loop 1: [6, 7, 8, 87]
abbrev zz58_r0:List AI:=[
 ⟨some 6,.gn (.alloc [.nilP]) [],none⟩,
 ⟨some 7,.gn (.alloc [(.int .i64 0)]) [],none⟩]
abbrev zz58_r1:List AI:=[
 ⟨some 21,.mv false (.t 2),none⟩,
 ⟨some 22,.bin .lss (.t 21) (.c (.int .i64 1)),none⟩,
 ⟨some 23,.mv false (.t 22),none⟩,
 ⟨some 24,.mv false (.t 2),some (23,false)⟩,
 ⟨some 25,.bin .gtr (.t 24) (.c (.int .i64 250)),some (23,false)⟩,
 ⟨some 26,.pick (.t 23) (.c (.bool true)) (.t 25),none⟩]
abbrev zz58_r2:List AI:=[
 ⟨none,.store 1 (.t 6) (.c .nilP) .any,none⟩,
 ⟨none,.store 1 (.t 7) (.c (.int .i64 1)) .any,none⟩]
abbrev zz58_r3:List AI:=[
 ⟨some 28,.mv false (.t 0),none⟩,
 ⟨some 29,.mv false (.t 1),none⟩,
 ⟨some 30,.mv false (.t 2),none⟩,
 ⟨some 31,.call (.c (.fn f_zz60)) [(.t 28),(.t 29),(.t 30)] 0,none⟩,
 ⟨some 27,.mv false (.t 31),none⟩,
 ⟨some 32,.ext (.t 27) 0,none⟩,
 ⟨some 33,.ext (.t 27) 1,none⟩,
 ⟨some 34,.ext (.t 27) 2,none⟩,
 ⟨some 8,.gn (.alloc [.nilP]) [],none⟩,
 ⟨none,.store 1 (.t 8) (.t 32) .any,none⟩,
 ⟨some 9,.mv true (.t 33),none⟩,
 ⟨some 10,.mv true (.t 34),none⟩]
abbrev zz58_r4:List AI:=[
 ⟨some 35,.mv false (.t 10),none⟩,
 ⟨some 36,.bin .neq (.t 35) (.c (.int .i64 0)),none⟩]
abbrev zz58_r5:List AI:=[
 ⟨some 37,.mv false (.t 10),none⟩,
 ⟨none,.store 1 (.t 6) (.c .nilP) .any,none⟩,
 ⟨none,.store 1 (.t 7) (.t 37) .any,none⟩]
abbrev zz58_r6:List AI:=[
 ⟨some 38,.mv false (.t 9),none⟩,
 ⟨some 39,.len false (.t 38),none⟩,
 ⟨some 40,.bin .gtr (.t 39) (.c (.int .i64 0)),none⟩]
abbrev zz58_r7:List AI:=[
 ⟨none,.store 1 (.t 6) (.c .nilP) .any,none⟩,
 ⟨none,.store 1 (.t 7) (.c (.int .i64 14)) .any,none⟩]
abbrev zz58_r8:List AI:=[
 ⟨some 41,.load false 1 (.t 8) .any,none⟩,
 ⟨some 42,.mv false (.t 2),none⟩,
 ⟨some 43,.gn .mkM [],none⟩,
 ⟨some 44,.build [.nilP,(.int .i64 0),.nilM] [(0,1,(.t 41)),(1,1,(.t 42)),(2,1,(.t 43))],none⟩,
 ⟨some 45,.gn (.box 3) [(.t 44)],none⟩,
 ⟨some 11,.mv true (.t 45),none⟩]
abbrev zz58_r9:List AI:=[
 ⟨some 46,.mv false (.t 2),none⟩,
 ⟨some 47,.mv false (.c (.int .i64 0)),none⟩]
abbrev zz58_r10:List AI:=[
 ⟨some 48,.bin .lss (.t 47) (.t 46),none⟩]
abbrev zz58_r11:List AI:=[
 ⟨some 49,.mv false (.t 47),none⟩,
 ⟨some 12,.mv true (.t 49),none⟩]
abbrev zz58_r12:List AI:=[
 ⟨some 51,.load false 1 (.t 8) .any,none⟩,
 ⟨some 52,.mv false (.t 12),none⟩,
 ⟨some 53,.call (.c (.fn f_zz39)) [(.t 51),(.t 52)] 0,none⟩,
 ⟨some 50,.mv false (.t 53),none⟩,
 ⟨some 54,.ext (.t 50) 0,none⟩,
 ⟨some 55,.ext (.t 50) 1,none⟩,
 ⟨some 13,.mv true (.t 54),none⟩,
 ⟨some 14,.mv true (.t 55),none⟩]
abbrev zz58_r13:List AI:=[
 ⟨some 57,.mv false (.t 14),none⟩,
 ⟨some 58,.bin .eql (.t 57) (.c (.int .i64 8)),none⟩,
 ⟨some 56,.mv true (.t 58),none⟩]
abbrev zz58_r14:List AI:=[
 ⟨some 60,.mv false (.t 14),none⟩,
 ⟨some 61,.bin .neq (.t 60) (.c (.int .i64 0)),none⟩,
 ⟨some 59,.mv true (.t 61),none⟩]
abbrev zz58_r15:List AI:=[
 ⟨some 62,.mv false (.t 14),none⟩,
 ⟨none,.store 1 (.t 6) (.c .nilP) .any,none⟩,
 ⟨none,.store 1 (.t 7) (.t 62) .any,none⟩]
abbrev zz58_r16:List AI:=[
 ⟨some 64,.mv false (.t 13),none⟩,
 ⟨some 65,.idxS (.t 64) (.c (.int .i64 0)),none⟩,
 ⟨some 66,.bin .neq (.t 65) (.c (.int .u8 1)),none⟩,
 ⟨some 63,.mv true (.t 66),none⟩]
abbrev zz58_b0:ACode:=.seq (.reg false zz58_r16) (.cond (.t 63) (.exit 1) (.skip))
abbrev zz58_b1:ACode:=.seq (.reg false zz58_r14) (.cond (.t 59) (.seq (.reg false zz58_r15) (.ret)) (zz58_b0))
abbrev zz58_r17:List AI:=[
 ⟨some 68,.mv false (.t 13),none⟩,
 ⟨some 69,.slS (.t 68) (some (.c (.int .i64 1))) none,none⟩,
 ⟨some 70,.mv false (.t 12),none⟩,
 ⟨some 71,.call (.c (.fn f_zz52)) [(.t 69),(.t 70)] 0,none⟩,
 ⟨some 67,.mv false (.t 71),none⟩,
 ⟨some 72,.ext (.t 67) 0,none⟩,
 ⟨some 73,.ext (.t 67) 1,none⟩,
 ⟨some 15,.alloc (zr 8 (.int .i64 0)++[.nilS]),none⟩,
 ⟨none,.store 9 (.t 15) (.t 72) .any,none⟩,
 ⟨some 16,.mv true (.t 73),none⟩]
abbrev zz58_r18:List AI:=[
 ⟨some 74,.mv false (.t 16),none⟩,
 ⟨some 75,.not (.t 74),none⟩]
abbrev zz58_r19:List AI:=[
 ⟨none,.store 1 (.t 6) (.c .nilP) .any,none⟩,
 ⟨none,.store 1 (.t 7) (.c (.int .i64 14)) .any,none⟩]
abbrev zz58_r20:List AI:=[
 ⟨some 76,.mv false (.t 11),none⟩,
 ⟨some 77,.nilck (.t 76),none⟩,
 ⟨some 78,.faddr 2 (.t 77),none⟩,
 ⟨some 79,.load false 1 (.t 78) .foreign,none⟩,
 ⟨some 80,.faddr 0 (.t 15),none⟩,
 ⟨some 81,.faddr 0 (.t 80),none⟩,
 ⟨some 82,.load true 4 (.t 81) (.site 15),none⟩,
 ⟨some 83,.load true 9 (.t 15) (.site 15),none⟩,
 ⟨none,.gd (.mset [.i,.i,.i,.i]) [(.t 79),(.t 82),(.t 83)],none⟩]
abbrev zz58_r21:List AI:=[
 ⟨some 84,.bin .add (.t 47) (.c (.int .i64 1)),none⟩,
 ⟨some 47,.mv false (.t 84),none⟩]
abbrev zz58_l0:ACode:=.seq (.reg false zz58_r10) (.seq (.cond (.t 48) (.skip) (.exit 0)) (.seq (.block 1 (.seq (.reg false zz58_r11) (.seq (.reg false zz58_r12) (.seq (.block 2 (.seq (.reg false zz58_r13) (.cond (.t 56) (.exit 1) (zz58_b1)))) (.seq (.reg false zz58_r17) (.seq (.seq (.reg false zz58_r18) (.cond (.t 75) (.seq (.reg false zz58_r19) (.ret)) (.skip))) (.reg true zz58_r20))))))) (.reg false zz58_r21)))
abbrev zz58_r22:List AI:=[
 ⟨some 85,.mv false (.t 11),none⟩,
 ⟨some 86,.call (.c (.fn f_zz27)) [(.t 85)] 0,none⟩]
abbrev zz58_r23:List AI:=[
 ⟨some 17,.mv true (.t 87),none⟩]
abbrev zz58_r24:List AI:=[
 ⟨some 89,.load false 1 (.t 8) .any,none⟩,
 ⟨some 90,.mv false (.t 17),none⟩,
 ⟨some 91,.call (.c (.fn f_zz39)) [(.t 89),(.t 90)] 0,none⟩,
 ⟨some 88,.mv false (.t 91),none⟩,
 ⟨some 92,.ext (.t 88) 0,none⟩,
 ⟨some 93,.ext (.t 88) 1,none⟩,
 ⟨some 18,.mv true (.t 92),none⟩,
 ⟨some 19,.mv true (.t 93),none⟩]
abbrev zz58_r25:List AI:=[
 ⟨some 94,.mv false (.t 19),none⟩,
 ⟨some 95,.bin .eql (.t 94) (.c (.int .i64 8)),none⟩]
abbrev zz58_r26:List AI:=[
 ⟨some 96,.load false 1 (.t 8) .any,none⟩,
 ⟨some 97,.mv false (.t 17),none⟩,
 ⟨some 98,.call (.c (.fn f_zz31)) [(.t 96),(.t 97)] 0,none⟩,
 ⟨some 20,.mv true (.t 98),none⟩]
abbrev zz58_r27:List AI:=[
 ⟨some 99,.mv false (.t 20),none⟩,
 ⟨some 100,.bin .neq (.t 99) (.c (.int .i64 0)),none⟩]
abbrev zz58_r28:List AI:=[
 ⟨some 101,.mv false (.t 20),none⟩,
 ⟨none,.store 1 (.t 6) (.c .nilP) .any,none⟩,
 ⟨none,.store 1 (.t 7) (.t 101) .any,none⟩]
abbrev zck:ACode:=.reg false zz58_r23
abbrev zcl:ACode:=.block 4 (.seq (.seq (.reg false zz58_r24) (.seq (.reg false zz58_r25) (.cond (.t 95) (.exit 4) (.skip)))) (.seq (.reg false zz58_r26) (.seq (.reg false zz58_r27) (.cond (.t 100) (.seq (.reg false zz58_r28) (.ret)) (.skip)))))
abbrev zz58_r29:List AI:=[
 ⟨some 102,.mv false (.t 11),none⟩,
 ⟨none,.store 1 (.t 6) (.t 102) .any,none⟩,
 ⟨none,.store 1 (.t 7) (.c (.int .i64 0)) .any,none⟩]
abbrev zz58_c:ACode:=.seq (.reg false zz58_r0) (.seq (.seq (.reg false zz58_r1) (.cond (.t 26) (.seq (.reg false zz58_r2) (.ret)) (.skip))) (.seq (.reg false zz58_r3) (.seq (.seq (.reg false zz58_r4) (.cond (.t 36) (.seq (.reg false zz58_r5) (.ret)) (.skip))) (.seq (.seq (.reg false zz58_r6) (.cond (.t 40) (.seq (.reg false zz58_r7) (.ret)) (.skip))) (.seq (.reg false zz58_r8) (.seq (.seq (.reg false zz58_r9) (.block 0 (.loop zz58_l0))) (.seq (.seq (.reg false zz58_r22) (.block 3 (.rangeF (.t 86) [87] zck zcl))) (.seq (.reg false zz58_r29) (.ret)))))))))
def zz58_F:AFunc:=⟨103,[.cell 6 false 1,.cell 7 false 1],zz58_c⟩
theorem zz58_cp:zi Try.prog [6,7,8,45] f_zz58=some zz58_F:=by kernel_rfl
-- loop 0: [0, 3, 17, 23, 24, 25]
-- loop 1: [0, 3, 17]
abbrev zz27_r0:List AI:=[
 ⟨some 2,.mv true (.c .nilF),none⟩]
abbrev zz27_r1:List AI:=[
 ⟨some 8,.mv false (.t 0),none⟩,
 ⟨some 9,.nilck (.t 8),none⟩,
 ⟨some 10,.faddr 1 (.t 9),none⟩,
 ⟨some 11,.load false 1 (.t 10) .any,none⟩,
 ⟨some 12,.gn (.mkSl 1 1 [(.bool false)]) [(.t 11),(.t 11)],none⟩,
 ⟨some 3,.gn (.alloc [.nilS]) [],none⟩,
 ⟨none,.store 1 (.t 3) (.t 12) .any,none⟩]
abbrev zz27_r2:List AI:=[
 ⟨some 13,.mv false (.t 0),none⟩,
 ⟨some 14,.nilck (.t 13),none⟩,
 ⟨some 15,.faddr 2 (.t 14),none⟩,
 ⟨some 16,.load false 1 (.t 15) .any,none⟩,
 ⟨some 17,.gn .rng [(.t 16)],none⟩]
abbrev zz27_r3:List AI:=[
 ⟨some 18,.gn .nxt [(.t 17)],none⟩,
 ⟨some 19,.ext (.t 18) 0,none⟩]
abbrev zz27_r4:List AI:=[
 ⟨some 20,.gd .entry [(.t 17)],none⟩,
 ⟨some 21,.ext (.t 20) 1,none⟩,
 ⟨some 5,.alloc (zr 8 (.int .i64 0)++[.nilS]),none⟩,
 ⟨none,.store 9 (.t 5) (.t 21) .any,none⟩]
abbrev zz27_r5:List AI:=[
 ⟨some 22,.faddr 8 (.t 5),none⟩,
 ⟨some 23,.load false 1 (.t 22) .any,none⟩,
 ⟨some 24,.len false (.t 23),none⟩,
 ⟨some 25,.mv false (.c (.int .i64 0)),none⟩]
abbrev zz27_r6:List AI:=[
 ⟨some 26,.bin .lss (.t 25) (.t 24),none⟩]
abbrev zz27_r7:List AI:=[
 ⟨some 27,.iaddr 1 (.t 23) (.t 25),none⟩,
 ⟨some 28,.load false 1 (.t 27) .any,none⟩,
 ⟨some 7,.mv true (.t 28),none⟩]
abbrev zz27_r8:List AI:=[
 ⟨some 29,.mv false (.t 7),none⟩,
 ⟨some 30,.bin .geq (.t 29) (.c (.int .i64 0)),none⟩,
 ⟨some 31,.mv false (.t 30),none⟩,
 ⟨some 32,.mv false (.t 7),some (31,true)⟩,
 ⟨some 33,.mv false (.t 0),some (31,true)⟩,
 ⟨some 34,.nilck (.t 33),some (31,true)⟩,
 ⟨some 35,.faddr 1 (.t 34),some (31,true)⟩,
 ⟨some 36,.load false 1 (.t 35) .any,some (31,true)⟩,
 ⟨some 37,.bin .lss (.t 32) (.t 36),some (31,true)⟩,
 ⟨some 38,.pick (.t 31) (.t 37) (.c (.bool false)),none⟩]
abbrev zz27_r9:List AI:=[
 ⟨some 39,.load false 1 (.t 3) .any,none⟩,
 ⟨some 40,.mv false (.t 7),none⟩,
 ⟨some 41,.iaddr 1 (.t 39) (.t 40),none⟩,
 ⟨none,.store 1 (.t 41) (.c (.bool true)) .any,none⟩]
abbrev zz27_r10:List AI:=[
 ⟨some 42,.bin .add (.t 25) (.c (.int .i64 1)),none⟩,
 ⟨some 25,.mv false (.t 42),none⟩]
abbrev zz27_l0:ACode:=.seq (.reg false zz27_r6) (.seq (.cond (.t 26) (.skip) (.exit 2)) (.seq (.block 3 (.seq (.reg false zz27_r7) (.seq (.reg false zz27_r8) (.cond (.t 38) (.reg false zz27_r9) (.skip))))) (.reg false zz27_r10)))
abbrev zz27_l1:ACode:=.seq (.reg false zz27_r3) (.seq (.cond (.t 19) (.skip) (.exit 0)) (.block 1 (.seq (.reg false zz27_r4) (.seq (.reg false zz27_r5) (.block 2 (.loop zz27_l0))))))
abbrev zz27_r11:List AI:=[
 ⟨some 43,.gd (.clo f_zz15) [(.t 3)],none⟩,
 ⟨some 2,.mv true (.t 43),none⟩]
abbrev zz27_c:ACode:=.seq (.reg false zz27_r0) (.seq (.reg false zz27_r1) (.seq (.seq (.reg false zz27_r2) (.block 0 (.loop zz27_l1))) (.seq (.reg false zz27_r11) (.ret))))
def zz27_F:AFunc:=⟨44,[.tmp 2],zz27_c⟩
theorem zz27_cp:zi Try.prog [3,43] f_zz27=some zz27_F:=by kernel_rfl
-- loop 0: [0, 5, 6, 7]
abbrev zz15_r0:List AI:=[
 ⟨some 5,.load false 1 (.t 1) .any,none⟩,
 ⟨some 6,.len false (.t 5),none⟩,
 ⟨some 7,.mv false (.c (.int .i64 0)),none⟩]
abbrev zz15_r1:List AI:=[
 ⟨some 8,.bin .lss (.t 7) (.t 6),none⟩]
abbrev zz15_r2:List AI:=[
 ⟨some 9,.mv false (.t 7),none⟩,
 ⟨some 10,.iaddr 1 (.t 5) (.t 7),none⟩,
 ⟨some 11,.load false 1 (.t 10) .any,none⟩,
 ⟨some 3,.mv true (.t 9),none⟩,
 ⟨some 4,.mv true (.t 11),none⟩]
abbrev zz15_r3:List AI:=[
 ⟨some 12,.mv false (.t 4),none⟩,
 ⟨some 13,.not (.t 12),none⟩,
 ⟨some 14,.mv false (.t 13),none⟩,
 ⟨some 15,.mv false (.t 0),some (14,true)⟩,
 ⟨some 16,.mv false (.t 3),some (14,true)⟩,
 ⟨some 17,.call (.t 15) [(.t 16)] 0,some (14,true)⟩,
 ⟨some 18,.not (.t 17),some (14,true)⟩,
 ⟨some 19,.pick (.t 14) (.t 18) (.c (.bool false)),none⟩]
abbrev zz15_r4:List AI:=[
 ⟨some 20,.bin .add (.t 7) (.c (.int .i64 1)),none⟩,
 ⟨some 7,.mv false (.t 20),none⟩]
abbrev zz15_l0:ACode:=.seq (.reg false zz15_r1) (.seq (.cond (.t 8) (.skip) (.exit 0)) (.seq (.block 1 (.seq (.reg false zz15_r2) (.seq (.reg false zz15_r3) (.cond (.t 19) (.ret) (.skip))))) (.reg false zz15_r4)))
abbrev zz15_c:ACode:=.seq (.reg false zz15_r0) (.block 0 (.loop zz15_l0))
def zz15_F:AFunc:=⟨21,[],zz15_c⟩
theorem zz15_cp:zi Try.prog [] f_zz15=some zz15_F:=by kernel_rfl
abbrev zz53_r0:List AI:=[
 ⟨some 1,.box 9 (.t 0),none⟩,
 ⟨some 2,.mv true (.c (.str [])),none⟩]
abbrev zz53_r1:List AI:=[
 ⟨some 5,.faddr 0 (.t 1),none⟩,
 ⟨some 6,.faddr 0 (.t 5),none⟩,
 ⟨some 7,.load true 4 (.t 6) .any,none⟩,
 ⟨some 3,.alloc [(.int .i64 0),(.int .i64 0),(.int .i64 0),(.int .i64 0)],none⟩,
 ⟨none,.store 4 (.t 3) (.t 7) .any,none⟩]
abbrev zz53_r2:List AI:=[
 ⟨some 8,.faddr 0 (.t 3),none⟩,
 ⟨some 9,.load false 1 (.t 8) (.site 3),none⟩,
 ⟨some 10,.faddr 1 (.t 3),none⟩,
 ⟨some 11,.load false 1 (.t 10) (.site 3),none⟩,
 ⟨some 12,.faddr 2 (.t 3),none⟩,
 ⟨some 13,.load false 1 (.t 12) (.site 3),none⟩,
 ⟨some 14,.faddr 3 (.t 3),none⟩,
 ⟨some 15,.load false 1 (.t 14) (.site 3),none⟩,
 ⟨some 16,.faddr 0 (.t 1),none⟩,
 ⟨some 17,.faddr 4 (.t 16),none⟩,
 ⟨some 18,.load false 1 (.t 17) (.site 1),none⟩,
 ⟨some 19,.faddr 0 (.t 1),none⟩,
 ⟨some 20,.faddr 5 (.t 19),none⟩,
 ⟨some 21,.load false 1 (.t 20) (.site 1),none⟩,
 ⟨some 22,.faddr 0 (.t 1),none⟩,
 ⟨some 23,.faddr 6 (.t 22),none⟩,
 ⟨some 24,.load false 1 (.t 23) (.site 1),none⟩,
 ⟨some 25,.faddr 0 (.t 1),none⟩,
 ⟨some 26,.faddr 7 (.t 25),none⟩,
 ⟨some 27,.load false 1 (.t 26) (.site 1),none⟩,
 ⟨some 29,.faddr 8 (.t 1),none⟩,
 ⟨some 30,.load false 1 (.t 29) (.site 1),none⟩,
 ⟨some 31,.sl 1 (.t 30) (some (.c (.int .i64 1))) none,none⟩,
 ⟨some 28,.mkG 1 8 (.int .i64 0) [(0,(.t 9)),(1,(.t 11)),(2,(.t 13)),(3,(.t 15)),(4,(.t 18)),(5,(.t 21)),(6,(.t 24)),(7,(.t 27))],none⟩,
 ⟨some 32,.appG 1 8 [(.int .i64 0)] (.t 28) (.t 31),none⟩,
 ⟨some 4,.mv true (.t 32),none⟩]
abbrev zz53_r3:List AI:=[
 ⟨some 33,.mkslice 1 1 (.int .u8 0) [(0,(.c (.int .u8 1)))],none⟩,
 ⟨some 34,.b2s (.t 33),none⟩,
 ⟨some 35,.mv false (.t 4),none⟩,
 ⟨some 36,.call (.c (.fn f_zz61)) [(.t 35)] 2,none⟩,
 ⟨some 37,.gd .b2s [(.t 36)],none⟩,
 ⟨some 38,.bin .add (.t 34) (.t 37),none⟩,
 ⟨some 2,.mv true (.t 38),none⟩]
abbrev zz53_c:ACode:=.seq (.reg false zz53_r0) (.seq (.reg false zz53_r1) (.seq (.reg true zz53_r2) (.seq (.reg true zz53_r3) (.ret))))
def zz53_F:AFunc:=⟨39,[.tmp 2],zz53_c⟩
theorem zz53_cp:zi Try.prog [28,32,36,37] f_zz53=some zz53_F:=by kernel_rfl
-- loop 0: [3, 10]
abbrev zz16_r0:List AI:=[
 ⟨some 2,.mv true (.c .nilS),none⟩]
abbrev zz16_r1:List AI:=[
 ⟨some 3,.mv true (.c .nilS),none⟩]
abbrev zz16_r2:List AI:=[
 ⟨some 6,.mv false (.t 0),none⟩,
 ⟨some 7,.nilck (.t 6),none⟩,
 ⟨some 8,.faddr 2 (.t 7),none⟩,
 ⟨some 9,.load false 1 (.t 8) .any,none⟩,
 ⟨some 10,.gn .rng [(.t 9)],none⟩]
abbrev zz16_r3:List AI:=[
 ⟨some 11,.gn .nxt [(.t 10)],none⟩,
 ⟨some 12,.ext (.t 11) 0,none⟩]
abbrev zz16_r4:List AI:=[
 ⟨some 13,.gd .entry [(.t 10)],none⟩,
 ⟨some 14,.ext (.t 13) 1,none⟩,
 ⟨some 5,.alloc (zr 8 (.int .i64 0)++[.nilS]),none⟩,
 ⟨none,.store 9 (.t 5) (.t 14) .any,none⟩]
abbrev zz16_r5:List AI:=[
 ⟨some 15,.mv true (.t 3),none⟩,
 ⟨some 16,.load true 9 (.t 5) .any,none⟩,
 ⟨some 17,.mkslice 9 1 (.agg (zr 8 (.int .i64 0)++[.nilS])) [(0,(.t 16))],none⟩,
 ⟨some 18,.appG 9 88 (zr 8 (.int .i64 0)++[.nilS]) (.t 15) (.t 17),none⟩,
 ⟨some 3,.mv true (.t 18),none⟩]
abbrev zz16_l0:ACode:=.seq (.reg false zz16_r3) (.seq (.cond (.t 12) (.skip) (.exit 0)) (.block 1 (.seq (.reg false zz16_r4) (.reg false zz16_r5))))
abbrev zz16_r6:List AI:=[
 ⟨some 19,.mv false (.t 3),none⟩,
 ⟨some 20,.call (.c (.fn f_zz4)) [(.t 19),(.c (.fn f_zz12))] 0,none⟩]
abbrev zz16_r7:List AI:=[
 ⟨some 21,.mv false (.t 3),none⟩,
 ⟨some 2,.mv true (.t 21),none⟩]
abbrev zz16_c:ACode:=.seq (.reg false zz16_r0) (.seq (.reg false zz16_r1) (.seq (.seq (.reg false zz16_r2) (.block 0 (.loop zz16_l0))) (.seq (.reg false zz16_r6) (.seq (.reg false zz16_r7) (.ret)))))
def zz16_F:AFunc:=⟨22,[.tmp 2],zz16_c⟩
theorem zz16_cp:zi Try.prog [18] f_zz16=some zz16_F:=by kernel_rfl
-- loop 0: [0, 3, 9, 10, 11]
abbrev zz21_r0:List AI:=[
 ⟨some 3,.box 9 (.t 1),none⟩,
 ⟨some 4,.mv true (.c (.int .i64 0)),none⟩]
abbrev zz21_r1:List AI:=[
 ⟨some 8,.faddr 8 (.t 3),none⟩,
 ⟨some 9,.load false 1 (.t 8) .any,none⟩,
 ⟨some 10,.len false (.t 9),none⟩,
 ⟨some 11,.mv false (.c (.int .i64 0)),none⟩]
abbrev zz21_r2:List AI:=[
 ⟨some 12,.bin .lss (.t 11) (.t 10),none⟩]
abbrev zz21_r3:List AI:=[
 ⟨some 13,.iaddr 1 (.t 9) (.t 11),none⟩,
 ⟨some 14,.load false 1 (.t 13) .any,none⟩,
 ⟨some 6,.mv true (.t 14),none⟩]
abbrev zz21_r4:List AI:=[
 ⟨some 15,.mv false (.t 0),none⟩,
 ⟨some 16,.nilck (.t 15),none⟩,
 ⟨some 17,.faddr 0 (.t 16),none⟩,
 ⟨some 18,.load false 1 (.t 17) .any,none⟩,
 ⟨some 19,.mv false (.t 6),none⟩,
 ⟨some 20,.call (.c (.fn f_zz31)) [(.t 18),(.t 19)] 0,none⟩,
 ⟨some 7,.mv true (.t 20),none⟩]
abbrev zz21_r5:List AI:=[
 ⟨some 21,.mv false (.t 7),none⟩,
 ⟨some 22,.bin .neq (.t 21) (.c (.int .i64 0)),none⟩]
abbrev zz21_r6:List AI:=[
 ⟨some 23,.mv false (.t 7),none⟩,
 ⟨some 4,.mv true (.t 23),none⟩]
abbrev zz21_r7:List AI:=[
 ⟨some 24,.bin .add (.t 11) (.c (.int .i64 1)),none⟩,
 ⟨some 11,.mv false (.t 24),none⟩]
abbrev zz21_l0:ACode:=.seq (.reg false zz21_r2) (.seq (.cond (.t 12) (.skip) (.exit 0)) (.seq (.block 1 (.seq (.reg false zz21_r3) (.seq (.reg false zz21_r4) (.seq (.reg false zz21_r5) (.cond (.t 22) (.seq (.reg false zz21_r6) (.ret)) (.skip)))))) (.reg false zz21_r7)))
abbrev zz21_r8:List AI:=[
 ⟨some 25,.mv false (.t 0),none⟩,
 ⟨some 26,.nilck (.t 25),none⟩,
 ⟨some 27,.faddr 2 (.t 26),none⟩,
 ⟨some 28,.load false 1 (.t 27) .foreign,none⟩,
 ⟨some 29,.faddr 0 (.t 3),none⟩,
 ⟨some 30,.faddr 0 (.t 29),none⟩,
 ⟨some 31,.load true 4 (.t 30) (.site 3),none⟩,
 ⟨none,.gd (.mdel [.i,.i,.i,.i]) [(.t 28),(.t 31)],none⟩]
abbrev zz21_r9:List AI:=[
 ⟨some 4,.mv true (.c (.int .i64 0)),none⟩]
abbrev zz21_c:ACode:=.seq (.reg false zz21_r0) (.seq (.seq (.reg false zz21_r1) (.block 0 (.loop zz21_l0))) (.seq (.reg true zz21_r8) (.seq (.reg false zz21_r9) (.ret))))
def zz21_F:AFunc:=⟨32,[.tmp 4],zz21_c⟩
theorem zz21_cp:zi Try.prog [] f_zz21=some zz21_F:=by kernel_rfl
-- loop 0: [0, 1, 8, 27, 28, 29]
abbrev zz25_r0:List AI:=[
 ⟨some 4,.mv true (.c .nilS),none⟩,
 ⟨some 5,.mv true (.c (.int .i64 0)),none⟩]
abbrev zz25_r1:List AI:=[
 ⟨some 12,.mv false (.t 1),none⟩,
 ⟨some 13,.bin .lss (.t 12) (.c (.int .i64 0)),none⟩,
 ⟨some 14,.mv false (.t 13),none⟩,
 ⟨some 15,.mv false (.t 1),some (14,false)⟩,
 ⟨some 16,.bin .gtr (.t 15) (.c (.int .i64 1000000)),some (14,false)⟩,
 ⟨some 17,.pick (.t 14) (.c (.bool true)) (.t 16),none⟩]
abbrev zz25_r2:List AI:=[
 ⟨some 4,.mv true (.c .nilS),none⟩,
 ⟨some 5,.mv true (.c (.int .i64 3)),none⟩]
abbrev zz25_r3:List AI:=[
 ⟨some 19,.mv false (.t 0),none⟩,
 ⟨some 20,.call (.c (.fn f_zz24)) [(.t 19)] 0,none⟩,
 ⟨some 18,.mv false (.t 20),none⟩,
 ⟨some 21,.ext (.t 18) 0,none⟩,
 ⟨some 22,.ext (.t 18) 1,none⟩,
 ⟨some 6,.mv true (.t 21),none⟩,
 ⟨some 7,.mv true (.t 22),none⟩]
abbrev zz25_r4:List AI:=[
 ⟨some 23,.mv false (.t 7),none⟩,
 ⟨some 24,.bin .neq (.t 23) (.c (.int .i64 0)),none⟩]
abbrev zz25_r5:List AI:=[
 ⟨some 25,.mv false (.t 7),none⟩,
 ⟨some 4,.mv true (.c .nilS),none⟩,
 ⟨some 5,.mv true (.t 25),none⟩]
abbrev zz25_r6:List AI:=[
 ⟨some 8,.mv true (.c .nilS),none⟩]
abbrev zz25_r7:List AI:=[
 ⟨some 26,.mv false (.t 0),none⟩,
 ⟨some 27,.call (.c (.fn f_zz16)) [(.t 26)] 0,none⟩,
 ⟨some 28,.len false (.t 27),none⟩,
 ⟨some 29,.mv false (.c (.int .i64 0)),none⟩]
abbrev zz25_r8:List AI:=[
 ⟨some 30,.bin .lss (.t 29) (.t 28),none⟩]
abbrev zz25_r9:List AI:=[
 ⟨some 31,.iaddr 9 (.t 27) (.t 29),none⟩,
 ⟨some 32,.load true 9 (.t 31) .any,none⟩,
 ⟨some 10,.alloc (zr 8 (.int .i64 0)++[.nilS]),none⟩,
 ⟨none,.store 9 (.t 10) (.t 32) .any,none⟩]
abbrev zz25_r10:List AI:=[
 ⟨some 33,.faddr 0 (.t 10),none⟩,
 ⟨some 34,.faddr 5 (.t 33),none⟩,
 ⟨some 35,.load false 1 (.t 34) .any,none⟩,
 ⟨some 36,.mv false (.t 1),none⟩,
 ⟨some 37,.bin .geq (.t 35) (.t 36),none⟩]
abbrev zz25_r11:List AI:=[
 ⟨some 38,.mv false (.t 0),none⟩,
 ⟨some 39,.load true 9 (.t 10) .any,none⟩,
 ⟨some 40,.call (.c (.fn f_zz21)) [(.t 38),(.t 39)] 0,none⟩,
 ⟨some 11,.mv true (.t 40),none⟩]
abbrev zz25_r12:List AI:=[
 ⟨some 41,.mv false (.t 11),none⟩,
 ⟨some 42,.bin .neq (.t 41) (.c (.int .i64 0)),none⟩]
abbrev zz25_r13:List AI:=[
 ⟨some 43,.mv false (.t 11),none⟩,
 ⟨some 4,.mv true (.c .nilS),none⟩,
 ⟨some 5,.mv true (.t 43),none⟩]
abbrev zz25_r14:List AI:=[
 ⟨some 44,.mv true (.t 8),none⟩,
 ⟨some 45,.faddr 0 (.t 10),none⟩,
 ⟨some 46,.faddr 0 (.t 45),none⟩,
 ⟨some 47,.load true 4 (.t 46) .any,none⟩,
 ⟨some 48,.mkslice 4 1 (.agg [(.int .i64 0),(.int .i64 0),(.int .i64 0),(.int .i64 0)]) [(0,(.t 47))],none⟩,
 ⟨some 49,.append 4 32 (.t 44) (.t 48),none⟩,
 ⟨some 8,.mv true (.t 49),none⟩]
abbrev zz25_r15:List AI:=[
 ⟨some 50,.bin .add (.t 29) (.c (.int .i64 1)),none⟩,
 ⟨some 29,.mv false (.t 50),none⟩]
abbrev zz25_l0:ACode:=.seq (.reg false zz25_r8) (.seq (.cond (.t 30) (.skip) (.exit 0)) (.seq (.block 1 (.seq (.reg false zz25_r9) (.seq (.seq (.reg false zz25_r10) (.cond (.t 37) (.exit 1) (.skip))) (.seq (.seq (.reg false zz25_r11) (.seq (.reg false zz25_r12) (.cond (.t 42) (.seq (.reg false zz25_r13) (.ret)) (.skip)))) (.reg false zz25_r14))))) (.reg false zz25_r15)))
abbrev zz25_r16:List AI:=[
 ⟨some 51,.mv false (.t 8),none⟩,
 ⟨some 4,.mv true (.t 51),none⟩,
 ⟨some 5,.mv true (.c (.int .i64 0)),none⟩]
abbrev zz25_c:ACode:=.seq (.reg false zz25_r0) (.seq (.seq (.reg false zz25_r1) (.cond (.t 17) (.seq (.reg false zz25_r2) (.ret)) (.skip))) (.seq (.seq (.reg false zz25_r3) (.seq (.reg false zz25_r4) (.cond (.t 24) (.seq (.reg false zz25_r5) (.ret)) (.skip)))) (.seq (.reg false zz25_r6) (.seq (.seq (.reg false zz25_r7) (.block 0 (.loop zz25_l0))) (.seq (.reg false zz25_r16) (.ret))))))
def zz25_F:AFunc:=⟨52,[.tmp 4,.tmp 5],zz25_c⟩
theorem zz25_cp:zi Try.prog [] f_zz25=some zz25_F:=by kernel_rfl
abbrev zz59_r0:List AI:=[
 ⟨some 2,.alloc [(.int .i64 0),(.str []),.nilS,(.int .i64 0)],none⟩]
abbrev zz59_r1:List AI:=[
 ⟨some 3,.mv false (.t 0),none⟩,
 ⟨some 4,.build [(.int .i64 0),(.str []),.nilS,(.int .i64 0)] [(0,1,(.t 3))],none⟩,
 ⟨none,.store 4 (.t 2) (.t 4) .any,none⟩]
abbrev zz59_c:ACode:=.seq (.reg false zz59_r0) (.seq (.reg false zz59_r1) (.ret))
def zz59_F:AFunc:=⟨5,[.cell 2 true 4],zz59_c⟩
theorem zz59_cp:zi Try.prog [] f_zz59=some zz59_F:=by kernel_rfl
abbrev zz48_r0:List AI:=[
 ⟨some 1,.box 4 (.t 0),none⟩,
 ⟨some 2,.mv true (.c (.bool false)),none⟩]
abbrev zz48_r1:List AI:=[
 ⟨some 3,.mv true (.c (.fn f_zz30)),none⟩]
abbrev zz48_r2:List AI:=[
 ⟨some 4,.faddr 0 (.t 1),none⟩,
 ⟨some 5,.load false 1 (.t 4) .any,none⟩,
 ⟨some 6,.bin .eql (.t 5) (.c (.int .i64 1)),none⟩,
 ⟨some 7,.mv false (.t 6),none⟩,
 ⟨some 8,.faddr 0 (.t 1),some (7,false)⟩,
 ⟨some 9,.load false 1 (.t 8) .any,some (7,false)⟩,
 ⟨some 10,.bin .eql (.t 9) (.c (.int .i64 2)),some (7,false)⟩,
 ⟨some 11,.pick (.t 7) (.c (.bool true)) (.t 10),none⟩,
 ⟨some 12,.mv false (.t 11),none⟩,
 ⟨some 13,.mv false (.t 3),some (12,true)⟩,
 ⟨some 14,.faddr 1 (.t 1),some (12,true)⟩,
 ⟨some 15,.load false 1 (.t 14) .any,some (12,true)⟩,
 ⟨some 16,.call (.t 13) [(.t 15),(.c (.int .i64 1099511627776))] 0,some (12,true)⟩,
 ⟨some 17,.pick (.t 12) (.t 16) (.c (.bool false)),none⟩,
 ⟨some 18,.mv false (.t 17),none⟩,
 ⟨some 19,.mv false (.t 3),some (18,true)⟩,
 ⟨some 20,.faddr 2 (.t 1),some (18,true)⟩,
 ⟨some 21,.load false 1 (.t 20) .any,some (18,true)⟩,
 ⟨some 22,.call (.t 19) [(.t 21),(.c (.int .i64 1099511627776))] 0,some (18,true)⟩,
 ⟨some 23,.pick (.t 18) (.t 22) (.c (.bool false)),none⟩,
 ⟨some 24,.mv false (.t 23),none⟩,
 ⟨some 25,.mv false (.t 3),some (24,true)⟩,
 ⟨some 26,.faddr 3 (.t 1),some (24,true)⟩,
 ⟨some 27,.load false 1 (.t 26) .any,some (24,true)⟩,
 ⟨some 28,.call (.t 25) [(.t 27),(.c (.int .i64 23))] 0,some (24,true)⟩,
 ⟨some 29,.pick (.t 24) (.t 28) (.c (.bool false)),none⟩,
 ⟨some 2,.mv true (.t 29),none⟩]
abbrev zz48_c:ACode:=.seq (.reg false zz48_r0) (.seq (.reg false zz48_r1) (.seq (.reg false zz48_r2) (.ret)))
def zz48_F:AFunc:=⟨30,[.tmp 2],zz48_c⟩
theorem zz48_cp:zi Try.prog [] f_zz48=some zz48_F:=by kernel_rfl
abbrev zz30_r0:List AI:=[
 ⟨some 4,.mv true (.c (.bool false)),none⟩]
abbrev zz30_r1:List AI:=[
 ⟨some 5,.mv false (.t 0),none⟩,
 ⟨some 6,.bin .geq (.t 5) (.c (.int .i64 0)),none⟩,
 ⟨some 7,.mv false (.t 6),none⟩,
 ⟨some 8,.mv false (.t 0),some (7,true)⟩,
 ⟨some 9,.mv false (.t 1),some (7,true)⟩,
 ⟨some 10,.bin .leq (.t 8) (.t 9),some (7,true)⟩,
 ⟨some 11,.pick (.t 7) (.t 10) (.c (.bool false)),none⟩,
 ⟨some 4,.mv true (.t 11),none⟩]
abbrev zz30_c:ACode:=.seq (.reg false zz30_r0) (.seq (.reg false zz30_r1) (.ret))
def zz30_F:AFunc:=⟨12,[.tmp 4],zz30_c⟩
theorem zz30_cp:zi Try.prog [] f_zz30=some zz30_F:=by kernel_rfl
abbrev zz56_r0:List AI:=[
 ⟨some 1,.box 14 (.t 0),none⟩,
 ⟨some 2,.mv true (.c (.bool false)),none⟩]
abbrev zz56_r1:List AI:=[
 ⟨some 3,.faddr 5 (.t 1),none⟩,
 ⟨some 4,.load false 1 (.t 3) .any,none⟩,
 ⟨some 5,.bin .geq (.t 4) (.c (.int .i64 0)),none⟩,
 ⟨some 6,.mv false (.t 5),none⟩,
 ⟨some 7,.faddr 5 (.t 1),some (6,true)⟩,
 ⟨some 8,.load false 1 (.t 7) .any,some (6,true)⟩,
 ⟨some 9,.faddr 6 (.t 1),some (6,true)⟩,
 ⟨some 10,.load false 1 (.t 9) .any,some (6,true)⟩,
 ⟨some 11,.bin .leq (.t 8) (.t 10),some (6,true)⟩,
 ⟨some 12,.pick (.t 6) (.t 11) (.c (.bool false)),none⟩,
 ⟨some 13,.mv false (.t 12),none⟩,
 ⟨some 14,.faddr 6 (.t 1),some (13,true)⟩,
 ⟨some 15,.load false 1 (.t 14) .any,some (13,true)⟩,
 ⟨some 16,.bin .leq (.t 15) (.c (.int .i64 1000000)),some (13,true)⟩,
 ⟨some 17,.pick (.t 13) (.t 16) (.c (.bool false)),none⟩,
 ⟨some 2,.mv true (.t 17),none⟩]
abbrev zz56_c:ACode:=.seq (.reg false zz56_r0) (.seq (.reg false zz56_r1) (.ret))
def zz56_F:AFunc:=⟨18,[.tmp 2],zz56_c⟩
theorem zz56_cp:zi Try.prog [] f_zz56=some zz56_F:=by kernel_rfl
-- loop 0: [9, 10, 86]
-- loop 1: [0, 6, 10, 12, 108, 109, 110]
abbrev zz36_r0:List AI:=[
 ⟨some 5,.box 14 (.t 2),none⟩,
 ⟨some 6,.alloc [(.int .i64 0),(.str []),.nilS,(.int .i64 0)],none⟩]
abbrev zz36_r1:List AI:=[
 ⟨some 19,.mv false (.t 0),none⟩,
 ⟨some 20,.nilck (.t 19),none⟩,
 ⟨some 21,.faddr 2 (.t 20),none⟩,
 ⟨some 22,.load false 1 (.t 21) .foreign,none⟩,
 ⟨some 23,.faddr 1 (.t 5),none⟩,
 ⟨some 24,.load true 4 (.t 23) (.site 5),none⟩,
 ⟨some 25,.gd (.mlook [.i,.i,.i,.i] (.agg (zr 8 (.int .i64 0)++[.nilS])) true) [(.t 22),(.t 24)],none⟩,
 ⟨some 18,.mv false (.t 25),none⟩,
 ⟨some 26,.ext (.t 18) 0,none⟩,
 ⟨some 27,.ext (.t 18) 1,none⟩,
 ⟨some 7,.alloc (zr 8 (.int .i64 0)++[.nilS]),none⟩,
 ⟨none,.store 9 (.t 7) (.t 26) (.site 7),none⟩,
 ⟨some 8,.mv true (.t 27),none⟩]
abbrev zz36_r2:List AI:=[
 ⟨some 29,.load true 14 (.t 5) .any,none⟩,
 ⟨some 30,.call (.c (.fn f_zz56)) [(.t 29)] 0,none⟩,
 ⟨some 31,.not (.t 30),none⟩,
 ⟨some 32,.mv false (.t 31),none⟩,
 ⟨some 33,.faddr 7 (.t 5),some (32,false)⟩,
 ⟨some 34,.load false 1 (.t 33) .any,some (32,false)⟩,
 ⟨some 35,.bin .lss (.t 34) (.c (.int .i64 0)),some (32,false)⟩,
 ⟨some 36,.pick (.t 32) (.c (.bool true)) (.t 35),none⟩,
 ⟨some 37,.mv false (.t 36),none⟩,
 ⟨some 38,.faddr 7 (.t 5),some (37,false)⟩,
 ⟨some 39,.load false 1 (.t 38) .any,some (37,false)⟩,
 ⟨some 40,.bin .geq (.t 39) (.c (.int .i64 2147483647)),some (37,false)⟩,
 ⟨some 41,.pick (.t 37) (.c (.bool true)) (.t 40),none⟩,
 ⟨some 42,.mv false (.t 41),none⟩,
 ⟨some 43,.faddr 8 (.t 5),some (42,false)⟩,
 ⟨some 44,.load false 1 (.t 43) .any,some (42,false)⟩,
 ⟨some 45,.len true (.t 44),some (42,false)⟩,
 ⟨some 46,.bin .lss (.t 45) (.c (.int .i64 1)),some (42,false)⟩,
 ⟨some 47,.pick (.t 42) (.c (.bool true)) (.t 46),none⟩,
 ⟨some 48,.mv false (.t 47),none⟩,
 ⟨some 49,.faddr 8 (.t 5),some (48,false)⟩,
 ⟨some 50,.load false 1 (.t 49) .any,some (48,false)⟩,
 ⟨some 51,.len true (.t 50),some (48,false)⟩,
 ⟨some 52,.bin .gtr (.t 51) (.c (.int .i64 432)),some (48,false)⟩,
 ⟨some 53,.pick (.t 48) (.c (.bool true)) (.t 52),none⟩,
 ⟨some 28,.mv true (.t 53),none⟩]
abbrev zz36_r3:List AI:=[
 ⟨some 54,.call (.c (.fn f_zz59)) [(.c (.int .i64 1))] 0,none⟩,
 ⟨none,.store 4 (.t 6) (.t 54) .any,none⟩]
abbrev zz36_r4:List AI:=[
 ⟨some 56,.faddr 6 (.t 5),none⟩,
 ⟨some 57,.load false 1 (.t 56) .any,none⟩,
 ⟨some 58,.mv false (.t 1),none⟩,
 ⟨some 59,.bin .lss (.t 57) (.t 58),none⟩,
 ⟨some 55,.mv true (.t 59),none⟩]
abbrev zz36_r5:List AI:=[
 ⟨some 60,.call (.c (.fn f_zz59)) [(.c (.int .i64 18))] 0,none⟩,
 ⟨none,.store 4 (.t 6) (.t 60) .any,none⟩]
abbrev zz36_r6:List AI:=[
 ⟨some 62,.mv false (.t 8),none⟩,
 ⟨some 61,.mv true (.t 62),none⟩]
abbrev zz36_r7:List AI:=[
 ⟨some 63,.call (.c (.fn f_zz59)) [(.c (.int .i64 9))] 0,none⟩,
 ⟨none,.store 4 (.t 6) (.t 63) .any,none⟩]
abbrev zz36_b0:ACode:=.seq (.reg false zz36_r6) (.cond (.t 61) (.seq (.reg false zz36_r7) (.ret)) (.skip))
abbrev zz36_b1:ACode:=.seq (.reg false zz36_r4) (.cond (.t 55) (.seq (.reg false zz36_r5) (.ret)) (zz36_b0))
abbrev zz36_r8:List AI:=[
 ⟨some 64,.faddr 8 (.t 5),none⟩,
 ⟨some 65,.load false 1 (.t 64) .any,none⟩,
 ⟨some 66,.len true (.t 65),none⟩,
 ⟨some 67,.bin .add (.t 66) (.c (.int .i64 54)),none⟩,
 ⟨some 68,.bin .sub (.t 67) (.c (.int .i64 1)),none⟩,
 ⟨some 69,.bin .quo (.t 68) (.c (.int .i64 54)),none⟩,
 ⟨some 70,.bin .add (.c (.int .i64 1)) (.t 69),none⟩,
 ⟨some 9,.gn (.alloc [(.int .i64 0)]) [],none⟩,
 ⟨none,.store 1 (.t 9) (.t 70) .any,none⟩]
abbrev zz36_r9:List AI:=[
 ⟨some 71,.faddr 1 (.t 5),none⟩,
 ⟨some 72,.load true 4 (.t 71) .any,none⟩,
 ⟨some 73,.faddr 5 (.t 5),none⟩,
 ⟨some 74,.load false 1 (.t 73) .any,none⟩,
 ⟨some 75,.faddr 6 (.t 5),none⟩,
 ⟨some 76,.load false 1 (.t 75) .any,none⟩,
 ⟨some 77,.faddr 7 (.t 5),none⟩,
 ⟨some 78,.load false 1 (.t 77) .any,none⟩,
 ⟨some 79,.faddr 8 (.t 5),none⟩,
 ⟨some 80,.load false 1 (.t 79) .any,none⟩,
 ⟨some 81,.len true (.t 80),none⟩,
 ⟨some 82,.build (zr 8 (.int .i64 0)) [(0,4,(.t 72)),(4,1,(.t 74)),(5,1,(.t 76)),(6,1,(.t 78)),(7,1,(.t 81))],none⟩,
 ⟨some 83,.build (zr 8 (.int .i64 0)++[.nilS]) [(0,8,(.t 82))],none⟩,
 ⟨some 10,.gn (.alloc (zr 8 (.int .i64 0)++[.nilS])) [],none⟩,
 ⟨none,.store 9 (.t 10) (.t 83) .any,none⟩]
abbrev zz36_r10:List AI:=[
 ⟨some 84,.mv false (.t 0),none⟩,
 ⟨some 85,.call (.c (.fn f_zz27)) [(.t 84)] 0,none⟩]
abbrev zz36_r11:List AI:=[
 ⟨some 11,.mv true (.t 86),none⟩]
abbrev zz36_r12:List AI:=[
 ⟨some 87,.faddr 8 (.t 10),none⟩,
 ⟨some 88,.load false 1 (.t 87) .any,none⟩,
 ⟨some 89,.len false (.t 88),none⟩,
 ⟨some 90,.load false 1 (.t 9) .any,none⟩,
 ⟨some 91,.bin .lss (.t 89) (.t 90),none⟩]
abbrev zz36_r13:List AI:=[
 ⟨some 92,.faddr 8 (.t 10),none⟩,
 ⟨some 93,.load false 1 (.t 92) .any,none⟩,
 ⟨some 94,.mv false (.t 11),none⟩,
 ⟨some 95,.mkslice 1 1 (.int .i64 0) [(0,(.t 94))],none⟩,
 ⟨some 96,.appG 1 8 [(.int .i64 0)] (.t 93) (.t 95),none⟩,
 ⟨some 97,.faddr 8 (.t 10),none⟩,
 ⟨none,.store 1 (.t 97) (.t 96) .any,none⟩]
abbrev zaq:ACode:=.reg false zz36_r11
abbrev zar:ACode:=.block 2 (.seq (.reg false zz36_r12) (.cond (.t 91) (.reg false zz36_r13) (.skip)))
abbrev zz36_r14:List AI:=[
 ⟨some 98,.faddr 8 (.t 10),none⟩,
 ⟨some 99,.load false 1 (.t 98) .any,none⟩,
 ⟨some 100,.len false (.t 99),none⟩,
 ⟨some 101,.load false 1 (.t 9) .any,none⟩,
 ⟨some 102,.bin .lss (.t 100) (.t 101),none⟩]
abbrev zz36_r15:List AI:=[
 ⟨some 103,.call (.c (.fn f_zz59)) [(.c (.int .i64 13))] 0,none⟩,
 ⟨none,.store 4 (.t 6) (.t 103) .any,none⟩]
abbrev zz36_r16:List AI:=[
 ⟨some 104,.faddr 8 (.t 5),none⟩,
 ⟨some 105,.load false 1 (.t 104) .any,none⟩,
 ⟨some 12,.mv true (.t 105),none⟩]
abbrev zz36_r17:List AI:=[
 ⟨some 106,.faddr 8 (.t 10),none⟩,
 ⟨some 107,.load false 1 (.t 106) .any,none⟩,
 ⟨some 108,.sl 1 (.t 107) (some (.c (.int .i64 1))) none,none⟩,
 ⟨some 109,.len false (.t 108),none⟩,
 ⟨some 110,.mv false (.c (.int .i64 0)),none⟩]
abbrev zz36_r18:List AI:=[
 ⟨some 111,.bin .lss (.t 110) (.t 109),none⟩]
abbrev zz36_r19:List AI:=[
 ⟨some 112,.iaddr 1 (.t 108) (.t 110),none⟩,
 ⟨some 113,.load false 1 (.t 112) .any,none⟩,
 ⟨some 14,.mv true (.t 113),none⟩]
abbrev zz36_r20:List AI:=[
 ⟨some 114,.mv false (.t 12),none⟩,
 ⟨some 115,.len true (.t 114),none⟩,
 ⟨some 116,.mn (.t 115) (.c (.int .i64 54)),none⟩,
 ⟨some 15,.mv true (.t 116),none⟩]
abbrev zz36_r21:List AI:=[
 ⟨some 117,.mv false (.t 0),none⟩,
 ⟨some 118,.nilck (.t 117),none⟩,
 ⟨some 119,.faddr 0 (.t 118),none⟩,
 ⟨some 120,.load false 1 (.t 119) .foreign,none⟩,
 ⟨some 121,.mv false (.t 14),none⟩,
 ⟨some 122,.mkslice 1 1 (.int .u8 0) [(0,(.c (.int .u8 2)))],none⟩,
 ⟨some 123,.b2s (.t 122),none⟩,
 ⟨some 124,.mv false (.t 12),none⟩,
 ⟨some 125,.mv false (.t 15),none⟩,
 ⟨some 126,.slS (.t 124) none (some (.t 125)),none⟩,
 ⟨some 127,.bin .add (.t 123) (.t 126),none⟩,
 ⟨some 128,.call (.c (.fn f_zz40)) [(.t 120),(.t 121),(.t 127)] 2,none⟩,
 ⟨some 16,.mv true (.t 128),none⟩]
abbrev zz36_r22:List AI:=[
 ⟨some 129,.mv false (.t 16),none⟩,
 ⟨some 130,.bin .neq (.t 129) (.c (.int .i64 0)),none⟩]
abbrev zz36_r23:List AI:=[
 ⟨some 131,.mv false (.t 16),none⟩,
 ⟨some 132,.call (.c (.fn f_zz59)) [(.t 131)] 0,none⟩,
 ⟨none,.store 4 (.t 6) (.t 132) .any,none⟩]
abbrev zz36_r24:List AI:=[
 ⟨some 133,.mv false (.t 12),none⟩,
 ⟨some 134,.mv false (.t 15),none⟩,
 ⟨some 135,.slS (.t 133) (some (.t 134)) none,none⟩,
 ⟨some 12,.mv true (.t 135),none⟩]
abbrev zz36_r25:List AI:=[
 ⟨some 136,.bin .add (.t 110) (.c (.int .i64 1)),none⟩,
 ⟨some 110,.mv false (.t 136),none⟩]
abbrev zz36_l1:ACode:=.seq (.reg false zz36_r18) (.seq (.cond (.t 111) (.skip) (.exit 3)) (.seq (.block 4 (.seq (.reg false zz36_r19) (.seq (.reg false zz36_r20) (.seq (.seq (.reg true zz36_r21) (.seq (.reg false zz36_r22) (.cond (.t 130) (.seq (.reg false zz36_r23) (.ret)) (.skip)))) (.reg false zz36_r24))))) (.reg false zz36_r25)))
abbrev zz36_r26:List AI:=[
 ⟨some 137,.mv false (.t 0),none⟩,
 ⟨some 138,.nilck (.t 137),none⟩,
 ⟨some 139,.faddr 0 (.t 138),none⟩,
 ⟨some 140,.load false 1 (.t 139) .foreign,none⟩,
 ⟨some 141,.faddr 8 (.t 10),none⟩,
 ⟨some 142,.load false 1 (.t 141) .foreign,none⟩,
 ⟨some 143,.iaddr 1 (.t 142) (.c (.int .i64 0)),none⟩,
 ⟨some 144,.load false 1 (.t 143) .foreign,none⟩,
 ⟨some 145,.load true 9 (.t 10) .foreign,none⟩,
 ⟨some 146,.kp [(.ld false 1 (.t 139)),(.ld false 1 (.t 141)),(.ld false 1 (.t 143))] (.call (.c (.fn f_zz53)) [(.t 145)] 2),none⟩,
 ⟨some 147,.call (.c (.fn f_zz40)) [(.t 140),(.t 144),(.t 146)] 2,none⟩,
 ⟨some 17,.mv true (.t 147),none⟩]
abbrev zz36_r27:List AI:=[
 ⟨some 148,.mv false (.t 17),none⟩,
 ⟨some 149,.bin .neq (.t 148) (.c (.int .i64 0)),none⟩]
abbrev zz36_r28:List AI:=[
 ⟨some 150,.mv false (.t 17),none⟩,
 ⟨some 151,.call (.c (.fn f_zz59)) [(.t 150)] 0,none⟩,
 ⟨none,.store 4 (.t 6) (.t 151) .any,none⟩]
abbrev zz36_r29:List AI:=[
 ⟨some 152,.mv false (.t 0),none⟩,
 ⟨some 153,.nilck (.t 152),none⟩,
 ⟨some 154,.faddr 2 (.t 153),none⟩,
 ⟨some 155,.load false 1 (.t 154) .foreign,none⟩,
 ⟨some 156,.faddr 0 (.t 10),none⟩,
 ⟨some 157,.faddr 0 (.t 156),none⟩,
 ⟨some 158,.load true 4 (.t 157) .foreign,none⟩,
 ⟨some 159,.load true 9 (.t 10) .foreign,none⟩,
 ⟨none,.gd (.mset [.i,.i,.i,.i]) [(.t 155),(.t 158),(.t 159)],none⟩]
abbrev zz36_r30:List AI:=[
 ⟨some 160,.build [(.int .i64 0),(.str []),.nilS,(.int .i64 0)] [],none⟩,
 ⟨none,.store 4 (.t 6) (.t 160) .any,none⟩]
abbrev zz36_c:ACode:=.seq (.reg false zz36_r0) (.seq (.reg true zz36_r1) (.seq (.block 0 (.seq (.reg false zz36_r2) (.cond (.t 28) (.seq (.reg false zz36_r3) (.ret)) (zz36_b1)))) (.seq (.reg false zz36_r8) (.seq (.reg false zz36_r9) (.seq (.seq (.reg false zz36_r10) (.block 1 (.rangeF (.t 85) [86] zaq zar))) (.seq (.seq (.reg false zz36_r14) (.cond (.t 102) (.seq (.reg false zz36_r15) (.ret)) (.skip))) (.seq (.reg false zz36_r16) (.seq (.seq (.reg false zz36_r17) (.block 3 (.loop zz36_l1))) (.seq (.seq (.reg true zz36_r26) (.seq (.reg false zz36_r27) (.cond (.t 149) (.seq (.reg false zz36_r28) (.ret)) (.skip)))) (.seq (.reg true zz36_r29) (.seq (.reg false zz36_r30) (.ret))))))))))))
def zz36_F:AFunc:=⟨161,[.cell 6 true 4],zz36_c⟩
theorem zz36_cp:zi Try.prog [9,10,96,128,146,147] f_zz36=some zz36_F:=by kernel_rfl
abbrev zz35_r0:List AI:=[
 ⟨some 5,.box 14 (.t 2),none⟩,
 ⟨some 6,.alloc [(.int .i64 0),(.str []),.nilS,(.int .i64 0)],none⟩]
abbrev zz35_r1:List AI:=[
 ⟨some 11,.faddr 9 (.t 5),none⟩,
 ⟨some 12,.load false 1 (.t 11) .any,none⟩,
 ⟨some 13,.bin .lss (.t 12) (.c (.int .i64 0)),none⟩,
 ⟨some 14,.mv false (.t 13),none⟩,
 ⟨some 15,.faddr 10 (.t 5),some (14,false)⟩,
 ⟨some 16,.load false 1 (.t 15) .any,some (14,false)⟩,
 ⟨some 17,.bin .lss (.t 16) (.c (.int .i64 0)),some (14,false)⟩,
 ⟨some 18,.pick (.t 14) (.c (.bool true)) (.t 17),none⟩]
abbrev zz35_r2:List AI:=[
 ⟨some 19,.call (.c (.fn f_zz59)) [(.c (.int .i64 1))] 0,none⟩,
 ⟨none,.store 4 (.t 6) (.t 19) .any,none⟩]
abbrev zz35_r3:List AI:=[
 ⟨some 21,.mv false (.t 0),none⟩,
 ⟨some 22,.nilck (.t 21),none⟩,
 ⟨some 23,.faddr 2 (.t 22),none⟩,
 ⟨some 24,.load false 1 (.t 23) .foreign,none⟩,
 ⟨some 25,.faddr 1 (.t 5),none⟩,
 ⟨some 26,.load true 4 (.t 25) (.site 5),none⟩,
 ⟨some 27,.gd (.mlook [.i,.i,.i,.i] (.agg (zr 8 (.int .i64 0)++[.nilS])) true) [(.t 24),(.t 26)],none⟩,
 ⟨some 20,.mv false (.t 27),none⟩,
 ⟨some 28,.ext (.t 20) 0,none⟩,
 ⟨some 29,.ext (.t 20) 1,none⟩,
 ⟨some 7,.alloc (zr 8 (.int .i64 0)++[.nilS]),none⟩,
 ⟨none,.store 9 (.t 7) (.t 28) (.site 7),none⟩,
 ⟨some 8,.mv true (.t 29),none⟩]
abbrev zz35_r4:List AI:=[
 ⟨some 30,.mv false (.t 8),none⟩,
 ⟨some 31,.not (.t 30),none⟩]
abbrev zz35_r5:List AI:=[
 ⟨some 32,.call (.c (.fn f_zz59)) [(.c (.int .i64 8))] 0,none⟩,
 ⟨none,.store 4 (.t 6) (.t 32) .any,none⟩]
abbrev zz35_r6:List AI:=[
 ⟨some 33,.faddr 9 (.t 5),none⟩,
 ⟨some 34,.load false 1 (.t 33) .any,none⟩,
 ⟨some 35,.faddr 0 (.t 7),none⟩,
 ⟨some 36,.faddr 7 (.t 35),none⟩,
 ⟨some 37,.load false 1 (.t 36) .any,none⟩,
 ⟨some 38,.bin .gtr (.t 34) (.t 37),none⟩,
 ⟨some 39,.mv false (.t 38),none⟩,
 ⟨some 40,.faddr 10 (.t 5),some (39,false)⟩,
 ⟨some 41,.load false 1 (.t 40) .any,some (39,false)⟩,
 ⟨some 42,.faddr 0 (.t 7),some (39,false)⟩,
 ⟨some 43,.faddr 7 (.t 42),some (39,false)⟩,
 ⟨some 44,.load false 1 (.t 43) .any,some (39,false)⟩,
 ⟨some 45,.faddr 9 (.t 5),some (39,false)⟩,
 ⟨some 46,.load false 1 (.t 45) .any,some (39,false)⟩,
 ⟨some 47,.bin .sub (.t 44) (.t 46),some (39,false)⟩,
 ⟨some 48,.bin .gtr (.t 41) (.t 47),some (39,false)⟩,
 ⟨some 49,.pick (.t 39) (.c (.bool true)) (.t 48),none⟩]
abbrev zz35_r7:List AI:=[
 ⟨some 50,.call (.c (.fn f_zz59)) [(.c (.int .i64 3))] 0,none⟩,
 ⟨none,.store 4 (.t 6) (.t 50) .any,none⟩]
abbrev zz35_r8:List AI:=[
 ⟨some 52,.mv false (.t 0),none⟩,
 ⟨some 53,.load true 9 (.t 7) .any,none⟩,
 ⟨some 54,.call (.c (.fn f_zz29)) [(.t 52),(.t 53)] 0,none⟩,
 ⟨some 51,.mv false (.t 54),none⟩,
 ⟨some 55,.ext (.t 51) 0,none⟩,
 ⟨some 56,.ext (.t 51) 1,none⟩,
 ⟨some 9,.mv true (.t 55),none⟩,
 ⟨some 10,.mv true (.t 56),none⟩]
abbrev zz35_r9:List AI:=[
 ⟨some 57,.mv false (.t 10),none⟩,
 ⟨some 58,.bin .neq (.t 57) (.c (.int .i64 0)),none⟩]
abbrev zz35_r10:List AI:=[
 ⟨some 59,.mv false (.t 10),none⟩,
 ⟨some 60,.call (.c (.fn f_zz59)) [(.t 59)] 0,none⟩,
 ⟨none,.store 4 (.t 6) (.t 60) .any,none⟩]
abbrev zz35_r11:List AI:=[
 ⟨some 61,.mv false (.t 9),none⟩,
 ⟨some 62,.faddr 9 (.t 5),none⟩,
 ⟨some 63,.load false 1 (.t 62) .any,none⟩,
 ⟨some 64,.faddr 9 (.t 5),none⟩,
 ⟨some 65,.load false 1 (.t 64) .any,none⟩,
 ⟨some 66,.faddr 10 (.t 5),none⟩,
 ⟨some 67,.load false 1 (.t 66) .any,none⟩,
 ⟨some 68,.bin .add (.t 65) (.t 67),none⟩,
 ⟨some 69,.slS (.t 61) (some (.t 63)) (some (.t 68)),none⟩,
 ⟨some 70,.build [(.int .i64 0),(.str []),.nilS,(.int .i64 0)] [(1,1,(.t 69))],none⟩,
 ⟨none,.store 4 (.t 6) (.t 70) .any,none⟩]
abbrev zz35_c:ACode:=.seq (.reg false zz35_r0) (.seq (.seq (.reg false zz35_r1) (.cond (.t 18) (.seq (.reg false zz35_r2) (.ret)) (.skip))) (.seq (.reg true zz35_r3) (.seq (.seq (.reg false zz35_r4) (.cond (.t 31) (.seq (.reg false zz35_r5) (.ret)) (.skip))) (.seq (.seq (.reg false zz35_r6) (.cond (.t 49) (.seq (.reg false zz35_r7) (.ret)) (.skip))) (.seq (.reg false zz35_r8) (.seq (.seq (.reg false zz35_r9) (.cond (.t 58) (.seq (.reg false zz35_r10) (.ret)) (.skip))) (.seq (.reg false zz35_r11) (.ret))))))))
def zz35_F:AFunc:=⟨71,[.cell 6 true 4],zz35_c⟩
theorem zz35_cp:zi Try.prog [] f_zz35=some zz35_F:=by kernel_rfl
abbrev zz26_r0:List AI:=[
 ⟨some 5,.box 14 (.t 2),none⟩,
 ⟨some 6,.alloc [(.int .i64 0),(.str []),.nilS,(.int .i64 0)],none⟩]
abbrev zz26_r1:List AI:=[
 ⟨some 10,.mv false (.t 0),none⟩,
 ⟨some 11,.nilck (.t 10),none⟩,
 ⟨some 12,.faddr 2 (.t 11),none⟩,
 ⟨some 13,.load false 1 (.t 12) .foreign,none⟩,
 ⟨some 14,.faddr 1 (.t 5),none⟩,
 ⟨some 15,.load true 4 (.t 14) (.site 5),none⟩,
 ⟨some 16,.gd (.mlook [.i,.i,.i,.i] (.agg (zr 8 (.int .i64 0)++[.nilS])) true) [(.t 13),(.t 15)],none⟩,
 ⟨some 9,.mv false (.t 16),none⟩,
 ⟨some 17,.ext (.t 9) 0,none⟩,
 ⟨some 18,.ext (.t 9) 1,none⟩,
 ⟨some 7,.alloc (zr 8 (.int .i64 0)++[.nilS]),none⟩,
 ⟨none,.store 9 (.t 7) (.t 17) (.site 7),none⟩,
 ⟨some 8,.mv true (.t 18),none⟩]
abbrev zz26_r2:List AI:=[
 ⟨some 20,.mv false (.t 8),none⟩,
 ⟨some 21,.not (.t 20),none⟩,
 ⟨some 19,.mv true (.t 21),none⟩]
abbrev zz26_r3:List AI:=[
 ⟨some 22,.call (.c (.fn f_zz59)) [(.c (.int .i64 8))] 0,none⟩,
 ⟨none,.store 4 (.t 6) (.t 22) .any,none⟩]
abbrev zz26_r4:List AI:=[
 ⟨some 24,.mv false (.t 1),none⟩,
 ⟨some 25,.faddr 0 (.t 7),none⟩,
 ⟨some 26,.faddr 4 (.t 25),none⟩,
 ⟨some 27,.load false 1 (.t 26) .any,none⟩,
 ⟨some 28,.bin .leq (.t 24) (.t 27),none⟩,
 ⟨some 23,.mv true (.t 28),none⟩]
abbrev zz26_r5:List AI:=[
 ⟨some 29,.call (.c (.fn f_zz59)) [(.c (.int .i64 19))] 0,none⟩,
 ⟨none,.store 4 (.t 6) (.t 29) .any,none⟩]
abbrev zz26_b0:ACode:=.seq (.reg false zz26_r4) (.cond (.t 23) (.seq (.reg false zz26_r5) (.ret)) (.skip))
abbrev zz26_r6:List AI:=[
 ⟨some 30,.mv false (.t 0),none⟩,
 ⟨some 31,.load true 9 (.t 7) .any,none⟩,
 ⟨some 32,.call (.c (.fn f_zz21)) [(.t 30),(.t 31)] 0,none⟩,
 ⟨some 33,.call (.c (.fn f_zz59)) [(.t 32)] 0,none⟩,
 ⟨none,.store 4 (.t 6) (.t 33) .any,none⟩]
abbrev zz26_c:ACode:=.seq (.reg false zz26_r0) (.seq (.reg true zz26_r1) (.seq (.block 0 (.seq (.reg false zz26_r2) (.cond (.t 19) (.seq (.reg false zz26_r3) (.ret)) (zz26_b0)))) (.seq (.reg false zz26_r6) (.ret))))
def zz26_F:AFunc:=⟨34,[.cell 6 true 4],zz26_c⟩
theorem zz26_cp:zi Try.prog [] f_zz26=some zz26_F:=by kernel_rfl
abbrev zz28_r0:List AI:=[
 ⟨some 5,.box 14 (.t 2),none⟩,
 ⟨some 6,.alloc [(.int .i64 0),(.str []),.nilS,(.int .i64 0)],none⟩]
abbrev zz28_r1:List AI:=[
 ⟨some 11,.mv false (.t 0),none⟩,
 ⟨some 12,.nilck (.t 11),none⟩,
 ⟨some 13,.faddr 2 (.t 12),none⟩,
 ⟨some 14,.load false 1 (.t 13) .foreign,none⟩,
 ⟨some 15,.faddr 1 (.t 5),none⟩,
 ⟨some 16,.load true 4 (.t 15) (.site 5),none⟩,
 ⟨some 17,.gd (.mlook [.i,.i,.i,.i] (.agg (zr 8 (.int .i64 0)++[.nilS])) true) [(.t 14),(.t 16)],none⟩,
 ⟨some 10,.mv false (.t 17),none⟩,
 ⟨some 18,.ext (.t 10) 0,none⟩,
 ⟨some 19,.ext (.t 10) 1,none⟩,
 ⟨some 7,.alloc (zr 8 (.int .i64 0)++[.nilS]),none⟩,
 ⟨none,.store 9 (.t 7) (.t 18) (.site 7),none⟩,
 ⟨some 8,.mv true (.t 19),none⟩]
abbrev zz28_r2:List AI:=[
 ⟨some 21,.load true 14 (.t 5) .any,none⟩,
 ⟨some 22,.call (.c (.fn f_zz56)) [(.t 21)] 0,none⟩,
 ⟨some 23,.not (.t 22),none⟩,
 ⟨some 20,.mv true (.t 23),none⟩]
abbrev zz28_r3:List AI:=[
 ⟨some 24,.call (.c (.fn f_zz59)) [(.c (.int .i64 1))] 0,none⟩,
 ⟨none,.store 4 (.t 6) (.t 24) .any,none⟩]
abbrev zz28_r4:List AI:=[
 ⟨some 26,.mv false (.t 8),none⟩,
 ⟨some 27,.not (.t 26),none⟩,
 ⟨some 25,.mv true (.t 27),none⟩]
abbrev zz28_r5:List AI:=[
 ⟨some 28,.call (.c (.fn f_zz59)) [(.c (.int .i64 8))] 0,none⟩,
 ⟨none,.store 4 (.t 6) (.t 28) .any,none⟩]
abbrev zz28_r6:List AI:=[
 ⟨some 30,.faddr 5 (.t 5),none⟩,
 ⟨some 31,.load false 1 (.t 30) .any,none⟩,
 ⟨some 32,.faddr 0 (.t 7),none⟩,
 ⟨some 33,.faddr 4 (.t 32),none⟩,
 ⟨some 34,.load false 1 (.t 33) .any,none⟩,
 ⟨some 35,.bin .lss (.t 31) (.t 34),none⟩,
 ⟨some 36,.mv false (.t 35),none⟩,
 ⟨some 37,.faddr 6 (.t 5),some (36,false)⟩,
 ⟨some 38,.load false 1 (.t 37) .any,some (36,false)⟩,
 ⟨some 39,.faddr 0 (.t 7),some (36,false)⟩,
 ⟨some 40,.faddr 5 (.t 39),some (36,false)⟩,
 ⟨some 41,.load false 1 (.t 40) .any,some (36,false)⟩,
 ⟨some 42,.bin .lss (.t 38) (.t 41),some (36,false)⟩,
 ⟨some 43,.pick (.t 36) (.c (.bool true)) (.t 42),none⟩,
 ⟨some 29,.mv true (.t 43),none⟩]
abbrev zz28_r7:List AI:=[
 ⟨some 44,.call (.c (.fn f_zz59)) [(.c (.int .i64 4))] 0,none⟩,
 ⟨none,.store 4 (.t 6) (.t 44) .any,none⟩]
abbrev zz28_b0:ACode:=.seq (.reg false zz28_r6) (.cond (.t 29) (.seq (.reg false zz28_r7) (.ret)) (.skip))
abbrev zz28_b1:ACode:=.seq (.reg false zz28_r4) (.cond (.t 25) (.seq (.reg false zz28_r5) (.ret)) (zz28_b0))
abbrev zz28_r8:List AI:=[
 ⟨some 45,.faddr 5 (.t 5),none⟩,
 ⟨some 46,.load false 1 (.t 45) (.site 5),none⟩,
 ⟨some 47,.faddr 6 (.t 5),none⟩,
 ⟨some 48,.load false 1 (.t 47) (.site 5),none⟩,
 ⟨some 49,.faddr 0 (.t 7),none⟩,
 ⟨some 50,.faddr 4 (.t 49),none⟩,
 ⟨none,.store 1 (.t 50) (.t 46) (.site 7),none⟩,
 ⟨some 51,.faddr 0 (.t 7),none⟩,
 ⟨some 52,.faddr 5 (.t 51),none⟩,
 ⟨none,.store 1 (.t 52) (.t 48) (.site 7),none⟩]
abbrev zz28_r9:List AI:=[
 ⟨some 53,.mv false (.t 0),none⟩,
 ⟨some 54,.nilck (.t 53),none⟩,
 ⟨some 55,.faddr 0 (.t 54),none⟩,
 ⟨some 56,.load false 1 (.t 55) .foreign,none⟩,
 ⟨some 57,.faddr 8 (.t 7),none⟩,
 ⟨some 58,.load false 1 (.t 57) (.site 7),none⟩,
 ⟨some 59,.iaddr 1 (.t 58) (.c (.int .i64 0)),none⟩,
 ⟨some 60,.load false 1 (.t 59) .foreign,none⟩,
 ⟨some 61,.load true 9 (.t 7) (.site 7),none⟩,
 ⟨some 62,.kp [(.ld false 1 (.t 55)),(.ld false 1 (.t 59))] (.call (.c (.fn f_zz53)) [(.t 61)] 2),none⟩,
 ⟨some 63,.call (.c (.fn f_zz40)) [(.t 56),(.t 60),(.t 62)] 2,none⟩,
 ⟨some 9,.mv true (.t 63),none⟩]
abbrev zz28_r10:List AI:=[
 ⟨some 64,.mv false (.t 9),none⟩,
 ⟨some 65,.bin .neq (.t 64) (.c (.int .i64 0)),none⟩]
abbrev zz28_r11:List AI:=[
 ⟨some 66,.mv false (.t 9),none⟩,
 ⟨some 67,.call (.c (.fn f_zz59)) [(.t 66)] 0,none⟩,
 ⟨none,.store 4 (.t 6) (.t 67) .any,none⟩]
abbrev zz28_r12:List AI:=[
 ⟨some 68,.mv false (.t 0),none⟩,
 ⟨some 69,.nilck (.t 68),none⟩,
 ⟨some 70,.faddr 2 (.t 69),none⟩,
 ⟨some 71,.load false 1 (.t 70) .foreign,none⟩,
 ⟨some 72,.faddr 0 (.t 7),none⟩,
 ⟨some 73,.faddr 0 (.t 72),none⟩,
 ⟨some 74,.load true 4 (.t 73) (.site 7),none⟩,
 ⟨some 75,.load true 9 (.t 7) (.site 7),none⟩,
 ⟨none,.gd (.mset [.i,.i,.i,.i]) [(.t 71),(.t 74),(.t 75)],none⟩]
abbrev zz28_r13:List AI:=[
 ⟨some 76,.build [(.int .i64 0),(.str []),.nilS,(.int .i64 0)] [],none⟩,
 ⟨none,.store 4 (.t 6) (.t 76) .any,none⟩]
abbrev zz28_c:ACode:=.seq (.reg false zz28_r0) (.seq (.reg true zz28_r1) (.seq (.block 0 (.seq (.reg false zz28_r2) (.cond (.t 20) (.seq (.reg false zz28_r3) (.ret)) (zz28_b1)))) (.seq (.reg true zz28_r8) (.seq (.seq (.reg true zz28_r9) (.seq (.reg false zz28_r10) (.cond (.t 65) (.seq (.reg false zz28_r11) (.ret)) (.skip)))) (.seq (.reg true zz28_r12) (.seq (.reg false zz28_r13) (.ret)))))))
def zz28_F:AFunc:=⟨77,[.cell 6 true 4],zz28_c⟩
theorem zz28_cp:zi Try.prog [62,63] f_zz28=some zz28_F:=by kernel_rfl
-- loop 0: [0, 6, 13, 14, 15]
abbrev zz29_r0:List AI:=[
 ⟨some 3,.box 9 (.t 1),none⟩,
 ⟨some 4,.mv true (.c (.str [])),none⟩,
 ⟨some 5,.mv true (.c (.int .i64 0)),none⟩]
abbrev zz29_r1:List AI:=[
 ⟨some 6,.mv true (.c .nilS),none⟩]
abbrev zz29_r2:List AI:=[
 ⟨some 11,.faddr 8 (.t 3),none⟩,
 ⟨some 12,.load false 1 (.t 11) .any,none⟩,
 ⟨some 13,.sl 1 (.t 12) (some (.c (.int .i64 1))) none,none⟩,
 ⟨some 14,.len false (.t 13),none⟩,
 ⟨some 15,.mv false (.c (.int .i64 0)),none⟩]
abbrev zz29_r3:List AI:=[
 ⟨some 16,.bin .lss (.t 15) (.t 14),none⟩]
abbrev zz29_r4:List AI:=[
 ⟨some 17,.iaddr 1 (.t 13) (.t 15),none⟩,
 ⟨some 18,.load false 1 (.t 17) .any,none⟩,
 ⟨some 8,.mv true (.t 18),none⟩]
abbrev zz29_r5:List AI:=[
 ⟨some 20,.mv false (.t 0),none⟩,
 ⟨some 21,.nilck (.t 20),none⟩,
 ⟨some 22,.faddr 0 (.t 21),none⟩,
 ⟨some 23,.load false 1 (.t 22) .any,none⟩,
 ⟨some 24,.mv false (.t 8),none⟩,
 ⟨some 25,.call (.c (.fn f_zz39)) [(.t 23),(.t 24)] 0,none⟩,
 ⟨some 19,.mv false (.t 25),none⟩,
 ⟨some 26,.ext (.t 19) 0,none⟩,
 ⟨some 27,.ext (.t 19) 1,none⟩,
 ⟨some 9,.mv true (.t 26),none⟩,
 ⟨some 10,.mv true (.t 27),none⟩]
abbrev zz29_r6:List AI:=[
 ⟨some 28,.mv false (.t 10),none⟩,
 ⟨some 29,.bin .neq (.t 28) (.c (.int .i64 0)),none⟩]
abbrev zz29_r7:List AI:=[
 ⟨some 30,.mv false (.t 10),none⟩,
 ⟨some 4,.mv true (.c (.str [])),none⟩,
 ⟨some 5,.mv true (.t 30),none⟩]
abbrev zz29_r8:List AI:=[
 ⟨some 31,.mv true (.t 6),none⟩,
 ⟨some 32,.mv false (.t 9),none⟩,
 ⟨some 33,.slS (.t 32) (some (.c (.int .i64 1))) none,none⟩,
 ⟨some 34,.append 1 1 (.t 31) (.t 33),none⟩,
 ⟨some 6,.mv true (.t 34),none⟩]
abbrev zz29_r9:List AI:=[
 ⟨some 35,.bin .add (.t 15) (.c (.int .i64 1)),none⟩,
 ⟨some 15,.mv false (.t 35),none⟩]
abbrev zz29_l0:ACode:=.seq (.reg false zz29_r3) (.seq (.cond (.t 16) (.skip) (.exit 0)) (.seq (.block 1 (.seq (.reg false zz29_r4) (.seq (.reg false zz29_r5) (.seq (.seq (.reg false zz29_r6) (.cond (.t 29) (.seq (.reg false zz29_r7) (.ret)) (.skip))) (.reg false zz29_r8))))) (.reg false zz29_r9)))
abbrev zz29_r10:List AI:=[
 ⟨some 36,.mv false (.t 6),none⟩,
 ⟨some 37,.b2s (.t 36),none⟩,
 ⟨some 4,.mv true (.t 37),none⟩,
 ⟨some 5,.mv true (.c (.int .i64 0)),none⟩]
abbrev zz29_c:ACode:=.seq (.reg false zz29_r0) (.seq (.reg false zz29_r1) (.seq (.seq (.reg false zz29_r2) (.block 0 (.loop zz29_l0))) (.seq (.reg false zz29_r10) (.ret))))
def zz29_F:AFunc:=⟨38,[.tmp 4,.tmp 5],zz29_c⟩
theorem zz29_cp:zi Try.prog [] f_zz29=some zz29_F:=by kernel_rfl
abbrev zz47_r0:List AI:=[
 ⟨some 5,.box 14 (.t 2),none⟩,
 ⟨some 6,.alloc [(.int .i64 0),(.str []),.nilS,(.int .i64 0)],none⟩]
abbrev zz47_r1:List AI:=[
 ⟨some 11,.mv false (.t 0),none⟩,
 ⟨some 12,.mv false (.t 1),none⟩,
 ⟨some 13,.call (.c (.fn f_zz25)) [(.t 11),(.t 12)] 0,none⟩,
 ⟨some 10,.mv false (.t 13),none⟩,
 ⟨some 14,.ext (.t 10) 0,none⟩,
 ⟨some 15,.ext (.t 10) 1,none⟩,
 ⟨some 7,.mv true (.t 14),none⟩,
 ⟨some 8,.mv true (.t 15),none⟩]
abbrev zz47_r2:List AI:=[
 ⟨some 16,.mv false (.t 8),none⟩,
 ⟨some 17,.bin .neq (.t 16) (.c (.int .i64 0)),none⟩]
abbrev zz47_r3:List AI:=[
 ⟨some 18,.mv false (.t 8),none⟩,
 ⟨some 19,.call (.c (.fn f_zz59)) [(.t 18)] 0,none⟩,
 ⟨none,.store 4 (.t 6) (.t 19) .any,none⟩]
abbrev zz47_r4:List AI:=[
 ⟨some 20,.build [.nilF,.nilF,.nilF,.nilF,.nilF,.nilF] [(1,1,(.c (.fn f_zz36))),(2,1,(.c (.fn f_zz35))),(3,1,(.c (.fn f_zz26))),(4,1,(.c (.fn f_zz28))),(5,1,(.c (.fn f_zz20)))],none⟩,
 ⟨some 9,.alloc [.nilF,.nilF,.nilF,.nilF,.nilF,.nilF],none⟩,
 ⟨none,.store 6 (.t 9) (.t 20) .any,none⟩]
abbrev zz47_r5:List AI:=[
 ⟨some 21,.faddr 0 (.t 5),none⟩,
 ⟨some 22,.load false 1 (.t 21) .any,none⟩,
 ⟨some 23,.bin .lss (.t 22) (.c (.int .i64 1)),none⟩,
 ⟨some 24,.mv false (.t 23),none⟩,
 ⟨some 25,.faddr 0 (.t 5),some (24,false)⟩,
 ⟨some 26,.load false 1 (.t 25) .any,some (24,false)⟩,
 ⟨some 27,.bin .gtr (.t 26) (.c (.int .i64 5)),some (24,false)⟩,
 ⟨some 28,.pick (.t 24) (.c (.bool true)) (.t 27),none⟩,
 ⟨some 29,.mv false (.t 28),none⟩,
 ⟨some 30,.faddr 0 (.t 5),some (29,false)⟩,
 ⟨some 31,.load false 1 (.t 30) .any,some (29,false)⟩,
 ⟨some 32,.bin .neq (.t 31) (.c (.int .i64 5)),some (29,false)⟩,
 ⟨some 33,.mv false (.t 32),some (29,false)⟩,
 ⟨some 34,.faddr 1 (.t 5),some (33,true)⟩,
 ⟨some 35,.load true 4 (.t 34) .any,some (33,true)⟩,
 ⟨some 36,.call (.c (.fn f_zz48)) [(.t 35)] 0,some (33,true)⟩,
 ⟨some 37,.not (.t 36),some (33,true)⟩,
 ⟨some 38,.pick (.t 33) (.t 37) (.c (.bool false)),some (29,false)⟩,
 ⟨some 39,.pick (.t 29) (.c (.bool true)) (.t 38),none⟩]
abbrev zz47_r6:List AI:=[
 ⟨some 40,.call (.c (.fn f_zz59)) [(.c (.int .i64 1))] 0,none⟩,
 ⟨none,.store 4 (.t 6) (.t 40) .any,none⟩]
abbrev zz47_r7:List AI:=[
 ⟨some 41,.faddr 0 (.t 5),none⟩,
 ⟨some 42,.load false 1 (.t 41) (.site 5),none⟩,
 ⟨some 43,.iaddrA 6 1 (.t 9) (.t 42),none⟩,
 ⟨some 44,.load false 1 (.t 43) (.site 9),none⟩,
 ⟨some 45,.mv false (.t 0),none⟩,
 ⟨some 46,.mv false (.t 1),none⟩,
 ⟨some 47,.load true 14 (.t 5) (.site 5),none⟩,
 ⟨some 48,.call (.t 44) [(.t 45),(.t 46),(.t 47)] 4,none⟩,
 ⟨none,.store 4 (.t 6) (.t 48) (.site 6),none⟩]
abbrev zz47_c:ACode:=.seq (.reg false zz47_r0) (.seq (.seq (.reg false zz47_r1) (.seq (.reg false zz47_r2) (.cond (.t 17) (.seq (.reg false zz47_r3) (.ret)) (.skip)))) (.seq (.reg false zz47_r4) (.seq (.seq (.reg false zz47_r5) (.cond (.t 39) (.seq (.reg false zz47_r6) (.ret)) (.skip))) (.seq (.reg true zz47_r7) (.ret)))))
def zz47_F:AFunc:=⟨49,[.cell 6 true 4],zz47_c⟩
theorem zz47_cp:zi Try.prog [] f_zz47=some zz47_F:=by kernel_rfl
-- loop 0: [6, 21, 22, 23]
abbrev zz24_r0:List AI:=[
 ⟨some 2,.mv true (.c .nilS),none⟩,
 ⟨some 3,.mv true (.c (.int .i64 0)),none⟩]
abbrev zz24_r1:List AI:=[
 ⟨some 10,.mv false (.t 0),none⟩,
 ⟨some 11,.nilck (.t 10),none⟩,
 ⟨some 12,.faddr 0 (.t 11),none⟩,
 ⟨some 13,.load false 1 (.t 12) .any,none⟩,
 ⟨some 14,.call (.c (.fn f_zz39)) [(.t 13),(.c (.int .i64 0))] 0,none⟩,
 ⟨some 9,.mv false (.t 14),none⟩,
 ⟨some 15,.ext (.t 9) 0,none⟩,
 ⟨some 16,.ext (.t 9) 1,none⟩,
 ⟨some 4,.mv true (.t 15),none⟩,
 ⟨some 5,.mv true (.t 16),none⟩]
abbrev zz24_r2:List AI:=[
 ⟨some 17,.mv false (.t 5),none⟩,
 ⟨some 18,.bin .eql (.t 17) (.c (.int .i64 12)),none⟩]
abbrev zz24_r3:List AI:=[
 ⟨some 19,.mv false (.t 5),none⟩,
 ⟨some 2,.mv true (.c .nilS),none⟩,
 ⟨some 3,.mv true (.t 19),none⟩]
abbrev zz24_r4:List AI:=[
 ⟨some 6,.mv true (.c .nilS),none⟩]
abbrev zz24_r5:List AI:=[
 ⟨some 20,.mv false (.t 0),none⟩,
 ⟨some 21,.call (.c (.fn f_zz16)) [(.t 20)] 0,none⟩,
 ⟨some 22,.len false (.t 21),none⟩,
 ⟨some 23,.mv false (.c (.int .i64 0)),none⟩]
abbrev zz24_r6:List AI:=[
 ⟨some 24,.bin .lss (.t 23) (.t 22),none⟩]
abbrev zz24_r7:List AI:=[
 ⟨some 25,.iaddr 9 (.t 21) (.t 23),none⟩,
 ⟨some 26,.load true 9 (.t 25) .any,none⟩,
 ⟨some 8,.alloc (zr 8 (.int .i64 0)++[.nilS]),none⟩,
 ⟨none,.store 9 (.t 8) (.t 26) .any,none⟩]
abbrev zz24_r8:List AI:=[
 ⟨some 27,.mv true (.t 6),none⟩,
 ⟨some 28,.faddr 0 (.t 8),none⟩,
 ⟨some 29,.load true 8 (.t 28) .any,none⟩,
 ⟨some 30,.mkslice 8 1 (.agg (zr 8 (.int .i64 0))) [(0,(.t 29))],none⟩,
 ⟨some 31,.append 8 64 (.t 27) (.t 30),none⟩,
 ⟨some 6,.mv true (.t 31),none⟩]
abbrev zz24_r9:List AI:=[
 ⟨some 32,.bin .add (.t 23) (.c (.int .i64 1)),none⟩,
 ⟨some 23,.mv false (.t 32),none⟩]
abbrev zz24_l0:ACode:=.seq (.reg false zz24_r6) (.seq (.cond (.t 24) (.skip) (.exit 0)) (.seq (.block 1 (.seq (.reg false zz24_r7) (.reg false zz24_r8))) (.reg false zz24_r9)))
abbrev zz24_r10:List AI:=[
 ⟨some 33,.mv false (.t 6),none⟩,
 ⟨some 2,.mv true (.t 33),none⟩,
 ⟨some 3,.mv true (.c (.int .i64 0)),none⟩]
abbrev zz24_c:ACode:=.seq (.reg false zz24_r0) (.seq (.seq (.reg false zz24_r1) (.seq (.reg false zz24_r2) (.cond (.t 18) (.seq (.reg false zz24_r3) (.ret)) (.skip)))) (.seq (.reg false zz24_r4) (.seq (.seq (.reg false zz24_r5) (.block 0 (.loop zz24_l0))) (.seq (.reg false zz24_r10) (.ret)))))
def zz24_F:AFunc:=⟨34,[.tmp 2,.tmp 3],zz24_c⟩
theorem zz24_cp:zi Try.prog [] f_zz24=some zz24_F:=by kernel_rfl
abbrev zz4_r0:List AI:=[
 ⟨some 5,.mv false (.t 0),none⟩,
 ⟨some 6,.len false (.t 5),none⟩,
 ⟨some 4,.mv true (.t 6),none⟩]
abbrev zz4_r1:List AI:=[
 ⟨some 7,.mv false (.t 0),none⟩,
 ⟨some 8,.mv false (.t 4),none⟩,
 ⟨some 9,.mv false (.t 4),none⟩,
 ⟨some 10,.conv .u64 (.t 9),none⟩,
 ⟨some 11,.call (.c (.fn f_zz49)) [(.t 10)] 0,none⟩,
 ⟨some 12,.mv false (.t 1),none⟩,
 ⟨some 13,.call (.c (.fn f_zz9)) [(.t 7),(.c (.int .i64 0)),(.t 8),(.t 11),(.t 12)] 0,none⟩]
abbrev zz4_c:ACode:=.seq (.reg false zz4_r0) (.reg false zz4_r1)
def zz4_F:AFunc:=⟨14,[],zz4_c⟩
theorem zz4_cp:zi Try.prog [] f_zz4=some zz4_F:=by kernel_rfl
-- loop 0: [0, 1, 2, 3, 4, 10, 11]
abbrev zz9_r0:List AI:=[
 ⟨some 10,.mv true (.c (.bool true)),none⟩]
abbrev zz9_r1:List AI:=[
 ⟨some 11,.mv true (.c (.bool true)),none⟩]
abbrev zz9_r2:List AI:=[
 ⟨some 21,.mv false (.t 2),none⟩,
 ⟨some 22,.mv false (.t 1),none⟩,
 ⟨some 23,.bin .sub (.t 21) (.t 22),none⟩,
 ⟨some 12,.mv true (.t 23),none⟩]
abbrev zz9_r3:List AI:=[
 ⟨some 24,.mv false (.t 12),none⟩,
 ⟨some 25,.bin .leq (.t 24) (.c (.int .i64 12)),none⟩]
abbrev zz9_r4:List AI:=[
 ⟨some 26,.mv false (.t 0),none⟩,
 ⟨some 27,.mv false (.t 1),none⟩,
 ⟨some 28,.mv false (.t 2),none⟩,
 ⟨some 29,.mv false (.t 4),none⟩,
 ⟨some 30,.call (.c (.fn f_zz3)) [(.t 26),(.t 27),(.t 28),(.t 29)] 0,none⟩]
abbrev zz9_r5:List AI:=[
 ⟨some 31,.mv false (.t 3),none⟩,
 ⟨some 32,.bin .eql (.t 31) (.c (.int .i64 0)),none⟩]
abbrev zz9_r6:List AI:=[
 ⟨some 33,.mv false (.t 0),none⟩,
 ⟨some 34,.mv false (.t 1),none⟩,
 ⟨some 35,.mv false (.t 2),none⟩,
 ⟨some 36,.mv false (.t 4),none⟩,
 ⟨some 37,.call (.c (.fn f_zz8)) [(.t 33),(.t 34),(.t 35),(.t 36)] 0,none⟩]
abbrev zz9_r7:List AI:=[
 ⟨some 38,.mv false (.t 10),none⟩,
 ⟨some 39,.not (.t 38),none⟩]
abbrev zz9_r8:List AI:=[
 ⟨some 40,.mv false (.t 0),none⟩,
 ⟨some 41,.mv false (.t 1),none⟩,
 ⟨some 42,.mv false (.t 2),none⟩,
 ⟨some 43,.mv false (.t 4),none⟩,
 ⟨some 44,.call (.c (.fn f_zz2)) [(.t 40),(.t 41),(.t 42),(.t 43)] 0,none⟩]
abbrev zz9_r9:List AI:=[
 ⟨some 45,.mv false (.t 3),none⟩,
 ⟨some 46,.bin .sub (.t 45) (.c (.int .i64 1)),none⟩,
 ⟨some 3,.mv true (.t 46),none⟩]
abbrev zz9_r10:List AI:=[
 ⟨some 48,.mv false (.t 0),none⟩,
 ⟨some 49,.mv false (.t 1),none⟩,
 ⟨some 50,.mv false (.t 2),none⟩,
 ⟨some 51,.mv false (.t 4),none⟩,
 ⟨some 52,.call (.c (.fn f_zz6)) [(.t 48),(.t 49),(.t 50),(.t 51)] 0,none⟩,
 ⟨some 47,.mv false (.t 52),none⟩,
 ⟨some 53,.ext (.t 47) 0,none⟩,
 ⟨some 54,.ext (.t 47) 1,none⟩,
 ⟨some 13,.mv true (.t 53),none⟩,
 ⟨some 14,.mv true (.t 54),none⟩]
abbrev zz9_r11:List AI:=[
 ⟨some 55,.mv false (.t 14),none⟩,
 ⟨some 56,.bin .eql (.t 55) (.c (.int .i64 2)),none⟩]
abbrev zz9_r12:List AI:=[
 ⟨some 57,.mv false (.t 0),none⟩,
 ⟨some 58,.mv false (.t 1),none⟩,
 ⟨some 59,.mv false (.t 2),none⟩,
 ⟨some 60,.mv false (.t 4),none⟩,
 ⟨some 61,.call (.c (.fn f_zz5)) [(.t 57),(.t 58),(.t 59),(.t 60)] 0,none⟩]
abbrev zz9_r13:List AI:=[
 ⟨some 62,.mv false (.t 2),none⟩,
 ⟨some 63,.bin .sub (.t 62) (.c (.int .i64 1)),none⟩,
 ⟨some 64,.mv false (.t 13),none⟩,
 ⟨some 65,.mv false (.t 1),none⟩,
 ⟨some 66,.bin .sub (.t 64) (.t 65),none⟩,
 ⟨some 67,.bin .sub (.t 63) (.t 66),none⟩,
 ⟨some 13,.mv true (.t 67),none⟩]
abbrev zz9_r14:List AI:=[
 ⟨some 14,.mv true (.c (.int .i64 1)),none⟩]
abbrev zz9_b0:ACode:=.seq (.reg false zz9_r12) (.seq (.reg false zz9_r13) (.reg false zz9_r14))
abbrev zz9_r15:List AI:=[
 ⟨some 68,.mv false (.t 10),none⟩,
 ⟨some 69,.mv false (.t 68),none⟩,
 ⟨some 70,.mv false (.t 11),some (69,true)⟩,
 ⟨some 71,.pick (.t 69) (.t 70) (.c (.bool false)),none⟩,
 ⟨some 72,.mv false (.t 71),none⟩,
 ⟨some 73,.mv false (.t 14),some (72,true)⟩,
 ⟨some 74,.bin .eql (.t 73) (.c (.int .i64 1)),some (72,true)⟩,
 ⟨some 75,.pick (.t 72) (.t 74) (.c (.bool false)),none⟩]
abbrev zz9_r16:List AI:=[
 ⟨some 76,.mv false (.t 0),none⟩,
 ⟨some 77,.mv false (.t 1),none⟩,
 ⟨some 78,.mv false (.t 2),none⟩,
 ⟨some 79,.mv false (.t 4),none⟩,
 ⟨some 80,.call (.c (.fn f_zz0)) [(.t 76),(.t 77),(.t 78),(.t 79)] 0,none⟩]
abbrev zz9_b1:ACode:=.seq (.reg false zz9_r16) (.cond (.t 80) (.ret) (.skip))
abbrev zz9_r17:List AI:=[
 ⟨some 81,.mv false (.t 1),none⟩,
 ⟨some 82,.bin .gtr (.t 81) (.c (.int .i64 0)),none⟩,
 ⟨some 83,.mv false (.t 82),none⟩,
 ⟨some 84,.mv false (.t 4),some (83,true)⟩,
 ⟨some 85,.mv false (.t 0),some (83,true)⟩,
 ⟨some 86,.mv false (.t 1),some (83,true)⟩,
 ⟨some 87,.bin .sub (.t 86) (.c (.int .i64 1)),some (83,true)⟩,
 ⟨some 88,.iaddr 9 (.t 85) (.t 87),some (83,true)⟩,
 ⟨some 89,.load true 9 (.t 88) .foreign,some (83,true)⟩,
 ⟨some 90,.mv false (.t 0),some (83,true)⟩,
 ⟨some 91,.mv false (.t 13),some (83,true)⟩,
 ⟨some 92,.iaddr 9 (.t 90) (.t 91),some (83,true)⟩,
 ⟨some 93,.load true 9 (.t 92) .foreign,some (83,true)⟩,
 ⟨some 94,.call (.t 84) [(.t 89),(.t 93)] 3,some (83,true)⟩,
 ⟨some 95,.bin .lss (.t 94) (.c (.int .i64 0)),some (83,true)⟩,
 ⟨some 96,.not (.t 95),some (83,true)⟩,
 ⟨some 97,.pick (.t 83) (.t 96) (.c (.bool false)),none⟩]
abbrev zz9_r18:List AI:=[
 ⟨some 98,.mv false (.t 0),none⟩,
 ⟨some 99,.mv false (.t 1),none⟩,
 ⟨some 100,.mv false (.t 2),none⟩,
 ⟨some 101,.mv false (.t 13),none⟩,
 ⟨some 102,.mv false (.t 4),none⟩,
 ⟨some 103,.call (.c (.fn f_zz1)) [(.t 98),(.t 99),(.t 100),(.t 101),(.t 102)] 0,none⟩,
 ⟨some 15,.mv true (.t 103),none⟩]
abbrev zz9_r19:List AI:=[
 ⟨some 104,.mv false (.t 15),none⟩,
 ⟨some 1,.mv true (.t 104),none⟩]
abbrev zz9_b2:ACode:=.seq (.reg false zz9_r18) (.seq (.reg false zz9_r19) (.exit 1))
abbrev zz9_r20:List AI:=[
 ⟨some 106,.mv false (.t 0),none⟩,
 ⟨some 107,.mv false (.t 1),none⟩,
 ⟨some 108,.mv false (.t 2),none⟩,
 ⟨some 109,.mv false (.t 13),none⟩,
 ⟨some 110,.mv false (.t 4),none⟩,
 ⟨some 111,.call (.c (.fn f_zz7)) [(.t 106),(.t 107),(.t 108),(.t 109),(.t 110)] 0,none⟩,
 ⟨some 105,.mv false (.t 111),none⟩,
 ⟨some 112,.ext (.t 105) 0,none⟩,
 ⟨some 113,.ext (.t 105) 1,none⟩,
 ⟨some 16,.mv true (.t 112),none⟩,
 ⟨some 17,.mv true (.t 113),none⟩]
abbrev zz9_r21:List AI:=[
 ⟨some 114,.mv false (.t 17),none⟩,
 ⟨some 11,.mv true (.t 114),none⟩]
abbrev zz9_r22:List AI:=[
 ⟨some 115,.mv false (.t 16),none⟩,
 ⟨some 116,.mv false (.t 1),none⟩,
 ⟨some 117,.bin .sub (.t 115) (.t 116),none⟩,
 ⟨some 118,.mv false (.t 2),none⟩,
 ⟨some 119,.mv false (.t 16),none⟩,
 ⟨some 120,.bin .sub (.t 118) (.t 119),none⟩,
 ⟨some 18,.mv true (.t 117),none⟩,
 ⟨some 19,.mv true (.t 120),none⟩]
abbrev zz9_r23:List AI:=[
 ⟨some 121,.mv false (.t 12),none⟩,
 ⟨some 122,.bin .quo (.t 121) (.c (.int .i64 8)),none⟩,
 ⟨some 20,.mv true (.t 122),none⟩]
abbrev zz9_r24:List AI:=[
 ⟨some 123,.mv false (.t 18),none⟩,
 ⟨some 124,.mv false (.t 19),none⟩,
 ⟨some 125,.bin .lss (.t 123) (.t 124),none⟩]
abbrev zz9_r25:List AI:=[
 ⟨some 126,.mv false (.t 18),none⟩,
 ⟨some 127,.mv false (.t 20),none⟩,
 ⟨some 128,.bin .geq (.t 126) (.t 127),none⟩,
 ⟨some 10,.mv true (.t 128),none⟩]
abbrev zz9_r26:List AI:=[
 ⟨some 129,.mv false (.t 0),none⟩,
 ⟨some 130,.mv false (.t 1),none⟩,
 ⟨some 131,.mv false (.t 16),none⟩,
 ⟨some 132,.mv false (.t 3),none⟩,
 ⟨some 133,.mv false (.t 4),none⟩,
 ⟨some 134,.call (.c (.fn f_zz9)) [(.t 129),(.t 130),(.t 131),(.t 132),(.t 133)] 0,none⟩]
abbrev zz9_r27:List AI:=[
 ⟨some 135,.mv false (.t 16),none⟩,
 ⟨some 136,.bin .add (.t 135) (.c (.int .i64 1)),none⟩,
 ⟨some 1,.mv true (.t 136),none⟩]
abbrev zz9_b3:ACode:=.seq (.reg false zz9_r25) (.seq (.reg false zz9_r26) (.reg false zz9_r27))
abbrev zz9_r28:List AI:=[
 ⟨some 137,.mv false (.t 19),none⟩,
 ⟨some 138,.mv false (.t 20),none⟩,
 ⟨some 139,.bin .geq (.t 137) (.t 138),none⟩,
 ⟨some 10,.mv true (.t 139),none⟩]
abbrev zz9_r29:List AI:=[
 ⟨some 140,.mv false (.t 0),none⟩,
 ⟨some 141,.mv false (.t 16),none⟩,
 ⟨some 142,.bin .add (.t 141) (.c (.int .i64 1)),none⟩,
 ⟨some 143,.mv false (.t 2),none⟩,
 ⟨some 144,.mv false (.t 3),none⟩,
 ⟨some 145,.mv false (.t 4),none⟩,
 ⟨some 146,.call (.c (.fn f_zz9)) [(.t 140),(.t 142),(.t 143),(.t 144),(.t 145)] 0,none⟩]
abbrev zz9_r30:List AI:=[
 ⟨some 147,.mv false (.t 16),none⟩,
 ⟨some 2,.mv true (.t 147),none⟩]
abbrev zz9_b4:ACode:=.seq (.reg false zz9_r28) (.seq (.reg false zz9_r29) (.reg false zz9_r30))
abbrev zz9_l0:ACode:=.block 1 (.seq (.reg false zz9_r2) (.seq (.seq (.reg false zz9_r3) (.cond (.t 25) (.seq (.reg false zz9_r4) (.ret)) (.skip))) (.seq (.seq (.reg false zz9_r5) (.cond (.t 32) (.seq (.reg false zz9_r6) (.ret)) (.skip))) (.seq (.seq (.reg false zz9_r7) (.cond (.t 39) (.seq (.reg false zz9_r8) (.reg false zz9_r9)) (.skip))) (.seq (.reg false zz9_r10) (.seq (.seq (.reg false zz9_r11) (.cond (.t 56) (zz9_b0) (.skip))) (.seq (.seq (.reg false zz9_r15) (.cond (.t 75) (zz9_b1) (.skip))) (.seq (.seq (.reg true zz9_r17) (.cond (.t 97) (zz9_b2) (.skip))) (.seq (.reg false zz9_r20) (.seq (.reg false zz9_r21) (.seq (.reg false zz9_r22) (.seq (.reg false zz9_r23) (.seq (.reg false zz9_r24) (.cond (.t 125) (zz9_b3) (zz9_b4)))))))))))))))
abbrev zz9_c:ACode:=.seq (.reg false zz9_r0) (.seq (.reg false zz9_r1) (.block 0 (.loop zz9_l0)))
def zz9_F:AFunc:=⟨148,[],zz9_c⟩
theorem zz9_cp:zi Try.prog [] f_zz9=some zz9_F:=by kernel_rfl
-- loop 0: [0, 1, 2, 3, 8, 9]
-- loop 1: [0, 1, 2, 3, 8]
abbrev zz3_r0:List AI:=[
 ⟨some 10,.mv false (.t 1),none⟩,
 ⟨some 11,.bin .add (.t 10) (.c (.int .i64 1)),none⟩,
 ⟨some 8,.mv true (.t 11),none⟩]
abbrev zz3_r1:List AI:=[
 ⟨some 12,.mv false (.t 8),none⟩,
 ⟨some 13,.mv false (.t 2),none⟩,
 ⟨some 14,.bin .lss (.t 12) (.t 13),none⟩]
abbrev zz3_r2:List AI:=[
 ⟨some 17,.mv false (.t 8),none⟩,
 ⟨some 9,.mv true (.t 17),none⟩]
abbrev zz3_r3:List AI:=[
 ⟨some 18,.mv false (.t 9),none⟩,
 ⟨some 19,.mv false (.t 1),none⟩,
 ⟨some 20,.bin .gtr (.t 18) (.t 19),none⟩,
 ⟨some 21,.mv false (.t 20),none⟩,
 ⟨some 22,.mv false (.t 3),some (21,true)⟩,
 ⟨some 23,.mv false (.t 0),some (21,true)⟩,
 ⟨some 24,.mv false (.t 9),some (21,true)⟩,
 ⟨some 25,.iaddr 9 (.t 23) (.t 24),some (21,true)⟩,
 ⟨some 26,.load true 9 (.t 25) .foreign,some (21,true)⟩,
 ⟨some 27,.mv false (.t 0),some (21,true)⟩,
 ⟨some 28,.mv false (.t 9),some (21,true)⟩,
 ⟨some 29,.bin .sub (.t 28) (.c (.int .i64 1)),some (21,true)⟩,
 ⟨some 30,.iaddr 9 (.t 27) (.t 29),some (21,true)⟩,
 ⟨some 31,.load true 9 (.t 30) .foreign,some (21,true)⟩,
 ⟨some 32,.call (.t 22) [(.t 26),(.t 31)] 3,some (21,true)⟩,
 ⟨some 33,.bin .lss (.t 32) (.c (.int .i64 0)),some (21,true)⟩,
 ⟨some 34,.pick (.t 21) (.t 33) (.c (.bool false)),none⟩]
abbrev zz3_r4:List AI:=[
 ⟨some 37,.mv false (.t 0),none⟩,
 ⟨some 38,.mv false (.t 9),none⟩,
 ⟨some 39,.mv false (.t 0),none⟩,
 ⟨some 40,.mv false (.t 9),none⟩,
 ⟨some 41,.bin .sub (.t 40) (.c (.int .i64 1)),none⟩,
 ⟨some 42,.mv false (.t 0),none⟩,
 ⟨some 43,.mv false (.t 9),none⟩,
 ⟨some 44,.bin .sub (.t 43) (.c (.int .i64 1)),none⟩,
 ⟨some 45,.iaddr 9 (.t 42) (.t 44),none⟩,
 ⟨some 46,.load true 9 (.t 45) .foreign,none⟩,
 ⟨some 47,.mv false (.t 0),none⟩,
 ⟨some 48,.mv false (.t 9),none⟩,
 ⟨some 49,.iaddr 9 (.t 47) (.t 48),none⟩,
 ⟨some 50,.load true 9 (.t 49) .foreign,none⟩,
 ⟨some 51,.iaddr 9 (.t 37) (.t 38),none⟩,
 ⟨none,.store 9 (.t 51) (.t 46) .gp,none⟩,
 ⟨some 52,.iaddr 9 (.t 39) (.t 41),none⟩,
 ⟨none,.store 9 (.t 52) (.t 50) .gp,none⟩]
abbrev zz3_r5:List AI:=[
 ⟨some 35,.mv false (.t 9),none⟩,
 ⟨some 36,.bin .sub (.t 35) (.c (.int .i64 1)),none⟩,
 ⟨some 9,.mv true (.t 36),none⟩]
abbrev zz3_l0:ACode:=.seq (.seq (.reg true zz3_r3) (.cond (.t 34) (.skip) (.exit 2))) (.seq (.block 3 (.reg true zz3_r4)) (.reg false zz3_r5))
abbrev zz3_r6:List AI:=[
 ⟨some 15,.mv false (.t 8),none⟩,
 ⟨some 16,.bin .add (.t 15) (.c (.int .i64 1)),none⟩,
 ⟨some 8,.mv true (.t 16),none⟩]
abbrev zz3_l1:ACode:=.seq (.seq (.reg false zz3_r1) (.cond (.t 14) (.skip) (.exit 0))) (.seq (.block 1 (.seq (.reg false zz3_r2) (.block 2 (.loop zz3_l0)))) (.reg false zz3_r6))
abbrev zz3_c:ACode:=.seq (.reg false zz3_r0) (.block 0 (.loop zz3_l1))
def zz3_F:AFunc:=⟨53,[],zz3_c⟩
theorem zz3_cp:zi Try.prog [] f_zz3=some zz3_F:=by kernel_rfl
abbrev zz49_r0:List AI:=[
 ⟨some 2,.mv true (.c (.int .i64 0)),none⟩]
abbrev zz49_r1:List AI:=[
 ⟨some 3,.mv false (.t 0),none⟩,
 ⟨some 4,.conv .u32 (.t 3),none⟩,
 ⟨some 5,.call (.c (.fn f_zz37)) [(.t 4)] 0,none⟩,
 ⟨some 2,.mv true (.t 5),none⟩]
abbrev zz49_r2:List AI:=[
 ⟨some 6,.mv false (.t 0),none⟩,
 ⟨some 7,.call (.c (.fn f_zz38)) [(.t 6)] 0,none⟩,
 ⟨some 2,.mv true (.t 7),none⟩]
abbrev zz49_c:ACode:=.seq (.reg false zz49_r0) (.seq (.cond (.c (.bool false)) (.seq (.reg false zz49_r1) (.ret)) (.skip)) (.seq (.reg false zz49_r2) (.ret)))
def zz49_F:AFunc:=⟨8,[.tmp 2],zz49_c⟩
theorem zz49_cp:zi Try.prog [] f_zz49=some zz49_F:=by kernel_rfl
abbrev zz38_r0:List AI:=[
 ⟨some 2,.mv true (.c (.int .i64 0)),none⟩]
abbrev zz38_r1:List AI:=[
 ⟨some 3,.mv false (.t 0),none⟩,
 ⟨some 4,.bin .geq (.t 3) (.c (.int .u64 4294967296)),none⟩]
abbrev zz38_r2:List AI:=[
 ⟨some 5,.mv false (.t 0),none⟩,
 ⟨some 6,.bin .shr (.t 5) (.c (.int .u64 32)),none⟩,
 ⟨some 0,.mv true (.t 6),none⟩]
abbrev zz38_r3:List AI:=[
 ⟨some 2,.mv true (.c (.int .i64 32)),none⟩]
abbrev zz38_r4:List AI:=[
 ⟨some 7,.mv false (.t 0),none⟩,
 ⟨some 8,.bin .geq (.t 7) (.c (.int .u64 65536)),none⟩]
abbrev zz38_r5:List AI:=[
 ⟨some 9,.mv false (.t 0),none⟩,
 ⟨some 10,.bin .shr (.t 9) (.c (.int .u64 16)),none⟩,
 ⟨some 0,.mv true (.t 10),none⟩]
abbrev zz38_r6:List AI:=[
 ⟨some 11,.mv false (.t 2),none⟩,
 ⟨some 12,.bin .add (.t 11) (.c (.int .i64 16)),none⟩,
 ⟨some 2,.mv true (.t 12),none⟩]
abbrev zz38_r7:List AI:=[
 ⟨some 13,.mv false (.t 0),none⟩,
 ⟨some 14,.bin .geq (.t 13) (.c (.int .u64 256)),none⟩]
abbrev zz38_r8:List AI:=[
 ⟨some 15,.mv false (.t 0),none⟩,
 ⟨some 16,.bin .shr (.t 15) (.c (.int .u64 8)),none⟩,
 ⟨some 0,.mv true (.t 16),none⟩]
abbrev zz38_r9:List AI:=[
 ⟨some 17,.mv false (.t 2),none⟩,
 ⟨some 18,.bin .add (.t 17) (.c (.int .i64 8)),none⟩,
 ⟨some 2,.mv true (.t 18),none⟩]
abbrev zz38_r10:List AI:=[
 ⟨some 19,.mv false (.t 2),none⟩,
 ⟨some 20,.mv false (.t 0),none⟩,
 ⟨some 21,.conv .u8 (.t 20),none⟩,
 ⟨some 22,.idxS (.c (.str [0,1,2,2,3,3,3,3,4,4,4,4,4,4,4,4,5,5,5,5,5,5,5,5,5,5,5,5,5,5,5,5,6,6,6,6,6,6,6,6,6,6,6,6,6,6,6,6,6,6,6,6,6,6,6,6,6,6,6,6,6,6,6,6,7,7,7,7,7,7,7,7,7,7,7,7,7,7,7,7,7,7,7,7,7,7,7,7,7,7,7,7,7,7,7,7,7,7,7,7,7,7,7,7,7,7,7,7,7,7,7,7,7,7,7,7,7,7,7,7,7,7,7,7,7,7,7,7,8,8,8,8,8,8,8,8,8,8,8,8,8,8,8,8,8,8,8,8,8,8,8,8,8,8,8,8,8,8,8,8,8,8,8,8,8,8,8,8,8,8,8,8,8,8,8,8,8,8,8,8,8,8,8,8,8,8,8,8,8,8,8,8,8,8,8,8,8,8,8,8,8,8,8,8,8,8,8,8,8,8,8,8,8,8,8,8,8,8,8,8,8,8,8,8,8,8,8,8,8,8,8,8,8,8,8,8,8,8,8,8,8,8,8,8,8,8,8,8,8,8,8,8,8,8,8,8])) (.t 21),none⟩,
 ⟨some 23,.conv .i64 (.t 22),none⟩,
 ⟨some 24,.bin .add (.t 19) (.t 23),none⟩,
 ⟨some 2,.mv true (.t 24),none⟩]
abbrev zz38_c:ACode:=.seq (.reg false zz38_r0) (.seq (.seq (.reg false zz38_r1) (.cond (.t 4) (.seq (.reg false zz38_r2) (.reg false zz38_r3)) (.skip))) (.seq (.seq (.reg false zz38_r4) (.cond (.t 8) (.seq (.reg false zz38_r5) (.reg false zz38_r6)) (.skip))) (.seq (.seq (.reg false zz38_r7) (.cond (.t 14) (.seq (.reg false zz38_r8) (.reg false zz38_r9)) (.skip))) (.seq (.reg false zz38_r10) (.ret)))))
def zz38_F:AFunc:=⟨25,[.tmp 2],zz38_c⟩
theorem zz38_cp:zi Try.prog [] f_zz38=some zz38_F:=by kernel_rfl
-- loop 0: [3, 4, 9, 12, 13, 45, 46, 47]
abbrev zz10_r0:List AI:=[
 ⟨some 4,.box 14 (.t 0),none⟩,
 ⟨some 8,.mv true (.c (.bool false)),none⟩]
abbrev zz10_r1:List AI:=[
 ⟨some 20,.call (.c (.fn f_zz17)) [(.c (.int .i64 14))] 0,none⟩,
 ⟨some 19,.mv false (.t 20),none⟩,
 ⟨some 21,.ext (.t 19) 0,none⟩,
 ⟨some 22,.ext (.t 19) 1,none⟩,
 ⟨some 23,.ext (.t 19) 2,none⟩,
 ⟨some 9,.mv true (.t 21),none⟩,
 ⟨some 10,.mv true (.t 22),none⟩,
 ⟨some 11,.mv true (.t 23),none⟩]
abbrev zz10_r2:List AI:=[
 ⟨some 24,.mv false (.t 11),none⟩,
 ⟨some 25,.not (.t 24),none⟩]
abbrev zz10_r3:List AI:=[
 ⟨some 8,.mv true (.c (.bool false)),none⟩]
abbrev zz10_r4:List AI:=[
 ⟨some 26,.faddr 0 (.t 4),none⟩,
 ⟨none,.store 1 (.t 26) (.c (.int .i64 1)) .any,none⟩]
abbrev zz10_r5:List AI:=[
 ⟨some 27,.load true 14 (.t 4) .any,none⟩,
 ⟨some 28,.call (.c (.fn f_zz18)) [(.t 27)] 0,none⟩,
 ⟨some 29,.not (.t 28),none⟩,
 ⟨some 30,.mv false (.t 29),none⟩,
 ⟨some 31,.mv false (.t 2),some (30,false)⟩,
 ⟨some 32,.len false (.t 31),some (30,false)⟩,
 ⟨some 33,.bin .gtr (.t 32) (.c (.int .i64 20)),some (30,false)⟩,
 ⟨some 34,.pick (.t 30) (.c (.bool true)) (.t 33),none⟩]
abbrev zz10_r6:List AI:=[
 ⟨some 35,.call (.c (.fn f_zz13)) [] 0,none⟩,
 ⟨some 8,.mv true (.t 35),none⟩]
abbrev zz10_r7:List AI:=[
 ⟨some 36,.mv false (.t 1),none⟩,
 ⟨some 37,.conv .i64 (.t 36),none⟩,
 ⟨some 12,.mv true (.t 37),none⟩]
abbrev zz10_r8:List AI:=[
 ⟨some 38,.mv false (.t 9),none⟩,
 ⟨some 39,.mv false (.t 12),none⟩,
 ⟨some 40,.load true 14 (.t 4) .any,none⟩,
 ⟨some 41,.call (.c (.fn f_zz47)) [(.t 38),(.t 39),(.t 40)] 0,none⟩,
 ⟨some 42,.field false 0 1 (.t 41),none⟩,
 ⟨some 43,.bin .neq (.t 42) (.c (.int .i64 0)),none⟩]
abbrev zz10_r9:List AI:=[
 ⟨some 44,.call (.c (.fn f_zz13)) [] 0,none⟩,
 ⟨some 8,.mv true (.t 44),none⟩]
abbrev zz10_r10:List AI:=[
 ⟨some 13,.mv true (.c (.bool false)),none⟩]
abbrev zz10_r11:List AI:=[
 ⟨some 45,.mv false (.t 2),none⟩,
 ⟨some 46,.len false (.t 45),none⟩,
 ⟨some 47,.mv false (.c (.int .i64 0)),none⟩]
abbrev zz10_r12:List AI:=[
 ⟨some 48,.bin .lss (.t 47) (.t 46),none⟩]
abbrev zz10_r13:List AI:=[
 ⟨some 49,.mv false (.t 47),none⟩,
 ⟨some 50,.iaddr 1 (.t 45) (.t 47),none⟩,
 ⟨some 51,.load false 1 (.t 50) .any,none⟩,
 ⟨some 14,.mv true (.t 49),none⟩,
 ⟨some 15,.mv true (.t 51),none⟩]
abbrev zz10_r14:List AI:=[
 ⟨some 52,.mv false (.t 12),none⟩,
 ⟨some 53,.mv false (.t 15),none⟩,
 ⟨some 54,.conv .i64 (.t 53),none⟩,
 ⟨some 55,.bin .add (.t 52) (.t 54),none⟩,
 ⟨some 56,.mn (.t 55) (.c (.int .i64 1000000)),none⟩,
 ⟨some 12,.mv true (.t 56),none⟩]
abbrev zz10_r15:List AI:=[
 ⟨some 57,.mv false (.t 13),none⟩,
 ⟨some 58,.not (.t 57),none⟩,
 ⟨some 59,.mv false (.t 58),none⟩,
 ⟨some 60,.mv false (.t 12),some (59,true)⟩,
 ⟨some 61,.faddr 6 (.t 4),some (59,true)⟩,
 ⟨some 62,.load false 1 (.t 61) .any,some (59,true)⟩,
 ⟨some 63,.bin .leq (.t 60) (.t 62),some (59,true)⟩,
 ⟨some 64,.pick (.t 59) (.t 63) (.c (.bool false)),none⟩,
 ⟨some 16,.mv true (.t 64),none⟩]
abbrev zz10_r16:List AI:=[
 ⟨some 65,.mv false (.t 14),none⟩,
 ⟨some 66,.mv false (.t 3),none⟩,
 ⟨some 67,.len false (.t 66),none⟩,
 ⟨some 68,.bin .lss (.t 65) (.t 67),none⟩,
 ⟨some 69,.mv false (.t 68),none⟩,
 ⟨some 70,.mv false (.t 3),some (69,true)⟩,
 ⟨some 71,.mv false (.t 14),some (69,true)⟩,
 ⟨some 72,.iaddr 1 (.t 70) (.t 71),some (69,true)⟩,
 ⟨some 73,.load false 1 (.t 72) .any,some (69,true)⟩,
 ⟨some 74,.bin .rem (.t 73) (.c (.int .u8 3)),some (69,true)⟩,
 ⟨some 75,.bin .eql (.t 74) (.c (.int .u8 0)),some (69,true)⟩,
 ⟨some 76,.pick (.t 69) (.t 75) (.c (.bool false)),none⟩]
abbrev zz10_r17:List AI:=[
 ⟨some 77,.mv false (.t 9),none⟩,
 ⟨some 78,.mv false (.t 12),none⟩,
 ⟨some 79,.faddr 1 (.t 4),none⟩,
 ⟨some 80,.load true 4 (.t 79) .any,none⟩,
 ⟨some 81,.build (zr 8 (.int .i64 0)++[(.str []),(.int .i64 0),(.int .i64 0),(.int .i64 0),.nilS,.nilS]) [(0,1,(.c (.int .i64 3))),(1,4,(.t 80))],none⟩,
 ⟨some 82,.call (.c (.fn f_zz47)) [(.t 77),(.t 78),(.t 81)] 0,none⟩,
 ⟨some 83,.field false 0 1 (.t 82),none⟩,
 ⟨some 17,.mv true (.t 83),none⟩]
abbrev zz10_r18:List AI:=[
 ⟨some 84,.mv false (.t 16),none⟩,
 ⟨some 85,.not (.t 84),none⟩,
 ⟨some 86,.mv false (.t 85),none⟩,
 ⟨some 87,.mv false (.t 17),some (86,true)⟩,
 ⟨some 88,.bin .neq (.t 87) (.c (.int .i64 8)),some (86,true)⟩,
 ⟨some 89,.pick (.t 86) (.t 88) (.c (.bool false)),none⟩,
 ⟨some 90,.mv false (.t 89),none⟩,
 ⟨some 91,.mv false (.t 16),some (90,false)⟩,
 ⟨some 92,.mv false (.t 91),some (90,false)⟩,
 ⟨some 93,.mv false (.t 17),some (92,true)⟩,
 ⟨some 94,.bin .eql (.t 93) (.c (.int .i64 0)),some (92,true)⟩,
 ⟨some 95,.mv false (.t 12),some (92,true)⟩,
 ⟨some 96,.faddr 5 (.t 4),some (92,true)⟩,
 ⟨some 97,.load false 1 (.t 96) .any,some (92,true)⟩,
 ⟨some 98,.bin .gtr (.t 95) (.t 97),some (92,true)⟩,
 ⟨some 99,.eqb true (.t 94) (.t 98),some (92,true)⟩,
 ⟨some 100,.pick (.t 92) (.t 99) (.c (.bool false)),some (90,false)⟩,
 ⟨some 101,.pick (.t 90) (.c (.bool true)) (.t 100),none⟩,
 ⟨some 102,.mv false (.t 101),none⟩,
 ⟨some 103,.mv false (.t 16),some (102,false)⟩,
 ⟨some 104,.mv false (.t 103),some (102,false)⟩,
 ⟨some 105,.mv false (.t 17),some (104,true)⟩,
 ⟨some 106,.bin .neq (.t 105) (.c (.int .i64 0)),some (104,true)⟩,
 ⟨some 107,.pick (.t 104) (.t 106) (.c (.bool false)),some (102,false)⟩,
 ⟨some 108,.mv false (.t 107),some (102,false)⟩,
 ⟨some 109,.mv false (.t 17),some (108,true)⟩,
 ⟨some 110,.bin .neq (.t 109) (.c (.int .i64 19)),some (108,true)⟩,
 ⟨some 111,.pick (.t 108) (.t 110) (.c (.bool false)),some (102,false)⟩,
 ⟨some 112,.pick (.t 102) (.c (.bool true)) (.t 111),none⟩]
abbrev zz10_r19:List AI:=[
 ⟨some 8,.mv true (.c (.bool false)),none⟩]
abbrev zz10_r20:List AI:=[
 ⟨some 113,.mv false (.t 13),none⟩,
 ⟨some 114,.mv false (.t 113),none⟩,
 ⟨some 115,.mv false (.t 17),some (114,false)⟩,
 ⟨some 116,.bin .eql (.t 115) (.c (.int .i64 0)),some (114,false)⟩,
 ⟨some 117,.pick (.t 114) (.c (.bool true)) (.t 116),none⟩,
 ⟨some 13,.mv true (.t 117),none⟩]
abbrev zz10_b0:ACode:=.seq (.reg false zz10_r17) (.seq (.seq (.reg false zz10_r18) (.cond (.t 112) (.seq (.reg false zz10_r19) (.ret)) (.skip))) (.seq (.reg false zz10_r20) (.exit 1)))
abbrev zz10_r21:List AI:=[
 ⟨some 118,.mv false (.t 9),none⟩,
 ⟨some 119,.mv false (.t 12),none⟩,
 ⟨some 120,.faddr 1 (.t 4),none⟩,
 ⟨some 121,.load true 4 (.t 120) .any,none⟩,
 ⟨some 122,.faddr 8 (.t 4),none⟩,
 ⟨some 123,.load false 1 (.t 122) .any,none⟩,
 ⟨some 124,.len true (.t 123),none⟩,
 ⟨some 125,.build (zr 8 (.int .i64 0)++[(.str []),(.int .i64 0),(.int .i64 0),(.int .i64 0),.nilS,.nilS]) [(0,1,(.c (.int .i64 2))),(1,4,(.t 121)),(10,1,(.t 124))],none⟩,
 ⟨some 126,.call (.c (.fn f_zz47)) [(.t 118),(.t 119),(.t 125)] 0,none⟩,
 ⟨some 18,.alloc [(.int .i64 0),(.str []),.nilS,(.int .i64 0)],none⟩,
 ⟨none,.store 4 (.t 18) (.t 126) .any,none⟩]
abbrev zz10_r22:List AI:=[
 ⟨some 127,.mv false (.t 16),none⟩,
 ⟨some 128,.mv false (.t 127),none⟩,
 ⟨some 129,.faddr 0 (.t 18),some (128,true)⟩,
 ⟨some 130,.load false 1 (.t 129) .any,some (128,true)⟩,
 ⟨some 131,.bin .neq (.t 130) (.c (.int .i64 0)),some (128,true)⟩,
 ⟨some 132,.mv false (.t 131),some (128,true)⟩,
 ⟨some 133,.faddr 1 (.t 18),some (132,false)⟩,
 ⟨some 134,.load false 1 (.t 133) .any,some (132,false)⟩,
 ⟨some 135,.faddr 8 (.t 4),some (132,false)⟩,
 ⟨some 136,.load false 1 (.t 135) .any,some (132,false)⟩,
 ⟨some 137,.bin .neq (.t 134) (.t 136),some (132,false)⟩,
 ⟨some 138,.pick (.t 132) (.c (.bool true)) (.t 137),some (128,true)⟩,
 ⟨some 139,.pick (.t 128) (.t 138) (.c (.bool false)),none⟩,
 ⟨some 140,.mv false (.t 139),none⟩,
 ⟨some 141,.mv false (.t 16),some (140,false)⟩,
 ⟨some 142,.not (.t 141),some (140,false)⟩,
 ⟨some 143,.mv false (.t 142),some (140,false)⟩,
 ⟨some 144,.faddr 0 (.t 18),some (143,true)⟩,
 ⟨some 145,.load false 1 (.t 144) .any,some (143,true)⟩,
 ⟨some 146,.bin .neq (.t 145) (.c (.int .i64 8)),some (143,true)⟩,
 ⟨some 147,.pick (.t 143) (.t 146) (.c (.bool false)),some (140,false)⟩,
 ⟨some 148,.pick (.t 140) (.c (.bool true)) (.t 147),none⟩]
abbrev zz10_r23:List AI:=[
 ⟨some 8,.mv true (.c (.bool false)),none⟩]
abbrev zz10_r24:List AI:=[
 ⟨some 149,.bin .add (.t 47) (.c (.int .i64 1)),none⟩,
 ⟨some 47,.mv false (.t 149),none⟩]
abbrev zz10_l0:ACode:=.seq (.reg false zz10_r12) (.seq (.cond (.t 48) (.skip) (.exit 0)) (.seq (.block 1 (.seq (.reg false zz10_r13) (.seq (.reg false zz10_r14) (.seq (.reg false zz10_r15) (.seq (.seq (.reg false zz10_r16) (.cond (.t 76) (zz10_b0) (.skip))) (.seq (.reg false zz10_r21) (.seq (.reg false zz10_r22) (.cond (.t 148) (.seq (.reg false zz10_r23) (.ret)) (.skip))))))))) (.reg false zz10_r24)))
abbrev zz10_r25:List AI:=[
 ⟨some 150,.call (.c (.fn f_zz13)) [] 0,none⟩,
 ⟨some 8,.mv true (.t 150),none⟩]
abbrev zz10_c:ACode:=.seq (.reg false zz10_r0) (.seq (.reg false zz10_r1) (.seq (.seq (.reg false zz10_r2) (.cond (.t 25) (.seq (.reg false zz10_r3) (.ret)) (.skip))) (.seq (.reg false zz10_r4) (.seq (.seq (.reg false zz10_r5) (.cond (.t 34) (.seq (.reg false zz10_r6) (.ret)) (.skip))) (.seq (.reg false zz10_r7) (.seq (.seq (.reg false zz10_r8) (.cond (.t 43) (.seq (.reg false zz10_r9) (.ret)) (.skip))) (.seq (.reg false zz10_r10) (.seq (.seq (.reg false zz10_r11) (.block 0 (.loop zz10_l0))) (.seq (.reg false zz10_r25) (.ret))))))))))
def zz10_F:AFunc:=⟨151,[.tmp 8],zz10_c⟩
theorem zz10_cp:zi Try.prog [] f_zz10=some zz10_F:=by kernel_rfl
abbrev zz17_r0:List AI:=[
 ⟨some 2,.mv true (.c .nilP),none⟩,
 ⟨some 3,.mv true (.c .nilP),none⟩,
 ⟨some 4,.mv true (.c (.bool false)),none⟩]
abbrev zz17_r1:List AI:=[
 ⟨some 8,.mv false (.t 0),none⟩,
 ⟨some 9,.bin .mul (.c (.int .i64 2)) (.t 8),none⟩,
 ⟨some 10,.call (.c (.fn f_zz62)) [(.t 9)] 0,none⟩,
 ⟨some 5,.mv true (.t 10),none⟩]
abbrev zz17_r2:List AI:=[
 ⟨some 11,.mv false (.t 5),none⟩,
 ⟨some 12,.gd (.pnil 0 false) [(.t 11)],none⟩,
 ⟨some 13,.mv false (.t 12),none⟩,
 ⟨some 14,.mv false (.t 5),some (13,false)⟩,
 ⟨some 15,.mv false (.t 0),some (13,false)⟩,
 ⟨some 16,.call (.c (.fn f_zz51)) [(.t 14),(.c (.int .i64 0)),(.t 15)] 0,some (13,false)⟩,
 ⟨some 17,.bin .neq (.t 16) (.c (.int .i64 0)),some (13,false)⟩,
 ⟨some 18,.pick (.t 13) (.c (.bool true)) (.t 17),none⟩]
abbrev zz17_r3:List AI:=[
 ⟨some 19,.mv false (.t 5),none⟩,
 ⟨some 2,.mv true (.c .nilP),none⟩,
 ⟨some 3,.mv true (.t 19),none⟩,
 ⟨some 4,.mv true (.c (.bool false)),none⟩]
abbrev zz17_r4:List AI:=[
 ⟨some 21,.mv false (.t 5),none⟩,
 ⟨some 22,.mv false (.t 0),none⟩,
 ⟨some 23,.call (.c (.fn f_zz58)) [(.t 21),(.c (.int .i64 0)),(.t 22)] 0,none⟩,
 ⟨some 20,.mv false (.t 23),none⟩,
 ⟨some 24,.ext (.t 20) 0,none⟩,
 ⟨some 25,.ext (.t 20) 1,none⟩,
 ⟨some 6,.mv true (.t 24),none⟩,
 ⟨some 7,.mv true (.t 25),none⟩]
abbrev zz17_r5:List AI:=[
 ⟨some 26,.mv false (.t 6),none⟩,
 ⟨some 27,.mv false (.t 5),none⟩,
 ⟨some 28,.mv false (.t 6),none⟩,
 ⟨some 29,.gd (.pnil 0 true) [(.t 28)],none⟩,
 ⟨some 30,.mv false (.t 29),none⟩,
 ⟨some 31,.mv false (.t 7),some (30,true)⟩,
 ⟨some 32,.bin .eql (.t 31) (.c (.int .i64 0)),some (30,true)⟩,
 ⟨some 33,.pick (.t 30) (.t 32) (.c (.bool false)),none⟩,
 ⟨some 2,.mv true (.t 26),none⟩,
 ⟨some 3,.mv true (.t 27),none⟩,
 ⟨some 4,.mv true (.t 33),none⟩]
abbrev zz17_c:ACode:=.seq (.reg false zz17_r0) (.seq (.reg false zz17_r1) (.seq (.seq (.reg false zz17_r2) (.cond (.t 18) (.seq (.reg false zz17_r3) (.ret)) (.skip))) (.seq (.reg false zz17_r4) (.seq (.reg false zz17_r5) (.ret)))))
def zz17_F:AFunc:=⟨34,[.tmp 2,.tmp 3,.tmp 4],zz17_c⟩
theorem zz17_cp:zi Try.prog [] f_zz17=some zz17_F:=by kernel_rfl
abbrev zz18_r0:List AI:=[
 ⟨some 1,.box 14 (.t 0),none⟩,
 ⟨some 2,.mv true (.c (.bool false)),none⟩]
abbrev zz18_r1:List AI:=[
 ⟨some 3,.faddr 8 (.t 1),none⟩,
 ⟨some 4,.load false 1 (.t 3) .any,none⟩,
 ⟨some 5,.len true (.t 4),none⟩,
 ⟨some 6,.bin .gtr (.t 5) (.c (.int .i64 450)),none⟩,
 ⟨some 7,.mv false (.t 6),none⟩,
 ⟨some 8,.faddr 12 (.t 1),some (7,false)⟩,
 ⟨some 9,.load false 1 (.t 8) .any,some (7,false)⟩,
 ⟨some 10,.len false (.t 9),some (7,false)⟩,
 ⟨some 11,.bin .gtr (.t 10) (.c (.int .i64 210)),some (7,false)⟩,
 ⟨some 12,.pick (.t 7) (.c (.bool true)) (.t 11),none⟩,
 ⟨some 13,.mv false (.t 12),none⟩,
 ⟨some 14,.faddr 13 (.t 1),some (13,false)⟩,
 ⟨some 15,.load false 1 (.t 14) .any,some (13,false)⟩,
 ⟨some 16,.len false (.t 15),some (13,false)⟩,
 ⟨some 17,.bin .gtr (.t 16) (.c (.int .i64 210)),some (13,false)⟩,
 ⟨some 18,.pick (.t 13) (.c (.bool true)) (.t 17),none⟩]
abbrev zz18_r2:List AI:=[
 ⟨some 2,.mv true (.c (.bool false)),none⟩]
abbrev zz18_r3:List AI:=[
 ⟨some 2,.mv true (.c (.bool true)),none⟩]
abbrev zz18_c:ACode:=.seq (.reg false zz18_r0) (.seq (.seq (.reg false zz18_r1) (.cond (.t 18) (.seq (.reg false zz18_r2) (.ret)) (.skip))) (.seq (.reg false zz18_r3) (.ret)))
def zz18_F:AFunc:=⟨19,[.tmp 2],zz18_c⟩
theorem zz18_cp:zi Try.prog [] f_zz18=some zz18_F:=by kernel_rfl
abbrev zz13_r0:List AI:=[
 ⟨some 0,.mv true (.c (.bool false)),none⟩]
abbrev zz13_r1:List AI:=[
 ⟨some 30,.call (.c (.fn f_zz17)) [(.c (.int .i64 10))] 0,none⟩,
 ⟨some 29,.mv false (.t 30),none⟩,
 ⟨some 31,.ext (.t 29) 0,none⟩,
 ⟨some 32,.ext (.t 29) 1,none⟩,
 ⟨some 33,.ext (.t 29) 2,none⟩,
 ⟨some 1,.mv true (.t 31),none⟩,
 ⟨some 2,.mv true (.t 32),none⟩,
 ⟨some 3,.mv true (.t 33),none⟩]
abbrev zz13_r2:List AI:=[
 ⟨some 34,.mv false (.t 3),none⟩,
 ⟨some 35,.not (.t 34),none⟩]
abbrev zz13_r3:List AI:=[
 ⟨some 0,.mv true (.c (.bool false)),none⟩]
abbrev zz13_r4:List AI:=[
 ⟨some 36,.build [(.int .i64 0),(.int .i64 0),(.int .i64 0),(.int .i64 0)] [(0,1,(.c (.int .i64 1))),(1,1,(.c (.int .i64 7))),(2,1,(.c (.int .i64 3)))],none⟩,
 ⟨some 4,.alloc [(.int .i64 0),(.int .i64 0),(.int .i64 0),(.int .i64 0)],none⟩,
 ⟨none,.store 4 (.t 4) (.t 36) .any,none⟩]
abbrev zz13_r5:List AI:=[
 ⟨some 37,.build [(.int .i64 0),(.int .i64 0),(.int .i64 0),(.int .i64 0)] [(0,1,(.c (.int .i64 1))),(1,1,(.c (.int .i64 7))),(2,1,(.c (.int .i64 3))),(3,1,(.c (.int .i64 1)))],none⟩,
 ⟨some 5,.alloc [(.int .i64 0),(.int .i64 0),(.int .i64 0),(.int .i64 0)],none⟩,
 ⟨none,.store 4 (.t 5) (.t 37) .any,none⟩]
abbrev zz13_r6:List AI:=[
 ⟨some 38,.load true 4 (.t 4) (.site 4),none⟩,
 ⟨some 6,.alloc (zr 8 (.int .i64 0)++[(.str []),(.int .i64 0),(.int .i64 0),(.int .i64 0),.nilS,.nilS]),none⟩,
 ⟨some 39,.call (.c (.fn f_zz22)) [(.c (.int .i64 60))] 2,none⟩,
 ⟨some 40,.build (zr 8 (.int .i64 0)++[(.str []),(.int .i64 0),(.int .i64 0),(.int .i64 0),.nilS,.nilS]) [(0,1,(.c (.int .i64 1))),(1,4,(.t 38)),(5,1,(.c (.int .i64 10))),(6,1,(.c (.int .i64 20))),(8,1,(.t 39))],none⟩,
 ⟨none,.store 14 (.t 6) (.t 40) (.site 6),none⟩]
abbrev zz13_r7:List AI:=[
 ⟨some 41,.mv false (.t 1),none⟩,
 ⟨some 42,.load true 14 (.t 6) .any,none⟩,
 ⟨some 43,.call (.c (.fn f_zz47)) [(.t 41),(.c (.int .i64 5)),(.t 42)] 0,none⟩,
 ⟨some 7,.alloc [(.int .i64 0),(.str []),.nilS,(.int .i64 0)],none⟩,
 ⟨none,.store 4 (.t 7) (.t 43) .any,none⟩]
abbrev zz13_r8:List AI:=[
 ⟨some 44,.mv false (.t 1),none⟩,
 ⟨some 45,.load true 14 (.t 6) .any,none⟩,
 ⟨some 46,.call (.c (.fn f_zz47)) [(.t 44),(.c (.int .i64 6)),(.t 45)] 0,none⟩,
 ⟨some 8,.alloc [(.int .i64 0),(.str []),.nilS,(.int .i64 0)],none⟩,
 ⟨none,.store 4 (.t 8) (.t 46) .any,none⟩]
abbrev zz13_r9:List AI:=[
 ⟨some 47,.mv false (.t 1),none⟩,
 ⟨some 48,.load true 4 (.t 4) .any,none⟩,
 ⟨some 49,.build (zr 8 (.int .i64 0)++[(.str []),(.int .i64 0),(.int .i64 0),(.int .i64 0),.nilS,.nilS]) [(0,1,(.c (.int .i64 2))),(1,4,(.t 48)),(9,1,(.c (.int .i64 58))),(10,1,(.c (.int .i64 2)))],none⟩,
 ⟨some 50,.call (.c (.fn f_zz47)) [(.t 47),(.c (.int .i64 6)),(.t 49)] 0,none⟩,
 ⟨some 9,.alloc [(.int .i64 0),(.str []),.nilS,(.int .i64 0)],none⟩,
 ⟨none,.store 4 (.t 9) (.t 50) .any,none⟩]
abbrev zz13_r10:List AI:=[
 ⟨some 51,.mv false (.t 1),none⟩,
 ⟨some 52,.load true 4 (.t 4) .any,none⟩,
 ⟨some 53,.build (zr 8 (.int .i64 0)++[(.str []),(.int .i64 0),(.int .i64 0),(.int .i64 0),.nilS,.nilS]) [(0,1,(.c (.int .i64 2))),(1,4,(.t 52)),(9,1,(.c (.int .i64 59))),(10,1,(.c (.int .i64 2)))],none⟩,
 ⟨some 54,.call (.c (.fn f_zz47)) [(.t 51),(.c (.int .i64 6)),(.t 53)] 0,none⟩,
 ⟨some 10,.alloc [(.int .i64 0),(.str []),.nilS,(.int .i64 0)],none⟩,
 ⟨none,.store 4 (.t 10) (.t 54) .any,none⟩]
abbrev zz13_r11:List AI:=[
 ⟨some 55,.mv false (.t 1),none⟩,
 ⟨some 56,.load true 4 (.t 5) .any,none⟩,
 ⟨some 57,.build (zr 8 (.int .i64 0)++[(.str []),(.int .i64 0),(.int .i64 0),(.int .i64 0),.nilS,.nilS]) [(0,1,(.c (.int .i64 2))),(1,4,(.t 56))],none⟩,
 ⟨some 58,.call (.c (.fn f_zz47)) [(.t 55),(.c (.int .i64 6)),(.t 57)] 0,none⟩,
 ⟨some 11,.alloc [(.int .i64 0),(.str []),.nilS,(.int .i64 0)],none⟩,
 ⟨none,.store 4 (.t 11) (.t 58) .any,none⟩]
abbrev zz13_r12:List AI:=[
 ⟨some 59,.mv false (.t 1),none⟩,
 ⟨some 60,.load true 4 (.t 4) .any,none⟩,
 ⟨some 61,.build (zr 8 (.int .i64 0)++[(.str []),(.int .i64 0),(.int .i64 0),(.int .i64 0),.nilS,.nilS]) [(0,1,(.c (.int .i64 3))),(1,4,(.t 60))],none⟩,
 ⟨some 62,.call (.c (.fn f_zz47)) [(.t 59),(.c (.int .i64 10)),(.t 61)] 0,none⟩,
 ⟨some 12,.alloc [(.int .i64 0),(.str []),.nilS,(.int .i64 0)],none⟩,
 ⟨none,.store 4 (.t 12) (.t 62) .any,none⟩]
abbrev zz13_r13:List AI:=[
 ⟨some 63,.mv false (.t 1),none⟩,
 ⟨some 64,.load true 4 (.t 4) .any,none⟩,
 ⟨some 65,.build (zr 8 (.int .i64 0)++[(.str []),(.int .i64 0),(.int .i64 0),(.int .i64 0),.nilS,.nilS]) [(0,1,(.c (.int .i64 4))),(1,4,(.t 64)),(5,1,(.c (.int .i64 12))),(6,1,(.c (.int .i64 15)))],none⟩,
 ⟨some 66,.call (.c (.fn f_zz47)) [(.t 63),(.c (.int .i64 11)),(.t 65)] 0,none⟩,
 ⟨some 13,.alloc [(.int .i64 0),(.str []),.nilS,(.int .i64 0)],none⟩,
 ⟨none,.store 4 (.t 13) (.t 66) .any,none⟩]
abbrev zz13_r14:List AI:=[
 ⟨some 67,.mv false (.t 1),none⟩,
 ⟨some 68,.load true 4 (.t 4) .any,none⟩,
 ⟨some 69,.build (zr 8 (.int .i64 0)++[(.str []),(.int .i64 0),(.int .i64 0),(.int .i64 0),.nilS,.nilS]) [(0,1,(.c (.int .i64 4))),(1,4,(.t 68)),(5,1,(.c (.int .i64 15))),(6,1,(.c (.int .i64 30)))],none⟩,
 ⟨some 70,.call (.c (.fn f_zz47)) [(.t 67),(.c (.int .i64 11)),(.t 69)] 0,none⟩,
 ⟨some 14,.alloc [(.int .i64 0),(.str []),.nilS,(.int .i64 0)],none⟩,
 ⟨none,.store 4 (.t 14) (.t 70) .any,none⟩]
abbrev zz13_r15:List AI:=[
 ⟨some 71,.mv false (.t 1),none⟩,
 ⟨some 72,.load true 4 (.t 4) .any,none⟩,
 ⟨some 73,.build (zr 8 (.int .i64 0)++[(.str []),(.int .i64 0),(.int .i64 0),(.int .i64 0),.nilS,.nilS]) [(0,1,(.c (.int .i64 3))),(1,4,(.t 72))],none⟩,
 ⟨some 74,.call (.c (.fn f_zz47)) [(.t 71),(.c (.int .i64 15)),(.t 73)] 0,none⟩,
 ⟨some 15,.alloc [(.int .i64 0),(.str []),.nilS,(.int .i64 0)],none⟩,
 ⟨none,.store 4 (.t 15) (.t 74) .any,none⟩]
abbrev zz13_r16:List AI:=[
 ⟨some 75,.mv false (.t 1),none⟩,
 ⟨some 76,.load true 4 (.t 4) .any,none⟩,
 ⟨some 77,.build (zr 8 (.int .i64 0)++[(.str []),(.int .i64 0),(.int .i64 0),(.int .i64 0),.nilS,.nilS]) [(0,1,(.c (.int .i64 3))),(1,4,(.t 76))],none⟩,
 ⟨some 78,.call (.c (.fn f_zz47)) [(.t 75),(.c (.int .i64 16)),(.t 77)] 0,none⟩,
 ⟨some 16,.alloc [(.int .i64 0),(.str []),.nilS,(.int .i64 0)],none⟩,
 ⟨none,.store 4 (.t 16) (.t 78) .any,none⟩]
abbrev zz13_r17:List AI:=[
 ⟨some 79,.mv false (.t 1),none⟩,
 ⟨some 80,.load true 4 (.t 4) .any,none⟩,
 ⟨some 81,.build (zr 8 (.int .i64 0)++[(.str []),(.int .i64 0),(.int .i64 0),(.int .i64 0),.nilS,.nilS]) [(0,1,(.c (.int .i64 2))),(1,4,(.t 80))],none⟩,
 ⟨some 82,.call (.c (.fn f_zz47)) [(.t 79),(.c (.int .i64 16)),(.t 81)] 0,none⟩,
 ⟨some 17,.alloc [(.int .i64 0),(.str []),.nilS,(.int .i64 0)],none⟩,
 ⟨none,.store 4 (.t 17) (.t 82) .any,none⟩]
abbrev zz13_r18:List AI:=[
 ⟨some 83,.faddr 0 (.t 7),none⟩,
 ⟨some 84,.load false 1 (.t 83) .any,none⟩,
 ⟨some 85,.bin .eql (.t 84) (.c (.int .i64 0)),none⟩,
 ⟨some 86,.mv false (.t 85),none⟩,
 ⟨some 87,.faddr 0 (.t 8),some (86,true)⟩,
 ⟨some 88,.load false 1 (.t 87) .any,some (86,true)⟩,
 ⟨some 89,.bin .eql (.t 88) (.c (.int .i64 9)),some (86,true)⟩,
 ⟨some 90,.pick (.t 86) (.t 89) (.c (.bool false)),none⟩,
 ⟨some 91,.mv false (.t 90),none⟩,
 ⟨some 92,.faddr 0 (.t 9),some (91,true)⟩,
 ⟨some 93,.load false 1 (.t 92) .any,some (91,true)⟩,
 ⟨some 94,.bin .eql (.t 93) (.c (.int .i64 0)),some (91,true)⟩,
 ⟨some 95,.pick (.t 91) (.t 94) (.c (.bool false)),none⟩,
 ⟨some 96,.mv false (.t 95),none⟩,
 ⟨some 97,.faddr 1 (.t 9),some (96,true)⟩,
 ⟨some 98,.load false 1 (.t 97) .any,some (96,true)⟩,
 ⟨some 99,.bin .eql (.t 98) (.c (.str [120,120])),some (96,true)⟩,
 ⟨some 100,.pick (.t 96) (.t 99) (.c (.bool false)),none⟩,
 ⟨some 101,.mv false (.t 100),none⟩,
 ⟨some 102,.faddr 0 (.t 10),some (101,true)⟩,
 ⟨some 103,.load false 1 (.t 102) .any,some (101,true)⟩,
 ⟨some 104,.bin .eql (.t 103) (.c (.int .i64 3)),some (101,true)⟩,
 ⟨some 105,.pick (.t 101) (.t 104) (.c (.bool false)),none⟩,
 ⟨some 106,.mv false (.t 105),none⟩,
 ⟨some 107,.faddr 0 (.t 11),some (106,true)⟩,
 ⟨some 108,.load false 1 (.t 107) .any,some (106,true)⟩,
 ⟨some 109,.bin .eql (.t 108) (.c (.int .i64 8)),some (106,true)⟩,
 ⟨some 110,.pick (.t 106) (.t 109) (.c (.bool false)),none⟩,
 ⟨some 18,.mv true (.t 110),none⟩]
abbrev zz13_r19:List AI:=[
 ⟨some 111,.faddr 0 (.t 12),none⟩,
 ⟨some 112,.load false 1 (.t 111) .any,none⟩,
 ⟨some 113,.bin .eql (.t 112) (.c (.int .i64 19)),none⟩,
 ⟨some 114,.mv false (.t 113),none⟩,
 ⟨some 115,.faddr 0 (.t 13),some (114,true)⟩,
 ⟨some 116,.load false 1 (.t 115) .any,some (114,true)⟩,
 ⟨some 117,.bin .eql (.t 116) (.c (.int .i64 4)),some (114,true)⟩,
 ⟨some 118,.pick (.t 114) (.t 117) (.c (.bool false)),none⟩,
 ⟨some 119,.mv false (.t 118),none⟩,
 ⟨some 120,.faddr 0 (.t 14),some (119,true)⟩,
 ⟨some 121,.load false 1 (.t 120) .any,some (119,true)⟩,
 ⟨some 122,.bin .eql (.t 121) (.c (.int .i64 0)),some (119,true)⟩,
 ⟨some 123,.pick (.t 119) (.t 122) (.c (.bool false)),none⟩,
 ⟨some 124,.mv false (.t 123),none⟩,
 ⟨some 125,.faddr 0 (.t 15),some (124,true)⟩,
 ⟨some 126,.load false 1 (.t 125) .any,some (124,true)⟩,
 ⟨some 127,.bin .eql (.t 126) (.c (.int .i64 19)),some (124,true)⟩,
 ⟨some 128,.pick (.t 124) (.t 127) (.c (.bool false)),none⟩,
 ⟨some 129,.mv false (.t 128),none⟩,
 ⟨some 130,.faddr 0 (.t 16),some (129,true)⟩,
 ⟨some 131,.load false 1 (.t 130) .any,some (129,true)⟩,
 ⟨some 132,.bin .eql (.t 131) (.c (.int .i64 0)),some (129,true)⟩,
 ⟨some 133,.pick (.t 129) (.t 132) (.c (.bool false)),none⟩,
 ⟨some 134,.mv false (.t 133),none⟩,
 ⟨some 135,.faddr 0 (.t 17),some (134,true)⟩,
 ⟨some 136,.load false 1 (.t 135) .any,some (134,true)⟩,
 ⟨some 137,.bin .eql (.t 136) (.c (.int .i64 8)),some (134,true)⟩,
 ⟨some 138,.pick (.t 134) (.t 137) (.c (.bool false)),none⟩,
 ⟨some 19,.mv true (.t 138),none⟩]
abbrev zz13_r20:List AI:=[
 ⟨some 139,.build [(.int .i64 0),(.int .i64 0),(.int .i64 0),(.int .i64 0)] [(0,1,(.c (.int .i64 2))),(1,1,(.c (.int .i64 7)))],none⟩,
 ⟨some 20,.alloc [(.int .i64 0),(.int .i64 0),(.int .i64 0),(.int .i64 0)],none⟩,
 ⟨none,.store 4 (.t 20) (.t 139) .any,none⟩]
abbrev zz13_r21:List AI:=[
 ⟨some 140,.mv false (.t 1),none⟩,
 ⟨some 141,.load true 4 (.t 20) .any,none⟩,
 ⟨some 142,.build (zr 8 (.int .i64 0)++[(.str []),(.int .i64 0),(.int .i64 0),(.int .i64 0),.nilS,.nilS]) [(0,1,(.c (.int .i64 1))),(1,4,(.t 141)),(6,1,(.c (.int .i64 30))),(8,1,(.c (.str [115])))],none⟩,
 ⟨some 143,.call (.c (.fn f_zz47)) [(.t 140),(.c (.int .i64 20)),(.t 142)] 0,none⟩,
 ⟨some 21,.alloc [(.int .i64 0),(.str []),.nilS,(.int .i64 0)],none⟩,
 ⟨none,.store 4 (.t 21) (.t 143) .any,none⟩]
abbrev zz13_r22:List AI:=[
 ⟨some 145,.mv false (.t 1),none⟩,
 ⟨some 146,.call (.c (.fn f_zz25)) [(.t 145),(.c (.int .i64 31))] 0,none⟩,
 ⟨some 144,.mv false (.t 146),none⟩,
 ⟨some 147,.ext (.t 144) 0,none⟩,
 ⟨some 148,.ext (.t 144) 1,none⟩,
 ⟨some 22,.mv true (.t 147),none⟩,
 ⟨some 23,.mv true (.t 148),none⟩]
abbrev zz13_r23:List AI:=[
 ⟨some 150,.mv false (.t 1),none⟩,
 ⟨some 151,.call (.c (.fn f_zz24)) [(.t 150)] 0,none⟩,
 ⟨some 149,.mv false (.t 151),none⟩,
 ⟨some 152,.ext (.t 149) 0,none⟩,
 ⟨some 153,.ext (.t 149) 1,none⟩,
 ⟨some 24,.mv true (.t 152),none⟩,
 ⟨some 25,.mv true (.t 153),none⟩]
abbrev zz13_r24:List AI:=[
 ⟨some 154,.call (.c (.fn f_zz22)) [(.c (.int .i64 432))] 0,none⟩,
 ⟨some 155,.faddr 8 (.t 6),none⟩,
 ⟨none,.store 1 (.t 155) (.t 154) .any,none⟩,
 ⟨some 156,.faddr 6 (.t 6),none⟩,
 ⟨none,.store 1 (.t 156) (.c (.int .i64 50)) .any,none⟩]
abbrev zz13_r25:List AI:=[
 ⟨some 157,.mv false (.t 1),none⟩,
 ⟨some 158,.load true 14 (.t 6) .any,none⟩,
 ⟨some 159,.call (.c (.fn f_zz47)) [(.t 157),(.c (.int .i64 31)),(.t 158)] 0,none⟩,
 ⟨some 26,.alloc [(.int .i64 0),(.str []),.nilS,(.int .i64 0)],none⟩,
 ⟨none,.store 4 (.t 26) (.t 159) .any,none⟩]
abbrev zz13_r26:List AI:=[
 ⟨some 160,.load true 4 (.t 5) .any,none⟩,
 ⟨some 161,.faddr 1 (.t 6),none⟩,
 ⟨none,.store 4 (.t 161) (.t 160) .any,none⟩]
abbrev zz13_r27:List AI:=[
 ⟨some 162,.mv false (.t 1),none⟩,
 ⟨some 163,.load true 14 (.t 6) .any,none⟩,
 ⟨some 164,.call (.c (.fn f_zz47)) [(.t 162),(.c (.int .i64 31)),(.t 163)] 0,none⟩,
 ⟨some 27,.alloc [(.int .i64 0),(.str []),.nilS,(.int .i64 0)],none⟩,
 ⟨none,.store 4 (.t 27) (.t 164) .any,none⟩]
abbrev zz13_r28:List AI:=[
 ⟨some 165,.faddr 0 (.t 21),none⟩,
 ⟨some 166,.load false 1 (.t 165) .any,none⟩,
 ⟨some 167,.bin .eql (.t 166) (.c (.int .i64 0)),none⟩,
 ⟨some 168,.mv false (.t 167),none⟩,
 ⟨some 169,.mv false (.t 23),some (168,true)⟩,
 ⟨some 170,.bin .eql (.t 169) (.c (.int .i64 0)),some (168,true)⟩,
 ⟨some 171,.pick (.t 168) (.t 170) (.c (.bool false)),none⟩,
 ⟨some 172,.mv false (.t 171),none⟩,
 ⟨some 173,.mv false (.t 22),some (172,true)⟩,
 ⟨some 174,.load true 4 (.t 20) .any,some (172,true)⟩,
 ⟨some 175,.mkslice 4 1 (.agg [(.int .i64 0),(.int .i64 0),(.int .i64 0),(.int .i64 0)]) [(0,(.t 174))],some (172,true)⟩,
 ⟨some 176,.call (.c (.fn f_zz11)) [(.t 173),(.t 175)] 0,some (172,true)⟩,
 ⟨some 177,.pick (.t 172) (.t 176) (.c (.bool false)),none⟩,
 ⟨some 178,.mv false (.t 177),none⟩,
 ⟨some 179,.mv false (.t 25),some (178,true)⟩,
 ⟨some 180,.bin .eql (.t 179) (.c (.int .i64 0)),some (178,true)⟩,
 ⟨some 181,.pick (.t 178) (.t 180) (.c (.bool false)),none⟩,
 ⟨some 182,.mv false (.t 181),none⟩,
 ⟨some 183,.mv false (.t 24),some (182,true)⟩,
 ⟨some 184,.len false (.t 183),some (182,true)⟩,
 ⟨some 185,.bin .eql (.t 184) (.c (.int .i64 0)),some (182,true)⟩,
 ⟨some 186,.pick (.t 182) (.t 185) (.c (.bool false)),none⟩,
 ⟨some 28,.mv true (.t 186),none⟩]
abbrev zz13_r29:List AI:=[
 ⟨some 187,.mv false (.t 18),none⟩,
 ⟨some 188,.mv false (.t 187),none⟩,
 ⟨some 189,.mv false (.t 19),some (188,true)⟩,
 ⟨some 190,.pick (.t 188) (.t 189) (.c (.bool false)),none⟩,
 ⟨some 191,.mv false (.t 190),none⟩,
 ⟨some 192,.mv false (.t 28),some (191,true)⟩,
 ⟨some 193,.pick (.t 191) (.t 192) (.c (.bool false)),none⟩,
 ⟨some 194,.mv false (.t 193),none⟩,
 ⟨some 195,.faddr 0 (.t 26),some (194,true)⟩,
 ⟨some 196,.load false 1 (.t 195) .any,some (194,true)⟩,
 ⟨some 197,.bin .eql (.t 196) (.c (.int .i64 0)),some (194,true)⟩,
 ⟨some 198,.pick (.t 194) (.t 197) (.c (.bool false)),none⟩,
 ⟨some 199,.mv false (.t 198),none⟩,
 ⟨some 200,.faddr 0 (.t 27),some (199,true)⟩,
 ⟨some 201,.load false 1 (.t 200) .any,some (199,true)⟩,
 ⟨some 202,.bin .eql (.t 201) (.c (.int .i64 13)),some (199,true)⟩,
 ⟨some 203,.pick (.t 199) (.t 202) (.c (.bool false)),none⟩,
 ⟨some 0,.mv true (.t 203),none⟩]
abbrev zz13_c:ACode:=.seq (.reg false zz13_r0) (.seq (.reg false zz13_r1) (.seq (.seq (.reg false zz13_r2) (.cond (.t 35) (.seq (.reg false zz13_r3) (.ret)) (.skip))) (.seq (.reg false zz13_r4) (.seq (.reg false zz13_r5) (.seq (.reg true zz13_r6) (.seq (.reg false zz13_r7) (.seq (.reg false zz13_r8) (.seq (.reg false zz13_r9) (.seq (.reg false zz13_r10) (.seq (.reg false zz13_r11) (.seq (.reg false zz13_r12) (.seq (.reg false zz13_r13) (.seq (.reg false zz13_r14) (.seq (.reg false zz13_r15) (.seq (.reg false zz13_r16) (.seq (.reg false zz13_r17) (.seq (.reg false zz13_r18) (.seq (.reg false zz13_r19) (.seq (.reg false zz13_r20) (.seq (.reg false zz13_r21) (.seq (.reg false zz13_r22) (.seq (.reg false zz13_r23) (.seq (.reg false zz13_r24) (.seq (.reg false zz13_r25) (.seq (.reg false zz13_r26) (.seq (.reg false zz13_r27) (.seq (.reg false zz13_r28) (.seq (.reg false zz13_r29) (.ret)))))))))))))))))))))))))))))
def zz13_F:AFunc:=⟨204,[.tmp 0],zz13_c⟩
theorem zz13_cp:zi Try.prog [] f_zz13=some zz13_F:=by kernel_rfl
-- loop 0: [3, 8, 9]
abbrev zz22_r0:List AI:=[
 ⟨some 2,.mv true (.c (.str [])),none⟩]
abbrev zz22_r1:List AI:=[
 ⟨some 5,.mv false (.t 0),none⟩,
 ⟨some 6,.gn (.mkSl 1 1 [(.int .u8 0)]) [(.t 5),(.t 5)],none⟩,
 ⟨some 3,.mv true (.t 6),none⟩]
abbrev zz22_r2:List AI:=[
 ⟨some 7,.mv false (.t 3),none⟩,
 ⟨some 8,.len false (.t 7),none⟩,
 ⟨some 9,.mv false (.c (.int .i64 0)),none⟩]
abbrev zz22_r3:List AI:=[
 ⟨some 10,.bin .lss (.t 9) (.t 8),none⟩]
abbrev zz22_r4:List AI:=[
 ⟨some 11,.mv false (.t 9),none⟩,
 ⟨some 4,.mv true (.t 11),none⟩]
abbrev zz22_r5:List AI:=[
 ⟨some 12,.mv false (.t 3),none⟩,
 ⟨some 13,.mv false (.t 4),none⟩,
 ⟨some 14,.iaddr 1 (.t 12) (.t 13),none⟩,
 ⟨none,.store 1 (.t 14) (.c (.int .u8 120)) .any,none⟩]
abbrev zz22_r6:List AI:=[
 ⟨some 15,.bin .add (.t 9) (.c (.int .i64 1)),none⟩,
 ⟨some 9,.mv false (.t 15),none⟩]
abbrev zz22_l0:ACode:=.seq (.reg false zz22_r3) (.seq (.cond (.t 10) (.skip) (.exit 0)) (.seq (.block 1 (.seq (.reg false zz22_r4) (.reg false zz22_r5))) (.reg false zz22_r6)))
abbrev zz22_r7:List AI:=[
 ⟨some 16,.mv false (.t 3),none⟩,
 ⟨some 17,.gd .b2s [(.t 16)],none⟩,
 ⟨some 2,.mv true (.t 17),none⟩]
abbrev zz22_c:ACode:=.seq (.reg false zz22_r0) (.seq (.reg false zz22_r1) (.seq (.seq (.reg false zz22_r2) (.block 0 (.loop zz22_l0))) (.seq (.reg false zz22_r7) (.ret))))
def zz22_F:AFunc:=⟨18,[.tmp 2],zz22_c⟩
theorem zz22_cp:zi Try.prog [17] f_zz22=some zz22_F:=by kernel_rfl
-- loop 0: [0, 1, 5]
abbrev zz11_r0:List AI:=[
 ⟨some 4,.mv true (.c (.bool false)),none⟩]
abbrev zz11_r1:List AI:=[
 ⟨some 6,.mv false (.t 0),none⟩,
 ⟨some 7,.len false (.t 6),none⟩,
 ⟨some 8,.mv false (.t 1),none⟩,
 ⟨some 9,.len false (.t 8),none⟩,
 ⟨some 10,.bin .neq (.t 7) (.t 9),none⟩]
abbrev zz11_r2:List AI:=[
 ⟨some 4,.mv true (.c (.bool false)),none⟩]
abbrev zz11_r3:List AI:=[
 ⟨some 5,.mv true (.c (.int .i64 0)),none⟩]
abbrev zz11_r4:List AI:=[
 ⟨some 11,.mv false (.t 5),none⟩,
 ⟨some 12,.mv false (.t 0),none⟩,
 ⟨some 13,.len false (.t 12),none⟩,
 ⟨some 14,.bin .lss (.t 11) (.t 13),none⟩]
abbrev zz11_r5:List AI:=[
 ⟨some 17,.mv false (.t 0),none⟩,
 ⟨some 18,.mv false (.t 5),none⟩,
 ⟨some 19,.iaddr 4 (.t 17) (.t 18),none⟩,
 ⟨some 20,.load true 4 (.t 19) .foreign,none⟩,
 ⟨some 21,.mv false (.t 1),none⟩,
 ⟨some 22,.mv false (.t 5),none⟩,
 ⟨some 23,.iaddr 4 (.t 21) (.t 22),none⟩,
 ⟨some 24,.load true 4 (.t 23) .foreign,none⟩,
 ⟨some 25,.eqs true [.i,.i,.i,.i] (.t 20) (.t 24),none⟩]
abbrev zz11_r6:List AI:=[
 ⟨some 4,.mv true (.c (.bool false)),none⟩]
abbrev zz11_r7:List AI:=[
 ⟨some 15,.mv false (.t 5),none⟩,
 ⟨some 16,.bin .add (.t 15) (.c (.int .i64 1)),none⟩,
 ⟨some 5,.mv true (.t 16),none⟩]
abbrev zz11_l0:ACode:=.seq (.seq (.reg false zz11_r4) (.cond (.t 14) (.skip) (.exit 0))) (.seq (.block 1 (.seq (.reg true zz11_r5) (.cond (.t 25) (.seq (.reg false zz11_r6) (.ret)) (.skip)))) (.reg false zz11_r7))
abbrev zz11_r8:List AI:=[
 ⟨some 4,.mv true (.c (.bool true)),none⟩]
abbrev zz11_c:ACode:=.seq (.reg false zz11_r0) (.seq (.seq (.reg false zz11_r1) (.cond (.t 10) (.seq (.reg false zz11_r2) (.ret)) (.skip))) (.seq (.seq (.reg false zz11_r3) (.block 0 (.loop zz11_l0))) (.seq (.reg false zz11_r8) (.ret))))
def zz11_F:AFunc:=⟨26,[.tmp 4],zz11_c⟩
theorem zz11_cp:zi Try.prog [] f_zz11=some zz11_F:=by kernel_rfl
end
end Go.Proofs.Ytailhmffljoojaa
