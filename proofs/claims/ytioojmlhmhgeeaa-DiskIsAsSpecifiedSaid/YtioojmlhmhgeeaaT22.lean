/-
 The functions' code in the evaluator's form,printed by a program of ours from the loaded program,and checked against it.
 Conditions: none.
-/
import Derived.Test.YtioojmlhmhgeeaaProg
import Derived.KernelRfl
import Derived.Test.YtioojmlhmhgeeaaEZ
namespace Go.Proofs.Ytioojmlhmhgeeaa
open Go Go.E2
noncomputable section
abbrev f_zz0:FuncId:=4
abbrev f_zz37:FuncId:=11
abbrev f_zz22:FuncId:=13
abbrev f_zz13:FuncId:=14
abbrev f_zz29:FuncId:=17
abbrev f_zz12:FuncId:=21
abbrev f_zz19:FuncId:=22
abbrev f_zz16:FuncId:=23
abbrev f_zz6:FuncId:=24
abbrev f_zz20:FuncId:=26
abbrev f_zz30:FuncId:=27
abbrev f_zz26:FuncId:=28
abbrev f_zz21:FuncId:=29
abbrev f_zz28:FuncId:=30
abbrev f_zz33:FuncId:=32
abbrev f_zz31:FuncId:=33
abbrev f_zz27:FuncId:=34
abbrev f_zz34:FuncId:=35
abbrev f_zz2:FuncId:=41
abbrev f_zz23:FuncId:=47
abbrev f_zz32:FuncId:=48
abbrev f_zz17:FuncId:=53
abbrev f_zz7:FuncId:=54
abbrev f_zz9:FuncId:=55
abbrev f_zz1:FuncId:=56
abbrev f_zz4:FuncId:=57
abbrev f_zz10:FuncId:=58
abbrev f_zz5:FuncId:=59
abbrev f_zz3:FuncId:=60
abbrev f_zz15:FuncId:=61
abbrev f_zz36:FuncId:=62
abbrev f_zz11:FuncId:=63
abbrev f_zz8:FuncId:=64
abbrev f_zz18:FuncId:=73
abbrev f_zz14:FuncId:=74
abbrev f_zz35:FuncId:=75
abbrev f_zz24:FuncId:=83
abbrev f_zz25:FuncId:=84
-- loop 0: [0, 5, 6, 47, 48, 49]
-- loop 1: [5, 6, 64, 65]
abbrev zz0_r0:List AI:=[
 ⟨some 4,.mv true (.c (.bool false)),none⟩]
abbrev zz0_r1:List AI:=[
 ⟨some 14,.mv false (.t 0),none⟩,
 ⟨some 15,.call (.c (.fn f_zz37)) [(.t 14)] 0,none⟩,
 ⟨some 5,.mv true (.t 15),none⟩]
abbrev zz0_r2:List AI:=[
 ⟨some 16,.mv false (.t 0),none⟩,
 ⟨some 17,.bin .lss (.t 16) (.c (.int .i64 1)),none⟩,
 ⟨some 18,.mv false (.t 17),none⟩,
 ⟨some 19,.mv false (.t 0),some (18,false)⟩,
 ⟨some 20,.bin .gtr (.t 19) (.c (.int .i64 65536)),some (18,false)⟩,
 ⟨some 21,.pick (.t 18) (.c (.bool true)) (.t 20),none⟩]
abbrev zz0_r3:List AI:=[
 ⟨some 22,.call (.c (.fn f_zz12)) [] 0,none⟩,
 ⟨some 23,.mv false (.t 22),none⟩,
 ⟨some 24,.mv false (.t 5),some (23,true)⟩,
 ⟨some 25,.gd (.pnil 0 false) [(.t 24)],some (23,true)⟩,
 ⟨some 26,.pick (.t 23) (.t 25) (.c (.bool false)),none⟩,
 ⟨some 4,.mv true (.t 26),none⟩]
abbrev zz0_r4:List AI:=[
 ⟨some 27,.mv false (.t 0),none⟩,
 ⟨some 28,.bin .gtr (.t 27) (.c (.int .i64 200)),none⟩,
 ⟨some 29,.mv false (.t 28),none⟩,
 ⟨some 30,.mv false (.t 1),some (29,false)⟩,
 ⟨some 31,.len false (.t 30),some (29,false)⟩,
 ⟨some 32,.bin .gtr (.t 31) (.c (.int .i64 60)),some (29,false)⟩,
 ⟨some 33,.pick (.t 29) (.c (.bool true)) (.t 32),none⟩]
abbrev zz0_r5:List AI:=[
 ⟨some 34,.call (.c (.fn f_zz12)) [] 0,none⟩,
 ⟨some 4,.mv true (.t 34),none⟩]
abbrev zz0_r6:List AI:=[
 ⟨some 35,.mv false (.t 5),none⟩,
 ⟨some 36,.gd (.pnil 0 false) [(.t 35)],none⟩]
abbrev zz0_r7:List AI:=[
 ⟨some 4,.mv true (.c (.bool false)),none⟩]
abbrev zz0_r8:List AI:=[
 ⟨some 37,.mv false (.t 0),none⟩,
 ⟨some 38,.call (.c (.fn f_zz19)) [(.t 37)] 0,none⟩,
 ⟨some 6,.mv true (.t 38),none⟩]
abbrev zz0_r9:List AI:=[
 ⟨some 39,.mv false (.t 1),none⟩,
 ⟨some 40,.mv false (.t 1),none⟩,
 ⟨some 41,.len false (.t 40),none⟩,
 ⟨some 42,.mv false (.t 1),none⟩,
 ⟨some 43,.len false (.t 42),none⟩,
 ⟨some 44,.sl3L 3 (.t 39) (.t 41) (.t 43),none⟩,
 ⟨some 45,.build [(.int .i64 0),(.int .i64 0),(.int .i64 0)] [(0,1,(.c (.int .i64 9)))],none⟩,
 ⟨some 46,.mkslice 3 1 (.agg [(.int .i64 0),(.int .i64 0),(.int .i64 0)]) [(0,(.t 45))],none⟩,
 ⟨some 47,.append 3 24 (.t 44) (.t 46),none⟩,
 ⟨some 48,.len false (.t 47),none⟩,
 ⟨some 49,.mv false (.c (.int .i64 0)),none⟩]
abbrev zz0_r10:List AI:=[
 ⟨some 50,.bin .lss (.t 49) (.t 48),none⟩]
abbrev zz0_r11:List AI:=[
 ⟨some 51,.iaddr 3 (.t 47) (.t 49),none⟩,
 ⟨some 52,.load true 3 (.t 51) .any,none⟩,
 ⟨some 8,.alloc [(.int .i64 0),(.int .i64 0),(.int .i64 0)],none⟩,
 ⟨none,.store 3 (.t 8) (.t 52) .any,none⟩]
abbrev zz0_r12:List AI:=[
 ⟨some 9,.mv true (.c (.bool true)),none⟩]
abbrev zz0_r13:List AI:=[
 ⟨some 54,.mv false (.t 5),none⟩,
 ⟨some 55,.mv false (.t 6),none⟩,
 ⟨some 56,.load true 3 (.t 8) .any,none⟩,
 ⟨some 57,.call (.c (.fn f_zz16)) [(.t 54),(.t 55),(.t 56)] 0,none⟩,
 ⟨some 53,.mv false (.t 57),none⟩,
 ⟨some 58,.ext (.t 53) 0,none⟩,
 ⟨some 59,.ext (.t 53) 1,none⟩,
 ⟨some 60,.ext (.t 53) 2,none⟩,
 ⟨some 5,.mv true (.t 58),none⟩,
 ⟨some 6,.mv true (.t 59),none⟩,
 ⟨some 9,.mv true (.t 60),none⟩]
abbrev zz0_r14:List AI:=[
 ⟨some 61,.mv false (.t 9),none⟩,
 ⟨some 62,.not (.t 61),none⟩]
abbrev zz0_r15:List AI:=[
 ⟨some 4,.mv true (.c (.bool false)),none⟩]
abbrev zz0_r16:List AI:=[
 ⟨some 63,.bin .add (.t 49) (.c (.int .i64 1)),none⟩,
 ⟨some 49,.mv false (.t 63),none⟩]
abbrev zz0_l0:ACode:=.seq (.reg false zz0_r10) (.seq (.cond (.t 50) (.skip) (.exit 0)) (.seq (.block 1 (.seq (.reg false zz0_r11) (.seq (.reg false zz0_r12) (.seq (.reg false zz0_r13) (.seq (.reg false zz0_r14) (.cond (.t 62) (.seq (.reg false zz0_r15) (.ret)) (.skip))))))) (.reg false zz0_r16)))
abbrev zz0_r17:List AI:=[
 ⟨some 64,.mv false (.t 0),none⟩,
 ⟨some 65,.mv false (.c (.int .i64 0)),none⟩]
abbrev zz0_r18:List AI:=[
 ⟨some 66,.bin .lss (.t 65) (.t 64),none⟩]
abbrev zz0_r19:List AI:=[
 ⟨some 67,.mv false (.t 65),none⟩,
 ⟨some 10,.mv true (.t 67),none⟩]
abbrev zz0_r20:List AI:=[
 ⟨some 69,.mv false (.t 5),none⟩,
 ⟨some 70,.mv false (.t 10),none⟩,
 ⟨some 71,.call (.c (.fn f_zz29)) [(.t 69),(.t 70)] 0,none⟩,
 ⟨some 68,.mv false (.t 71),none⟩,
 ⟨some 72,.ext (.t 68) 0,none⟩,
 ⟨some 73,.ext (.t 68) 1,none⟩,
 ⟨some 11,.alloc (zr 64 (.int .u8 0)),none⟩,
 ⟨none,.store 64 (.t 11) (.t 72) .any,none⟩,
 ⟨some 12,.mv true (.t 73),none⟩]
abbrev zz0_r21:List AI:=[
 ⟨some 74,.mv false (.t 6),none⟩,
 ⟨some 75,.mv false (.t 10),none⟩,
 ⟨some 76,.call (.c (.fn f_zz6)) [(.t 74),(.t 75)] 0,none⟩,
 ⟨some 13,.alloc (zr 64 (.int .u8 0) ++ [(.int .i64 0)]),none⟩,
 ⟨none,.store 65 (.t 13) (.t 76) .any,none⟩]
abbrev zz0_r22:List AI:=[
 ⟨some 77,.load true 64 (.t 11) .any,none⟩,
 ⟨some 78,.faddr 0 (.t 13),none⟩,
 ⟨some 79,.load true 64 (.t 78) .any,none⟩,
 ⟨some 80,.eqs true (kr 64 .i) (.t 77) (.t 79),none⟩,
 ⟨some 81,.mv false (.t 80),none⟩,
 ⟨some 82,.mv false (.t 12),some (81,false)⟩,
 ⟨some 83,.faddr 64 (.t 13),some (81,false)⟩,
 ⟨some 84,.load false 1 (.t 83) .any,some (81,false)⟩,
 ⟨some 85,.bin .neq (.t 82) (.t 84),some (81,false)⟩,
 ⟨some 86,.pick (.t 81) (.c (.bool true)) (.t 85),none⟩]
abbrev zz0_r23:List AI:=[
 ⟨some 4,.mv true (.c (.bool false)),none⟩]
abbrev zz0_r24:List AI:=[
 ⟨some 87,.bin .add (.t 65) (.c (.int .i64 1)),none⟩,
 ⟨some 65,.mv false (.t 87),none⟩]
abbrev zz0_l1:ACode:=.seq (.reg false zz0_r18) (.seq (.cond (.t 66) (.skip) (.exit 2)) (.seq (.block 3 (.seq (.reg false zz0_r19) (.seq (.reg false zz0_r20) (.seq (.reg false zz0_r21) (.seq (.reg false zz0_r22) (.cond (.t 86) (.seq (.reg false zz0_r23) (.ret)) (.skip))))))) (.reg false zz0_r24)))
abbrev zz0_r25:List AI:=[
 ⟨some 88,.call (.c (.fn f_zz12)) [] 0,none⟩,
 ⟨some 4,.mv true (.t 88),none⟩]
abbrev zz0_c:ACode:=.seq (.reg false zz0_r0) (.seq (.reg false zz0_r1) (.seq (.seq (.reg false zz0_r2) (.cond (.t 21) (.seq (.reg false zz0_r3) (.ret)) (.skip))) (.seq (.seq (.reg false zz0_r4) (.cond (.t 33) (.seq (.reg false zz0_r5) (.ret)) (.skip))) (.seq (.seq (.reg false zz0_r6) (.cond (.t 36) (.seq (.reg false zz0_r7) (.ret)) (.skip))) (.seq (.reg false zz0_r8) (.seq (.seq (.reg false zz0_r9) (.block 0 (.loop zz0_l0))) (.seq (.seq (.reg false zz0_r17) (.block 2 (.loop zz0_l1))) (.seq (.reg false zz0_r25) (.ret)))))))))
def zz0_F:AFunc:=⟨89,[.tmp 4],zz0_c⟩
theorem zz0_cp:compile Try.prog [] f_zz0=some zz0_F:=by kernel_rfl
abbrev zz37_r0:List AI:=[
 ⟨some 2,.mv true (.c .nilP),none⟩]
abbrev zz37_r1:List AI:=[
 ⟨some 3,.mv false (.t 0),none⟩,
 ⟨some 4,.bin .lss (.t 3) (.c (.int .i64 1)),none⟩,
 ⟨some 5,.mv false (.t 4),none⟩,
 ⟨some 6,.mv false (.t 0),some (5,false)⟩,
 ⟨some 7,.bin .gtr (.t 6) (.c (.int .i64 65536)),some (5,false)⟩,
 ⟨some 8,.pick (.t 5) (.c (.bool true)) (.t 7),none⟩]
abbrev zz37_r2:List AI:=[
 ⟨some 2,.mv true (.c .nilP),none⟩]
abbrev zz37_r3:List AI:=[
 ⟨some 9,.mv false (.t 0),none⟩,
 ⟨some 10,.gn (.mkSl 65 65 (zr 64 (.int .u8 0) ++ [(.bool false)])) [(.t 9),(.t 9)],none⟩,
 ⟨some 11,.gn .mkM [],none⟩,
 ⟨some 12,.build [.nilS,.nilM,(.int .i64 0),(.int .i64 0),(.bool false)] [(0,1,(.t 10)),(1,1,(.t 11)),(3,1,(.c (.int .i64 (-1))))],none⟩,
 ⟨some 13,.gn (.box 5) [(.t 12)],none⟩,
 ⟨some 2,.mv true (.t 13),none⟩]
abbrev zz37_c:ACode:=.seq (.reg false zz37_r0) (.seq (.seq (.reg false zz37_r1) (.cond (.t 8) (.seq (.reg false zz37_r2) (.ret)) (.skip))) (.seq (.reg false zz37_r3) (.ret)))
def zz37_F:AFunc:=⟨14,[.tmp 2],zz37_c⟩
theorem zz37_cp:compile Try.prog [13] f_zz37=some zz37_F:=by kernel_rfl
abbrev zz22_r0:List AI:=[
 ⟨some 5,.box 64 (.t 2),none⟩,
 ⟨some 6,.mv true (.c (.int .i64 0)),none⟩]
abbrev zz22_r1:List AI:=[
 ⟨some 8,.mv false (.t 0),none⟩,
 ⟨some 9,.mv false (.t 1),none⟩,
 ⟨some 10,.call (.c (.fn f_zz23)) [(.t 8),(.t 9)] 0,none⟩,
 ⟨some 7,.mv true (.t 10),none⟩]
abbrev zz22_r2:List AI:=[
 ⟨some 11,.mv false (.t 7),none⟩,
 ⟨some 12,.bin .eql (.t 11) (.c (.int .i64 0)),none⟩]
abbrev zz22_r3:List AI:=[
 ⟨some 13,.mv false (.t 0),none⟩,
 ⟨some 14,.call (.c (.fn f_zz32)) [(.t 13)] 0,none⟩,
 ⟨some 7,.mv true (.t 14),none⟩]
abbrev zz22_r4:List AI:=[
 ⟨some 15,.mv false (.t 7),none⟩,
 ⟨some 16,.bin .eql (.t 15) (.c (.int .i64 0)),none⟩]
abbrev zz22_r5:List AI:=[
 ⟨some 17,.mv false (.t 0),none⟩,
 ⟨some 18,.nilck (.t 17),none⟩,
 ⟨some 19,.faddr 1 (.t 18),none⟩,
 ⟨some 20,.load false 1 (.t 19) .foreign,none⟩,
 ⟨some 21,.mv false (.t 1),none⟩,
 ⟨some 22,.mv false (.t 0),none⟩,
 ⟨some 23,.nilck (.t 22),none⟩,
 ⟨some 24,.faddr 1 (.t 23),none⟩,
 ⟨some 25,.load false 1 (.t 24) .foreign,none⟩,
 ⟨some 26,.mv false (.t 1),none⟩,
 ⟨some 27,.gd (.mlook [.i] .nilS false) [(.t 25),(.t 26)],none⟩,
 ⟨some 28,.load true 64 (.t 5) (.site 5),none⟩,
 ⟨some 29,.mkslice 64 1 (.agg (zr 64 (.int .u8 0))) [(0,(.t 28))],none⟩,
 ⟨some 30,.kp [(.ld false 1 (.t 19))] (.appG 64 64 (zr 64 (.int .u8 0)) (.t 27) (.t 29)),none⟩,
 ⟨none,.gd (.mset [.i]) [(.t 20),(.t 21),(.t 30)],none⟩]
abbrev zz22_r6:List AI:=[
 ⟨some 31,.mv false (.t 7),none⟩,
 ⟨some 6,.mv true (.t 31),none⟩]
abbrev zz22_c:ACode:=.seq (.reg false zz22_r0) (.seq (.reg false zz22_r1) (.seq (.seq (.reg false zz22_r2) (.cond (.t 12) (.reg false zz22_r3) (.skip))) (.seq (.seq (.reg false zz22_r4) (.cond (.t 16) (.reg true zz22_r5) (.skip))) (.seq (.reg false zz22_r6) (.ret)))))
def zz22_F:AFunc:=⟨32,[.tmp 6],zz22_c⟩
theorem zz22_cp:compile Try.prog [30] f_zz22=some zz22_F:=by kernel_rfl
-- loop 0: [0, 2, 3, 4]
abbrev zz13_r0:List AI:=[
 ⟨some 2,.alloc (zr 64 (.int .u8 0)),none⟩]
abbrev zz13_r1:List AI:=[
 ⟨some 3,.alloc (zr 64 (.int .u8 0)),none⟩]
abbrev zz13_r2:List AI:=[
 ⟨some 4,.mv true (.c (.int .i64 0)),none⟩]
abbrev zz13_r3:List AI:=[
 ⟨some 5,.mv false (.t 4),none⟩,
 ⟨some 6,.bin .lss (.t 5) (.c (.int .i64 64)),none⟩]
abbrev zz13_r4:List AI:=[
 ⟨some 9,.mv false (.t 4),none⟩,
 ⟨some 10,.mv false (.t 0),none⟩,
 ⟨some 11,.conv .u8 (.t 10),none⟩,
 ⟨some 12,.iaddrA 64 1 (.t 3) (.t 9),none⟩,
 ⟨none,.store 1 (.t 12) (.t 11) .any,none⟩]
abbrev zz13_r5:List AI:=[
 ⟨some 7,.mv false (.t 4),none⟩,
 ⟨some 8,.bin .add (.t 7) (.c (.int .i64 1)),none⟩,
 ⟨some 4,.mv true (.t 8),none⟩]
abbrev zz13_l0:ACode:=.seq (.seq (.reg false zz13_r3) (.cond (.t 6) (.skip) (.exit 0))) (.seq (.block 1 (.reg false zz13_r4)) (.reg false zz13_r5))
abbrev zz13_r6:List AI:=[
 ⟨some 13,.load true 64 (.t 3) .any,none⟩,
 ⟨none,.store 64 (.t 2) (.t 13) .any,none⟩]
abbrev zz13_c:ACode:=.seq (.reg false zz13_r0) (.seq (.reg false zz13_r1) (.seq (.seq (.reg false zz13_r2) (.block 0 (.loop zz13_l0))) (.seq (.reg false zz13_r6) (.ret))))
def zz13_F:AFunc:=⟨14,[.cell 2 true 64],zz13_c⟩
theorem zz13_cp:compile Try.prog [] f_zz13=some zz13_F:=by kernel_rfl
abbrev zz29_r0:List AI:=[
 ⟨some 4,.alloc (zr 64 (.int .u8 0)),none⟩,
 ⟨some 5,.mv true (.c (.int .i64 0)),none⟩]
abbrev zz29_r1:List AI:=[
 ⟨some 8,.mv false (.t 0),none⟩,
 ⟨some 9,.mv false (.t 1),none⟩,
 ⟨some 10,.call (.c (.fn f_zz23)) [(.t 8),(.t 9)] 0,none⟩,
 ⟨some 6,.mv true (.t 10),none⟩]
abbrev zz29_r2:List AI:=[
 ⟨some 11,.mv false (.t 6),none⟩,
 ⟨some 12,.bin .neq (.t 11) (.c (.int .i64 0)),none⟩]
abbrev zz29_r3:List AI:=[
 ⟨some 13,.build (zr 64 (.int .u8 0)) [],none⟩,
 ⟨some 14,.mv false (.t 6),none⟩,
 ⟨none,.store 64 (.t 4) (.t 13) .any,none⟩,
 ⟨some 5,.mv true (.t 14),none⟩]
abbrev zz29_r4:List AI:=[
 ⟨some 15,.mv false (.t 0),none⟩,
 ⟨some 16,.nilck (.t 15),none⟩,
 ⟨some 17,.faddr 1 (.t 16),none⟩,
 ⟨some 18,.load false 1 (.t 17) .any,none⟩,
 ⟨some 19,.mv false (.t 1),none⟩,
 ⟨some 20,.gd (.mlook [.i] .nilS false) [(.t 18),(.t 19)],none⟩,
 ⟨some 7,.mv true (.t 20),none⟩]
abbrev zz29_r5:List AI:=[
 ⟨some 21,.mv false (.t 7),none⟩,
 ⟨some 22,.len false (.t 21),none⟩,
 ⟨some 23,.bin .gtr (.t 22) (.c (.int .i64 0)),none⟩]
abbrev zz29_r6:List AI:=[
 ⟨some 24,.mv false (.t 7),none⟩,
 ⟨some 25,.mv false (.t 7),none⟩,
 ⟨some 26,.len false (.t 25),none⟩,
 ⟨some 27,.bin .sub (.t 26) (.c (.int .i64 1)),none⟩,
 ⟨some 28,.iaddr 64 (.t 24) (.t 27),none⟩,
 ⟨some 29,.load true 64 (.t 28) .any,none⟩,
 ⟨none,.store 64 (.t 4) (.t 29) .any,none⟩,
 ⟨some 5,.mv true (.c (.int .i64 0)),none⟩]
abbrev zz29_r7:List AI:=[
 ⟨some 30,.mv false (.t 0),none⟩,
 ⟨some 31,.nilck (.t 30),none⟩,
 ⟨some 32,.faddr 0 (.t 31),none⟩,
 ⟨some 33,.load false 1 (.t 32) .any,none⟩,
 ⟨some 34,.mv false (.t 1),none⟩,
 ⟨some 35,.iaddr 65 (.t 33) (.t 34),none⟩,
 ⟨some 36,.faddr 64 (.t 35),none⟩,
 ⟨some 37,.load false 1 (.t 36) .any,none⟩]
abbrev zz29_r8:List AI:=[
 ⟨some 38,.build (zr 64 (.int .u8 0)) [],none⟩,
 ⟨none,.store 64 (.t 4) (.t 38) .any,none⟩,
 ⟨some 5,.mv true (.c (.int .i64 14)),none⟩]
abbrev zz29_r9:List AI:=[
 ⟨some 39,.mv false (.t 0),none⟩,
 ⟨some 40,.nilck (.t 39),none⟩,
 ⟨some 41,.faddr 0 (.t 40),none⟩,
 ⟨some 42,.load false 1 (.t 41) .any,none⟩,
 ⟨some 43,.mv false (.t 1),none⟩,
 ⟨some 44,.iaddr 65 (.t 42) (.t 43),none⟩,
 ⟨some 45,.faddr 0 (.t 44),none⟩,
 ⟨some 46,.load true 64 (.t 45) .any,none⟩,
 ⟨none,.store 64 (.t 4) (.t 46) .any,none⟩,
 ⟨some 5,.mv true (.c (.int .i64 0)),none⟩]
abbrev zz29_c:ACode:=.seq (.reg false zz29_r0) (.seq (.seq (.reg false zz29_r1) (.seq (.reg false zz29_r2) (.cond (.t 12) (.seq (.reg false zz29_r3) (.ret)) (.skip)))) (.seq (.seq (.reg false zz29_r4) (.seq (.reg false zz29_r5) (.cond (.t 23) (.seq (.reg false zz29_r6) (.ret)) (.skip)))) (.seq (.seq (.reg false zz29_r7) (.cond (.t 37) (.seq (.reg false zz29_r8) (.ret)) (.skip))) (.seq (.reg false zz29_r9) (.ret)))))
def zz29_F:AFunc:=⟨47,[.cell 4 true 64,.tmp 5],zz29_c⟩
theorem zz29_cp:compile Try.prog [] f_zz29=some zz29_F:=by kernel_rfl
-- loop 0: [1, 2, 3, 4, 62, 63, 64]
abbrev zz12_r0:List AI:=[
 ⟨some 0,.mv true (.c (.bool false)),none⟩]
abbrev zz12_r1:List AI:=[
 ⟨some 17,.call (.c (.fn f_zz13)) [(.c (.int .i64 1))] 0,none⟩,
 ⟨some 18,.call (.c (.fn f_zz13)) [(.c (.int .i64 2))] 0,none⟩,
 ⟨some 1,.gn (.alloc (zr 64 (.int .u8 0))) [],none⟩,
 ⟨some 2,.alloc (zr 64 (.int .u8 0)),none⟩,
 ⟨none,.store 64 (.t 1) (.t 17) .any,none⟩,
 ⟨none,.store 64 (.t 2) (.t 18) .any,none⟩]
abbrev zz12_r2:List AI:=[
 ⟨some 19,.call (.c (.fn f_zz37)) [(.c (.int .i64 4))] 0,none⟩,
 ⟨some 3,.mv true (.t 19),none⟩]
abbrev zz12_r3:List AI:=[
 ⟨some 20,.mv false (.t 3),none⟩,
 ⟨some 21,.gd (.pnil 0 false) [(.t 20)],none⟩,
 ⟨some 22,.mv false (.t 21),none⟩,
 ⟨some 23,.mv false (.t 3),some (22,false)⟩,
 ⟨some 24,.load true 64 (.t 1) .any,some (22,false)⟩,
 ⟨some 25,.call (.c (.fn f_zz22)) [(.t 23),(.c (.int .i64 2)),(.t 24)] 0,some (22,false)⟩,
 ⟨some 26,.bin .neq (.t 25) (.c (.int .i64 0)),some (22,false)⟩,
 ⟨some 27,.pick (.t 22) (.c (.bool true)) (.t 26),none⟩]
abbrev zz12_r4:List AI:=[
 ⟨some 0,.mv true (.c (.bool false)),none⟩]
abbrev zz12_r5:List AI:=[
 ⟨some 29,.mv false (.t 3),none⟩,
 ⟨some 30,.call (.c (.fn f_zz29)) [(.t 29),(.c (.int .i64 2))] 0,none⟩,
 ⟨some 28,.mv false (.t 30),none⟩,
 ⟨some 31,.ext (.t 28) 0,none⟩,
 ⟨some 32,.ext (.t 28) 1,none⟩,
 ⟨some 4,.alloc (zr 64 (.int .u8 0)),none⟩,
 ⟨none,.store 64 (.t 4) (.t 31) .any,none⟩,
 ⟨some 5,.mv true (.t 32),none⟩]
abbrev zz12_r6:List AI:=[
 ⟨some 33,.mv false (.t 5),none⟩,
 ⟨some 34,.bin .neq (.t 33) (.c (.int .i64 0)),none⟩,
 ⟨some 35,.mv false (.t 34),none⟩,
 ⟨some 36,.load true 64 (.t 4) .any,some (35,false)⟩,
 ⟨some 37,.load true 64 (.t 1) .any,some (35,false)⟩,
 ⟨some 38,.eqs true (kr 64 .i) (.t 36) (.t 37),some (35,false)⟩,
 ⟨some 39,.pick (.t 35) (.c (.bool true)) (.t 38),none⟩,
 ⟨some 40,.mv false (.t 39),none⟩,
 ⟨some 41,.mv false (.t 3),some (40,false)⟩,
 ⟨some 42,.call (.c (.fn f_zz28)) [(.t 41)] 0,some (40,false)⟩,
 ⟨some 43,.mkslice 1 1 (.int .i64 0) [(0,(.c (.int .i64 2)))],some (40,false)⟩,
 ⟨some 44,.call (.c (.fn f_zz17)) [(.t 42),(.t 43)] 0,some (40,false)⟩,
 ⟨some 45,.not (.t 44),some (40,false)⟩,
 ⟨some 46,.pick (.t 40) (.c (.bool true)) (.t 45),none⟩,
 ⟨some 47,.mv false (.t 46),none⟩,
 ⟨some 48,.mv false (.t 3),some (47,false)⟩,
 ⟨some 49,.load true 64 (.t 2) .any,some (47,false)⟩,
 ⟨some 50,.call (.c (.fn f_zz22)) [(.t 48),(.c (.int .i64 2)),(.t 49)] 0,some (47,false)⟩,
 ⟨some 51,.bin .neq (.t 50) (.c (.int .i64 0)),some (47,false)⟩,
 ⟨some 52,.pick (.t 47) (.c (.bool true)) (.t 51),none⟩]
abbrev zz12_r7:List AI:=[
 ⟨some 0,.mv true (.c (.bool false)),none⟩]
abbrev zz12_r8:List AI:=[
 ⟨some 53,.load true 64 (.t 2) .any,none⟩,
 ⟨some 6,.gn (.alloc (zr 64 (.int .u8 0))) [],none⟩,
 ⟨none,.store 64 (.t 6) (.t 53) .any,none⟩]
abbrev zz12_r9:List AI:=[
 ⟨some 54,.gd (.arrS 1 64 true false false) [(.t 6),(.c (.int .i64 32))],none⟩,
 ⟨some 55,.gd (.arrS 1 64 false true false) [(.t 1),(.c (.int .i64 32))],none⟩,
 ⟨some 56,.copy 1 (.t 54) (.t 55),none⟩]
abbrev zz12_r10:List AI:=[
 ⟨some 57,.build (zr 64 (.int .u8 0)) [],none⟩,
 ⟨some 58,.load true 64 (.t 1) .any,none⟩,
 ⟨some 59,.load true 64 (.t 2) .any,none⟩,
 ⟨some 60,.build (zr 64 (.int .u8 0)) [],none⟩,
 ⟨some 61,.load true 64 (.t 6) .any,none⟩,
 ⟨some 62,.mkslice 64 5 (.agg (zr 64 (.int .u8 0))) [(0,(.t 57)),(1,(.t 58)),(2,(.t 59)),(3,(.t 60)),(4,(.t 61))],none⟩,
 ⟨some 63,.len false (.t 62),none⟩,
 ⟨some 64,.mv false (.c (.int .i64 0)),none⟩]
abbrev zz12_r11:List AI:=[
 ⟨some 65,.bin .lss (.t 64) (.t 63),none⟩]
abbrev zz12_r12:List AI:=[
 ⟨some 66,.mv false (.t 64),none⟩,
 ⟨some 67,.iaddr 64 (.t 62) (.t 64),none⟩,
 ⟨some 68,.load true 64 (.t 67) .any,none⟩,
 ⟨some 8,.alloc (zr 64 (.int .u8 0)),none⟩,
 ⟨some 7,.mv true (.t 66),none⟩,
 ⟨none,.store 64 (.t 8) (.t 68) .any,none⟩]
abbrev zz12_r13:List AI:=[
 ⟨some 69,.mv false (.t 3),none⟩,
 ⟨some 70,.mv false (.t 7),none⟩,
 ⟨some 71,.mkslice 1 1 (.int .i64 0) [(0,(.t 70))],none⟩,
 ⟨some 72,.call (.c (.fn f_zz20)) [(.t 69),(.t 71)] 0,none⟩,
 ⟨some 9,.mv true (.t 72),none⟩]
abbrev zz12_r14:List AI:=[
 ⟨some 73,.mv false (.t 9),none⟩,
 ⟨some 74,.gd (.pnil 0 false) [(.t 73)],none⟩]
abbrev zz12_r15:List AI:=[
 ⟨some 0,.mv true (.c (.bool false)),none⟩]
abbrev zz12_r16:List AI:=[
 ⟨some 76,.mv false (.t 9),none⟩,
 ⟨some 77,.call (.c (.fn f_zz29)) [(.t 76),(.c (.int .i64 2))] 0,none⟩,
 ⟨some 75,.mv false (.t 77),none⟩,
 ⟨some 78,.ext (.t 75) 0,none⟩,
 ⟨some 79,.ext (.t 75) 1,none⟩,
 ⟨some 10,.alloc (zr 64 (.int .u8 0)),none⟩,
 ⟨none,.store 64 (.t 10) (.t 78) .any,none⟩,
 ⟨some 11,.mv true (.t 79),none⟩]
abbrev zz12_r17:List AI:=[
 ⟨some 80,.load true 64 (.t 10) .any,none⟩,
 ⟨some 81,.load true 64 (.t 8) .any,none⟩,
 ⟨some 82,.eqs true (kr 64 .i) (.t 80) (.t 81),none⟩,
 ⟨some 83,.mv false (.t 82),none⟩,
 ⟨some 84,.mv false (.t 11),some (83,false)⟩,
 ⟨some 85,.bin .eql (.t 84) (.c (.int .i64 14)),some (83,false)⟩,
 ⟨some 86,.mv false (.t 7),some (83,false)⟩,
 ⟨some 87,.bin .eql (.t 86) (.c (.int .i64 3)),some (83,false)⟩,
 ⟨some 88,.eqb true (.t 85) (.t 87),some (83,false)⟩,
 ⟨some 89,.pick (.t 83) (.c (.bool true)) (.t 88),none⟩,
 ⟨some 90,.mv false (.t 89),none⟩,
 ⟨some 91,.mv false (.t 9),some (90,false)⟩,
 ⟨some 92,.call (.c (.fn f_zz30)) [(.t 91)] 0,some (90,false)⟩,
 ⟨some 93,.bin .neq (.t 92) (.c (.int .i64 4)),some (90,false)⟩,
 ⟨some 94,.pick (.t 90) (.c (.bool true)) (.t 93),none⟩,
 ⟨some 95,.mv false (.t 94),none⟩,
 ⟨some 96,.mv false (.t 9),some (95,false)⟩,
 ⟨some 97,.call (.c (.fn f_zz28)) [(.t 96)] 0,some (95,false)⟩,
 ⟨some 98,.len false (.t 97),some (95,false)⟩,
 ⟨some 99,.bin .neq (.t 98) (.c (.int .i64 0)),some (95,false)⟩,
 ⟨some 100,.pick (.t 95) (.c (.bool true)) (.t 99),none⟩]
abbrev zz12_r18:List AI:=[
 ⟨some 0,.mv true (.c (.bool false)),none⟩]
abbrev zz12_r19:List AI:=[
 ⟨some 101,.bin .add (.t 64) (.c (.int .i64 1)),none⟩,
 ⟨some 64,.mv false (.t 101),none⟩]
abbrev zz12_l0:ACode:=.seq (.reg false zz12_r11) (.seq (.cond (.t 65) (.skip) (.exit 0)) (.seq (.block 1 (.seq (.reg false zz12_r12) (.seq (.reg false zz12_r13) (.seq (.seq (.reg false zz12_r14) (.cond (.t 74) (.seq (.reg false zz12_r15) (.ret)) (.skip))) (.seq (.reg false zz12_r16) (.seq (.reg false zz12_r17) (.cond (.t 100) (.seq (.reg false zz12_r18) (.ret)) (.skip)))))))) (.reg false zz12_r19)))
abbrev zz12_r20:List AI:=[
 ⟨some 102,.mv false (.t 3),none⟩,
 ⟨some 103,.call (.c (.fn f_zz31)) [(.t 102)] 0,none⟩,
 ⟨some 104,.bin .neq (.t 103) (.c (.int .i64 0)),none⟩,
 ⟨some 105,.mv false (.t 104),none⟩,
 ⟨some 106,.mv false (.t 3),some (105,false)⟩,
 ⟨some 107,.call (.c (.fn f_zz21)) [(.t 106)] 0,some (105,false)⟩,
 ⟨some 108,.bin .neq (.t 107) (.c (.int .i64 3)),some (105,false)⟩,
 ⟨some 109,.pick (.t 105) (.c (.bool true)) (.t 108),none⟩,
 ⟨some 110,.mv false (.t 109),none⟩,
 ⟨some 111,.mv false (.t 3),some (110,false)⟩,
 ⟨some 112,.call (.c (.fn f_zz27)) [(.t 111),(.c (.int .i64 2)),(.c (.int .i64 9))] 0,some (110,false)⟩,
 ⟨some 113,.bin .neq (.t 112) (.c (.int .i64 0)),some (110,false)⟩,
 ⟨some 114,.pick (.t 110) (.c (.bool true)) (.t 113),none⟩]
abbrev zz12_r21:List AI:=[
 ⟨some 0,.mv true (.c (.bool false)),none⟩]
abbrev zz12_r22:List AI:=[
 ⟨some 115,.iaddrA 64 1 (.t 2) (.c (.int .i64 1)),none⟩,
 ⟨none,.store 1 (.t 115) (.c (.int .u8 0)) .any,none⟩]
abbrev zz12_r23:List AI:=[
 ⟨some 117,.mv false (.t 3),none⟩,
 ⟨some 118,.call (.c (.fn f_zz29)) [(.t 117),(.c (.int .i64 2))] 0,none⟩,
 ⟨some 116,.mv false (.t 118),none⟩,
 ⟨some 119,.ext (.t 116) 0,none⟩,
 ⟨some 120,.ext (.t 116) 1,none⟩,
 ⟨none,.store 64 (.t 4) (.t 119) .any,none⟩,
 ⟨some 5,.mv true (.t 120),none⟩]
abbrev zz12_r24:List AI:=[
 ⟨some 121,.mv false (.t 5),none⟩,
 ⟨some 122,.bin .eql (.t 121) (.c (.int .i64 0)),none⟩,
 ⟨some 123,.mv false (.t 122),none⟩,
 ⟨some 124,.load true 64 (.t 4) .any,some (123,true)⟩,
 ⟨some 125,.load true 64 (.t 2) .any,some (123,true)⟩,
 ⟨some 126,.eqs false (kr 64 .i) (.t 124) (.t 125),some (123,true)⟩,
 ⟨some 127,.pick (.t 123) (.t 126) (.c (.bool false)),none⟩,
 ⟨some 128,.mv false (.t 127),none⟩,
 ⟨some 129,.mv false (.t 3),some (128,true)⟩,
 ⟨some 130,.call (.c (.fn f_zz34)) [(.t 129),(.c (.int .i64 2))] 0,some (128,true)⟩,
 ⟨some 131,.bin .eql (.t 130) (.c (.int .i64 0)),some (128,true)⟩,
 ⟨some 132,.pick (.t 128) (.t 131) (.c (.bool false)),none⟩,
 ⟨some 12,.mv true (.t 132),none⟩]
abbrev zz12_r25:List AI:=[
 ⟨some 134,.mv false (.t 3),none⟩,
 ⟨some 135,.call (.c (.fn f_zz29)) [(.t 134),(.c (.int .i64 2))] 0,none⟩,
 ⟨some 133,.mv false (.t 135),none⟩,
 ⟨some 136,.ext (.t 133) 0,none⟩,
 ⟨some 137,.ext (.t 133) 1,none⟩,
 ⟨some 13,.alloc (zr 64 (.int .u8 0)),none⟩,
 ⟨none,.store 64 (.t 13) (.t 136) .any,none⟩,
 ⟨some 14,.mv true (.t 137),none⟩]
abbrev zz12_r26:List AI:=[
 ⟨some 138,.mv false (.t 14),none⟩,
 ⟨some 139,.bin .eql (.t 138) (.c (.int .i64 14)),none⟩,
 ⟨some 140,.mv false (.t 139),none⟩,
 ⟨some 141,.mv false (.t 3),some (140,true)⟩,
 ⟨some 142,.load true 64 (.t 1) .any,some (140,true)⟩,
 ⟨some 143,.call (.c (.fn f_zz22)) [(.t 141),(.c (.int .i64 2)),(.t 142)] 0,some (140,true)⟩,
 ⟨some 144,.bin .eql (.t 143) (.c (.int .i64 0)),some (140,true)⟩,
 ⟨some 145,.pick (.t 140) (.t 144) (.c (.bool false)),none⟩,
 ⟨some 15,.mv true (.t 145),none⟩]
abbrev zz12_r27:List AI:=[
 ⟨some 147,.mv false (.t 3),none⟩,
 ⟨some 148,.call (.c (.fn f_zz29)) [(.t 147),(.c (.int .i64 2))] 0,none⟩,
 ⟨some 146,.mv false (.t 148),none⟩,
 ⟨some 149,.ext (.t 146) 0,none⟩,
 ⟨some 150,.ext (.t 146) 1,none⟩,
 ⟨none,.store 64 (.t 4) (.t 149) .any,none⟩,
 ⟨some 5,.mv true (.t 150),none⟩]
abbrev zz12_r28:List AI:=[
 ⟨some 151,.mv false (.t 3),none⟩,
 ⟨some 152,.call (.c (.fn f_zz33)) [(.t 151),(.c (.int .i64 0))] 0,none⟩]
abbrev zz12_r29:List AI:=[
 ⟨some 153,.mv false (.t 5),none⟩,
 ⟨some 154,.bin .eql (.t 153) (.c (.int .i64 0)),none⟩,
 ⟨some 155,.mv false (.t 154),none⟩,
 ⟨some 156,.load true 64 (.t 4) .any,some (155,true)⟩,
 ⟨some 157,.load true 64 (.t 1) .any,some (155,true)⟩,
 ⟨some 158,.eqs false (kr 64 .i) (.t 156) (.t 157),some (155,true)⟩,
 ⟨some 159,.pick (.t 155) (.t 158) (.c (.bool false)),none⟩,
 ⟨some 160,.mv false (.t 159),none⟩,
 ⟨some 161,.mv false (.t 3),some (160,true)⟩,
 ⟨some 162,.load true 64 (.t 1) .any,some (160,true)⟩,
 ⟨some 163,.call (.c (.fn f_zz22)) [(.t 161),(.c (.int .i64 0)),(.t 162)] 0,some (160,true)⟩,
 ⟨some 164,.bin .eql (.t 163) (.c (.int .i64 12)),some (160,true)⟩,
 ⟨some 165,.pick (.t 160) (.t 164) (.c (.bool false)),none⟩,
 ⟨some 166,.mv false (.t 165),none⟩,
 ⟨some 167,.mv false (.t 3),some (166,true)⟩,
 ⟨some 168,.call (.c (.fn f_zz26)) [(.t 167)] 0,some (166,true)⟩,
 ⟨some 169,.pick (.t 166) (.t 168) (.c (.bool false)),none⟩,
 ⟨some 16,.mv true (.t 169),none⟩]
abbrev zz12_r30:List AI:=[
 ⟨some 171,.mv false (.t 3),none⟩,
 ⟨some 172,.call (.c (.fn f_zz29)) [(.t 171),(.c (.int .i64 0))] 0,none⟩,
 ⟨some 170,.mv false (.t 172),none⟩,
 ⟨some 173,.ext (.t 170) 0,none⟩,
 ⟨some 174,.ext (.t 170) 1,none⟩,
 ⟨some 14,.mv true (.t 174),none⟩]
abbrev zz12_r31:List AI:=[
 ⟨some 175,.mv false (.t 12),none⟩,
 ⟨some 176,.mv false (.t 175),none⟩,
 ⟨some 177,.mv false (.t 15),some (176,true)⟩,
 ⟨some 178,.pick (.t 176) (.t 177) (.c (.bool false)),none⟩,
 ⟨some 179,.mv false (.t 178),none⟩,
 ⟨some 180,.mv false (.t 16),some (179,true)⟩,
 ⟨some 181,.pick (.t 179) (.t 180) (.c (.bool false)),none⟩,
 ⟨some 182,.mv false (.t 181),none⟩,
 ⟨some 183,.mv false (.t 14),some (182,true)⟩,
 ⟨some 184,.bin .eql (.t 183) (.c (.int .i64 12)),some (182,true)⟩,
 ⟨some 185,.pick (.t 182) (.t 184) (.c (.bool false)),none⟩,
 ⟨some 0,.mv true (.t 185),none⟩]
abbrev zz12_c:ACode:=.seq (.reg false zz12_r0) (.seq (.reg false zz12_r1) (.seq (.reg false zz12_r2) (.seq (.seq (.reg false zz12_r3) (.cond (.t 27) (.seq (.reg false zz12_r4) (.ret)) (.skip))) (.seq (.reg false zz12_r5) (.seq (.seq (.reg false zz12_r6) (.cond (.t 52) (.seq (.reg false zz12_r7) (.ret)) (.skip))) (.seq (.reg false zz12_r8) (.seq (.reg true zz12_r9) (.seq (.seq (.reg false zz12_r10) (.block 0 (.loop zz12_l0))) (.seq (.seq (.reg false zz12_r20) (.cond (.t 114) (.seq (.reg false zz12_r21) (.ret)) (.skip))) (.seq (.reg false zz12_r22) (.seq (.reg false zz12_r23) (.seq (.reg false zz12_r24) (.seq (.reg false zz12_r25) (.seq (.reg false zz12_r26) (.seq (.reg false zz12_r27) (.seq (.reg false zz12_r28) (.seq (.reg false zz12_r29) (.seq (.reg false zz12_r30) (.seq (.reg false zz12_r31) (.ret))))))))))))))))))))
def zz12_F:AFunc:=⟨186,[.tmp 0],zz12_c⟩
theorem zz12_cp:compile Try.prog [1,6] f_zz12=some zz12_F:=by kernel_rfl
abbrev zz19_r0:List AI:=[
 ⟨some 2,.mv true (.c .nilP),none⟩]
abbrev zz19_r1:List AI:=[
 ⟨some 3,.mv false (.t 0),none⟩,
 ⟨some 4,.bin .lss (.t 3) (.c (.int .i64 1)),none⟩,
 ⟨some 5,.mv false (.t 4),none⟩,
 ⟨some 6,.mv false (.t 0),some (5,false)⟩,
 ⟨some 7,.bin .gtr (.t 6) (.c (.int .i64 65536)),some (5,false)⟩,
 ⟨some 8,.pick (.t 5) (.c (.bool true)) (.t 7),none⟩]
abbrev zz19_r2:List AI:=[
 ⟨some 2,.mv true (.c .nilP),none⟩]
abbrev zz19_r3:List AI:=[
 ⟨some 9,.mv false (.t 0),none⟩,
 ⟨some 10,.gn (.mkSl 66 96 (zr 64 (.int .u8 0) ++ [(.bool false),.nilS])) [(.t 9),(.t 9)],none⟩,
 ⟨some 11,.build [.nilS,(.int .i64 0),(.int .i64 0),(.bool false)] [(0,1,(.t 10)),(2,1,(.c (.int .i64 (-1))))],none⟩,
 ⟨some 12,.gn (.box 4) [(.t 11)],none⟩,
 ⟨some 2,.mv true (.t 12),none⟩]
abbrev zz19_c:ACode:=.seq (.reg false zz19_r0) (.seq (.seq (.reg false zz19_r1) (.cond (.t 8) (.seq (.reg false zz19_r2) (.ret)) (.skip))) (.seq (.reg false zz19_r3) (.ret)))
def zz19_F:AFunc:=⟨13,[.tmp 2],zz19_c⟩
theorem zz19_cp:compile Try.prog [12] f_zz19=some zz19_F:=by kernel_rfl
abbrev zz16_r0:List AI:=[
 ⟨some 5,.box 3 (.t 2),none⟩,
 ⟨some 6,.mv true (.c .nilP),none⟩,
 ⟨some 7,.mv true (.c .nilP),none⟩,
 ⟨some 8,.mv true (.c (.bool false)),none⟩]
abbrev zz16_r1:List AI:=[
 ⟨some 12,.faddr 0 (.t 5),none⟩,
 ⟨some 13,.load false 1 (.t 12) .any,none⟩]
abbrev zz16_r2:List AI:=[
 ⟨some 15,.bin .eql (.t 13) (.c (.int .i64 0)),none⟩,
 ⟨some 14,.mv true (.t 15),none⟩]
abbrev zz16_r3:List AI:=[
 ⟨some 16,.mv false (.t 0),none⟩,
 ⟨some 17,.mv false (.t 1),none⟩,
 ⟨some 18,.mv false (.t 0),none⟩,
 ⟨some 19,.faddr 1 (.t 5),none⟩,
 ⟨some 20,.load false 1 (.t 19) (.site 5),none⟩,
 ⟨some 21,.faddr 2 (.t 5),none⟩,
 ⟨some 22,.load false 1 (.t 21) (.site 5),none⟩,
 ⟨some 25,.mv false (.t 1),none⟩,
 ⟨some 26,.faddr 1 (.t 5),none⟩,
 ⟨some 27,.load false 1 (.t 26) (.site 5),none⟩,
 ⟨some 28,.faddr 2 (.t 5),none⟩,
 ⟨some 29,.load false 1 (.t 28) (.site 5),none⟩,
 ⟨some 23,.call (.c (.fn f_zz13)) [(.t 22)] 2,none⟩,
 ⟨some 24,.call (.c (.fn f_zz22)) [(.t 18),(.t 20),(.t 23)] 2,none⟩,
 ⟨some 30,.call (.c (.fn f_zz13)) [(.t 29)] 2,none⟩,
 ⟨some 31,.call (.c (.fn f_zz2)) [(.t 25),(.t 27),(.t 30)] 2,none⟩,
 ⟨some 32,.bin .eql (.t 24) (.t 31),none⟩,
 ⟨some 6,.mv true (.t 16),none⟩,
 ⟨some 7,.mv true (.t 17),none⟩,
 ⟨some 8,.mv true (.t 32),none⟩]
abbrev zz16_r4:List AI:=[
 ⟨some 34,.bin .eql (.t 13) (.c (.int .i64 1)),none⟩,
 ⟨some 33,.mv true (.t 34),none⟩]
abbrev zz16_r5:List AI:=[
 ⟨some 35,.mv false (.t 0),none⟩,
 ⟨some 36,.mv false (.t 1),none⟩,
 ⟨some 37,.mv false (.t 0),none⟩,
 ⟨some 38,.call (.c (.fn f_zz31)) [(.t 37)] 0,none⟩,
 ⟨some 39,.mv false (.t 1),none⟩,
 ⟨some 40,.call (.c (.fn f_zz7)) [(.t 39)] 0,none⟩,
 ⟨some 41,.bin .eql (.t 38) (.t 40),none⟩,
 ⟨some 6,.mv true (.t 35),none⟩,
 ⟨some 7,.mv true (.t 36),none⟩,
 ⟨some 8,.mv true (.t 41),none⟩]
abbrev zz16_r6:List AI:=[
 ⟨some 43,.bin .eql (.t 13) (.c (.int .i64 2)),none⟩,
 ⟨some 42,.mv true (.t 43),none⟩]
abbrev zz16_r7:List AI:=[
 ⟨some 45,.mv false (.t 0),none⟩,
 ⟨some 46,.faddr 1 (.t 5),none⟩,
 ⟨some 47,.load false 1 (.t 46) .any,none⟩,
 ⟨some 48,.call (.c (.fn f_zz29)) [(.t 45),(.t 47)] 0,none⟩,
 ⟨some 44,.mv false (.t 48),none⟩,
 ⟨some 49,.ext (.t 44) 0,none⟩,
 ⟨some 50,.ext (.t 44) 1,none⟩,
 ⟨some 9,.alloc (zr 64 (.int .u8 0)),none⟩,
 ⟨none,.store 64 (.t 9) (.t 49) .any,none⟩,
 ⟨some 10,.mv true (.t 50),none⟩]
abbrev zz16_r8:List AI:=[
 ⟨some 51,.mv false (.t 1),none⟩,
 ⟨some 52,.faddr 1 (.t 5),none⟩,
 ⟨some 53,.load false 1 (.t 52) .any,none⟩,
 ⟨some 54,.call (.c (.fn f_zz6)) [(.t 51),(.t 53)] 0,none⟩,
 ⟨some 11,.alloc (zr 64 (.int .u8 0) ++ [(.int .i64 0)]),none⟩,
 ⟨none,.store 65 (.t 11) (.t 54) .any,none⟩]
abbrev zz16_r9:List AI:=[
 ⟨some 55,.mv false (.t 0),none⟩,
 ⟨some 56,.mv false (.t 1),none⟩,
 ⟨some 57,.load true 64 (.t 9) (.site 9),none⟩,
 ⟨some 58,.faddr 0 (.t 11),none⟩,
 ⟨some 59,.load true 64 (.t 58) (.site 11),none⟩,
 ⟨some 60,.eqs false (kr 64 .i) (.t 57) (.t 59),none⟩,
 ⟨some 61,.mv false (.t 60),none⟩,
 ⟨some 62,.mv false (.t 10),some (61,true)⟩,
 ⟨some 63,.faddr 64 (.t 11),some (61,true)⟩,
 ⟨some 64,.load false 1 (.t 63) (.site 11),some (61,true)⟩,
 ⟨some 65,.bin .eql (.t 62) (.t 64),some (61,true)⟩,
 ⟨some 66,.pick (.t 61) (.t 65) (.c (.bool false)),none⟩,
 ⟨some 6,.mv true (.t 55),none⟩,
 ⟨some 7,.mv true (.t 56),none⟩,
 ⟨some 8,.mv true (.t 66),none⟩]
abbrev zz16_b0:ACode:=.seq (.reg false zz16_r7) (.seq (.reg false zz16_r8) (.seq (.reg true zz16_r9) (.ret)))
abbrev zz16_r10:List AI:=[
 ⟨some 68,.bin .eql (.t 13) (.c (.int .i64 3)),none⟩,
 ⟨some 67,.mv true (.t 68),none⟩]
abbrev zz16_r11:List AI:=[
 ⟨some 69,.mv false (.t 0),none⟩,
 ⟨some 70,.faddr 2 (.t 5),none⟩,
 ⟨some 71,.load false 1 (.t 70) .any,none⟩,
 ⟨some 72,.call (.c (.fn f_zz33)) [(.t 69),(.t 71)] 0,none⟩]
abbrev zz16_r12:List AI:=[
 ⟨some 73,.mv false (.t 1),none⟩,
 ⟨some 74,.faddr 2 (.t 5),none⟩,
 ⟨some 75,.load false 1 (.t 74) .any,none⟩,
 ⟨some 76,.call (.c (.fn f_zz9)) [(.t 73),(.t 75)] 0,none⟩]
abbrev zz16_r13:List AI:=[
 ⟨some 78,.bin .eql (.t 13) (.c (.int .i64 4)),none⟩,
 ⟨some 77,.mv true (.t 78),none⟩]
abbrev zz16_r14:List AI:=[
 ⟨some 79,.mv false (.t 0),none⟩,
 ⟨some 80,.faddr 1 (.t 5),none⟩,
 ⟨some 81,.load false 1 (.t 80) (.site 5),none⟩,
 ⟨some 82,.faddr 2 (.t 5),none⟩,
 ⟨some 83,.load false 1 (.t 82) (.site 5),none⟩,
 ⟨some 84,.mkslice 1 2 (.int .i64 0) [(0,(.t 81)),(1,(.t 83))],none⟩,
 ⟨some 86,.mv false (.t 1),none⟩,
 ⟨some 87,.faddr 1 (.t 5),none⟩,
 ⟨some 88,.load false 1 (.t 87) (.site 5),none⟩,
 ⟨some 89,.faddr 2 (.t 5),none⟩,
 ⟨some 90,.load false 1 (.t 89) (.site 5),none⟩,
 ⟨some 91,.mkslice 1 2 (.int .i64 0) [(0,(.t 88)),(1,(.t 90))],none⟩,
 ⟨some 85,.call (.c (.fn f_zz20)) [(.t 79),(.t 84)] 2,none⟩,
 ⟨some 92,.call (.c (.fn f_zz1)) [(.t 86),(.t 91)] 2,none⟩,
 ⟨some 0,.mv true (.t 85),none⟩,
 ⟨some 1,.mv true (.t 92),none⟩]
abbrev zz16_r15:List AI:=[
 ⟨some 93,.mv false (.t 0),none⟩,
 ⟨some 94,.gd (.pnil 0 false) [(.t 93)],none⟩]
abbrev zz16_r16:List AI:=[
 ⟨some 95,.mv false (.t 0),none⟩,
 ⟨some 96,.mv false (.t 1),none⟩,
 ⟨some 6,.mv true (.t 95),none⟩,
 ⟨some 7,.mv true (.t 96),none⟩,
 ⟨some 8,.mv true (.c (.bool false)),none⟩]
abbrev zz16_b1:ACode:=.seq (.reg true zz16_r14) (.seq (.reg false zz16_r15) (.cond (.t 94) (.seq (.reg false zz16_r16) (.ret)) (.skip)))
abbrev zz16_r17:List AI:=[
 ⟨some 98,.bin .eql (.t 13) (.c (.int .i64 5)),none⟩,
 ⟨some 97,.mv true (.t 98),none⟩]
abbrev zz16_r18:List AI:=[
 ⟨some 99,.mv false (.t 0),none⟩,
 ⟨some 100,.mv false (.t 1),none⟩,
 ⟨some 101,.mv false (.t 0),none⟩,
 ⟨some 102,.faddr 1 (.t 5),none⟩,
 ⟨some 103,.load false 1 (.t 102) (.site 5),none⟩,
 ⟨some 104,.faddr 2 (.t 5),none⟩,
 ⟨some 105,.load false 1 (.t 104) (.site 5),none⟩,
 ⟨some 107,.mv false (.t 1),none⟩,
 ⟨some 108,.faddr 1 (.t 5),none⟩,
 ⟨some 109,.load false 1 (.t 108) (.site 5),none⟩,
 ⟨some 110,.faddr 2 (.t 5),none⟩,
 ⟨some 111,.load false 1 (.t 110) (.site 5),none⟩,
 ⟨some 106,.call (.c (.fn f_zz27)) [(.t 101),(.t 103),(.t 105)] 2,none⟩,
 ⟨some 112,.call (.c (.fn f_zz4)) [(.t 107),(.t 109),(.t 111)] 2,none⟩,
 ⟨some 113,.bin .eql (.t 106) (.t 112),none⟩,
 ⟨some 6,.mv true (.t 99),none⟩,
 ⟨some 7,.mv true (.t 100),none⟩,
 ⟨some 8,.mv true (.t 113),none⟩]
abbrev zz16_r19:List AI:=[
 ⟨some 115,.bin .eql (.t 13) (.c (.int .i64 6)),none⟩,
 ⟨some 114,.mv true (.t 115),none⟩]
abbrev zz16_r20:List AI:=[
 ⟨some 116,.mv false (.t 0),none⟩,
 ⟨some 117,.mv false (.t 1),none⟩,
 ⟨some 118,.mv false (.t 0),none⟩,
 ⟨some 119,.faddr 1 (.t 5),none⟩,
 ⟨some 120,.load false 1 (.t 119) (.site 5),none⟩,
 ⟨some 122,.mv false (.t 1),none⟩,
 ⟨some 123,.faddr 1 (.t 5),none⟩,
 ⟨some 124,.load false 1 (.t 123) (.site 5),none⟩,
 ⟨some 121,.call (.c (.fn f_zz34)) [(.t 118),(.t 120)] 2,none⟩,
 ⟨some 125,.call (.c (.fn f_zz10)) [(.t 122),(.t 124)] 2,none⟩,
 ⟨some 126,.bin .eql (.t 121) (.t 125),none⟩,
 ⟨some 6,.mv true (.t 116),none⟩,
 ⟨some 7,.mv true (.t 117),none⟩,
 ⟨some 8,.mv true (.t 126),none⟩]
abbrev zz16_b2:ACode:=.seq (.reg false zz16_r19) (.cond (.t 114) (.seq (.reg true zz16_r20) (.ret)) (.skip))
abbrev zz16_b3:ACode:=.seq (.reg false zz16_r17) (.cond (.t 97) (.seq (.reg true zz16_r18) (.ret)) (zz16_b2))
abbrev zz16_b4:ACode:=.seq (.reg false zz16_r13) (.cond (.t 77) (zz16_b1) (zz16_b3))
abbrev zz16_b5:ACode:=.seq (.reg false zz16_r10) (.cond (.t 67) (.seq (.reg false zz16_r11) (.reg false zz16_r12)) (zz16_b4))
abbrev zz16_b6:ACode:=.seq (.reg false zz16_r6) (.cond (.t 42) (zz16_b0) (zz16_b5))
abbrev zz16_b7:ACode:=.seq (.reg false zz16_r4) (.cond (.t 33) (.seq (.reg false zz16_r5) (.ret)) (zz16_b6))
abbrev zz16_r21:List AI:=[
 ⟨some 127,.mv false (.t 0),none⟩,
 ⟨some 128,.mv false (.t 1),none⟩,
 ⟨some 129,.mv false (.t 0),none⟩,
 ⟨some 131,.mv false (.t 1),none⟩,
 ⟨some 132,.nilck (.t 131),none⟩,
 ⟨some 133,.faddr 0 (.t 132),none⟩,
 ⟨some 134,.load false 1 (.t 133) .foreign,none⟩,
 ⟨some 135,.len false (.t 134),none⟩,
 ⟨some 130,.call (.c (.fn f_zz30)) [(.t 129)] 1,none⟩,
 ⟨some 136,.bin .eql (.t 130) (.t 135),none⟩,
 ⟨some 137,.mv false (.t 136),none⟩,
 ⟨some 138,.mv false (.t 0),some (137,true)⟩,
 ⟨some 140,.mv false (.t 1),some (137,true)⟩,
 ⟨some 141,.nilck (.t 140),some (137,true)⟩,
 ⟨some 142,.faddr 1 (.t 141),some (137,true)⟩,
 ⟨some 143,.load false 1 (.t 142) .foreign,some (137,true)⟩,
 ⟨some 139,.call (.c (.fn f_zz21)) [(.t 138)] 1,some (137,true)⟩,
 ⟨some 144,.bin .eql (.t 139) (.t 143),some (137,true)⟩,
 ⟨some 145,.pick (.t 137) (.t 144) (.c (.bool false)),none⟩,
 ⟨some 146,.mv false (.t 145),none⟩,
 ⟨some 147,.mv false (.t 0),some (146,true)⟩,
 ⟨some 149,.mv false (.t 1),some (146,true)⟩,
 ⟨some 150,.nilck (.t 149),some (146,true)⟩,
 ⟨some 151,.faddr 3 (.t 150),some (146,true)⟩,
 ⟨some 152,.load false 1 (.t 151) .foreign,some (146,true)⟩,
 ⟨some 148,.call (.c (.fn f_zz26)) [(.t 147)] 1,some (146,true)⟩,
 ⟨some 153,.eqb false (.t 148) (.t 152),some (146,true)⟩,
 ⟨some 154,.pick (.t 146) (.t 153) (.c (.bool false)),none⟩,
 ⟨some 155,.mv false (.t 154),none⟩,
 ⟨some 156,.mv false (.t 0),some (155,true)⟩,
 ⟨some 158,.mv false (.t 1),some (155,true)⟩,
 ⟨some 157,.call (.c (.fn f_zz28)) [(.t 156)] 1,some (155,true)⟩,
 ⟨some 159,.call (.c (.fn f_zz5)) [(.t 158)] 1,some (155,true)⟩,
 ⟨some 160,.call (.c (.fn f_zz17)) [(.t 157),(.t 159)] 1,some (155,true)⟩,
 ⟨some 161,.pick (.t 155) (.t 160) (.c (.bool false)),none⟩,
 ⟨some 6,.mv true (.t 127),none⟩,
 ⟨some 7,.mv true (.t 128),none⟩,
 ⟨some 8,.mv true (.t 161),none⟩]
abbrev zz16_c:ACode:=.seq (.reg false zz16_r0) (.seq (.seq (.reg false zz16_r1) (.block 0 (.seq (.reg false zz16_r2) (.cond (.t 14) (.seq (.reg true zz16_r3) (.ret)) (zz16_b7))))) (.seq (.reg true zz16_r21) (.ret)))
def zz16_F:AFunc:=⟨162,[.tmp 6,.tmp 7,.tmp 8],zz16_c⟩
theorem zz16_cp:compile Try.prog [] f_zz16=some zz16_F:=by kernel_rfl
abbrev zz6_r0:List AI:=[
 ⟨some 4,.alloc (zr 64 (.int .u8 0) ++ [(.int .i64 0)]),none⟩]
abbrev zz6_r1:List AI:=[
 ⟨some 7,.mv false (.t 0),none⟩,
 ⟨some 8,.mv false (.t 1),none⟩,
 ⟨some 9,.call (.c (.fn f_zz3)) [(.t 7),(.t 8)] 0,none⟩,
 ⟨some 5,.mv true (.t 9),none⟩]
abbrev zz6_r2:List AI:=[
 ⟨some 10,.mv false (.t 5),none⟩,
 ⟨some 11,.bin .neq (.t 10) (.c (.int .i64 0)),none⟩]
abbrev zz6_r3:List AI:=[
 ⟨some 12,.mv false (.t 5),none⟩,
 ⟨some 13,.build (zr 64 (.int .u8 0) ++ [(.int .i64 0)]) [(64,1,(.t 12))],none⟩,
 ⟨none,.store 65 (.t 4) (.t 13) .any,none⟩]
abbrev zz6_r4:List AI:=[
 ⟨some 14,.mv false (.t 0),none⟩,
 ⟨some 15,.nilck (.t 14),none⟩,
 ⟨some 16,.faddr 0 (.t 15),none⟩,
 ⟨some 17,.load false 1 (.t 16) .any,none⟩,
 ⟨some 18,.mv false (.t 1),none⟩,
 ⟨some 19,.iaddr 66 (.t 17) (.t 18),none⟩,
 ⟨some 20,.load true 66 (.t 19) .any,none⟩,
 ⟨some 6,.alloc (zr 64 (.int .u8 0) ++ [(.bool false),.nilS]),none⟩,
 ⟨none,.store 66 (.t 6) (.t 20) .any,none⟩]
abbrev zz6_r5:List AI:=[
 ⟨some 21,.faddr 65 (.t 6),none⟩,
 ⟨some 22,.load false 1 (.t 21) .any,none⟩,
 ⟨some 23,.len false (.t 22),none⟩,
 ⟨some 24,.bin .gtr (.t 23) (.c (.int .i64 0)),none⟩]
abbrev zz6_r6:List AI:=[
 ⟨some 25,.faddr 65 (.t 6),none⟩,
 ⟨some 26,.load false 1 (.t 25) .any,none⟩,
 ⟨some 27,.faddr 65 (.t 6),none⟩,
 ⟨some 28,.load false 1 (.t 27) .any,none⟩,
 ⟨some 29,.len false (.t 28),none⟩,
 ⟨some 30,.bin .sub (.t 29) (.c (.int .i64 1)),none⟩,
 ⟨some 31,.iaddr 64 (.t 26) (.t 30),none⟩,
 ⟨some 32,.load true 64 (.t 31) .any,none⟩,
 ⟨some 33,.build (zr 64 (.int .u8 0) ++ [(.int .i64 0)]) [(0,64,(.t 32))],none⟩,
 ⟨none,.store 65 (.t 4) (.t 33) .any,none⟩]
abbrev zz6_r7:List AI:=[
 ⟨some 34,.faddr 64 (.t 6),none⟩,
 ⟨some 35,.load false 1 (.t 34) .any,none⟩]
abbrev zz6_r8:List AI:=[
 ⟨some 36,.build (zr 64 (.int .u8 0) ++ [(.int .i64 0)]) [(64,1,(.c (.int .i64 14)))],none⟩,
 ⟨none,.store 65 (.t 4) (.t 36) .any,none⟩]
abbrev zz6_r9:List AI:=[
 ⟨some 37,.faddr 0 (.t 6),none⟩,
 ⟨some 38,.load true 64 (.t 37) .any,none⟩,
 ⟨some 39,.build (zr 64 (.int .u8 0) ++ [(.int .i64 0)]) [(0,64,(.t 38))],none⟩,
 ⟨none,.store 65 (.t 4) (.t 39) .any,none⟩]
abbrev zz6_c:ACode:=.seq (.reg false zz6_r0) (.seq (.reg false zz6_r1) (.seq (.seq (.reg false zz6_r2) (.cond (.t 11) (.seq (.reg false zz6_r3) (.ret)) (.skip))) (.seq (.reg false zz6_r4) (.seq (.seq (.reg false zz6_r5) (.cond (.t 24) (.seq (.reg false zz6_r6) (.ret)) (.skip))) (.seq (.seq (.reg false zz6_r7) (.cond (.t 35) (.seq (.reg false zz6_r8) (.ret)) (.skip))) (.seq (.reg false zz6_r9) (.ret)))))))
def zz6_F:AFunc:=⟨40,[.cell 4 true 65],zz6_c⟩
theorem zz6_cp:compile Try.prog [] f_zz6=some zz6_F:=by kernel_rfl
-- loop 0: [1, 5, 6, 7, 8, 9, 17, 18, 19, 58]
-- loop 1: [1, 5, 6, 7, 8, 9, 17, 18, 19]
-- loop 0: [0, 1, 5, 25, 26, 27]
abbrev zz20_r0:List AI:=[
 ⟨some 4,.mv true (.c .nilP),none⟩]
abbrev zz20_r1:List AI:=[
 ⟨some 9,.mv false (.t 0),none⟩,
 ⟨some 10,.nilck (.t 9),none⟩,
 ⟨some 11,.faddr 0 (.t 10),none⟩,
 ⟨some 12,.load false 1 (.t 11) .any,none⟩,
 ⟨some 13,.len false (.t 12),none⟩,
 ⟨some 14,.call (.c (.fn f_zz37)) [(.t 13)] 0,none⟩,
 ⟨some 5,.mv true (.t 14),none⟩]
abbrev zz20_r2:List AI:=[
 ⟨some 15,.mv false (.t 5),none⟩,
 ⟨some 16,.nilck (.t 15),none⟩,
 ⟨some 17,.faddr 0 (.t 16),none⟩,
 ⟨some 18,.load false 1 (.t 17) .foreign,none⟩,
 ⟨some 19,.mv false (.t 0),none⟩,
 ⟨some 20,.nilck (.t 19),none⟩,
 ⟨some 21,.faddr 0 (.t 20),none⟩,
 ⟨some 22,.load false 1 (.t 21) .foreign,none⟩,
 ⟨some 23,.copy 65 (.t 18) (.t 22),none⟩]
abbrev zz20_r3:List AI:=[
 ⟨some 24,.mv false (.t 0),none⟩,
 ⟨some 25,.call (.c (.fn f_zz15)) [(.t 24)] 0,none⟩,
 ⟨some 26,.len false (.t 25),none⟩,
 ⟨some 27,.mv false (.c (.int .i64 0)),none⟩]
abbrev zz20_r4:List AI:=[
 ⟨some 28,.bin .lss (.t 27) (.t 26),none⟩]
abbrev zz20_r5:List AI:=[
 ⟨some 29,.mv false (.t 27),none⟩,
 ⟨some 30,.iaddr 1 (.t 25) (.t 27),none⟩,
 ⟨some 31,.load false 1 (.t 30) .any,none⟩,
 ⟨some 6,.mv true (.t 29),none⟩,
 ⟨some 7,.mv true (.t 31),none⟩]
abbrev zz20_r6:List AI:=[
 ⟨some 8,.mv true (.c (.int .i64 0)),none⟩]
abbrev zz20_r7:List AI:=[
 ⟨some 32,.mv false (.t 1),none⟩,
 ⟨some 33,.len false (.t 32),none⟩,
 ⟨some 34,.bin .gtr (.t 33) (.c (.int .i64 0)),none⟩]
abbrev zz20_r8:List AI:=[
 ⟨some 35,.mv false (.t 1),none⟩,
 ⟨some 36,.mv false (.t 6),none⟩,
 ⟨some 37,.mv false (.t 1),none⟩,
 ⟨some 38,.len false (.t 37),none⟩,
 ⟨some 39,.bin .rem (.t 36) (.t 38),none⟩,
 ⟨some 40,.iaddr 1 (.t 35) (.t 39),none⟩,
 ⟨some 41,.load false 1 (.t 40) .any,none⟩,
 ⟨some 8,.mv true (.t 41),none⟩]
abbrev zz20_r9:List AI:=[
 ⟨some 42,.mv false (.t 5),none⟩,
 ⟨some 43,.nilck (.t 42),none⟩,
 ⟨some 44,.faddr 0 (.t 43),none⟩,
 ⟨some 45,.load false 1 (.t 44) .foreign,none⟩,
 ⟨some 46,.mv false (.t 7),none⟩,
 ⟨some 47,.mv false (.t 0),none⟩,
 ⟨some 48,.nilck (.t 47),none⟩,
 ⟨some 49,.faddr 0 (.t 48),none⟩,
 ⟨some 50,.load false 1 (.t 49) .foreign,none⟩,
 ⟨some 51,.mv false (.t 7),none⟩,
 ⟨some 52,.iaddr 65 (.t 50) (.t 51),none⟩,
 ⟨some 53,.load true 65 (.t 52) .foreign,none⟩,
 ⟨some 54,.mv false (.t 0),none⟩,
 ⟨some 55,.nilck (.t 54),none⟩,
 ⟨some 56,.faddr 1 (.t 55),none⟩,
 ⟨some 57,.load false 1 (.t 56) .foreign,none⟩,
 ⟨some 58,.mv false (.t 7),none⟩,
 ⟨some 59,.gd (.mlook [.i] .nilS false) [(.t 57),(.t 58)],none⟩,
 ⟨some 60,.mv false (.t 8),none⟩,
 ⟨some 61,.call (.c (.fn f_zz36)) [(.t 53),(.t 59),(.t 60)] 1,none⟩,
 ⟨some 62,.iaddr 65 (.t 45) (.t 46),none⟩,
 ⟨none,.store 65 (.t 62) (.t 61) .gp,none⟩]
abbrev zz20_r10:List AI:=[
 ⟨some 63,.bin .add (.t 27) (.c (.int .i64 1)),none⟩,
 ⟨some 27,.mv false (.t 63),none⟩]
abbrev zz20_l0:ACode:=.seq (.reg false zz20_r4) (.seq (.cond (.t 28) (.skip) (.exit 0)) (.seq (.block 1 (.seq (.reg false zz20_r5) (.seq (.reg false zz20_r6) (.seq (.seq (.reg false zz20_r7) (.cond (.t 34) (.reg false zz20_r8) (.skip))) (.reg true zz20_r9))))) (.reg false zz20_r10)))
abbrev zz20_r11:List AI:=[
 ⟨some 64,.mv false (.t 5),none⟩,
 ⟨some 4,.mv true (.t 64),none⟩]
abbrev zz20_c:ACode:=.seq (.reg false zz20_r0) (.seq (.reg false zz20_r1) (.seq (.reg true zz20_r2) (.seq (.seq (.reg false zz20_r3) (.block 0 (.loop zz20_l0))) (.seq (.reg false zz20_r11) (.ret)))))
def zz20_F:AFunc:=⟨65,[.tmp 4],zz20_c⟩
theorem zz20_cp:compile Try.prog [] f_zz20=some zz20_F:=by kernel_rfl
abbrev zz30_r0:List AI:=[
 ⟨some 2,.mv true (.c (.int .i64 0)),none⟩]
abbrev zz30_r1:List AI:=[
 ⟨some 3,.mv false (.t 0),none⟩,
 ⟨some 4,.nilck (.t 3),none⟩,
 ⟨some 5,.faddr 0 (.t 4),none⟩,
 ⟨some 6,.load false 1 (.t 5) .any,none⟩,
 ⟨some 7,.len false (.t 6),none⟩,
 ⟨some 2,.mv true (.t 7),none⟩]
abbrev zz30_c:ACode:=.seq (.reg false zz30_r0) (.seq (.reg false zz30_r1) (.ret))
def zz30_F:AFunc:=⟨8,[.tmp 2],zz30_c⟩
theorem zz30_cp:compile Try.prog [] f_zz30=some zz30_F:=by kernel_rfl
abbrev zz26_r0:List AI:=[
 ⟨some 2,.mv true (.c (.bool false)),none⟩]
abbrev zz26_r1:List AI:=[
 ⟨some 3,.mv false (.t 0),none⟩,
 ⟨some 4,.nilck (.t 3),none⟩,
 ⟨some 5,.faddr 4 (.t 4),none⟩,
 ⟨some 6,.load false 1 (.t 5) .any,none⟩,
 ⟨some 2,.mv true (.t 6),none⟩]
abbrev zz26_c:ACode:=.seq (.reg false zz26_r0) (.seq (.reg false zz26_r1) (.ret))
def zz26_F:AFunc:=⟨7,[.tmp 2],zz26_c⟩
theorem zz26_cp:compile Try.prog [] f_zz26=some zz26_F:=by kernel_rfl
abbrev zz21_r0:List AI:=[
 ⟨some 2,.mv true (.c (.int .i64 0)),none⟩]
abbrev zz21_r1:List AI:=[
 ⟨some 3,.mv false (.t 0),none⟩,
 ⟨some 4,.nilck (.t 3),none⟩,
 ⟨some 5,.faddr 2 (.t 4),none⟩,
 ⟨some 6,.load false 1 (.t 5) .any,none⟩,
 ⟨some 2,.mv true (.t 6),none⟩]
abbrev zz21_c:ACode:=.seq (.reg false zz21_r0) (.seq (.reg false zz21_r1) (.ret))
def zz21_F:AFunc:=⟨7,[.tmp 2],zz21_c⟩
theorem zz21_cp:compile Try.prog [] f_zz21=some zz21_F:=by kernel_rfl
-- loop 0: [0, 3, 7, 8, 9]
abbrev zz28_r0:List AI:=[
 ⟨some 2,.mv true (.c .nilS),none⟩]
abbrev zz28_r1:List AI:=[
 ⟨some 3,.mv true (.c .nilS),none⟩]
abbrev zz28_r2:List AI:=[
 ⟨some 6,.mv false (.t 0),none⟩,
 ⟨some 7,.call (.c (.fn f_zz15)) [(.t 6)] 0,none⟩,
 ⟨some 8,.len false (.t 7),none⟩,
 ⟨some 9,.mv false (.c (.int .i64 0)),none⟩]
abbrev zz28_r3:List AI:=[
 ⟨some 10,.bin .lss (.t 9) (.t 8),none⟩]
abbrev zz28_r4:List AI:=[
 ⟨some 11,.iaddr 1 (.t 7) (.t 9),none⟩,
 ⟨some 12,.load false 1 (.t 11) .any,none⟩,
 ⟨some 5,.mv true (.t 12),none⟩]
abbrev zz28_r5:List AI:=[
 ⟨some 13,.mv true (.t 3),none⟩,
 ⟨some 14,.mv false (.t 5),none⟩,
 ⟨some 15,.mkslice 1 1 (.int .i64 0) [(0,(.t 14))],none⟩,
 ⟨some 16,.mv false (.t 0),none⟩,
 ⟨some 17,.nilck (.t 16),none⟩,
 ⟨some 18,.faddr 1 (.t 17),none⟩,
 ⟨some 19,.load false 1 (.t 18) .any,none⟩,
 ⟨some 20,.mv false (.t 5),none⟩,
 ⟨some 21,.gd (.mlook [.i] .nilS false) [(.t 19),(.t 20)],none⟩,
 ⟨some 22,.len false (.t 21),none⟩,
 ⟨some 23,.call (.c (.fn f_zz11)) [(.t 15),(.t 22)] 0,none⟩,
 ⟨some 24,.append 1 8 (.t 13) (.t 23),none⟩,
 ⟨some 3,.mv true (.t 24),none⟩]
abbrev zz28_r6:List AI:=[
 ⟨some 25,.bin .add (.t 9) (.c (.int .i64 1)),none⟩,
 ⟨some 9,.mv false (.t 25),none⟩]
abbrev zz28_l0:ACode:=.seq (.reg false zz28_r3) (.seq (.cond (.t 10) (.skip) (.exit 0)) (.seq (.block 1 (.seq (.reg false zz28_r4) (.reg false zz28_r5))) (.reg false zz28_r6)))
abbrev zz28_r7:List AI:=[
 ⟨some 26,.mv false (.t 3),none⟩,
 ⟨some 2,.mv true (.t 26),none⟩]
abbrev zz28_c:ACode:=.seq (.reg false zz28_r0) (.seq (.reg false zz28_r1) (.seq (.seq (.reg false zz28_r2) (.block 0 (.loop zz28_l0))) (.seq (.reg false zz28_r7) (.ret))))
def zz28_F:AFunc:=⟨27,[.tmp 2],zz28_c⟩
theorem zz28_cp:compile Try.prog [] f_zz28=some zz28_F:=by kernel_rfl
-- loop 0: [1, 3, 4, 6, 9, 27, 28, 29]
abbrev zz33_r0:List AI:=[
 ⟨some 4,.mv false (.t 0),none⟩,
 ⟨some 5,.mv false (.t 1),none⟩,
 ⟨some 6,.mx (.t 5) (.c (.int .i64 (-1))),none⟩,
 ⟨some 7,.nilck (.t 4),none⟩,
 ⟨some 8,.faddr 3 (.t 7),none⟩,
 ⟨none,.store 1 (.t 8) (.t 6) .any,none⟩]
abbrev zz33_c:ACode:=.reg false zz33_r0
def zz33_F:AFunc:=⟨9,[],zz33_c⟩
theorem zz33_cp:compile Try.prog [] f_zz33=some zz33_F:=by kernel_rfl
-- loop 0: [0, 19]
abbrev zz31_r0:List AI:=[
 ⟨some 2,.mv true (.c (.int .i64 0)),none⟩]
abbrev zz31_r1:List AI:=[
 ⟨some 6,.mv false (.t 0),none⟩,
 ⟨some 7,.call (.c (.fn f_zz23)) [(.t 6),(.c (.int .i64 0))] 0,none⟩,
 ⟨some 3,.mv true (.t 7),none⟩]
abbrev zz31_r2:List AI:=[
 ⟨some 8,.mv false (.t 3),none⟩,
 ⟨some 9,.bin .eql (.t 8) (.c (.int .i64 0)),none⟩]
abbrev zz31_r3:List AI:=[
 ⟨some 10,.mv false (.t 0),none⟩,
 ⟨some 11,.call (.c (.fn f_zz32)) [(.t 10)] 0,none⟩,
 ⟨some 3,.mv true (.t 11),none⟩]
abbrev zz31_r4:List AI:=[
 ⟨some 12,.mv false (.t 3),none⟩,
 ⟨some 13,.bin .neq (.t 12) (.c (.int .i64 0)),none⟩]
abbrev zz31_r5:List AI:=[
 ⟨some 14,.mv false (.t 3),none⟩,
 ⟨some 2,.mv true (.t 14),none⟩]
abbrev zz31_r6:List AI:=[
 ⟨some 15,.mv false (.t 0),none⟩,
 ⟨some 16,.nilck (.t 15),none⟩,
 ⟨some 17,.faddr 1 (.t 16),none⟩,
 ⟨some 18,.load false 1 (.t 17) .any,none⟩,
 ⟨some 19,.gn .rng [(.t 18)],none⟩]
abbrev zz31_r7:List AI:=[
 ⟨some 20,.gn .nxt [(.t 19)],none⟩,
 ⟨some 21,.ext (.t 20) 0,none⟩]
abbrev zz31_r8:List AI:=[
 ⟨some 22,.gd .entry [(.t 19)],none⟩,
 ⟨some 23,.ext (.t 22) 0,none⟩,
 ⟨some 24,.ext (.t 22) 1,none⟩,
 ⟨some 4,.mv true (.t 23),none⟩,
 ⟨some 5,.mv true (.t 24),none⟩]
abbrev zz31_r9:List AI:=[
 ⟨some 25,.mv false (.t 0),none⟩,
 ⟨some 26,.nilck (.t 25),none⟩,
 ⟨some 27,.faddr 0 (.t 26),none⟩,
 ⟨some 28,.load false 1 (.t 27) .foreign,none⟩,
 ⟨some 29,.mv false (.t 4),none⟩,
 ⟨some 30,.mv false (.t 5),none⟩,
 ⟨some 31,.mv false (.t 5),none⟩,
 ⟨some 32,.len false (.t 31),none⟩,
 ⟨some 33,.bin .sub (.t 32) (.c (.int .i64 1)),none⟩,
 ⟨some 34,.iaddr 64 (.t 30) (.t 33),none⟩,
 ⟨some 35,.load true 64 (.t 34) .foreign,none⟩,
 ⟨some 36,.build (zr 64 (.int .u8 0) ++ [(.bool false)]) [(0,64,(.t 35))],none⟩,
 ⟨some 37,.iaddr 65 (.t 28) (.t 29),none⟩,
 ⟨none,.store 65 (.t 37) (.t 36) .gp,none⟩]
abbrev zz31_r10:List AI:=[
 ⟨some 38,.mv false (.t 0),none⟩,
 ⟨some 39,.nilck (.t 38),none⟩,
 ⟨some 40,.faddr 1 (.t 39),none⟩,
 ⟨some 41,.load false 1 (.t 40) .any,none⟩,
 ⟨some 42,.mv false (.t 4),none⟩,
 ⟨none,.gd (.mdel [.i]) [(.t 41),(.t 42)],none⟩]
abbrev zz31_l0:ACode:=.seq (.reg false zz31_r7) (.seq (.cond (.t 21) (.skip) (.exit 0)) (.block 1 (.seq (.reg false zz31_r8) (.seq (.reg true zz31_r9) (.reg false zz31_r10)))))
abbrev zz31_r11:List AI:=[
 ⟨some 2,.mv true (.c (.int .i64 0)),none⟩]
abbrev zz31_c:ACode:=.seq (.reg false zz31_r0) (.seq (.reg false zz31_r1) (.seq (.seq (.reg false zz31_r2) (.cond (.t 9) (.reg false zz31_r3) (.skip))) (.seq (.seq (.reg false zz31_r4) (.cond (.t 13) (.seq (.reg false zz31_r5) (.ret)) (.skip))) (.seq (.seq (.reg false zz31_r6) (.block 0 (.loop zz31_l0))) (.seq (.reg false zz31_r11) (.ret))))))
def zz31_F:AFunc:=⟨43,[.tmp 2],zz31_c⟩
theorem zz31_cp:compile Try.prog [] f_zz31=some zz31_F:=by kernel_rfl
abbrev zz27_r0:List AI:=[
 ⟨some 6,.mv true (.c (.int .i64 0)),none⟩]
abbrev zz27_r1:List AI:=[
 ⟨some 9,.mv false (.t 0),none⟩,
 ⟨some 10,.mv false (.t 1),none⟩,
 ⟨some 11,.call (.c (.fn f_zz23)) [(.t 9),(.t 10)] 0,none⟩,
 ⟨some 7,.mv true (.t 11),none⟩]
abbrev zz27_r2:List AI:=[
 ⟨some 12,.mv false (.t 7),none⟩,
 ⟨some 13,.bin .neq (.t 12) (.c (.int .i64 0)),none⟩]
abbrev zz27_r3:List AI:=[
 ⟨some 14,.mv false (.t 7),none⟩,
 ⟨some 6,.mv true (.t 14),none⟩]
abbrev zz27_r4:List AI:=[
 ⟨some 15,.mv false (.t 2),none⟩,
 ⟨some 16,.bin .lss (.t 15) (.c (.int .i64 0)),none⟩,
 ⟨some 17,.mv false (.t 16),none⟩,
 ⟨some 18,.mv false (.t 2),some (17,false)⟩,
 ⟨some 19,.bin .geq (.t 18) (.c (.int .i64 512)),some (17,false)⟩,
 ⟨some 20,.pick (.t 17) (.c (.bool true)) (.t 19),none⟩]
abbrev zz27_r5:List AI:=[
 ⟨some 6,.mv true (.c (.int .i64 1)),none⟩]
abbrev zz27_r6:List AI:=[
 ⟨some 21,.mv false (.t 0),none⟩,
 ⟨some 22,.nilck (.t 21),none⟩,
 ⟨some 23,.faddr 0 (.t 22),none⟩,
 ⟨some 24,.load false 1 (.t 23) .any,none⟩,
 ⟨some 25,.mv false (.t 1),none⟩,
 ⟨some 26,.iaddr 65 (.t 24) (.t 25),none⟩,
 ⟨some 27,.load true 65 (.t 26) .any,none⟩,
 ⟨some 8,.alloc (zr 64 (.int .u8 0) ++ [(.bool false)]),none⟩,
 ⟨none,.store 65 (.t 8) (.t 27) .any,none⟩]
abbrev zz27_r7:List AI:=[
 ⟨some 28,.load true 65 (.t 8) .any,none⟩,
 ⟨some 29,.build (zr 64 (.int .u8 0) ++ [(.bool false)]) [(64,1,(.c (.bool true)))],none⟩,
 ⟨some 30,.eqs true (kr 64 .i ++ [.b]) (.t 28) (.t 29),none⟩]
abbrev zz27_r8:List AI:=[
 ⟨some 31,.mv false (.t 0),none⟩,
 ⟨some 32,.nilck (.t 31),none⟩,
 ⟨some 33,.faddr 0 (.t 32),none⟩,
 ⟨some 34,.load false 1 (.t 33) .foreign,none⟩,
 ⟨some 35,.mv false (.t 1),none⟩,
 ⟨some 36,.mv false (.t 2),none⟩,
 ⟨some 37,.bin .quo (.t 36) (.c (.int .i64 8)),none⟩,
 ⟨some 38,.iaddr 65 (.t 34) (.t 35),none⟩,
 ⟨some 39,.faddr 0 (.t 38),none⟩,
 ⟨some 40,.iaddrA 64 1 (.t 39) (.t 37),none⟩,
 ⟨some 41,.load false 1 (.t 40) .foreign,none⟩,
 ⟨some 42,.mv false (.t 2),none⟩,
 ⟨some 43,.bin .rem (.t 42) (.c (.int .i64 8)),none⟩,
 ⟨some 44,.bin .shl (.c (.int .u8 1)) (.t 43),none⟩,
 ⟨some 45,.bin .xor (.t 41) (.t 44),none⟩,
 ⟨some 46,.iaddr 65 (.t 34) (.t 35),none⟩,
 ⟨some 47,.faddr 0 (.t 46),none⟩,
 ⟨some 48,.iaddrA 64 1 (.t 47) (.t 37),none⟩,
 ⟨none,.store 1 (.t 48) (.t 45) .gp,none⟩]
abbrev zz27_r9:List AI:=[
 ⟨some 6,.mv true (.c (.int .i64 0)),none⟩]
abbrev zz27_c:ACode:=.seq (.reg false zz27_r0) (.seq (.seq (.reg false zz27_r1) (.seq (.reg false zz27_r2) (.cond (.t 13) (.seq (.reg false zz27_r3) (.ret)) (.skip)))) (.seq (.seq (.reg false zz27_r4) (.cond (.t 20) (.seq (.reg false zz27_r5) (.ret)) (.skip))) (.seq (.seq (.reg false zz27_r6) (.seq (.reg false zz27_r7) (.cond (.t 30) (.reg true zz27_r8) (.skip)))) (.seq (.reg false zz27_r9) (.ret)))))
def zz27_F:AFunc:=⟨49,[.tmp 6],zz27_c⟩
theorem zz27_cp:compile Try.prog [] f_zz27=some zz27_F:=by kernel_rfl
abbrev zz34_r0:List AI:=[
 ⟨some 4,.mv true (.c (.int .i64 0)),none⟩]
abbrev zz34_r1:List AI:=[
 ⟨some 6,.mv false (.t 0),none⟩,
 ⟨some 7,.mv false (.t 1),none⟩,
 ⟨some 8,.call (.c (.fn f_zz23)) [(.t 6),(.t 7)] 0,none⟩,
 ⟨some 5,.mv true (.t 8),none⟩]
abbrev zz34_r2:List AI:=[
 ⟨some 9,.mv false (.t 5),none⟩,
 ⟨some 10,.bin .eql (.t 9) (.c (.int .i64 0)),none⟩]
abbrev zz34_r3:List AI:=[
 ⟨some 11,.mv false (.t 0),none⟩,
 ⟨some 12,.nilck (.t 11),none⟩,
 ⟨some 13,.faddr 0 (.t 12),none⟩,
 ⟨some 14,.load false 1 (.t 13) .any,none⟩,
 ⟨some 15,.mv false (.t 1),none⟩,
 ⟨some 16,.build (zr 64 (.int .u8 0) ++ [(.bool false)]) [(64,1,(.c (.bool true)))],none⟩,
 ⟨some 17,.iaddr 65 (.t 14) (.t 15),none⟩,
 ⟨none,.store 65 (.t 17) (.t 16) .any,none⟩]
abbrev zz34_r4:List AI:=[
 ⟨some 18,.mv false (.t 5),none⟩,
 ⟨some 4,.mv true (.t 18),none⟩]
abbrev zz34_c:ACode:=.seq (.reg false zz34_r0) (.seq (.reg false zz34_r1) (.seq (.seq (.reg false zz34_r2) (.cond (.t 10) (.reg false zz34_r3) (.skip))) (.seq (.reg false zz34_r4) (.ret))))
def zz34_F:AFunc:=⟨19,[.tmp 4],zz34_c⟩
theorem zz34_cp:compile Try.prog [] f_zz34=some zz34_F:=by kernel_rfl
abbrev zz2_r0:List AI:=[
 ⟨some 5,.box 64 (.t 2),none⟩,
 ⟨some 6,.mv true (.c (.int .i64 0)),none⟩]
abbrev zz2_r1:List AI:=[
 ⟨some 9,.mv false (.t 0),none⟩,
 ⟨some 10,.mv false (.t 1),none⟩,
 ⟨some 11,.call (.c (.fn f_zz3)) [(.t 9),(.t 10)] 0,none⟩,
 ⟨some 7,.mv true (.t 11),none⟩]
abbrev zz2_r2:List AI:=[
 ⟨some 12,.mv false (.t 7),none⟩,
 ⟨some 13,.bin .neq (.t 12) (.c (.int .i64 0)),none⟩]
abbrev zz2_r3:List AI:=[
 ⟨some 14,.mv false (.t 7),none⟩,
 ⟨some 6,.mv true (.t 14),none⟩]
abbrev zz2_r4:List AI:=[
 ⟨some 15,.mv false (.t 0),none⟩,
 ⟨some 16,.call (.c (.fn f_zz8)) [(.t 15)] 0,none⟩,
 ⟨some 8,.mv true (.t 16),none⟩]
abbrev zz2_r5:List AI:=[
 ⟨some 17,.mv false (.t 8),none⟩,
 ⟨some 18,.not (.t 17),none⟩]
abbrev zz2_r6:List AI:=[
 ⟨some 6,.mv true (.c (.int .i64 12)),none⟩]
abbrev zz2_r7:List AI:=[
 ⟨some 19,.mv false (.t 0),none⟩,
 ⟨some 20,.nilck (.t 19),none⟩,
 ⟨some 21,.faddr 0 (.t 20),none⟩,
 ⟨some 22,.load false 1 (.t 21) .foreign,none⟩,
 ⟨some 23,.mv false (.t 1),none⟩,
 ⟨some 24,.mkslice 64 0 (.agg (zr 64 (.int .u8 0))) [],none⟩,
 ⟨some 25,.mv false (.t 0),none⟩,
 ⟨some 26,.nilck (.t 25),none⟩,
 ⟨some 27,.faddr 0 (.t 26),none⟩,
 ⟨some 28,.load false 1 (.t 27) .foreign,none⟩,
 ⟨some 29,.mv false (.t 1),none⟩,
 ⟨some 30,.iaddr 66 (.t 28) (.t 29),none⟩,
 ⟨some 31,.faddr 65 (.t 30),none⟩,
 ⟨some 32,.load false 1 (.t 31) .foreign,none⟩,
 ⟨some 33,.append 64 64 (.t 24) (.t 32),none⟩,
 ⟨some 34,.load true 64 (.t 5) (.site 5),none⟩,
 ⟨some 35,.mkslice 64 1 (.agg (zr 64 (.int .u8 0))) [(0,(.t 34))],none⟩,
 ⟨some 36,.append 64 64 (.t 33) (.t 35),none⟩,
 ⟨some 37,.iaddr 66 (.t 22) (.t 23),none⟩,
 ⟨some 38,.faddr 65 (.t 37),none⟩,
 ⟨none,.store 1 (.t 38) (.t 36) .gp,none⟩]
abbrev zz2_r8:List AI:=[
 ⟨some 6,.mv true (.c (.int .i64 0)),none⟩]
abbrev zz2_c:ACode:=.seq (.reg false zz2_r0) (.seq (.reg false zz2_r1) (.seq (.seq (.reg false zz2_r2) (.cond (.t 13) (.seq (.reg false zz2_r3) (.ret)) (.skip))) (.seq (.reg false zz2_r4) (.seq (.seq (.reg false zz2_r5) (.cond (.t 18) (.seq (.reg false zz2_r6) (.ret)) (.skip))) (.seq (.reg true zz2_r7) (.seq (.reg false zz2_r8) (.ret)))))))
def zz2_F:AFunc:=⟨39,[.tmp 6],zz2_c⟩
theorem zz2_cp:compile Try.prog [] f_zz2=some zz2_F:=by kernel_rfl
abbrev zz23_r0:List AI:=[
 ⟨some 4,.mv true (.c (.int .i64 0)),none⟩]
abbrev zz23_r1:List AI:=[
 ⟨some 6,.mv false (.t 0),none⟩,
 ⟨some 7,.nilck (.t 6),none⟩,
 ⟨some 8,.faddr 4 (.t 7),none⟩,
 ⟨some 9,.load false 1 (.t 8) .any,none⟩,
 ⟨some 5,.mv true (.t 9),none⟩]
abbrev zz23_r2:List AI:=[
 ⟨some 4,.mv true (.c (.int .i64 12)),none⟩]
abbrev zz23_r3:List AI:=[
 ⟨some 11,.mv false (.t 1),none⟩,
 ⟨some 12,.bin .lss (.t 11) (.c (.int .i64 0)),none⟩,
 ⟨some 13,.mv false (.t 12),none⟩,
 ⟨some 14,.mv false (.t 1),some (13,false)⟩,
 ⟨some 15,.mv false (.t 0),some (13,false)⟩,
 ⟨some 16,.nilck (.t 15),some (13,false)⟩,
 ⟨some 17,.faddr 0 (.t 16),some (13,false)⟩,
 ⟨some 18,.load false 1 (.t 17) .any,some (13,false)⟩,
 ⟨some 19,.len false (.t 18),some (13,false)⟩,
 ⟨some 20,.bin .geq (.t 14) (.t 19),some (13,false)⟩,
 ⟨some 21,.pick (.t 13) (.c (.bool true)) (.t 20),none⟩,
 ⟨some 10,.mv true (.t 21),none⟩]
abbrev zz23_r4:List AI:=[
 ⟨some 4,.mv true (.c (.int .i64 1)),none⟩]
abbrev zz23_b0:ACode:=.seq (.reg false zz23_r3) (.cond (.t 10) (.seq (.reg false zz23_r4) (.ret)) (.skip))
abbrev zz23_r5:List AI:=[
 ⟨some 4,.mv true (.c (.int .i64 0)),none⟩]
abbrev zz23_c:ACode:=.seq (.reg false zz23_r0) (.seq (.block 0 (.seq (.reg false zz23_r1) (.cond (.t 5) (.seq (.reg false zz23_r2) (.ret)) (zz23_b0)))) (.seq (.reg false zz23_r5) (.ret)))
def zz23_F:AFunc:=⟨22,[.tmp 4],zz23_c⟩
theorem zz23_cp:compile Try.prog [] f_zz23=some zz23_F:=by kernel_rfl
abbrev zz32_r0:List AI:=[
 ⟨some 2,.mv true (.c (.int .i64 0)),none⟩]
abbrev zz32_r1:List AI:=[
 ⟨some 4,.mv false (.t 0),none⟩,
 ⟨some 5,.nilck (.t 4),none⟩,
 ⟨some 6,.faddr 3 (.t 5),none⟩,
 ⟨some 7,.load false 1 (.t 6) .any,none⟩,
 ⟨some 8,.bin .eql (.t 7) (.c (.int .i64 0)),none⟩,
 ⟨some 3,.mv true (.t 8),none⟩]
abbrev zz32_r2:List AI:=[
 ⟨some 9,.mv false (.t 0),none⟩,
 ⟨some 10,.nilck (.t 9),none⟩,
 ⟨some 11,.faddr 4 (.t 10),none⟩,
 ⟨none,.store 1 (.t 11) (.c (.bool true)) .any,none⟩]
abbrev zz32_r3:List AI:=[
 ⟨some 2,.mv true (.c (.int .i64 12)),none⟩]
abbrev zz32_b0:ACode:=.seq (.reg false zz32_r2) (.seq (.reg false zz32_r3) (.ret))
abbrev zz32_r4:List AI:=[
 ⟨some 13,.mv false (.t 0),none⟩,
 ⟨some 14,.nilck (.t 13),none⟩,
 ⟨some 15,.faddr 3 (.t 14),none⟩,
 ⟨some 16,.load false 1 (.t 15) .any,none⟩,
 ⟨some 17,.bin .gtr (.t 16) (.c (.int .i64 0)),none⟩,
 ⟨some 12,.mv true (.t 17),none⟩]
abbrev zz32_r5:List AI:=[
 ⟨some 18,.mv false (.t 0),none⟩,
 ⟨some 19,.nilck (.t 18),none⟩,
 ⟨some 20,.faddr 3 (.t 19),none⟩,
 ⟨some 21,.load false 1 (.t 20) .any,none⟩,
 ⟨some 22,.bin .sub (.t 21) (.c (.int .i64 1)),none⟩,
 ⟨some 23,.nilck (.t 18),none⟩,
 ⟨some 24,.faddr 3 (.t 23),none⟩,
 ⟨none,.store 1 (.t 24) (.t 22) .any,none⟩]
abbrev zz32_b1:ACode:=.seq (.reg false zz32_r4) (.cond (.t 12) (.reg false zz32_r5) (.skip))
abbrev zz32_r6:List AI:=[
 ⟨some 25,.mv false (.t 0),none⟩,
 ⟨some 26,.nilck (.t 25),none⟩,
 ⟨some 27,.faddr 2 (.t 26),none⟩,
 ⟨some 28,.load false 1 (.t 27) .any,none⟩,
 ⟨some 29,.bin .add (.t 28) (.c (.int .i64 1)),none⟩,
 ⟨some 30,.nilck (.t 25),none⟩,
 ⟨some 31,.faddr 2 (.t 30),none⟩,
 ⟨none,.store 1 (.t 31) (.t 29) .any,none⟩]
abbrev zz32_r7:List AI:=[
 ⟨some 2,.mv true (.c (.int .i64 0)),none⟩]
abbrev zz32_c:ACode:=.seq (.reg false zz32_r0) (.seq (.block 0 (.seq (.reg false zz32_r1) (.cond (.t 3) (zz32_b0) (zz32_b1)))) (.seq (.reg false zz32_r6) (.seq (.reg false zz32_r7) (.ret))))
def zz32_F:AFunc:=⟨32,[.tmp 2],zz32_c⟩
theorem zz32_cp:compile Try.prog [] f_zz32=some zz32_F:=by kernel_rfl
-- loop 0: [0, 1, 5]
abbrev zz17_r0:List AI:=[
 ⟨some 4,.mv true (.c (.bool false)),none⟩]
abbrev zz17_r1:List AI:=[
 ⟨some 6,.mv false (.t 0),none⟩,
 ⟨some 7,.len false (.t 6),none⟩,
 ⟨some 8,.mv false (.t 1),none⟩,
 ⟨some 9,.len false (.t 8),none⟩,
 ⟨some 10,.bin .neq (.t 7) (.t 9),none⟩]
abbrev zz17_r2:List AI:=[
 ⟨some 4,.mv true (.c (.bool false)),none⟩]
abbrev zz17_r3:List AI:=[
 ⟨some 5,.mv true (.c (.int .i64 0)),none⟩]
abbrev zz17_r4:List AI:=[
 ⟨some 11,.mv false (.t 5),none⟩,
 ⟨some 12,.mv false (.t 0),none⟩,
 ⟨some 13,.len false (.t 12),none⟩,
 ⟨some 14,.bin .lss (.t 11) (.t 13),none⟩]
abbrev zz17_r5:List AI:=[
 ⟨some 17,.mv false (.t 0),none⟩,
 ⟨some 18,.mv false (.t 5),none⟩,
 ⟨some 19,.iaddr 1 (.t 17) (.t 18),none⟩,
 ⟨some 20,.load false 1 (.t 19) .foreign,none⟩,
 ⟨some 21,.mv false (.t 1),none⟩,
 ⟨some 22,.mv false (.t 5),none⟩,
 ⟨some 23,.iaddr 1 (.t 21) (.t 22),none⟩,
 ⟨some 24,.load false 1 (.t 23) .foreign,none⟩,
 ⟨some 25,.bin .neq (.t 20) (.t 24),none⟩]
abbrev zz17_r6:List AI:=[
 ⟨some 4,.mv true (.c (.bool false)),none⟩]
abbrev zz17_r7:List AI:=[
 ⟨some 15,.mv false (.t 5),none⟩,
 ⟨some 16,.bin .add (.t 15) (.c (.int .i64 1)),none⟩,
 ⟨some 5,.mv true (.t 16),none⟩]
abbrev zz17_l0:ACode:=.seq (.seq (.reg false zz17_r4) (.cond (.t 14) (.skip) (.exit 0))) (.seq (.block 1 (.seq (.reg true zz17_r5) (.cond (.t 25) (.seq (.reg false zz17_r6) (.ret)) (.skip)))) (.reg false zz17_r7))
abbrev zz17_r8:List AI:=[
 ⟨some 4,.mv true (.c (.bool true)),none⟩]
abbrev zz17_c:ACode:=.seq (.reg false zz17_r0) (.seq (.seq (.reg false zz17_r1) (.cond (.t 10) (.seq (.reg false zz17_r2) (.ret)) (.skip))) (.seq (.seq (.reg false zz17_r3) (.block 0 (.loop zz17_l0))) (.seq (.reg false zz17_r8) (.ret))))
def zz17_F:AFunc:=⟨26,[.tmp 4],zz17_c⟩
theorem zz17_cp:compile Try.prog [] f_zz17=some zz17_F:=by kernel_rfl
-- loop 0: [0, 4]
abbrev zz7_r0:List AI:=[
 ⟨some 2,.mv true (.c (.int .i64 0)),none⟩]
abbrev zz7_r1:List AI:=[
 ⟨some 6,.mv false (.t 0),none⟩,
 ⟨some 7,.nilck (.t 6),none⟩,
 ⟨some 8,.faddr 3 (.t 7),none⟩,
 ⟨some 9,.load false 1 (.t 8) .any,none⟩]
abbrev zz7_r2:List AI:=[
 ⟨some 2,.mv true (.c (.int .i64 12)),none⟩]
abbrev zz7_r3:List AI:=[
 ⟨some 10,.mv false (.t 0),none⟩,
 ⟨some 11,.call (.c (.fn f_zz8)) [(.t 10)] 0,none⟩,
 ⟨some 3,.mv true (.t 11),none⟩]
abbrev zz7_r4:List AI:=[
 ⟨some 12,.mv false (.t 3),none⟩,
 ⟨some 13,.not (.t 12),none⟩]
abbrev zz7_r5:List AI:=[
 ⟨some 2,.mv true (.c (.int .i64 12)),none⟩]
abbrev zz7_r6:List AI:=[
 ⟨some 4,.mv true (.c (.int .i64 0)),none⟩]
abbrev zz7_r7:List AI:=[
 ⟨some 14,.mv false (.t 4),none⟩,
 ⟨some 15,.mv false (.t 0),none⟩,
 ⟨some 16,.nilck (.t 15),none⟩,
 ⟨some 17,.faddr 0 (.t 16),none⟩,
 ⟨some 18,.load false 1 (.t 17) .any,none⟩,
 ⟨some 19,.len false (.t 18),none⟩,
 ⟨some 20,.bin .lss (.t 14) (.t 19),none⟩]
abbrev zz7_r8:List AI:=[
 ⟨some 23,.mv false (.t 0),none⟩,
 ⟨some 24,.nilck (.t 23),none⟩,
 ⟨some 25,.faddr 0 (.t 24),none⟩,
 ⟨some 26,.load false 1 (.t 25) .any,none⟩,
 ⟨some 27,.mv false (.t 4),none⟩,
 ⟨some 28,.iaddr 66 (.t 26) (.t 27),none⟩,
 ⟨some 29,.faddr 65 (.t 28),none⟩,
 ⟨some 30,.load false 1 (.t 29) .any,none⟩,
 ⟨some 31,.len false (.t 30),none⟩,
 ⟨some 5,.mv true (.t 31),none⟩]
abbrev zz7_r9:List AI:=[
 ⟨some 32,.mv false (.t 5),none⟩,
 ⟨some 33,.bin .gtr (.t 32) (.c (.int .i64 0)),none⟩]
abbrev zz7_r10:List AI:=[
 ⟨some 34,.mv false (.t 0),none⟩,
 ⟨some 35,.nilck (.t 34),none⟩,
 ⟨some 36,.faddr 0 (.t 35),none⟩,
 ⟨some 37,.load false 1 (.t 36) .foreign,none⟩,
 ⟨some 38,.mv false (.t 4),none⟩,
 ⟨some 39,.mv false (.t 0),none⟩,
 ⟨some 40,.nilck (.t 39),none⟩,
 ⟨some 41,.faddr 0 (.t 40),none⟩,
 ⟨some 42,.load false 1 (.t 41) .foreign,none⟩,
 ⟨some 43,.mv false (.t 4),none⟩,
 ⟨some 44,.iaddr 66 (.t 42) (.t 43),none⟩,
 ⟨some 45,.faddr 65 (.t 44),none⟩,
 ⟨some 46,.load false 1 (.t 45) .foreign,none⟩,
 ⟨some 47,.mv false (.t 5),none⟩,
 ⟨some 48,.bin .sub (.t 47) (.c (.int .i64 1)),none⟩,
 ⟨some 49,.iaddr 64 (.t 46) (.t 48),none⟩,
 ⟨some 50,.load true 64 (.t 49) .foreign,none⟩,
 ⟨some 51,.build (zr 64 (.int .u8 0) ++ [(.bool false),.nilS]) [(0,64,(.t 50))],none⟩,
 ⟨some 52,.iaddr 66 (.t 37) (.t 38),none⟩,
 ⟨none,.store 66 (.t 52) (.t 51) .gp,none⟩]
abbrev zz7_r11:List AI:=[
 ⟨some 21,.mv false (.t 4),none⟩,
 ⟨some 22,.bin .add (.t 21) (.c (.int .i64 1)),none⟩,
 ⟨some 4,.mv true (.t 22),none⟩]
abbrev zz7_l0:ACode:=.seq (.seq (.reg false zz7_r7) (.cond (.t 20) (.skip) (.exit 0))) (.seq (.block 1 (.seq (.reg false zz7_r8) (.seq (.reg false zz7_r9) (.cond (.t 33) (.reg true zz7_r10) (.skip))))) (.reg false zz7_r11))
abbrev zz7_r12:List AI:=[
 ⟨some 2,.mv true (.c (.int .i64 0)),none⟩]
abbrev zz7_c:ACode:=.seq (.reg false zz7_r0) (.seq (.seq (.reg false zz7_r1) (.cond (.t 9) (.seq (.reg false zz7_r2) (.ret)) (.skip))) (.seq (.reg false zz7_r3) (.seq (.seq (.reg false zz7_r4) (.cond (.t 13) (.seq (.reg false zz7_r5) (.ret)) (.skip))) (.seq (.seq (.reg false zz7_r6) (.block 0 (.loop zz7_l0))) (.seq (.reg false zz7_r12) (.ret))))))
def zz7_F:AFunc:=⟨53,[.tmp 2],zz7_c⟩
theorem zz7_cp:compile Try.prog [] f_zz7=some zz7_F:=by kernel_rfl
abbrev zz9_r0:List AI:=[
 ⟨some 4,.mv false (.t 0),none⟩,
 ⟨some 5,.mv false (.t 1),none⟩,
 ⟨some 6,.mx (.t 5) (.c (.int .i64 (-1))),none⟩,
 ⟨some 7,.nilck (.t 4),none⟩,
 ⟨some 8,.faddr 2 (.t 7),none⟩,
 ⟨none,.store 1 (.t 8) (.t 6) .any,none⟩]
abbrev zz9_c:ACode:=.reg false zz9_r0
def zz9_F:AFunc:=⟨9,[],zz9_c⟩
theorem zz9_cp:compile Try.prog [] f_zz9=some zz9_F:=by kernel_rfl
-- loop 0: [0, 1, 5, 6, 7]
abbrev zz1_r0:List AI:=[
 ⟨some 4,.mv true (.c .nilP),none⟩]
abbrev zz1_r1:List AI:=[
 ⟨some 9,.mv false (.t 0),none⟩,
 ⟨some 10,.nilck (.t 9),none⟩,
 ⟨some 11,.faddr 0 (.t 10),none⟩,
 ⟨some 12,.load false 1 (.t 11) .any,none⟩,
 ⟨some 13,.len false (.t 12),none⟩,
 ⟨some 14,.gn (.mkSl 66 96 (zr 64 (.int .u8 0) ++ [(.bool false),.nilS])) [(.t 13),(.t 13)],none⟩,
 ⟨some 15,.build [.nilS,(.int .i64 0),(.int .i64 0),(.bool false)] [(0,1,(.t 14)),(2,1,(.c (.int .i64 (-1))))],none⟩,
 ⟨some 16,.gn (.box 4) [(.t 15)],none⟩,
 ⟨some 5,.mv true (.t 16),none⟩]
abbrev zz1_r2:List AI:=[
 ⟨some 6,.mv true (.c (.int .i64 0)),none⟩]
abbrev zz1_r3:List AI:=[
 ⟨some 7,.mv true (.c (.int .i64 0)),none⟩]
abbrev zz1_r4:List AI:=[
 ⟨some 17,.mv false (.t 7),none⟩,
 ⟨some 18,.mv false (.t 0),none⟩,
 ⟨some 19,.nilck (.t 18),none⟩,
 ⟨some 20,.faddr 0 (.t 19),none⟩,
 ⟨some 21,.load false 1 (.t 20) .any,none⟩,
 ⟨some 22,.len false (.t 21),none⟩,
 ⟨some 23,.bin .lss (.t 17) (.t 22),none⟩]
abbrev zz1_r5:List AI:=[
 ⟨some 26,.mv false (.t 0),none⟩,
 ⟨some 27,.nilck (.t 26),none⟩,
 ⟨some 28,.faddr 0 (.t 27),none⟩,
 ⟨some 29,.load false 1 (.t 28) .any,none⟩,
 ⟨some 30,.mv false (.t 7),none⟩,
 ⟨some 31,.iaddr 66 (.t 29) (.t 30),none⟩,
 ⟨some 32,.faddr 65 (.t 31),none⟩,
 ⟨some 33,.load false 1 (.t 32) .any,none⟩,
 ⟨some 34,.len false (.t 33),none⟩,
 ⟨some 35,.bin .eql (.t 34) (.c (.int .i64 0)),none⟩]
abbrev zz1_r6:List AI:=[
 ⟨some 36,.mv false (.t 5),none⟩,
 ⟨some 37,.nilck (.t 36),none⟩,
 ⟨some 38,.faddr 0 (.t 37),none⟩,
 ⟨some 39,.load false 1 (.t 38) .foreign,none⟩,
 ⟨some 40,.mv false (.t 7),none⟩,
 ⟨some 41,.mv false (.t 0),none⟩,
 ⟨some 42,.nilck (.t 41),none⟩,
 ⟨some 43,.faddr 0 (.t 42),none⟩,
 ⟨some 44,.load false 1 (.t 43) .foreign,none⟩,
 ⟨some 45,.mv false (.t 7),none⟩,
 ⟨some 46,.iaddr 66 (.t 44) (.t 45),none⟩,
 ⟨some 47,.load true 66 (.t 46) .foreign,none⟩,
 ⟨some 48,.iaddr 66 (.t 39) (.t 40),none⟩,
 ⟨none,.store 66 (.t 48) (.t 47) .gp,none⟩]
abbrev zz1_r7:List AI:=[
 ⟨some 8,.mv true (.c (.int .i64 0)),none⟩]
abbrev zz1_r8:List AI:=[
 ⟨some 49,.mv false (.t 1),none⟩,
 ⟨some 50,.len false (.t 49),none⟩,
 ⟨some 51,.bin .gtr (.t 50) (.c (.int .i64 0)),none⟩]
abbrev zz1_r9:List AI:=[
 ⟨some 52,.mv false (.t 1),none⟩,
 ⟨some 53,.mv false (.t 6),none⟩,
 ⟨some 54,.mv false (.t 1),none⟩,
 ⟨some 55,.len false (.t 54),none⟩,
 ⟨some 56,.bin .rem (.t 53) (.t 55),none⟩,
 ⟨some 57,.iaddr 1 (.t 52) (.t 56),none⟩,
 ⟨some 58,.load false 1 (.t 57) .any,none⟩,
 ⟨some 8,.mv true (.t 58),none⟩]
abbrev zz1_r10:List AI:=[
 ⟨some 59,.mv false (.t 5),none⟩,
 ⟨some 60,.nilck (.t 59),none⟩,
 ⟨some 61,.faddr 0 (.t 60),none⟩,
 ⟨some 62,.load false 1 (.t 61) .foreign,none⟩,
 ⟨some 63,.mv false (.t 7),none⟩,
 ⟨some 64,.mv false (.t 0),none⟩,
 ⟨some 65,.nilck (.t 64),none⟩,
 ⟨some 66,.faddr 0 (.t 65),none⟩,
 ⟨some 67,.load false 1 (.t 66) .foreign,none⟩,
 ⟨some 68,.mv false (.t 7),none⟩,
 ⟨some 69,.iaddr 66 (.t 67) (.t 68),none⟩,
 ⟨some 70,.load true 66 (.t 69) .foreign,none⟩,
 ⟨some 71,.mv false (.t 8),none⟩,
 ⟨some 72,.call (.c (.fn f_zz18)) [(.t 70),(.t 71)] 1,none⟩,
 ⟨some 73,.iaddr 66 (.t 62) (.t 63),none⟩,
 ⟨none,.store 66 (.t 73) (.t 72) .gp,none⟩]
abbrev zz1_r11:List AI:=[
 ⟨some 74,.mv false (.t 6),none⟩,
 ⟨some 75,.bin .add (.t 74) (.c (.int .i64 1)),none⟩,
 ⟨some 6,.mv true (.t 75),none⟩]
abbrev zz1_r12:List AI:=[
 ⟨some 24,.mv false (.t 7),none⟩,
 ⟨some 25,.bin .add (.t 24) (.c (.int .i64 1)),none⟩,
 ⟨some 7,.mv true (.t 25),none⟩]
abbrev zz1_l0:ACode:=.seq (.seq (.reg false zz1_r4) (.cond (.t 23) (.skip) (.exit 0))) (.seq (.block 1 (.seq (.seq (.reg false zz1_r5) (.cond (.t 35) (.seq (.reg true zz1_r6) (.exit 1)) (.skip))) (.seq (.reg false zz1_r7) (.seq (.seq (.reg false zz1_r8) (.cond (.t 51) (.reg false zz1_r9) (.skip))) (.seq (.reg true zz1_r10) (.reg false zz1_r11)))))) (.reg false zz1_r12))
abbrev zz1_r13:List AI:=[
 ⟨some 76,.mv false (.t 5),none⟩,
 ⟨some 4,.mv true (.t 76),none⟩]
abbrev zz1_c:ACode:=.seq (.reg false zz1_r0) (.seq (.reg false zz1_r1) (.seq (.reg false zz1_r2) (.seq (.seq (.reg false zz1_r3) (.block 0 (.loop zz1_l0))) (.seq (.reg false zz1_r13) (.ret)))))
def zz1_F:AFunc:=⟨77,[.tmp 4],zz1_c⟩
theorem zz1_cp:compile Try.prog [16] f_zz1=some zz1_F:=by kernel_rfl
abbrev zz4_r0:List AI:=[
 ⟨some 6,.mv true (.c (.int .i64 0)),none⟩]
abbrev zz4_r1:List AI:=[
 ⟨some 8,.mv false (.t 0),none⟩,
 ⟨some 9,.mv false (.t 1),none⟩,
 ⟨some 10,.call (.c (.fn f_zz3)) [(.t 8),(.t 9)] 0,none⟩,
 ⟨some 7,.mv true (.t 10),none⟩]
abbrev zz4_r2:List AI:=[
 ⟨some 11,.mv false (.t 7),none⟩,
 ⟨some 12,.bin .neq (.t 11) (.c (.int .i64 0)),none⟩]
abbrev zz4_r3:List AI:=[
 ⟨some 13,.mv false (.t 7),none⟩,
 ⟨some 6,.mv true (.t 13),none⟩]
abbrev zz4_r4:List AI:=[
 ⟨some 14,.mv false (.t 2),none⟩,
 ⟨some 15,.bin .lss (.t 14) (.c (.int .i64 0)),none⟩,
 ⟨some 16,.mv false (.t 15),none⟩,
 ⟨some 17,.mv false (.t 2),some (16,false)⟩,
 ⟨some 18,.bin .gtr (.t 17) (.c (.int .i64 511)),some (16,false)⟩,
 ⟨some 19,.pick (.t 16) (.c (.bool true)) (.t 18),none⟩]
abbrev zz4_r5:List AI:=[
 ⟨some 6,.mv true (.c (.int .i64 1)),none⟩]
abbrev zz4_r6:List AI:=[
 ⟨some 20,.mv false (.t 0),none⟩,
 ⟨some 21,.nilck (.t 20),none⟩,
 ⟨some 22,.faddr 0 (.t 21),none⟩,
 ⟨some 23,.load false 1 (.t 22) .any,none⟩,
 ⟨some 24,.mv false (.t 1),none⟩,
 ⟨some 25,.iaddr 66 (.t 23) (.t 24),none⟩,
 ⟨some 26,.faddr 64 (.t 25),none⟩,
 ⟨some 27,.load false 1 (.t 26) .any,none⟩,
 ⟨some 28,.not (.t 27),none⟩]
abbrev zz4_r7:List AI:=[
 ⟨some 29,.mv false (.t 0),none⟩,
 ⟨some 30,.nilck (.t 29),none⟩,
 ⟨some 31,.faddr 0 (.t 30),none⟩,
 ⟨some 32,.load false 1 (.t 31) .foreign,none⟩,
 ⟨some 33,.mv false (.t 1),none⟩,
 ⟨some 34,.mv false (.t 2),none⟩,
 ⟨some 35,.bin .quo (.t 34) (.c (.int .i64 8)),none⟩,
 ⟨some 36,.mv false (.t 0),none⟩,
 ⟨some 37,.nilck (.t 36),none⟩,
 ⟨some 38,.faddr 0 (.t 37),none⟩,
 ⟨some 39,.load false 1 (.t 38) .foreign,none⟩,
 ⟨some 40,.mv false (.t 1),none⟩,
 ⟨some 41,.mv false (.t 2),none⟩,
 ⟨some 42,.bin .quo (.t 41) (.c (.int .i64 8)),none⟩,
 ⟨some 43,.iaddr 66 (.t 39) (.t 40),none⟩,
 ⟨some 44,.faddr 0 (.t 43),none⟩,
 ⟨some 45,.iaddrA 64 1 (.t 44) (.t 42),none⟩,
 ⟨some 46,.load false 1 (.t 45) .foreign,none⟩,
 ⟨some 47,.mv false (.t 2),none⟩,
 ⟨some 48,.bin .rem (.t 47) (.c (.int .i64 8)),none⟩,
 ⟨some 49,.bin .shl (.c (.int .u8 1)) (.t 48),none⟩,
 ⟨some 50,.bin .xor (.t 46) (.t 49),none⟩,
 ⟨some 51,.iaddr 66 (.t 32) (.t 33),none⟩,
 ⟨some 52,.faddr 0 (.t 51),none⟩,
 ⟨some 53,.iaddrA 64 1 (.t 52) (.t 35),none⟩,
 ⟨none,.store 1 (.t 53) (.t 50) .gp,none⟩]
abbrev zz4_r8:List AI:=[
 ⟨some 6,.mv true (.c (.int .i64 0)),none⟩]
abbrev zz4_c:ACode:=.seq (.reg false zz4_r0) (.seq (.reg false zz4_r1) (.seq (.seq (.reg false zz4_r2) (.cond (.t 12) (.seq (.reg false zz4_r3) (.ret)) (.skip))) (.seq (.seq (.reg false zz4_r4) (.cond (.t 19) (.seq (.reg false zz4_r5) (.ret)) (.skip))) (.seq (.seq (.reg false zz4_r6) (.cond (.t 28) (.reg true zz4_r7) (.skip))) (.seq (.reg false zz4_r8) (.ret))))))
def zz4_F:AFunc:=⟨54,[.tmp 6],zz4_c⟩
theorem zz4_cp:compile Try.prog [] f_zz4=some zz4_F:=by kernel_rfl
abbrev zz10_r0:List AI:=[
 ⟨some 4,.mv true (.c (.int .i64 0)),none⟩]
abbrev zz10_r1:List AI:=[
 ⟨some 6,.mv false (.t 0),none⟩,
 ⟨some 7,.mv false (.t 1),none⟩,
 ⟨some 8,.call (.c (.fn f_zz3)) [(.t 6),(.t 7)] 0,none⟩,
 ⟨some 5,.mv true (.t 8),none⟩]
abbrev zz10_r2:List AI:=[
 ⟨some 9,.mv false (.t 5),none⟩,
 ⟨some 10,.bin .neq (.t 9) (.c (.int .i64 0)),none⟩]
abbrev zz10_r3:List AI:=[
 ⟨some 11,.mv false (.t 5),none⟩,
 ⟨some 4,.mv true (.t 11),none⟩]
abbrev zz10_r4:List AI:=[
 ⟨some 12,.mv false (.t 0),none⟩,
 ⟨some 13,.nilck (.t 12),none⟩,
 ⟨some 14,.faddr 0 (.t 13),none⟩,
 ⟨some 15,.load false 1 (.t 14) .any,none⟩,
 ⟨some 16,.mv false (.t 1),none⟩,
 ⟨some 17,.iaddr 66 (.t 15) (.t 16),none⟩,
 ⟨some 18,.faddr 64 (.t 17),none⟩,
 ⟨none,.store 1 (.t 18) (.c (.bool true)) .any,none⟩]
abbrev zz10_r5:List AI:=[
 ⟨some 19,.mv false (.t 0),none⟩,
 ⟨some 20,.nilck (.t 19),none⟩,
 ⟨some 21,.faddr 0 (.t 20),none⟩,
 ⟨some 22,.load false 1 (.t 21) .any,none⟩,
 ⟨some 23,.mv false (.t 1),none⟩,
 ⟨some 24,.build (zr 64 (.int .u8 0)) [],none⟩,
 ⟨some 25,.iaddr 66 (.t 22) (.t 23),none⟩,
 ⟨some 26,.faddr 0 (.t 25),none⟩,
 ⟨none,.store 64 (.t 26) (.t 24) .any,none⟩]
abbrev zz10_r6:List AI:=[
 ⟨some 4,.mv true (.c (.int .i64 0)),none⟩]
abbrev zz10_c:ACode:=.seq (.reg false zz10_r0) (.seq (.reg false zz10_r1) (.seq (.seq (.reg false zz10_r2) (.cond (.t 10) (.seq (.reg false zz10_r3) (.ret)) (.skip))) (.seq (.reg false zz10_r4) (.seq (.reg false zz10_r5) (.seq (.reg false zz10_r6) (.ret))))))
def zz10_F:AFunc:=⟨27,[.tmp 4],zz10_c⟩
theorem zz10_cp:compile Try.prog [] f_zz10=some zz10_F:=by kernel_rfl
-- loop 0: [0, 3, 4, 5]
-- loop 1: [0, 3, 4]
abbrev zz5_r0:List AI:=[
 ⟨some 2,.mv true (.c .nilS),none⟩]
abbrev zz5_r1:List AI:=[
 ⟨some 3,.mv true (.c .nilS),none⟩]
abbrev zz5_r2:List AI:=[
 ⟨some 4,.mv true (.c (.int .i64 0)),none⟩]
abbrev zz5_r3:List AI:=[
 ⟨some 6,.mv false (.t 4),none⟩,
 ⟨some 7,.mv false (.t 0),none⟩,
 ⟨some 8,.nilck (.t 7),none⟩,
 ⟨some 9,.faddr 0 (.t 8),none⟩,
 ⟨some 10,.load false 1 (.t 9) .any,none⟩,
 ⟨some 11,.len false (.t 10),none⟩,
 ⟨some 12,.bin .lss (.t 6) (.t 11),none⟩]
abbrev zz5_r4:List AI:=[
 ⟨some 5,.mv true (.c (.int .i64 0)),none⟩]
abbrev zz5_r5:List AI:=[
 ⟨some 15,.mv false (.t 5),none⟩,
 ⟨some 16,.mv false (.t 0),none⟩,
 ⟨some 17,.nilck (.t 16),none⟩,
 ⟨some 18,.faddr 0 (.t 17),none⟩,
 ⟨some 19,.load false 1 (.t 18) .any,none⟩,
 ⟨some 20,.mv false (.t 4),none⟩,
 ⟨some 21,.iaddr 66 (.t 19) (.t 20),none⟩,
 ⟨some 22,.faddr 65 (.t 21),none⟩,
 ⟨some 23,.load false 1 (.t 22) .any,none⟩,
 ⟨some 24,.len false (.t 23),none⟩,
 ⟨some 25,.bin .lss (.t 15) (.t 24),none⟩]
abbrev zz5_r6:List AI:=[
 ⟨some 28,.mv true (.t 3),none⟩,
 ⟨some 29,.mv false (.t 4),none⟩,
 ⟨some 30,.mkslice 1 1 (.int .i64 0) [(0,(.t 29))],none⟩,
 ⟨some 31,.append 1 8 (.t 28) (.t 30),none⟩,
 ⟨some 3,.mv true (.t 31),none⟩]
abbrev zz5_r7:List AI:=[
 ⟨some 26,.mv false (.t 5),none⟩,
 ⟨some 27,.bin .add (.t 26) (.c (.int .i64 1)),none⟩,
 ⟨some 5,.mv true (.t 27),none⟩]
abbrev zz5_l0:ACode:=.seq (.seq (.reg false zz5_r5) (.cond (.t 25) (.skip) (.exit 2))) (.seq (.block 3 (.reg false zz5_r6)) (.reg false zz5_r7))
abbrev zz5_r8:List AI:=[
 ⟨some 13,.mv false (.t 4),none⟩,
 ⟨some 14,.bin .add (.t 13) (.c (.int .i64 1)),none⟩,
 ⟨some 4,.mv true (.t 14),none⟩]
abbrev zz5_l1:ACode:=.seq (.seq (.reg false zz5_r3) (.cond (.t 12) (.skip) (.exit 0))) (.seq (.block 1 (.seq (.reg false zz5_r4) (.block 2 (.loop zz5_l0)))) (.reg false zz5_r8))
abbrev zz5_r9:List AI:=[
 ⟨some 32,.mv false (.t 3),none⟩,
 ⟨some 2,.mv true (.t 32),none⟩]
abbrev zz5_c:ACode:=.seq (.reg false zz5_r0) (.seq (.reg false zz5_r1) (.seq (.seq (.reg false zz5_r2) (.block 0 (.loop zz5_l1))) (.seq (.reg false zz5_r9) (.ret))))
def zz5_F:AFunc:=⟨33,[.tmp 2],zz5_c⟩
theorem zz5_cp:compile Try.prog [] f_zz5=some zz5_F:=by kernel_rfl
abbrev zz3_r0:List AI:=[
 ⟨some 4,.mv true (.c (.int .i64 0)),none⟩]
abbrev zz3_r1:List AI:=[
 ⟨some 5,.mv false (.t 0),none⟩,
 ⟨some 6,.nilck (.t 5),none⟩,
 ⟨some 7,.faddr 3 (.t 6),none⟩,
 ⟨some 8,.load false 1 (.t 7) .any,none⟩]
abbrev zz3_r2:List AI:=[
 ⟨some 4,.mv true (.c (.int .i64 12)),none⟩]
abbrev zz3_r3:List AI:=[
 ⟨some 9,.mv false (.t 1),none⟩,
 ⟨some 10,.bin .lss (.t 9) (.c (.int .i64 0)),none⟩,
 ⟨some 11,.mv false (.t 10),none⟩,
 ⟨some 12,.mv false (.t 1),some (11,false)⟩,
 ⟨some 13,.mv false (.t 0),some (11,false)⟩,
 ⟨some 14,.nilck (.t 13),some (11,false)⟩,
 ⟨some 15,.faddr 0 (.t 14),some (11,false)⟩,
 ⟨some 16,.load false 1 (.t 15) .any,some (11,false)⟩,
 ⟨some 17,.len false (.t 16),some (11,false)⟩,
 ⟨some 18,.bin .geq (.t 12) (.t 17),some (11,false)⟩,
 ⟨some 19,.pick (.t 11) (.c (.bool true)) (.t 18),none⟩]
abbrev zz3_r4:List AI:=[
 ⟨some 4,.mv true (.c (.int .i64 1)),none⟩]
abbrev zz3_r5:List AI:=[
 ⟨some 4,.mv true (.c (.int .i64 0)),none⟩]
abbrev zz3_c:ACode:=.seq (.reg false zz3_r0) (.seq (.seq (.reg false zz3_r1) (.cond (.t 8) (.seq (.reg false zz3_r2) (.ret)) (.skip))) (.seq (.seq (.reg false zz3_r3) (.cond (.t 19) (.seq (.reg false zz3_r4) (.ret)) (.skip))) (.seq (.reg false zz3_r5) (.ret))))
def zz3_F:AFunc:=⟨20,[.tmp 4],zz3_c⟩
theorem zz3_cp:compile Try.prog [] f_zz3=some zz3_F:=by kernel_rfl
-- loop 0: [3, 9]
abbrev zz15_r0:List AI:=[
 ⟨some 2,.mv true (.c .nilS),none⟩]
abbrev zz15_r1:List AI:=[
 ⟨some 3,.mv true (.c .nilS),none⟩]
abbrev zz15_r2:List AI:=[
 ⟨some 5,.mv false (.t 0),none⟩,
 ⟨some 6,.nilck (.t 5),none⟩,
 ⟨some 7,.faddr 1 (.t 6),none⟩,
 ⟨some 8,.load false 1 (.t 7) .any,none⟩,
 ⟨some 9,.gn .rng [(.t 8)],none⟩]
abbrev zz15_r3:List AI:=[
 ⟨some 10,.gn .nxt [(.t 9)],none⟩,
 ⟨some 11,.ext (.t 10) 0,none⟩]
abbrev zz15_r4:List AI:=[
 ⟨some 12,.gd .entry [(.t 9)],none⟩,
 ⟨some 13,.ext (.t 12) 0,none⟩,
 ⟨some 4,.mv true (.t 13),none⟩]
abbrev zz15_r5:List AI:=[
 ⟨some 14,.mv true (.t 3),none⟩,
 ⟨some 15,.mv false (.t 4),none⟩,
 ⟨some 16,.mkslice 1 1 (.int .i64 0) [(0,(.t 15))],none⟩,
 ⟨some 17,.appG 1 8 [(.int .i64 0)] (.t 14) (.t 16),none⟩,
 ⟨some 3,.mv true (.t 17),none⟩]
abbrev zz15_l0:ACode:=.seq (.reg false zz15_r3) (.seq (.cond (.t 11) (.skip) (.exit 0)) (.block 1 (.seq (.reg false zz15_r4) (.reg false zz15_r5))))
abbrev zz15_r6:List AI:=[
 ⟨some 18,.mv false (.t 3),none⟩,
 ⟨some 19,.call (.c (.fn f_zz14)) [(.t 18)] 0,none⟩]
abbrev zz15_r7:List AI:=[
 ⟨some 20,.mv false (.t 3),none⟩,
 ⟨some 2,.mv true (.t 20),none⟩]
abbrev zz15_c:ACode:=.seq (.reg false zz15_r0) (.seq (.reg false zz15_r1) (.seq (.seq (.reg false zz15_r2) (.block 0 (.loop zz15_l0))) (.seq (.reg false zz15_r6) (.seq (.reg false zz15_r7) (.ret)))))
def zz15_F:AFunc:=⟨21,[.tmp 2],zz15_c⟩
theorem zz15_cp:compile Try.prog [17] f_zz15=some zz15_F:=by kernel_rfl
abbrev zz36_r0:List AI:=[
 ⟨some 3,.box 65 (.t 0),none⟩,
 ⟨some 6,.alloc (zr 64 (.int .u8 0) ++ [(.bool false)]),none⟩]
abbrev zz36_r1:List AI:=[
 ⟨some 11,.mv false (.t 1),none⟩,
 ⟨some 12,.len false (.t 11),none⟩,
 ⟨some 7,.mv true (.t 12),none⟩]
abbrev zz36_r2:List AI:=[
 ⟨some 13,.mv false (.t 2),none⟩,
 ⟨some 14,.mv false (.t 7),none⟩,
 ⟨some 15,.bin .add (.t 14) (.c (.int .i64 3)),none⟩,
 ⟨some 16,.bin .rem (.t 13) (.t 15),none⟩,
 ⟨some 17,.mv false (.t 7),none⟩,
 ⟨some 18,.bin .add (.t 16) (.t 17),none⟩,
 ⟨some 19,.bin .add (.t 18) (.c (.int .i64 3)),none⟩,
 ⟨some 20,.mv false (.t 7),none⟩,
 ⟨some 21,.bin .add (.t 20) (.c (.int .i64 3)),none⟩,
 ⟨some 22,.bin .rem (.t 19) (.t 21),none⟩,
 ⟨some 8,.mv true (.t 22),none⟩]
abbrev zz36_r3:List AI:=[
 ⟨some 24,.mv false (.t 8),none⟩,
 ⟨some 25,.bin .eql (.t 24) (.c (.int .i64 0)),none⟩,
 ⟨some 23,.mv true (.t 25),none⟩]
abbrev zz36_r4:List AI:=[
 ⟨some 26,.load true 65 (.t 3) .any,none⟩,
 ⟨none,.store 65 (.t 6) (.t 26) .any,none⟩]
abbrev zz36_r5:List AI:=[
 ⟨some 28,.mv false (.t 8),none⟩,
 ⟨some 29,.mv false (.t 7),none⟩,
 ⟨some 30,.bin .leq (.t 28) (.t 29),none⟩,
 ⟨some 27,.mv true (.t 30),none⟩]
abbrev zz36_r6:List AI:=[
 ⟨some 31,.mv false (.t 1),none⟩,
 ⟨some 32,.mv false (.t 8),none⟩,
 ⟨some 33,.bin .sub (.t 32) (.c (.int .i64 1)),none⟩,
 ⟨some 34,.iaddr 64 (.t 31) (.t 33),none⟩,
 ⟨some 35,.load true 64 (.t 34) .any,none⟩,
 ⟨some 36,.build (zr 64 (.int .u8 0) ++ [(.bool false)]) [(0,64,(.t 35))],none⟩,
 ⟨none,.store 65 (.t 6) (.t 36) .any,none⟩]
abbrev zz36_r7:List AI:=[
 ⟨some 38,.mv false (.t 8),none⟩,
 ⟨some 39,.mv false (.t 7),none⟩,
 ⟨some 40,.bin .add (.t 39) (.c (.int .i64 1)),none⟩,
 ⟨some 41,.bin .eql (.t 38) (.t 40),none⟩,
 ⟨some 37,.mv true (.t 41),none⟩]
abbrev zz36_r8:List AI:=[
 ⟨some 42,.build (zr 64 (.int .u8 0) ++ [(.bool false)]) [(64,1,(.c (.bool true)))],none⟩,
 ⟨none,.store 65 (.t 6) (.t 42) .any,none⟩]
abbrev zz36_b0:ACode:=.seq (.reg false zz36_r7) (.cond (.t 37) (.seq (.reg false zz36_r8) (.ret)) (.skip))
abbrev zz36_b1:ACode:=.seq (.reg false zz36_r5) (.cond (.t 27) (.seq (.reg false zz36_r6) (.ret)) (zz36_b0))
abbrev zz36_r9:List AI:=[
 ⟨some 43,.faddr 0 (.t 3),none⟩,
 ⟨some 44,.load true 64 (.t 43) (.site 3),none⟩,
 ⟨some 45,.mv false (.t 1),none⟩,
 ⟨some 46,.mv false (.t 7),none⟩,
 ⟨some 47,.bin .sub (.t 46) (.c (.int .i64 1)),none⟩,
 ⟨some 48,.iaddr 64 (.t 45) (.t 47),none⟩,
 ⟨some 49,.load true 64 (.t 48) .foreign,none⟩,
 ⟨some 9,.gn (.alloc (zr 64 (.int .u8 0))) [],none⟩,
 ⟨some 10,.gn (.alloc (zr 64 (.int .u8 0))) [],none⟩,
 ⟨none,.store 64 (.t 9) (.t 44) .gp,none⟩,
 ⟨none,.store 64 (.t 10) (.t 49) .gp,none⟩]
abbrev zz36_r10:List AI:=[
 ⟨some 50,.mv false (.t 7),none⟩,
 ⟨some 51,.bin .gtr (.t 50) (.c (.int .i64 1)),none⟩]
abbrev zz36_r11:List AI:=[
 ⟨some 52,.mv false (.t 1),none⟩,
 ⟨some 53,.mv false (.t 7),none⟩,
 ⟨some 54,.bin .sub (.t 53) (.c (.int .i64 2)),none⟩,
 ⟨some 55,.iaddr 64 (.t 52) (.t 54),none⟩,
 ⟨some 56,.load true 64 (.t 55) .any,none⟩,
 ⟨none,.store 64 (.t 9) (.t 56) .any,none⟩]
abbrev zz36_r12:List AI:=[
 ⟨some 57,.load true 64 (.t 9) .any,none⟩,
 ⟨some 58,.load true 64 (.t 10) .any,none⟩,
 ⟨some 59,.eqs false (kr 64 .i) (.t 57) (.t 58),none⟩]
abbrev zz36_r13:List AI:=[
 ⟨some 60,.load true 64 (.t 10) .any,none⟩,
 ⟨some 61,.build (zr 64 (.int .u8 0) ++ [(.bool false)]) [(0,64,(.t 60))],none⟩,
 ⟨none,.store 65 (.t 6) (.t 61) .any,none⟩]
abbrev zz36_r14:List AI:=[
 ⟨some 62,.gd (.arrS 1 64 true false false) [(.t 10),(.c (.int .i64 32))],none⟩,
 ⟨some 63,.gd (.arrS 1 64 true false false) [(.t 9),(.c (.int .i64 32))],none⟩,
 ⟨some 64,.copy 1 (.t 62) (.t 63),none⟩]
abbrev zz36_r15:List AI:=[
 ⟨some 65,.load true 64 (.t 10) .any,none⟩,
 ⟨some 66,.build (zr 64 (.int .u8 0) ++ [(.bool false)]) [(0,64,(.t 65))],none⟩,
 ⟨none,.store 65 (.t 6) (.t 66) .any,none⟩]
abbrev zz36_c:ACode:=.seq (.reg false zz36_r0) (.seq (.reg false zz36_r1) (.seq (.seq (.reg false zz36_r2) (.block 0 (.seq (.reg false zz36_r3) (.cond (.t 23) (.seq (.reg false zz36_r4) (.ret)) (zz36_b1))))) (.seq (.reg true zz36_r9) (.seq (.seq (.reg false zz36_r10) (.cond (.t 51) (.reg false zz36_r11) (.skip))) (.seq (.seq (.reg false zz36_r12) (.cond (.t 59) (.seq (.reg false zz36_r13) (.ret)) (.skip))) (.seq (.reg true zz36_r14) (.seq (.reg false zz36_r15) (.ret))))))))
def zz36_F:AFunc:=⟨67,[.cell 6 true 65],zz36_c⟩
theorem zz36_cp:compile Try.prog [9,10] f_zz36=some zz36_F:=by kernel_rfl
-- loop 0: [7, 8]
abbrev zz11_r0:List AI:=[
 ⟨some 4,.mv true (.c .nilS),none⟩]
abbrev zz11_r1:List AI:=[
 ⟨some 9,.mv false (.t 1),none⟩,
 ⟨some 10,.bin .lss (.t 9) (.c (.int .i64 0)),none⟩]
abbrev zz11_r2:List AI:=[
 ⟨some 11,.gd .never [],none⟩,
 ⟨none,.gd .never [],none⟩]
abbrev zz11_r3:List AI:=[
 ⟨some 13,.mv false (.t 0),none⟩,
 ⟨some 14,.len false (.t 13),none⟩,
 ⟨some 15,.conv .u64 (.t 14),none⟩,
 ⟨some 16,.mv false (.t 1),none⟩,
 ⟨some 17,.conv .u64 (.t 16),none⟩,
 ⟨some 18,.call (.c (.fn f_zz35)) [(.t 15),(.t 17)] 0,none⟩,
 ⟨some 12,.mv false (.t 18),none⟩,
 ⟨some 19,.ext (.t 12) 0,none⟩,
 ⟨some 20,.ext (.t 12) 1,none⟩,
 ⟨some 5,.mv true (.t 19),none⟩,
 ⟨some 6,.mv true (.t 20),none⟩]
abbrev zz11_r4:List AI:=[
 ⟨some 21,.mv false (.t 5),none⟩,
 ⟨some 22,.bin .gtr (.t 21) (.c (.int .u64 0)),none⟩,
 ⟨some 23,.mv false (.t 22),none⟩,
 ⟨some 24,.mv false (.t 6),some (23,false)⟩,
 ⟨some 25,.bin .gtr (.t 24) (.c (.int .u64 9223372036854775807)),some (23,false)⟩,
 ⟨some 26,.pick (.t 23) (.c (.bool true)) (.t 25),none⟩]
abbrev zz11_r5:List AI:=[
 ⟨some 27,.gd .never [],none⟩,
 ⟨none,.gd .never [],none⟩]
abbrev zz11_r6:List AI:=[
 ⟨some 28,.mv false (.t 6),none⟩,
 ⟨some 29,.conv .i64 (.t 28),none⟩,
 ⟨some 30,.gn (.mkSl 1 8 [(.int .i64 0)]) [(.t 29),(.t 29)],none⟩,
 ⟨some 7,.mv true (.t 30),none⟩]
abbrev zz11_r7:List AI:=[
 ⟨some 31,.mv false (.t 7),none⟩,
 ⟨some 32,.mv false (.t 0),none⟩,
 ⟨some 33,.copy 1 (.t 31) (.t 32),none⟩,
 ⟨some 8,.mv true (.t 33),none⟩]
abbrev zz11_r8:List AI:=[
 ⟨some 34,.mv false (.t 8),none⟩,
 ⟨some 35,.mv false (.t 7),none⟩,
 ⟨some 36,.len false (.t 35),none⟩,
 ⟨some 37,.bin .lss (.t 34) (.t 36),none⟩]
abbrev zz11_r9:List AI:=[
 ⟨some 38,.mv false (.t 8),none⟩,
 ⟨some 39,.mv false (.t 7),none⟩,
 ⟨some 40,.mv false (.t 8),none⟩,
 ⟨some 41,.sl 1 (.t 39) (some (.t 40)) none,none⟩,
 ⟨some 42,.mv false (.t 7),none⟩,
 ⟨some 43,.mv false (.t 8),none⟩,
 ⟨some 44,.sl 1 (.t 42) none (some (.t 43)),none⟩,
 ⟨some 45,.copy 1 (.t 41) (.t 44),none⟩,
 ⟨some 46,.bin .add (.t 38) (.t 45),none⟩,
 ⟨some 8,.mv true (.t 46),none⟩]
abbrev zz11_l0:ACode:=.seq (.seq (.reg false zz11_r8) (.cond (.t 37) (.skip) (.exit 0))) (.block 1 (.reg true zz11_r9))
abbrev zz11_r10:List AI:=[
 ⟨some 47,.mv false (.t 7),none⟩,
 ⟨some 4,.mv true (.t 47),none⟩]
abbrev zz11_c:ACode:=.seq (.reg false zz11_r0) (.seq (.seq (.reg false zz11_r1) (.cond (.t 10) (.reg false zz11_r2) (.skip))) (.seq (.reg false zz11_r3) (.seq (.seq (.reg false zz11_r4) (.cond (.t 26) (.reg false zz11_r5) (.skip))) (.seq (.reg false zz11_r6) (.seq (.reg false zz11_r7) (.seq (.block 0 (.loop zz11_l0)) (.seq (.reg false zz11_r10) (.ret))))))))
def zz11_F:AFunc:=⟨48,[.tmp 4],zz11_c⟩
theorem zz11_cp:compile Try.prog [] f_zz11=some zz11_F:=by kernel_rfl
abbrev zz8_r0:List AI:=[
 ⟨some 2,.mv true (.c (.bool false)),none⟩]
abbrev zz8_r1:List AI:=[
 ⟨some 3,.mv false (.t 0),none⟩,
 ⟨some 4,.nilck (.t 3),none⟩,
 ⟨some 5,.faddr 2 (.t 4),none⟩,
 ⟨some 6,.load false 1 (.t 5) .any,none⟩,
 ⟨some 7,.bin .eql (.t 6) (.c (.int .i64 0)),none⟩]
abbrev zz8_r2:List AI:=[
 ⟨some 8,.mv false (.t 0),none⟩,
 ⟨some 9,.nilck (.t 8),none⟩,
 ⟨some 10,.faddr 3 (.t 9),none⟩,
 ⟨none,.store 1 (.t 10) (.c (.bool true)) .any,none⟩]
abbrev zz8_r3:List AI:=[
 ⟨some 2,.mv true (.c (.bool false)),none⟩]
abbrev zz8_b0:ACode:=.seq (.reg false zz8_r2) (.seq (.reg false zz8_r3) (.ret))
abbrev zz8_r4:List AI:=[
 ⟨some 11,.mv false (.t 0),none⟩,
 ⟨some 12,.nilck (.t 11),none⟩,
 ⟨some 13,.faddr 2 (.t 12),none⟩,
 ⟨some 14,.load false 1 (.t 13) .any,none⟩,
 ⟨some 15,.bin .gtr (.t 14) (.c (.int .i64 0)),none⟩]
abbrev zz8_r5:List AI:=[
 ⟨some 16,.mv false (.t 0),none⟩,
 ⟨some 17,.mv false (.t 0),none⟩,
 ⟨some 18,.nilck (.t 17),none⟩,
 ⟨some 19,.faddr 2 (.t 18),none⟩,
 ⟨some 20,.load false 1 (.t 19) .any,none⟩,
 ⟨some 21,.bin .sub (.t 20) (.c (.int .i64 1)),none⟩,
 ⟨some 22,.nilck (.t 16),none⟩,
 ⟨some 23,.faddr 2 (.t 22),none⟩,
 ⟨none,.store 1 (.t 23) (.t 21) .any,none⟩]
abbrev zz8_r6:List AI:=[
 ⟨some 24,.mv false (.t 0),none⟩,
 ⟨some 25,.mv false (.t 0),none⟩,
 ⟨some 26,.nilck (.t 25),none⟩,
 ⟨some 27,.faddr 1 (.t 26),none⟩,
 ⟨some 28,.load false 1 (.t 27) .any,none⟩,
 ⟨some 29,.bin .add (.t 28) (.c (.int .i64 1)),none⟩,
 ⟨some 30,.nilck (.t 24),none⟩,
 ⟨some 31,.faddr 1 (.t 30),none⟩,
 ⟨none,.store 1 (.t 31) (.t 29) .any,none⟩]
abbrev zz8_r7:List AI:=[
 ⟨some 2,.mv true (.c (.bool true)),none⟩]
abbrev zz8_c:ACode:=.seq (.reg false zz8_r0) (.seq (.seq (.reg false zz8_r1) (.cond (.t 7) (zz8_b0) (.skip))) (.seq (.seq (.reg false zz8_r4) (.cond (.t 15) (.reg false zz8_r5) (.skip))) (.seq (.reg false zz8_r6) (.seq (.reg false zz8_r7) (.ret)))))
def zz8_F:AFunc:=⟨32,[.tmp 2],zz8_c⟩
theorem zz8_cp:compile Try.prog [] f_zz8=some zz8_F:=by kernel_rfl
-- loop 0: [4, 7, 8, 9]
abbrev zz18_r0:List AI:=[
 ⟨some 2,.box 66 (.t 0),none⟩,
 ⟨some 4,.alloc (zr 64 (.int .u8 0) ++ [(.bool false),.nilS]),none⟩]
abbrev zz18_r1:List AI:=[
 ⟨some 10,.faddr 65 (.t 2),none⟩,
 ⟨some 11,.load false 1 (.t 10) .any,none⟩,
 ⟨some 12,.len false (.t 11),none⟩,
 ⟨some 5,.mv true (.t 12),none⟩]
abbrev zz18_r2:List AI:=[
 ⟨some 13,.mv false (.t 1),none⟩,
 ⟨some 14,.mv false (.t 5),none⟩,
 ⟨some 15,.bin .add (.t 14) (.c (.int .i64 3)),none⟩,
 ⟨some 16,.bin .rem (.t 13) (.t 15),none⟩,
 ⟨some 17,.mv false (.t 5),none⟩,
 ⟨some 18,.bin .add (.t 16) (.t 17),none⟩,
 ⟨some 19,.bin .add (.t 18) (.c (.int .i64 3)),none⟩,
 ⟨some 20,.mv false (.t 5),none⟩,
 ⟨some 21,.bin .add (.t 20) (.c (.int .i64 3)),none⟩,
 ⟨some 22,.bin .rem (.t 19) (.t 21),none⟩,
 ⟨some 6,.mv true (.t 22),none⟩]
abbrev zz18_r3:List AI:=[
 ⟨some 23,.mv false (.t 6),none⟩,
 ⟨some 24,.bin .eql (.t 23) (.c (.int .i64 0)),none⟩]
abbrev zz18_r4:List AI:=[
 ⟨some 25,.faddr 0 (.t 2),none⟩,
 ⟨some 26,.load true 64 (.t 25) .any,none⟩,
 ⟨some 27,.faddr 64 (.t 2),none⟩,
 ⟨some 28,.load false 1 (.t 27) .any,none⟩,
 ⟨some 29,.build (zr 64 (.int .u8 0) ++ [(.bool false),.nilS]) [(0,64,(.t 26)),(64,1,(.t 28))],none⟩,
 ⟨none,.store 66 (.t 4) (.t 29) .any,none⟩]
abbrev zz18_r5:List AI:=[
 ⟨some 30,.mv false (.t 6),none⟩,
 ⟨some 31,.mv false (.t 5),none⟩,
 ⟨some 32,.bin .leq (.t 30) (.t 31),none⟩]
abbrev zz18_r6:List AI:=[
 ⟨some 33,.faddr 65 (.t 2),none⟩,
 ⟨some 34,.load false 1 (.t 33) .any,none⟩,
 ⟨some 35,.mv false (.t 6),none⟩,
 ⟨some 36,.bin .sub (.t 35) (.c (.int .i64 1)),none⟩,
 ⟨some 37,.iaddr 64 (.t 34) (.t 36),none⟩,
 ⟨some 38,.load true 64 (.t 37) .any,none⟩,
 ⟨some 39,.build (zr 64 (.int .u8 0) ++ [(.bool false),.nilS]) [(0,64,(.t 38))],none⟩,
 ⟨none,.store 66 (.t 4) (.t 39) .any,none⟩]
abbrev zz18_r7:List AI:=[
 ⟨some 40,.mv false (.t 6),none⟩,
 ⟨some 41,.mv false (.t 5),none⟩,
 ⟨some 42,.bin .add (.t 41) (.c (.int .i64 1)),none⟩,
 ⟨some 43,.bin .eql (.t 40) (.t 42),none⟩]
abbrev zz18_r8:List AI:=[
 ⟨some 44,.build (zr 64 (.int .u8 0) ++ [(.bool false),.nilS]) [(64,1,(.c (.bool true)))],none⟩,
 ⟨none,.store 66 (.t 4) (.t 44) .any,none⟩]
abbrev zz18_r9:List AI:=[
 ⟨some 7,.alloc (zr 64 (.int .u8 0)),none⟩]
abbrev zz18_r10:List AI:=[
 ⟨some 45,.faddr 64 (.t 2),none⟩,
 ⟨some 46,.load false 1 (.t 45) .any,none⟩,
 ⟨some 47,.not (.t 46),none⟩]
abbrev zz18_r11:List AI:=[
 ⟨some 48,.faddr 0 (.t 2),none⟩,
 ⟨some 49,.load true 64 (.t 48) .any,none⟩,
 ⟨none,.store 64 (.t 7) (.t 49) .any,none⟩]
abbrev zz18_r12:List AI:=[
 ⟨some 50,.mv false (.t 5),none⟩,
 ⟨some 51,.bin .gtr (.t 50) (.c (.int .i64 1)),none⟩]
abbrev zz18_r13:List AI:=[
 ⟨some 52,.faddr 65 (.t 2),none⟩,
 ⟨some 53,.load false 1 (.t 52) .any,none⟩,
 ⟨some 54,.mv false (.t 5),none⟩,
 ⟨some 55,.bin .sub (.t 54) (.c (.int .i64 2)),none⟩,
 ⟨some 56,.iaddr 64 (.t 53) (.t 55),none⟩,
 ⟨some 57,.load true 64 (.t 56) .any,none⟩,
 ⟨none,.store 64 (.t 7) (.t 57) .any,none⟩]
abbrev zz18_r14:List AI:=[
 ⟨some 58,.faddr 65 (.t 2),none⟩,
 ⟨some 59,.load false 1 (.t 58) .any,none⟩,
 ⟨some 60,.mv false (.t 5),none⟩,
 ⟨some 61,.bin .sub (.t 60) (.c (.int .i64 1)),none⟩,
 ⟨some 62,.iaddr 64 (.t 59) (.t 61),none⟩,
 ⟨some 63,.load true 64 (.t 62) .any,none⟩,
 ⟨some 8,.alloc (zr 64 (.int .u8 0)),none⟩,
 ⟨none,.store 64 (.t 8) (.t 63) .any,none⟩]
abbrev zz18_r15:List AI:=[
 ⟨some 9,.mv true (.c (.int .i64 32)),none⟩]
abbrev zz18_r16:List AI:=[
 ⟨some 64,.mv false (.t 9),none⟩,
 ⟨some 65,.bin .lss (.t 64) (.c (.int .i64 64)),none⟩]
abbrev zz18_r17:List AI:=[
 ⟨some 68,.mv false (.t 9),none⟩,
 ⟨some 69,.mv false (.t 9),none⟩,
 ⟨some 70,.iaddrA 64 1 (.t 7) (.t 69),none⟩,
 ⟨some 71,.load false 1 (.t 70) .any,none⟩,
 ⟨some 72,.iaddrA 64 1 (.t 8) (.t 68),none⟩,
 ⟨none,.store 1 (.t 72) (.t 71) .any,none⟩]
abbrev zz18_r18:List AI:=[
 ⟨some 66,.mv false (.t 9),none⟩,
 ⟨some 67,.bin .add (.t 66) (.c (.int .i64 1)),none⟩,
 ⟨some 9,.mv true (.t 67),none⟩]
abbrev zz18_l0:ACode:=.seq (.seq (.reg false zz18_r16) (.cond (.t 65) (.skip) (.exit 0))) (.seq (.block 1 (.reg false zz18_r17)) (.reg false zz18_r18))
abbrev zz18_r19:List AI:=[
 ⟨some 73,.load true 64 (.t 8) .any,none⟩,
 ⟨some 74,.build (zr 64 (.int .u8 0) ++ [(.bool false),.nilS]) [(0,64,(.t 73))],none⟩,
 ⟨none,.store 66 (.t 4) (.t 74) .any,none⟩]
abbrev zz18_c:ACode:=.seq (.reg false zz18_r0) (.seq (.reg false zz18_r1) (.seq (.reg false zz18_r2) (.seq (.seq (.reg false zz18_r3) (.cond (.t 24) (.seq (.reg false zz18_r4) (.ret)) (.skip))) (.seq (.seq (.reg false zz18_r5) (.cond (.t 32) (.seq (.reg false zz18_r6) (.ret)) (.skip))) (.seq (.seq (.reg false zz18_r7) (.cond (.t 43) (.seq (.reg false zz18_r8) (.ret)) (.skip))) (.seq (.reg false zz18_r9) (.seq (.seq (.reg false zz18_r10) (.cond (.t 47) (.reg false zz18_r11) (.skip))) (.seq (.seq (.reg false zz18_r12) (.cond (.t 51) (.reg false zz18_r13) (.skip))) (.seq (.reg false zz18_r14) (.seq (.seq (.reg false zz18_r15) (.block 0 (.loop zz18_l0))) (.seq (.reg false zz18_r19) (.ret))))))))))))
def zz18_F:AFunc:=⟨75,[.cell 4 true 66],zz18_c⟩
theorem zz18_cp:compile Try.prog [] f_zz18=some zz18_F:=by kernel_rfl
abbrev zz35_r0:List AI:=[
 ⟨some 4,.mv true (.c (.int .u64 0)),none⟩,
 ⟨some 5,.mv true (.c (.int .u64 0)),none⟩]
abbrev zz35_r1:List AI:=[
 ⟨some 11,.mv false (.t 0),none⟩,
 ⟨some 12,.conv .u32 (.t 11),none⟩,
 ⟨some 13,.mv false (.t 1),none⟩,
 ⟨some 14,.conv .u32 (.t 13),none⟩,
 ⟨some 15,.call (.c (.fn f_zz24)) [(.t 12),(.t 14)] 0,none⟩,
 ⟨some 10,.mv false (.t 15),none⟩,
 ⟨some 16,.ext (.t 10) 0,none⟩,
 ⟨some 17,.ext (.t 10) 1,none⟩,
 ⟨some 6,.mv true (.t 16),none⟩,
 ⟨some 7,.mv true (.t 17),none⟩]
abbrev zz35_r2:List AI:=[
 ⟨some 18,.mv false (.t 6),none⟩,
 ⟨some 19,.conv .u64 (.t 18),none⟩,
 ⟨some 20,.mv false (.t 7),none⟩,
 ⟨some 21,.conv .u64 (.t 20),none⟩,
 ⟨some 4,.mv true (.t 19),none⟩,
 ⟨some 5,.mv true (.t 21),none⟩]
abbrev zz35_b0:ACode:=.seq (.reg false zz35_r1) (.seq (.reg false zz35_r2) (.ret))
abbrev zz35_r3:List AI:=[
 ⟨some 23,.mv false (.t 0),none⟩,
 ⟨some 24,.mv false (.t 1),none⟩,
 ⟨some 25,.call (.c (.fn f_zz25)) [(.t 23),(.t 24)] 0,none⟩,
 ⟨some 22,.mv false (.t 25),none⟩,
 ⟨some 26,.ext (.t 22) 0,none⟩,
 ⟨some 27,.ext (.t 22) 1,none⟩,
 ⟨some 8,.mv true (.t 26),none⟩,
 ⟨some 9,.mv true (.t 27),none⟩]
abbrev zz35_r4:List AI:=[
 ⟨some 28,.mv false (.t 8),none⟩,
 ⟨some 29,.mv false (.t 9),none⟩,
 ⟨some 4,.mv true (.t 28),none⟩,
 ⟨some 5,.mv true (.t 29),none⟩]
abbrev zz35_c:ACode:=.seq (.reg false zz35_r0) (.seq (.cond (.c (.bool false)) (zz35_b0) (.skip)) (.seq (.reg false zz35_r3) (.seq (.reg false zz35_r4) (.ret))))
def zz35_F:AFunc:=⟨30,[.tmp 4,.tmp 5],zz35_c⟩
theorem zz35_cp:compile Try.prog [] f_zz35=some zz35_F:=by kernel_rfl
abbrev zz25_r0:List AI:=[
 ⟨some 4,.mv true (.c (.int .u64 0)),none⟩,
 ⟨some 5,.mv true (.c (.int .u64 0)),none⟩]
abbrev zz25_r1:List AI:=[
 ⟨some 14,.mv false (.t 0),none⟩,
 ⟨some 15,.bin .and (.t 14) (.c (.int .u64 4294967295)),none⟩,
 ⟨some 6,.mv true (.t 15),none⟩]
abbrev zz25_r2:List AI:=[
 ⟨some 16,.mv false (.t 0),none⟩,
 ⟨some 17,.bin .shr (.t 16) (.c (.int .u64 32)),none⟩,
 ⟨some 7,.mv true (.t 17),none⟩]
abbrev zz25_r3:List AI:=[
 ⟨some 18,.mv false (.t 1),none⟩,
 ⟨some 19,.bin .and (.t 18) (.c (.int .u64 4294967295)),none⟩,
 ⟨some 8,.mv true (.t 19),none⟩]
abbrev zz25_r4:List AI:=[
 ⟨some 20,.mv false (.t 1),none⟩,
 ⟨some 21,.bin .shr (.t 20) (.c (.int .u64 32)),none⟩,
 ⟨some 9,.mv true (.t 21),none⟩]
abbrev zz25_r5:List AI:=[
 ⟨some 22,.mv false (.t 6),none⟩,
 ⟨some 23,.mv false (.t 8),none⟩,
 ⟨some 24,.bin .mul (.t 22) (.t 23),none⟩,
 ⟨some 10,.mv true (.t 24),none⟩]
abbrev zz25_r6:List AI:=[
 ⟨some 25,.mv false (.t 7),none⟩,
 ⟨some 26,.mv false (.t 8),none⟩,
 ⟨some 27,.bin .mul (.t 25) (.t 26),none⟩,
 ⟨some 28,.mv false (.t 10),none⟩,
 ⟨some 29,.bin .shr (.t 28) (.c (.int .u64 32)),none⟩,
 ⟨some 30,.bin .add (.t 27) (.t 29),none⟩,
 ⟨some 11,.mv true (.t 30),none⟩]
abbrev zz25_r7:List AI:=[
 ⟨some 31,.mv false (.t 11),none⟩,
 ⟨some 32,.bin .and (.t 31) (.c (.int .u64 4294967295)),none⟩,
 ⟨some 12,.mv true (.t 32),none⟩]
abbrev zz25_r8:List AI:=[
 ⟨some 33,.mv false (.t 11),none⟩,
 ⟨some 34,.bin .shr (.t 33) (.c (.int .u64 32)),none⟩,
 ⟨some 13,.mv true (.t 34),none⟩]
abbrev zz25_r9:List AI:=[
 ⟨some 35,.mv false (.t 12),none⟩,
 ⟨some 36,.mv false (.t 6),none⟩,
 ⟨some 37,.mv false (.t 9),none⟩,
 ⟨some 38,.bin .mul (.t 36) (.t 37),none⟩,
 ⟨some 39,.bin .add (.t 35) (.t 38),none⟩,
 ⟨some 12,.mv true (.t 39),none⟩]
abbrev zz25_r10:List AI:=[
 ⟨some 40,.mv false (.t 7),none⟩,
 ⟨some 41,.mv false (.t 9),none⟩,
 ⟨some 42,.bin .mul (.t 40) (.t 41),none⟩,
 ⟨some 43,.mv false (.t 13),none⟩,
 ⟨some 44,.bin .add (.t 42) (.t 43),none⟩,
 ⟨some 45,.mv false (.t 12),none⟩,
 ⟨some 46,.bin .shr (.t 45) (.c (.int .u64 32)),none⟩,
 ⟨some 47,.bin .add (.t 44) (.t 46),none⟩,
 ⟨some 4,.mv true (.t 47),none⟩]
abbrev zz25_r11:List AI:=[
 ⟨some 48,.mv false (.t 0),none⟩,
 ⟨some 49,.mv false (.t 1),none⟩,
 ⟨some 50,.bin .mul (.t 48) (.t 49),none⟩,
 ⟨some 5,.mv true (.t 50),none⟩]
abbrev zz25_c:ACode:=.seq (.reg false zz25_r0) (.seq (.reg false zz25_r1) (.seq (.reg false zz25_r2) (.seq (.reg false zz25_r3) (.seq (.reg false zz25_r4) (.seq (.reg false zz25_r5) (.seq (.reg false zz25_r6) (.seq (.reg false zz25_r7) (.seq (.reg false zz25_r8) (.seq (.reg false zz25_r9) (.seq (.reg false zz25_r10) (.seq (.reg false zz25_r11) (.ret))))))))))))
def zz25_F:AFunc:=⟨51,[.tmp 4,.tmp 5],zz25_c⟩
theorem zz25_cp:compile Try.prog [] f_zz25=some zz25_F:=by kernel_rfl
theorem fol:Try.prog.follows .mixedOrders=true:=by kernel_rfl
end
end Go.Proofs.Ytioojmlhmhgeeaa
