/-
 The functions' code in the evaluator's form,printed by a program of ours from the loaded program,and checked against it.
 Conditions: none.
-/
import Derived.Test.YtioojmlhmhgeeaaProg
import Derived.KernelRfl
import Derived.Test.YtioojmlhmhgeeaaEZ
namespace Go.Proofs.Ytioojmlhmhgeeaa
open Go Go.E2
noncomputable section
abbrev f_zz0:FuncId:=10
abbrev f_zz59:FuncId:=11
abbrev f_zz19:FuncId:=12
abbrev f_zz40:FuncId:=13
abbrev f_zz20:FuncId:=14
abbrev f_zz54:FuncId:=15
abbrev f_zz58:FuncId:=16
abbrev f_zz48:FuncId:=17
abbrev f_zz43:FuncId:=18
abbrev f_zz36:FuncId:=19
abbrev f_zz42:FuncId:=20
abbrev f_zz35:FuncId:=22
abbrev f_zz11:FuncId:=24
abbrev f_zz38:FuncId:=26
abbrev f_zz49:FuncId:=27
abbrev f_zz46:FuncId:=28
abbrev f_zz39:FuncId:=29
abbrev f_zz52:FuncId:=32
abbrev f_zz50:FuncId:=33
abbrev f_zz47:FuncId:=34
abbrev f_zz53:FuncId:=35
abbrev f_zz5:FuncId:=41
abbrev f_zz21:FuncId:=42
abbrev f_zz2:FuncId:=43
abbrev f_zz16:FuncId:=44
abbrev f_zz3:FuncId:=45
abbrev f_zz31:FuncId:=46
abbrev f_zz41:FuncId:=47
abbrev f_zz51:FuncId:=48
abbrev f_zz56:FuncId:=49
abbrev f_zz45:FuncId:=50
abbrev f_zz44:FuncId:=51
abbrev f_zz27:FuncId:=52
abbrev f_zz29:FuncId:=53
abbrev f_zz12:FuncId:=54
abbrev f_zz17:FuncId:=55
abbrev f_zz4:FuncId:=56
abbrev f_zz10:FuncId:=57
abbrev f_zz18:FuncId:=58
abbrev f_zz6:FuncId:=60
abbrev f_zz28:FuncId:=61
abbrev f_zz57:FuncId:=62
abbrev f_zz13:FuncId:=64
abbrev f_zz26:FuncId:=65
abbrev f_zz32:FuncId:=66
abbrev f_zz15:FuncId:=67
abbrev f_zz7:FuncId:=68
abbrev f_zz14:FuncId:=69
abbrev f_zz34:FuncId:=70
abbrev f_zz55:FuncId:=71
abbrev f_zz37:FuncId:=72
abbrev f_zz30:FuncId:=73
abbrev f_zz23:FuncId:=74
abbrev f_zz9:FuncId:=76
abbrev f_zz8:FuncId:=77
abbrev f_zz1:FuncId:=78
abbrev f_zz25:FuncId:=79
abbrev f_zz24:FuncId:=80
abbrev f_zz33:FuncId:=85
abbrev f_zz22:FuncId:=86
-- loop 0: [7, 8, 9, 10, 61]
-- loop 0: [2, 3, 9, 36, 37, 38]
-- loop 1: [9, 96, 97, 98]
abbrev zz0_r0:List AI:=[
 ⟨some 4,.box 2 (.t 0),none⟩,
 ⟨some 8,.mv true (.c (.bool false)),none⟩]
abbrev zz0_r1:List AI:=[
 ⟨some 14,.mv false (.t 1),none⟩,
 ⟨some 15,.len false (.t 14),none⟩,
 ⟨some 16,.bin .gtr (.t 15) (.c (.int .i64 12)),none⟩,
 ⟨some 17,.mv false (.t 16),none⟩,
 ⟨some 18,.mv false (.t 3),some (17,false)⟩,
 ⟨some 19,.len false (.t 18),some (17,false)⟩,
 ⟨some 20,.bin .gtr (.t 19) (.c (.int .i64 30)),some (17,false)⟩,
 ⟨some 21,.pick (.t 17) (.c (.bool true)) (.t 20),none⟩]
abbrev zz0_r2:List AI:=[
 ⟨some 22,.call (.c (.fn f_zz19)) [] 0,none⟩,
 ⟨some 8,.mv true (.t 22),none⟩]
abbrev zz0_r3:List AI:=[
 ⟨some 25,.iaddrA 2 1 (.t 4) (.c (.int .i64 0)),none⟩,
 ⟨some 26,.load false 1 (.t 25) (.site 4),none⟩,
 ⟨some 27,.iaddrA 2 1 (.t 4) (.c (.int .i64 1)),none⟩,
 ⟨some 28,.load false 1 (.t 27) (.site 4),none⟩,
 ⟨some 23,.call (.c (.fn f_zz59)) [(.c (.int .i64 12))] 2,none⟩,
 ⟨some 24,.call (.c (.fn f_zz35)) [(.c (.int .i64 12))] 2,none⟩,
 ⟨some 29,.build [.nilP,.nilP,.nilP,.nilP,(.int .i64 0),(.int .i64 0),(.int .i64 0),(.int .i64 0)] [(0,1,(.t 23)),(2,1,(.t 24)),(6,1,(.t 26)),(7,1,(.t 28))],none⟩,
 ⟨some 30,.gn (.box 8) [(.t 29)],none⟩,
 ⟨some 9,.mv true (.t 30),none⟩]
abbrev zz0_r4:List AI:=[
 ⟨some 31,.mv false (.t 9),none⟩,
 ⟨some 32,.nilck (.t 31),none⟩,
 ⟨some 33,.faddr 0 (.t 32),none⟩,
 ⟨some 34,.load false 1 (.t 33) .any,none⟩,
 ⟨some 35,.gd (.pnil 0 false) [(.t 34)],none⟩]
abbrev zz0_r5:List AI:=[
 ⟨some 8,.mv true (.c (.bool false)),none⟩]
abbrev zz0_r6:List AI:=[
 ⟨some 36,.mv false (.t 1),none⟩,
 ⟨some 37,.len false (.t 36),none⟩,
 ⟨some 38,.mv false (.c (.int .i64 0)),none⟩]
abbrev zz0_r7:List AI:=[
 ⟨some 39,.bin .lss (.t 38) (.t 37),none⟩]
abbrev zz0_r8:List AI:=[
 ⟨some 40,.mv false (.t 38),none⟩,
 ⟨some 41,.iaddr 1 (.t 36) (.t 38),none⟩,
 ⟨some 42,.load false 1 (.t 41) .any,none⟩,
 ⟨some 10,.mv true (.t 40),none⟩,
 ⟨some 11,.mv true (.t 42),none⟩]
abbrev zz0_r9:List AI:=[
 ⟨some 43,.mv false (.t 9),none⟩,
 ⟨some 44,.nilck (.t 43),none⟩,
 ⟨some 45,.faddr 2 (.t 44),none⟩,
 ⟨some 46,.load false 1 (.t 45) .foreign,none⟩,
 ⟨some 47,.mv false (.t 10),none⟩,
 ⟨some 48,.mv false (.t 11),none⟩,
 ⟨some 49,.conv .i64 (.t 48),none⟩,
 ⟨some 50,.call (.c (.fn f_zz20)) [(.t 49)] 1,none⟩,
 ⟨some 51,.call (.c (.fn f_zz5)) [(.t 46),(.t 47),(.t 50)] 2,none⟩]
abbrev zz0_r10:List AI:=[
 ⟨some 52,.mv false (.t 9),none⟩,
 ⟨some 53,.nilck (.t 52),none⟩,
 ⟨some 54,.faddr 0 (.t 53),none⟩,
 ⟨some 55,.load false 1 (.t 54) .foreign,none⟩,
 ⟨some 56,.mv false (.t 10),none⟩,
 ⟨some 57,.mv false (.t 11),none⟩,
 ⟨some 58,.conv .i64 (.t 57),none⟩,
 ⟨some 59,.call (.c (.fn f_zz20)) [(.t 58)] 1,none⟩,
 ⟨some 60,.call (.c (.fn f_zz40)) [(.t 55),(.t 56),(.t 59)] 2,none⟩,
 ⟨some 61,.bin .neq (.t 60) (.c (.int .i64 0)),none⟩]
abbrev zz0_r11:List AI:=[
 ⟨some 8,.mv true (.c (.bool false)),none⟩]
abbrev zz0_r12:List AI:=[
 ⟨some 62,.bin .add (.t 38) (.c (.int .i64 1)),none⟩,
 ⟨some 38,.mv false (.t 62),none⟩]
abbrev zz0_l0:ACode:=.seq (.reg false zz0_r7) (.seq (.cond (.t 39) (.skip) (.exit 0)) (.seq (.block 1 (.seq (.reg false zz0_r8) (.seq (.reg true zz0_r9) (.seq (.reg true zz0_r10) (.cond (.t 61) (.seq (.reg false zz0_r11) (.ret)) (.skip)))))) (.reg false zz0_r12)))
abbrev zz0_r13:List AI:=[
 ⟨some 63,.mv false (.t 2),none⟩,
 ⟨some 64,.mv false (.t 63),none⟩,
 ⟨some 65,.mv false (.t 9),some (64,true)⟩,
 ⟨some 66,.nilck (.t 65),some (64,true)⟩,
 ⟨some 67,.faddr 0 (.t 66),some (64,true)⟩,
 ⟨some 68,.load false 1 (.t 67) .foreign,some (64,true)⟩,
 ⟨some 69,.mv false (.t 9),some (64,true)⟩,
 ⟨some 70,.nilck (.t 69),some (64,true)⟩,
 ⟨some 71,.faddr 6 (.t 70),some (64,true)⟩,
 ⟨some 72,.load false 1 (.t 71) .foreign,some (64,true)⟩,
 ⟨some 73,.mv false (.t 9),some (64,true)⟩,
 ⟨some 74,.nilck (.t 73),some (64,true)⟩,
 ⟨some 75,.faddr 7 (.t 74),some (64,true)⟩,
 ⟨some 76,.load false 1 (.t 75) .foreign,some (64,true)⟩,
 ⟨some 78,.mv false (.t 9),some (64,true)⟩,
 ⟨some 79,.nilck (.t 78),some (64,true)⟩,
 ⟨some 80,.faddr 2 (.t 79),some (64,true)⟩,
 ⟨some 81,.load false 1 (.t 80) .foreign,some (64,true)⟩,
 ⟨some 82,.mv false (.t 9),some (64,true)⟩,
 ⟨some 83,.nilck (.t 82),some (64,true)⟩,
 ⟨some 84,.faddr 6 (.t 83),some (64,true)⟩,
 ⟨some 85,.load false 1 (.t 84) .foreign,some (64,true)⟩,
 ⟨some 86,.mv false (.t 9),some (64,true)⟩,
 ⟨some 87,.nilck (.t 86),some (64,true)⟩,
 ⟨some 88,.faddr 7 (.t 87),some (64,true)⟩,
 ⟨some 89,.load false 1 (.t 88) .foreign,some (64,true)⟩,
 ⟨some 77,.kp [(.ld false 1 (.t 80)),(.ld false 1 (.t 84)),(.ld false 1 (.t 88))] (.call (.c (.fn f_zz54)) [(.t 68),(.t 72),(.t 76)] 2),some (64,true)⟩,
 ⟨some 90,.call (.c (.fn f_zz21)) [(.t 81),(.t 85),(.t 89)] 2,some (64,true)⟩,
 ⟨some 91,.bin .neq (.t 77) (.t 90),some (64,true)⟩,
 ⟨some 92,.pick (.t 64) (.t 91) (.c (.bool false)),none⟩]
abbrev zz0_r14:List AI:=[
 ⟨some 8,.mv true (.c (.bool false)),none⟩]
abbrev zz0_r15:List AI:=[
 ⟨some 93,.mv false (.t 9),none⟩,
 ⟨some 94,.call (.c (.fn f_zz2)) [(.t 93)] 0,none⟩,
 ⟨some 95,.not (.t 94),none⟩]
abbrev zz0_r16:List AI:=[
 ⟨some 8,.mv true (.c (.bool false)),none⟩]
abbrev zz0_r17:List AI:=[
 ⟨some 96,.mv false (.t 3),none⟩,
 ⟨some 97,.len false (.t 96),none⟩,
 ⟨some 98,.mv false (.c (.int .i64 0)),none⟩]
abbrev zz0_r18:List AI:=[
 ⟨some 99,.bin .lss (.t 98) (.t 97),none⟩]
abbrev zz0_r19:List AI:=[
 ⟨some 100,.iaddr 4 (.t 96) (.t 98),none⟩,
 ⟨some 101,.load true 4 (.t 100) .any,none⟩,
 ⟨some 13,.alloc [(.int .i64 0),(.int .i64 0),(.str []),.nilS],none⟩,
 ⟨none,.store 4 (.t 13) (.t 101) .any,none⟩]
abbrev zz0_r20:List AI:=[
 ⟨some 102,.mv false (.t 9),none⟩,
 ⟨some 103,.load true 4 (.t 13) .any,none⟩,
 ⟨some 104,.call (.c (.fn f_zz16)) [(.t 102),(.t 103)] 0,none⟩,
 ⟨some 105,.not (.t 104),none⟩,
 ⟨some 106,.mv false (.t 105),none⟩,
 ⟨some 107,.mv false (.t 9),some (106,false)⟩,
 ⟨some 108,.call (.c (.fn f_zz3)) [(.t 107)] 0,some (106,false)⟩,
 ⟨some 109,.not (.t 108),some (106,false)⟩,
 ⟨some 110,.pick (.t 106) (.c (.bool true)) (.t 109),none⟩]
abbrev zz0_r21:List AI:=[
 ⟨some 8,.mv true (.c (.bool false)),none⟩]
abbrev zz0_r22:List AI:=[
 ⟨some 111,.bin .add (.t 98) (.c (.int .i64 1)),none⟩,
 ⟨some 98,.mv false (.t 111),none⟩]
abbrev zz0_l1:ACode:=.seq (.reg false zz0_r18) (.seq (.cond (.t 99) (.skip) (.exit 2)) (.seq (.block 3 (.seq (.reg false zz0_r19) (.seq (.reg false zz0_r20) (.cond (.t 110) (.seq (.reg false zz0_r21) (.ret)) (.skip))))) (.reg false zz0_r22)))
abbrev zz0_r23:List AI:=[
 ⟨some 112,.call (.c (.fn f_zz19)) [] 0,none⟩,
 ⟨some 113,.mv false (.t 112),none⟩,
 ⟨some 114,.mv false (.t 9),some (113,true)⟩,
 ⟨some 115,.call (.c (.fn f_zz3)) [(.t 114)] 0,some (113,true)⟩,
 ⟨some 116,.pick (.t 113) (.t 115) (.c (.bool false)),none⟩,
 ⟨some 8,.mv true (.t 116),none⟩]
abbrev zz0_c:ACode:=.seq (.reg false zz0_r0) (.seq (.seq (.reg false zz0_r1) (.cond (.t 21) (.seq (.reg false zz0_r2) (.ret)) (.skip))) (.seq (.reg true zz0_r3) (.seq (.seq (.reg false zz0_r4) (.cond (.t 35) (.seq (.reg false zz0_r5) (.ret)) (.skip))) (.seq (.seq (.reg false zz0_r6) (.block 0 (.loop zz0_l0))) (.seq (.seq (.reg true zz0_r13) (.cond (.t 92) (.seq (.reg false zz0_r14) (.ret)) (.skip))) (.seq (.seq (.reg false zz0_r15) (.cond (.t 95) (.seq (.reg false zz0_r16) (.ret)) (.skip))) (.seq (.seq (.reg false zz0_r17) (.block 2 (.loop zz0_l1))) (.seq (.reg false zz0_r23) (.ret)))))))))
def zz0_F:AFunc:=⟨117,[.tmp 8],zz0_c⟩
theorem zz0_cp:compile Try.prog [30,51,60,77,90] f_zz0=some zz0_F:=by kernel_rfl
abbrev zz59_r0:List AI:=[
 ⟨some 2,.mv true (.c .nilP),none⟩]
abbrev zz59_r1:List AI:=[
 ⟨some 3,.mv false (.t 0),none⟩,
 ⟨some 4,.bin .lss (.t 3) (.c (.int .i64 1)),none⟩,
 ⟨some 5,.mv false (.t 4),none⟩,
 ⟨some 6,.mv false (.t 0),some (5,false)⟩,
 ⟨some 7,.bin .gtr (.t 6) (.c (.int .i64 65536)),some (5,false)⟩,
 ⟨some 8,.pick (.t 5) (.c (.bool true)) (.t 7),none⟩]
abbrev zz59_r2:List AI:=[
 ⟨some 2,.mv true (.c .nilP),none⟩]
abbrev zz59_r3:List AI:=[
 ⟨some 9,.mv false (.t 0),none⟩,
 ⟨some 10,.gn (.mkSl 65 65 (zr 64 (.int .u8 0) ++ [(.bool false)])) [(.t 9),(.t 9)],none⟩,
 ⟨some 11,.gn .mkM [],none⟩,
 ⟨some 12,.build [.nilS,.nilM,(.int .i64 0),(.int .i64 0),(.bool false)] [(0,1,(.t 10)),(1,1,(.t 11)),(3,1,(.c (.int .i64 (-1))))],none⟩,
 ⟨some 13,.gn (.box 5) [(.t 12)],none⟩,
 ⟨some 2,.mv true (.t 13),none⟩]
abbrev zz59_c:ACode:=.seq (.reg false zz59_r0) (.seq (.seq (.reg false zz59_r1) (.cond (.t 8) (.seq (.reg false zz59_r2) (.ret)) (.skip))) (.seq (.reg false zz59_r3) (.ret)))
def zz59_F:AFunc:=⟨14,[.tmp 2],zz59_c⟩
theorem zz59_cp:compile Try.prog [13] f_zz59=some zz59_F:=by kernel_rfl
abbrev zz19_r0:List AI:=[
 ⟨some 0,.mv true (.c (.bool false)),none⟩]
abbrev zz19_r1:List AI:=[
 ⟨some 24,.call (.c (.fn f_zz59)) [(.c (.int .i64 8))] 0,none⟩,
 ⟨some 1,.mv true (.t 24),none⟩]
abbrev zz19_r2:List AI:=[
 ⟨some 25,.mv false (.t 1),none⟩,
 ⟨some 26,.gd (.pnil 0 false) [(.t 25)],none⟩,
 ⟨some 27,.mv false (.t 26),none⟩,
 ⟨some 28,.mv false (.t 1),some (27,false)⟩,
 ⟨some 29,.call (.c (.fn f_zz54)) [(.t 28),(.c (.int .i64 0)),(.c (.int .i64 4))] 0,some (27,false)⟩,
 ⟨some 30,.bin .neq (.t 29) (.c (.int .i64 0)),some (27,false)⟩,
 ⟨some 31,.pick (.t 27) (.c (.bool true)) (.t 30),none⟩,
 ⟨some 32,.mv false (.t 31),none⟩,
 ⟨some 33,.mv false (.t 1),some (32,false)⟩,
 ⟨some 34,.call (.c (.fn f_zz39)) [(.t 33)] 0,some (32,false)⟩,
 ⟨some 35,.bin .neq (.t 34) (.c (.int .i64 9)),some (32,false)⟩,
 ⟨some 36,.pick (.t 32) (.c (.bool true)) (.t 35),none⟩]
abbrev zz19_r3:List AI:=[
 ⟨some 0,.mv true (.c (.bool false)),none⟩]
abbrev zz19_r4:List AI:=[
 ⟨some 38,.mv false (.t 1),none⟩,
 ⟨some 39,.call (.c (.fn f_zz58)) [(.t 38),(.c (.int .i64 0)),(.c (.int .i64 4))] 0,none⟩,
 ⟨some 37,.mv false (.t 39),none⟩,
 ⟨some 40,.ext (.t 37) 0,none⟩,
 ⟨some 41,.ext (.t 37) 1,none⟩,
 ⟨some 42,.ext (.t 37) 2,none⟩,
 ⟨some 2,.mv true (.t 40),none⟩,
 ⟨some 3,.mv true (.t 41),none⟩,
 ⟨some 4,.mv true (.t 42),none⟩]
abbrev zz19_r5:List AI:=[
 ⟨some 43,.mv false (.t 4),none⟩,
 ⟨some 44,.bin .neq (.t 43) (.c (.int .i64 0)),none⟩,
 ⟨some 45,.mv false (.t 44),none⟩,
 ⟨some 46,.mv false (.t 2),some (45,false)⟩,
 ⟨some 47,.gd (.pnil 0 false) [(.t 46)],some (45,false)⟩,
 ⟨some 48,.pick (.t 45) (.c (.bool true)) (.t 47),none⟩,
 ⟨some 49,.mv false (.t 48),none⟩,
 ⟨some 50,.mv false (.t 3),some (49,false)⟩,
 ⟨some 51,.len false (.t 50),some (49,false)⟩,
 ⟨some 52,.bin .neq (.t 51) (.c (.int .i64 0)),some (49,false)⟩,
 ⟨some 53,.pick (.t 49) (.c (.bool true)) (.t 52),none⟩,
 ⟨some 54,.mv false (.t 53),none⟩,
 ⟨some 55,.mv false (.t 1),some (54,false)⟩,
 ⟨some 56,.call (.c (.fn f_zz39)) [(.t 55)] 0,some (54,false)⟩,
 ⟨some 57,.bin .neq (.t 56) (.c (.int .i64 9)),some (54,false)⟩,
 ⟨some 58,.pick (.t 54) (.c (.bool true)) (.t 57),none⟩]
abbrev zz19_r6:List AI:=[
 ⟨some 0,.mv true (.c (.bool false)),none⟩]
abbrev zz19_r7:List AI:=[
 ⟨some 60,.mv false (.t 2),none⟩,
 ⟨some 61,.call (.c (.fn f_zz42)) [(.t 60),(.c (.int .i64 1))] 0,none⟩,
 ⟨some 59,.mv false (.t 61),none⟩,
 ⟨some 62,.ext (.t 59) 0,none⟩,
 ⟨some 63,.ext (.t 59) 1,none⟩,
 ⟨some 5,.mv true (.t 62),none⟩,
 ⟨some 6,.mv true (.t 63),none⟩]
abbrev zz19_r8:List AI:=[
 ⟨some 64,.mv false (.t 2),none⟩,
 ⟨some 65,.call (.c (.fn f_zz43)) [(.t 64),(.c (.int .i64 1)),(.c (.str [107,101,121]))] 0,none⟩,
 ⟨some 7,.mv true (.t 65),none⟩]
abbrev zz19_r9:List AI:=[
 ⟨some 67,.mv false (.t 2),none⟩,
 ⟨some 68,.call (.c (.fn f_zz42)) [(.t 67),(.c (.int .i64 1))] 0,none⟩,
 ⟨some 66,.mv false (.t 68),none⟩,
 ⟨some 69,.ext (.t 66) 0,none⟩,
 ⟨some 70,.ext (.t 66) 1,none⟩,
 ⟨some 8,.mv true (.t 69),none⟩,
 ⟨some 9,.mv true (.t 70),none⟩]
abbrev zz19_r10:List AI:=[
 ⟨some 72,.mv false (.t 1),none⟩,
 ⟨some 73,.call (.c (.fn f_zz48)) [(.t 72),(.c (.int .i64 2))] 0,none⟩,
 ⟨some 71,.mv false (.t 73),none⟩,
 ⟨some 74,.ext (.t 71) 0,none⟩,
 ⟨some 75,.ext (.t 71) 1,none⟩,
 ⟨some 10,.alloc (zr 64 (.int .u8 0)),none⟩,
 ⟨none,.store 64 (.t 10) (.t 74) .any,none⟩,
 ⟨some 11,.mv true (.t 75),none⟩]
abbrev zz19_r11:List AI:=[
 ⟨some 77,.mv false (.t 1),none⟩,
 ⟨some 78,.call (.c (.fn f_zz48)) [(.t 77),(.c (.int .i64 3))] 0,none⟩,
 ⟨some 76,.mv false (.t 78),none⟩,
 ⟨some 79,.ext (.t 76) 0,none⟩,
 ⟨some 80,.ext (.t 76) 1,none⟩,
 ⟨some 12,.alloc (zr 64 (.int .u8 0)),none⟩,
 ⟨none,.store 64 (.t 12) (.t 79) .any,none⟩,
 ⟨some 13,.mv true (.t 80),none⟩]
abbrev zz19_r12:List AI:=[
 ⟨some 81,.mv false (.t 6),none⟩,
 ⟨some 82,.bin .neq (.t 81) (.c (.int .i64 8)),none⟩,
 ⟨some 83,.mv false (.t 82),none⟩,
 ⟨some 84,.mv false (.t 7),some (83,false)⟩,
 ⟨some 85,.bin .neq (.t 84) (.c (.int .i64 0)),some (83,false)⟩,
 ⟨some 86,.pick (.t 83) (.c (.bool true)) (.t 85),none⟩,
 ⟨some 87,.mv false (.t 86),none⟩,
 ⟨some 88,.mv false (.t 8),some (87,false)⟩,
 ⟨some 89,.bin .neq (.t 88) (.c (.str [107,101,121])),some (87,false)⟩,
 ⟨some 90,.pick (.t 87) (.c (.bool true)) (.t 89),none⟩,
 ⟨some 91,.mv false (.t 90),none⟩,
 ⟨some 92,.mv false (.t 9),some (91,false)⟩,
 ⟨some 93,.bin .neq (.t 92) (.c (.int .i64 0)),some (91,false)⟩,
 ⟨some 94,.pick (.t 91) (.c (.bool true)) (.t 93),none⟩,
 ⟨some 95,.mv false (.t 94),none⟩,
 ⟨some 96,.mv false (.t 11),some (95,false)⟩,
 ⟨some 97,.bin .neq (.t 96) (.c (.int .i64 0)),some (95,false)⟩,
 ⟨some 98,.pick (.t 95) (.c (.bool true)) (.t 97),none⟩,
 ⟨some 99,.mv false (.t 98),none⟩,
 ⟨some 100,.mv false (.t 13),some (99,false)⟩,
 ⟨some 101,.bin .neq (.t 100) (.c (.int .i64 0)),some (99,false)⟩,
 ⟨some 102,.pick (.t 99) (.c (.bool true)) (.t 101),none⟩,
 ⟨some 103,.mv false (.t 102),none⟩,
 ⟨some 104,.load true 64 (.t 10) (.site 10),some (103,false)⟩,
 ⟨some 105,.call (.c (.fn f_zz31)) [(.c (.int .i64 2)),(.c (.str [107,101,121]))] 2,some (103,false)⟩,
 ⟨some 106,.eqs true (kr 64 .i) (.t 104) (.t 105),some (103,false)⟩,
 ⟨some 107,.pick (.t 103) (.c (.bool true)) (.t 106),none⟩,
 ⟨some 108,.mv false (.t 107),none⟩,
 ⟨some 109,.load true 64 (.t 12) (.site 12),some (108,false)⟩,
 ⟨some 110,.load true 64 (.t 10) (.site 10),some (108,false)⟩,
 ⟨some 111,.eqs true (kr 64 .i) (.t 109) (.t 110),some (108,false)⟩,
 ⟨some 112,.pick (.t 108) (.c (.bool true)) (.t 111),none⟩,
 ⟨some 113,.mv false (.t 112),none⟩,
 ⟨some 114,.iaddrA 64 1 (.t 10) (.c (.int .i64 3)),some (113,false)⟩,
 ⟨some 115,.load false 1 (.t 114) (.site 10),some (113,false)⟩,
 ⟨some 116,.bin .neq (.t 115) (.c (.int .u8 2)),some (113,false)⟩,
 ⟨some 117,.pick (.t 113) (.c (.bool true)) (.t 116),none⟩,
 ⟨some 118,.mv false (.t 117),none⟩,
 ⟨some 119,.iaddrA 64 1 (.t 10) (.c (.int .i64 4)),some (118,false)⟩,
 ⟨some 120,.load false 1 (.t 119) (.site 10),some (118,false)⟩,
 ⟨some 121,.bin .neq (.t 120) (.c (.int .u8 107)),some (118,false)⟩,
 ⟨some 122,.pick (.t 118) (.c (.bool true)) (.t 121),none⟩,
 ⟨some 123,.mv false (.t 122),none⟩,
 ⟨some 124,.iaddrA 64 1 (.t 10) (.c (.int .i64 36)),some (123,false)⟩,
 ⟨some 125,.load false 1 (.t 124) (.site 10),some (123,false)⟩,
 ⟨some 126,.bin .neq (.t 125) (.c (.int .u8 3)),some (123,false)⟩,
 ⟨some 127,.pick (.t 123) (.c (.bool true)) (.t 126),none⟩,
 ⟨some 128,.mv false (.t 127),none⟩,
 ⟨some 129,.mv false (.t 1),some (128,false)⟩,
 ⟨some 130,.call (.c (.fn f_zz39)) [(.t 129)] 2,some (128,false)⟩,
 ⟨some 131,.bin .neq (.t 130) (.c (.int .i64 13)),some (128,false)⟩,
 ⟨some 132,.pick (.t 128) (.c (.bool true)) (.t 131),none⟩]
abbrev zz19_r13:List AI:=[
 ⟨some 0,.mv true (.c (.bool false)),none⟩]
abbrev zz19_r14:List AI:=[
 ⟨some 133,.mv false (.t 1),none⟩,
 ⟨some 134,.call (.c (.fn f_zz53)) [(.t 133),(.c (.int .i64 2))] 0,none⟩,
 ⟨some 14,.mv true (.t 134),none⟩]
abbrev zz19_r15:List AI:=[
 ⟨some 136,.mv false (.t 2),none⟩,
 ⟨some 137,.call (.c (.fn f_zz42)) [(.t 136),(.c (.int .i64 1))] 0,none⟩,
 ⟨some 135,.mv false (.t 137),none⟩,
 ⟨some 138,.ext (.t 135) 0,none⟩,
 ⟨some 139,.ext (.t 135) 1,none⟩,
 ⟨some 15,.mv true (.t 138),none⟩,
 ⟨some 16,.mv true (.t 139),none⟩]
abbrev zz19_r16:List AI:=[
 ⟨some 140,.mv false (.t 2),none⟩,
 ⟨some 141,.call (.c (.fn f_zz43)) [(.t 140),(.c (.int .i64 1)),(.c (.str [110,101,119]))] 0,none⟩,
 ⟨some 17,.mv true (.t 141),none⟩]
abbrev zz19_r17:List AI:=[
 ⟨some 142,.mv false (.t 1),none⟩,
 ⟨some 143,.call (.c (.fn f_zz39)) [(.t 142)] 0,none⟩,
 ⟨some 18,.mv true (.t 143),none⟩]
abbrev zz19_r18:List AI:=[
 ⟨some 144,.mv false (.t 2),none⟩,
 ⟨some 145,.call (.c (.fn f_zz36)) [(.t 144),(.c (.int .i64 1))] 0,none⟩,
 ⟨some 19,.mv true (.t 145),none⟩]
abbrev zz19_r19:List AI:=[
 ⟨some 147,.mv false (.t 2),none⟩,
 ⟨some 148,.call (.c (.fn f_zz42)) [(.t 147),(.c (.int .i64 1))] 0,none⟩,
 ⟨some 146,.mv false (.t 148),none⟩,
 ⟨some 149,.ext (.t 146) 0,none⟩,
 ⟨some 150,.ext (.t 146) 1,none⟩,
 ⟨some 20,.mv true (.t 149),none⟩,
 ⟨some 21,.mv true (.t 150),none⟩]
abbrev zz19_r20:List AI:=[
 ⟨some 152,.mv false (.t 2),none⟩,
 ⟨some 153,.call (.c (.fn f_zz42)) [(.t 152),(.c (.int .i64 4))] 0,none⟩,
 ⟨some 151,.mv false (.t 153),none⟩,
 ⟨some 154,.ext (.t 151) 0,none⟩,
 ⟨some 155,.ext (.t 151) 1,none⟩,
 ⟨some 22,.mv true (.t 154),none⟩,
 ⟨some 23,.mv true (.t 155),none⟩]
abbrev zz19_r21:List AI:=[
 ⟨some 156,.mv false (.t 14),none⟩,
 ⟨some 157,.bin .eql (.t 156) (.c (.int .i64 0)),none⟩,
 ⟨some 158,.mv false (.t 157),none⟩,
 ⟨some 159,.mv false (.t 15),some (158,true)⟩,
 ⟨some 160,.bin .eql (.t 159) (.c (.str [107,101,121])),some (158,true)⟩,
 ⟨some 161,.pick (.t 158) (.t 160) (.c (.bool false)),none⟩,
 ⟨some 162,.mv false (.t 161),none⟩,
 ⟨some 163,.mv false (.t 16),some (162,true)⟩,
 ⟨some 164,.bin .eql (.t 163) (.c (.int .i64 0)),some (162,true)⟩,
 ⟨some 165,.pick (.t 162) (.t 164) (.c (.bool false)),none⟩,
 ⟨some 166,.mv false (.t 165),none⟩,
 ⟨some 167,.mv false (.t 17),some (166,true)⟩,
 ⟨some 168,.bin .eql (.t 167) (.c (.int .i64 0)),some (166,true)⟩,
 ⟨some 169,.pick (.t 166) (.t 168) (.c (.bool false)),none⟩,
 ⟨some 170,.mv false (.t 169),none⟩,
 ⟨some 171,.mv false (.t 18),some (170,true)⟩,
 ⟨some 172,.bin .eql (.t 171) (.c (.int .i64 19)),some (170,true)⟩,
 ⟨some 173,.pick (.t 170) (.t 172) (.c (.bool false)),none⟩,
 ⟨some 174,.mv false (.t 173),none⟩,
 ⟨some 175,.mv false (.t 19),some (174,true)⟩,
 ⟨some 176,.bin .eql (.t 175) (.c (.int .i64 0)),some (174,true)⟩,
 ⟨some 177,.pick (.t 174) (.t 176) (.c (.bool false)),none⟩,
 ⟨some 178,.mv false (.t 177),none⟩,
 ⟨some 179,.mv false (.t 21),some (178,true)⟩,
 ⟨some 180,.bin .eql (.t 179) (.c (.int .i64 8)),some (178,true)⟩,
 ⟨some 181,.pick (.t 178) (.t 180) (.c (.bool false)),none⟩,
 ⟨some 182,.mv false (.t 181),none⟩,
 ⟨some 183,.mv false (.t 23),some (182,true)⟩,
 ⟨some 184,.bin .eql (.t 183) (.c (.int .i64 1)),some (182,true)⟩,
 ⟨some 185,.pick (.t 182) (.t 184) (.c (.bool false)),none⟩,
 ⟨some 186,.mv false (.t 185),none⟩,
 ⟨some 187,.mv false (.t 2),some (186,true)⟩,
 ⟨some 188,.call (.c (.fn f_zz43)) [(.t 187),(.c (.int .i64 1)),(.c (.str []))] 0,some (186,true)⟩,
 ⟨some 189,.bin .eql (.t 188) (.c (.int .i64 1)),some (186,true)⟩,
 ⟨some 190,.pick (.t 186) (.t 189) (.c (.bool false)),none⟩,
 ⟨some 0,.mv true (.t 190),none⟩]
abbrev zz19_c:ACode:=.seq (.reg false zz19_r0) (.seq (.reg false zz19_r1) (.seq (.seq (.reg false zz19_r2) (.cond (.t 36) (.seq (.reg false zz19_r3) (.ret)) (.skip))) (.seq (.reg false zz19_r4) (.seq (.seq (.reg false zz19_r5) (.cond (.t 58) (.seq (.reg false zz19_r6) (.ret)) (.skip))) (.seq (.reg false zz19_r7) (.seq (.reg false zz19_r8) (.seq (.reg false zz19_r9) (.seq (.reg false zz19_r10) (.seq (.reg false zz19_r11) (.seq (.seq (.reg true zz19_r12) (.cond (.t 132) (.seq (.reg false zz19_r13) (.ret)) (.skip))) (.seq (.reg false zz19_r14) (.seq (.reg false zz19_r15) (.seq (.reg false zz19_r16) (.seq (.reg false zz19_r17) (.seq (.reg false zz19_r18) (.seq (.reg false zz19_r19) (.seq (.reg false zz19_r20) (.seq (.reg false zz19_r21) (.ret)))))))))))))))))))
def zz19_F:AFunc:=⟨191,[.tmp 0],zz19_c⟩
theorem zz19_cp:compile Try.prog [] f_zz19=some zz19_F:=by kernel_rfl
abbrev zz40_r0:List AI:=[
 ⟨some 5,.box 64 (.t 2),none⟩,
 ⟨some 6,.mv true (.c (.int .i64 0)),none⟩]
abbrev zz40_r1:List AI:=[
 ⟨some 8,.mv false (.t 0),none⟩,
 ⟨some 9,.mv false (.t 1),none⟩,
 ⟨some 10,.call (.c (.fn f_zz41)) [(.t 8),(.t 9)] 0,none⟩,
 ⟨some 7,.mv true (.t 10),none⟩]
abbrev zz40_r2:List AI:=[
 ⟨some 11,.mv false (.t 7),none⟩,
 ⟨some 12,.bin .eql (.t 11) (.c (.int .i64 0)),none⟩]
abbrev zz40_r3:List AI:=[
 ⟨some 13,.mv false (.t 0),none⟩,
 ⟨some 14,.call (.c (.fn f_zz51)) [(.t 13)] 0,none⟩,
 ⟨some 7,.mv true (.t 14),none⟩]
abbrev zz40_r4:List AI:=[
 ⟨some 15,.mv false (.t 7),none⟩,
 ⟨some 16,.bin .eql (.t 15) (.c (.int .i64 0)),none⟩]
abbrev zz40_r5:List AI:=[
 ⟨some 17,.mv false (.t 0),none⟩,
 ⟨some 18,.nilck (.t 17),none⟩,
 ⟨some 19,.faddr 1 (.t 18),none⟩,
 ⟨some 20,.load false 1 (.t 19) .foreign,none⟩,
 ⟨some 21,.mv false (.t 1),none⟩,
 ⟨some 22,.mv false (.t 0),none⟩,
 ⟨some 23,.nilck (.t 22),none⟩,
 ⟨some 24,.faddr 1 (.t 23),none⟩,
 ⟨some 25,.load false 1 (.t 24) .foreign,none⟩,
 ⟨some 26,.mv false (.t 1),none⟩,
 ⟨some 27,.gd (.mlook [.i] .nilS false) [(.t 25),(.t 26)],none⟩,
 ⟨some 28,.load true 64 (.t 5) (.site 5),none⟩,
 ⟨some 29,.mkslice 64 1 (.agg (zr 64 (.int .u8 0))) [(0,(.t 28))],none⟩,
 ⟨some 30,.kp [(.ld false 1 (.t 19))] (.appG 64 64 (zr 64 (.int .u8 0)) (.t 27) (.t 29)),none⟩,
 ⟨none,.gd (.mset [.i]) [(.t 20),(.t 21),(.t 30)],none⟩]
abbrev zz40_r6:List AI:=[
 ⟨some 31,.mv false (.t 7),none⟩,
 ⟨some 6,.mv true (.t 31),none⟩]
abbrev zz40_c:ACode:=.seq (.reg false zz40_r0) (.seq (.reg false zz40_r1) (.seq (.seq (.reg false zz40_r2) (.cond (.t 12) (.reg false zz40_r3) (.skip))) (.seq (.seq (.reg false zz40_r4) (.cond (.t 16) (.reg true zz40_r5) (.skip))) (.seq (.reg false zz40_r6) (.ret)))))
def zz40_F:AFunc:=⟨32,[.tmp 6],zz40_c⟩
theorem zz40_cp:compile Try.prog [30] f_zz40=some zz40_F:=by kernel_rfl
-- loop 0: [0, 2, 3, 4]
abbrev zz20_r0:List AI:=[
 ⟨some 2,.alloc (zr 64 (.int .u8 0)),none⟩]
abbrev zz20_r1:List AI:=[
 ⟨some 3,.alloc (zr 64 (.int .u8 0)),none⟩]
abbrev zz20_r2:List AI:=[
 ⟨some 4,.mv true (.c (.int .i64 0)),none⟩]
abbrev zz20_r3:List AI:=[
 ⟨some 5,.mv false (.t 4),none⟩,
 ⟨some 6,.bin .lss (.t 5) (.c (.int .i64 64)),none⟩]
abbrev zz20_r4:List AI:=[
 ⟨some 9,.mv false (.t 4),none⟩,
 ⟨some 10,.mv false (.t 0),none⟩,
 ⟨some 11,.conv .u8 (.t 10),none⟩,
 ⟨some 12,.iaddrA 64 1 (.t 3) (.t 9),none⟩,
 ⟨none,.store 1 (.t 12) (.t 11) .any,none⟩]
abbrev zz20_r5:List AI:=[
 ⟨some 7,.mv false (.t 4),none⟩,
 ⟨some 8,.bin .add (.t 7) (.c (.int .i64 1)),none⟩,
 ⟨some 4,.mv true (.t 8),none⟩]
abbrev zz20_l0:ACode:=.seq (.seq (.reg false zz20_r3) (.cond (.t 6) (.skip) (.exit 0))) (.seq (.block 1 (.reg false zz20_r4)) (.reg false zz20_r5))
abbrev zz20_r6:List AI:=[
 ⟨some 13,.load true 64 (.t 3) .any,none⟩,
 ⟨none,.store 64 (.t 2) (.t 13) .any,none⟩]
abbrev zz20_c:ACode:=.seq (.reg false zz20_r0) (.seq (.reg false zz20_r1) (.seq (.seq (.reg false zz20_r2) (.block 0 (.loop zz20_l0))) (.seq (.reg false zz20_r6) (.ret))))
def zz20_F:AFunc:=⟨14,[.cell 2 true 64],zz20_c⟩
theorem zz20_cp:compile Try.prog [] f_zz20=some zz20_F:=by kernel_rfl
-- loop 0: [0, 1, 31, 32]
abbrev zz54_r0:List AI:=[
 ⟨some 6,.mv true (.c (.int .i64 0)),none⟩]
abbrev zz54_r1:List AI:=[
 ⟨some 9,.mv false (.t 2),none⟩,
 ⟨some 10,.bin .lss (.t 9) (.c (.int .i64 1)),none⟩,
 ⟨some 11,.mv false (.t 10),none⟩,
 ⟨some 12,.mv false (.t 1),some (11,false)⟩,
 ⟨some 13,.bin .lss (.t 12) (.c (.int .i64 0)),some (11,false)⟩,
 ⟨some 14,.pick (.t 11) (.c (.bool true)) (.t 13),none⟩,
 ⟨some 15,.mv false (.t 14),none⟩,
 ⟨some 16,.mv false (.t 1),some (15,false)⟩,
 ⟨some 17,.mv false (.t 0),some (15,false)⟩,
 ⟨some 18,.call (.c (.fn f_zz49)) [(.t 17)] 0,some (15,false)⟩,
 ⟨some 19,.bin .gtr (.t 16) (.t 18),some (15,false)⟩,
 ⟨some 20,.pick (.t 15) (.c (.bool true)) (.t 19),none⟩,
 ⟨some 21,.mv false (.t 20),none⟩,
 ⟨some 22,.mv false (.t 2),some (21,false)⟩,
 ⟨some 23,.mv false (.t 0),some (21,false)⟩,
 ⟨some 24,.call (.c (.fn f_zz49)) [(.t 23)] 0,some (21,false)⟩,
 ⟨some 25,.mv false (.t 1),some (21,false)⟩,
 ⟨some 26,.bin .sub (.t 24) (.t 25),some (21,false)⟩,
 ⟨some 27,.bin .quo (.t 26) (.c (.int .i64 2)),some (21,false)⟩,
 ⟨some 28,.bin .gtr (.t 22) (.t 27),some (21,false)⟩,
 ⟨some 29,.pick (.t 21) (.c (.bool true)) (.t 28),none⟩]
abbrev zz54_r2:List AI:=[
 ⟨some 6,.mv true (.c (.int .i64 1)),none⟩]
abbrev zz54_r3:List AI:=[
 ⟨some 30,.mv false (.t 2),none⟩,
 ⟨some 31,.bin .mul (.c (.int .i64 2)) (.t 30),none⟩,
 ⟨some 32,.mv false (.c (.int .i64 0)),none⟩]
abbrev zz54_r4:List AI:=[
 ⟨some 33,.bin .lss (.t 32) (.t 31),none⟩]
abbrev zz54_r5:List AI:=[
 ⟨some 34,.mv false (.t 32),none⟩,
 ⟨some 7,.mv true (.t 34),none⟩]
abbrev zz54_r6:List AI:=[
 ⟨some 35,.mv false (.t 0),none⟩,
 ⟨some 36,.mv false (.t 1),none⟩,
 ⟨some 37,.mv false (.t 7),none⟩,
 ⟨some 38,.bin .add (.t 36) (.t 37),none⟩,
 ⟨some 39,.call (.c (.fn f_zz56)) [(.c (.int .u32 1)),(.c (.str []))] 0,none⟩,
 ⟨some 40,.call (.c (.fn f_zz40)) [(.t 35),(.t 38),(.t 39)] 0,none⟩,
 ⟨some 8,.mv true (.t 40),none⟩]
abbrev zz54_r7:List AI:=[
 ⟨some 41,.mv false (.t 8),none⟩,
 ⟨some 42,.bin .neq (.t 41) (.c (.int .i64 0)),none⟩]
abbrev zz54_r8:List AI:=[
 ⟨some 43,.mv false (.t 8),none⟩,
 ⟨some 6,.mv true (.t 43),none⟩]
abbrev zz54_r9:List AI:=[
 ⟨some 44,.bin .add (.t 32) (.c (.int .i64 1)),none⟩,
 ⟨some 32,.mv false (.t 44),none⟩]
abbrev zz54_l0:ACode:=.seq (.reg false zz54_r4) (.seq (.cond (.t 33) (.skip) (.exit 0)) (.seq (.block 1 (.seq (.reg false zz54_r5) (.seq (.reg false zz54_r6) (.seq (.reg false zz54_r7) (.cond (.t 42) (.seq (.reg false zz54_r8) (.ret)) (.skip)))))) (.reg false zz54_r9)))
abbrev zz54_r10:List AI:=[
 ⟨some 45,.mv false (.t 0),none⟩,
 ⟨some 46,.call (.c (.fn f_zz50)) [(.t 45)] 0,none⟩,
 ⟨some 6,.mv true (.t 46),none⟩]
abbrev zz54_c:ACode:=.seq (.reg false zz54_r0) (.seq (.seq (.reg false zz54_r1) (.cond (.t 29) (.seq (.reg false zz54_r2) (.ret)) (.skip))) (.seq (.seq (.reg false zz54_r3) (.block 0 (.loop zz54_l0))) (.seq (.reg false zz54_r10) (.ret))))
def zz54_F:AFunc:=⟨47,[.tmp 6],zz54_c⟩
theorem zz54_cp:compile Try.prog [] f_zz54=some zz54_F:=by kernel_rfl
-- loop 0: [0, 1, 9, 10, 42, 43]
abbrev zz58_r0:List AI:=[
 ⟨some 6,.mv true (.c .nilP),none⟩,
 ⟨some 7,.mv true (.c .nilS),none⟩,
 ⟨some 8,.mv true (.c (.int .i64 0)),none⟩]
abbrev zz58_r1:List AI:=[
 ⟨some 15,.mv false (.t 2),none⟩,
 ⟨some 16,.bin .lss (.t 15) (.c (.int .i64 1)),none⟩,
 ⟨some 17,.mv false (.t 16),none⟩,
 ⟨some 18,.mv false (.t 1),some (17,false)⟩,
 ⟨some 19,.bin .lss (.t 18) (.c (.int .i64 0)),some (17,false)⟩,
 ⟨some 20,.pick (.t 17) (.c (.bool true)) (.t 19),none⟩,
 ⟨some 21,.mv false (.t 20),none⟩,
 ⟨some 22,.mv false (.t 1),some (21,false)⟩,
 ⟨some 23,.mv false (.t 0),some (21,false)⟩,
 ⟨some 24,.call (.c (.fn f_zz49)) [(.t 23)] 0,some (21,false)⟩,
 ⟨some 25,.bin .gtr (.t 22) (.t 24),some (21,false)⟩,
 ⟨some 26,.pick (.t 21) (.c (.bool true)) (.t 25),none⟩,
 ⟨some 27,.mv false (.t 26),none⟩,
 ⟨some 28,.mv false (.t 2),some (27,false)⟩,
 ⟨some 29,.mv false (.t 0),some (27,false)⟩,
 ⟨some 30,.call (.c (.fn f_zz49)) [(.t 29)] 0,some (27,false)⟩,
 ⟨some 31,.mv false (.t 1),some (27,false)⟩,
 ⟨some 32,.bin .sub (.t 30) (.t 31),some (27,false)⟩,
 ⟨some 33,.bin .quo (.t 32) (.c (.int .i64 2)),some (27,false)⟩,
 ⟨some 34,.bin .gtr (.t 28) (.t 33),some (27,false)⟩,
 ⟨some 35,.pick (.t 27) (.c (.bool true)) (.t 34),none⟩]
abbrev zz58_r2:List AI:=[
 ⟨some 6,.mv true (.c .nilP),none⟩,
 ⟨some 7,.mv true (.c .nilS),none⟩,
 ⟨some 8,.mv true (.c (.int .i64 1)),none⟩]
abbrev zz58_r3:List AI:=[
 ⟨some 36,.mv false (.t 0),none⟩,
 ⟨some 37,.mv false (.t 1),none⟩,
 ⟨some 38,.mv false (.t 2),none⟩,
 ⟨some 39,.build [.nilP,(.int .i64 0),(.int .i64 0)] [(0,1,(.t 36)),(1,1,(.t 37)),(2,1,(.t 38))],none⟩,
 ⟨some 40,.build [.nilP,(.int .i64 0),(.int .i64 0)] [(0,3,(.t 39))],none⟩,
 ⟨some 41,.gn (.box 3) [(.t 40)],none⟩,
 ⟨some 9,.mv true (.t 41),none⟩]
abbrev zz58_r4:List AI:=[
 ⟨some 10,.mv true (.c .nilS),none⟩]
abbrev zz58_r5:List AI:=[
 ⟨some 42,.mv false (.t 2),none⟩,
 ⟨some 43,.mv false (.c (.int .i64 0)),none⟩]
abbrev zz58_r6:List AI:=[
 ⟨some 44,.bin .lss (.t 43) (.t 42),none⟩]
abbrev zz58_r7:List AI:=[
 ⟨some 45,.mv false (.t 43),none⟩,
 ⟨some 11,.mv true (.t 45),none⟩]
abbrev zz58_r8:List AI:=[
 ⟨some 47,.mv false (.t 9),none⟩,
 ⟨some 48,.nilck (.t 47),none⟩,
 ⟨some 49,.faddr 0 (.t 48),none⟩,
 ⟨some 50,.load true 3 (.t 49) .any,none⟩,
 ⟨some 51,.mv false (.t 11),none⟩,
 ⟨some 52,.call (.c (.fn f_zz45)) [(.t 50),(.t 51)] 0,none⟩,
 ⟨some 46,.mv false (.t 52),none⟩,
 ⟨some 53,.ext (.t 46) 0,none⟩,
 ⟨some 54,.ext (.t 46) 1,none⟩,
 ⟨some 55,.ext (.t 46) 2,none⟩,
 ⟨some 12,.alloc (zr 64 (.int .u8 0) ++ [(.int .i64 0),(.bool false)]),none⟩,
 ⟨some 13,.alloc (zr 64 (.int .u8 0) ++ [(.int .i64 0),(.bool false)]),none⟩,
 ⟨none,.store 66 (.t 12) (.t 53) .any,none⟩,
 ⟨none,.store 66 (.t 13) (.t 54) .any,none⟩,
 ⟨some 14,.mv true (.t 55),none⟩]
abbrev zz58_r9:List AI:=[
 ⟨some 56,.mv false (.t 14),none⟩,
 ⟨some 57,.bin .neq (.t 56) (.c (.int .i64 0)),none⟩]
abbrev zz58_r10:List AI:=[
 ⟨some 58,.mv false (.t 14),none⟩,
 ⟨some 6,.mv true (.c .nilP),none⟩,
 ⟨some 7,.mv true (.c .nilS),none⟩,
 ⟨some 8,.mv true (.t 58),none⟩]
abbrev zz58_r11:List AI:=[
 ⟨some 59,.faddr 65 (.t 12),none⟩,
 ⟨some 60,.load false 1 (.t 59) .any,none⟩]
abbrev zz58_r12:List AI:=[
 ⟨some 61,.mv false (.t 9),none⟩,
 ⟨some 62,.nilck (.t 61),none⟩,
 ⟨some 63,.faddr 0 (.t 62),none⟩,
 ⟨some 64,.load true 3 (.t 63) .foreign,none⟩,
 ⟨some 65,.load true 66 (.t 12) (.site 12),none⟩,
 ⟨some 66,.load true 66 (.t 13) (.site 13),none⟩,
 ⟨some 67,.call (.c (.fn f_zz44)) [(.t 64),(.t 65),(.t 66)] 2,none⟩,
 ⟨some 14,.mv true (.t 67),none⟩]
abbrev zz58_r13:List AI:=[
 ⟨some 68,.mv true (.t 10),none⟩,
 ⟨some 69,.mv false (.t 11),none⟩,
 ⟨some 70,.mkslice 1 1 (.int .i64 0) [(0,(.t 69))],none⟩,
 ⟨some 71,.append 1 8 (.t 68) (.t 70),none⟩,
 ⟨some 10,.mv true (.t 71),none⟩]
abbrev zz58_r14:List AI:=[
 ⟨some 72,.mv false (.t 0),none⟩,
 ⟨some 73,.mv false (.t 1),none⟩,
 ⟨some 74,.mv false (.t 11),none⟩,
 ⟨some 75,.bin .mul (.c (.int .i64 2)) (.t 74),none⟩,
 ⟨some 76,.bin .add (.t 73) (.t 75),none⟩,
 ⟨some 77,.call (.c (.fn f_zz54)) [(.t 72),(.t 76),(.c (.int .i64 1))] 0,none⟩,
 ⟨some 14,.mv true (.t 77),none⟩]
abbrev zz58_r15:List AI:=[
 ⟨some 78,.mv false (.t 14),none⟩,
 ⟨some 79,.bin .neq (.t 78) (.c (.int .i64 0)),none⟩]
abbrev zz58_r16:List AI:=[
 ⟨some 80,.mv false (.t 14),none⟩,
 ⟨some 6,.mv true (.c .nilP),none⟩,
 ⟨some 7,.mv true (.c .nilS),none⟩,
 ⟨some 8,.mv true (.t 80),none⟩]
abbrev zz58_r17:List AI:=[
 ⟨some 81,.bin .add (.t 43) (.c (.int .i64 1)),none⟩,
 ⟨some 43,.mv false (.t 81),none⟩]
abbrev zz58_l0:ACode:=.seq (.reg false zz58_r6) (.seq (.cond (.t 44) (.skip) (.exit 0)) (.seq (.block 1 (.seq (.reg false zz58_r7) (.seq (.reg false zz58_r8) (.seq (.seq (.reg false zz58_r9) (.cond (.t 57) (.seq (.reg false zz58_r10) (.ret)) (.skip))) (.seq (.seq (.reg false zz58_r11) (.cond (.t 60) (.reg true zz58_r12) (.seq (.reg false zz58_r13) (.reg false zz58_r14)))) (.seq (.reg false zz58_r15) (.cond (.t 79) (.seq (.reg false zz58_r16) (.ret)) (.skip)))))))) (.reg false zz58_r17)))
abbrev zz58_r18:List AI:=[
 ⟨some 82,.mv false (.t 9),none⟩,
 ⟨some 83,.mv false (.t 10),none⟩,
 ⟨some 6,.mv true (.t 82),none⟩,
 ⟨some 7,.mv true (.t 83),none⟩,
 ⟨some 8,.mv true (.c (.int .i64 0)),none⟩]
abbrev zz58_c:ACode:=.seq (.reg false zz58_r0) (.seq (.seq (.reg false zz58_r1) (.cond (.t 35) (.seq (.reg false zz58_r2) (.ret)) (.skip))) (.seq (.reg false zz58_r3) (.seq (.reg false zz58_r4) (.seq (.seq (.reg false zz58_r5) (.block 0 (.loop zz58_l0))) (.seq (.reg false zz58_r18) (.ret))))))
def zz58_F:AFunc:=⟨84,[.tmp 6,.tmp 7,.tmp 8],zz58_c⟩
theorem zz58_cp:compile Try.prog [41,67] f_zz58=some zz58_F:=by kernel_rfl
abbrev zz48_r0:List AI:=[
 ⟨some 4,.alloc (zr 64 (.int .u8 0)),none⟩,
 ⟨some 5,.mv true (.c (.int .i64 0)),none⟩]
abbrev zz48_r1:List AI:=[
 ⟨some 8,.mv false (.t 0),none⟩,
 ⟨some 9,.mv false (.t 1),none⟩,
 ⟨some 10,.call (.c (.fn f_zz41)) [(.t 8),(.t 9)] 0,none⟩,
 ⟨some 6,.mv true (.t 10),none⟩]
abbrev zz48_r2:List AI:=[
 ⟨some 11,.mv false (.t 6),none⟩,
 ⟨some 12,.bin .neq (.t 11) (.c (.int .i64 0)),none⟩]
abbrev zz48_r3:List AI:=[
 ⟨some 13,.build (zr 64 (.int .u8 0)) [],none⟩,
 ⟨some 14,.mv false (.t 6),none⟩,
 ⟨none,.store 64 (.t 4) (.t 13) .any,none⟩,
 ⟨some 5,.mv true (.t 14),none⟩]
abbrev zz48_r4:List AI:=[
 ⟨some 15,.mv false (.t 0),none⟩,
 ⟨some 16,.nilck (.t 15),none⟩,
 ⟨some 17,.faddr 1 (.t 16),none⟩,
 ⟨some 18,.load false 1 (.t 17) .any,none⟩,
 ⟨some 19,.mv false (.t 1),none⟩,
 ⟨some 20,.gd (.mlook [.i] .nilS false) [(.t 18),(.t 19)],none⟩,
 ⟨some 7,.mv true (.t 20),none⟩]
abbrev zz48_r5:List AI:=[
 ⟨some 21,.mv false (.t 7),none⟩,
 ⟨some 22,.len false (.t 21),none⟩,
 ⟨some 23,.bin .gtr (.t 22) (.c (.int .i64 0)),none⟩]
abbrev zz48_r6:List AI:=[
 ⟨some 24,.mv false (.t 7),none⟩,
 ⟨some 25,.mv false (.t 7),none⟩,
 ⟨some 26,.len false (.t 25),none⟩,
 ⟨some 27,.bin .sub (.t 26) (.c (.int .i64 1)),none⟩,
 ⟨some 28,.iaddr 64 (.t 24) (.t 27),none⟩,
 ⟨some 29,.load true 64 (.t 28) .any,none⟩,
 ⟨none,.store 64 (.t 4) (.t 29) .any,none⟩,
 ⟨some 5,.mv true (.c (.int .i64 0)),none⟩]
abbrev zz48_r7:List AI:=[
 ⟨some 30,.mv false (.t 0),none⟩,
 ⟨some 31,.nilck (.t 30),none⟩,
 ⟨some 32,.faddr 0 (.t 31),none⟩,
 ⟨some 33,.load false 1 (.t 32) .any,none⟩,
 ⟨some 34,.mv false (.t 1),none⟩,
 ⟨some 35,.iaddr 65 (.t 33) (.t 34),none⟩,
 ⟨some 36,.faddr 64 (.t 35),none⟩,
 ⟨some 37,.load false 1 (.t 36) .any,none⟩]
abbrev zz48_r8:List AI:=[
 ⟨some 38,.build (zr 64 (.int .u8 0)) [],none⟩,
 ⟨none,.store 64 (.t 4) (.t 38) .any,none⟩,
 ⟨some 5,.mv true (.c (.int .i64 14)),none⟩]
abbrev zz48_r9:List AI:=[
 ⟨some 39,.mv false (.t 0),none⟩,
 ⟨some 40,.nilck (.t 39),none⟩,
 ⟨some 41,.faddr 0 (.t 40),none⟩,
 ⟨some 42,.load false 1 (.t 41) .any,none⟩,
 ⟨some 43,.mv false (.t 1),none⟩,
 ⟨some 44,.iaddr 65 (.t 42) (.t 43),none⟩,
 ⟨some 45,.faddr 0 (.t 44),none⟩,
 ⟨some 46,.load true 64 (.t 45) .any,none⟩,
 ⟨none,.store 64 (.t 4) (.t 46) .any,none⟩,
 ⟨some 5,.mv true (.c (.int .i64 0)),none⟩]
abbrev zz48_c:ACode:=.seq (.reg false zz48_r0) (.seq (.seq (.reg false zz48_r1) (.seq (.reg false zz48_r2) (.cond (.t 12) (.seq (.reg false zz48_r3) (.ret)) (.skip)))) (.seq (.seq (.reg false zz48_r4) (.seq (.reg false zz48_r5) (.cond (.t 23) (.seq (.reg false zz48_r6) (.ret)) (.skip)))) (.seq (.seq (.reg false zz48_r7) (.cond (.t 37) (.seq (.reg false zz48_r8) (.ret)) (.skip))) (.seq (.reg false zz48_r9) (.ret)))))
def zz48_F:AFunc:=⟨47,[.cell 4 true 64,.tmp 5],zz48_c⟩
theorem zz48_cp:compile Try.prog [] f_zz48=some zz48_F:=by kernel_rfl
abbrev zz43_r0:List AI:=[
 ⟨some 6,.mv true (.c (.int .i64 0)),none⟩]
abbrev zz43_r1:List AI:=[
 ⟨some 7,.mv false (.t 1),none⟩,
 ⟨some 8,.bin .lss (.t 7) (.c (.int .i64 0)),none⟩,
 ⟨some 9,.mv false (.t 8),none⟩,
 ⟨some 10,.mv false (.t 1),some (9,false)⟩,
 ⟨some 11,.mv false (.t 0),some (9,false)⟩,
 ⟨some 12,.nilck (.t 11),some (9,false)⟩,
 ⟨some 13,.faddr 0 (.t 12),some (9,false)⟩,
 ⟨some 14,.faddr 2 (.t 13),some (9,false)⟩,
 ⟨some 15,.load false 1 (.t 14) .any,some (9,false)⟩,
 ⟨some 16,.bin .geq (.t 10) (.t 15),some (9,false)⟩,
 ⟨some 17,.pick (.t 9) (.c (.bool true)) (.t 16),none⟩,
 ⟨some 18,.mv false (.t 17),none⟩,
 ⟨some 19,.mv false (.t 2),some (18,false)⟩,
 ⟨some 20,.len true (.t 19),some (18,false)⟩,
 ⟨some 21,.bin .lss (.t 20) (.c (.int .i64 1)),some (18,false)⟩,
 ⟨some 22,.pick (.t 18) (.c (.bool true)) (.t 21),none⟩,
 ⟨some 23,.mv false (.t 22),none⟩,
 ⟨some 24,.mv false (.t 2),some (23,false)⟩,
 ⟨some 25,.len true (.t 24),some (23,false)⟩,
 ⟨some 26,.bin .gtr (.t 25) (.c (.int .i64 55)),some (23,false)⟩,
 ⟨some 27,.pick (.t 23) (.c (.bool true)) (.t 26),none⟩]
abbrev zz43_r2:List AI:=[
 ⟨some 6,.mv true (.c (.int .i64 1)),none⟩]
abbrev zz43_r3:List AI:=[
 ⟨some 28,.mv false (.t 0),none⟩,
 ⟨some 29,.mv false (.t 1),none⟩,
 ⟨some 30,.mv false (.t 2),none⟩,
 ⟨some 31,.call (.c (.fn f_zz27)) [(.t 28),(.t 29),(.t 30)] 0,none⟩,
 ⟨some 6,.mv true (.t 31),none⟩]
abbrev zz43_c:ACode:=.seq (.reg false zz43_r0) (.seq (.seq (.reg false zz43_r1) (.cond (.t 27) (.seq (.reg false zz43_r2) (.ret)) (.skip))) (.seq (.reg false zz43_r3) (.ret)))
def zz43_F:AFunc:=⟨32,[.tmp 6],zz43_c⟩
theorem zz43_cp:compile Try.prog [] f_zz43=some zz43_F:=by kernel_rfl
abbrev zz36_r0:List AI:=[
 ⟨some 4,.mv true (.c (.int .i64 0)),none⟩]
abbrev zz36_r1:List AI:=[
 ⟨some 5,.mv false (.t 1),none⟩,
 ⟨some 6,.bin .lss (.t 5) (.c (.int .i64 0)),none⟩,
 ⟨some 7,.mv false (.t 6),none⟩,
 ⟨some 8,.mv false (.t 1),some (7,false)⟩,
 ⟨some 9,.mv false (.t 0),some (7,false)⟩,
 ⟨some 10,.nilck (.t 9),some (7,false)⟩,
 ⟨some 11,.faddr 0 (.t 10),some (7,false)⟩,
 ⟨some 12,.faddr 2 (.t 11),some (7,false)⟩,
 ⟨some 13,.load false 1 (.t 12) .any,some (7,false)⟩,
 ⟨some 14,.bin .geq (.t 8) (.t 13),some (7,false)⟩,
 ⟨some 15,.pick (.t 7) (.c (.bool true)) (.t 14),none⟩]
abbrev zz36_r2:List AI:=[
 ⟨some 4,.mv true (.c (.int .i64 1)),none⟩]
abbrev zz36_r3:List AI:=[
 ⟨some 16,.mv false (.t 0),none⟩,
 ⟨some 17,.mv false (.t 1),none⟩,
 ⟨some 18,.call (.c (.fn f_zz27)) [(.t 16),(.t 17),(.c (.str []))] 0,none⟩,
 ⟨some 4,.mv true (.t 18),none⟩]
abbrev zz36_c:ACode:=.seq (.reg false zz36_r0) (.seq (.seq (.reg false zz36_r1) (.cond (.t 15) (.seq (.reg false zz36_r2) (.ret)) (.skip))) (.seq (.reg false zz36_r3) (.ret)))
def zz36_F:AFunc:=⟨19,[.tmp 4],zz36_c⟩
theorem zz36_cp:compile Try.prog [] f_zz36=some zz36_F:=by kernel_rfl
abbrev zz42_r0:List AI:=[
 ⟨some 4,.mv true (.c (.str [])),none⟩,
 ⟨some 5,.mv true (.c (.int .i64 0)),none⟩]
abbrev zz42_r1:List AI:=[
 ⟨some 11,.mv false (.t 1),none⟩,
 ⟨some 12,.bin .lss (.t 11) (.c (.int .i64 0)),none⟩,
 ⟨some 13,.mv false (.t 12),none⟩,
 ⟨some 14,.mv false (.t 1),some (13,false)⟩,
 ⟨some 15,.mv false (.t 0),some (13,false)⟩,
 ⟨some 16,.nilck (.t 15),some (13,false)⟩,
 ⟨some 17,.faddr 0 (.t 16),some (13,false)⟩,
 ⟨some 18,.faddr 2 (.t 17),some (13,false)⟩,
 ⟨some 19,.load false 1 (.t 18) .any,some (13,false)⟩,
 ⟨some 20,.bin .geq (.t 14) (.t 19),some (13,false)⟩,
 ⟨some 21,.pick (.t 13) (.c (.bool true)) (.t 20),none⟩]
abbrev zz42_r2:List AI:=[
 ⟨some 4,.mv true (.c (.str [])),none⟩,
 ⟨some 5,.mv true (.c (.int .i64 1)),none⟩]
abbrev zz42_r3:List AI:=[
 ⟨some 23,.mv false (.t 0),none⟩,
 ⟨some 24,.nilck (.t 23),none⟩,
 ⟨some 25,.faddr 0 (.t 24),none⟩,
 ⟨some 26,.load true 3 (.t 25) .any,none⟩,
 ⟨some 27,.mv false (.t 1),none⟩,
 ⟨some 28,.call (.c (.fn f_zz45)) [(.t 26),(.t 27)] 0,none⟩,
 ⟨some 22,.mv false (.t 28),none⟩,
 ⟨some 29,.ext (.t 22) 0,none⟩,
 ⟨some 30,.ext (.t 22) 1,none⟩,
 ⟨some 31,.ext (.t 22) 2,none⟩,
 ⟨some 6,.gn (.alloc (zr 64 (.int .u8 0) ++ [(.int .i64 0),(.bool false)])) [],none⟩,
 ⟨some 7,.alloc (zr 64 (.int .u8 0) ++ [(.int .i64 0),(.bool false)]),none⟩,
 ⟨none,.store 66 (.t 6) (.t 29) .any,none⟩,
 ⟨none,.store 66 (.t 7) (.t 30) .any,none⟩,
 ⟨some 8,.mv true (.t 31),none⟩]
abbrev zz42_r4:List AI:=[
 ⟨some 33,.mv false (.t 8),none⟩,
 ⟨some 34,.bin .neq (.t 33) (.c (.int .i64 0)),none⟩,
 ⟨some 32,.mv true (.t 34),none⟩]
abbrev zz42_r5:List AI:=[
 ⟨some 35,.mv false (.t 8),none⟩,
 ⟨some 4,.mv true (.c (.str [])),none⟩,
 ⟨some 5,.mv true (.t 35),none⟩]
abbrev zz42_r6:List AI:=[
 ⟨some 37,.faddr 65 (.t 6),none⟩,
 ⟨some 38,.load false 1 (.t 37) .any,none⟩,
 ⟨some 39,.not (.t 38),none⟩,
 ⟨some 36,.mv true (.t 39),none⟩]
abbrev zz42_r7:List AI:=[
 ⟨some 4,.mv true (.c (.str [])),none⟩,
 ⟨some 5,.mv true (.c (.int .i64 14)),none⟩]
abbrev zz42_r8:List AI:=[
 ⟨some 41,.faddr 0 (.t 6),none⟩,
 ⟨some 42,.iaddrA 64 1 (.t 41) (.c (.int .i64 36)),none⟩,
 ⟨some 43,.load false 1 (.t 42) .any,none⟩,
 ⟨some 44,.bin .eql (.t 43) (.c (.int .u8 0)),none⟩,
 ⟨some 40,.mv true (.t 44),none⟩]
abbrev zz42_r9:List AI:=[
 ⟨some 4,.mv true (.c (.str [])),none⟩,
 ⟨some 5,.mv true (.c (.int .i64 8)),none⟩]
abbrev zz42_b0:ACode:=.seq (.reg false zz42_r8) (.cond (.t 40) (.seq (.reg false zz42_r9) (.ret)) (.skip))
abbrev zz42_b1:ACode:=.seq (.reg false zz42_r6) (.cond (.t 36) (.seq (.reg false zz42_r7) (.ret)) (zz42_b0))
abbrev zz42_r10:List AI:=[
 ⟨some 45,.faddr 0 (.t 6),none⟩,
 ⟨some 46,.iaddrA 64 1 (.t 45) (.c (.int .i64 36)),none⟩,
 ⟨some 47,.load false 1 (.t 46) .any,none⟩,
 ⟨some 48,.conv .i64 (.t 47),none⟩,
 ⟨some 9,.mv true (.t 48),none⟩]
abbrev zz42_r11:List AI:=[
 ⟨some 49,.mkG 1 0 (.int .u8 0) [],none⟩,
 ⟨some 50,.faddr 0 (.t 6),none⟩,
 ⟨some 51,.mv false (.t 9),none⟩,
 ⟨some 52,.mn (.t 51) (.c (.int .i64 28)),none⟩,
 ⟨some 53,.bin .add (.c (.int .i64 4)) (.t 52),none⟩,
 ⟨some 54,.gd (.arrS 1 64 true true false) [(.t 50),(.c (.int .i64 4)),(.t 53)],none⟩,
 ⟨some 55,.appG 1 1 [(.int .u8 0)] (.t 49) (.t 54),none⟩,
 ⟨some 10,.mv true (.t 55),none⟩]
abbrev zz42_r12:List AI:=[
 ⟨some 56,.mv false (.t 9),none⟩,
 ⟨some 57,.bin .gtr (.t 56) (.c (.int .i64 28)),none⟩]
abbrev zz42_r13:List AI:=[
 ⟨some 58,.mv true (.t 10),none⟩,
 ⟨some 59,.faddr 0 (.t 6),none⟩,
 ⟨some 60,.mv false (.t 9),none⟩,
 ⟨some 61,.bin .add (.c (.int .i64 37)) (.t 60),none⟩,
 ⟨some 62,.bin .sub (.t 61) (.c (.int .i64 28)),none⟩,
 ⟨some 63,.gd (.arrS 1 64 true true false) [(.t 59),(.c (.int .i64 37)),(.t 62)],none⟩,
 ⟨some 64,.appG 1 1 [(.int .u8 0)] (.t 58) (.t 63),none⟩,
 ⟨some 10,.mv true (.t 64),none⟩]
abbrev zz42_r14:List AI:=[
 ⟨some 65,.mv false (.t 10),none⟩,
 ⟨some 66,.gd .b2s [(.t 65)],none⟩,
 ⟨some 4,.mv true (.t 66),none⟩,
 ⟨some 5,.mv true (.c (.int .i64 0)),none⟩]
abbrev zz42_c:ACode:=.seq (.reg false zz42_r0) (.seq (.seq (.reg false zz42_r1) (.cond (.t 21) (.seq (.reg false zz42_r2) (.ret)) (.skip))) (.seq (.reg false zz42_r3) (.seq (.block 0 (.seq (.reg false zz42_r4) (.cond (.t 32) (.seq (.reg false zz42_r5) (.ret)) (zz42_b1)))) (.seq (.reg false zz42_r10) (.seq (.reg false zz42_r11) (.seq (.seq (.reg false zz42_r12) (.cond (.t 57) (.reg false zz42_r13) (.skip))) (.seq (.reg false zz42_r14) (.ret))))))))
def zz42_F:AFunc:=⟨67,[.tmp 4,.tmp 5],zz42_c⟩
theorem zz42_cp:compile Try.prog [6,49,55,64,66] f_zz42=some zz42_F:=by kernel_rfl
-- loop 0: [1, 2, 3, 4, 62, 63, 64]
abbrev zz35_r0:List AI:=[
 ⟨some 2,.mv true (.c .nilP),none⟩]
abbrev zz35_r1:List AI:=[
 ⟨some 3,.mv false (.t 0),none⟩,
 ⟨some 4,.bin .lss (.t 3) (.c (.int .i64 1)),none⟩,
 ⟨some 5,.mv false (.t 4),none⟩,
 ⟨some 6,.mv false (.t 0),some (5,false)⟩,
 ⟨some 7,.bin .gtr (.t 6) (.c (.int .i64 65536)),some (5,false)⟩,
 ⟨some 8,.pick (.t 5) (.c (.bool true)) (.t 7),none⟩]
abbrev zz35_r2:List AI:=[
 ⟨some 2,.mv true (.c .nilP),none⟩]
abbrev zz35_r3:List AI:=[
 ⟨some 9,.mv false (.t 0),none⟩,
 ⟨some 10,.gn (.mkSl 66 96 (zr 64 (.int .u8 0) ++ [(.bool false),.nilS])) [(.t 9),(.t 9)],none⟩,
 ⟨some 11,.build [.nilS,(.int .i64 0),(.int .i64 0),(.bool false)] [(0,1,(.t 10)),(2,1,(.c (.int .i64 (-1))))],none⟩,
 ⟨some 12,.gn (.box 4) [(.t 11)],none⟩,
 ⟨some 2,.mv true (.t 12),none⟩]
abbrev zz35_c:ACode:=.seq (.reg false zz35_r0) (.seq (.seq (.reg false zz35_r1) (.cond (.t 8) (.seq (.reg false zz35_r2) (.ret)) (.skip))) (.seq (.reg false zz35_r3) (.ret)))
def zz35_F:AFunc:=⟨13,[.tmp 2],zz35_c⟩
theorem zz35_cp:compile Try.prog [12] f_zz35=some zz35_F:=by kernel_rfl
abbrev zz11_r0:List AI:=[
 ⟨some 4,.alloc (zr 64 (.int .u8 0) ++ [(.int .i64 0)]),none⟩]
abbrev zz11_r1:List AI:=[
 ⟨some 7,.mv false (.t 0),none⟩,
 ⟨some 8,.mv false (.t 1),none⟩,
 ⟨some 9,.call (.c (.fn f_zz6)) [(.t 7),(.t 8)] 0,none⟩,
 ⟨some 5,.mv true (.t 9),none⟩]
abbrev zz11_r2:List AI:=[
 ⟨some 10,.mv false (.t 5),none⟩,
 ⟨some 11,.bin .neq (.t 10) (.c (.int .i64 0)),none⟩]
abbrev zz11_r3:List AI:=[
 ⟨some 12,.mv false (.t 5),none⟩,
 ⟨some 13,.build (zr 64 (.int .u8 0) ++ [(.int .i64 0)]) [(64,1,(.t 12))],none⟩,
 ⟨none,.store 65 (.t 4) (.t 13) .any,none⟩]
abbrev zz11_r4:List AI:=[
 ⟨some 14,.mv false (.t 0),none⟩,
 ⟨some 15,.nilck (.t 14),none⟩,
 ⟨some 16,.faddr 0 (.t 15),none⟩,
 ⟨some 17,.load false 1 (.t 16) .any,none⟩,
 ⟨some 18,.mv false (.t 1),none⟩,
 ⟨some 19,.iaddr 66 (.t 17) (.t 18),none⟩,
 ⟨some 20,.load true 66 (.t 19) .any,none⟩,
 ⟨some 6,.alloc (zr 64 (.int .u8 0) ++ [(.bool false),.nilS]),none⟩,
 ⟨none,.store 66 (.t 6) (.t 20) .any,none⟩]
abbrev zz11_r5:List AI:=[
 ⟨some 21,.faddr 65 (.t 6),none⟩,
 ⟨some 22,.load false 1 (.t 21) .any,none⟩,
 ⟨some 23,.len false (.t 22),none⟩,
 ⟨some 24,.bin .gtr (.t 23) (.c (.int .i64 0)),none⟩]
abbrev zz11_r6:List AI:=[
 ⟨some 25,.faddr 65 (.t 6),none⟩,
 ⟨some 26,.load false 1 (.t 25) .any,none⟩,
 ⟨some 27,.faddr 65 (.t 6),none⟩,
 ⟨some 28,.load false 1 (.t 27) .any,none⟩,
 ⟨some 29,.len false (.t 28),none⟩,
 ⟨some 30,.bin .sub (.t 29) (.c (.int .i64 1)),none⟩,
 ⟨some 31,.iaddr 64 (.t 26) (.t 30),none⟩,
 ⟨some 32,.load true 64 (.t 31) .any,none⟩,
 ⟨some 33,.build (zr 64 (.int .u8 0) ++ [(.int .i64 0)]) [(0,64,(.t 32))],none⟩,
 ⟨none,.store 65 (.t 4) (.t 33) .any,none⟩]
abbrev zz11_r7:List AI:=[
 ⟨some 34,.faddr 64 (.t 6),none⟩,
 ⟨some 35,.load false 1 (.t 34) .any,none⟩]
abbrev zz11_r8:List AI:=[
 ⟨some 36,.build (zr 64 (.int .u8 0) ++ [(.int .i64 0)]) [(64,1,(.c (.int .i64 14)))],none⟩,
 ⟨none,.store 65 (.t 4) (.t 36) .any,none⟩]
abbrev zz11_r9:List AI:=[
 ⟨some 37,.faddr 0 (.t 6),none⟩,
 ⟨some 38,.load true 64 (.t 37) .any,none⟩,
 ⟨some 39,.build (zr 64 (.int .u8 0) ++ [(.int .i64 0)]) [(0,64,(.t 38))],none⟩,
 ⟨none,.store 65 (.t 4) (.t 39) .any,none⟩]
abbrev zz11_c:ACode:=.seq (.reg false zz11_r0) (.seq (.reg false zz11_r1) (.seq (.seq (.reg false zz11_r2) (.cond (.t 11) (.seq (.reg false zz11_r3) (.ret)) (.skip))) (.seq (.reg false zz11_r4) (.seq (.seq (.reg false zz11_r5) (.cond (.t 24) (.seq (.reg false zz11_r6) (.ret)) (.skip))) (.seq (.seq (.reg false zz11_r7) (.cond (.t 35) (.seq (.reg false zz11_r8) (.ret)) (.skip))) (.seq (.reg false zz11_r9) (.ret)))))))
def zz11_F:AFunc:=⟨40,[.cell 4 true 65],zz11_c⟩
theorem zz11_cp:compile Try.prog [] f_zz11=some zz11_F:=by kernel_rfl
-- loop 0: [1, 5, 6, 7, 8, 9, 17, 18, 19, 58]
-- loop 1: [1, 5, 6, 7, 8, 9, 17, 18, 19]
-- loop 0: [0, 1, 5, 25, 26, 27]
abbrev zz38_r0:List AI:=[
 ⟨some 4,.mv true (.c .nilP),none⟩]
abbrev zz38_r1:List AI:=[
 ⟨some 9,.mv false (.t 0),none⟩,
 ⟨some 10,.nilck (.t 9),none⟩,
 ⟨some 11,.faddr 0 (.t 10),none⟩,
 ⟨some 12,.load false 1 (.t 11) .any,none⟩,
 ⟨some 13,.len false (.t 12),none⟩,
 ⟨some 14,.call (.c (.fn f_zz59)) [(.t 13)] 0,none⟩,
 ⟨some 5,.mv true (.t 14),none⟩]
abbrev zz38_r2:List AI:=[
 ⟨some 15,.mv false (.t 5),none⟩,
 ⟨some 16,.nilck (.t 15),none⟩,
 ⟨some 17,.faddr 0 (.t 16),none⟩,
 ⟨some 18,.load false 1 (.t 17) .foreign,none⟩,
 ⟨some 19,.mv false (.t 0),none⟩,
 ⟨some 20,.nilck (.t 19),none⟩,
 ⟨some 21,.faddr 0 (.t 20),none⟩,
 ⟨some 22,.load false 1 (.t 21) .foreign,none⟩,
 ⟨some 23,.copy 65 (.t 18) (.t 22),none⟩]
abbrev zz38_r3:List AI:=[
 ⟨some 24,.mv false (.t 0),none⟩,
 ⟨some 25,.call (.c (.fn f_zz28)) [(.t 24)] 0,none⟩,
 ⟨some 26,.len false (.t 25),none⟩,
 ⟨some 27,.mv false (.c (.int .i64 0)),none⟩]
abbrev zz38_r4:List AI:=[
 ⟨some 28,.bin .lss (.t 27) (.t 26),none⟩]
abbrev zz38_r5:List AI:=[
 ⟨some 29,.mv false (.t 27),none⟩,
 ⟨some 30,.iaddr 1 (.t 25) (.t 27),none⟩,
 ⟨some 31,.load false 1 (.t 30) .any,none⟩,
 ⟨some 6,.mv true (.t 29),none⟩,
 ⟨some 7,.mv true (.t 31),none⟩]
abbrev zz38_r6:List AI:=[
 ⟨some 8,.mv true (.c (.int .i64 0)),none⟩]
abbrev zz38_r7:List AI:=[
 ⟨some 32,.mv false (.t 1),none⟩,
 ⟨some 33,.len false (.t 32),none⟩,
 ⟨some 34,.bin .gtr (.t 33) (.c (.int .i64 0)),none⟩]
abbrev zz38_r8:List AI:=[
 ⟨some 35,.mv false (.t 1),none⟩,
 ⟨some 36,.mv false (.t 6),none⟩,
 ⟨some 37,.mv false (.t 1),none⟩,
 ⟨some 38,.len false (.t 37),none⟩,
 ⟨some 39,.bin .rem (.t 36) (.t 38),none⟩,
 ⟨some 40,.iaddr 1 (.t 35) (.t 39),none⟩,
 ⟨some 41,.load false 1 (.t 40) .any,none⟩,
 ⟨some 8,.mv true (.t 41),none⟩]
abbrev zz38_r9:List AI:=[
 ⟨some 42,.mv false (.t 5),none⟩,
 ⟨some 43,.nilck (.t 42),none⟩,
 ⟨some 44,.faddr 0 (.t 43),none⟩,
 ⟨some 45,.load false 1 (.t 44) .foreign,none⟩,
 ⟨some 46,.mv false (.t 7),none⟩,
 ⟨some 47,.mv false (.t 0),none⟩,
 ⟨some 48,.nilck (.t 47),none⟩,
 ⟨some 49,.faddr 0 (.t 48),none⟩,
 ⟨some 50,.load false 1 (.t 49) .foreign,none⟩,
 ⟨some 51,.mv false (.t 7),none⟩,
 ⟨some 52,.iaddr 65 (.t 50) (.t 51),none⟩,
 ⟨some 53,.load true 65 (.t 52) .foreign,none⟩,
 ⟨some 54,.mv false (.t 0),none⟩,
 ⟨some 55,.nilck (.t 54),none⟩,
 ⟨some 56,.faddr 1 (.t 55),none⟩,
 ⟨some 57,.load false 1 (.t 56) .foreign,none⟩,
 ⟨some 58,.mv false (.t 7),none⟩,
 ⟨some 59,.gd (.mlook [.i] .nilS false) [(.t 57),(.t 58)],none⟩,
 ⟨some 60,.mv false (.t 8),none⟩,
 ⟨some 61,.call (.c (.fn f_zz57)) [(.t 53),(.t 59),(.t 60)] 1,none⟩,
 ⟨some 62,.iaddr 65 (.t 45) (.t 46),none⟩,
 ⟨none,.store 65 (.t 62) (.t 61) .gp,none⟩]
abbrev zz38_r10:List AI:=[
 ⟨some 63,.bin .add (.t 27) (.c (.int .i64 1)),none⟩,
 ⟨some 27,.mv false (.t 63),none⟩]
abbrev zz38_l0:ACode:=.seq (.reg false zz38_r4) (.seq (.cond (.t 28) (.skip) (.exit 0)) (.seq (.block 1 (.seq (.reg false zz38_r5) (.seq (.reg false zz38_r6) (.seq (.seq (.reg false zz38_r7) (.cond (.t 34) (.reg false zz38_r8) (.skip))) (.reg true zz38_r9))))) (.reg false zz38_r10)))
abbrev zz38_r11:List AI:=[
 ⟨some 64,.mv false (.t 5),none⟩,
 ⟨some 4,.mv true (.t 64),none⟩]
abbrev zz38_c:ACode:=.seq (.reg false zz38_r0) (.seq (.reg false zz38_r1) (.seq (.reg true zz38_r2) (.seq (.seq (.reg false zz38_r3) (.block 0 (.loop zz38_l0))) (.seq (.reg false zz38_r11) (.ret)))))
def zz38_F:AFunc:=⟨65,[.tmp 4],zz38_c⟩
theorem zz38_cp:compile Try.prog [] f_zz38=some zz38_F:=by kernel_rfl
abbrev zz49_r0:List AI:=[
 ⟨some 2,.mv true (.c (.int .i64 0)),none⟩]
abbrev zz49_r1:List AI:=[
 ⟨some 3,.mv false (.t 0),none⟩,
 ⟨some 4,.nilck (.t 3),none⟩,
 ⟨some 5,.faddr 0 (.t 4),none⟩,
 ⟨some 6,.load false 1 (.t 5) .any,none⟩,
 ⟨some 7,.len false (.t 6),none⟩,
 ⟨some 2,.mv true (.t 7),none⟩]
abbrev zz49_c:ACode:=.seq (.reg false zz49_r0) (.seq (.reg false zz49_r1) (.ret))
def zz49_F:AFunc:=⟨8,[.tmp 2],zz49_c⟩
theorem zz49_cp:compile Try.prog [] f_zz49=some zz49_F:=by kernel_rfl
abbrev zz46_r0:List AI:=[
 ⟨some 2,.mv true (.c (.bool false)),none⟩]
abbrev zz46_r1:List AI:=[
 ⟨some 3,.mv false (.t 0),none⟩,
 ⟨some 4,.nilck (.t 3),none⟩,
 ⟨some 5,.faddr 4 (.t 4),none⟩,
 ⟨some 6,.load false 1 (.t 5) .any,none⟩,
 ⟨some 2,.mv true (.t 6),none⟩]
abbrev zz46_c:ACode:=.seq (.reg false zz46_r0) (.seq (.reg false zz46_r1) (.ret))
def zz46_F:AFunc:=⟨7,[.tmp 2],zz46_c⟩
theorem zz46_cp:compile Try.prog [] f_zz46=some zz46_F:=by kernel_rfl
abbrev zz39_r0:List AI:=[
 ⟨some 2,.mv true (.c (.int .i64 0)),none⟩]
abbrev zz39_r1:List AI:=[
 ⟨some 3,.mv false (.t 0),none⟩,
 ⟨some 4,.nilck (.t 3),none⟩,
 ⟨some 5,.faddr 2 (.t 4),none⟩,
 ⟨some 6,.load false 1 (.t 5) .any,none⟩,
 ⟨some 2,.mv true (.t 6),none⟩]
abbrev zz39_c:ACode:=.seq (.reg false zz39_r0) (.seq (.reg false zz39_r1) (.ret))
def zz39_F:AFunc:=⟨7,[.tmp 2],zz39_c⟩
theorem zz39_cp:compile Try.prog [] f_zz39=some zz39_F:=by kernel_rfl
-- loop 0: [0, 3, 7, 8, 9]
-- loop 0: [1, 3, 4, 6, 9, 27, 28, 29]
abbrev zz52_r0:List AI:=[
 ⟨some 4,.mv false (.t 0),none⟩,
 ⟨some 5,.mv false (.t 1),none⟩,
 ⟨some 6,.mx (.t 5) (.c (.int .i64 (-1))),none⟩,
 ⟨some 7,.nilck (.t 4),none⟩,
 ⟨some 8,.faddr 3 (.t 7),none⟩,
 ⟨none,.store 1 (.t 8) (.t 6) .any,none⟩]
abbrev zz52_c:ACode:=.reg false zz52_r0
def zz52_F:AFunc:=⟨9,[],zz52_c⟩
theorem zz52_cp:compile Try.prog [] f_zz52=some zz52_F:=by kernel_rfl
-- loop 0: [0, 19]
abbrev zz50_r0:List AI:=[
 ⟨some 2,.mv true (.c (.int .i64 0)),none⟩]
abbrev zz50_r1:List AI:=[
 ⟨some 6,.mv false (.t 0),none⟩,
 ⟨some 7,.call (.c (.fn f_zz41)) [(.t 6),(.c (.int .i64 0))] 0,none⟩,
 ⟨some 3,.mv true (.t 7),none⟩]
abbrev zz50_r2:List AI:=[
 ⟨some 8,.mv false (.t 3),none⟩,
 ⟨some 9,.bin .eql (.t 8) (.c (.int .i64 0)),none⟩]
abbrev zz50_r3:List AI:=[
 ⟨some 10,.mv false (.t 0),none⟩,
 ⟨some 11,.call (.c (.fn f_zz51)) [(.t 10)] 0,none⟩,
 ⟨some 3,.mv true (.t 11),none⟩]
abbrev zz50_r4:List AI:=[
 ⟨some 12,.mv false (.t 3),none⟩,
 ⟨some 13,.bin .neq (.t 12) (.c (.int .i64 0)),none⟩]
abbrev zz50_r5:List AI:=[
 ⟨some 14,.mv false (.t 3),none⟩,
 ⟨some 2,.mv true (.t 14),none⟩]
abbrev zz50_r6:List AI:=[
 ⟨some 15,.mv false (.t 0),none⟩,
 ⟨some 16,.nilck (.t 15),none⟩,
 ⟨some 17,.faddr 1 (.t 16),none⟩,
 ⟨some 18,.load false 1 (.t 17) .any,none⟩,
 ⟨some 19,.gn .rng [(.t 18)],none⟩]
abbrev zz50_r7:List AI:=[
 ⟨some 20,.gn .nxt [(.t 19)],none⟩,
 ⟨some 21,.ext (.t 20) 0,none⟩]
abbrev zz50_r8:List AI:=[
 ⟨some 22,.gd .entry [(.t 19)],none⟩,
 ⟨some 23,.ext (.t 22) 0,none⟩,
 ⟨some 24,.ext (.t 22) 1,none⟩,
 ⟨some 4,.mv true (.t 23),none⟩,
 ⟨some 5,.mv true (.t 24),none⟩]
abbrev zz50_r9:List AI:=[
 ⟨some 25,.mv false (.t 0),none⟩,
 ⟨some 26,.nilck (.t 25),none⟩,
 ⟨some 27,.faddr 0 (.t 26),none⟩,
 ⟨some 28,.load false 1 (.t 27) .foreign,none⟩,
 ⟨some 29,.mv false (.t 4),none⟩,
 ⟨some 30,.mv false (.t 5),none⟩,
 ⟨some 31,.mv false (.t 5),none⟩,
 ⟨some 32,.len false (.t 31),none⟩,
 ⟨some 33,.bin .sub (.t 32) (.c (.int .i64 1)),none⟩,
 ⟨some 34,.iaddr 64 (.t 30) (.t 33),none⟩,
 ⟨some 35,.load true 64 (.t 34) .foreign,none⟩,
 ⟨some 36,.build (zr 64 (.int .u8 0) ++ [(.bool false)]) [(0,64,(.t 35))],none⟩,
 ⟨some 37,.iaddr 65 (.t 28) (.t 29),none⟩,
 ⟨none,.store 65 (.t 37) (.t 36) .gp,none⟩]
abbrev zz50_r10:List AI:=[
 ⟨some 38,.mv false (.t 0),none⟩,
 ⟨some 39,.nilck (.t 38),none⟩,
 ⟨some 40,.faddr 1 (.t 39),none⟩,
 ⟨some 41,.load false 1 (.t 40) .any,none⟩,
 ⟨some 42,.mv false (.t 4),none⟩,
 ⟨none,.gd (.mdel [.i]) [(.t 41),(.t 42)],none⟩]
abbrev zz50_l0:ACode:=.seq (.reg false zz50_r7) (.seq (.cond (.t 21) (.skip) (.exit 0)) (.block 1 (.seq (.reg false zz50_r8) (.seq (.reg true zz50_r9) (.reg false zz50_r10)))))
abbrev zz50_r11:List AI:=[
 ⟨some 2,.mv true (.c (.int .i64 0)),none⟩]
abbrev zz50_c:ACode:=.seq (.reg false zz50_r0) (.seq (.reg false zz50_r1) (.seq (.seq (.reg false zz50_r2) (.cond (.t 9) (.reg false zz50_r3) (.skip))) (.seq (.seq (.reg false zz50_r4) (.cond (.t 13) (.seq (.reg false zz50_r5) (.ret)) (.skip))) (.seq (.seq (.reg false zz50_r6) (.block 0 (.loop zz50_l0))) (.seq (.reg false zz50_r11) (.ret))))))
def zz50_F:AFunc:=⟨43,[.tmp 2],zz50_c⟩
theorem zz50_cp:compile Try.prog [] f_zz50=some zz50_F:=by kernel_rfl
abbrev zz47_r0:List AI:=[
 ⟨some 6,.mv true (.c (.int .i64 0)),none⟩]
abbrev zz47_r1:List AI:=[
 ⟨some 9,.mv false (.t 0),none⟩,
 ⟨some 10,.mv false (.t 1),none⟩,
 ⟨some 11,.call (.c (.fn f_zz41)) [(.t 9),(.t 10)] 0,none⟩,
 ⟨some 7,.mv true (.t 11),none⟩]
abbrev zz47_r2:List AI:=[
 ⟨some 12,.mv false (.t 7),none⟩,
 ⟨some 13,.bin .neq (.t 12) (.c (.int .i64 0)),none⟩]
abbrev zz47_r3:List AI:=[
 ⟨some 14,.mv false (.t 7),none⟩,
 ⟨some 6,.mv true (.t 14),none⟩]
abbrev zz47_r4:List AI:=[
 ⟨some 15,.mv false (.t 2),none⟩,
 ⟨some 16,.bin .lss (.t 15) (.c (.int .i64 0)),none⟩,
 ⟨some 17,.mv false (.t 16),none⟩,
 ⟨some 18,.mv false (.t 2),some (17,false)⟩,
 ⟨some 19,.bin .geq (.t 18) (.c (.int .i64 512)),some (17,false)⟩,
 ⟨some 20,.pick (.t 17) (.c (.bool true)) (.t 19),none⟩]
abbrev zz47_r5:List AI:=[
 ⟨some 6,.mv true (.c (.int .i64 1)),none⟩]
abbrev zz47_r6:List AI:=[
 ⟨some 21,.mv false (.t 0),none⟩,
 ⟨some 22,.nilck (.t 21),none⟩,
 ⟨some 23,.faddr 0 (.t 22),none⟩,
 ⟨some 24,.load false 1 (.t 23) .any,none⟩,
 ⟨some 25,.mv false (.t 1),none⟩,
 ⟨some 26,.iaddr 65 (.t 24) (.t 25),none⟩,
 ⟨some 27,.load true 65 (.t 26) .any,none⟩,
 ⟨some 8,.alloc (zr 64 (.int .u8 0) ++ [(.bool false)]),none⟩,
 ⟨none,.store 65 (.t 8) (.t 27) .any,none⟩]
abbrev zz47_r7:List AI:=[
 ⟨some 28,.load true 65 (.t 8) .any,none⟩,
 ⟨some 29,.build (zr 64 (.int .u8 0) ++ [(.bool false)]) [(64,1,(.c (.bool true)))],none⟩,
 ⟨some 30,.eqs true (kr 64 .i ++ [.b]) (.t 28) (.t 29),none⟩]
abbrev zz47_r8:List AI:=[
 ⟨some 31,.mv false (.t 0),none⟩,
 ⟨some 32,.nilck (.t 31),none⟩,
 ⟨some 33,.faddr 0 (.t 32),none⟩,
 ⟨some 34,.load false 1 (.t 33) .foreign,none⟩,
 ⟨some 35,.mv false (.t 1),none⟩,
 ⟨some 36,.mv false (.t 2),none⟩,
 ⟨some 37,.bin .quo (.t 36) (.c (.int .i64 8)),none⟩,
 ⟨some 38,.iaddr 65 (.t 34) (.t 35),none⟩,
 ⟨some 39,.faddr 0 (.t 38),none⟩,
 ⟨some 40,.iaddrA 64 1 (.t 39) (.t 37),none⟩,
 ⟨some 41,.load false 1 (.t 40) .foreign,none⟩,
 ⟨some 42,.mv false (.t 2),none⟩,
 ⟨some 43,.bin .rem (.t 42) (.c (.int .i64 8)),none⟩,
 ⟨some 44,.bin .shl (.c (.int .u8 1)) (.t 43),none⟩,
 ⟨some 45,.bin .xor (.t 41) (.t 44),none⟩,
 ⟨some 46,.iaddr 65 (.t 34) (.t 35),none⟩,
 ⟨some 47,.faddr 0 (.t 46),none⟩,
 ⟨some 48,.iaddrA 64 1 (.t 47) (.t 37),none⟩,
 ⟨none,.store 1 (.t 48) (.t 45) .gp,none⟩]
abbrev zz47_r9:List AI:=[
 ⟨some 6,.mv true (.c (.int .i64 0)),none⟩]
abbrev zz47_c:ACode:=.seq (.reg false zz47_r0) (.seq (.seq (.reg false zz47_r1) (.seq (.reg false zz47_r2) (.cond (.t 13) (.seq (.reg false zz47_r3) (.ret)) (.skip)))) (.seq (.seq (.reg false zz47_r4) (.cond (.t 20) (.seq (.reg false zz47_r5) (.ret)) (.skip))) (.seq (.seq (.reg false zz47_r6) (.seq (.reg false zz47_r7) (.cond (.t 30) (.reg true zz47_r8) (.skip)))) (.seq (.reg false zz47_r9) (.ret)))))
def zz47_F:AFunc:=⟨49,[.tmp 6],zz47_c⟩
theorem zz47_cp:compile Try.prog [] f_zz47=some zz47_F:=by kernel_rfl
abbrev zz53_r0:List AI:=[
 ⟨some 4,.mv true (.c (.int .i64 0)),none⟩]
abbrev zz53_r1:List AI:=[
 ⟨some 6,.mv false (.t 0),none⟩,
 ⟨some 7,.mv false (.t 1),none⟩,
 ⟨some 8,.call (.c (.fn f_zz41)) [(.t 6),(.t 7)] 0,none⟩,
 ⟨some 5,.mv true (.t 8),none⟩]
abbrev zz53_r2:List AI:=[
 ⟨some 9,.mv false (.t 5),none⟩,
 ⟨some 10,.bin .eql (.t 9) (.c (.int .i64 0)),none⟩]
abbrev zz53_r3:List AI:=[
 ⟨some 11,.mv false (.t 0),none⟩,
 ⟨some 12,.nilck (.t 11),none⟩,
 ⟨some 13,.faddr 0 (.t 12),none⟩,
 ⟨some 14,.load false 1 (.t 13) .any,none⟩,
 ⟨some 15,.mv false (.t 1),none⟩,
 ⟨some 16,.build (zr 64 (.int .u8 0) ++ [(.bool false)]) [(64,1,(.c (.bool true)))],none⟩,
 ⟨some 17,.iaddr 65 (.t 14) (.t 15),none⟩,
 ⟨none,.store 65 (.t 17) (.t 16) .any,none⟩]
abbrev zz53_r4:List AI:=[
 ⟨some 18,.mv false (.t 5),none⟩,
 ⟨some 4,.mv true (.t 18),none⟩]
abbrev zz53_c:ACode:=.seq (.reg false zz53_r0) (.seq (.reg false zz53_r1) (.seq (.seq (.reg false zz53_r2) (.cond (.t 10) (.reg false zz53_r3) (.skip))) (.seq (.reg false zz53_r4) (.ret))))
def zz53_F:AFunc:=⟨19,[.tmp 4],zz53_c⟩
theorem zz53_cp:compile Try.prog [] f_zz53=some zz53_F:=by kernel_rfl
abbrev zz5_r0:List AI:=[
 ⟨some 5,.box 64 (.t 2),none⟩,
 ⟨some 6,.mv true (.c (.int .i64 0)),none⟩]
abbrev zz5_r1:List AI:=[
 ⟨some 9,.mv false (.t 0),none⟩,
 ⟨some 10,.mv false (.t 1),none⟩,
 ⟨some 11,.call (.c (.fn f_zz6)) [(.t 9),(.t 10)] 0,none⟩,
 ⟨some 7,.mv true (.t 11),none⟩]
abbrev zz5_r2:List AI:=[
 ⟨some 12,.mv false (.t 7),none⟩,
 ⟨some 13,.bin .neq (.t 12) (.c (.int .i64 0)),none⟩]
abbrev zz5_r3:List AI:=[
 ⟨some 14,.mv false (.t 7),none⟩,
 ⟨some 6,.mv true (.t 14),none⟩]
abbrev zz5_r4:List AI:=[
 ⟨some 15,.mv false (.t 0),none⟩,
 ⟨some 16,.call (.c (.fn f_zz13)) [(.t 15)] 0,none⟩,
 ⟨some 8,.mv true (.t 16),none⟩]
abbrev zz5_r5:List AI:=[
 ⟨some 17,.mv false (.t 8),none⟩,
 ⟨some 18,.not (.t 17),none⟩]
abbrev zz5_r6:List AI:=[
 ⟨some 6,.mv true (.c (.int .i64 12)),none⟩]
abbrev zz5_r7:List AI:=[
 ⟨some 19,.mv false (.t 0),none⟩,
 ⟨some 20,.nilck (.t 19),none⟩,
 ⟨some 21,.faddr 0 (.t 20),none⟩,
 ⟨some 22,.load false 1 (.t 21) .foreign,none⟩,
 ⟨some 23,.mv false (.t 1),none⟩,
 ⟨some 24,.mkslice 64 0 (.agg (zr 64 (.int .u8 0))) [],none⟩,
 ⟨some 25,.mv false (.t 0),none⟩,
 ⟨some 26,.nilck (.t 25),none⟩,
 ⟨some 27,.faddr 0 (.t 26),none⟩,
 ⟨some 28,.load false 1 (.t 27) .foreign,none⟩,
 ⟨some 29,.mv false (.t 1),none⟩,
 ⟨some 30,.iaddr 66 (.t 28) (.t 29),none⟩,
 ⟨some 31,.faddr 65 (.t 30),none⟩,
 ⟨some 32,.load false 1 (.t 31) .foreign,none⟩,
 ⟨some 33,.append 64 64 (.t 24) (.t 32),none⟩,
 ⟨some 34,.load true 64 (.t 5) (.site 5),none⟩,
 ⟨some 35,.mkslice 64 1 (.agg (zr 64 (.int .u8 0))) [(0,(.t 34))],none⟩,
 ⟨some 36,.append 64 64 (.t 33) (.t 35),none⟩,
 ⟨some 37,.iaddr 66 (.t 22) (.t 23),none⟩,
 ⟨some 38,.faddr 65 (.t 37),none⟩,
 ⟨none,.store 1 (.t 38) (.t 36) .gp,none⟩]
abbrev zz5_r8:List AI:=[
 ⟨some 6,.mv true (.c (.int .i64 0)),none⟩]
abbrev zz5_c:ACode:=.seq (.reg false zz5_r0) (.seq (.reg false zz5_r1) (.seq (.seq (.reg false zz5_r2) (.cond (.t 13) (.seq (.reg false zz5_r3) (.ret)) (.skip))) (.seq (.reg false zz5_r4) (.seq (.seq (.reg false zz5_r5) (.cond (.t 18) (.seq (.reg false zz5_r6) (.ret)) (.skip))) (.seq (.reg true zz5_r7) (.seq (.reg false zz5_r8) (.ret)))))))
def zz5_F:AFunc:=⟨39,[.tmp 6],zz5_c⟩
theorem zz5_cp:compile Try.prog [] f_zz5=some zz5_F:=by kernel_rfl
-- loop 0: [0, 1, 2, 8]
abbrev zz21_r0:List AI:=[
 ⟨some 6,.mv true (.c (.int .i64 0)),none⟩]
abbrev zz21_r1:List AI:=[
 ⟨some 10,.mv false (.t 1),none⟩,
 ⟨some 11,.mv false (.t 0),none⟩,
 ⟨some 12,.nilck (.t 11),none⟩,
 ⟨some 13,.faddr 0 (.t 12),none⟩,
 ⟨some 14,.load false 1 (.t 13) .any,none⟩,
 ⟨some 15,.len false (.t 14),none⟩,
 ⟨some 16,.bin .leq (.t 10) (.t 15),none⟩,
 ⟨some 17,.mv false (.t 16),none⟩,
 ⟨some 18,.mv false (.t 0),some (17,true)⟩,
 ⟨some 19,.mv false (.t 1),some (17,true)⟩,
 ⟨some 20,.mv false (.t 2),some (17,true)⟩,
 ⟨some 21,.call (.c (.fn f_zz26)) [(.t 18),(.t 19),(.t 20)] 0,some (17,true)⟩,
 ⟨some 22,.pick (.t 17) (.t 21) (.c (.bool false)),none⟩,
 ⟨some 7,.mv true (.t 22),none⟩]
abbrev zz21_r2:List AI:=[
 ⟨some 23,.mv false (.t 7),none⟩,
 ⟨some 24,.not (.t 23),none⟩]
abbrev zz21_r3:List AI:=[
 ⟨some 6,.mv true (.c (.int .i64 1)),none⟩]
abbrev zz21_r4:List AI:=[
 ⟨some 8,.mv true (.c (.int .i64 0)),none⟩]
abbrev zz21_r5:List AI:=[
 ⟨some 25,.mv false (.t 8),none⟩,
 ⟨some 26,.mv false (.t 2),none⟩,
 ⟨some 27,.bin .mul (.c (.int .i64 2)) (.t 26),none⟩,
 ⟨some 28,.bin .lss (.t 25) (.t 27),none⟩]
abbrev zz21_r6:List AI:=[
 ⟨some 31,.mv false (.t 0),none⟩,
 ⟨some 32,.mv false (.t 1),none⟩,
 ⟨some 33,.mv false (.t 8),none⟩,
 ⟨some 34,.bin .add (.t 32) (.t 33),none⟩,
 ⟨some 35,.call (.c (.fn f_zz31)) [(.c (.int .i64 1)),(.c (.str []))] 0,none⟩,
 ⟨some 36,.call (.c (.fn f_zz5)) [(.t 31),(.t 34),(.t 35)] 0,none⟩,
 ⟨some 9,.mv true (.t 36),none⟩]
abbrev zz21_r7:List AI:=[
 ⟨some 37,.mv false (.t 9),none⟩,
 ⟨some 38,.bin .neq (.t 37) (.c (.int .i64 0)),none⟩]
abbrev zz21_r8:List AI:=[
 ⟨some 39,.mv false (.t 9),none⟩,
 ⟨some 6,.mv true (.t 39),none⟩]
abbrev zz21_r9:List AI:=[
 ⟨some 29,.mv false (.t 8),none⟩,
 ⟨some 30,.bin .add (.t 29) (.c (.int .i64 1)),none⟩,
 ⟨some 8,.mv true (.t 30),none⟩]
abbrev zz21_l0:ACode:=.seq (.seq (.reg false zz21_r5) (.cond (.t 28) (.skip) (.exit 0))) (.seq (.block 1 (.seq (.reg false zz21_r6) (.seq (.reg false zz21_r7) (.cond (.t 38) (.seq (.reg false zz21_r8) (.ret)) (.skip))))) (.reg false zz21_r9))
abbrev zz21_r10:List AI:=[
 ⟨some 40,.mv false (.t 0),none⟩,
 ⟨some 41,.call (.c (.fn f_zz12)) [(.t 40)] 0,none⟩,
 ⟨some 6,.mv true (.t 41),none⟩]
abbrev zz21_c:ACode:=.seq (.reg false zz21_r0) (.seq (.reg false zz21_r1) (.seq (.seq (.reg false zz21_r2) (.cond (.t 24) (.seq (.reg false zz21_r3) (.ret)) (.skip))) (.seq (.seq (.reg false zz21_r4) (.block 0 (.loop zz21_l0))) (.seq (.reg false zz21_r10) (.ret)))))
def zz21_F:AFunc:=⟨42,[.tmp 6],zz21_c⟩
theorem zz21_cp:compile Try.prog [] f_zz21=some zz21_F:=by kernel_rfl
abbrev zz2_r0:List AI:=[
 ⟨some 2,.mv true (.c (.bool false)),none⟩]
abbrev zz2_r1:List AI:=[
 ⟨some 8,.mv false (.t 0),none⟩,
 ⟨some 9,.nilck (.t 8),none⟩,
 ⟨some 10,.faddr 0 (.t 9),none⟩,
 ⟨some 11,.load false 1 (.t 10) .foreign,none⟩,
 ⟨some 12,.mv false (.t 0),none⟩,
 ⟨some 13,.nilck (.t 12),none⟩,
 ⟨some 14,.faddr 6 (.t 13),none⟩,
 ⟨some 15,.load false 1 (.t 14) .foreign,none⟩,
 ⟨some 16,.mv false (.t 0),none⟩,
 ⟨some 17,.nilck (.t 16),none⟩,
 ⟨some 18,.faddr 7 (.t 17),none⟩,
 ⟨some 19,.load false 1 (.t 18) .foreign,none⟩,
 ⟨some 20,.call (.c (.fn f_zz58)) [(.t 11),(.t 15),(.t 19)] 2,none⟩,
 ⟨some 7,.mv false (.t 20),none⟩,
 ⟨some 21,.ext (.t 7) 0,none⟩,
 ⟨some 22,.ext (.t 7) 1,none⟩,
 ⟨some 23,.ext (.t 7) 2,none⟩,
 ⟨some 3,.mv true (.t 21),none⟩,
 ⟨some 4,.mv true (.t 22),none⟩,
 ⟨some 5,.mv true (.t 23),none⟩]
abbrev zz2_r2:List AI:=[
 ⟨some 24,.mv false (.t 0),none⟩,
 ⟨some 25,.nilck (.t 24),none⟩,
 ⟨some 26,.faddr 2 (.t 25),none⟩,
 ⟨some 27,.load false 1 (.t 26) .foreign,none⟩,
 ⟨some 28,.mv false (.t 0),none⟩,
 ⟨some 29,.nilck (.t 28),none⟩,
 ⟨some 30,.faddr 6 (.t 29),none⟩,
 ⟨some 31,.load false 1 (.t 30) .foreign,none⟩,
 ⟨some 32,.mv false (.t 0),none⟩,
 ⟨some 33,.nilck (.t 32),none⟩,
 ⟨some 34,.faddr 7 (.t 33),none⟩,
 ⟨some 35,.load false 1 (.t 34) .foreign,none⟩,
 ⟨some 6,.alloc [.nilP,(.int .i64 0),(.int .i64 0),.nilS,(.int .i64 0)],none⟩,
 ⟨some 36,.call (.c (.fn f_zz32)) [(.t 27),(.t 31),(.t 35)] 2,none⟩,
 ⟨none,.store 5 (.t 6) (.t 36) (.site 6),none⟩]
abbrev zz2_r3:List AI:=[
 ⟨some 37,.mv false (.t 0),none⟩,
 ⟨some 38,.mv false (.t 0),none⟩,
 ⟨some 39,.mv false (.t 3),none⟩,
 ⟨some 40,.faddr 0 (.t 6),none⟩,
 ⟨some 41,.load true 3 (.t 40) (.site 6),none⟩,
 ⟨some 42,.nilck (.t 37),none⟩,
 ⟨some 43,.faddr 1 (.t 42),none⟩,
 ⟨none,.store 1 (.t 43) (.t 39) .gp,none⟩,
 ⟨some 44,.nilck (.t 38),none⟩,
 ⟨some 45,.faddr 3 (.t 44),none⟩,
 ⟨none,.store 3 (.t 45) (.t 41) .gp,none⟩]
abbrev zz2_r4:List AI:=[
 ⟨some 46,.mv false (.t 5),none⟩,
 ⟨some 47,.faddr 4 (.t 6),none⟩,
 ⟨some 48,.load false 1 (.t 47) .any,none⟩,
 ⟨some 49,.bin .eql (.t 46) (.t 48),none⟩,
 ⟨some 50,.mv false (.t 49),none⟩,
 ⟨some 51,.mv false (.t 3),some (50,true)⟩,
 ⟨some 52,.gd (.pnil 0 false) [(.t 51)],some (50,true)⟩,
 ⟨some 53,.mv false (.t 5),some (50,true)⟩,
 ⟨some 54,.bin .neq (.t 53) (.c (.int .i64 0)),some (50,true)⟩,
 ⟨some 55,.eqb false (.t 52) (.t 54),some (50,true)⟩,
 ⟨some 56,.pick (.t 50) (.t 55) (.c (.bool false)),none⟩,
 ⟨some 57,.mv false (.t 56),none⟩,
 ⟨some 58,.mv false (.t 4),some (57,true)⟩,
 ⟨some 59,.faddr 3 (.t 6),some (57,true)⟩,
 ⟨some 60,.load false 1 (.t 59) .any,some (57,true)⟩,
 ⟨some 61,.call (.c (.fn f_zz29)) [(.t 58),(.t 60)] 0,some (57,true)⟩,
 ⟨some 62,.pick (.t 57) (.t 61) (.c (.bool false)),none⟩,
 ⟨some 2,.mv true (.t 62),none⟩]
abbrev zz2_c:ACode:=.seq (.reg false zz2_r0) (.seq (.reg true zz2_r1) (.seq (.reg true zz2_r2) (.seq (.reg true zz2_r3) (.seq (.reg false zz2_r4) (.ret)))))
def zz2_F:AFunc:=⟨63,[.tmp 2],zz2_c⟩
theorem zz2_cp:compile Try.prog [20,36] f_zz2=some zz2_F:=by kernel_rfl
abbrev zz16_r0:List AI:=[
 ⟨some 3,.box 4 (.t 1),none⟩,
 ⟨some 4,.mv true (.c (.bool false)),none⟩]
abbrev zz16_r1:List AI:=[
 ⟨some 8,.faddr 0 (.t 3),none⟩,
 ⟨some 9,.load false 1 (.t 8) .any,none⟩,
 ⟨some 10,.bin .eql (.t 9) (.c (.int .i64 4)),none⟩]
abbrev zz16_r2:List AI:=[
 ⟨some 11,.mv false (.t 0),none⟩,
 ⟨some 12,.mv false (.t 0),none⟩,
 ⟨some 13,.mv false (.t 0),none⟩,
 ⟨some 14,.nilck (.t 13),none⟩,
 ⟨some 15,.faddr 0 (.t 14),none⟩,
 ⟨some 16,.load false 1 (.t 15) .foreign,none⟩,
 ⟨some 17,.faddr 3 (.t 3),none⟩,
 ⟨some 18,.load false 1 (.t 17) (.site 3),none⟩,
 ⟨some 20,.mv false (.t 0),none⟩,
 ⟨some 21,.nilck (.t 20),none⟩,
 ⟨some 22,.faddr 2 (.t 21),none⟩,
 ⟨some 23,.load false 1 (.t 22) .foreign,none⟩,
 ⟨some 24,.faddr 3 (.t 3),none⟩,
 ⟨some 25,.load false 1 (.t 24) (.site 3),none⟩,
 ⟨some 19,.kp [(.ld false 1 (.t 22))] (.call (.c (.fn f_zz38)) [(.t 16),(.t 18)] 2),none⟩,
 ⟨some 26,.call (.c (.fn f_zz4)) [(.t 23),(.t 25)] 2,none⟩,
 ⟨some 27,.nilck (.t 11),none⟩,
 ⟨some 28,.faddr 0 (.t 27),none⟩,
 ⟨none,.store 1 (.t 28) (.t 19) .gp,none⟩,
 ⟨some 29,.nilck (.t 12),none⟩,
 ⟨some 30,.faddr 2 (.t 29),none⟩,
 ⟨none,.store 1 (.t 30) (.t 26) .gp,none⟩]
abbrev zz16_r3:List AI:=[
 ⟨some 31,.mv false (.t 0),none⟩,
 ⟨some 32,.nilck (.t 31),none⟩,
 ⟨some 33,.faddr 0 (.t 32),none⟩,
 ⟨some 34,.load false 1 (.t 33) .any,none⟩,
 ⟨some 35,.gd (.pnil 0 false) [(.t 34)],none⟩]
abbrev zz16_r4:List AI:=[
 ⟨some 4,.mv true (.c (.bool false)),none⟩]
abbrev zz16_r5:List AI:=[
 ⟨some 36,.mv false (.t 0),none⟩,
 ⟨some 37,.nilck (.t 36),none⟩,
 ⟨some 38,.faddr 0 (.t 37),none⟩,
 ⟨some 39,.load false 1 (.t 38) .foreign,none⟩,
 ⟨some 40,.faddr 1 (.t 3),none⟩,
 ⟨some 41,.load false 1 (.t 40) (.site 3),none⟩,
 ⟨some 42,.call (.c (.fn f_zz52)) [(.t 39),(.t 41)] 2,none⟩]
abbrev zz16_r6:List AI:=[
 ⟨some 43,.mv false (.t 0),none⟩,
 ⟨some 44,.nilck (.t 43),none⟩,
 ⟨some 45,.faddr 2 (.t 44),none⟩,
 ⟨some 46,.load false 1 (.t 45) .foreign,none⟩,
 ⟨some 47,.faddr 1 (.t 3),none⟩,
 ⟨some 48,.load false 1 (.t 47) (.site 3),none⟩,
 ⟨some 49,.call (.c (.fn f_zz17)) [(.t 46),(.t 48)] 2,none⟩]
abbrev zz16_r7:List AI:=[
 ⟨some 50,.mv false (.t 0),none⟩,
 ⟨some 51,.call (.c (.fn f_zz2)) [(.t 50)] 0,none⟩,
 ⟨some 4,.mv true (.t 51),none⟩]
abbrev zz16_b0:ACode:=.seq (.reg true zz16_r2) (.seq (.seq (.reg false zz16_r3) (.cond (.t 35) (.seq (.reg false zz16_r4) (.ret)) (.skip))) (.seq (.reg true zz16_r5) (.seq (.reg true zz16_r6) (.seq (.reg false zz16_r7) (.ret)))))
abbrev zz16_r8:List AI:=[
 ⟨some 52,.mv false (.t 0),none⟩,
 ⟨some 53,.nilck (.t 52),none⟩,
 ⟨some 54,.faddr 0 (.t 53),none⟩,
 ⟨some 55,.load false 1 (.t 54) .any,none⟩,
 ⟨some 56,.call (.c (.fn f_zz46)) [(.t 55)] 0,none⟩,
 ⟨some 57,.mv false (.t 56),none⟩,
 ⟨some 58,.mv false (.t 0),some (57,false)⟩,
 ⟨some 59,.nilck (.t 58),some (57,false)⟩,
 ⟨some 60,.faddr 1 (.t 59),some (57,false)⟩,
 ⟨some 61,.load false 1 (.t 60) .any,some (57,false)⟩,
 ⟨some 62,.gd (.pnil 0 false) [(.t 61)],some (57,false)⟩,
 ⟨some 63,.pick (.t 57) (.c (.bool true)) (.t 62),none⟩]
abbrev zz16_r9:List AI:=[
 ⟨some 4,.mv true (.c (.bool true)),none⟩]
abbrev zz16_r10:List AI:=[
 ⟨some 64,.faddr 0 (.t 3),none⟩,
 ⟨some 65,.load false 1 (.t 64) .any,none⟩]
abbrev zz16_r11:List AI:=[
 ⟨some 67,.bin .eql (.t 65) (.c (.int .i64 0)),none⟩,
 ⟨some 66,.mv true (.t 67),none⟩]
abbrev zz16_r12:List AI:=[
 ⟨some 68,.mv false (.t 0),none⟩,
 ⟨some 69,.nilck (.t 68),none⟩,
 ⟨some 70,.faddr 1 (.t 69),none⟩,
 ⟨some 71,.load false 1 (.t 70) .foreign,none⟩,
 ⟨some 72,.faddr 1 (.t 3),none⟩,
 ⟨some 73,.load false 1 (.t 72) (.site 3),none⟩,
 ⟨some 74,.faddr 2 (.t 3),none⟩,
 ⟨some 75,.load false 1 (.t 74) (.site 3),none⟩,
 ⟨some 77,.mv false (.t 0),none⟩,
 ⟨some 78,.nilck (.t 77),none⟩,
 ⟨some 79,.faddr 3 (.t 78),none⟩,
 ⟨some 80,.load true 3 (.t 79) .foreign,none⟩,
 ⟨some 81,.faddr 1 (.t 3),none⟩,
 ⟨some 82,.load false 1 (.t 81) (.site 3),none⟩,
 ⟨some 83,.faddr 2 (.t 3),none⟩,
 ⟨some 84,.load false 1 (.t 83) (.site 3),none⟩,
 ⟨some 76,.kp [(.ld true 3 (.t 79))] (.call (.c (.fn f_zz43)) [(.t 71),(.t 73),(.t 75)] 2),none⟩,
 ⟨some 85,.call (.c (.fn f_zz15)) [(.t 80),(.t 82),(.t 84)] 2,none⟩,
 ⟨some 86,.bin .eql (.t 76) (.t 85),none⟩,
 ⟨some 4,.mv true (.t 86),none⟩]
abbrev zz16_r13:List AI:=[
 ⟨some 88,.bin .eql (.t 65) (.c (.int .i64 1)),none⟩,
 ⟨some 87,.mv true (.t 88),none⟩]
abbrev zz16_r14:List AI:=[
 ⟨some 89,.mv false (.t 0),none⟩,
 ⟨some 90,.nilck (.t 89),none⟩,
 ⟨some 91,.faddr 1 (.t 90),none⟩,
 ⟨some 92,.load false 1 (.t 91) .foreign,none⟩,
 ⟨some 93,.faddr 1 (.t 3),none⟩,
 ⟨some 94,.load false 1 (.t 93) (.site 3),none⟩,
 ⟨some 96,.mv false (.t 0),none⟩,
 ⟨some 97,.nilck (.t 96),none⟩,
 ⟨some 98,.faddr 3 (.t 97),none⟩,
 ⟨some 99,.load true 3 (.t 98) .foreign,none⟩,
 ⟨some 100,.faddr 1 (.t 3),none⟩,
 ⟨some 101,.load false 1 (.t 100) (.site 3),none⟩,
 ⟨some 95,.kp [(.ld true 3 (.t 98))] (.call (.c (.fn f_zz36)) [(.t 92),(.t 94)] 2),none⟩,
 ⟨some 102,.call (.c (.fn f_zz7)) [(.t 99),(.t 101)] 2,none⟩,
 ⟨some 103,.bin .eql (.t 95) (.t 102),none⟩,
 ⟨some 4,.mv true (.t 103),none⟩]
abbrev zz16_r15:List AI:=[
 ⟨some 105,.bin .eql (.t 65) (.c (.int .i64 2)),none⟩,
 ⟨some 104,.mv true (.t 105),none⟩]
abbrev zz16_r16:List AI:=[
 ⟨some 107,.mv false (.t 0),none⟩,
 ⟨some 108,.nilck (.t 107),none⟩,
 ⟨some 109,.faddr 1 (.t 108),none⟩,
 ⟨some 110,.load false 1 (.t 109) .foreign,none⟩,
 ⟨some 111,.faddr 1 (.t 3),none⟩,
 ⟨some 112,.load false 1 (.t 111) (.site 3),none⟩,
 ⟨some 113,.call (.c (.fn f_zz42)) [(.t 110),(.t 112)] 1,none⟩,
 ⟨some 106,.mv false (.t 113),none⟩,
 ⟨some 114,.ext (.t 106) 0,none⟩,
 ⟨some 115,.ext (.t 106) 1,none⟩,
 ⟨some 5,.mv true (.t 114),none⟩,
 ⟨some 6,.mv true (.t 115),none⟩]
abbrev zz16_r17:List AI:=[
 ⟨some 116,.mv false (.t 0),none⟩,
 ⟨some 117,.nilck (.t 116),none⟩,
 ⟨some 118,.faddr 3 (.t 117),none⟩,
 ⟨some 119,.load true 3 (.t 118) .foreign,none⟩,
 ⟨some 120,.faddr 1 (.t 3),none⟩,
 ⟨some 121,.load false 1 (.t 120) (.site 3),none⟩,
 ⟨some 7,.alloc [(.str []),(.int .i64 0)],none⟩,
 ⟨some 122,.call (.c (.fn f_zz14)) [(.t 119),(.t 121)] 1,none⟩,
 ⟨none,.store 2 (.t 7) (.t 122) (.site 7),none⟩]
abbrev zz16_r18:List AI:=[
 ⟨some 123,.mv false (.t 5),none⟩,
 ⟨some 124,.faddr 0 (.t 7),none⟩,
 ⟨some 125,.load false 1 (.t 124) .any,none⟩,
 ⟨some 126,.bin .eql (.t 123) (.t 125),none⟩,
 ⟨some 127,.mv false (.t 126),none⟩,
 ⟨some 128,.mv false (.t 6),some (127,true)⟩,
 ⟨some 129,.faddr 1 (.t 7),some (127,true)⟩,
 ⟨some 130,.load false 1 (.t 129) .any,some (127,true)⟩,
 ⟨some 131,.bin .eql (.t 128) (.t 130),some (127,true)⟩,
 ⟨some 132,.pick (.t 127) (.t 131) (.c (.bool false)),none⟩,
 ⟨some 4,.mv true (.t 132),none⟩]
abbrev zz16_b1:ACode:=.seq (.reg true zz16_r16) (.seq (.reg true zz16_r17) (.seq (.reg false zz16_r18) (.ret)))
abbrev zz16_r19:List AI:=[
 ⟨some 134,.bin .eql (.t 65) (.c (.int .i64 3)),none⟩,
 ⟨some 133,.mv true (.t 134),none⟩]
abbrev zz16_r20:List AI:=[
 ⟨some 135,.mv false (.t 0),none⟩,
 ⟨some 136,.nilck (.t 135),none⟩,
 ⟨some 137,.faddr 0 (.t 136),none⟩,
 ⟨some 138,.load false 1 (.t 137) .foreign,none⟩,
 ⟨some 139,.faddr 1 (.t 3),none⟩,
 ⟨some 140,.load false 1 (.t 139) (.site 3),none⟩,
 ⟨some 141,.call (.c (.fn f_zz52)) [(.t 138),(.t 140)] 2,none⟩]
abbrev zz16_r21:List AI:=[
 ⟨some 142,.mv false (.t 0),none⟩,
 ⟨some 143,.nilck (.t 142),none⟩,
 ⟨some 144,.faddr 2 (.t 143),none⟩,
 ⟨some 145,.load false 1 (.t 144) .foreign,none⟩,
 ⟨some 146,.faddr 1 (.t 3),none⟩,
 ⟨some 147,.load false 1 (.t 146) (.site 3),none⟩,
 ⟨some 148,.call (.c (.fn f_zz17)) [(.t 145),(.t 147)] 2,none⟩]
abbrev zz16_r22:List AI:=[
 ⟨some 150,.bin .eql (.t 65) (.c (.int .i64 5)),none⟩,
 ⟨some 149,.mv true (.t 150),none⟩]
abbrev zz16_r23:List AI:=[
 ⟨some 151,.mv false (.t 0),none⟩,
 ⟨some 152,.nilck (.t 151),none⟩,
 ⟨some 153,.faddr 0 (.t 152),none⟩,
 ⟨some 154,.load false 1 (.t 153) .foreign,none⟩,
 ⟨some 155,.faddr 1 (.t 3),none⟩,
 ⟨some 156,.load false 1 (.t 155) (.site 3),none⟩,
 ⟨some 158,.mv false (.t 0),none⟩,
 ⟨some 159,.nilck (.t 158),none⟩,
 ⟨some 160,.faddr 2 (.t 159),none⟩,
 ⟨some 161,.load false 1 (.t 160) .foreign,none⟩,
 ⟨some 162,.faddr 1 (.t 3),none⟩,
 ⟨some 163,.load false 1 (.t 162) (.site 3),none⟩,
 ⟨some 157,.kp [(.ld false 1 (.t 160))] (.call (.c (.fn f_zz53)) [(.t 154),(.t 156)] 2),none⟩,
 ⟨some 164,.call (.c (.fn f_zz18)) [(.t 161),(.t 163)] 2,none⟩,
 ⟨some 165,.bin .eql (.t 157) (.t 164),none⟩,
 ⟨some 4,.mv true (.t 165),none⟩]
abbrev zz16_r24:List AI:=[
 ⟨some 167,.bin .eql (.t 65) (.c (.int .i64 6)),none⟩,
 ⟨some 166,.mv true (.t 167),none⟩]
abbrev zz16_r25:List AI:=[
 ⟨some 168,.mv false (.t 0),none⟩,
 ⟨some 169,.nilck (.t 168),none⟩,
 ⟨some 170,.faddr 0 (.t 169),none⟩,
 ⟨some 171,.load false 1 (.t 170) .foreign,none⟩,
 ⟨some 172,.faddr 1 (.t 3),none⟩,
 ⟨some 173,.load false 1 (.t 172) (.site 3),none⟩,
 ⟨some 174,.faddr 2 (.t 3),none⟩,
 ⟨some 175,.load false 1 (.t 174) (.site 3),none⟩,
 ⟨some 176,.len true (.t 175),none⟩,
 ⟨some 178,.mv false (.t 0),none⟩,
 ⟨some 179,.nilck (.t 178),none⟩,
 ⟨some 180,.faddr 2 (.t 179),none⟩,
 ⟨some 181,.load false 1 (.t 180) .foreign,none⟩,
 ⟨some 182,.faddr 1 (.t 3),none⟩,
 ⟨some 183,.load false 1 (.t 182) (.site 3),none⟩,
 ⟨some 184,.faddr 2 (.t 3),none⟩,
 ⟨some 185,.load false 1 (.t 184) (.site 3),none⟩,
 ⟨some 186,.len true (.t 185),none⟩,
 ⟨some 177,.kp [(.ld false 1 (.t 180))] (.call (.c (.fn f_zz47)) [(.t 171),(.t 173),(.t 176)] 2),none⟩,
 ⟨some 187,.call (.c (.fn f_zz10)) [(.t 181),(.t 183),(.t 186)] 2,none⟩,
 ⟨some 188,.bin .eql (.t 177) (.t 187),none⟩,
 ⟨some 4,.mv true (.t 188),none⟩]
abbrev zz16_b2:ACode:=.seq (.reg false zz16_r24) (.cond (.t 166) (.seq (.reg true zz16_r25) (.ret)) (.skip))
abbrev zz16_b3:ACode:=.seq (.reg false zz16_r22) (.cond (.t 149) (.seq (.reg true zz16_r23) (.ret)) (zz16_b2))
abbrev zz16_b4:ACode:=.seq (.reg false zz16_r19) (.cond (.t 133) (.seq (.reg true zz16_r20) (.reg true zz16_r21)) (zz16_b3))
abbrev zz16_b5:ACode:=.seq (.reg false zz16_r15) (.cond (.t 104) (zz16_b1) (zz16_b4))
abbrev zz16_b6:ACode:=.seq (.reg false zz16_r13) (.cond (.t 87) (.seq (.reg true zz16_r14) (.ret)) (zz16_b5))
abbrev zz16_r26:List AI:=[
 ⟨some 4,.mv true (.c (.bool true)),none⟩]
abbrev zz16_c:ACode:=.seq (.reg false zz16_r0) (.seq (.seq (.reg false zz16_r1) (.cond (.t 10) (zz16_b0) (.skip))) (.seq (.seq (.reg false zz16_r8) (.cond (.t 63) (.seq (.reg false zz16_r9) (.ret)) (.skip))) (.seq (.seq (.reg false zz16_r10) (.block 0 (.seq (.reg false zz16_r11) (.cond (.t 66) (.seq (.reg true zz16_r12) (.ret)) (zz16_b6))))) (.seq (.reg false zz16_r26) (.ret)))))
def zz16_F:AFunc:=⟨189,[.tmp 4],zz16_c⟩
theorem zz16_cp:compile Try.prog [19,26,42,49,76,85,95,102,141,148,157,164,177,187] f_zz16=some zz16_F:=by kernel_rfl
-- loop 0: [0, 42, 43]
abbrev zz3_r0:List AI:=[
 ⟨some 2,.mv true (.c (.bool false)),none⟩]
abbrev zz3_r1:List AI:=[
 ⟨some 7,.mv false (.t 0),none⟩,
 ⟨some 8,.nilck (.t 7),none⟩,
 ⟨some 9,.faddr 0 (.t 8),none⟩,
 ⟨some 10,.load false 1 (.t 9) .foreign,none⟩,
 ⟨some 12,.mv false (.t 0),none⟩,
 ⟨some 13,.nilck (.t 12),none⟩,
 ⟨some 14,.faddr 2 (.t 13),none⟩,
 ⟨some 15,.load false 1 (.t 14) .foreign,none⟩,
 ⟨some 16,.nilck (.t 15),none⟩,
 ⟨some 17,.faddr 1 (.t 16),none⟩,
 ⟨some 18,.load false 1 (.t 17) .foreign,none⟩,
 ⟨some 11,.call (.c (.fn f_zz39)) [(.t 10)] 1,none⟩,
 ⟨some 19,.bin .neq (.t 11) (.t 18),none⟩,
 ⟨some 20,.mv false (.t 19),none⟩,
 ⟨some 21,.mv false (.t 0),some (20,false)⟩,
 ⟨some 22,.nilck (.t 21),some (20,false)⟩,
 ⟨some 23,.faddr 0 (.t 22),some (20,false)⟩,
 ⟨some 24,.load false 1 (.t 23) .foreign,some (20,false)⟩,
 ⟨some 26,.mv false (.t 0),some (20,false)⟩,
 ⟨some 27,.nilck (.t 26),some (20,false)⟩,
 ⟨some 28,.faddr 2 (.t 27),some (20,false)⟩,
 ⟨some 29,.load false 1 (.t 28) .foreign,some (20,false)⟩,
 ⟨some 30,.nilck (.t 29),some (20,false)⟩,
 ⟨some 31,.faddr 3 (.t 30),some (20,false)⟩,
 ⟨some 32,.load false 1 (.t 31) .foreign,some (20,false)⟩,
 ⟨some 25,.call (.c (.fn f_zz46)) [(.t 24)] 1,some (20,false)⟩,
 ⟨some 33,.eqb true (.t 25) (.t 32),some (20,false)⟩,
 ⟨some 34,.pick (.t 20) (.c (.bool true)) (.t 33),none⟩]
abbrev zz3_r2:List AI:=[
 ⟨some 2,.mv true (.c (.bool false)),none⟩]
abbrev zz3_r3:List AI:=[
 ⟨some 35,.mv false (.t 0),none⟩,
 ⟨some 36,.nilck (.t 35),none⟩,
 ⟨some 37,.faddr 2 (.t 36),none⟩,
 ⟨some 38,.load false 1 (.t 37) .any,none⟩,
 ⟨some 39,.nilck (.t 38),none⟩,
 ⟨some 40,.faddr 0 (.t 39),none⟩,
 ⟨some 41,.load false 1 (.t 40) .any,none⟩,
 ⟨some 42,.len false (.t 41),none⟩,
 ⟨some 43,.mv false (.c (.int .i64 0)),none⟩]
abbrev zz3_r4:List AI:=[
 ⟨some 44,.bin .lss (.t 43) (.t 42),none⟩]
abbrev zz3_r5:List AI:=[
 ⟨some 45,.mv false (.t 43),none⟩,
 ⟨some 3,.mv true (.t 45),none⟩]
abbrev zz3_r6:List AI:=[
 ⟨some 47,.mv false (.t 0),none⟩,
 ⟨some 48,.nilck (.t 47),none⟩,
 ⟨some 49,.faddr 0 (.t 48),none⟩,
 ⟨some 50,.load false 1 (.t 49) .any,none⟩,
 ⟨some 51,.mv false (.t 3),none⟩,
 ⟨some 52,.call (.c (.fn f_zz48)) [(.t 50),(.t 51)] 0,none⟩,
 ⟨some 46,.mv false (.t 52),none⟩,
 ⟨some 53,.ext (.t 46) 0,none⟩,
 ⟨some 54,.ext (.t 46) 1,none⟩,
 ⟨some 4,.alloc (zr 64 (.int .u8 0)),none⟩,
 ⟨none,.store 64 (.t 4) (.t 53) .any,none⟩,
 ⟨some 5,.mv true (.t 54),none⟩]
abbrev zz3_r7:List AI:=[
 ⟨some 55,.mv false (.t 0),none⟩,
 ⟨some 56,.nilck (.t 55),none⟩,
 ⟨some 57,.faddr 2 (.t 56),none⟩,
 ⟨some 58,.load false 1 (.t 57) .any,none⟩,
 ⟨some 59,.mv false (.t 3),none⟩,
 ⟨some 60,.call (.c (.fn f_zz11)) [(.t 58),(.t 59)] 0,none⟩,
 ⟨some 6,.alloc (zr 64 (.int .u8 0) ++ [(.int .i64 0)]),none⟩,
 ⟨none,.store 65 (.t 6) (.t 60) .any,none⟩]
abbrev zz3_r8:List AI:=[
 ⟨some 61,.load true 64 (.t 4) .any,none⟩,
 ⟨some 62,.faddr 0 (.t 6),none⟩,
 ⟨some 63,.load true 64 (.t 62) .any,none⟩,
 ⟨some 64,.eqs true (kr 64 .i) (.t 61) (.t 63),none⟩,
 ⟨some 65,.mv false (.t 64),none⟩,
 ⟨some 66,.mv false (.t 5),some (65,false)⟩,
 ⟨some 67,.faddr 64 (.t 6),some (65,false)⟩,
 ⟨some 68,.load false 1 (.t 67) .any,some (65,false)⟩,
 ⟨some 69,.bin .neq (.t 66) (.t 68),some (65,false)⟩,
 ⟨some 70,.pick (.t 65) (.c (.bool true)) (.t 69),none⟩]
abbrev zz3_r9:List AI:=[
 ⟨some 2,.mv true (.c (.bool false)),none⟩]
abbrev zz3_r10:List AI:=[
 ⟨some 71,.bin .add (.t 43) (.c (.int .i64 1)),none⟩,
 ⟨some 43,.mv false (.t 71),none⟩]
abbrev zz3_l0:ACode:=.seq (.reg false zz3_r4) (.seq (.cond (.t 44) (.skip) (.exit 0)) (.seq (.block 1 (.seq (.reg false zz3_r5) (.seq (.reg false zz3_r6) (.seq (.reg false zz3_r7) (.seq (.reg false zz3_r8) (.cond (.t 70) (.seq (.reg false zz3_r9) (.ret)) (.skip))))))) (.reg false zz3_r10)))
abbrev zz3_r11:List AI:=[
 ⟨some 2,.mv true (.c (.bool true)),none⟩]
abbrev zz3_c:ACode:=.seq (.reg false zz3_r0) (.seq (.seq (.reg true zz3_r1) (.cond (.t 34) (.seq (.reg false zz3_r2) (.ret)) (.skip))) (.seq (.seq (.reg false zz3_r3) (.block 0 (.loop zz3_l0))) (.seq (.reg false zz3_r11) (.ret))))
def zz3_F:AFunc:=⟨72,[.tmp 2],zz3_c⟩
theorem zz3_cp:compile Try.prog [] f_zz3=some zz3_F:=by kernel_rfl
-- loop 0: [0, 1, 4, 5, 6]
-- loop 1: [1, 4, 5, 7]
abbrev zz31_r0:List AI:=[
 ⟨some 4,.alloc (zr 64 (.int .u8 0)),none⟩]
abbrev zz31_r1:List AI:=[
 ⟨some 5,.alloc (zr 64 (.int .u8 0)),none⟩]
abbrev zz31_r2:List AI:=[
 ⟨some 6,.mv true (.c (.int .i64 0)),none⟩]
abbrev zz31_r3:List AI:=[
 ⟨some 8,.mv false (.t 6),none⟩,
 ⟨some 9,.bin .lss (.t 8) (.c (.int .i64 2)),none⟩]
abbrev zz31_r4:List AI:=[
 ⟨some 12,.mv false (.t 6),none⟩,
 ⟨some 13,.bin .mul (.c (.int .i64 32)) (.t 12),none⟩,
 ⟨some 14,.mv false (.t 0),none⟩,
 ⟨some 15,.bin .quo (.t 14) (.c (.int .i64 16777216)),none⟩,
 ⟨some 16,.conv .u8 (.t 15),none⟩,
 ⟨some 17,.iaddrA 64 1 (.t 5) (.t 13),none⟩,
 ⟨none,.store 1 (.t 17) (.t 16) .any,none⟩]
abbrev zz31_r5:List AI:=[
 ⟨some 18,.mv false (.t 6),none⟩,
 ⟨some 19,.bin .mul (.c (.int .i64 32)) (.t 18),none⟩,
 ⟨some 20,.bin .add (.t 19) (.c (.int .i64 1)),none⟩,
 ⟨some 21,.mv false (.t 0),none⟩,
 ⟨some 22,.bin .quo (.t 21) (.c (.int .i64 65536)),none⟩,
 ⟨some 23,.bin .rem (.t 22) (.c (.int .i64 256)),none⟩,
 ⟨some 24,.conv .u8 (.t 23),none⟩,
 ⟨some 25,.iaddrA 64 1 (.t 5) (.t 20),none⟩,
 ⟨none,.store 1 (.t 25) (.t 24) .any,none⟩]
abbrev zz31_r6:List AI:=[
 ⟨some 26,.mv false (.t 6),none⟩,
 ⟨some 27,.bin .mul (.c (.int .i64 32)) (.t 26),none⟩,
 ⟨some 28,.bin .add (.t 27) (.c (.int .i64 2)),none⟩,
 ⟨some 29,.mv false (.t 0),none⟩,
 ⟨some 30,.bin .quo (.t 29) (.c (.int .i64 256)),none⟩,
 ⟨some 31,.bin .rem (.t 30) (.c (.int .i64 256)),none⟩,
 ⟨some 32,.conv .u8 (.t 31),none⟩,
 ⟨some 33,.iaddrA 64 1 (.t 5) (.t 28),none⟩,
 ⟨none,.store 1 (.t 33) (.t 32) .any,none⟩]
abbrev zz31_r7:List AI:=[
 ⟨some 34,.mv false (.t 6),none⟩,
 ⟨some 35,.bin .mul (.c (.int .i64 32)) (.t 34),none⟩,
 ⟨some 36,.bin .add (.t 35) (.c (.int .i64 3)),none⟩,
 ⟨some 37,.mv false (.t 0),none⟩,
 ⟨some 38,.bin .rem (.t 37) (.c (.int .i64 256)),none⟩,
 ⟨some 39,.conv .u8 (.t 38),none⟩,
 ⟨some 40,.iaddrA 64 1 (.t 5) (.t 36),none⟩,
 ⟨none,.store 1 (.t 40) (.t 39) .any,none⟩]
abbrev zz31_r8:List AI:=[
 ⟨some 10,.mv false (.t 6),none⟩,
 ⟨some 11,.bin .add (.t 10) (.c (.int .i64 1)),none⟩,
 ⟨some 6,.mv true (.t 11),none⟩]
abbrev zz31_l0:ACode:=.seq (.seq (.reg false zz31_r3) (.cond (.t 9) (.skip) (.exit 0))) (.seq (.block 1 (.seq (.reg false zz31_r4) (.seq (.reg false zz31_r5) (.seq (.reg false zz31_r6) (.reg false zz31_r7))))) (.reg false zz31_r8))
abbrev zz31_r9:List AI:=[
 ⟨some 41,.mv false (.t 1),none⟩,
 ⟨some 42,.len true (.t 41),none⟩,
 ⟨some 43,.conv .u8 (.t 42),none⟩,
 ⟨some 44,.iaddrA 64 1 (.t 5) (.c (.int .i64 36)),none⟩,
 ⟨none,.store 1 (.t 44) (.t 43) .any,none⟩]
abbrev zz31_r10:List AI:=[
 ⟨some 7,.mv true (.c (.int .i64 0)),none⟩]
abbrev zz31_r11:List AI:=[
 ⟨some 45,.mv false (.t 7),none⟩,
 ⟨some 46,.mv false (.t 1),none⟩,
 ⟨some 47,.len true (.t 46),none⟩,
 ⟨some 48,.bin .lss (.t 45) (.t 47),none⟩]
abbrev zz31_r12:List AI:=[
 ⟨some 51,.mv false (.t 7),none⟩,
 ⟨some 52,.bin .lss (.t 51) (.c (.int .i64 28)),none⟩]
abbrev zz31_r13:List AI:=[
 ⟨some 53,.mv false (.t 7),none⟩,
 ⟨some 54,.bin .add (.c (.int .i64 4)) (.t 53),none⟩,
 ⟨some 55,.mv false (.t 1),none⟩,
 ⟨some 56,.mv false (.t 7),none⟩,
 ⟨some 57,.idxS (.t 55) (.t 56),none⟩,
 ⟨some 58,.iaddrA 64 1 (.t 5) (.t 54),none⟩,
 ⟨none,.store 1 (.t 58) (.t 57) .any,none⟩]
abbrev zz31_r14:List AI:=[
 ⟨some 59,.mv false (.t 7),none⟩,
 ⟨some 60,.bin .add (.c (.int .i64 37)) (.t 59),none⟩,
 ⟨some 61,.bin .sub (.t 60) (.c (.int .i64 28)),none⟩,
 ⟨some 62,.mv false (.t 1),none⟩,
 ⟨some 63,.mv false (.t 7),none⟩,
 ⟨some 64,.idxS (.t 62) (.t 63),none⟩,
 ⟨some 65,.iaddrA 64 1 (.t 5) (.t 61),none⟩,
 ⟨none,.store 1 (.t 65) (.t 64) .any,none⟩]
abbrev zz31_r15:List AI:=[
 ⟨some 49,.mv false (.t 7),none⟩,
 ⟨some 50,.bin .add (.t 49) (.c (.int .i64 1)),none⟩,
 ⟨some 7,.mv true (.t 50),none⟩]
abbrev zz31_l1:ACode:=.seq (.seq (.reg false zz31_r11) (.cond (.t 48) (.skip) (.exit 2))) (.seq (.block 3 (.seq (.reg false zz31_r12) (.cond (.t 52) (.reg false zz31_r13) (.reg false zz31_r14)))) (.reg false zz31_r15))
abbrev zz31_r16:List AI:=[
 ⟨some 66,.load true 64 (.t 5) .any,none⟩,
 ⟨none,.store 64 (.t 4) (.t 66) .any,none⟩]
abbrev zz31_c:ACode:=.seq (.reg false zz31_r0) (.seq (.reg false zz31_r1) (.seq (.seq (.reg false zz31_r2) (.block 0 (.loop zz31_l0))) (.seq (.reg false zz31_r9) (.seq (.seq (.reg false zz31_r10) (.block 2 (.loop zz31_l1))) (.seq (.reg false zz31_r16) (.ret))))))
def zz31_F:AFunc:=⟨67,[.cell 4 true 64],zz31_c⟩
theorem zz31_cp:compile Try.prog [] f_zz31=some zz31_F:=by kernel_rfl
abbrev zz41_r0:List AI:=[
 ⟨some 4,.mv true (.c (.int .i64 0)),none⟩]
abbrev zz41_r1:List AI:=[
 ⟨some 6,.mv false (.t 0),none⟩,
 ⟨some 7,.nilck (.t 6),none⟩,
 ⟨some 8,.faddr 4 (.t 7),none⟩,
 ⟨some 9,.load false 1 (.t 8) .any,none⟩,
 ⟨some 5,.mv true (.t 9),none⟩]
abbrev zz41_r2:List AI:=[
 ⟨some 4,.mv true (.c (.int .i64 12)),none⟩]
abbrev zz41_r3:List AI:=[
 ⟨some 11,.mv false (.t 1),none⟩,
 ⟨some 12,.bin .lss (.t 11) (.c (.int .i64 0)),none⟩,
 ⟨some 13,.mv false (.t 12),none⟩,
 ⟨some 14,.mv false (.t 1),some (13,false)⟩,
 ⟨some 15,.mv false (.t 0),some (13,false)⟩,
 ⟨some 16,.nilck (.t 15),some (13,false)⟩,
 ⟨some 17,.faddr 0 (.t 16),some (13,false)⟩,
 ⟨some 18,.load false 1 (.t 17) .any,some (13,false)⟩,
 ⟨some 19,.len false (.t 18),some (13,false)⟩,
 ⟨some 20,.bin .geq (.t 14) (.t 19),some (13,false)⟩,
 ⟨some 21,.pick (.t 13) (.c (.bool true)) (.t 20),none⟩,
 ⟨some 10,.mv true (.t 21),none⟩]
abbrev zz41_r4:List AI:=[
 ⟨some 4,.mv true (.c (.int .i64 1)),none⟩]
abbrev zz41_b0:ACode:=.seq (.reg false zz41_r3) (.cond (.t 10) (.seq (.reg false zz41_r4) (.ret)) (.skip))
abbrev zz41_r5:List AI:=[
 ⟨some 4,.mv true (.c (.int .i64 0)),none⟩]
abbrev zz41_c:ACode:=.seq (.reg false zz41_r0) (.seq (.block 0 (.seq (.reg false zz41_r1) (.cond (.t 5) (.seq (.reg false zz41_r2) (.ret)) (zz41_b0)))) (.seq (.reg false zz41_r5) (.ret)))
def zz41_F:AFunc:=⟨22,[.tmp 4],zz41_c⟩
theorem zz41_cp:compile Try.prog [] f_zz41=some zz41_F:=by kernel_rfl
abbrev zz51_r0:List AI:=[
 ⟨some 2,.mv true (.c (.int .i64 0)),none⟩]
abbrev zz51_r1:List AI:=[
 ⟨some 4,.mv false (.t 0),none⟩,
 ⟨some 5,.nilck (.t 4),none⟩,
 ⟨some 6,.faddr 3 (.t 5),none⟩,
 ⟨some 7,.load false 1 (.t 6) .any,none⟩,
 ⟨some 8,.bin .eql (.t 7) (.c (.int .i64 0)),none⟩,
 ⟨some 3,.mv true (.t 8),none⟩]
abbrev zz51_r2:List AI:=[
 ⟨some 9,.mv false (.t 0),none⟩,
 ⟨some 10,.nilck (.t 9),none⟩,
 ⟨some 11,.faddr 4 (.t 10),none⟩,
 ⟨none,.store 1 (.t 11) (.c (.bool true)) .any,none⟩]
abbrev zz51_r3:List AI:=[
 ⟨some 2,.mv true (.c (.int .i64 12)),none⟩]
abbrev zz51_b0:ACode:=.seq (.reg false zz51_r2) (.seq (.reg false zz51_r3) (.ret))
abbrev zz51_r4:List AI:=[
 ⟨some 13,.mv false (.t 0),none⟩,
 ⟨some 14,.nilck (.t 13),none⟩,
 ⟨some 15,.faddr 3 (.t 14),none⟩,
 ⟨some 16,.load false 1 (.t 15) .any,none⟩,
 ⟨some 17,.bin .gtr (.t 16) (.c (.int .i64 0)),none⟩,
 ⟨some 12,.mv true (.t 17),none⟩]
abbrev zz51_r5:List AI:=[
 ⟨some 18,.mv false (.t 0),none⟩,
 ⟨some 19,.nilck (.t 18),none⟩,
 ⟨some 20,.faddr 3 (.t 19),none⟩,
 ⟨some 21,.load false 1 (.t 20) .any,none⟩,
 ⟨some 22,.bin .sub (.t 21) (.c (.int .i64 1)),none⟩,
 ⟨some 23,.nilck (.t 18),none⟩,
 ⟨some 24,.faddr 3 (.t 23),none⟩,
 ⟨none,.store 1 (.t 24) (.t 22) .any,none⟩]
abbrev zz51_b1:ACode:=.seq (.reg false zz51_r4) (.cond (.t 12) (.reg false zz51_r5) (.skip))
abbrev zz51_r6:List AI:=[
 ⟨some 25,.mv false (.t 0),none⟩,
 ⟨some 26,.nilck (.t 25),none⟩,
 ⟨some 27,.faddr 2 (.t 26),none⟩,
 ⟨some 28,.load false 1 (.t 27) .any,none⟩,
 ⟨some 29,.bin .add (.t 28) (.c (.int .i64 1)),none⟩,
 ⟨some 30,.nilck (.t 25),none⟩,
 ⟨some 31,.faddr 2 (.t 30),none⟩,
 ⟨none,.store 1 (.t 31) (.t 29) .any,none⟩]
abbrev zz51_r7:List AI:=[
 ⟨some 2,.mv true (.c (.int .i64 0)),none⟩]
abbrev zz51_c:ACode:=.seq (.reg false zz51_r0) (.seq (.block 0 (.seq (.reg false zz51_r1) (.cond (.t 3) (zz51_b0) (zz51_b1)))) (.seq (.reg false zz51_r6) (.seq (.reg false zz51_r7) (.ret))))
def zz51_F:AFunc:=⟨32,[.tmp 2],zz51_c⟩
theorem zz51_cp:compile Try.prog [] f_zz51=some zz51_F:=by kernel_rfl
-- loop 0: [0, 1, 4, 5, 9, 10]
abbrev zz56_r0:List AI:=[
 ⟨some 4,.alloc (zr 64 (.int .u8 0)),none⟩]
abbrev zz56_r1:List AI:=[
 ⟨some 5,.gn (.alloc (zr 64 (.int .u8 0))) [],none⟩]
abbrev zz56_r2:List AI:=[
 ⟨some 9,.build [(.int .i64 0),(.int .i64 0)] [(0,1,(.c (.int .i64 0))),(1,1,(.c (.int .i64 32)))],none⟩,
 ⟨some 10,.mv false (.c (.int .i64 0)),none⟩]
abbrev zz56_r3:List AI:=[
 ⟨some 11,.bin .lss (.t 10) (.c (.int .i64 2)),none⟩]
abbrev zz56_r4:List AI:=[
 ⟨some 12,.idxA false 2 1 (.t 9) (.t 10),none⟩,
 ⟨some 7,.mv true (.t 12),none⟩]
abbrev zz56_r5:List AI:=[
 ⟨some 13,.mv false (.t 7),none⟩,
 ⟨some 14,.mv false (.t 7),none⟩,
 ⟨some 15,.bin .add (.t 14) (.c (.int .i64 1)),none⟩,
 ⟨some 16,.mv false (.t 7),none⟩,
 ⟨some 17,.bin .add (.t 16) (.c (.int .i64 2)),none⟩,
 ⟨some 18,.mv false (.t 7),none⟩,
 ⟨some 19,.bin .add (.t 18) (.c (.int .i64 3)),none⟩,
 ⟨some 20,.mv false (.t 0),none⟩,
 ⟨some 21,.bin .shr (.t 20) (.c (.int .u64 24)),none⟩,
 ⟨some 22,.conv .u8 (.t 21),none⟩,
 ⟨some 23,.mv false (.t 0),none⟩,
 ⟨some 24,.bin .shr (.t 23) (.c (.int .u64 16)),none⟩,
 ⟨some 25,.conv .u8 (.t 24),none⟩,
 ⟨some 26,.mv false (.t 0),none⟩,
 ⟨some 27,.bin .shr (.t 26) (.c (.int .u64 8)),none⟩,
 ⟨some 28,.conv .u8 (.t 27),none⟩,
 ⟨some 29,.mv false (.t 0),none⟩,
 ⟨some 30,.conv .u8 (.t 29),none⟩,
 ⟨some 31,.iaddrA 64 1 (.t 5) (.t 13),none⟩,
 ⟨none,.store 1 (.t 31) (.t 22) .any,none⟩,
 ⟨some 32,.iaddrA 64 1 (.t 5) (.t 15),none⟩,
 ⟨none,.store 1 (.t 32) (.t 25) .any,none⟩,
 ⟨some 33,.iaddrA 64 1 (.t 5) (.t 17),none⟩,
 ⟨none,.store 1 (.t 33) (.t 28) .any,none⟩,
 ⟨some 34,.iaddrA 64 1 (.t 5) (.t 19),none⟩,
 ⟨none,.store 1 (.t 34) (.t 30) .any,none⟩]
abbrev zz56_r6:List AI:=[
 ⟨some 35,.bin .add (.t 10) (.c (.int .i64 1)),none⟩,
 ⟨some 10,.mv false (.t 35),none⟩]
abbrev zz56_l0:ACode:=.seq (.reg false zz56_r3) (.seq (.cond (.t 11) (.skip) (.exit 0)) (.seq (.block 1 (.seq (.reg false zz56_r4) (.reg false zz56_r5))) (.reg false zz56_r6)))
abbrev zz56_r7:List AI:=[
 ⟨some 36,.mv false (.t 1),none⟩,
 ⟨some 37,.len true (.t 36),none⟩,
 ⟨some 38,.conv .u8 (.t 37),none⟩,
 ⟨some 39,.iaddrA 64 1 (.t 5) (.c (.int .i64 36)),none⟩,
 ⟨none,.store 1 (.t 39) (.t 38) .any,none⟩]
abbrev zz56_r8:List AI:=[
 ⟨some 40,.gd (.arrS 1 64 true true false) [(.t 5),(.c (.int .i64 4)),(.c (.int .i64 32))],none⟩,
 ⟨some 41,.mv false (.t 1),none⟩,
 ⟨some 42,.gd .copyS [(.t 40),(.t 41)],none⟩,
 ⟨some 8,.mv true (.t 42),none⟩]
abbrev zz56_r9:List AI:=[
 ⟨some 43,.gd (.arrS 1 64 true false false) [(.t 5),(.c (.int .i64 37))],none⟩,
 ⟨some 44,.mv false (.t 1),none⟩,
 ⟨some 45,.mv false (.t 8),none⟩,
 ⟨some 46,.slS (.t 44) (some (.t 45)) none,none⟩,
 ⟨some 47,.gd .copyS [(.t 43),(.t 46)],none⟩]
abbrev zz56_r10:List AI:=[
 ⟨some 48,.load true 64 (.t 5) .any,none⟩,
 ⟨none,.store 64 (.t 4) (.t 48) .any,none⟩]
abbrev zz56_c:ACode:=.seq (.reg false zz56_r0) (.seq (.reg false zz56_r1) (.seq (.seq (.reg false zz56_r2) (.block 0 (.loop zz56_l0))) (.seq (.reg false zz56_r7) (.seq (.reg false zz56_r8) (.seq (.reg true zz56_r9) (.seq (.reg false zz56_r10) (.ret)))))))
def zz56_F:AFunc:=⟨49,[.cell 4 true 64],zz56_c⟩
theorem zz56_cp:compile Try.prog [5] f_zz56=some zz56_F:=by kernel_rfl
-- loop 0: [4, 5, 6, 7, 13, 14]
abbrev zz45_r0:List AI:=[
 ⟨some 2,.box 3 (.t 0),none⟩,
 ⟨some 4,.gn (.alloc (zr 64 (.int .u8 0) ++ [(.int .i64 0),(.bool false)])) [],none⟩,
 ⟨some 5,.gn (.alloc (zr 64 (.int .u8 0) ++ [(.int .i64 0),(.bool false)])) [],none⟩,
 ⟨some 6,.gn (.alloc [(.int .i64 0)]) [],none⟩]
abbrev zz45_r1:List AI:=[
 ⟨some 7,.gn (.alloc [.nilS]) [],none⟩]
abbrev zz45_r2:List AI:=[
 ⟨some 10,.load true 3 (.t 2) .any,none⟩,
 ⟨some 11,.mv false (.t 1),none⟩,
 ⟨some 12,.call (.c (.fn f_zz34)) [(.t 10),(.t 11)] 0,none⟩]
abbrev zz45_r3:List AI:=[
 ⟨some 8,.alloc (zr 64 (.int .u8 0) ++ [(.int .i64 0),(.bool false)]),none⟩,
 ⟨none,.store 66 (.t 8) (.t 13) .any,none⟩]
abbrev zz45_r4:List AI:=[
 ⟨some 9,.mv true (.t 14),none⟩]
abbrev zz45_r5:List AI:=[
 ⟨some 15,.mv false (.t 9),none⟩,
 ⟨some 16,.bin .neq (.t 15) (.c (.int .i64 0)),none⟩]
abbrev zz45_r6:List AI:=[
 ⟨some 17,.build (zr 64 (.int .u8 0) ++ [(.int .i64 0),(.bool false)]) [],none⟩,
 ⟨some 18,.build (zr 64 (.int .u8 0) ++ [(.int .i64 0),(.bool false)]) [],none⟩,
 ⟨some 19,.mv false (.t 9),none⟩,
 ⟨none,.store 66 (.t 4) (.t 17) .any,none⟩,
 ⟨none,.store 66 (.t 5) (.t 18) .any,none⟩,
 ⟨none,.store 1 (.t 6) (.t 19) .any,none⟩]
abbrev zz45_r7:List AI:=[
 ⟨some 20,.load false 1 (.t 7) .any,none⟩,
 ⟨some 21,.load true 66 (.t 8) .any,none⟩,
 ⟨some 22,.mkslice 66 1 (.agg (zr 64 (.int .u8 0) ++ [(.int .i64 0),(.bool false)])) [(0,(.t 21))],none⟩,
 ⟨some 23,.appG 66 80 (zr 64 (.int .u8 0) ++ [(.int .i64 0),(.bool false)]) (.t 20) (.t 22),none⟩,
 ⟨none,.store 1 (.t 7) (.t 23) .any,none⟩]
abbrev slots_part_slot_y0a:ACode:=.seq (.reg false zz45_r3) (.reg false zz45_r4)
abbrev slots_part_slot_y0b:ACode:=.block 1 (.seq (.seq (.reg false zz45_r5) (.cond (.t 16) (.seq (.reg false zz45_r6) (.ret)) (.skip))) (.reg false zz45_r7))
abbrev zz45_r8:List AI:=[
 ⟨some 24,.load false 1 (.t 7) .foreign,none⟩,
 ⟨some 25,.iaddr 66 (.t 24) (.c (.int .i64 1)),none⟩,
 ⟨some 26,.faddr 65 (.t 25),none⟩,
 ⟨some 27,.load false 1 (.t 26) .foreign,none⟩,
 ⟨some 28,.mv false (.t 27),none⟩,
 ⟨some 29,.load false 1 (.t 7) .foreign,some (28,true)⟩,
 ⟨some 30,.iaddr 66 (.t 29) (.c (.int .i64 0)),some (28,true)⟩,
 ⟨some 31,.faddr 65 (.t 30),some (28,true)⟩,
 ⟨some 32,.load false 1 (.t 31) .foreign,some (28,true)⟩,
 ⟨some 33,.not (.t 32),some (28,true)⟩,
 ⟨some 34,.mv false (.t 33),some (28,true)⟩,
 ⟨some 35,.load false 1 (.t 7) .foreign,some (34,false)⟩,
 ⟨some 36,.iaddr 66 (.t 35) (.c (.int .i64 1)),some (34,false)⟩,
 ⟨some 37,.faddr 0 (.t 36),some (34,false)⟩,
 ⟨some 38,.load true 64 (.t 37) .foreign,some (34,false)⟩,
 ⟨some 40,.load false 1 (.t 7) .foreign,some (34,false)⟩,
 ⟨some 41,.iaddr 66 (.t 40) (.c (.int .i64 0)),some (34,false)⟩,
 ⟨some 42,.faddr 0 (.t 41),some (34,false)⟩,
 ⟨some 43,.load true 64 (.t 42) .foreign,some (34,false)⟩,
 ⟨some 39,.call (.c (.fn f_zz55)) [(.t 38),(.c (.int .i64 0))] 1,some (34,false)⟩,
 ⟨some 44,.call (.c (.fn f_zz55)) [(.t 43),(.c (.int .i64 0))] 1,some (34,false)⟩,
 ⟨some 45,.bin .gtr (.t 39) (.t 44),some (34,false)⟩,
 ⟨some 46,.pick (.t 34) (.c (.bool true)) (.t 45),some (28,true)⟩,
 ⟨some 47,.pick (.t 28) (.t 46) (.c (.bool false)),none⟩]
abbrev zz45_r9:List AI:=[
 ⟨some 48,.load false 1 (.t 7) .foreign,none⟩,
 ⟨some 49,.iaddr 66 (.t 48) (.c (.int .i64 1)),none⟩,
 ⟨some 50,.load true 66 (.t 49) .foreign,none⟩,
 ⟨some 51,.load false 1 (.t 7) .foreign,none⟩,
 ⟨some 52,.iaddr 66 (.t 51) (.c (.int .i64 0)),none⟩,
 ⟨some 53,.load true 66 (.t 52) .foreign,none⟩,
 ⟨none,.kp [(.ld false 1 (.t 7)),(.ld true 66 (.t 52))] (.store 66 (.t 4) (.t 50) .gp),none⟩,
 ⟨none,.store 66 (.t 5) (.t 53) .gp,none⟩,
 ⟨none,.store 1 (.t 6) (.c (.int .i64 0)) .gp,none⟩]
abbrev zz45_r10:List AI:=[
 ⟨some 54,.load false 1 (.t 7) .foreign,none⟩,
 ⟨some 55,.iaddr 66 (.t 54) (.c (.int .i64 0)),none⟩,
 ⟨some 56,.load true 66 (.t 55) .foreign,none⟩,
 ⟨some 57,.load false 1 (.t 7) .foreign,none⟩,
 ⟨some 58,.iaddr 66 (.t 57) (.c (.int .i64 1)),none⟩,
 ⟨some 59,.load true 66 (.t 58) .foreign,none⟩,
 ⟨none,.kp [(.ld false 1 (.t 7)),(.ld true 66 (.t 58))] (.store 66 (.t 4) (.t 56) .gp),none⟩,
 ⟨none,.store 66 (.t 5) (.t 59) .gp,none⟩,
 ⟨none,.store 1 (.t 6) (.c (.int .i64 0)) .gp,none⟩]
abbrev zz45_c:ACode:=.seq (.reg false zz45_r0) (.seq (.reg false zz45_r1) (.seq (.seq (.reg false zz45_r2) (.block 0 (.rangeF (.t 12) [13,14] slots_part_slot_y0a slots_part_slot_y0b))) (.seq (.seq (.reg true zz45_r8) (.cond (.t 47) (.seq (.reg true zz45_r9) (.ret)) (.skip))) (.seq (.reg true zz45_r10) (.ret)))))
def zz45_F:AFunc:=⟨60,[.cell 4 true 66,.cell 5 true 66,.cell 6 false 1],zz45_c⟩
theorem zz45_cp:compile Try.prog [4,5,6,7,23] f_zz45=some zz45_F:=by kernel_rfl
abbrev zz44_r0:List AI:=[
 ⟨some 3,.box 3 (.t 0),none⟩,
 ⟨some 4,.box 66 (.t 1),none⟩,
 ⟨some 5,.box 66 (.t 2),none⟩,
 ⟨some 6,.mv true (.c (.int .i64 0)),none⟩]
abbrev zz44_r1:List AI:=[
 ⟨some 7,.faddr 65 (.t 4),none⟩,
 ⟨some 8,.load false 1 (.t 7) .any,none⟩,
 ⟨some 9,.not (.t 8),none⟩,
 ⟨some 10,.mv false (.t 9),none⟩,
 ⟨some 11,.faddr 65 (.t 5),some (10,false)⟩,
 ⟨some 12,.load false 1 (.t 11) .any,some (10,false)⟩,
 ⟨some 13,.mv false (.t 12),some (10,false)⟩,
 ⟨some 14,.faddr 0 (.t 5),some (13,true)⟩,
 ⟨some 15,.load true 64 (.t 14) .any,some (13,true)⟩,
 ⟨some 16,.faddr 0 (.t 4),some (13,true)⟩,
 ⟨some 17,.load true 64 (.t 16) .any,some (13,true)⟩,
 ⟨some 18,.eqs false (kr 64 .i) (.t 15) (.t 17),some (13,true)⟩,
 ⟨some 19,.pick (.t 13) (.t 18) (.c (.bool false)),some (10,false)⟩,
 ⟨some 20,.pick (.t 10) (.c (.bool true)) (.t 19),none⟩]
abbrev zz44_r2:List AI:=[
 ⟨some 6,.mv true (.c (.int .i64 0)),none⟩]
abbrev zz44_r3:List AI:=[
 ⟨some 21,.load true 3 (.t 3) .any,none⟩,
 ⟨some 22,.faddr 64 (.t 5),none⟩,
 ⟨some 23,.load false 1 (.t 22) .any,none⟩,
 ⟨some 24,.faddr 0 (.t 4),none⟩,
 ⟨some 25,.load true 64 (.t 24) .any,none⟩,
 ⟨some 26,.call (.c (.fn f_zz37)) [(.t 21),(.t 23),(.t 25)] 0,none⟩,
 ⟨some 6,.mv true (.t 26),none⟩]
abbrev zz44_c:ACode:=.seq (.reg false zz44_r0) (.seq (.seq (.reg false zz44_r1) (.cond (.t 20) (.seq (.reg false zz44_r2) (.ret)) (.skip))) (.seq (.reg false zz44_r3) (.ret)))
def zz44_F:AFunc:=⟨27,[.tmp 6],zz44_c⟩
theorem zz44_cp:compile Try.prog [] f_zz44=some zz44_F:=by kernel_rfl
abbrev zz27_r0:List AI:=[
 ⟨some 6,.mv true (.c (.int .i64 0)),none⟩]
abbrev zz27_r1:List AI:=[
 ⟨some 15,.mv false (.t 0),none⟩,
 ⟨some 16,.nilck (.t 15),none⟩,
 ⟨some 17,.faddr 0 (.t 16),none⟩,
 ⟨some 18,.load true 3 (.t 17) .any,none⟩,
 ⟨some 19,.mv false (.t 1),none⟩,
 ⟨some 20,.call (.c (.fn f_zz45)) [(.t 18),(.t 19)] 0,none⟩,
 ⟨some 14,.mv false (.t 20),none⟩,
 ⟨some 21,.ext (.t 14) 0,none⟩,
 ⟨some 22,.ext (.t 14) 1,none⟩,
 ⟨some 23,.ext (.t 14) 2,none⟩,
 ⟨some 7,.alloc (zr 64 (.int .u8 0) ++ [(.int .i64 0),(.bool false)]),none⟩,
 ⟨some 8,.alloc (zr 64 (.int .u8 0) ++ [(.int .i64 0),(.bool false)]),none⟩,
 ⟨none,.store 66 (.t 7) (.t 21) .any,none⟩,
 ⟨none,.store 66 (.t 8) (.t 22) .any,none⟩,
 ⟨some 9,.mv true (.t 23),none⟩]
abbrev zz27_r2:List AI:=[
 ⟨some 24,.mv false (.t 9),none⟩,
 ⟨some 25,.bin .neq (.t 24) (.c (.int .i64 0)),none⟩]
abbrev zz27_r3:List AI:=[
 ⟨some 26,.mv false (.t 9),none⟩,
 ⟨some 6,.mv true (.t 26),none⟩]
abbrev zz27_r4:List AI:=[
 ⟨some 27,.mv false (.t 0),none⟩,
 ⟨some 28,.nilck (.t 27),none⟩,
 ⟨some 29,.faddr 0 (.t 28),none⟩,
 ⟨some 30,.load true 3 (.t 29) .foreign,none⟩,
 ⟨some 31,.load true 66 (.t 7) (.site 7),none⟩,
 ⟨some 32,.load true 66 (.t 8) (.site 8),none⟩,
 ⟨some 33,.call (.c (.fn f_zz44)) [(.t 30),(.t 31),(.t 32)] 2,none⟩,
 ⟨some 10,.mv true (.t 33),none⟩]
abbrev zz27_r5:List AI:=[
 ⟨some 34,.mv false (.t 10),none⟩,
 ⟨some 35,.bin .neq (.t 34) (.c (.int .i64 0)),none⟩]
abbrev zz27_r6:List AI:=[
 ⟨some 36,.mv false (.t 10),none⟩,
 ⟨some 6,.mv true (.t 36),none⟩]
abbrev zz27_r7:List AI:=[
 ⟨some 11,.mv true (.c (.int .u32 0)),none⟩]
abbrev zz27_r8:List AI:=[
 ⟨some 37,.faddr 65 (.t 7),none⟩,
 ⟨some 38,.load false 1 (.t 37) .any,none⟩]
abbrev zz27_r9:List AI:=[
 ⟨some 39,.faddr 0 (.t 7),none⟩,
 ⟨some 40,.load true 64 (.t 39) .any,none⟩,
 ⟨some 41,.call (.c (.fn f_zz55)) [(.t 40),(.c (.int .i64 0))] 0,none⟩,
 ⟨some 11,.mv true (.t 41),none⟩]
abbrev zz27_r10:List AI:=[
 ⟨some 42,.mv false (.t 11),none⟩,
 ⟨some 43,.bin .add (.t 42) (.c (.int .u32 1)),none⟩,
 ⟨some 44,.mv false (.t 2),none⟩,
 ⟨some 45,.call (.c (.fn f_zz56)) [(.t 43),(.t 44)] 0,none⟩,
 ⟨some 12,.alloc (zr 64 (.int .u8 0)),none⟩,
 ⟨none,.store 64 (.t 12) (.t 45) .any,none⟩]
abbrev zz27_r11:List AI:=[
 ⟨some 46,.mv false (.t 0),none⟩,
 ⟨some 47,.nilck (.t 46),none⟩,
 ⟨some 48,.faddr 0 (.t 47),none⟩,
 ⟨some 49,.load true 3 (.t 48) .foreign,none⟩,
 ⟨some 50,.mv false (.t 0),none⟩,
 ⟨some 51,.nilck (.t 50),none⟩,
 ⟨some 52,.faddr 0 (.t 51),none⟩,
 ⟨some 53,.faddr 1 (.t 52),none⟩,
 ⟨some 54,.load false 1 (.t 53) .foreign,none⟩,
 ⟨some 55,.mv false (.t 1),none⟩,
 ⟨some 56,.bin .mul (.c (.int .i64 2)) (.t 55),none⟩,
 ⟨some 57,.bin .add (.t 54) (.t 56),none⟩,
 ⟨some 58,.bin .add (.t 57) (.c (.int .i64 1)),none⟩,
 ⟨some 59,.load true 64 (.t 12) (.site 12),none⟩,
 ⟨some 60,.call (.c (.fn f_zz37)) [(.t 49),(.t 58),(.t 59)] 2,none⟩,
 ⟨some 13,.mv true (.t 60),none⟩]
abbrev zz27_r12:List AI:=[
 ⟨some 61,.mv false (.t 13),none⟩,
 ⟨some 62,.bin .neq (.t 61) (.c (.int .i64 0)),none⟩]
abbrev zz27_r13:List AI:=[
 ⟨some 63,.mv false (.t 13),none⟩,
 ⟨some 6,.mv true (.t 63),none⟩]
abbrev zz27_r14:List AI:=[
 ⟨some 64,.mv false (.t 0),none⟩,
 ⟨some 65,.nilck (.t 64),none⟩,
 ⟨some 66,.faddr 0 (.t 65),none⟩,
 ⟨some 67,.load true 3 (.t 66) .foreign,none⟩,
 ⟨some 68,.mv false (.t 0),none⟩,
 ⟨some 69,.nilck (.t 68),none⟩,
 ⟨some 70,.faddr 0 (.t 69),none⟩,
 ⟨some 71,.faddr 1 (.t 70),none⟩,
 ⟨some 72,.load false 1 (.t 71) .foreign,none⟩,
 ⟨some 73,.mv false (.t 1),none⟩,
 ⟨some 74,.bin .mul (.c (.int .i64 2)) (.t 73),none⟩,
 ⟨some 75,.bin .add (.t 72) (.t 74),none⟩,
 ⟨some 76,.load true 64 (.t 12) (.site 12),none⟩,
 ⟨some 77,.call (.c (.fn f_zz37)) [(.t 67),(.t 75),(.t 76)] 2,none⟩,
 ⟨some 6,.mv true (.t 77),none⟩]
abbrev zz27_c:ACode:=.seq (.reg false zz27_r0) (.seq (.reg false zz27_r1) (.seq (.seq (.reg false zz27_r2) (.cond (.t 25) (.seq (.reg false zz27_r3) (.ret)) (.skip))) (.seq (.seq (.reg true zz27_r4) (.seq (.reg false zz27_r5) (.cond (.t 35) (.seq (.reg false zz27_r6) (.ret)) (.skip)))) (.seq (.reg false zz27_r7) (.seq (.seq (.reg false zz27_r8) (.cond (.t 38) (.reg false zz27_r9) (.skip))) (.seq (.reg false zz27_r10) (.seq (.seq (.reg true zz27_r11) (.seq (.reg false zz27_r12) (.cond (.t 62) (.seq (.reg false zz27_r13) (.ret)) (.skip)))) (.seq (.reg true zz27_r14) (.ret)))))))))
def zz27_F:AFunc:=⟨78,[.tmp 6],zz27_c⟩
theorem zz27_cp:compile Try.prog [33,60,77] f_zz27=some zz27_F:=by kernel_rfl
-- loop 0: [0, 1, 5]
abbrev zz29_r0:List AI:=[
 ⟨some 4,.mv true (.c (.bool false)),none⟩]
abbrev zz29_r1:List AI:=[
 ⟨some 6,.mv false (.t 0),none⟩,
 ⟨some 7,.len false (.t 6),none⟩,
 ⟨some 8,.mv false (.t 1),none⟩,
 ⟨some 9,.len false (.t 8),none⟩,
 ⟨some 10,.bin .neq (.t 7) (.t 9),none⟩]
abbrev zz29_r2:List AI:=[
 ⟨some 4,.mv true (.c (.bool false)),none⟩]
abbrev zz29_r3:List AI:=[
 ⟨some 5,.mv true (.c (.int .i64 0)),none⟩]
abbrev zz29_r4:List AI:=[
 ⟨some 11,.mv false (.t 5),none⟩,
 ⟨some 12,.mv false (.t 0),none⟩,
 ⟨some 13,.len false (.t 12),none⟩,
 ⟨some 14,.bin .lss (.t 11) (.t 13),none⟩]
abbrev zz29_r5:List AI:=[
 ⟨some 17,.mv false (.t 0),none⟩,
 ⟨some 18,.mv false (.t 5),none⟩,
 ⟨some 19,.iaddr 1 (.t 17) (.t 18),none⟩,
 ⟨some 20,.load false 1 (.t 19) .foreign,none⟩,
 ⟨some 21,.mv false (.t 1),none⟩,
 ⟨some 22,.mv false (.t 5),none⟩,
 ⟨some 23,.iaddr 1 (.t 21) (.t 22),none⟩,
 ⟨some 24,.load false 1 (.t 23) .foreign,none⟩,
 ⟨some 25,.bin .neq (.t 20) (.t 24),none⟩]
abbrev zz29_r6:List AI:=[
 ⟨some 4,.mv true (.c (.bool false)),none⟩]
abbrev zz29_r7:List AI:=[
 ⟨some 15,.mv false (.t 5),none⟩,
 ⟨some 16,.bin .add (.t 15) (.c (.int .i64 1)),none⟩,
 ⟨some 5,.mv true (.t 16),none⟩]
abbrev zz29_l0:ACode:=.seq (.seq (.reg false zz29_r4) (.cond (.t 14) (.skip) (.exit 0))) (.seq (.block 1 (.seq (.reg true zz29_r5) (.cond (.t 25) (.seq (.reg false zz29_r6) (.ret)) (.skip)))) (.reg false zz29_r7))
abbrev zz29_r8:List AI:=[
 ⟨some 4,.mv true (.c (.bool true)),none⟩]
abbrev zz29_c:ACode:=.seq (.reg false zz29_r0) (.seq (.seq (.reg false zz29_r1) (.cond (.t 10) (.seq (.reg false zz29_r2) (.ret)) (.skip))) (.seq (.seq (.reg false zz29_r3) (.block 0 (.loop zz29_l0))) (.seq (.reg false zz29_r8) (.ret))))
def zz29_F:AFunc:=⟨26,[.tmp 4],zz29_c⟩
theorem zz29_cp:compile Try.prog [] f_zz29=some zz29_F:=by kernel_rfl
-- loop 0: [0, 4]
abbrev zz12_r0:List AI:=[
 ⟨some 2,.mv true (.c (.int .i64 0)),none⟩]
abbrev zz12_r1:List AI:=[
 ⟨some 6,.mv false (.t 0),none⟩,
 ⟨some 7,.nilck (.t 6),none⟩,
 ⟨some 8,.faddr 3 (.t 7),none⟩,
 ⟨some 9,.load false 1 (.t 8) .any,none⟩]
abbrev zz12_r2:List AI:=[
 ⟨some 2,.mv true (.c (.int .i64 12)),none⟩]
abbrev zz12_r3:List AI:=[
 ⟨some 10,.mv false (.t 0),none⟩,
 ⟨some 11,.call (.c (.fn f_zz13)) [(.t 10)] 0,none⟩,
 ⟨some 3,.mv true (.t 11),none⟩]
abbrev zz12_r4:List AI:=[
 ⟨some 12,.mv false (.t 3),none⟩,
 ⟨some 13,.not (.t 12),none⟩]
abbrev zz12_r5:List AI:=[
 ⟨some 2,.mv true (.c (.int .i64 12)),none⟩]
abbrev zz12_r6:List AI:=[
 ⟨some 4,.mv true (.c (.int .i64 0)),none⟩]
abbrev zz12_r7:List AI:=[
 ⟨some 14,.mv false (.t 4),none⟩,
 ⟨some 15,.mv false (.t 0),none⟩,
 ⟨some 16,.nilck (.t 15),none⟩,
 ⟨some 17,.faddr 0 (.t 16),none⟩,
 ⟨some 18,.load false 1 (.t 17) .any,none⟩,
 ⟨some 19,.len false (.t 18),none⟩,
 ⟨some 20,.bin .lss (.t 14) (.t 19),none⟩]
abbrev zz12_r8:List AI:=[
 ⟨some 23,.mv false (.t 0),none⟩,
 ⟨some 24,.nilck (.t 23),none⟩,
 ⟨some 25,.faddr 0 (.t 24),none⟩,
 ⟨some 26,.load false 1 (.t 25) .any,none⟩,
 ⟨some 27,.mv false (.t 4),none⟩,
 ⟨some 28,.iaddr 66 (.t 26) (.t 27),none⟩,
 ⟨some 29,.faddr 65 (.t 28),none⟩,
 ⟨some 30,.load false 1 (.t 29) .any,none⟩,
 ⟨some 31,.len false (.t 30),none⟩,
 ⟨some 5,.mv true (.t 31),none⟩]
abbrev zz12_r9:List AI:=[
 ⟨some 32,.mv false (.t 5),none⟩,
 ⟨some 33,.bin .gtr (.t 32) (.c (.int .i64 0)),none⟩]
abbrev zz12_r10:List AI:=[
 ⟨some 34,.mv false (.t 0),none⟩,
 ⟨some 35,.nilck (.t 34),none⟩,
 ⟨some 36,.faddr 0 (.t 35),none⟩,
 ⟨some 37,.load false 1 (.t 36) .foreign,none⟩,
 ⟨some 38,.mv false (.t 4),none⟩,
 ⟨some 39,.mv false (.t 0),none⟩,
 ⟨some 40,.nilck (.t 39),none⟩,
 ⟨some 41,.faddr 0 (.t 40),none⟩,
 ⟨some 42,.load false 1 (.t 41) .foreign,none⟩,
 ⟨some 43,.mv false (.t 4),none⟩,
 ⟨some 44,.iaddr 66 (.t 42) (.t 43),none⟩,
 ⟨some 45,.faddr 65 (.t 44),none⟩,
 ⟨some 46,.load false 1 (.t 45) .foreign,none⟩,
 ⟨some 47,.mv false (.t 5),none⟩,
 ⟨some 48,.bin .sub (.t 47) (.c (.int .i64 1)),none⟩,
 ⟨some 49,.iaddr 64 (.t 46) (.t 48),none⟩,
 ⟨some 50,.load true 64 (.t 49) .foreign,none⟩,
 ⟨some 51,.build (zr 64 (.int .u8 0) ++ [(.bool false),.nilS]) [(0,64,(.t 50))],none⟩,
 ⟨some 52,.iaddr 66 (.t 37) (.t 38),none⟩,
 ⟨none,.store 66 (.t 52) (.t 51) .gp,none⟩]
abbrev zz12_r11:List AI:=[
 ⟨some 21,.mv false (.t 4),none⟩,
 ⟨some 22,.bin .add (.t 21) (.c (.int .i64 1)),none⟩,
 ⟨some 4,.mv true (.t 22),none⟩]
abbrev zz12_l0:ACode:=.seq (.seq (.reg false zz12_r7) (.cond (.t 20) (.skip) (.exit 0))) (.seq (.block 1 (.seq (.reg false zz12_r8) (.seq (.reg false zz12_r9) (.cond (.t 33) (.reg true zz12_r10) (.skip))))) (.reg false zz12_r11))
abbrev zz12_r12:List AI:=[
 ⟨some 2,.mv true (.c (.int .i64 0)),none⟩]
abbrev zz12_c:ACode:=.seq (.reg false zz12_r0) (.seq (.seq (.reg false zz12_r1) (.cond (.t 9) (.seq (.reg false zz12_r2) (.ret)) (.skip))) (.seq (.reg false zz12_r3) (.seq (.seq (.reg false zz12_r4) (.cond (.t 13) (.seq (.reg false zz12_r5) (.ret)) (.skip))) (.seq (.seq (.reg false zz12_r6) (.block 0 (.loop zz12_l0))) (.seq (.reg false zz12_r12) (.ret))))))
def zz12_F:AFunc:=⟨53,[.tmp 2],zz12_c⟩
theorem zz12_cp:compile Try.prog [] f_zz12=some zz12_F:=by kernel_rfl
abbrev zz17_r0:List AI:=[
 ⟨some 4,.mv false (.t 0),none⟩,
 ⟨some 5,.mv false (.t 1),none⟩,
 ⟨some 6,.mx (.t 5) (.c (.int .i64 (-1))),none⟩,
 ⟨some 7,.nilck (.t 4),none⟩,
 ⟨some 8,.faddr 2 (.t 7),none⟩,
 ⟨none,.store 1 (.t 8) (.t 6) .any,none⟩]
abbrev zz17_c:ACode:=.reg false zz17_r0
def zz17_F:AFunc:=⟨9,[],zz17_c⟩
theorem zz17_cp:compile Try.prog [] f_zz17=some zz17_F:=by kernel_rfl
-- loop 0: [0, 1, 5, 6, 7]
abbrev zz4_r0:List AI:=[
 ⟨some 4,.mv true (.c .nilP),none⟩]
abbrev zz4_r1:List AI:=[
 ⟨some 9,.mv false (.t 0),none⟩,
 ⟨some 10,.nilck (.t 9),none⟩,
 ⟨some 11,.faddr 0 (.t 10),none⟩,
 ⟨some 12,.load false 1 (.t 11) .any,none⟩,
 ⟨some 13,.len false (.t 12),none⟩,
 ⟨some 14,.gn (.mkSl 66 96 (zr 64 (.int .u8 0) ++ [(.bool false),.nilS])) [(.t 13),(.t 13)],none⟩,
 ⟨some 15,.build [.nilS,(.int .i64 0),(.int .i64 0),(.bool false)] [(0,1,(.t 14)),(2,1,(.c (.int .i64 (-1))))],none⟩,
 ⟨some 16,.gn (.box 4) [(.t 15)],none⟩,
 ⟨some 5,.mv true (.t 16),none⟩]
abbrev zz4_r2:List AI:=[
 ⟨some 6,.mv true (.c (.int .i64 0)),none⟩]
abbrev zz4_r3:List AI:=[
 ⟨some 7,.mv true (.c (.int .i64 0)),none⟩]
abbrev zz4_r4:List AI:=[
 ⟨some 17,.mv false (.t 7),none⟩,
 ⟨some 18,.mv false (.t 0),none⟩,
 ⟨some 19,.nilck (.t 18),none⟩,
 ⟨some 20,.faddr 0 (.t 19),none⟩,
 ⟨some 21,.load false 1 (.t 20) .any,none⟩,
 ⟨some 22,.len false (.t 21),none⟩,
 ⟨some 23,.bin .lss (.t 17) (.t 22),none⟩]
abbrev zz4_r5:List AI:=[
 ⟨some 26,.mv false (.t 0),none⟩,
 ⟨some 27,.nilck (.t 26),none⟩,
 ⟨some 28,.faddr 0 (.t 27),none⟩,
 ⟨some 29,.load false 1 (.t 28) .any,none⟩,
 ⟨some 30,.mv false (.t 7),none⟩,
 ⟨some 31,.iaddr 66 (.t 29) (.t 30),none⟩,
 ⟨some 32,.faddr 65 (.t 31),none⟩,
 ⟨some 33,.load false 1 (.t 32) .any,none⟩,
 ⟨some 34,.len false (.t 33),none⟩,
 ⟨some 35,.bin .eql (.t 34) (.c (.int .i64 0)),none⟩]
abbrev zz4_r6:List AI:=[
 ⟨some 36,.mv false (.t 5),none⟩,
 ⟨some 37,.nilck (.t 36),none⟩,
 ⟨some 38,.faddr 0 (.t 37),none⟩,
 ⟨some 39,.load false 1 (.t 38) .foreign,none⟩,
 ⟨some 40,.mv false (.t 7),none⟩,
 ⟨some 41,.mv false (.t 0),none⟩,
 ⟨some 42,.nilck (.t 41),none⟩,
 ⟨some 43,.faddr 0 (.t 42),none⟩,
 ⟨some 44,.load false 1 (.t 43) .foreign,none⟩,
 ⟨some 45,.mv false (.t 7),none⟩,
 ⟨some 46,.iaddr 66 (.t 44) (.t 45),none⟩,
 ⟨some 47,.load true 66 (.t 46) .foreign,none⟩,
 ⟨some 48,.iaddr 66 (.t 39) (.t 40),none⟩,
 ⟨none,.store 66 (.t 48) (.t 47) .gp,none⟩]
abbrev zz4_r7:List AI:=[
 ⟨some 8,.mv true (.c (.int .i64 0)),none⟩]
abbrev zz4_r8:List AI:=[
 ⟨some 49,.mv false (.t 1),none⟩,
 ⟨some 50,.len false (.t 49),none⟩,
 ⟨some 51,.bin .gtr (.t 50) (.c (.int .i64 0)),none⟩]
abbrev zz4_r9:List AI:=[
 ⟨some 52,.mv false (.t 1),none⟩,
 ⟨some 53,.mv false (.t 6),none⟩,
 ⟨some 54,.mv false (.t 1),none⟩,
 ⟨some 55,.len false (.t 54),none⟩,
 ⟨some 56,.bin .rem (.t 53) (.t 55),none⟩,
 ⟨some 57,.iaddr 1 (.t 52) (.t 56),none⟩,
 ⟨some 58,.load false 1 (.t 57) .any,none⟩,
 ⟨some 8,.mv true (.t 58),none⟩]
abbrev zz4_r10:List AI:=[
 ⟨some 59,.mv false (.t 5),none⟩,
 ⟨some 60,.nilck (.t 59),none⟩,
 ⟨some 61,.faddr 0 (.t 60),none⟩,
 ⟨some 62,.load false 1 (.t 61) .foreign,none⟩,
 ⟨some 63,.mv false (.t 7),none⟩,
 ⟨some 64,.mv false (.t 0),none⟩,
 ⟨some 65,.nilck (.t 64),none⟩,
 ⟨some 66,.faddr 0 (.t 65),none⟩,
 ⟨some 67,.load false 1 (.t 66) .foreign,none⟩,
 ⟨some 68,.mv false (.t 7),none⟩,
 ⟨some 69,.iaddr 66 (.t 67) (.t 68),none⟩,
 ⟨some 70,.load true 66 (.t 69) .foreign,none⟩,
 ⟨some 71,.mv false (.t 8),none⟩,
 ⟨some 72,.call (.c (.fn f_zz30)) [(.t 70),(.t 71)] 1,none⟩,
 ⟨some 73,.iaddr 66 (.t 62) (.t 63),none⟩,
 ⟨none,.store 66 (.t 73) (.t 72) .gp,none⟩]
abbrev zz4_r11:List AI:=[
 ⟨some 74,.mv false (.t 6),none⟩,
 ⟨some 75,.bin .add (.t 74) (.c (.int .i64 1)),none⟩,
 ⟨some 6,.mv true (.t 75),none⟩]
abbrev zz4_r12:List AI:=[
 ⟨some 24,.mv false (.t 7),none⟩,
 ⟨some 25,.bin .add (.t 24) (.c (.int .i64 1)),none⟩,
 ⟨some 7,.mv true (.t 25),none⟩]
abbrev zz4_l0:ACode:=.seq (.seq (.reg false zz4_r4) (.cond (.t 23) (.skip) (.exit 0))) (.seq (.block 1 (.seq (.seq (.reg false zz4_r5) (.cond (.t 35) (.seq (.reg true zz4_r6) (.exit 1)) (.skip))) (.seq (.reg false zz4_r7) (.seq (.seq (.reg false zz4_r8) (.cond (.t 51) (.reg false zz4_r9) (.skip))) (.seq (.reg true zz4_r10) (.reg false zz4_r11)))))) (.reg false zz4_r12))
abbrev zz4_r13:List AI:=[
 ⟨some 76,.mv false (.t 5),none⟩,
 ⟨some 4,.mv true (.t 76),none⟩]
abbrev zz4_c:ACode:=.seq (.reg false zz4_r0) (.seq (.reg false zz4_r1) (.seq (.reg false zz4_r2) (.seq (.seq (.reg false zz4_r3) (.block 0 (.loop zz4_l0))) (.seq (.reg false zz4_r13) (.ret)))))
def zz4_F:AFunc:=⟨77,[.tmp 4],zz4_c⟩
theorem zz4_cp:compile Try.prog [16] f_zz4=some zz4_F:=by kernel_rfl
abbrev zz10_r0:List AI:=[
 ⟨some 6,.mv true (.c (.int .i64 0)),none⟩]
abbrev zz10_r1:List AI:=[
 ⟨some 8,.mv false (.t 0),none⟩,
 ⟨some 9,.mv false (.t 1),none⟩,
 ⟨some 10,.call (.c (.fn f_zz6)) [(.t 8),(.t 9)] 0,none⟩,
 ⟨some 7,.mv true (.t 10),none⟩]
abbrev zz10_r2:List AI:=[
 ⟨some 11,.mv false (.t 7),none⟩,
 ⟨some 12,.bin .neq (.t 11) (.c (.int .i64 0)),none⟩]
abbrev zz10_r3:List AI:=[
 ⟨some 13,.mv false (.t 7),none⟩,
 ⟨some 6,.mv true (.t 13),none⟩]
abbrev zz10_r4:List AI:=[
 ⟨some 14,.mv false (.t 2),none⟩,
 ⟨some 15,.bin .lss (.t 14) (.c (.int .i64 0)),none⟩,
 ⟨some 16,.mv false (.t 15),none⟩,
 ⟨some 17,.mv false (.t 2),some (16,false)⟩,
 ⟨some 18,.bin .gtr (.t 17) (.c (.int .i64 511)),some (16,false)⟩,
 ⟨some 19,.pick (.t 16) (.c (.bool true)) (.t 18),none⟩]
abbrev zz10_r5:List AI:=[
 ⟨some 6,.mv true (.c (.int .i64 1)),none⟩]
abbrev zz10_r6:List AI:=[
 ⟨some 20,.mv false (.t 0),none⟩,
 ⟨some 21,.nilck (.t 20),none⟩,
 ⟨some 22,.faddr 0 (.t 21),none⟩,
 ⟨some 23,.load false 1 (.t 22) .any,none⟩,
 ⟨some 24,.mv false (.t 1),none⟩,
 ⟨some 25,.iaddr 66 (.t 23) (.t 24),none⟩,
 ⟨some 26,.faddr 64 (.t 25),none⟩,
 ⟨some 27,.load false 1 (.t 26) .any,none⟩,
 ⟨some 28,.not (.t 27),none⟩]
abbrev zz10_r7:List AI:=[
 ⟨some 29,.mv false (.t 0),none⟩,
 ⟨some 30,.nilck (.t 29),none⟩,
 ⟨some 31,.faddr 0 (.t 30),none⟩,
 ⟨some 32,.load false 1 (.t 31) .foreign,none⟩,
 ⟨some 33,.mv false (.t 1),none⟩,
 ⟨some 34,.mv false (.t 2),none⟩,
 ⟨some 35,.bin .quo (.t 34) (.c (.int .i64 8)),none⟩,
 ⟨some 36,.mv false (.t 0),none⟩,
 ⟨some 37,.nilck (.t 36),none⟩,
 ⟨some 38,.faddr 0 (.t 37),none⟩,
 ⟨some 39,.load false 1 (.t 38) .foreign,none⟩,
 ⟨some 40,.mv false (.t 1),none⟩,
 ⟨some 41,.mv false (.t 2),none⟩,
 ⟨some 42,.bin .quo (.t 41) (.c (.int .i64 8)),none⟩,
 ⟨some 43,.iaddr 66 (.t 39) (.t 40),none⟩,
 ⟨some 44,.faddr 0 (.t 43),none⟩,
 ⟨some 45,.iaddrA 64 1 (.t 44) (.t 42),none⟩,
 ⟨some 46,.load false 1 (.t 45) .foreign,none⟩,
 ⟨some 47,.mv false (.t 2),none⟩,
 ⟨some 48,.bin .rem (.t 47) (.c (.int .i64 8)),none⟩,
 ⟨some 49,.bin .shl (.c (.int .u8 1)) (.t 48),none⟩,
 ⟨some 50,.bin .xor (.t 46) (.t 49),none⟩,
 ⟨some 51,.iaddr 66 (.t 32) (.t 33),none⟩,
 ⟨some 52,.faddr 0 (.t 51),none⟩,
 ⟨some 53,.iaddrA 64 1 (.t 52) (.t 35),none⟩,
 ⟨none,.store 1 (.t 53) (.t 50) .gp,none⟩]
abbrev zz10_r8:List AI:=[
 ⟨some 6,.mv true (.c (.int .i64 0)),none⟩]
abbrev zz10_c:ACode:=.seq (.reg false zz10_r0) (.seq (.reg false zz10_r1) (.seq (.seq (.reg false zz10_r2) (.cond (.t 12) (.seq (.reg false zz10_r3) (.ret)) (.skip))) (.seq (.seq (.reg false zz10_r4) (.cond (.t 19) (.seq (.reg false zz10_r5) (.ret)) (.skip))) (.seq (.seq (.reg false zz10_r6) (.cond (.t 28) (.reg true zz10_r7) (.skip))) (.seq (.reg false zz10_r8) (.ret))))))
def zz10_F:AFunc:=⟨54,[.tmp 6],zz10_c⟩
theorem zz10_cp:compile Try.prog [] f_zz10=some zz10_F:=by kernel_rfl
abbrev zz18_r0:List AI:=[
 ⟨some 4,.mv true (.c (.int .i64 0)),none⟩]
abbrev zz18_r1:List AI:=[
 ⟨some 6,.mv false (.t 0),none⟩,
 ⟨some 7,.mv false (.t 1),none⟩,
 ⟨some 8,.call (.c (.fn f_zz6)) [(.t 6),(.t 7)] 0,none⟩,
 ⟨some 5,.mv true (.t 8),none⟩]
abbrev zz18_r2:List AI:=[
 ⟨some 9,.mv false (.t 5),none⟩,
 ⟨some 10,.bin .neq (.t 9) (.c (.int .i64 0)),none⟩]
abbrev zz18_r3:List AI:=[
 ⟨some 11,.mv false (.t 5),none⟩,
 ⟨some 4,.mv true (.t 11),none⟩]
abbrev zz18_r4:List AI:=[
 ⟨some 12,.mv false (.t 0),none⟩,
 ⟨some 13,.nilck (.t 12),none⟩,
 ⟨some 14,.faddr 0 (.t 13),none⟩,
 ⟨some 15,.load false 1 (.t 14) .any,none⟩,
 ⟨some 16,.mv false (.t 1),none⟩,
 ⟨some 17,.iaddr 66 (.t 15) (.t 16),none⟩,
 ⟨some 18,.faddr 64 (.t 17),none⟩,
 ⟨none,.store 1 (.t 18) (.c (.bool true)) .any,none⟩]
abbrev zz18_r5:List AI:=[
 ⟨some 19,.mv false (.t 0),none⟩,
 ⟨some 20,.nilck (.t 19),none⟩,
 ⟨some 21,.faddr 0 (.t 20),none⟩,
 ⟨some 22,.load false 1 (.t 21) .any,none⟩,
 ⟨some 23,.mv false (.t 1),none⟩,
 ⟨some 24,.build (zr 64 (.int .u8 0)) [],none⟩,
 ⟨some 25,.iaddr 66 (.t 22) (.t 23),none⟩,
 ⟨some 26,.faddr 0 (.t 25),none⟩,
 ⟨none,.store 64 (.t 26) (.t 24) .any,none⟩]
abbrev zz18_r6:List AI:=[
 ⟨some 4,.mv true (.c (.int .i64 0)),none⟩]
abbrev zz18_c:ACode:=.seq (.reg false zz18_r0) (.seq (.reg false zz18_r1) (.seq (.seq (.reg false zz18_r2) (.cond (.t 10) (.seq (.reg false zz18_r3) (.ret)) (.skip))) (.seq (.reg false zz18_r4) (.seq (.reg false zz18_r5) (.seq (.reg false zz18_r6) (.ret))))))
def zz18_F:AFunc:=⟨27,[.tmp 4],zz18_c⟩
theorem zz18_cp:compile Try.prog [] f_zz18=some zz18_F:=by kernel_rfl
abbrev zz6_r0:List AI:=[
 ⟨some 4,.mv true (.c (.int .i64 0)),none⟩]
abbrev zz6_r1:List AI:=[
 ⟨some 5,.mv false (.t 0),none⟩,
 ⟨some 6,.nilck (.t 5),none⟩,
 ⟨some 7,.faddr 3 (.t 6),none⟩,
 ⟨some 8,.load false 1 (.t 7) .any,none⟩]
abbrev zz6_r2:List AI:=[
 ⟨some 4,.mv true (.c (.int .i64 12)),none⟩]
abbrev zz6_r3:List AI:=[
 ⟨some 9,.mv false (.t 1),none⟩,
 ⟨some 10,.bin .lss (.t 9) (.c (.int .i64 0)),none⟩,
 ⟨some 11,.mv false (.t 10),none⟩,
 ⟨some 12,.mv false (.t 1),some (11,false)⟩,
 ⟨some 13,.mv false (.t 0),some (11,false)⟩,
 ⟨some 14,.nilck (.t 13),some (11,false)⟩,
 ⟨some 15,.faddr 0 (.t 14),some (11,false)⟩,
 ⟨some 16,.load false 1 (.t 15) .any,some (11,false)⟩,
 ⟨some 17,.len false (.t 16),some (11,false)⟩,
 ⟨some 18,.bin .geq (.t 12) (.t 17),some (11,false)⟩,
 ⟨some 19,.pick (.t 11) (.c (.bool true)) (.t 18),none⟩]
abbrev zz6_r4:List AI:=[
 ⟨some 4,.mv true (.c (.int .i64 1)),none⟩]
abbrev zz6_r5:List AI:=[
 ⟨some 4,.mv true (.c (.int .i64 0)),none⟩]
abbrev zz6_c:ACode:=.seq (.reg false zz6_r0) (.seq (.seq (.reg false zz6_r1) (.cond (.t 8) (.seq (.reg false zz6_r2) (.ret)) (.skip))) (.seq (.seq (.reg false zz6_r3) (.cond (.t 19) (.seq (.reg false zz6_r4) (.ret)) (.skip))) (.seq (.reg false zz6_r5) (.ret))))
def zz6_F:AFunc:=⟨20,[.tmp 4],zz6_c⟩
theorem zz6_cp:compile Try.prog [] f_zz6=some zz6_F:=by kernel_rfl
-- loop 0: [3, 9]
abbrev zz28_r0:List AI:=[
 ⟨some 2,.mv true (.c .nilS),none⟩]
abbrev zz28_r1:List AI:=[
 ⟨some 3,.mv true (.c .nilS),none⟩]
abbrev zz28_r2:List AI:=[
 ⟨some 5,.mv false (.t 0),none⟩,
 ⟨some 6,.nilck (.t 5),none⟩,
 ⟨some 7,.faddr 1 (.t 6),none⟩,
 ⟨some 8,.load false 1 (.t 7) .any,none⟩,
 ⟨some 9,.gn .rng [(.t 8)],none⟩]
abbrev zz28_r3:List AI:=[
 ⟨some 10,.gn .nxt [(.t 9)],none⟩,
 ⟨some 11,.ext (.t 10) 0,none⟩]
abbrev zz28_r4:List AI:=[
 ⟨some 12,.gd .entry [(.t 9)],none⟩,
 ⟨some 13,.ext (.t 12) 0,none⟩,
 ⟨some 4,.mv true (.t 13),none⟩]
abbrev zz28_r5:List AI:=[
 ⟨some 14,.mv true (.t 3),none⟩,
 ⟨some 15,.mv false (.t 4),none⟩,
 ⟨some 16,.mkslice 1 1 (.int .i64 0) [(0,(.t 15))],none⟩,
 ⟨some 17,.appG 1 8 [(.int .i64 0)] (.t 14) (.t 16),none⟩,
 ⟨some 3,.mv true (.t 17),none⟩]
abbrev zz28_l0:ACode:=.seq (.reg false zz28_r3) (.seq (.cond (.t 11) (.skip) (.exit 0)) (.block 1 (.seq (.reg false zz28_r4) (.reg false zz28_r5))))
abbrev zz28_r6:List AI:=[
 ⟨some 18,.mv false (.t 3),none⟩,
 ⟨some 19,.call (.c (.fn f_zz23)) [(.t 18)] 0,none⟩]
abbrev zz28_r7:List AI:=[
 ⟨some 20,.mv false (.t 3),none⟩,
 ⟨some 2,.mv true (.t 20),none⟩]
abbrev zz28_c:ACode:=.seq (.reg false zz28_r0) (.seq (.reg false zz28_r1) (.seq (.seq (.reg false zz28_r2) (.block 0 (.loop zz28_l0))) (.seq (.reg false zz28_r6) (.seq (.reg false zz28_r7) (.ret)))))
def zz28_F:AFunc:=⟨21,[.tmp 2],zz28_c⟩
theorem zz28_cp:compile Try.prog [17] f_zz28=some zz28_F:=by kernel_rfl
abbrev zz57_r0:List AI:=[
 ⟨some 3,.box 65 (.t 0),none⟩,
 ⟨some 6,.alloc (zr 64 (.int .u8 0) ++ [(.bool false)]),none⟩]
abbrev zz57_r1:List AI:=[
 ⟨some 11,.mv false (.t 1),none⟩,
 ⟨some 12,.len false (.t 11),none⟩,
 ⟨some 7,.mv true (.t 12),none⟩]
abbrev zz57_r2:List AI:=[
 ⟨some 13,.mv false (.t 2),none⟩,
 ⟨some 14,.mv false (.t 7),none⟩,
 ⟨some 15,.bin .add (.t 14) (.c (.int .i64 3)),none⟩,
 ⟨some 16,.bin .rem (.t 13) (.t 15),none⟩,
 ⟨some 17,.mv false (.t 7),none⟩,
 ⟨some 18,.bin .add (.t 16) (.t 17),none⟩,
 ⟨some 19,.bin .add (.t 18) (.c (.int .i64 3)),none⟩,
 ⟨some 20,.mv false (.t 7),none⟩,
 ⟨some 21,.bin .add (.t 20) (.c (.int .i64 3)),none⟩,
 ⟨some 22,.bin .rem (.t 19) (.t 21),none⟩,
 ⟨some 8,.mv true (.t 22),none⟩]
abbrev zz57_r3:List AI:=[
 ⟨some 24,.mv false (.t 8),none⟩,
 ⟨some 25,.bin .eql (.t 24) (.c (.int .i64 0)),none⟩,
 ⟨some 23,.mv true (.t 25),none⟩]
abbrev zz57_r4:List AI:=[
 ⟨some 26,.load true 65 (.t 3) .any,none⟩,
 ⟨none,.store 65 (.t 6) (.t 26) .any,none⟩]
abbrev zz57_r5:List AI:=[
 ⟨some 28,.mv false (.t 8),none⟩,
 ⟨some 29,.mv false (.t 7),none⟩,
 ⟨some 30,.bin .leq (.t 28) (.t 29),none⟩,
 ⟨some 27,.mv true (.t 30),none⟩]
abbrev zz57_r6:List AI:=[
 ⟨some 31,.mv false (.t 1),none⟩,
 ⟨some 32,.mv false (.t 8),none⟩,
 ⟨some 33,.bin .sub (.t 32) (.c (.int .i64 1)),none⟩,
 ⟨some 34,.iaddr 64 (.t 31) (.t 33),none⟩,
 ⟨some 35,.load true 64 (.t 34) .any,none⟩,
 ⟨some 36,.build (zr 64 (.int .u8 0) ++ [(.bool false)]) [(0,64,(.t 35))],none⟩,
 ⟨none,.store 65 (.t 6) (.t 36) .any,none⟩]
abbrev zz57_r7:List AI:=[
 ⟨some 38,.mv false (.t 8),none⟩,
 ⟨some 39,.mv false (.t 7),none⟩,
 ⟨some 40,.bin .add (.t 39) (.c (.int .i64 1)),none⟩,
 ⟨some 41,.bin .eql (.t 38) (.t 40),none⟩,
 ⟨some 37,.mv true (.t 41),none⟩]
abbrev zz57_r8:List AI:=[
 ⟨some 42,.build (zr 64 (.int .u8 0) ++ [(.bool false)]) [(64,1,(.c (.bool true)))],none⟩,
 ⟨none,.store 65 (.t 6) (.t 42) .any,none⟩]
abbrev zz57_b0:ACode:=.seq (.reg false zz57_r7) (.cond (.t 37) (.seq (.reg false zz57_r8) (.ret)) (.skip))
abbrev zz57_b1:ACode:=.seq (.reg false zz57_r5) (.cond (.t 27) (.seq (.reg false zz57_r6) (.ret)) (zz57_b0))
abbrev zz57_r9:List AI:=[
 ⟨some 43,.faddr 0 (.t 3),none⟩,
 ⟨some 44,.load true 64 (.t 43) (.site 3),none⟩,
 ⟨some 45,.mv false (.t 1),none⟩,
 ⟨some 46,.mv false (.t 7),none⟩,
 ⟨some 47,.bin .sub (.t 46) (.c (.int .i64 1)),none⟩,
 ⟨some 48,.iaddr 64 (.t 45) (.t 47),none⟩,
 ⟨some 49,.load true 64 (.t 48) .foreign,none⟩,
 ⟨some 9,.gn (.alloc (zr 64 (.int .u8 0))) [],none⟩,
 ⟨some 10,.gn (.alloc (zr 64 (.int .u8 0))) [],none⟩,
 ⟨none,.store 64 (.t 9) (.t 44) .gp,none⟩,
 ⟨none,.store 64 (.t 10) (.t 49) .gp,none⟩]
abbrev zz57_r10:List AI:=[
 ⟨some 50,.mv false (.t 7),none⟩,
 ⟨some 51,.bin .gtr (.t 50) (.c (.int .i64 1)),none⟩]
abbrev zz57_r11:List AI:=[
 ⟨some 52,.mv false (.t 1),none⟩,
 ⟨some 53,.mv false (.t 7),none⟩,
 ⟨some 54,.bin .sub (.t 53) (.c (.int .i64 2)),none⟩,
 ⟨some 55,.iaddr 64 (.t 52) (.t 54),none⟩,
 ⟨some 56,.load true 64 (.t 55) .any,none⟩,
 ⟨none,.store 64 (.t 9) (.t 56) .any,none⟩]
abbrev zz57_r12:List AI:=[
 ⟨some 57,.load true 64 (.t 9) .any,none⟩,
 ⟨some 58,.load true 64 (.t 10) .any,none⟩,
 ⟨some 59,.eqs false (kr 64 .i) (.t 57) (.t 58),none⟩]
abbrev zz57_r13:List AI:=[
 ⟨some 60,.load true 64 (.t 10) .any,none⟩,
 ⟨some 61,.build (zr 64 (.int .u8 0) ++ [(.bool false)]) [(0,64,(.t 60))],none⟩,
 ⟨none,.store 65 (.t 6) (.t 61) .any,none⟩]
abbrev zz57_r14:List AI:=[
 ⟨some 62,.gd (.arrS 1 64 true false false) [(.t 10),(.c (.int .i64 32))],none⟩,
 ⟨some 63,.gd (.arrS 1 64 true false false) [(.t 9),(.c (.int .i64 32))],none⟩,
 ⟨some 64,.copy 1 (.t 62) (.t 63),none⟩]
abbrev zz57_r15:List AI:=[
 ⟨some 65,.load true 64 (.t 10) .any,none⟩,
 ⟨some 66,.build (zr 64 (.int .u8 0) ++ [(.bool false)]) [(0,64,(.t 65))],none⟩,
 ⟨none,.store 65 (.t 6) (.t 66) .any,none⟩]
abbrev zz57_c:ACode:=.seq (.reg false zz57_r0) (.seq (.reg false zz57_r1) (.seq (.seq (.reg false zz57_r2) (.block 0 (.seq (.reg false zz57_r3) (.cond (.t 23) (.seq (.reg false zz57_r4) (.ret)) (zz57_b1))))) (.seq (.reg true zz57_r9) (.seq (.seq (.reg false zz57_r10) (.cond (.t 51) (.reg false zz57_r11) (.skip))) (.seq (.seq (.reg false zz57_r12) (.cond (.t 59) (.seq (.reg false zz57_r13) (.ret)) (.skip))) (.seq (.reg true zz57_r14) (.seq (.reg false zz57_r15) (.ret))))))))
def zz57_F:AFunc:=⟨67,[.cell 6 true 65],zz57_c⟩
theorem zz57_cp:compile Try.prog [9,10] f_zz57=some zz57_F:=by kernel_rfl
-- loop 0: [7, 8]
abbrev zz13_r0:List AI:=[
 ⟨some 2,.mv true (.c (.bool false)),none⟩]
abbrev zz13_r1:List AI:=[
 ⟨some 3,.mv false (.t 0),none⟩,
 ⟨some 4,.nilck (.t 3),none⟩,
 ⟨some 5,.faddr 2 (.t 4),none⟩,
 ⟨some 6,.load false 1 (.t 5) .any,none⟩,
 ⟨some 7,.bin .eql (.t 6) (.c (.int .i64 0)),none⟩]
abbrev zz13_r2:List AI:=[
 ⟨some 8,.mv false (.t 0),none⟩,
 ⟨some 9,.nilck (.t 8),none⟩,
 ⟨some 10,.faddr 3 (.t 9),none⟩,
 ⟨none,.store 1 (.t 10) (.c (.bool true)) .any,none⟩]
abbrev zz13_r3:List AI:=[
 ⟨some 2,.mv true (.c (.bool false)),none⟩]
abbrev zz13_b0:ACode:=.seq (.reg false zz13_r2) (.seq (.reg false zz13_r3) (.ret))
abbrev zz13_r4:List AI:=[
 ⟨some 11,.mv false (.t 0),none⟩,
 ⟨some 12,.nilck (.t 11),none⟩,
 ⟨some 13,.faddr 2 (.t 12),none⟩,
 ⟨some 14,.load false 1 (.t 13) .any,none⟩,
 ⟨some 15,.bin .gtr (.t 14) (.c (.int .i64 0)),none⟩]
abbrev zz13_r5:List AI:=[
 ⟨some 16,.mv false (.t 0),none⟩,
 ⟨some 17,.mv false (.t 0),none⟩,
 ⟨some 18,.nilck (.t 17),none⟩,
 ⟨some 19,.faddr 2 (.t 18),none⟩,
 ⟨some 20,.load false 1 (.t 19) .any,none⟩,
 ⟨some 21,.bin .sub (.t 20) (.c (.int .i64 1)),none⟩,
 ⟨some 22,.nilck (.t 16),none⟩,
 ⟨some 23,.faddr 2 (.t 22),none⟩,
 ⟨none,.store 1 (.t 23) (.t 21) .any,none⟩]
abbrev zz13_r6:List AI:=[
 ⟨some 24,.mv false (.t 0),none⟩,
 ⟨some 25,.mv false (.t 0),none⟩,
 ⟨some 26,.nilck (.t 25),none⟩,
 ⟨some 27,.faddr 1 (.t 26),none⟩,
 ⟨some 28,.load false 1 (.t 27) .any,none⟩,
 ⟨some 29,.bin .add (.t 28) (.c (.int .i64 1)),none⟩,
 ⟨some 30,.nilck (.t 24),none⟩,
 ⟨some 31,.faddr 1 (.t 30),none⟩,
 ⟨none,.store 1 (.t 31) (.t 29) .any,none⟩]
abbrev zz13_r7:List AI:=[
 ⟨some 2,.mv true (.c (.bool true)),none⟩]
abbrev zz13_c:ACode:=.seq (.reg false zz13_r0) (.seq (.seq (.reg false zz13_r1) (.cond (.t 7) (zz13_b0) (.skip))) (.seq (.seq (.reg false zz13_r4) (.cond (.t 15) (.reg false zz13_r5) (.skip))) (.seq (.reg false zz13_r6) (.seq (.reg false zz13_r7) (.ret)))))
def zz13_F:AFunc:=⟨32,[.tmp 2],zz13_c⟩
theorem zz13_cp:compile Try.prog [] f_zz13=some zz13_F:=by kernel_rfl
abbrev zz26_r0:List AI:=[
 ⟨some 6,.mv true (.c (.bool false)),none⟩]
abbrev zz26_r1:List AI:=[
 ⟨some 7,.mv false (.t 2),none⟩,
 ⟨some 8,.bin .geq (.t 7) (.c (.int .i64 1)),none⟩,
 ⟨some 9,.mv false (.t 8),none⟩,
 ⟨some 10,.mv false (.t 1),some (9,true)⟩,
 ⟨some 11,.bin .geq (.t 10) (.c (.int .i64 0)),some (9,true)⟩,
 ⟨some 12,.pick (.t 9) (.t 11) (.c (.bool false)),none⟩,
 ⟨some 13,.mv false (.t 12),none⟩,
 ⟨some 14,.mv false (.t 2),some (13,true)⟩,
 ⟨some 15,.mv false (.t 0),some (13,true)⟩,
 ⟨some 16,.nilck (.t 15),some (13,true)⟩,
 ⟨some 17,.faddr 0 (.t 16),some (13,true)⟩,
 ⟨some 18,.load false 1 (.t 17) .any,some (13,true)⟩,
 ⟨some 19,.len false (.t 18),some (13,true)⟩,
 ⟨some 20,.bin .leq (.t 14) (.t 19),some (13,true)⟩,
 ⟨some 21,.pick (.t 13) (.t 20) (.c (.bool false)),none⟩,
 ⟨some 22,.mv false (.t 21),none⟩,
 ⟨some 23,.mv false (.t 1),some (22,true)⟩,
 ⟨some 24,.mv false (.t 2),some (22,true)⟩,
 ⟨some 25,.bin .mul (.c (.int .i64 2)) (.t 24),some (22,true)⟩,
 ⟨some 26,.bin .add (.t 23) (.t 25),some (22,true)⟩,
 ⟨some 27,.mv false (.t 0),some (22,true)⟩,
 ⟨some 28,.nilck (.t 27),some (22,true)⟩,
 ⟨some 29,.faddr 0 (.t 28),some (22,true)⟩,
 ⟨some 30,.load false 1 (.t 29) .any,some (22,true)⟩,
 ⟨some 31,.len false (.t 30),some (22,true)⟩,
 ⟨some 32,.bin .leq (.t 26) (.t 31),some (22,true)⟩,
 ⟨some 33,.pick (.t 22) (.t 32) (.c (.bool false)),none⟩,
 ⟨some 6,.mv true (.t 33),none⟩]
abbrev zz26_c:ACode:=.seq (.reg false zz26_r0) (.seq (.reg false zz26_r1) (.ret))
def zz26_F:AFunc:=⟨34,[.tmp 6],zz26_c⟩
theorem zz26_cp:compile Try.prog [] f_zz26=some zz26_F:=by kernel_rfl
-- loop 0: [0, 1, 2, 6, 8, 9, 10]
abbrev zz32_r0:List AI:=[
 ⟨some 6,.alloc [.nilP,(.int .i64 0),(.int .i64 0),.nilS,(.int .i64 0)],none⟩]
abbrev zz32_r1:List AI:=[
 ⟨some 13,.mv false (.t 1),none⟩,
 ⟨some 14,.mv false (.t 0),none⟩,
 ⟨some 15,.nilck (.t 14),none⟩,
 ⟨some 16,.faddr 0 (.t 15),none⟩,
 ⟨some 17,.load false 1 (.t 16) .any,none⟩,
 ⟨some 18,.len false (.t 17),none⟩,
 ⟨some 19,.bin .leq (.t 13) (.t 18),none⟩,
 ⟨some 20,.mv false (.t 19),none⟩,
 ⟨some 21,.mv false (.t 0),some (20,true)⟩,
 ⟨some 22,.mv false (.t 1),some (20,true)⟩,
 ⟨some 23,.mv false (.t 2),some (20,true)⟩,
 ⟨some 24,.call (.c (.fn f_zz26)) [(.t 21),(.t 22),(.t 23)] 0,some (20,true)⟩,
 ⟨some 25,.pick (.t 20) (.t 24) (.c (.bool false)),none⟩,
 ⟨some 7,.mv true (.t 25),none⟩]
abbrev zz32_r2:List AI:=[
 ⟨some 26,.mv false (.t 7),none⟩,
 ⟨some 27,.not (.t 26),none⟩]
abbrev zz32_r3:List AI:=[
 ⟨some 28,.build [.nilP,(.int .i64 0),(.int .i64 0),.nilS,(.int .i64 0)] [(4,1,(.c (.int .i64 1)))],none⟩,
 ⟨none,.store 5 (.t 6) (.t 28) .any,none⟩]
abbrev zz32_r4:List AI:=[
 ⟨some 29,.mv false (.t 0),none⟩,
 ⟨some 30,.mv false (.t 1),none⟩,
 ⟨some 31,.mv false (.t 2),none⟩,
 ⟨some 32,.build [.nilP,(.int .i64 0),(.int .i64 0)] [(0,1,(.t 29)),(1,1,(.t 30)),(2,1,(.t 31))],none⟩,
 ⟨some 8,.alloc [.nilP,(.int .i64 0),(.int .i64 0)],none⟩,
 ⟨none,.store 3 (.t 8) (.t 32) .any,none⟩]
abbrev zz32_r5:List AI:=[
 ⟨some 9,.mv true (.c .nilS),none⟩]
abbrev zz32_r6:List AI:=[
 ⟨some 10,.mv true (.c (.int .i64 0)),none⟩]
abbrev zz32_r7:List AI:=[
 ⟨some 33,.mv false (.t 10),none⟩,
 ⟨some 34,.mv false (.t 2),none⟩,
 ⟨some 35,.bin .lss (.t 33) (.t 34),none⟩]
abbrev zz32_r8:List AI:=[
 ⟨some 38,.load true 3 (.t 8) .any,none⟩,
 ⟨some 39,.mv false (.t 10),none⟩,
 ⟨some 40,.call (.c (.fn f_zz9)) [(.t 38),(.t 39)] 0,none⟩,
 ⟨some 11,.alloc (zr 64 (.int .u8 0) ++ [(.bool false),(.int .i64 0)] ++ zr 64 (.int .u8 0) ++ [(.bool false),(.int .i64 0),(.int .i64 0),(.int .i64 0)]),none⟩,
 ⟨none,.store 134 (.t 11) (.t 40) .any,none⟩]
abbrev zz32_r9:List AI:=[
 ⟨some 41,.faddr 133 (.t 11),none⟩,
 ⟨some 42,.load false 1 (.t 41) .any,none⟩,
 ⟨some 43,.bin .neq (.t 42) (.c (.int .i64 0)),none⟩]
abbrev zz32_r10:List AI:=[
 ⟨some 44,.faddr 133 (.t 11),none⟩,
 ⟨some 45,.load false 1 (.t 44) .any,none⟩,
 ⟨some 46,.build [.nilP,(.int .i64 0),(.int .i64 0),.nilS,(.int .i64 0)] [(4,1,(.t 45))],none⟩,
 ⟨none,.store 5 (.t 6) (.t 46) .any,none⟩]
abbrev zz32_r11:List AI:=[
 ⟨some 47,.load true 3 (.t 8) .any,none⟩,
 ⟨some 48,.mv false (.t 10),none⟩,
 ⟨some 49,.load true 134 (.t 11) .any,none⟩,
 ⟨some 50,.call (.c (.fn f_zz8)) [(.t 47),(.t 48),(.t 49)] 0,none⟩,
 ⟨some 12,.mv true (.t 50),none⟩]
abbrev zz32_r12:List AI:=[
 ⟨some 51,.faddr 132 (.t 11),none⟩,
 ⟨some 52,.load false 1 (.t 51) .any,none⟩,
 ⟨some 53,.bin .lss (.t 52) (.c (.int .i64 0)),none⟩]
abbrev zz32_r13:List AI:=[
 ⟨some 54,.mv true (.t 9),none⟩,
 ⟨some 55,.mv false (.t 10),none⟩,
 ⟨some 56,.mkslice 1 1 (.int .i64 0) [(0,(.t 55))],none⟩,
 ⟨some 57,.append 1 8 (.t 54) (.t 56),none⟩,
 ⟨some 9,.mv true (.t 57),none⟩]
abbrev zz32_r14:List AI:=[
 ⟨some 58,.mv false (.t 0),none⟩,
 ⟨some 59,.mv false (.t 1),none⟩,
 ⟨some 60,.mv false (.t 10),none⟩,
 ⟨some 61,.bin .mul (.c (.int .i64 2)) (.t 60),none⟩,
 ⟨some 62,.bin .add (.t 59) (.t 61),none⟩,
 ⟨some 63,.call (.c (.fn f_zz21)) [(.t 58),(.t 62),(.c (.int .i64 1))] 0,none⟩,
 ⟨some 12,.mv true (.t 63),none⟩]
abbrev zz32_r15:List AI:=[
 ⟨some 64,.mv false (.t 12),none⟩,
 ⟨some 65,.bin .neq (.t 64) (.c (.int .i64 0)),none⟩]
abbrev zz32_r16:List AI:=[
 ⟨some 66,.mv false (.t 12),none⟩,
 ⟨some 67,.build [.nilP,(.int .i64 0),(.int .i64 0),.nilS,(.int .i64 0)] [(4,1,(.t 66))],none⟩,
 ⟨none,.store 5 (.t 6) (.t 67) .any,none⟩]
abbrev zz32_r17:List AI:=[
 ⟨some 36,.mv false (.t 10),none⟩,
 ⟨some 37,.bin .add (.t 36) (.c (.int .i64 1)),none⟩,
 ⟨some 10,.mv true (.t 37),none⟩]
abbrev zz32_l0:ACode:=.seq (.seq (.reg false zz32_r7) (.cond (.t 35) (.skip) (.exit 0))) (.seq (.block 1 (.seq (.reg false zz32_r8) (.seq (.seq (.reg false zz32_r9) (.cond (.t 43) (.seq (.reg false zz32_r10) (.ret)) (.skip))) (.seq (.reg false zz32_r11) (.seq (.seq (.reg false zz32_r12) (.cond (.t 53) (.seq (.reg false zz32_r13) (.reg false zz32_r14)) (.skip))) (.seq (.reg false zz32_r15) (.cond (.t 65) (.seq (.reg false zz32_r16) (.ret)) (.skip)))))))) (.reg false zz32_r17))
abbrev zz32_r18:List AI:=[
 ⟨some 68,.load true 3 (.t 8) .any,none⟩,
 ⟨some 69,.mv false (.t 9),none⟩,
 ⟨some 70,.build [.nilP,(.int .i64 0),(.int .i64 0),.nilS,(.int .i64 0)] [(0,3,(.t 68)),(3,1,(.t 69))],none⟩,
 ⟨none,.store 5 (.t 6) (.t 70) .any,none⟩]
abbrev zz32_c:ACode:=.seq (.reg false zz32_r0) (.seq (.reg false zz32_r1) (.seq (.seq (.reg false zz32_r2) (.cond (.t 27) (.seq (.reg false zz32_r3) (.ret)) (.skip))) (.seq (.reg false zz32_r4) (.seq (.reg false zz32_r5) (.seq (.seq (.reg false zz32_r6) (.block 0 (.loop zz32_l0))) (.seq (.reg false zz32_r18) (.ret)))))))
def zz32_F:AFunc:=⟨71,[.cell 6 true 5],zz32_c⟩
theorem zz32_cp:compile Try.prog [] f_zz32=some zz32_F:=by kernel_rfl
abbrev zz15_r0:List AI:=[
 ⟨some 3,.box 3 (.t 0),none⟩,
 ⟨some 6,.mv true (.c (.int .i64 0)),none⟩]
abbrev zz15_r1:List AI:=[
 ⟨some 7,.mv false (.t 1),none⟩,
 ⟨some 8,.bin .lss (.t 7) (.c (.int .i64 0)),none⟩,
 ⟨some 9,.mv false (.t 8),none⟩,
 ⟨some 10,.mv false (.t 1),some (9,false)⟩,
 ⟨some 11,.faddr 2 (.t 3),some (9,false)⟩,
 ⟨some 12,.load false 1 (.t 11) .any,some (9,false)⟩,
 ⟨some 13,.bin .geq (.t 10) (.t 12),some (9,false)⟩,
 ⟨some 14,.pick (.t 9) (.c (.bool true)) (.t 13),none⟩,
 ⟨some 15,.mv false (.t 14),none⟩,
 ⟨some 16,.mv false (.t 2),some (15,false)⟩,
 ⟨some 17,.len true (.t 16),some (15,false)⟩,
 ⟨some 18,.bin .lss (.t 17) (.c (.int .i64 1)),some (15,false)⟩,
 ⟨some 19,.pick (.t 15) (.c (.bool true)) (.t 18),none⟩,
 ⟨some 20,.mv false (.t 19),none⟩,
 ⟨some 21,.mv false (.t 2),some (20,false)⟩,
 ⟨some 22,.len true (.t 21),some (20,false)⟩,
 ⟨some 23,.bin .gtr (.t 22) (.c (.int .i64 55)),some (20,false)⟩,
 ⟨some 24,.pick (.t 20) (.c (.bool true)) (.t 23),none⟩]
abbrev zz15_r2:List AI:=[
 ⟨some 6,.mv true (.c (.int .i64 1)),none⟩]
abbrev zz15_r3:List AI:=[
 ⟨some 25,.load true 3 (.t 3) .any,none⟩,
 ⟨some 26,.mv false (.t 1),none⟩,
 ⟨some 27,.mv false (.t 2),none⟩,
 ⟨some 28,.call (.c (.fn f_zz1)) [(.t 25),(.t 26),(.t 27)] 0,none⟩,
 ⟨some 6,.mv true (.t 28),none⟩]
abbrev zz15_c:ACode:=.seq (.reg false zz15_r0) (.seq (.seq (.reg false zz15_r1) (.cond (.t 24) (.seq (.reg false zz15_r2) (.ret)) (.skip))) (.seq (.reg false zz15_r3) (.ret)))
def zz15_F:AFunc:=⟨29,[.tmp 6],zz15_c⟩
theorem zz15_cp:compile Try.prog [] f_zz15=some zz15_F:=by kernel_rfl
abbrev zz7_r0:List AI:=[
 ⟨some 2,.box 3 (.t 0),none⟩,
 ⟨some 4,.mv true (.c (.int .i64 0)),none⟩]
abbrev zz7_r1:List AI:=[
 ⟨some 5,.mv false (.t 1),none⟩,
 ⟨some 6,.bin .lss (.t 5) (.c (.int .i64 0)),none⟩,
 ⟨some 7,.mv false (.t 6),none⟩,
 ⟨some 8,.mv false (.t 1),some (7,false)⟩,
 ⟨some 9,.faddr 2 (.t 2),some (7,false)⟩,
 ⟨some 10,.load false 1 (.t 9) .any,some (7,false)⟩,
 ⟨some 11,.bin .geq (.t 8) (.t 10),some (7,false)⟩,
 ⟨some 12,.pick (.t 7) (.c (.bool true)) (.t 11),none⟩]
abbrev zz7_r2:List AI:=[
 ⟨some 4,.mv true (.c (.int .i64 1)),none⟩]
abbrev zz7_r3:List AI:=[
 ⟨some 13,.load true 3 (.t 2) .any,none⟩,
 ⟨some 14,.mv false (.t 1),none⟩,
 ⟨some 15,.call (.c (.fn f_zz1)) [(.t 13),(.t 14),(.c (.str []))] 0,none⟩,
 ⟨some 4,.mv true (.t 15),none⟩]
abbrev zz7_c:ACode:=.seq (.reg false zz7_r0) (.seq (.seq (.reg false zz7_r1) (.cond (.t 12) (.seq (.reg false zz7_r2) (.ret)) (.skip))) (.seq (.reg false zz7_r3) (.ret)))
def zz7_F:AFunc:=⟨16,[.tmp 4],zz7_c⟩
theorem zz7_cp:compile Try.prog [] f_zz7=some zz7_F:=by kernel_rfl
abbrev zz14_r0:List AI:=[
 ⟨some 2,.box 3 (.t 0),none⟩,
 ⟨some 4,.alloc [(.str []),(.int .i64 0)],none⟩]
abbrev zz14_r1:List AI:=[
 ⟨some 7,.mv false (.t 1),none⟩,
 ⟨some 8,.bin .lss (.t 7) (.c (.int .i64 0)),none⟩,
 ⟨some 9,.mv false (.t 8),none⟩,
 ⟨some 10,.mv false (.t 1),some (9,false)⟩,
 ⟨some 11,.faddr 2 (.t 2),some (9,false)⟩,
 ⟨some 12,.load false 1 (.t 11) .any,some (9,false)⟩,
 ⟨some 13,.bin .geq (.t 10) (.t 12),some (9,false)⟩,
 ⟨some 14,.pick (.t 9) (.c (.bool true)) (.t 13),none⟩]
abbrev zz14_r2:List AI:=[
 ⟨some 15,.build [(.str []),(.int .i64 0)] [(1,1,(.c (.int .i64 1)))],none⟩,
 ⟨none,.store 2 (.t 4) (.t 15) .any,none⟩]
abbrev zz14_r3:List AI:=[
 ⟨some 16,.load true 3 (.t 2) .any,none⟩,
 ⟨some 17,.mv false (.t 1),none⟩,
 ⟨some 18,.call (.c (.fn f_zz9)) [(.t 16),(.t 17)] 0,none⟩,
 ⟨some 5,.alloc (zr 64 (.int .u8 0) ++ [(.bool false),(.int .i64 0)] ++ zr 64 (.int .u8 0) ++ [(.bool false),(.int .i64 0),(.int .i64 0),(.int .i64 0)]),none⟩,
 ⟨none,.store 134 (.t 5) (.t 18) .any,none⟩]
abbrev zz14_r4:List AI:=[
 ⟨some 19,.faddr 133 (.t 5),none⟩,
 ⟨some 20,.load false 1 (.t 19) .any,none⟩,
 ⟨some 21,.bin .neq (.t 20) (.c (.int .i64 0)),none⟩]
abbrev zz14_r5:List AI:=[
 ⟨some 22,.faddr 133 (.t 5),none⟩,
 ⟨some 23,.load false 1 (.t 22) .any,none⟩,
 ⟨some 24,.build [(.str []),(.int .i64 0)] [(1,1,(.t 23))],none⟩,
 ⟨none,.store 2 (.t 4) (.t 24) .any,none⟩]
abbrev zz14_r6:List AI:=[
 ⟨some 25,.faddr 132 (.t 5),none⟩,
 ⟨some 26,.load false 1 (.t 25) .any,none⟩,
 ⟨some 27,.bin .lss (.t 26) (.c (.int .i64 0)),none⟩]
abbrev zz14_r7:List AI:=[
 ⟨some 28,.build [(.str []),(.int .i64 0)] [(1,1,(.c (.int .i64 14)))],none⟩,
 ⟨none,.store 2 (.t 4) (.t 28) .any,none⟩]
abbrev zz14_r8:List AI:=[
 ⟨some 29,.faddr 132 (.t 5),none⟩,
 ⟨some 30,.load false 1 (.t 29) .any,none⟩,
 ⟨some 31,.faddr 0 (.t 5),none⟩,
 ⟨some 32,.iaddrA 2 66 (.t 31) (.t 30),none⟩,
 ⟨some 33,.faddr 0 (.t 32),none⟩,
 ⟨some 34,.load true 64 (.t 33) .any,none⟩,
 ⟨some 35,.call (.c (.fn f_zz25)) [(.t 34)] 0,none⟩,
 ⟨some 6,.mv true (.t 35),none⟩]
abbrev zz14_r9:List AI:=[
 ⟨some 36,.mv false (.t 6),none⟩,
 ⟨some 37,.bin .eql (.t 36) (.c (.str [])),none⟩]
abbrev zz14_r10:List AI:=[
 ⟨some 38,.build [(.str []),(.int .i64 0)] [(1,1,(.c (.int .i64 8)))],none⟩,
 ⟨none,.store 2 (.t 4) (.t 38) .any,none⟩]
abbrev zz14_r11:List AI:=[
 ⟨some 39,.mv false (.t 6),none⟩,
 ⟨some 40,.build [(.str []),(.int .i64 0)] [(0,1,(.t 39))],none⟩,
 ⟨none,.store 2 (.t 4) (.t 40) .any,none⟩]
abbrev zz14_c:ACode:=.seq (.reg false zz14_r0) (.seq (.seq (.reg false zz14_r1) (.cond (.t 14) (.seq (.reg false zz14_r2) (.ret)) (.skip))) (.seq (.reg false zz14_r3) (.seq (.seq (.reg false zz14_r4) (.cond (.t 21) (.seq (.reg false zz14_r5) (.ret)) (.skip))) (.seq (.seq (.reg false zz14_r6) (.cond (.t 27) (.seq (.reg false zz14_r7) (.ret)) (.skip))) (.seq (.reg false zz14_r8) (.seq (.seq (.reg false zz14_r9) (.cond (.t 37) (.seq (.reg false zz14_r10) (.ret)) (.skip))) (.seq (.reg false zz14_r11) (.ret))))))))
def zz14_F:AFunc:=⟨41,[.cell 4 true 2],zz14_c⟩
theorem zz14_cp:compile Try.prog [] f_zz14=some zz14_F:=by kernel_rfl
abbrev zz34_r0:List AI:=[
 ⟨some 2,.gn (.box 3) [(.t 0)],none⟩,
 ⟨some 3,.gn (.box 1) [(.t 1)],none⟩,
 ⟨some 4,.mv true (.c .nilF),none⟩]
abbrev zz34_r1:List AI:=[
 ⟨some 5,.gd (.clo f_zz24) [(.t 2),(.t 3)],none⟩,
 ⟨some 4,.mv true (.t 5),none⟩]
abbrev zz34_c:ACode:=.seq (.reg false zz34_r0) (.seq (.reg false zz34_r1) (.ret))
def zz34_F:AFunc:=⟨6,[.tmp 4],zz34_c⟩
theorem zz34_cp:compile Try.prog [2,3,5] f_zz34=some zz34_F:=by kernel_rfl
abbrev zz55_r0:List AI:=[
 ⟨some 2,.box 64 (.t 0),none⟩,
 ⟨some 4,.mv true (.c (.int .u32 0)),none⟩]
abbrev zz55_r1:List AI:=[
 ⟨some 5,.mv false (.t 1),none⟩,
 ⟨some 6,.iaddrA 64 1 (.t 2) (.t 5),none⟩,
 ⟨some 7,.load false 1 (.t 6) (.site 2),none⟩,
 ⟨some 8,.conv .u32 (.t 7),none⟩,
 ⟨some 9,.bin .shl (.t 8) (.c (.int .u64 24)),none⟩,
 ⟨some 10,.mv false (.t 1),none⟩,
 ⟨some 11,.bin .add (.t 10) (.c (.int .i64 1)),none⟩,
 ⟨some 12,.iaddrA 64 1 (.t 2) (.t 11),none⟩,
 ⟨some 13,.load false 1 (.t 12) (.site 2),none⟩,
 ⟨some 14,.conv .u32 (.t 13),none⟩,
 ⟨some 15,.bin .shl (.t 14) (.c (.int .u64 16)),none⟩,
 ⟨some 16,.bin .or (.t 9) (.t 15),none⟩,
 ⟨some 17,.mv false (.t 1),none⟩,
 ⟨some 18,.bin .add (.t 17) (.c (.int .i64 2)),none⟩,
 ⟨some 19,.iaddrA 64 1 (.t 2) (.t 18),none⟩,
 ⟨some 20,.load false 1 (.t 19) (.site 2),none⟩,
 ⟨some 21,.conv .u32 (.t 20),none⟩,
 ⟨some 22,.bin .shl (.t 21) (.c (.int .u64 8)),none⟩,
 ⟨some 23,.bin .or (.t 16) (.t 22),none⟩,
 ⟨some 24,.mv false (.t 1),none⟩,
 ⟨some 25,.bin .add (.t 24) (.c (.int .i64 3)),none⟩,
 ⟨some 26,.iaddrA 64 1 (.t 2) (.t 25),none⟩,
 ⟨some 27,.load false 1 (.t 26) (.site 2),none⟩,
 ⟨some 28,.conv .u32 (.t 27),none⟩,
 ⟨some 29,.bin .or (.t 23) (.t 28),none⟩,
 ⟨some 4,.mv true (.t 29),none⟩]
abbrev zz55_c:ACode:=.seq (.reg false zz55_r0) (.seq (.reg true zz55_r1) (.ret))
def zz55_F:AFunc:=⟨30,[.tmp 4],zz55_c⟩
theorem zz55_cp:compile Try.prog [] f_zz55=some zz55_F:=by kernel_rfl
abbrev zz37_r0:List AI:=[
 ⟨some 3,.box 3 (.t 0),none⟩,
 ⟨some 5,.box 64 (.t 2),none⟩,
 ⟨some 6,.mv true (.c (.int .i64 0)),none⟩]
abbrev zz37_r1:List AI:=[
 ⟨some 8,.faddr 0 (.t 3),none⟩,
 ⟨some 9,.load false 1 (.t 8) .any,none⟩,
 ⟨some 10,.mv false (.t 1),none⟩,
 ⟨some 11,.load true 64 (.t 5) .any,none⟩,
 ⟨some 12,.call (.c (.fn f_zz40)) [(.t 9),(.t 10),(.t 11)] 0,none⟩,
 ⟨some 7,.mv true (.t 12),none⟩]
abbrev zz37_r2:List AI:=[
 ⟨some 13,.mv false (.t 7),none⟩,
 ⟨some 14,.bin .neq (.t 13) (.c (.int .i64 0)),none⟩]
abbrev zz37_r3:List AI:=[
 ⟨some 15,.mv false (.t 7),none⟩,
 ⟨some 6,.mv true (.t 15),none⟩]
abbrev zz37_r4:List AI:=[
 ⟨some 16,.faddr 0 (.t 3),none⟩,
 ⟨some 17,.load false 1 (.t 16) .any,none⟩,
 ⟨some 18,.call (.c (.fn f_zz50)) [(.t 17)] 0,none⟩,
 ⟨some 6,.mv true (.t 18),none⟩]
abbrev zz37_c:ACode:=.seq (.reg false zz37_r0) (.seq (.seq (.reg false zz37_r1) (.seq (.reg false zz37_r2) (.cond (.t 14) (.seq (.reg false zz37_r3) (.ret)) (.skip)))) (.seq (.reg false zz37_r4) (.ret)))
def zz37_F:AFunc:=⟨19,[.tmp 6],zz37_c⟩
theorem zz37_cp:compile Try.prog [] f_zz37=some zz37_F:=by kernel_rfl
-- loop 0: [4, 7, 8, 9]
abbrev zz30_r0:List AI:=[
 ⟨some 2,.box 66 (.t 0),none⟩,
 ⟨some 4,.alloc (zr 64 (.int .u8 0) ++ [(.bool false),.nilS]),none⟩]
abbrev zz30_r1:List AI:=[
 ⟨some 10,.faddr 65 (.t 2),none⟩,
 ⟨some 11,.load false 1 (.t 10) .any,none⟩,
 ⟨some 12,.len false (.t 11),none⟩,
 ⟨some 5,.mv true (.t 12),none⟩]
abbrev zz30_r2:List AI:=[
 ⟨some 13,.mv false (.t 1),none⟩,
 ⟨some 14,.mv false (.t 5),none⟩,
 ⟨some 15,.bin .add (.t 14) (.c (.int .i64 3)),none⟩,
 ⟨some 16,.bin .rem (.t 13) (.t 15),none⟩,
 ⟨some 17,.mv false (.t 5),none⟩,
 ⟨some 18,.bin .add (.t 16) (.t 17),none⟩,
 ⟨some 19,.bin .add (.t 18) (.c (.int .i64 3)),none⟩,
 ⟨some 20,.mv false (.t 5),none⟩,
 ⟨some 21,.bin .add (.t 20) (.c (.int .i64 3)),none⟩,
 ⟨some 22,.bin .rem (.t 19) (.t 21),none⟩,
 ⟨some 6,.mv true (.t 22),none⟩]
abbrev zz30_r3:List AI:=[
 ⟨some 23,.mv false (.t 6),none⟩,
 ⟨some 24,.bin .eql (.t 23) (.c (.int .i64 0)),none⟩]
abbrev zz30_r4:List AI:=[
 ⟨some 25,.faddr 0 (.t 2),none⟩,
 ⟨some 26,.load true 64 (.t 25) .any,none⟩,
 ⟨some 27,.faddr 64 (.t 2),none⟩,
 ⟨some 28,.load false 1 (.t 27) .any,none⟩,
 ⟨some 29,.build (zr 64 (.int .u8 0) ++ [(.bool false),.nilS]) [(0,64,(.t 26)),(64,1,(.t 28))],none⟩,
 ⟨none,.store 66 (.t 4) (.t 29) .any,none⟩]
abbrev zz30_r5:List AI:=[
 ⟨some 30,.mv false (.t 6),none⟩,
 ⟨some 31,.mv false (.t 5),none⟩,
 ⟨some 32,.bin .leq (.t 30) (.t 31),none⟩]
abbrev zz30_r6:List AI:=[
 ⟨some 33,.faddr 65 (.t 2),none⟩,
 ⟨some 34,.load false 1 (.t 33) .any,none⟩,
 ⟨some 35,.mv false (.t 6),none⟩,
 ⟨some 36,.bin .sub (.t 35) (.c (.int .i64 1)),none⟩,
 ⟨some 37,.iaddr 64 (.t 34) (.t 36),none⟩,
 ⟨some 38,.load true 64 (.t 37) .any,none⟩,
 ⟨some 39,.build (zr 64 (.int .u8 0) ++ [(.bool false),.nilS]) [(0,64,(.t 38))],none⟩,
 ⟨none,.store 66 (.t 4) (.t 39) .any,none⟩]
abbrev zz30_r7:List AI:=[
 ⟨some 40,.mv false (.t 6),none⟩,
 ⟨some 41,.mv false (.t 5),none⟩,
 ⟨some 42,.bin .add (.t 41) (.c (.int .i64 1)),none⟩,
 ⟨some 43,.bin .eql (.t 40) (.t 42),none⟩]
abbrev zz30_r8:List AI:=[
 ⟨some 44,.build (zr 64 (.int .u8 0) ++ [(.bool false),.nilS]) [(64,1,(.c (.bool true)))],none⟩,
 ⟨none,.store 66 (.t 4) (.t 44) .any,none⟩]
abbrev zz30_r9:List AI:=[
 ⟨some 7,.alloc (zr 64 (.int .u8 0)),none⟩]
abbrev zz30_r10:List AI:=[
 ⟨some 45,.faddr 64 (.t 2),none⟩,
 ⟨some 46,.load false 1 (.t 45) .any,none⟩,
 ⟨some 47,.not (.t 46),none⟩]
abbrev zz30_r11:List AI:=[
 ⟨some 48,.faddr 0 (.t 2),none⟩,
 ⟨some 49,.load true 64 (.t 48) .any,none⟩,
 ⟨none,.store 64 (.t 7) (.t 49) .any,none⟩]
abbrev zz30_r12:List AI:=[
 ⟨some 50,.mv false (.t 5),none⟩,
 ⟨some 51,.bin .gtr (.t 50) (.c (.int .i64 1)),none⟩]
abbrev zz30_r13:List AI:=[
 ⟨some 52,.faddr 65 (.t 2),none⟩,
 ⟨some 53,.load false 1 (.t 52) .any,none⟩,
 ⟨some 54,.mv false (.t 5),none⟩,
 ⟨some 55,.bin .sub (.t 54) (.c (.int .i64 2)),none⟩,
 ⟨some 56,.iaddr 64 (.t 53) (.t 55),none⟩,
 ⟨some 57,.load true 64 (.t 56) .any,none⟩,
 ⟨none,.store 64 (.t 7) (.t 57) .any,none⟩]
abbrev zz30_r14:List AI:=[
 ⟨some 58,.faddr 65 (.t 2),none⟩,
 ⟨some 59,.load false 1 (.t 58) .any,none⟩,
 ⟨some 60,.mv false (.t 5),none⟩,
 ⟨some 61,.bin .sub (.t 60) (.c (.int .i64 1)),none⟩,
 ⟨some 62,.iaddr 64 (.t 59) (.t 61),none⟩,
 ⟨some 63,.load true 64 (.t 62) .any,none⟩,
 ⟨some 8,.alloc (zr 64 (.int .u8 0)),none⟩,
 ⟨none,.store 64 (.t 8) (.t 63) .any,none⟩]
abbrev zz30_r15:List AI:=[
 ⟨some 9,.mv true (.c (.int .i64 32)),none⟩]
abbrev zz30_r16:List AI:=[
 ⟨some 64,.mv false (.t 9),none⟩,
 ⟨some 65,.bin .lss (.t 64) (.c (.int .i64 64)),none⟩]
abbrev zz30_r17:List AI:=[
 ⟨some 68,.mv false (.t 9),none⟩,
 ⟨some 69,.mv false (.t 9),none⟩,
 ⟨some 70,.iaddrA 64 1 (.t 7) (.t 69),none⟩,
 ⟨some 71,.load false 1 (.t 70) .any,none⟩,
 ⟨some 72,.iaddrA 64 1 (.t 8) (.t 68),none⟩,
 ⟨none,.store 1 (.t 72) (.t 71) .any,none⟩]
abbrev zz30_r18:List AI:=[
 ⟨some 66,.mv false (.t 9),none⟩,
 ⟨some 67,.bin .add (.t 66) (.c (.int .i64 1)),none⟩,
 ⟨some 9,.mv true (.t 67),none⟩]
abbrev zz30_l0:ACode:=.seq (.seq (.reg false zz30_r16) (.cond (.t 65) (.skip) (.exit 0))) (.seq (.block 1 (.reg false zz30_r17)) (.reg false zz30_r18))
abbrev zz30_r19:List AI:=[
 ⟨some 73,.load true 64 (.t 8) .any,none⟩,
 ⟨some 74,.build (zr 64 (.int .u8 0) ++ [(.bool false),.nilS]) [(0,64,(.t 73))],none⟩,
 ⟨none,.store 66 (.t 4) (.t 74) .any,none⟩]
abbrev zz30_c:ACode:=.seq (.reg false zz30_r0) (.seq (.reg false zz30_r1) (.seq (.reg false zz30_r2) (.seq (.seq (.reg false zz30_r3) (.cond (.t 24) (.seq (.reg false zz30_r4) (.ret)) (.skip))) (.seq (.seq (.reg false zz30_r5) (.cond (.t 32) (.seq (.reg false zz30_r6) (.ret)) (.skip))) (.seq (.seq (.reg false zz30_r7) (.cond (.t 43) (.seq (.reg false zz30_r8) (.ret)) (.skip))) (.seq (.reg false zz30_r9) (.seq (.seq (.reg false zz30_r10) (.cond (.t 47) (.reg false zz30_r11) (.skip))) (.seq (.seq (.reg false zz30_r12) (.cond (.t 51) (.reg false zz30_r13) (.skip))) (.seq (.reg false zz30_r14) (.seq (.seq (.reg false zz30_r15) (.block 0 (.loop zz30_l0))) (.seq (.reg false zz30_r19) (.ret))))))))))))
def zz30_F:AFunc:=⟨75,[.cell 4 true 66],zz30_c⟩
theorem zz30_cp:compile Try.prog [] f_zz30=some zz30_F:=by kernel_rfl
abbrev zz9_r0:List AI:=[
 ⟨some 2,.box 3 (.t 0),none⟩,
 ⟨some 4,.alloc (zr 64 (.int .u8 0) ++ [(.bool false),(.int .i64 0)] ++ zr 64 (.int .u8 0) ++ [(.bool false),(.int .i64 0),(.int .i64 0),(.int .i64 0)]),none⟩]
abbrev zz9_r1:List AI:=[
 ⟨some 8,.faddr 0 (.t 2),none⟩,
 ⟨some 9,.load false 1 (.t 8) .any,none⟩,
 ⟨some 10,.faddr 1 (.t 2),none⟩,
 ⟨some 11,.load false 1 (.t 10) .any,none⟩,
 ⟨some 12,.mv false (.t 1),none⟩,
 ⟨some 13,.bin .mul (.c (.int .i64 2)) (.t 12),none⟩,
 ⟨some 14,.bin .add (.t 11) (.t 13),none⟩,
 ⟨some 15,.call (.c (.fn f_zz33)) [(.t 9),(.t 14)] 0,none⟩,
 ⟨some 5,.alloc (zr 64 (.int .u8 0) ++ [(.bool false),(.int .i64 0)]),none⟩,
 ⟨none,.store 66 (.t 5) (.t 15) .any,none⟩]
abbrev zz9_r2:List AI:=[
 ⟨some 16,.faddr 0 (.t 2),none⟩,
 ⟨some 17,.load false 1 (.t 16) .any,none⟩,
 ⟨some 18,.faddr 1 (.t 2),none⟩,
 ⟨some 19,.load false 1 (.t 18) .any,none⟩,
 ⟨some 20,.mv false (.t 1),none⟩,
 ⟨some 21,.bin .mul (.c (.int .i64 2)) (.t 20),none⟩,
 ⟨some 22,.bin .add (.t 19) (.t 21),none⟩,
 ⟨some 23,.bin .add (.t 22) (.c (.int .i64 1)),none⟩,
 ⟨some 24,.call (.c (.fn f_zz33)) [(.t 17),(.t 23)] 0,none⟩,
 ⟨some 6,.alloc (zr 64 (.int .u8 0) ++ [(.bool false),(.int .i64 0)]),none⟩,
 ⟨none,.store 66 (.t 6) (.t 24) .any,none⟩]
abbrev zz9_r3:List AI:=[
 ⟨some 25,.faddr 65 (.t 5),none⟩,
 ⟨some 26,.load false 1 (.t 25) .any,none⟩,
 ⟨some 27,.bin .neq (.t 26) (.c (.int .i64 0)),none⟩]
abbrev zz9_r4:List AI:=[
 ⟨some 28,.faddr 65 (.t 5),none⟩,
 ⟨some 29,.load false 1 (.t 28) .any,none⟩,
 ⟨some 30,.build (zr 64 (.int .u8 0) ++ [(.bool false),(.int .i64 0)] ++ zr 64 (.int .u8 0) ++ [(.bool false),(.int .i64 0),(.int .i64 0),(.int .i64 0)]) [(133,1,(.t 29))],none⟩,
 ⟨none,.store 134 (.t 4) (.t 30) .any,none⟩]
abbrev zz9_r5:List AI:=[
 ⟨some 31,.faddr 65 (.t 6),none⟩,
 ⟨some 32,.load false 1 (.t 31) .any,none⟩,
 ⟨some 33,.bin .neq (.t 32) (.c (.int .i64 0)),none⟩]
abbrev zz9_r6:List AI:=[
 ⟨some 34,.faddr 65 (.t 6),none⟩,
 ⟨some 35,.load false 1 (.t 34) .any,none⟩,
 ⟨some 36,.build (zr 64 (.int .u8 0) ++ [(.bool false),(.int .i64 0)] ++ zr 64 (.int .u8 0) ++ [(.bool false),(.int .i64 0),(.int .i64 0),(.int .i64 0)]) [(133,1,(.t 35))],none⟩,
 ⟨none,.store 134 (.t 4) (.t 36) .any,none⟩]
abbrev zz9_r7:List AI:=[
 ⟨some 7,.mv true (.c (.int .i64 (-1))),none⟩]
abbrev zz9_r8:List AI:=[
 ⟨some 37,.faddr 64 (.t 6),none⟩,
 ⟨some 38,.load false 1 (.t 37) .any,none⟩]
abbrev zz9_r9:List AI:=[
 ⟨some 7,.mv true (.c (.int .i64 1)),none⟩]
abbrev zz9_r10:List AI:=[
 ⟨some 39,.faddr 64 (.t 5),none⟩,
 ⟨some 40,.load false 1 (.t 39) (.site 5),none⟩,
 ⟨some 41,.mv false (.t 40),none⟩,
 ⟨some 42,.faddr 64 (.t 6),some (41,true)⟩,
 ⟨some 43,.load false 1 (.t 42) (.site 6),some (41,true)⟩,
 ⟨some 44,.not (.t 43),some (41,true)⟩,
 ⟨some 45,.mv false (.t 44),some (41,true)⟩,
 ⟨some 46,.faddr 0 (.t 5),some (45,false)⟩,
 ⟨some 47,.load true 64 (.t 46) (.site 5),some (45,false)⟩,
 ⟨some 49,.faddr 0 (.t 6),some (45,false)⟩,
 ⟨some 50,.load true 64 (.t 49) (.site 6),some (45,false)⟩,
 ⟨some 48,.call (.c (.fn f_zz22)) [(.t 47),(.c (.int .i64 0))] 2,some (45,false)⟩,
 ⟨some 51,.call (.c (.fn f_zz22)) [(.t 50),(.c (.int .i64 0))] 2,some (45,false)⟩,
 ⟨some 52,.bin .geq (.t 48) (.t 51),some (45,false)⟩,
 ⟨some 53,.pick (.t 45) (.c (.bool true)) (.t 52),some (41,true)⟩,
 ⟨some 54,.pick (.t 41) (.t 53) (.c (.bool false)),none⟩]
abbrev zz9_r11:List AI:=[
 ⟨some 7,.mv true (.c (.int .i64 0)),none⟩]
abbrev zz9_r12:List AI:=[
 ⟨some 55,.load true 66 (.t 5) .any,none⟩,
 ⟨some 56,.load true 66 (.t 6) .any,none⟩,
 ⟨some 57,.build (zr 64 (.int .u8 0) ++ [(.bool false),(.int .i64 0)] ++ zr 64 (.int .u8 0) ++ [(.bool false),(.int .i64 0)]) [(0,66,(.t 55)),(66,66,(.t 56))],none⟩,
 ⟨some 58,.mv false (.t 7),none⟩,
 ⟨some 59,.build (zr 64 (.int .u8 0) ++ [(.bool false),(.int .i64 0)] ++ zr 64 (.int .u8 0) ++ [(.bool false),(.int .i64 0),(.int .i64 0),(.int .i64 0)]) [(0,132,(.t 57)),(132,1,(.t 58))],none⟩,
 ⟨none,.store 134 (.t 4) (.t 59) .any,none⟩]
abbrev zz9_c:ACode:=.seq (.reg false zz9_r0) (.seq (.reg false zz9_r1) (.seq (.reg false zz9_r2) (.seq (.seq (.reg false zz9_r3) (.cond (.t 27) (.seq (.reg false zz9_r4) (.ret)) (.skip))) (.seq (.seq (.reg false zz9_r5) (.cond (.t 33) (.seq (.reg false zz9_r6) (.ret)) (.skip))) (.seq (.reg false zz9_r7) (.seq (.seq (.reg false zz9_r8) (.cond (.t 38) (.reg false zz9_r9) (.skip))) (.seq (.seq (.reg true zz9_r10) (.cond (.t 54) (.reg false zz9_r11) (.skip))) (.seq (.reg false zz9_r12) (.ret)))))))))
def zz9_F:AFunc:=⟨60,[.cell 4 true 134],zz9_c⟩
theorem zz9_cp:compile Try.prog [] f_zz9=some zz9_F:=by kernel_rfl
abbrev zz8_r0:List AI:=[
 ⟨some 3,.box 3 (.t 0),none⟩,
 ⟨some 5,.box 134 (.t 2),none⟩,
 ⟨some 6,.mv true (.c (.int .i64 0)),none⟩]
abbrev zz8_r1:List AI:=[
 ⟨some 10,.faddr 132 (.t 5),none⟩,
 ⟨some 11,.load false 1 (.t 10) .any,none⟩,
 ⟨some 12,.bin .lss (.t 11) (.c (.int .i64 0)),none⟩]
abbrev zz8_r2:List AI:=[
 ⟨some 6,.mv true (.c (.int .i64 0)),none⟩]
abbrev zz8_r3:List AI:=[
 ⟨some 13,.faddr 132 (.t 5),none⟩,
 ⟨some 14,.load false 1 (.t 13) .any,none⟩,
 ⟨some 15,.faddr 0 (.t 5),none⟩,
 ⟨some 16,.iaddrA 2 66 (.t 15) (.t 14),none⟩,
 ⟨some 17,.load true 66 (.t 16) .any,none⟩,
 ⟨some 7,.alloc (zr 64 (.int .u8 0) ++ [(.bool false),(.int .i64 0)]),none⟩,
 ⟨none,.store 66 (.t 7) (.t 17) .any,none⟩]
abbrev zz8_r4:List AI:=[
 ⟨some 18,.faddr 132 (.t 5),none⟩,
 ⟨some 19,.load false 1 (.t 18) .any,none⟩,
 ⟨some 20,.bin .sub (.c (.int .i64 1)) (.t 19),none⟩,
 ⟨some 21,.faddr 0 (.t 5),none⟩,
 ⟨some 22,.iaddrA 2 66 (.t 21) (.t 20),none⟩,
 ⟨some 23,.load true 66 (.t 22) .any,none⟩,
 ⟨some 8,.alloc (zr 64 (.int .u8 0) ++ [(.bool false),(.int .i64 0)]),none⟩,
 ⟨none,.store 66 (.t 8) (.t 23) .any,none⟩]
abbrev zz8_r5:List AI:=[
 ⟨some 24,.faddr 64 (.t 8),none⟩,
 ⟨some 25,.load false 1 (.t 24) .any,none⟩,
 ⟨some 26,.mv false (.t 25),none⟩,
 ⟨some 27,.faddr 0 (.t 8),some (26,true)⟩,
 ⟨some 28,.load true 64 (.t 27) .any,some (26,true)⟩,
 ⟨some 29,.faddr 0 (.t 7),some (26,true)⟩,
 ⟨some 30,.load true 64 (.t 29) .any,some (26,true)⟩,
 ⟨some 31,.eqs false (kr 64 .i) (.t 28) (.t 30),some (26,true)⟩,
 ⟨some 32,.pick (.t 26) (.t 31) (.c (.bool false)),none⟩]
abbrev zz8_r6:List AI:=[
 ⟨some 6,.mv true (.c (.int .i64 0)),none⟩]
abbrev zz8_r7:List AI:=[
 ⟨some 33,.faddr 0 (.t 3),none⟩,
 ⟨some 34,.load false 1 (.t 33) .any,none⟩,
 ⟨some 35,.faddr 1 (.t 3),none⟩,
 ⟨some 36,.load false 1 (.t 35) .any,none⟩,
 ⟨some 37,.mv false (.t 1),none⟩,
 ⟨some 38,.bin .mul (.c (.int .i64 2)) (.t 37),none⟩,
 ⟨some 39,.bin .add (.t 36) (.t 38),none⟩,
 ⟨some 40,.bin .add (.t 39) (.c (.int .i64 1)),none⟩,
 ⟨some 41,.faddr 132 (.t 5),none⟩,
 ⟨some 42,.load false 1 (.t 41) .any,none⟩,
 ⟨some 43,.bin .sub (.t 40) (.t 42),none⟩,
 ⟨some 44,.faddr 0 (.t 7),none⟩,
 ⟨some 45,.load true 64 (.t 44) .any,none⟩,
 ⟨some 46,.call (.c (.fn f_zz5)) [(.t 34),(.t 43),(.t 45)] 0,none⟩,
 ⟨some 9,.mv true (.t 46),none⟩]
abbrev zz8_r8:List AI:=[
 ⟨some 47,.mv false (.t 9),none⟩,
 ⟨some 48,.bin .neq (.t 47) (.c (.int .i64 0)),none⟩]
abbrev zz8_r9:List AI:=[
 ⟨some 49,.mv false (.t 9),none⟩,
 ⟨some 6,.mv true (.t 49),none⟩]
abbrev zz8_r10:List AI:=[
 ⟨some 50,.faddr 0 (.t 3),none⟩,
 ⟨some 51,.load false 1 (.t 50) .any,none⟩,
 ⟨some 52,.call (.c (.fn f_zz12)) [(.t 51)] 0,none⟩,
 ⟨some 6,.mv true (.t 52),none⟩]
abbrev zz8_c:ACode:=.seq (.reg false zz8_r0) (.seq (.seq (.reg false zz8_r1) (.cond (.t 12) (.seq (.reg false zz8_r2) (.ret)) (.skip))) (.seq (.reg false zz8_r3) (.seq (.reg false zz8_r4) (.seq (.seq (.reg false zz8_r5) (.cond (.t 32) (.seq (.reg false zz8_r6) (.ret)) (.skip))) (.seq (.reg false zz8_r7) (.seq (.seq (.reg false zz8_r8) (.cond (.t 48) (.seq (.reg false zz8_r9) (.ret)) (.skip))) (.seq (.reg false zz8_r10) (.ret))))))))
def zz8_F:AFunc:=⟨53,[.tmp 6],zz8_c⟩
theorem zz8_cp:compile Try.prog [] f_zz8=some zz8_F:=by kernel_rfl
-- loop 0: [1, 2, 3, 9, 10]
abbrev zz1_r0:List AI:=[
 ⟨some 3,.box 3 (.t 0),none⟩,
 ⟨some 6,.mv true (.c (.int .i64 0)),none⟩]
abbrev zz1_r1:List AI:=[
 ⟨some 11,.load true 3 (.t 3) .any,none⟩,
 ⟨some 12,.mv false (.t 1),none⟩,
 ⟨some 13,.call (.c (.fn f_zz9)) [(.t 11),(.t 12)] 0,none⟩,
 ⟨some 7,.alloc (zr 64 (.int .u8 0) ++ [(.bool false),(.int .i64 0)] ++ zr 64 (.int .u8 0) ++ [(.bool false),(.int .i64 0),(.int .i64 0),(.int .i64 0)]),none⟩,
 ⟨none,.store 134 (.t 7) (.t 13) .any,none⟩]
abbrev zz1_r2:List AI:=[
 ⟨some 14,.faddr 133 (.t 7),none⟩,
 ⟨some 15,.load false 1 (.t 14) .any,none⟩,
 ⟨some 16,.bin .neq (.t 15) (.c (.int .i64 0)),none⟩]
abbrev zz1_r3:List AI:=[
 ⟨some 17,.faddr 133 (.t 7),none⟩,
 ⟨some 18,.load false 1 (.t 17) .any,none⟩,
 ⟨some 6,.mv true (.t 18),none⟩]
abbrev zz1_r4:List AI:=[
 ⟨some 19,.load true 3 (.t 3) .any,none⟩,
 ⟨some 20,.mv false (.t 1),none⟩,
 ⟨some 21,.load true 134 (.t 7) .any,none⟩,
 ⟨some 22,.call (.c (.fn f_zz8)) [(.t 19),(.t 20),(.t 21)] 0,none⟩,
 ⟨some 8,.mv true (.t 22),none⟩]
abbrev zz1_r5:List AI:=[
 ⟨some 23,.mv false (.t 8),none⟩,
 ⟨some 24,.bin .neq (.t 23) (.c (.int .i64 0)),none⟩]
abbrev zz1_r6:List AI:=[
 ⟨some 25,.mv false (.t 8),none⟩,
 ⟨some 6,.mv true (.t 25),none⟩]
abbrev zz1_r7:List AI:=[
 ⟨some 9,.mv true (.c (.int .i64 0)),none⟩]
abbrev zz1_r8:List AI:=[
 ⟨some 26,.faddr 132 (.t 7),none⟩,
 ⟨some 27,.load false 1 (.t 26) .any,none⟩,
 ⟨some 28,.bin .geq (.t 27) (.c (.int .i64 0)),none⟩]
abbrev zz1_r9:List AI:=[
 ⟨some 29,.faddr 132 (.t 7),none⟩,
 ⟨some 30,.load false 1 (.t 29) .any,none⟩,
 ⟨some 31,.faddr 0 (.t 7),none⟩,
 ⟨some 32,.iaddrA 2 66 (.t 31) (.t 30),none⟩,
 ⟨some 33,.faddr 0 (.t 32),none⟩,
 ⟨some 34,.load true 64 (.t 33) .any,none⟩,
 ⟨some 35,.call (.c (.fn f_zz22)) [(.t 34),(.c (.int .i64 0))] 0,none⟩,
 ⟨some 9,.mv true (.t 35),none⟩]
abbrev zz1_r10:List AI:=[
 ⟨some 10,.mv true (.c (.int .i64 1)),none⟩]
abbrev zz1_r11:List AI:=[
 ⟨some 36,.mv false (.t 10),none⟩,
 ⟨some 37,.bin .geq (.t 36) (.c (.int .i64 0)),none⟩]
abbrev zz1_r12:List AI:=[
 ⟨some 40,.faddr 0 (.t 3),none⟩,
 ⟨some 41,.load false 1 (.t 40) (.site 3),none⟩,
 ⟨some 42,.faddr 1 (.t 3),none⟩,
 ⟨some 43,.load false 1 (.t 42) (.site 3),none⟩,
 ⟨some 44,.mv false (.t 1),none⟩,
 ⟨some 45,.bin .mul (.c (.int .i64 2)) (.t 44),none⟩,
 ⟨some 46,.bin .add (.t 43) (.t 45),none⟩,
 ⟨some 47,.mv false (.t 10),none⟩,
 ⟨some 48,.bin .add (.t 46) (.t 47),none⟩,
 ⟨some 49,.mv false (.t 9),none⟩,
 ⟨some 50,.bin .add (.t 49) (.c (.int .i64 1)),none⟩,
 ⟨some 51,.mv false (.t 2),none⟩,
 ⟨some 52,.call (.c (.fn f_zz31)) [(.t 50),(.t 51)] 2,none⟩,
 ⟨some 53,.call (.c (.fn f_zz5)) [(.t 41),(.t 48),(.t 52)] 2,none⟩,
 ⟨some 8,.mv true (.t 53),none⟩]
abbrev zz1_r13:List AI:=[
 ⟨some 54,.mv false (.t 8),none⟩,
 ⟨some 55,.bin .neq (.t 54) (.c (.int .i64 0)),none⟩]
abbrev zz1_r14:List AI:=[
 ⟨some 56,.mv false (.t 8),none⟩,
 ⟨some 6,.mv true (.t 56),none⟩]
abbrev zz1_r15:List AI:=[
 ⟨some 57,.faddr 0 (.t 3),none⟩,
 ⟨some 58,.load false 1 (.t 57) .any,none⟩,
 ⟨some 59,.call (.c (.fn f_zz12)) [(.t 58)] 0,none⟩,
 ⟨some 8,.mv true (.t 59),none⟩]
abbrev zz1_r16:List AI:=[
 ⟨some 60,.mv false (.t 8),none⟩,
 ⟨some 61,.bin .neq (.t 60) (.c (.int .i64 0)),none⟩]
abbrev zz1_r17:List AI:=[
 ⟨some 62,.mv false (.t 8),none⟩,
 ⟨some 6,.mv true (.t 62),none⟩]
abbrev zz1_r18:List AI:=[
 ⟨some 38,.mv false (.t 10),none⟩,
 ⟨some 39,.bin .sub (.t 38) (.c (.int .i64 1)),none⟩,
 ⟨some 10,.mv true (.t 39),none⟩]
abbrev zz1_l0:ACode:=.seq (.seq (.reg false zz1_r11) (.cond (.t 37) (.skip) (.exit 0))) (.seq (.block 1 (.seq (.reg true zz1_r12) (.seq (.seq (.reg false zz1_r13) (.cond (.t 55) (.seq (.reg false zz1_r14) (.ret)) (.skip))) (.seq (.reg false zz1_r15) (.seq (.reg false zz1_r16) (.cond (.t 61) (.seq (.reg false zz1_r17) (.ret)) (.skip))))))) (.reg false zz1_r18))
abbrev zz1_r19:List AI:=[
 ⟨some 6,.mv true (.c (.int .i64 0)),none⟩]
abbrev zz1_c:ACode:=.seq (.reg false zz1_r0) (.seq (.reg false zz1_r1) (.seq (.seq (.reg false zz1_r2) (.cond (.t 16) (.seq (.reg false zz1_r3) (.ret)) (.skip))) (.seq (.reg false zz1_r4) (.seq (.seq (.reg false zz1_r5) (.cond (.t 24) (.seq (.reg false zz1_r6) (.ret)) (.skip))) (.seq (.reg false zz1_r7) (.seq (.seq (.reg false zz1_r8) (.cond (.t 28) (.reg false zz1_r9) (.skip))) (.seq (.seq (.reg false zz1_r10) (.block 0 (.loop zz1_l0))) (.seq (.reg false zz1_r19) (.ret)))))))))
def zz1_F:AFunc:=⟨63,[.tmp 6],zz1_c⟩
theorem zz1_cp:compile Try.prog [] f_zz1=some zz1_F:=by kernel_rfl
-- loop 0: [1, 3, 4]
abbrev zz25_r0:List AI:=[
 ⟨some 1,.box 64 (.t 0),none⟩,
 ⟨some 2,.mv true (.c (.str [])),none⟩]
abbrev zz25_r1:List AI:=[
 ⟨some 3,.mv true (.c .nilS),none⟩]
abbrev zz25_r2:List AI:=[
 ⟨some 4,.mv true (.c (.int .i64 0)),none⟩]
abbrev zz25_r3:List AI:=[
 ⟨some 5,.mv false (.t 4),none⟩,
 ⟨some 6,.iaddrA 64 1 (.t 1) (.c (.int .i64 36)),none⟩,
 ⟨some 7,.load false 1 (.t 6) .any,none⟩,
 ⟨some 8,.conv .i64 (.t 7),none⟩,
 ⟨some 9,.bin .lss (.t 5) (.t 8),none⟩]
abbrev zz25_r4:List AI:=[
 ⟨some 12,.mv false (.t 4),none⟩,
 ⟨some 13,.bin .lss (.t 12) (.c (.int .i64 28)),none⟩]
abbrev zz25_r5:List AI:=[
 ⟨some 14,.mv true (.t 3),none⟩,
 ⟨some 15,.mv false (.t 4),none⟩,
 ⟨some 16,.bin .add (.c (.int .i64 4)) (.t 15),none⟩,
 ⟨some 17,.iaddrA 64 1 (.t 1) (.t 16),none⟩,
 ⟨some 18,.load false 1 (.t 17) .any,none⟩,
 ⟨some 19,.mkslice 1 1 (.int .u8 0) [(0,(.t 18))],none⟩,
 ⟨some 20,.append 1 1 (.t 14) (.t 19),none⟩,
 ⟨some 3,.mv true (.t 20),none⟩]
abbrev zz25_r6:List AI:=[
 ⟨some 21,.mv true (.t 3),none⟩,
 ⟨some 22,.mv false (.t 4),none⟩,
 ⟨some 23,.bin .add (.c (.int .i64 37)) (.t 22),none⟩,
 ⟨some 24,.bin .sub (.t 23) (.c (.int .i64 28)),none⟩,
 ⟨some 25,.iaddrA 64 1 (.t 1) (.t 24),none⟩,
 ⟨some 26,.load false 1 (.t 25) .any,none⟩,
 ⟨some 27,.mkslice 1 1 (.int .u8 0) [(0,(.t 26))],none⟩,
 ⟨some 28,.append 1 1 (.t 21) (.t 27),none⟩,
 ⟨some 3,.mv true (.t 28),none⟩]
abbrev zz25_r7:List AI:=[
 ⟨some 10,.mv false (.t 4),none⟩,
 ⟨some 11,.bin .add (.t 10) (.c (.int .i64 1)),none⟩,
 ⟨some 4,.mv true (.t 11),none⟩]
abbrev zz25_l0:ACode:=.seq (.seq (.reg false zz25_r3) (.cond (.t 9) (.skip) (.exit 0))) (.seq (.block 1 (.seq (.reg false zz25_r4) (.cond (.t 13) (.reg false zz25_r5) (.reg false zz25_r6)))) (.reg false zz25_r7))
abbrev zz25_r8:List AI:=[
 ⟨some 29,.mv false (.t 3),none⟩,
 ⟨some 30,.b2s (.t 29),none⟩,
 ⟨some 2,.mv true (.t 30),none⟩]
abbrev zz25_c:ACode:=.seq (.reg false zz25_r0) (.seq (.reg false zz25_r1) (.seq (.seq (.reg false zz25_r2) (.block 0 (.loop zz25_l0))) (.seq (.reg false zz25_r8) (.ret))))
def zz25_F:AFunc:=⟨31,[.tmp 2],zz25_c⟩
theorem zz25_cp:compile Try.prog [] f_zz25=some zz25_F:=by kernel_rfl
-- loop 0: [0, 1, 2, 9]
abbrev zz24_r0:List AI:=[
 ⟨some 9,.mv false (.c (.int .i64 0)),none⟩]
abbrev zz24_r1:List AI:=[
 ⟨some 10,.bin .lss (.t 9) (.c (.int .i64 2)),none⟩]
abbrev zz24_r2:List AI:=[
 ⟨some 11,.mv false (.t 9),none⟩,
 ⟨some 4,.mv true (.t 11),none⟩]
abbrev zz24_r3:List AI:=[
 ⟨some 12,.faddr 1 (.t 1),none⟩,
 ⟨some 13,.load false 1 (.t 12) .any,none⟩,
 ⟨some 14,.load false 1 (.t 2) .any,none⟩,
 ⟨some 15,.bin .mul (.c (.int .i64 2)) (.t 14),none⟩,
 ⟨some 16,.bin .add (.t 13) (.t 15),none⟩,
 ⟨some 17,.mv false (.t 4),none⟩,
 ⟨some 18,.bin .add (.t 16) (.t 17),none⟩,
 ⟨some 5,.mv true (.t 18),none⟩]
abbrev zz24_r4:List AI:=[
 ⟨some 20,.faddr 0 (.t 1),none⟩,
 ⟨some 21,.load false 1 (.t 20) .any,none⟩,
 ⟨some 22,.mv false (.t 5),none⟩,
 ⟨some 23,.call (.c (.fn f_zz48)) [(.t 21),(.t 22)] 0,none⟩,
 ⟨some 19,.mv false (.t 23),none⟩,
 ⟨some 24,.ext (.t 19) 0,none⟩,
 ⟨some 25,.ext (.t 19) 1,none⟩,
 ⟨some 6,.alloc (zr 64 (.int .u8 0)),none⟩,
 ⟨none,.store 64 (.t 6) (.t 24) .any,none⟩,
 ⟨some 7,.mv true (.t 25),none⟩]
abbrev zz24_r5:List AI:=[
 ⟨some 26,.load true 64 (.t 6) .any,none⟩,
 ⟨some 27,.mv false (.t 5),none⟩,
 ⟨some 28,.build (zr 64 (.int .u8 0) ++ [(.int .i64 0),(.bool false)]) [(0,64,(.t 26)),(64,1,(.t 27))],none⟩,
 ⟨some 8,.alloc (zr 64 (.int .u8 0) ++ [(.int .i64 0),(.bool false)]),none⟩,
 ⟨none,.store 66 (.t 8) (.t 28) .any,none⟩]
abbrev zz24_r6:List AI:=[
 ⟨some 29,.mv false (.t 7),none⟩,
 ⟨some 30,.bin .eql (.t 29) (.c (.int .i64 0)),none⟩]
abbrev zz24_r7:List AI:=[
 ⟨some 31,.load true 64 (.t 6) (.site 6),none⟩,
 ⟨some 33,.load true 64 (.t 6) (.site 6),none⟩,
 ⟨some 32,.call (.c (.fn f_zz55)) [(.t 31),(.c (.int .i64 0))] 2,none⟩,
 ⟨some 34,.call (.c (.fn f_zz55)) [(.t 33),(.c (.int .i64 32))] 2,none⟩,
 ⟨some 35,.bin .eql (.t 32) (.t 34),none⟩,
 ⟨some 36,.mv false (.t 35),none⟩,
 ⟨some 37,.load true 64 (.t 6) (.site 6),some (36,true)⟩,
 ⟨some 38,.call (.c (.fn f_zz55)) [(.t 37),(.c (.int .i64 0))] 2,some (36,true)⟩,
 ⟨some 39,.bin .geq (.t 38) (.c (.int .u32 1)),some (36,true)⟩,
 ⟨some 40,.pick (.t 36) (.t 39) (.c (.bool false)),none⟩,
 ⟨some 41,.mv false (.t 40),none⟩,
 ⟨some 42,.iaddrA 64 1 (.t 6) (.c (.int .i64 36)),some (41,true)⟩,
 ⟨some 43,.load false 1 (.t 42) (.site 6),some (41,true)⟩,
 ⟨some 44,.bin .leq (.t 43) (.c (.int .u8 55)),some (41,true)⟩,
 ⟨some 45,.pick (.t 41) (.t 44) (.c (.bool false)),none⟩,
 ⟨some 46,.faddr 65 (.t 8),none⟩,
 ⟨none,.store 1 (.t 46) (.t 45) (.site 8),none⟩]
abbrev zz24_r8:List AI:=[
 ⟨some 47,.mv false (.t 7),none⟩,
 ⟨some 48,.bin .eql (.t 47) (.c (.int .i64 14)),none⟩]
abbrev zz24_r9:List AI:=[
 ⟨some 7,.mv true (.c (.int .i64 0)),none⟩]
abbrev zz24_r10:List AI:=[
 ⟨some 49,.mv false (.t 0),none⟩,
 ⟨some 50,.load true 66 (.t 8) .any,none⟩,
 ⟨some 51,.mv false (.t 7),none⟩,
 ⟨some 52,.call (.t 49) [(.t 50),(.t 51)] 0,none⟩,
 ⟨some 53,.not (.t 52),none⟩]
abbrev zz24_r11:List AI:=[
 ⟨some 54,.bin .add (.t 9) (.c (.int .i64 1)),none⟩,
 ⟨some 9,.mv false (.t 54),none⟩]
abbrev zz24_l0:ACode:=.seq (.reg false zz24_r1) (.seq (.cond (.t 10) (.skip) (.exit 0)) (.seq (.block 1 (.seq (.reg false zz24_r2) (.seq (.reg false zz24_r3) (.seq (.reg false zz24_r4) (.seq (.reg false zz24_r5) (.seq (.seq (.reg false zz24_r6) (.cond (.t 30) (.reg true zz24_r7) (.skip))) (.seq (.seq (.reg false zz24_r8) (.cond (.t 48) (.reg false zz24_r9) (.skip))) (.seq (.reg false zz24_r10) (.cond (.t 53) (.ret) (.skip)))))))))) (.reg false zz24_r11)))
abbrev zz24_c:ACode:=.seq (.reg false zz24_r0) (.block 0 (.loop zz24_l0))
def zz24_F:AFunc:=⟨55,[],zz24_c⟩
theorem zz24_cp:compile Try.prog [] f_zz24=some zz24_F:=by kernel_rfl
abbrev zz33_r0:List AI:=[
 ⟨some 4,.alloc (zr 64 (.int .u8 0) ++ [(.bool false),(.int .i64 0)]),none⟩]
abbrev zz33_r1:List AI:=[
 ⟨some 7,.mv false (.t 0),none⟩,
 ⟨some 8,.mv false (.t 1),none⟩,
 ⟨some 9,.call (.c (.fn f_zz11)) [(.t 7),(.t 8)] 0,none⟩,
 ⟨some 5,.alloc (zr 64 (.int .u8 0) ++ [(.int .i64 0)]),none⟩,
 ⟨none,.store 65 (.t 5) (.t 9) .any,none⟩]
abbrev zz33_r2:List AI:=[
 ⟨some 10,.faddr 64 (.t 5),none⟩,
 ⟨some 11,.load false 1 (.t 10) .any,none⟩,
 ⟨some 12,.bin .eql (.t 11) (.c (.int .i64 14)),none⟩]
abbrev zz33_r3:List AI:=[
 ⟨some 13,.build (zr 64 (.int .u8 0) ++ [(.bool false),(.int .i64 0)]) [],none⟩,
 ⟨none,.store 66 (.t 4) (.t 13) .any,none⟩]
abbrev zz33_r4:List AI:=[
 ⟨some 14,.faddr 64 (.t 5),none⟩,
 ⟨some 15,.load false 1 (.t 14) .any,none⟩,
 ⟨some 16,.bin .neq (.t 15) (.c (.int .i64 0)),none⟩]
abbrev zz33_r5:List AI:=[
 ⟨some 17,.faddr 64 (.t 5),none⟩,
 ⟨some 18,.load false 1 (.t 17) .any,none⟩,
 ⟨some 19,.build (zr 64 (.int .u8 0) ++ [(.bool false),(.int .i64 0)]) [(65,1,(.t 18))],none⟩,
 ⟨none,.store 66 (.t 4) (.t 19) .any,none⟩]
abbrev zz33_r6:List AI:=[
 ⟨some 20,.faddr 0 (.t 5),none⟩,
 ⟨some 21,.load true 64 (.t 20) (.site 5),none⟩,
 ⟨some 23,.faddr 0 (.t 5),none⟩,
 ⟨some 24,.load true 64 (.t 23) (.site 5),none⟩,
 ⟨some 22,.call (.c (.fn f_zz22)) [(.t 21),(.c (.int .i64 0))] 2,none⟩,
 ⟨some 25,.call (.c (.fn f_zz22)) [(.t 24),(.c (.int .i64 32))] 2,none⟩,
 ⟨some 26,.bin .eql (.t 22) (.t 25),none⟩,
 ⟨some 27,.mv false (.t 26),none⟩,
 ⟨some 28,.faddr 0 (.t 5),some (27,true)⟩,
 ⟨some 29,.load true 64 (.t 28) (.site 5),some (27,true)⟩,
 ⟨some 30,.call (.c (.fn f_zz22)) [(.t 29),(.c (.int .i64 0))] 2,some (27,true)⟩,
 ⟨some 31,.bin .geq (.t 30) (.c (.int .i64 1)),some (27,true)⟩,
 ⟨some 32,.pick (.t 27) (.t 31) (.c (.bool false)),none⟩,
 ⟨some 33,.mv false (.t 32),none⟩,
 ⟨some 34,.faddr 0 (.t 5),some (33,true)⟩,
 ⟨some 35,.iaddrA 64 1 (.t 34) (.c (.int .i64 36)),some (33,true)⟩,
 ⟨some 36,.load false 1 (.t 35) (.site 5),some (33,true)⟩,
 ⟨some 37,.bin .leq (.t 36) (.c (.int .u8 55)),some (33,true)⟩,
 ⟨some 38,.pick (.t 33) (.t 37) (.c (.bool false)),none⟩,
 ⟨some 6,.mv true (.t 38),none⟩]
abbrev zz33_r7:List AI:=[
 ⟨some 39,.faddr 0 (.t 5),none⟩,
 ⟨some 40,.load true 64 (.t 39) .any,none⟩,
 ⟨some 41,.mv false (.t 6),none⟩,
 ⟨some 42,.build (zr 64 (.int .u8 0) ++ [(.bool false),(.int .i64 0)]) [(0,64,(.t 40)),(64,1,(.t 41))],none⟩,
 ⟨none,.store 66 (.t 4) (.t 42) .any,none⟩]
abbrev zz33_c:ACode:=.seq (.reg false zz33_r0) (.seq (.reg false zz33_r1) (.seq (.seq (.reg false zz33_r2) (.cond (.t 12) (.seq (.reg false zz33_r3) (.ret)) (.skip))) (.seq (.seq (.reg false zz33_r4) (.cond (.t 16) (.seq (.reg false zz33_r5) (.ret)) (.skip))) (.seq (.reg true zz33_r6) (.seq (.reg false zz33_r7) (.ret))))))
def zz33_F:AFunc:=⟨43,[.cell 4 true 66],zz33_c⟩
theorem zz33_cp:compile Try.prog [] f_zz33=some zz33_F:=by kernel_rfl
abbrev zz22_r0:List AI:=[
 ⟨some 2,.box 64 (.t 0),none⟩,
 ⟨some 4,.mv true (.c (.int .i64 0)),none⟩]
abbrev zz22_r1:List AI:=[
 ⟨some 5,.mv false (.t 1),none⟩,
 ⟨some 6,.iaddrA 64 1 (.t 2) (.t 5),none⟩,
 ⟨some 7,.load false 1 (.t 6) (.site 2),none⟩,
 ⟨some 8,.conv .i64 (.t 7),none⟩,
 ⟨some 9,.bin .mul (.t 8) (.c (.int .i64 16777216)),none⟩,
 ⟨some 10,.mv false (.t 1),none⟩,
 ⟨some 11,.bin .add (.t 10) (.c (.int .i64 1)),none⟩,
 ⟨some 12,.iaddrA 64 1 (.t 2) (.t 11),none⟩,
 ⟨some 13,.load false 1 (.t 12) (.site 2),none⟩,
 ⟨some 14,.conv .i64 (.t 13),none⟩,
 ⟨some 15,.bin .mul (.t 14) (.c (.int .i64 65536)),none⟩,
 ⟨some 16,.bin .add (.t 9) (.t 15),none⟩,
 ⟨some 17,.mv false (.t 1),none⟩,
 ⟨some 18,.bin .add (.t 17) (.c (.int .i64 2)),none⟩,
 ⟨some 19,.iaddrA 64 1 (.t 2) (.t 18),none⟩,
 ⟨some 20,.load false 1 (.t 19) (.site 2),none⟩,
 ⟨some 21,.conv .i64 (.t 20),none⟩,
 ⟨some 22,.bin .mul (.t 21) (.c (.int .i64 256)),none⟩,
 ⟨some 23,.bin .add (.t 16) (.t 22),none⟩,
 ⟨some 24,.mv false (.t 1),none⟩,
 ⟨some 25,.bin .add (.t 24) (.c (.int .i64 3)),none⟩,
 ⟨some 26,.iaddrA 64 1 (.t 2) (.t 25),none⟩,
 ⟨some 27,.load false 1 (.t 26) (.site 2),none⟩,
 ⟨some 28,.conv .i64 (.t 27),none⟩,
 ⟨some 29,.bin .add (.t 23) (.t 28),none⟩,
 ⟨some 4,.mv true (.t 29),none⟩]
abbrev zz22_c:ACode:=.seq (.reg false zz22_r0) (.seq (.reg true zz22_r1) (.ret))
def zz22_F:AFunc:=⟨30,[.tmp 4],zz22_c⟩
theorem zz22_cp:compile Try.prog [] f_zz22=some zz22_F:=by kernel_rfl
theorem fol:Try.prog.follows .mixedOrders=true:=by kernel_rfl
end
end Go.Proofs.Ytioojmlhmhgeeaa
