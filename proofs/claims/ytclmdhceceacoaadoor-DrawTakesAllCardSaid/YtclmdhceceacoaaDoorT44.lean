/-
 The functions' code in the evaluator's form,printed by a program of ours from the loaded program,and checked against it.
 Conditions: none.
-/
import Derived.Test.YtclmdhceceacoaaDoorProg
import Derived.KernelRfl
import Derived.Test.YtclmdhceceacoaaDoorEZ
namespace Go.Proofs.YtclmdhceceacoaaDoor
open Go Go.E2
noncomputable section
abbrev f_zz1:FuncId:=6
abbrev f_zz11:FuncId:=9
abbrev f_zz47:FuncId:=10
abbrev f_zz8:FuncId:=12
abbrev f_zz42:FuncId:=14
abbrev f_zz49:FuncId:=16
abbrev f_zz36:FuncId:=18
abbrev f_zz25:FuncId:=21
abbrev f_zz48:FuncId:=22
abbrev f_zz22:FuncId:=23
abbrev f_zz41:FuncId:=24
abbrev f_zz30:FuncId:=26
abbrev f_zz26:FuncId:=28
abbrev f_zz37:FuncId:=29
abbrev f_zz31:FuncId:=30
abbrev f_zz40:FuncId:=31
abbrev f_zz52:FuncId:=32
abbrev f_zz38:FuncId:=35
abbrev f_zz0:FuncId:=36
abbrev f_zz19:FuncId:=39
abbrev f_zz44:FuncId:=40
abbrev f_zz5:FuncId:=41
abbrev f_zz35:FuncId:=42
abbrev f_zz21:FuncId:=48
abbrev f_zz9:FuncId:=49
abbrev f_zz39:FuncId:=50
abbrev f_zz29:FuncId:=52
abbrev f_zz10:FuncId:=53
abbrev f_zz32:FuncId:=54
abbrev f_zz4:FuncId:=55
abbrev f_zz51:FuncId:=56
abbrev f_zz53:FuncId:=57
abbrev f_zz43:FuncId:=58
abbrev f_zz23:FuncId:=65
abbrev f_zz18:FuncId:=66
abbrev f_zz13:FuncId:=67
abbrev f_zz6:FuncId:=68
abbrev f_zz16:FuncId:=69
abbrev f_zz15:FuncId:=70
abbrev f_zz2:FuncId:=71
abbrev f_zz45:FuncId:=72
abbrev f_zz27:FuncId:=73
abbrev f_zz46:FuncId:=74
abbrev f_zz28:FuncId:=75
abbrev f_zz3:FuncId:=86
abbrev f_zz24:FuncId:=88
abbrev f_zz14:FuncId:=89
abbrev f_zz33:FuncId:=90
abbrev f_zz12:FuncId:=105
abbrev f_zz17:FuncId:=106
abbrev f_zz20:FuncId:=107
abbrev f_zz34:FuncId:=108
abbrev f_zz50:FuncId:=109
abbrev f_zz7:FuncId:=114
-- loop 0: [2, 4, 73, 74, 75]
-- loop 0: [0, 1, 6, 8, 10, 13, 15, 70, 71, 72, 107, 108, 109, 113, 114, 115]
-- loop 1: [0, 1, 6, 8, 10, 13, 70, 71, 72, 107, 108, 109]
-- loop 2: [0, 1, 6, 8, 70, 71, 72]
abbrev zz1_r0:List AI:=[
 ⟨some 4,.mv true (.c (.bool false)),none⟩]
abbrev zz1_r1:List AI:=[
 ⟨some 20,.mv false (.t 0),none⟩,
 ⟨some 21,.mv false (.t 1),none⟩,
 ⟨some 22,.call (.c (.fn f_zz25)) [(.t 20),(.t 21)] 0,none⟩,
 ⟨some 5,.mv true (.t 22),none⟩]
abbrev zz1_r2:List AI:=[
 ⟨some 23,.mv false (.t 5),none⟩,
 ⟨some 24,.not (.t 23),none⟩]
abbrev zz1_r3:List AI:=[
 ⟨some 25,.call (.c (.fn f_zz11)) [] 0,none⟩,
 ⟨some 4,.mv true (.t 25),none⟩]
abbrev zz1_r4:List AI:=[
 ⟨some 27,.mv false (.t 0),none⟩,
 ⟨some 28,.mv false (.t 1),none⟩,
 ⟨some 29,.call (.c (.fn f_zz48)) [(.t 27),(.t 28)] 0,none⟩,
 ⟨some 26,.mv false (.t 29),none⟩,
 ⟨some 30,.ext (.t 26) 0,none⟩,
 ⟨some 31,.ext (.t 26) 1,none⟩,
 ⟨some 6,.alloc (zr 16 (.int .u8 0) ++ [.nilS,.nilS]),none⟩,
 ⟨none,.store 18 (.t 6) (.t 30) .any,none⟩,
 ⟨some 7,.mv true (.t 31),none⟩]
abbrev zz1_r5:List AI:=[
 ⟨some 32,.mv false (.t 7),none⟩,
 ⟨some 33,.bin .neq (.t 32) (.c (.int .i64 0)),none⟩]
abbrev zz1_r6:List AI:=[
 ⟨some 34,.call (.c (.fn f_zz11)) [] 0,none⟩,
 ⟨some 35,.mv false (.t 34),none⟩,
 ⟨some 36,.faddr 16 (.t 6),some (35,true)⟩,
 ⟨some 37,.load false 1 (.t 36) .any,some (35,true)⟩,
 ⟨some 38,.len false (.t 37),some (35,true)⟩,
 ⟨some 39,.bin .eql (.t 38) (.c (.int .i64 0)),some (35,true)⟩,
 ⟨some 40,.pick (.t 35) (.t 39) (.c (.bool false)),none⟩,
 ⟨some 41,.mv false (.t 40),none⟩,
 ⟨some 42,.faddr 17 (.t 6),some (41,true)⟩,
 ⟨some 43,.load false 1 (.t 42) .any,some (41,true)⟩,
 ⟨some 44,.len false (.t 43),some (41,true)⟩,
 ⟨some 45,.bin .eql (.t 44) (.c (.int .i64 0)),some (41,true)⟩,
 ⟨some 46,.pick (.t 41) (.t 45) (.c (.bool false)),none⟩,
 ⟨some 47,.mv false (.t 46),none⟩,
 ⟨some 48,.faddr 0 (.t 6),some (47,true)⟩,
 ⟨some 49,.load true 16 (.t 48) .any,some (47,true)⟩,
 ⟨some 50,.build (zr 16 (.int .u8 0)) [],some (47,true)⟩,
 ⟨some 51,.eqs false (kr 16 .i) (.t 49) (.t 50),some (47,true)⟩,
 ⟨some 52,.pick (.t 47) (.t 51) (.c (.bool false)),none⟩,
 ⟨some 4,.mv true (.t 52),none⟩]
abbrev zz1_r7:List AI:=[
 ⟨some 53,.faddr 16 (.t 6),none⟩,
 ⟨some 54,.load false 1 (.t 53) .any,none⟩,
 ⟨some 55,.len false (.t 54),none⟩,
 ⟨some 56,.faddr 17 (.t 6),none⟩,
 ⟨some 57,.load false 1 (.t 56) .any,none⟩,
 ⟨some 58,.len false (.t 57),none⟩,
 ⟨some 59,.bin .add (.t 55) (.t 58),none⟩,
 ⟨some 60,.mv false (.t 0),none⟩,
 ⟨some 61,.len false (.t 60),none⟩,
 ⟨some 62,.bin .neq (.t 59) (.t 61),none⟩,
 ⟨some 63,.mv false (.t 62),none⟩,
 ⟨some 64,.mv false (.t 1),some (63,false)⟩,
 ⟨some 65,.len false (.t 64),some (63,false)⟩,
 ⟨some 66,.mv false (.t 0),some (63,false)⟩,
 ⟨some 67,.len false (.t 66),some (63,false)⟩,
 ⟨some 68,.bin .neq (.t 65) (.t 67),some (63,false)⟩,
 ⟨some 69,.pick (.t 63) (.c (.bool true)) (.t 68),none⟩]
abbrev zz1_r8:List AI:=[
 ⟨some 4,.mv true (.c (.bool false)),none⟩]
abbrev zz1_r9:List AI:=[
 ⟨some 8,.mv true (.c .nilS),none⟩]
abbrev zz1_r10:List AI:=[
 ⟨some 70,.mv false (.t 0),none⟩,
 ⟨some 71,.len false (.t 70),none⟩,
 ⟨some 72,.mv false (.c (.int .i64 0)),none⟩]
abbrev zz1_r11:List AI:=[
 ⟨some 73,.bin .lss (.t 72) (.t 71),none⟩]
abbrev zz1_r12:List AI:=[
 ⟨some 74,.mv false (.t 72),none⟩,
 ⟨some 75,.iaddr 3 (.t 70) (.t 72),none⟩,
 ⟨some 76,.load true 3 (.t 75) .any,none⟩,
 ⟨some 10,.alloc [(.int .i64 0),(.int .i64 0),.nilS],none⟩,
 ⟨some 9,.mv true (.t 74),none⟩,
 ⟨none,.store 3 (.t 10) (.t 76) .any,none⟩]
abbrev zz1_r13:List AI:=[
 ⟨some 78,.load true 3 (.t 10) (.site 10),none⟩,
 ⟨some 79,.mv false (.t 1),none⟩,
 ⟨some 80,.mv false (.t 9),none⟩,
 ⟨some 81,.iaddr 1 (.t 79) (.t 80),none⟩,
 ⟨some 82,.load false 1 (.t 81) .foreign,none⟩,
 ⟨some 83,.call (.c (.fn f_zz36)) [(.t 78),(.t 82)] 1,none⟩,
 ⟨some 77,.mv false (.t 83),none⟩,
 ⟨some 84,.ext (.t 77) 0,none⟩,
 ⟨some 85,.ext (.t 77) 1,none⟩,
 ⟨some 11,.mv true (.t 84),none⟩,
 ⟨some 12,.mv true (.t 85),none⟩]
abbrev zz1_r14:List AI:=[
 ⟨some 86,.faddr 16 (.t 6),none⟩,
 ⟨some 87,.load false 1 (.t 86) .any,none⟩,
 ⟨some 88,.faddr 0 (.t 10),none⟩,
 ⟨some 89,.load false 1 (.t 88) .any,none⟩,
 ⟨some 90,.call (.c (.fn f_zz22)) [(.t 87),(.t 89)] 0,none⟩,
 ⟨some 91,.mv false (.t 12),none⟩,
 ⟨some 92,.bin .eql (.t 91) (.c (.int .i64 0)),none⟩,
 ⟨some 93,.eqb true (.t 90) (.t 92),none⟩,
 ⟨some 94,.mv false (.t 93),none⟩,
 ⟨some 95,.faddr 17 (.t 6),some (94,false)⟩,
 ⟨some 96,.load false 1 (.t 95) .any,some (94,false)⟩,
 ⟨some 97,.faddr 0 (.t 10),some (94,false)⟩,
 ⟨some 98,.load false 1 (.t 97) .any,some (94,false)⟩,
 ⟨some 99,.call (.c (.fn f_zz22)) [(.t 96),(.t 98)] 0,some (94,false)⟩,
 ⟨some 100,.mv false (.t 12),some (94,false)⟩,
 ⟨some 101,.bin .eql (.t 100) (.c (.int .i64 23)),some (94,false)⟩,
 ⟨some 102,.eqb true (.t 99) (.t 101),some (94,false)⟩,
 ⟨some 103,.pick (.t 94) (.c (.bool true)) (.t 102),none⟩]
abbrev zz1_r15:List AI:=[
 ⟨some 4,.mv true (.c (.bool false)),none⟩]
abbrev zz1_r16:List AI:=[
 ⟨some 13,.mv true (.c .nilS),none⟩]
abbrev zz1_r17:List AI:=[
 ⟨some 104,.mv false (.t 1),none⟩,
 ⟨some 105,.mv false (.t 9),none⟩,
 ⟨some 106,.iaddr 1 (.t 104) (.t 105),none⟩,
 ⟨some 107,.load false 1 (.t 106) .any,none⟩,
 ⟨some 108,.len false (.t 107),none⟩,
 ⟨some 109,.mv false (.c (.int .i64 0)),none⟩]
abbrev zz1_r18:List AI:=[
 ⟨some 110,.bin .lss (.t 109) (.t 108),none⟩]
abbrev zz1_r19:List AI:=[
 ⟨some 111,.iaddr 2 (.t 107) (.t 109),none⟩,
 ⟨some 112,.load true 2 (.t 111) .any,none⟩,
 ⟨some 15,.alloc [(.int .i64 0),(.int .i64 0)],none⟩,
 ⟨none,.store 2 (.t 15) (.t 112) .any,none⟩]
abbrev zz1_r20:List AI:=[
 ⟨some 113,.mv false (.t 13),none⟩,
 ⟨some 114,.len false (.t 113),none⟩,
 ⟨some 115,.mv false (.c (.int .i64 0)),none⟩]
abbrev zz1_r21:List AI:=[
 ⟨some 116,.bin .lss (.t 115) (.t 114),none⟩]
abbrev zz1_r22:List AI:=[
 ⟨some 117,.iaddr 2 (.t 113) (.t 115),none⟩,
 ⟨some 118,.load true 2 (.t 117) .any,none⟩,
 ⟨some 17,.alloc [(.int .i64 0),(.int .i64 0)],none⟩,
 ⟨none,.store 2 (.t 17) (.t 118) .any,none⟩]
abbrev zz1_r23:List AI:=[
 ⟨some 119,.faddr 0 (.t 15),none⟩,
 ⟨some 120,.load false 1 (.t 119) .any,none⟩,
 ⟨some 121,.faddr 0 (.t 17),none⟩,
 ⟨some 122,.load false 1 (.t 121) .any,none⟩,
 ⟨some 123,.bin .eql (.t 120) (.t 122),none⟩,
 ⟨some 124,.mv false (.t 123),none⟩,
 ⟨some 125,.load true 3 (.t 10) .any,some (124,true)⟩,
 ⟨some 126,.load true 2 (.t 15) .any,some (124,true)⟩,
 ⟨some 127,.call (.c (.fn f_zz49)) [(.t 125),(.t 126)] 0,some (124,true)⟩,
 ⟨some 128,.pick (.t 124) (.t 127) (.c (.bool false)),none⟩,
 ⟨some 129,.mv false (.t 128),none⟩,
 ⟨some 130,.load true 3 (.t 10) .any,some (129,true)⟩,
 ⟨some 131,.load true 2 (.t 17) .any,some (129,true)⟩,
 ⟨some 132,.call (.c (.fn f_zz49)) [(.t 130),(.t 131)] 0,some (129,true)⟩,
 ⟨some 133,.pick (.t 129) (.t 132) (.c (.bool false)),none⟩]
abbrev zz1_r24:List AI:=[
 ⟨some 134,.call (.c (.fn f_zz11)) [] 0,none⟩,
 ⟨some 4,.mv true (.t 134),none⟩]
abbrev zz1_r25:List AI:=[
 ⟨some 135,.bin .add (.t 115) (.c (.int .i64 1)),none⟩,
 ⟨some 115,.mv false (.t 135),none⟩]
abbrev zz1_l0:ACode:=.seq (.reg false zz1_r21) (.seq (.cond (.t 116) (.skip) (.exit 4)) (.seq (.block 5 (.seq (.reg false zz1_r22) (.seq (.reg false zz1_r23) (.cond (.t 133) (.seq (.reg false zz1_r24) (.ret)) (.skip))))) (.reg false zz1_r25)))
abbrev zz1_r26:List AI:=[
 ⟨some 136,.load true 2 (.t 15) .any,none⟩,
 ⟨some 137,.mkslice 2 1 (.agg [(.int .i64 0),(.int .i64 0)]) [(0,(.t 136))],none⟩,
 ⟨some 138,.mv false (.t 13),none⟩,
 ⟨some 139,.append 2 16 (.t 137) (.t 138),none⟩,
 ⟨some 13,.mv true (.t 139),none⟩]
abbrev zz1_r27:List AI:=[
 ⟨some 140,.bin .add (.t 109) (.c (.int .i64 1)),none⟩,
 ⟨some 109,.mv false (.t 140),none⟩]
abbrev zz1_l1:ACode:=.seq (.reg false zz1_r18) (.seq (.cond (.t 110) (.skip) (.exit 2)) (.seq (.block 3 (.seq (.reg false zz1_r19) (.seq (.seq (.reg false zz1_r20) (.block 4 (.loop zz1_l0))) (.reg false zz1_r26)))) (.reg false zz1_r27)))
abbrev zz1_r28:List AI:=[
 ⟨some 141,.mv true (.t 8),none⟩,
 ⟨some 142,.mv false (.t 13),none⟩,
 ⟨some 143,.mkslice 1 1 .nilS [(0,(.t 142))],none⟩,
 ⟨some 144,.append 1 24 (.t 141) (.t 143),none⟩,
 ⟨some 8,.mv true (.t 144),none⟩]
abbrev zz1_r29:List AI:=[
 ⟨some 145,.bin .add (.t 72) (.c (.int .i64 1)),none⟩,
 ⟨some 72,.mv false (.t 145),none⟩]
abbrev zz1_l2:ACode:=.seq (.reg false zz1_r11) (.seq (.cond (.t 73) (.skip) (.exit 0)) (.seq (.block 1 (.seq (.reg false zz1_r12) (.seq (.reg true zz1_r13) (.seq (.seq (.reg false zz1_r14) (.cond (.t 103) (.seq (.reg false zz1_r15) (.ret)) (.skip))) (.seq (.reg false zz1_r16) (.seq (.seq (.reg false zz1_r17) (.block 2 (.loop zz1_l1))) (.reg false zz1_r28))))))) (.reg false zz1_r29)))
abbrev zz1_r30:List AI:=[
 ⟨some 147,.mv false (.t 0),none⟩,
 ⟨some 148,.mv false (.t 8),none⟩,
 ⟨some 149,.call (.c (.fn f_zz48)) [(.t 147),(.t 148)] 0,none⟩,
 ⟨some 146,.mv false (.t 149),none⟩,
 ⟨some 150,.ext (.t 146) 0,none⟩,
 ⟨some 151,.ext (.t 146) 1,none⟩,
 ⟨some 18,.alloc (zr 16 (.int .u8 0) ++ [.nilS,.nilS]),none⟩,
 ⟨none,.store 18 (.t 18) (.t 150) .any,none⟩,
 ⟨some 19,.mv true (.t 151),none⟩]
abbrev zz1_r31:List AI:=[
 ⟨some 152,.call (.c (.fn f_zz11)) [] 0,none⟩,
 ⟨some 153,.mv false (.t 152),none⟩,
 ⟨some 154,.mv false (.t 19),some (153,true)⟩,
 ⟨some 155,.bin .eql (.t 154) (.c (.int .i64 0)),some (153,true)⟩,
 ⟨some 156,.pick (.t 153) (.t 155) (.c (.bool false)),none⟩,
 ⟨some 157,.mv false (.t 156),none⟩,
 ⟨some 158,.faddr 0 (.t 18),some (157,true)⟩,
 ⟨some 159,.load true 16 (.t 158) .any,some (157,true)⟩,
 ⟨some 160,.faddr 0 (.t 6),some (157,true)⟩,
 ⟨some 161,.load true 16 (.t 160) .any,some (157,true)⟩,
 ⟨some 162,.eqs false (kr 16 .i) (.t 159) (.t 161),some (157,true)⟩,
 ⟨some 163,.pick (.t 157) (.t 162) (.c (.bool false)),none⟩,
 ⟨some 164,.mv false (.t 163),none⟩,
 ⟨some 165,.faddr 16 (.t 18),some (164,true)⟩,
 ⟨some 166,.load false 1 (.t 165) .any,some (164,true)⟩,
 ⟨some 167,.faddr 16 (.t 6),some (164,true)⟩,
 ⟨some 168,.load false 1 (.t 167) .any,some (164,true)⟩,
 ⟨some 169,.call (.c (.fn f_zz8)) [(.t 166),(.t 168)] 0,some (164,true)⟩,
 ⟨some 170,.pick (.t 164) (.t 169) (.c (.bool false)),none⟩,
 ⟨some 171,.mv false (.t 170),none⟩,
 ⟨some 172,.faddr 17 (.t 18),some (171,true)⟩,
 ⟨some 173,.load false 1 (.t 172) .any,some (171,true)⟩,
 ⟨some 174,.faddr 17 (.t 6),some (171,true)⟩,
 ⟨some 175,.load false 1 (.t 174) .any,some (171,true)⟩,
 ⟨some 176,.call (.c (.fn f_zz8)) [(.t 173),(.t 175)] 0,some (171,true)⟩,
 ⟨some 177,.pick (.t 171) (.t 176) (.c (.bool false)),none⟩,
 ⟨some 4,.mv true (.t 177),none⟩]
abbrev zz1_c:ACode:=.seq (.reg false zz1_r0) (.seq (.reg false zz1_r1) (.seq (.seq (.reg false zz1_r2) (.cond (.t 24) (.seq (.reg false zz1_r3) (.ret)) (.skip))) (.seq (.reg false zz1_r4) (.seq (.seq (.reg false zz1_r5) (.cond (.t 33) (.seq (.reg false zz1_r6) (.ret)) (.skip))) (.seq (.seq (.reg false zz1_r7) (.cond (.t 69) (.seq (.reg false zz1_r8) (.ret)) (.skip))) (.seq (.reg false zz1_r9) (.seq (.seq (.reg false zz1_r10) (.block 0 (.loop zz1_l2))) (.seq (.reg false zz1_r30) (.seq (.reg false zz1_r31) (.ret))))))))))
def zz1_F:AFunc:=⟨178,[.tmp 4],zz1_c⟩
theorem zz1_cp:compile Tryd.prog [] f_zz1=some zz1_F:=by kernel_rfl
-- loop 0: [1, 2, 7, 8, 10, 13, 14, 15, 16, 17, 160, 161, 162]
abbrev zz11_r0:List AI:=[
 ⟨some 0,.mv true (.c (.bool false)),none⟩]
abbrev zz11_r1:List AI:=[
 ⟨some 26,.call (.c (.fn f_zz47)) [(.c (.int .i64 1)),(.c (.int .i64 5)),(.c (.int .i64 1)),(.c (.int .i64 2))] 0,none⟩,
 ⟨some 25,.mv false (.t 26),none⟩,
 ⟨some 27,.ext (.t 25) 0,none⟩,
 ⟨some 28,.ext (.t 25) 1,none⟩,
 ⟨some 29,.ext (.t 25) 2,none⟩,
 ⟨some 2,.alloc [(.int .i64 0),(.int .i64 0),.nilS],none⟩,
 ⟨some 1,.mv true (.t 27),none⟩,
 ⟨none,.store 3 (.t 2) (.t 28) .any,none⟩,
 ⟨some 3,.mv true (.t 29),none⟩]
abbrev zz11_r2:List AI:=[
 ⟨some 31,.call (.c (.fn f_zz47)) [(.c (.int .i64 2)),(.c (.int .i64 7)),(.c (.int .i64 2)),(.c (.int .i64 3))] 0,none⟩,
 ⟨some 30,.mv false (.t 31),none⟩,
 ⟨some 32,.ext (.t 30) 0,none⟩,
 ⟨some 33,.ext (.t 30) 1,none⟩,
 ⟨some 34,.ext (.t 30) 2,none⟩,
 ⟨some 5,.alloc [(.int .i64 0),(.int .i64 0),.nilS],none⟩,
 ⟨some 4,.mv true (.t 32),none⟩,
 ⟨none,.store 3 (.t 5) (.t 33) .any,none⟩,
 ⟨some 6,.mv true (.t 34),none⟩]
abbrev zz11_r3:List AI:=[
 ⟨some 35,.mv false (.t 3),none⟩,
 ⟨some 36,.bin .neq (.t 35) (.c (.int .i64 0)),none⟩,
 ⟨some 37,.mv false (.t 36),none⟩,
 ⟨some 38,.mv false (.t 6),some (37,false)⟩,
 ⟨some 39,.bin .neq (.t 38) (.c (.int .i64 0)),some (37,false)⟩,
 ⟨some 40,.pick (.t 37) (.c (.bool true)) (.t 39),none⟩,
 ⟨some 41,.mv false (.t 40),none⟩,
 ⟨some 42,.mv false (.t 1),some (41,false)⟩,
 ⟨some 43,.len false (.t 42),some (41,false)⟩,
 ⟨some 44,.bin .neq (.t 43) (.c (.int .i64 2)),some (41,false)⟩,
 ⟨some 45,.pick (.t 41) (.c (.bool true)) (.t 44),none⟩,
 ⟨some 46,.mv false (.t 45),none⟩,
 ⟨some 47,.mv false (.t 4),some (46,false)⟩,
 ⟨some 48,.len false (.t 47),some (46,false)⟩,
 ⟨some 49,.bin .neq (.t 48) (.c (.int .i64 3)),some (46,false)⟩,
 ⟨some 50,.pick (.t 46) (.c (.bool true)) (.t 49),none⟩,
 ⟨some 51,.mv false (.t 50),none⟩,
 ⟨some 52,.faddr 2 (.t 2),some (51,false)⟩,
 ⟨some 53,.load false 1 (.t 52) .any,some (51,false)⟩,
 ⟨some 54,.len false (.t 53),some (51,false)⟩,
 ⟨some 55,.bin .neq (.t 54) (.c (.int .i64 2)),some (51,false)⟩,
 ⟨some 56,.pick (.t 51) (.c (.bool true)) (.t 55),none⟩,
 ⟨some 57,.mv false (.t 56),none⟩,
 ⟨some 58,.faddr 2 (.t 5),some (57,false)⟩,
 ⟨some 59,.load false 1 (.t 58) .any,some (57,false)⟩,
 ⟨some 60,.len false (.t 59),some (57,false)⟩,
 ⟨some 61,.bin .neq (.t 60) (.c (.int .i64 3)),some (57,false)⟩,
 ⟨some 62,.pick (.t 57) (.c (.bool true)) (.t 61),none⟩]
abbrev zz11_r4:List AI:=[
 ⟨some 0,.mv true (.c (.bool false)),none⟩]
abbrev zz11_r5:List AI:=[
 ⟨some 64,.load true 3 (.t 2) .any,none⟩,
 ⟨some 65,.build [(.int .i64 0),(.int .i64 0)] [(0,1,(.c (.int .i64 2))),(1,1,(.c (.int .i64 5)))],none⟩,
 ⟨some 66,.mkslice 2 1 (.agg [(.int .i64 0),(.int .i64 0)]) [(0,(.t 65))],none⟩,
 ⟨some 67,.call (.c (.fn f_zz36)) [(.t 64),(.t 66)] 0,none⟩,
 ⟨some 63,.mv false (.t 67),none⟩,
 ⟨some 68,.ext (.t 63) 0,none⟩,
 ⟨some 69,.ext (.t 63) 1,none⟩,
 ⟨some 7,.mv true (.t 68),none⟩,
 ⟨some 8,.mv true (.t 69),none⟩]
abbrev zz11_r6:List AI:=[
 ⟨some 71,.load true 3 (.t 2) .any,none⟩,
 ⟨some 72,.build [(.int .i64 0),(.int .i64 0)] [(0,1,(.c (.int .i64 2))),(1,1,(.c (.int .i64 6)))],none⟩,
 ⟨some 73,.mkslice 2 1 (.agg [(.int .i64 0),(.int .i64 0)]) [(0,(.t 72))],none⟩,
 ⟨some 74,.call (.c (.fn f_zz36)) [(.t 71),(.t 73)] 0,none⟩,
 ⟨some 70,.mv false (.t 74),none⟩,
 ⟨some 75,.ext (.t 70) 0,none⟩,
 ⟨some 76,.ext (.t 70) 1,none⟩,
 ⟨some 9,.mv true (.t 75),none⟩,
 ⟨some 10,.mv true (.t 76),none⟩]
abbrev zz11_r7:List AI:=[
 ⟨some 77,.build (zr 16 (.int .u8 0)) [(0,1,(.c (.int .u8 1)))],none⟩,
 ⟨some 78,.faddr 2 (.t 2),none⟩,
 ⟨some 79,.load false 1 (.t 78) .any,none⟩,
 ⟨some 80,.iaddr 16 (.t 79) (.c (.int .i64 1)),none⟩,
 ⟨some 81,.load true 16 (.t 80) .any,none⟩,
 ⟨some 82,.mkslice 16 2 (.agg (zr 16 (.int .u8 0))) [(0,(.t 77)),(1,(.t 81))],none⟩,
 ⟨some 83,.build [(.int .i64 0),(.int .i64 0),.nilS] [(0,1,(.c (.int .i64 1))),(1,1,(.c (.int .i64 1))),(2,1,(.t 82))],none⟩,
 ⟨some 11,.alloc [(.int .i64 0),(.int .i64 0),.nilS],none⟩,
 ⟨none,.store 3 (.t 11) (.t 83) .any,none⟩]
abbrev zz11_r8:List AI:=[
 ⟨some 85,.load true 3 (.t 11) .any,none⟩,
 ⟨some 86,.build [(.int .i64 0),(.int .i64 0)] [(0,1,(.c (.int .i64 2))),(1,1,(.c (.int .i64 5)))],none⟩,
 ⟨some 87,.mkslice 2 1 (.agg [(.int .i64 0),(.int .i64 0)]) [(0,(.t 86))],none⟩,
 ⟨some 88,.call (.c (.fn f_zz36)) [(.t 85),(.t 87)] 0,none⟩,
 ⟨some 84,.mv false (.t 88),none⟩,
 ⟨some 89,.ext (.t 84) 0,none⟩,
 ⟨some 90,.ext (.t 84) 1,none⟩,
 ⟨some 12,.mv true (.t 89),none⟩,
 ⟨some 13,.mv true (.t 90),none⟩]
abbrev zz11_r9:List AI:=[
 ⟨some 92,.load true 3 (.t 5) (.site 5),none⟩,
 ⟨some 93,.mv false (.t 4),none⟩,
 ⟨some 94,.iaddr 1 (.t 93) (.c (.int .i64 2)),none⟩,
 ⟨some 95,.load false 1 (.t 94) .foreign,none⟩,
 ⟨some 96,.build [(.int .i64 0),(.int .i64 0)] [(0,1,(.c (.int .i64 3))),(1,1,(.t 95))],none⟩,
 ⟨some 97,.mv false (.t 4),none⟩,
 ⟨some 98,.iaddr 1 (.t 97) (.c (.int .i64 0)),none⟩,
 ⟨some 99,.load false 1 (.t 98) .foreign,none⟩,
 ⟨some 100,.build [(.int .i64 0),(.int .i64 0)] [(0,1,(.c (.int .i64 1))),(1,1,(.t 99))],none⟩,
 ⟨some 101,.mkslice 2 2 (.agg [(.int .i64 0),(.int .i64 0)]) [(0,(.t 96)),(1,(.t 100))],none⟩,
 ⟨some 102,.call (.c (.fn f_zz36)) [(.t 92),(.t 101)] 1,none⟩,
 ⟨some 91,.mv false (.t 102),none⟩,
 ⟨some 103,.ext (.t 91) 0,none⟩,
 ⟨some 104,.ext (.t 91) 1,none⟩,
 ⟨some 14,.mv true (.t 103),none⟩,
 ⟨some 15,.mv true (.t 104),none⟩]
abbrev zz11_r10:List AI:=[
 ⟨some 106,.load true 3 (.t 2) (.site 2),none⟩,
 ⟨some 107,.load true 3 (.t 5) (.site 5),none⟩,
 ⟨some 108,.mkslice 3 2 (.agg [(.int .i64 0),(.int .i64 0),.nilS]) [(0,(.t 106)),(1,(.t 107))],none⟩,
 ⟨some 109,.build [(.int .i64 0),(.int .i64 0)] [(0,1,(.c (.int .i64 1))),(1,1,(.c (.int .i64 5)))],none⟩,
 ⟨some 110,.mkslice 2 1 (.agg [(.int .i64 0),(.int .i64 0)]) [(0,(.t 109))],none⟩,
 ⟨some 111,.mv false (.t 4),none⟩,
 ⟨some 112,.iaddr 1 (.t 111) (.c (.int .i64 0)),none⟩,
 ⟨some 113,.load false 1 (.t 112) .foreign,none⟩,
 ⟨some 114,.build [(.int .i64 0),(.int .i64 0)] [(0,1,(.c (.int .i64 1))),(1,1,(.t 113))],none⟩,
 ⟨some 115,.mv false (.t 4),none⟩,
 ⟨some 116,.iaddr 1 (.t 115) (.c (.int .i64 1)),none⟩,
 ⟨some 117,.load false 1 (.t 116) .foreign,none⟩,
 ⟨some 118,.build [(.int .i64 0),(.int .i64 0)] [(0,1,(.c (.int .i64 2))),(1,1,(.t 117))],none⟩,
 ⟨some 119,.mkslice 2 2 (.agg [(.int .i64 0),(.int .i64 0)]) [(0,(.t 114)),(1,(.t 118))],none⟩,
 ⟨some 120,.mkslice 1 2 .nilS [(0,(.t 110)),(1,(.t 119))],none⟩,
 ⟨some 16,.alloc (zr 16 (.int .u8 0) ++ [.nilS,.nilS]),none⟩,
 ⟨some 121,.call (.c (.fn f_zz48)) [(.t 108),(.t 120)] 1,none⟩,
 ⟨some 105,.mv false (.t 121),none⟩,
 ⟨some 122,.ext (.t 105) 0,none⟩,
 ⟨some 123,.ext (.t 105) 1,none⟩,
 ⟨none,.store 18 (.t 16) (.t 122) (.site 16),none⟩,
 ⟨some 17,.mv true (.t 123),none⟩]
abbrev zz11_r11:List AI:=[
 ⟨some 125,.faddr 0 (.t 16),none⟩,
 ⟨some 126,.load true 16 (.t 125) .any,none⟩,
 ⟨some 127,.call (.c (.fn f_zz30)) [(.t 126),(.c (.int .i64 4)),(.c (.int .i64 4))] 0,none⟩,
 ⟨some 124,.mv false (.t 127),none⟩,
 ⟨some 128,.ext (.t 124) 0,none⟩,
 ⟨some 129,.ext (.t 124) 1,none⟩,
 ⟨some 18,.mv true (.t 128),none⟩,
 ⟨some 19,.mv true (.t 129),none⟩]
abbrev zz11_r12:List AI:=[
 ⟨some 131,.faddr 0 (.t 16),none⟩,
 ⟨some 132,.load true 16 (.t 131) .any,none⟩,
 ⟨some 133,.call (.c (.fn f_zz30)) [(.t 132),(.c (.int .i64 4)),(.c (.int .i64 5))] 0,none⟩,
 ⟨some 130,.mv false (.t 133),none⟩,
 ⟨some 134,.ext (.t 130) 0,none⟩,
 ⟨some 135,.ext (.t 130) 1,none⟩,
 ⟨some 20,.mv true (.t 134),none⟩,
 ⟨some 21,.mv true (.t 135),none⟩]
abbrev zz11_r13:List AI:=[
 ⟨some 136,.faddr 16 (.t 16),none⟩,
 ⟨some 137,.load false 1 (.t 136) (.site 16),none⟩,
 ⟨some 138,.len false (.t 137),none⟩,
 ⟨some 139,.bin .neq (.t 138) (.c (.int .i64 2)),none⟩,
 ⟨some 140,.mv false (.t 139),none⟩,
 ⟨some 141,.mv false (.t 18),some (140,false)⟩,
 ⟨some 142,.len false (.t 141),some (140,false)⟩,
 ⟨some 143,.bin .neq (.t 142) (.c (.int .i64 4)),some (140,false)⟩,
 ⟨some 144,.pick (.t 140) (.c (.bool true)) (.t 143),none⟩,
 ⟨some 145,.mv false (.t 144),none⟩,
 ⟨some 146,.mv false (.t 19),some (145,false)⟩,
 ⟨some 147,.bin .neq (.t 146) (.c (.int .i64 0)),some (145,false)⟩,
 ⟨some 148,.pick (.t 145) (.c (.bool true)) (.t 147),none⟩,
 ⟨some 149,.mv false (.t 148),none⟩,
 ⟨some 150,.mv false (.t 21),some (149,false)⟩,
 ⟨some 151,.bin .neq (.t 150) (.c (.int .i64 3)),some (149,false)⟩,
 ⟨some 152,.pick (.t 149) (.c (.bool true)) (.t 151),none⟩,
 ⟨some 153,.mv false (.t 152),none⟩,
 ⟨some 154,.faddr 0 (.t 16),some (153,false)⟩,
 ⟨some 155,.load true 16 (.t 154) (.site 16),some (153,false)⟩,
 ⟨some 156,.mkslice 1 4 (.int .i64 0) [(0,(.c (.int .i64 1))),(1,(.c (.int .i64 5))),(2,(.c (.int .i64 2))),(3,(.c (.int .i64 7)))],some (153,false)⟩,
 ⟨some 157,.call (.c (.fn f_zz26)) [(.t 156)] 2,some (153,false)⟩,
 ⟨some 158,.eqs true (kr 16 .i) (.t 155) (.t 157),some (153,false)⟩,
 ⟨some 159,.pick (.t 153) (.c (.bool true)) (.t 158),none⟩]
abbrev zz11_r14:List AI:=[
 ⟨some 0,.mv true (.c (.bool false)),none⟩]
abbrev zz11_r15:List AI:=[
 ⟨some 160,.mv false (.t 18),none⟩,
 ⟨some 161,.len false (.t 160),none⟩,
 ⟨some 162,.mv false (.c (.int .i64 0)),none⟩]
abbrev zz11_r16:List AI:=[
 ⟨some 163,.bin .lss (.t 162) (.t 161),none⟩]
abbrev zz11_r17:List AI:=[
 ⟨some 164,.mv false (.t 162),none⟩,
 ⟨some 165,.iaddr 2 (.t 160) (.t 162),none⟩,
 ⟨some 166,.load true 2 (.t 165) .any,none⟩,
 ⟨some 23,.alloc [(.int .i64 0),(.int .i64 0)],none⟩,
 ⟨some 22,.mv true (.t 164),none⟩,
 ⟨none,.store 2 (.t 23) (.t 166) .any,none⟩]
abbrev zz11_r18:List AI:=[
 ⟨some 167,.faddr 0 (.t 23),none⟩,
 ⟨some 168,.load false 1 (.t 167) .any,none⟩,
 ⟨some 169,.mv false (.t 22),none⟩,
 ⟨some 170,.bin .neq (.t 168) (.t 169),none⟩,
 ⟨some 171,.mv false (.t 170),none⟩,
 ⟨some 172,.faddr 1 (.t 23),some (171,false)⟩,
 ⟨some 173,.load false 1 (.t 172) .any,some (171,false)⟩,
 ⟨some 174,.bin .lss (.t 173) (.c (.int .i64 1)),some (171,false)⟩,
 ⟨some 175,.pick (.t 171) (.c (.bool true)) (.t 174),none⟩,
 ⟨some 176,.mv false (.t 175),none⟩,
 ⟨some 177,.faddr 1 (.t 23),some (176,false)⟩,
 ⟨some 178,.load false 1 (.t 177) .any,some (176,false)⟩,
 ⟨some 179,.bin .geq (.t 178) (.c (.int .i64 2147483647)),some (176,false)⟩,
 ⟨some 180,.pick (.t 176) (.c (.bool true)) (.t 179),none⟩]
abbrev zz11_r19:List AI:=[
 ⟨some 0,.mv true (.c (.bool false)),none⟩]
abbrev zz11_r20:List AI:=[
 ⟨some 181,.bin .add (.t 162) (.c (.int .i64 1)),none⟩,
 ⟨some 162,.mv false (.t 181),none⟩]
abbrev zz11_l0:ACode:=.seq (.reg false zz11_r16) (.seq (.cond (.t 163) (.skip) (.exit 0)) (.seq (.block 1 (.seq (.reg false zz11_r17) (.seq (.reg false zz11_r18) (.cond (.t 180) (.seq (.reg false zz11_r19) (.ret)) (.skip))))) (.reg false zz11_r20)))
abbrev zz11_r21:List AI:=[
 ⟨some 182,.mv false (.t 1),none⟩,
 ⟨some 183,.iaddr 1 (.t 182) (.c (.int .i64 0)),none⟩,
 ⟨some 184,.load false 1 (.t 183) .any,none⟩,
 ⟨some 185,.bin .eql (.t 184) (.c (.int .i64 5)),none⟩,
 ⟨some 186,.mv false (.t 185),none⟩,
 ⟨some 187,.mv false (.t 1),some (186,true)⟩,
 ⟨some 188,.iaddr 1 (.t 187) (.c (.int .i64 1)),some (186,true)⟩,
 ⟨some 189,.load false 1 (.t 188) .any,some (186,true)⟩,
 ⟨some 190,.bin .eql (.t 189) (.c (.int .i64 5)),some (186,true)⟩,
 ⟨some 191,.pick (.t 186) (.t 190) (.c (.bool false)),none⟩,
 ⟨some 192,.mv false (.t 191),none⟩,
 ⟨some 193,.mv false (.t 7),some (192,true)⟩,
 ⟨some 194,.bin .eql (.t 193) (.c (.int .i64 5)),some (192,true)⟩,
 ⟨some 195,.pick (.t 192) (.t 194) (.c (.bool false)),none⟩,
 ⟨some 196,.mv false (.t 195),none⟩,
 ⟨some 197,.mv false (.t 8),some (196,true)⟩,
 ⟨some 198,.bin .eql (.t 197) (.c (.int .i64 0)),some (196,true)⟩,
 ⟨some 199,.pick (.t 196) (.t 198) (.c (.bool false)),none⟩,
 ⟨some 200,.mv false (.t 199),none⟩,
 ⟨some 201,.mv false (.t 10),some (200,true)⟩,
 ⟨some 202,.bin .eql (.t 201) (.c (.int .i64 8)),some (200,true)⟩,
 ⟨some 203,.pick (.t 200) (.t 202) (.c (.bool false)),none⟩,
 ⟨some 204,.mv false (.t 203),none⟩,
 ⟨some 205,.mv false (.t 13),some (204,true)⟩,
 ⟨some 206,.bin .eql (.t 205) (.c (.int .i64 23)),some (204,true)⟩,
 ⟨some 207,.pick (.t 204) (.t 206) (.c (.bool false)),none⟩,
 ⟨some 208,.mv false (.t 207),none⟩,
 ⟨some 209,.mv false (.t 14),some (208,true)⟩,
 ⟨some 210,.bin .eql (.t 209) (.c (.int .i64 7)),some (208,true)⟩,
 ⟨some 211,.pick (.t 208) (.t 210) (.c (.bool false)),none⟩,
 ⟨some 212,.mv false (.t 211),none⟩,
 ⟨some 213,.mv false (.t 15),some (212,true)⟩,
 ⟨some 214,.bin .eql (.t 213) (.c (.int .i64 0)),some (212,true)⟩,
 ⟨some 215,.pick (.t 212) (.t 214) (.c (.bool false)),none⟩,
 ⟨some 24,.mv true (.t 215),none⟩]
abbrev zz11_r22:List AI:=[
 ⟨some 216,.mv false (.t 24),none⟩,
 ⟨some 217,.mv false (.t 216),none⟩,
 ⟨some 218,.mv false (.t 17),some (217,true)⟩,
 ⟨some 219,.bin .eql (.t 218) (.c (.int .i64 0)),some (217,true)⟩,
 ⟨some 220,.pick (.t 217) (.t 219) (.c (.bool false)),none⟩,
 ⟨some 221,.mv false (.t 220),none⟩,
 ⟨some 222,.faddr 17 (.t 16),some (221,true)⟩,
 ⟨some 223,.load false 1 (.t 222) .any,some (221,true)⟩,
 ⟨some 224,.len false (.t 223),some (221,true)⟩,
 ⟨some 225,.bin .eql (.t 224) (.c (.int .i64 0)),some (221,true)⟩,
 ⟨some 226,.pick (.t 221) (.t 225) (.c (.bool false)),none⟩,
 ⟨some 227,.mv false (.t 226),none⟩,
 ⟨some 228,.faddr 16 (.t 16),some (227,true)⟩,
 ⟨some 229,.load false 1 (.t 228) .any,some (227,true)⟩,
 ⟨some 230,.iaddr 1 (.t 229) (.c (.int .i64 0)),some (227,true)⟩,
 ⟨some 231,.load false 1 (.t 230) .any,some (227,true)⟩,
 ⟨some 232,.bin .eql (.t 231) (.c (.int .i64 1)),some (227,true)⟩,
 ⟨some 233,.pick (.t 227) (.t 232) (.c (.bool false)),none⟩,
 ⟨some 234,.mv false (.t 233),none⟩,
 ⟨some 235,.faddr 16 (.t 16),some (234,true)⟩,
 ⟨some 236,.load false 1 (.t 235) .any,some (234,true)⟩,
 ⟨some 237,.iaddr 1 (.t 236) (.c (.int .i64 1)),some (234,true)⟩,
 ⟨some 238,.load false 1 (.t 237) .any,some (234,true)⟩,
 ⟨some 239,.bin .eql (.t 238) (.c (.int .i64 2)),some (234,true)⟩,
 ⟨some 240,.pick (.t 234) (.t 239) (.c (.bool false)),none⟩,
 ⟨some 241,.mv false (.t 240),none⟩,
 ⟨some 242,.load true 3 (.t 2) .any,some (241,true)⟩,
 ⟨some 243,.call (.c (.fn f_zz42)) [(.t 242)] 0,some (241,true)⟩,
 ⟨some 244,.pick (.t 241) (.t 243) (.c (.bool false)),none⟩,
 ⟨some 245,.mv false (.t 244),none⟩,
 ⟨some 246,.load true 3 (.t 2) .any,some (245,true)⟩,
 ⟨some 247,.build [(.int .i64 0),(.int .i64 0)] [(0,1,(.c (.int .i64 2))),(1,1,(.c (.int .i64 5)))],some (245,true)⟩,
 ⟨some 248,.call (.c (.fn f_zz49)) [(.t 246),(.t 247)] 0,some (245,true)⟩,
 ⟨some 249,.pick (.t 245) (.t 248) (.c (.bool false)),none⟩,
 ⟨some 0,.mv true (.t 249),none⟩]
abbrev zz11_c:ACode:=.seq (.reg false zz11_r0) (.seq (.reg false zz11_r1) (.seq (.reg false zz11_r2) (.seq (.seq (.reg false zz11_r3) (.cond (.t 62) (.seq (.reg false zz11_r4) (.ret)) (.skip))) (.seq (.reg false zz11_r5) (.seq (.reg false zz11_r6) (.seq (.reg false zz11_r7) (.seq (.reg false zz11_r8) (.seq (.reg true zz11_r9) (.seq (.reg true zz11_r10) (.seq (.reg false zz11_r11) (.seq (.reg false zz11_r12) (.seq (.seq (.reg true zz11_r13) (.cond (.t 159) (.seq (.reg false zz11_r14) (.ret)) (.skip))) (.seq (.seq (.reg false zz11_r15) (.block 0 (.loop zz11_l0))) (.seq (.reg false zz11_r21) (.seq (.reg false zz11_r22) (.ret))))))))))))))))
def zz11_F:AFunc:=⟨250,[.tmp 0],zz11_c⟩
theorem zz11_cp:compile Tryd.prog [] f_zz11=some zz11_F:=by kernel_rfl
-- loop 0: [0, 3, 9, 11, 12, 13, 14]
abbrev zz47_r0:List AI:=[
 ⟨some 8,.mv true (.c .nilS),none⟩,
 ⟨some 9,.alloc [(.int .i64 0),(.int .i64 0),.nilS],none⟩,
 ⟨some 10,.mv true (.c (.int .i64 0)),none⟩]
abbrev zz47_r1:List AI:=[
 ⟨some 15,.mv false (.t 0),none⟩,
 ⟨some 16,.call (.c (.fn f_zz37)) [(.t 15)] 0,none⟩,
 ⟨some 17,.not (.t 16),none⟩,
 ⟨some 18,.mv false (.t 17),none⟩,
 ⟨some 19,.mv false (.t 1),some (18,false)⟩,
 ⟨some 20,.call (.c (.fn f_zz31)) [(.t 19)] 0,some (18,false)⟩,
 ⟨some 21,.not (.t 20),some (18,false)⟩,
 ⟨some 22,.pick (.t 18) (.c (.bool true)) (.t 21),none⟩,
 ⟨some 23,.mv false (.t 22),none⟩,
 ⟨some 24,.mv false (.t 3),some (23,false)⟩,
 ⟨some 25,.bin .lss (.t 24) (.c (.int .i64 1)),some (23,false)⟩,
 ⟨some 26,.pick (.t 23) (.c (.bool true)) (.t 25),none⟩,
 ⟨some 27,.mv false (.t 26),none⟩,
 ⟨some 28,.mv false (.t 3),some (27,false)⟩,
 ⟨some 29,.bin .gtr (.t 28) (.c (.int .i64 12)),some (27,false)⟩,
 ⟨some 30,.pick (.t 27) (.c (.bool true)) (.t 29),none⟩,
 ⟨some 31,.mv false (.t 30),none⟩,
 ⟨some 32,.mv false (.t 2),some (31,false)⟩,
 ⟨some 33,.bin .lss (.t 32) (.c (.int .i64 1)),some (31,false)⟩,
 ⟨some 34,.pick (.t 31) (.c (.bool true)) (.t 33),none⟩,
 ⟨some 35,.mv false (.t 34),none⟩,
 ⟨some 36,.mv false (.t 2),some (35,false)⟩,
 ⟨some 37,.mv false (.t 3),some (35,false)⟩,
 ⟨some 38,.bin .gtr (.t 36) (.t 37),some (35,false)⟩,
 ⟨some 39,.pick (.t 35) (.c (.bool true)) (.t 38),none⟩]
abbrev zz47_r2:List AI:=[
 ⟨some 40,.build [(.int .i64 0),(.int .i64 0),.nilS] [],none⟩,
 ⟨some 8,.mv true (.c .nilS),none⟩,
 ⟨none,.store 3 (.t 9) (.t 40) .any,none⟩,
 ⟨some 10,.mv true (.c (.int .i64 3)),none⟩]
abbrev zz47_r3:List AI:=[
 ⟨some 41,.mv false (.t 0),none⟩,
 ⟨some 42,.mv false (.t 1),none⟩,
 ⟨some 43,.mv false (.t 2),none⟩,
 ⟨some 44,.call (.c (.fn f_zz40)) [(.t 41),(.t 42),(.t 43)] 0,none⟩,
 ⟨some 11,.mv true (.t 44),none⟩]
abbrev zz47_r4:List AI:=[
 ⟨some 12,.mv true (.c .nilS),none⟩]
abbrev zz47_r5:List AI:=[
 ⟨some 45,.mv false (.t 0),none⟩,
 ⟨some 46,.mv false (.t 2),none⟩,
 ⟨some 47,.build [(.int .i64 0),(.int .i64 0),.nilS] [(0,1,(.t 45)),(1,1,(.t 46))],none⟩,
 ⟨some 13,.alloc [(.int .i64 0),(.int .i64 0),.nilS],none⟩,
 ⟨none,.store 3 (.t 13) (.t 47) .any,none⟩]
abbrev zz47_r6:List AI:=[
 ⟨some 14,.mv true (.c (.int .i64 1)),none⟩]
abbrev zz47_r7:List AI:=[
 ⟨some 48,.mv false (.t 14),none⟩,
 ⟨some 49,.mv false (.t 3),none⟩,
 ⟨some 50,.bin .leq (.t 48) (.t 49),none⟩]
abbrev zz47_r8:List AI:=[
 ⟨some 53,.mv true (.t 12),none⟩,
 ⟨some 54,.mv false (.t 11),none⟩,
 ⟨some 55,.mv false (.t 14),none⟩,
 ⟨some 56,.call (.t 54) [(.t 55)] 0,none⟩,
 ⟨some 57,.mkslice 1 1 (.int .i64 0) [(0,(.t 56))],none⟩,
 ⟨some 58,.append 1 8 (.t 53) (.t 57),none⟩,
 ⟨some 12,.mv true (.t 58),none⟩]
abbrev zz47_r9:List AI:=[
 ⟨some 59,.faddr 2 (.t 13),none⟩,
 ⟨some 60,.load false 1 (.t 59) (.site 13),none⟩,
 ⟨some 61,.mv false (.t 0),none⟩,
 ⟨some 62,.mv false (.t 14),none⟩,
 ⟨some 63,.mv false (.t 12),none⟩,
 ⟨some 64,.mv false (.t 14),none⟩,
 ⟨some 65,.bin .sub (.t 64) (.c (.int .i64 1)),none⟩,
 ⟨some 66,.iaddr 1 (.t 63) (.t 65),none⟩,
 ⟨some 67,.load false 1 (.t 66) .foreign,none⟩,
 ⟨some 68,.mkslice 1 3 (.int .i64 0) [(0,(.t 61)),(1,(.t 62)),(2,(.t 67))],none⟩,
 ⟨some 69,.call (.c (.fn f_zz52)) [(.c (.int .i64 193)),(.t 68)] 1,none⟩,
 ⟨some 70,.mkslice 16 1 (.agg (zr 16 (.int .u8 0))) [(0,(.t 69))],none⟩,
 ⟨some 71,.appG 16 16 (zr 16 (.int .u8 0)) (.t 60) (.t 70),none⟩,
 ⟨some 72,.faddr 2 (.t 13),none⟩,
 ⟨none,.store 1 (.t 72) (.t 71) (.site 13),none⟩]
abbrev zz47_r10:List AI:=[
 ⟨some 51,.mv false (.t 14),none⟩,
 ⟨some 52,.bin .add (.t 51) (.c (.int .i64 1)),none⟩,
 ⟨some 14,.mv true (.t 52),none⟩]
abbrev zz47_l0:ACode:=.seq (.seq (.reg false zz47_r7) (.cond (.t 50) (.skip) (.exit 0))) (.seq (.block 1 (.seq (.reg false zz47_r8) (.reg true zz47_r9))) (.reg false zz47_r10))
abbrev zz47_r11:List AI:=[
 ⟨some 73,.mv false (.t 12),none⟩,
 ⟨some 74,.load true 3 (.t 13) (.site 13),none⟩,
 ⟨some 8,.mv true (.t 73),none⟩,
 ⟨none,.store 3 (.t 9) (.t 74) (.site 9),none⟩,
 ⟨some 10,.mv true (.c (.int .i64 0)),none⟩]
abbrev zz47_c:ACode:=.seq (.reg false zz47_r0) (.seq (.seq (.reg false zz47_r1) (.cond (.t 39) (.seq (.reg false zz47_r2) (.ret)) (.skip))) (.seq (.reg false zz47_r3) (.seq (.reg false zz47_r4) (.seq (.reg false zz47_r5) (.seq (.seq (.reg false zz47_r6) (.block 0 (.loop zz47_l0))) (.seq (.reg true zz47_r11) (.ret)))))))
def zz47_F:AFunc:=⟨75,[.tmp 8,.cell 9 true 3,.tmp 10],zz47_c⟩
theorem zz47_cp:compile Tryd.prog [71] f_zz47=some zz47_F:=by kernel_rfl
-- loop 0: [0, 1, 2, 3, 8, 9, 10]
-- loop 0: [0, 1, 5]
abbrev zz8_r0:List AI:=[
 ⟨some 4,.mv true (.c (.bool false)),none⟩]
abbrev zz8_r1:List AI:=[
 ⟨some 6,.mv false (.t 0),none⟩,
 ⟨some 7,.len false (.t 6),none⟩,
 ⟨some 8,.mv false (.t 1),none⟩,
 ⟨some 9,.len false (.t 8),none⟩,
 ⟨some 10,.bin .neq (.t 7) (.t 9),none⟩]
abbrev zz8_r2:List AI:=[
 ⟨some 4,.mv true (.c (.bool false)),none⟩]
abbrev zz8_r3:List AI:=[
 ⟨some 5,.mv true (.c (.int .i64 0)),none⟩]
abbrev zz8_r4:List AI:=[
 ⟨some 11,.mv false (.t 5),none⟩,
 ⟨some 12,.mv false (.t 0),none⟩,
 ⟨some 13,.len false (.t 12),none⟩,
 ⟨some 14,.bin .lss (.t 11) (.t 13),none⟩]
abbrev zz8_r5:List AI:=[
 ⟨some 17,.mv false (.t 0),none⟩,
 ⟨some 18,.mv false (.t 5),none⟩,
 ⟨some 19,.iaddr 1 (.t 17) (.t 18),none⟩,
 ⟨some 20,.load false 1 (.t 19) .foreign,none⟩,
 ⟨some 21,.mv false (.t 1),none⟩,
 ⟨some 22,.mv false (.t 5),none⟩,
 ⟨some 23,.iaddr 1 (.t 21) (.t 22),none⟩,
 ⟨some 24,.load false 1 (.t 23) .foreign,none⟩,
 ⟨some 25,.bin .neq (.t 20) (.t 24),none⟩]
abbrev zz8_r6:List AI:=[
 ⟨some 4,.mv true (.c (.bool false)),none⟩]
abbrev zz8_r7:List AI:=[
 ⟨some 15,.mv false (.t 5),none⟩,
 ⟨some 16,.bin .add (.t 15) (.c (.int .i64 1)),none⟩,
 ⟨some 5,.mv true (.t 16),none⟩]
abbrev zz8_l0:ACode:=.seq (.seq (.reg false zz8_r4) (.cond (.t 14) (.skip) (.exit 0))) (.seq (.block 1 (.seq (.reg true zz8_r5) (.cond (.t 25) (.seq (.reg false zz8_r6) (.ret)) (.skip)))) (.reg false zz8_r7))
abbrev zz8_r8:List AI:=[
 ⟨some 4,.mv true (.c (.bool true)),none⟩]
abbrev zz8_c:ACode:=.seq (.reg false zz8_r0) (.seq (.seq (.reg false zz8_r1) (.cond (.t 10) (.seq (.reg false zz8_r2) (.ret)) (.skip))) (.seq (.seq (.reg false zz8_r3) (.block 0 (.loop zz8_l0))) (.seq (.reg false zz8_r8) (.ret))))
def zz8_F:AFunc:=⟨26,[.tmp 4],zz8_c⟩
theorem zz8_cp:compile Tryd.prog [] f_zz8=some zz8_F:=by kernel_rfl
-- loop 0: [2, 3, 5]
abbrev zz42_r0:List AI:=[
 ⟨some 1,.box 3 (.t 0),none⟩,
 ⟨some 2,.mv true (.c (.bool false)),none⟩]
abbrev zz42_r1:List AI:=[
 ⟨some 3,.faddr 0 (.t 1),none⟩,
 ⟨some 4,.load false 1 (.t 3) .any,none⟩,
 ⟨some 5,.call (.c (.fn f_zz37)) [(.t 4)] 0,none⟩,
 ⟨some 6,.mv false (.t 5),none⟩,
 ⟨some 7,.faddr 2 (.t 1),some (6,true)⟩,
 ⟨some 8,.load false 1 (.t 7) .any,some (6,true)⟩,
 ⟨some 9,.len false (.t 8),some (6,true)⟩,
 ⟨some 10,.bin .leq (.t 9) (.c (.int .i64 12)),some (6,true)⟩,
 ⟨some 11,.pick (.t 6) (.t 10) (.c (.bool false)),none⟩,
 ⟨some 12,.mv false (.t 11),none⟩,
 ⟨some 13,.faddr 1 (.t 1),some (12,true)⟩,
 ⟨some 14,.load false 1 (.t 13) .any,some (12,true)⟩,
 ⟨some 15,.bin .geq (.t 14) (.c (.int .i64 1)),some (12,true)⟩,
 ⟨some 16,.pick (.t 12) (.t 15) (.c (.bool false)),none⟩,
 ⟨some 17,.mv false (.t 16),none⟩,
 ⟨some 18,.faddr 1 (.t 1),some (17,true)⟩,
 ⟨some 19,.load false 1 (.t 18) .any,some (17,true)⟩,
 ⟨some 20,.faddr 2 (.t 1),some (17,true)⟩,
 ⟨some 21,.load false 1 (.t 20) .any,some (17,true)⟩,
 ⟨some 22,.len false (.t 21),some (17,true)⟩,
 ⟨some 23,.bin .leq (.t 19) (.t 22),some (17,true)⟩,
 ⟨some 24,.pick (.t 17) (.t 23) (.c (.bool false)),none⟩,
 ⟨some 2,.mv true (.t 24),none⟩]
abbrev zz42_c:ACode:=.seq (.reg false zz42_r0) (.seq (.reg false zz42_r1) (.ret))
def zz42_F:AFunc:=⟨25,[.tmp 2],zz42_c⟩
theorem zz42_cp:compile Tryd.prog [] f_zz42=some zz42_F:=by kernel_rfl
abbrev zz49_r0:List AI:=[
 ⟨some 2,.box 3 (.t 0),none⟩,
 ⟨some 3,.box 2 (.t 1),none⟩,
 ⟨some 4,.mv true (.c (.bool false)),none⟩]
abbrev zz49_r1:List AI:=[
 ⟨some 5,.load true 3 (.t 2) (.site 2),none⟩,
 ⟨some 6,.call (.c (.fn f_zz42)) [(.t 5)] 1,none⟩,
 ⟨some 7,.mv false (.t 6),none⟩,
 ⟨some 8,.faddr 0 (.t 3),some (7,true)⟩,
 ⟨some 9,.load false 1 (.t 8) (.site 3),some (7,true)⟩,
 ⟨some 10,.bin .geq (.t 9) (.c (.int .i64 1)),some (7,true)⟩,
 ⟨some 11,.pick (.t 7) (.t 10) (.c (.bool false)),none⟩,
 ⟨some 12,.mv false (.t 11),none⟩,
 ⟨some 13,.faddr 0 (.t 3),some (12,true)⟩,
 ⟨some 14,.load false 1 (.t 13) (.site 3),some (12,true)⟩,
 ⟨some 15,.faddr 2 (.t 2),some (12,true)⟩,
 ⟨some 16,.load false 1 (.t 15) (.site 2),some (12,true)⟩,
 ⟨some 17,.len false (.t 16),some (12,true)⟩,
 ⟨some 18,.bin .leq (.t 14) (.t 17),some (12,true)⟩,
 ⟨some 19,.pick (.t 12) (.t 18) (.c (.bool false)),none⟩,
 ⟨some 20,.mv false (.t 19),none⟩,
 ⟨some 21,.faddr 1 (.t 3),some (20,true)⟩,
 ⟨some 22,.load false 1 (.t 21) (.site 3),some (20,true)⟩,
 ⟨some 23,.call (.c (.fn f_zz31)) [(.t 22)] 1,some (20,true)⟩,
 ⟨some 24,.pick (.t 20) (.t 23) (.c (.bool false)),none⟩,
 ⟨some 25,.mv false (.t 24),none⟩,
 ⟨some 26,.faddr 0 (.t 2),some (25,true)⟩,
 ⟨some 27,.load false 1 (.t 26) (.site 2),some (25,true)⟩,
 ⟨some 28,.faddr 0 (.t 3),some (25,true)⟩,
 ⟨some 29,.load false 1 (.t 28) (.site 3),some (25,true)⟩,
 ⟨some 30,.faddr 1 (.t 3),some (25,true)⟩,
 ⟨some 31,.load false 1 (.t 30) (.site 3),some (25,true)⟩,
 ⟨some 32,.mkslice 1 3 (.int .i64 0) [(0,(.t 27)),(1,(.t 29)),(2,(.t 31))],some (25,true)⟩,
 ⟨some 34,.faddr 2 (.t 2),some (25,true)⟩,
 ⟨some 35,.load false 1 (.t 34) (.site 2),some (25,true)⟩,
 ⟨some 36,.faddr 0 (.t 3),some (25,true)⟩,
 ⟨some 37,.load false 1 (.t 36) (.site 3),some (25,true)⟩,
 ⟨some 38,.bin .sub (.t 37) (.c (.int .i64 1)),some (25,true)⟩,
 ⟨some 39,.iaddr 16 (.t 35) (.t 38),some (25,true)⟩,
 ⟨some 40,.load true 16 (.t 39) .foreign,some (25,true)⟩,
 ⟨some 33,.call (.c (.fn f_zz52)) [(.c (.int .i64 193)),(.t 32)] 1,some (25,true)⟩,
 ⟨some 41,.eqs false (kr 16 .i) (.t 33) (.t 40),some (25,true)⟩,
 ⟨some 42,.pick (.t 25) (.t 41) (.c (.bool false)),none⟩,
 ⟨some 4,.mv true (.t 42),none⟩]
abbrev zz49_c:ACode:=.seq (.reg false zz49_r0) (.seq (.reg true zz49_r1) (.ret))
def zz49_F:AFunc:=⟨43,[.tmp 4],zz49_c⟩
theorem zz49_cp:compile Tryd.prog [] f_zz49=some zz49_F:=by kernel_rfl
-- loop 0: [2, 6, 19, 20, 21]
-- loop 1: [2, 9, 52, 53]
abbrev zz36_r0:List AI:=[
 ⟨some 2,.box 3 (.t 0),none⟩,
 ⟨some 4,.mv true (.c (.int .i64 0)),none⟩,
 ⟨some 5,.mv true (.c (.int .i64 0)),none⟩]
abbrev zz36_r1:List AI:=[
 ⟨some 16,.load true 3 (.t 2) .any,none⟩,
 ⟨some 17,.call (.c (.fn f_zz42)) [(.t 16)] 0,none⟩,
 ⟨some 18,.not (.t 17),none⟩]
abbrev zz36_r2:List AI:=[
 ⟨some 4,.mv true (.c (.int .i64 0)),none⟩,
 ⟨some 5,.mv true (.c (.int .i64 1)),none⟩]
abbrev zz36_r3:List AI:=[
 ⟨some 6,.alloc (zr 13 .nilP),none⟩]
abbrev zz36_r4:List AI:=[
 ⟨some 19,.mv false (.t 1),none⟩,
 ⟨some 20,.len false (.t 19),none⟩,
 ⟨some 21,.mv false (.c (.int .i64 0)),none⟩]
abbrev zz36_r5:List AI:=[
 ⟨some 22,.bin .lss (.t 21) (.t 20),none⟩]
abbrev zz36_r6:List AI:=[
 ⟨some 23,.iaddr 2 (.t 19) (.t 21),none⟩,
 ⟨some 24,.load true 2 (.t 23) .any,none⟩,
 ⟨some 8,.gn (.alloc [(.int .i64 0),(.int .i64 0)]) [],none⟩,
 ⟨none,.store 2 (.t 8) (.t 24) .any,none⟩]
abbrev zz36_r7:List AI:=[
 ⟨some 25,.faddr 0 (.t 8),none⟩,
 ⟨some 26,.load false 1 (.t 25) .any,none⟩,
 ⟨some 27,.bin .geq (.t 26) (.c (.int .i64 1)),none⟩,
 ⟨some 28,.mv false (.t 27),none⟩,
 ⟨some 29,.faddr 0 (.t 8),some (28,true)⟩,
 ⟨some 30,.load false 1 (.t 29) .any,some (28,true)⟩,
 ⟨some 31,.faddr 2 (.t 2),some (28,true)⟩,
 ⟨some 32,.load false 1 (.t 31) .any,some (28,true)⟩,
 ⟨some 33,.len false (.t 32),some (28,true)⟩,
 ⟨some 34,.bin .leq (.t 30) (.t 33),some (28,true)⟩,
 ⟨some 35,.pick (.t 28) (.t 34) (.c (.bool false)),none⟩,
 ⟨some 36,.mv false (.t 35),none⟩,
 ⟨some 37,.faddr 0 (.t 8),some (36,true)⟩,
 ⟨some 38,.load false 1 (.t 37) .any,some (36,true)⟩,
 ⟨some 39,.iaddrA 13 1 (.t 6) (.t 38),some (36,true)⟩,
 ⟨some 40,.load false 1 (.t 39) .any,some (36,true)⟩,
 ⟨some 41,.gd (.pnil 0 false) [(.t 40)],some (36,true)⟩,
 ⟨some 42,.pick (.t 36) (.t 41) (.c (.bool false)),none⟩,
 ⟨some 43,.mv false (.t 42),none⟩,
 ⟨some 44,.load true 3 (.t 2) .any,some (43,true)⟩,
 ⟨some 45,.load true 2 (.t 8) .any,some (43,true)⟩,
 ⟨some 46,.call (.c (.fn f_zz49)) [(.t 44),(.t 45)] 0,some (43,true)⟩,
 ⟨some 47,.pick (.t 43) (.t 46) (.c (.bool false)),none⟩]
abbrev zz36_r8:List AI:=[
 ⟨some 48,.faddr 0 (.t 8),none⟩,
 ⟨some 49,.load false 1 (.t 48) .any,none⟩,
 ⟨some 50,.iaddrA 13 1 (.t 6) (.t 49),none⟩,
 ⟨none,.store 1 (.t 50) (.t 8) .any,none⟩]
abbrev zz36_r9:List AI:=[
 ⟨some 51,.bin .add (.t 21) (.c (.int .i64 1)),none⟩,
 ⟨some 21,.mv false (.t 51),none⟩]
abbrev zz36_l0:ACode:=.seq (.reg false zz36_r5) (.seq (.cond (.t 22) (.skip) (.exit 0)) (.seq (.block 1 (.seq (.reg false zz36_r6) (.seq (.reg false zz36_r7) (.cond (.t 47) (.reg false zz36_r8) (.skip))))) (.reg false zz36_r9)))
abbrev zz36_r10:List AI:=[
 ⟨some 9,.mv true (.c .nilS),none⟩]
abbrev zz36_r11:List AI:=[
 ⟨some 52,.load true 13 (.t 6) .any,none⟩,
 ⟨some 53,.mv false (.c (.int .i64 0)),none⟩]
abbrev zz36_r12:List AI:=[
 ⟨some 54,.bin .lss (.t 53) (.c (.int .i64 13)),none⟩]
abbrev zz36_r13:List AI:=[
 ⟨some 55,.idxA false 13 1 (.t 52) (.t 53),none⟩,
 ⟨some 11,.mv true (.t 55),none⟩]
abbrev zz36_r14:List AI:=[
 ⟨some 56,.mv false (.t 11),none⟩,
 ⟨some 57,.gd (.pnil 0 true) [(.t 56)],none⟩,
 ⟨some 58,.mv false (.t 57),none⟩,
 ⟨some 59,.mv false (.t 9),some (58,true)⟩,
 ⟨some 60,.len false (.t 59),some (58,true)⟩,
 ⟨some 61,.faddr 1 (.t 2),some (58,true)⟩,
 ⟨some 62,.load false 1 (.t 61) .any,some (58,true)⟩,
 ⟨some 63,.bin .lss (.t 60) (.t 62),some (58,true)⟩,
 ⟨some 64,.pick (.t 58) (.t 63) (.c (.bool false)),none⟩]
abbrev zz36_r15:List AI:=[
 ⟨some 65,.mv true (.t 9),none⟩,
 ⟨some 66,.mv false (.t 11),none⟩,
 ⟨some 67,.nilck (.t 66),none⟩,
 ⟨some 68,.load true 2 (.t 67) .any,none⟩,
 ⟨some 69,.mkslice 2 1 (.agg [(.int .i64 0),(.int .i64 0)]) [(0,(.t 68))],none⟩,
 ⟨some 70,.append 2 16 (.t 65) (.t 69),none⟩,
 ⟨some 9,.mv true (.t 70),none⟩]
abbrev zz36_r16:List AI:=[
 ⟨some 71,.bin .add (.t 53) (.c (.int .i64 1)),none⟩,
 ⟨some 53,.mv false (.t 71),none⟩]
abbrev zz36_l1:ACode:=.seq (.reg false zz36_r12) (.seq (.cond (.t 54) (.skip) (.exit 2)) (.seq (.block 3 (.seq (.reg false zz36_r13) (.seq (.reg false zz36_r14) (.cond (.t 64) (.reg false zz36_r15) (.skip))))) (.reg false zz36_r16)))
abbrev zz36_r17:List AI:=[
 ⟨some 72,.mv false (.t 9),none⟩,
 ⟨some 73,.len false (.t 72),none⟩,
 ⟨some 74,.faddr 1 (.t 2),none⟩,
 ⟨some 75,.load false 1 (.t 74) .any,none⟩,
 ⟨some 76,.bin .lss (.t 73) (.t 75),none⟩]
abbrev zz36_r18:List AI:=[
 ⟨some 4,.mv true (.c (.int .i64 0)),none⟩,
 ⟨some 5,.mv true (.c (.int .i64 8)),none⟩]
abbrev zz36_r19:List AI:=[
 ⟨some 77,.mv false (.t 9),none⟩,
 ⟨some 78,.call (.c (.fn f_zz38)) [(.t 77)] 0,none⟩,
 ⟨some 12,.mv true (.t 78),none⟩]
abbrev zz36_r20:List AI:=[
 ⟨some 80,.faddr 0 (.t 2),none⟩,
 ⟨some 81,.load false 1 (.t 80) .any,none⟩,
 ⟨some 82,.mv false (.t 12),none⟩,
 ⟨some 83,.faddr 1 (.t 2),none⟩,
 ⟨some 84,.load false 1 (.t 83) .any,none⟩,
 ⟨some 85,.faddr 2 (.t 2),none⟩,
 ⟨some 86,.load false 1 (.t 85) .any,none⟩,
 ⟨some 87,.len false (.t 86),none⟩,
 ⟨some 88,.call (.c (.fn f_zz47)) [(.t 81),(.t 82),(.t 84),(.t 87)] 0,none⟩,
 ⟨some 79,.mv false (.t 88),none⟩,
 ⟨some 89,.ext (.t 79) 0,none⟩,
 ⟨some 90,.ext (.t 79) 1,none⟩,
 ⟨some 91,.ext (.t 79) 2,none⟩,
 ⟨some 14,.alloc [(.int .i64 0),(.int .i64 0),.nilS],none⟩,
 ⟨some 13,.mv true (.t 89),none⟩,
 ⟨none,.store 3 (.t 14) (.t 90) .any,none⟩,
 ⟨some 15,.mv true (.t 91),none⟩]
abbrev zz36_r21:List AI:=[
 ⟨some 92,.faddr 2 (.t 14),none⟩,
 ⟨some 93,.load false 1 (.t 92) .any,none⟩,
 ⟨some 94,.faddr 2 (.t 2),none⟩,
 ⟨some 95,.load false 1 (.t 94) .any,none⟩,
 ⟨some 96,.call (.c (.fn f_zz0)) [(.t 93),(.t 95)] 0,none⟩,
 ⟨some 97,.not (.t 96),none⟩]
abbrev zz36_r22:List AI:=[
 ⟨some 4,.mv true (.c (.int .i64 0)),none⟩,
 ⟨some 5,.mv true (.c (.int .i64 23)),none⟩]
abbrev zz36_r23:List AI:=[
 ⟨some 98,.mv false (.t 12),none⟩,
 ⟨some 4,.mv true (.t 98),none⟩,
 ⟨some 5,.mv true (.c (.int .i64 0)),none⟩]
abbrev zz36_c:ACode:=.seq (.reg false zz36_r0) (.seq (.seq (.reg false zz36_r1) (.cond (.t 18) (.seq (.reg false zz36_r2) (.ret)) (.skip))) (.seq (.reg false zz36_r3) (.seq (.seq (.reg false zz36_r4) (.block 0 (.loop zz36_l0))) (.seq (.reg false zz36_r10) (.seq (.seq (.reg false zz36_r11) (.block 2 (.loop zz36_l1))) (.seq (.seq (.reg false zz36_r17) (.cond (.t 76) (.seq (.reg false zz36_r18) (.ret)) (.skip))) (.seq (.reg false zz36_r19) (.seq (.reg false zz36_r20) (.seq (.seq (.reg false zz36_r21) (.cond (.t 97) (.seq (.reg false zz36_r22) (.ret)) (.skip))) (.seq (.reg false zz36_r23) (.ret)))))))))))
def zz36_F:AFunc:=⟨99,[.tmp 4,.tmp 5],zz36_c⟩
theorem zz36_cp:compile Tryd.prog [8] f_zz36=some zz36_F:=by kernel_rfl
-- loop 0: [0, 1, 5]
-- loop 1: [1, 6]
abbrev zz25_r0:List AI:=[
 ⟨some 4,.mv true (.c (.bool false)),none⟩]
abbrev zz25_r1:List AI:=[
 ⟨some 7,.mv false (.t 0),none⟩,
 ⟨some 8,.len false (.t 7),none⟩,
 ⟨some 9,.bin .gtr (.t 8) (.c (.int .i64 6)),none⟩,
 ⟨some 10,.mv false (.t 9),none⟩,
 ⟨some 11,.mv false (.t 1),some (10,false)⟩,
 ⟨some 12,.len false (.t 11),some (10,false)⟩,
 ⟨some 13,.bin .gtr (.t 12) (.c (.int .i64 8)),some (10,false)⟩,
 ⟨some 14,.pick (.t 10) (.c (.bool true)) (.t 13),none⟩]
abbrev zz25_r2:List AI:=[
 ⟨some 4,.mv true (.c (.bool false)),none⟩]
abbrev zz25_r3:List AI:=[
 ⟨some 5,.mv true (.c (.int .i64 0)),none⟩]
abbrev zz25_r4:List AI:=[
 ⟨some 15,.mv false (.t 5),none⟩,
 ⟨some 16,.mv false (.t 0),none⟩,
 ⟨some 17,.len false (.t 16),none⟩,
 ⟨some 18,.bin .lss (.t 15) (.t 17),none⟩]
abbrev zz25_r5:List AI:=[
 ⟨some 21,.mv false (.t 0),none⟩,
 ⟨some 22,.mv false (.t 5),none⟩,
 ⟨some 23,.iaddr 3 (.t 21) (.t 22),none⟩,
 ⟨some 24,.faddr 2 (.t 23),none⟩,
 ⟨some 25,.load false 1 (.t 24) .any,none⟩,
 ⟨some 26,.len false (.t 25),none⟩,
 ⟨some 27,.bin .gtr (.t 26) (.c (.int .i64 20)),none⟩]
abbrev zz25_r6:List AI:=[
 ⟨some 4,.mv true (.c (.bool false)),none⟩]
abbrev zz25_r7:List AI:=[
 ⟨some 19,.mv false (.t 5),none⟩,
 ⟨some 20,.bin .add (.t 19) (.c (.int .i64 1)),none⟩,
 ⟨some 5,.mv true (.t 20),none⟩]
abbrev zz25_l0:ACode:=.seq (.seq (.reg false zz25_r4) (.cond (.t 18) (.skip) (.exit 0))) (.seq (.block 1 (.seq (.reg false zz25_r5) (.cond (.t 27) (.seq (.reg false zz25_r6) (.ret)) (.skip)))) (.reg false zz25_r7))
abbrev zz25_r8:List AI:=[
 ⟨some 6,.mv true (.c (.int .i64 0)),none⟩]
abbrev zz25_r9:List AI:=[
 ⟨some 28,.mv false (.t 6),none⟩,
 ⟨some 29,.mv false (.t 1),none⟩,
 ⟨some 30,.len false (.t 29),none⟩,
 ⟨some 31,.bin .lss (.t 28) (.t 30),none⟩]
abbrev zz25_r10:List AI:=[
 ⟨some 34,.mv false (.t 1),none⟩,
 ⟨some 35,.mv false (.t 6),none⟩,
 ⟨some 36,.iaddr 1 (.t 34) (.t 35),none⟩,
 ⟨some 37,.load false 1 (.t 36) .any,none⟩,
 ⟨some 38,.len false (.t 37),none⟩,
 ⟨some 39,.bin .gtr (.t 38) (.c (.int .i64 20)),none⟩]
abbrev zz25_r11:List AI:=[
 ⟨some 4,.mv true (.c (.bool false)),none⟩]
abbrev zz25_r12:List AI:=[
 ⟨some 32,.mv false (.t 6),none⟩,
 ⟨some 33,.bin .add (.t 32) (.c (.int .i64 1)),none⟩,
 ⟨some 6,.mv true (.t 33),none⟩]
abbrev zz25_l1:ACode:=.seq (.seq (.reg false zz25_r9) (.cond (.t 31) (.skip) (.exit 2))) (.seq (.block 3 (.seq (.reg false zz25_r10) (.cond (.t 39) (.seq (.reg false zz25_r11) (.ret)) (.skip)))) (.reg false zz25_r12))
abbrev zz25_r13:List AI:=[
 ⟨some 4,.mv true (.c (.bool true)),none⟩]
abbrev zz25_c:ACode:=.seq (.reg false zz25_r0) (.seq (.seq (.reg false zz25_r1) (.cond (.t 14) (.seq (.reg false zz25_r2) (.ret)) (.skip))) (.seq (.seq (.reg false zz25_r3) (.block 0 (.loop zz25_l0))) (.seq (.seq (.reg false zz25_r8) (.block 2 (.loop zz25_l1))) (.seq (.reg false zz25_r13) (.ret)))))
def zz25_F:AFunc:=⟨40,[.tmp 4],zz25_c⟩
theorem zz25_cp:compile Tryd.prog [] f_zz25=some zz25_F:=by kernel_rfl
-- loop 0: [1, 4, 6, 7, 24, 25, 26]
abbrev zz48_r0:List AI:=[
 ⟨some 4,.alloc (zr 16 (.int .u8 0) ++ [.nilS,.nilS]),none⟩,
 ⟨some 5,.mv true (.c (.int .i64 0)),none⟩]
abbrev zz48_r1:List AI:=[
 ⟨some 12,.mv false (.t 0),none⟩,
 ⟨some 13,.len false (.t 12),none⟩,
 ⟨some 14,.mv false (.t 1),none⟩,
 ⟨some 15,.len false (.t 14),none⟩,
 ⟨some 16,.bin .neq (.t 13) (.t 15),none⟩,
 ⟨some 17,.mv false (.t 16),none⟩,
 ⟨some 18,.mv false (.t 0),some (17,false)⟩,
 ⟨some 19,.call (.c (.fn f_zz19)) [(.t 18)] 0,some (17,false)⟩,
 ⟨some 20,.not (.t 19),some (17,false)⟩,
 ⟨some 21,.pick (.t 17) (.c (.bool true)) (.t 20),none⟩]
abbrev zz48_r2:List AI:=[
 ⟨some 22,.build (zr 16 (.int .u8 0) ++ [.nilS,.nilS]) [],none⟩,
 ⟨none,.store 18 (.t 4) (.t 22) .any,none⟩,
 ⟨some 5,.mv true (.c (.int .i64 1)),none⟩]
abbrev zz48_r3:List AI:=[
 ⟨some 6,.alloc (zr 16 (.int .u8 0) ++ [.nilS,.nilS]),none⟩]
abbrev zz48_r4:List AI:=[
 ⟨some 23,.mkslice 1 1 (.int .i64 0) [(0,(.c (.int .i64 0)))],none⟩,
 ⟨some 7,.mv true (.t 23),none⟩]
abbrev zz48_r5:List AI:=[
 ⟨some 24,.mv false (.t 0),none⟩,
 ⟨some 25,.len false (.t 24),none⟩,
 ⟨some 26,.mv false (.c (.int .i64 0)),none⟩]
abbrev zz48_r6:List AI:=[
 ⟨some 27,.bin .lss (.t 26) (.t 25),none⟩]
abbrev zz48_r7:List AI:=[
 ⟨some 28,.mv false (.t 26),none⟩,
 ⟨some 29,.iaddr 3 (.t 24) (.t 26),none⟩,
 ⟨some 30,.load true 3 (.t 29) .any,none⟩,
 ⟨some 9,.alloc [(.int .i64 0),(.int .i64 0),.nilS],none⟩,
 ⟨some 8,.mv true (.t 28),none⟩,
 ⟨none,.store 3 (.t 9) (.t 30) .any,none⟩]
abbrev zz48_r8:List AI:=[
 ⟨some 32,.load true 3 (.t 9) (.site 9),none⟩,
 ⟨some 33,.mv false (.t 1),none⟩,
 ⟨some 34,.mv false (.t 8),none⟩,
 ⟨some 35,.iaddr 1 (.t 33) (.t 34),none⟩,
 ⟨some 36,.load false 1 (.t 35) .foreign,none⟩,
 ⟨some 37,.call (.c (.fn f_zz36)) [(.t 32),(.t 36)] 1,none⟩,
 ⟨some 31,.mv false (.t 37),none⟩,
 ⟨some 38,.ext (.t 31) 0,none⟩,
 ⟨some 39,.ext (.t 31) 1,none⟩,
 ⟨some 10,.mv true (.t 38),none⟩,
 ⟨some 11,.mv true (.t 39),none⟩]
abbrev zz48_r9:List AI:=[
 ⟨some 40,.mv false (.t 11),none⟩]
abbrev zz48_r10:List AI:=[
 ⟨some 44,.bin .eql (.t 40) (.c (.int .i64 0)),none⟩,
 ⟨some 43,.mv true (.t 44),none⟩]
abbrev zz48_r11:List AI:=[
 ⟨some 45,.faddr 16 (.t 6),none⟩,
 ⟨some 46,.load false 1 (.t 45) .any,none⟩,
 ⟨some 47,.faddr 0 (.t 9),none⟩,
 ⟨some 48,.load false 1 (.t 47) .any,none⟩,
 ⟨some 49,.mkslice 1 1 (.int .i64 0) [(0,(.t 48))],none⟩,
 ⟨some 50,.appG 1 8 [(.int .i64 0)] (.t 46) (.t 49),none⟩,
 ⟨some 51,.faddr 16 (.t 6),none⟩,
 ⟨none,.store 1 (.t 51) (.t 50) .any,none⟩]
abbrev zz48_r12:List AI:=[
 ⟨some 52,.mv true (.t 7),none⟩,
 ⟨some 53,.faddr 0 (.t 9),none⟩,
 ⟨some 54,.load false 1 (.t 53) .any,none⟩,
 ⟨some 55,.mv false (.t 10),none⟩,
 ⟨some 56,.mkslice 1 2 (.int .i64 0) [(0,(.t 54)),(1,(.t 55))],none⟩,
 ⟨some 57,.append 1 8 (.t 52) (.t 56),none⟩,
 ⟨some 7,.mv true (.t 57),none⟩]
abbrev zz48_r13:List AI:=[
 ⟨some 59,.bin .eql (.t 40) (.c (.int .i64 23)),none⟩,
 ⟨some 58,.mv true (.t 59),none⟩]
abbrev zz48_r14:List AI:=[
 ⟨some 60,.faddr 17 (.t 6),none⟩,
 ⟨some 61,.load false 1 (.t 60) .any,none⟩,
 ⟨some 62,.faddr 0 (.t 9),none⟩,
 ⟨some 63,.load false 1 (.t 62) .any,none⟩,
 ⟨some 64,.mkslice 1 1 (.int .i64 0) [(0,(.t 63))],none⟩,
 ⟨some 65,.appG 1 8 [(.int .i64 0)] (.t 61) (.t 64),none⟩,
 ⟨some 66,.faddr 17 (.t 6),none⟩,
 ⟨none,.store 1 (.t 66) (.t 65) .any,none⟩]
abbrev zz48_r15:List AI:=[
 ⟨some 41,.build (zr 16 (.int .u8 0) ++ [.nilS,.nilS]) [],none⟩,
 ⟨some 42,.mv false (.t 11),none⟩,
 ⟨none,.store 18 (.t 4) (.t 41) .any,none⟩,
 ⟨some 5,.mv true (.t 42),none⟩]
abbrev zz48_b0:ACode:=.seq (.reg false zz48_r13) (.cond (.t 58) (.reg false zz48_r14) (.seq (.reg false zz48_r15) (.ret)))
abbrev zz48_r16:List AI:=[
 ⟨some 67,.bin .add (.t 26) (.c (.int .i64 1)),none⟩,
 ⟨some 26,.mv false (.t 67),none⟩]
abbrev zz48_l0:ACode:=.seq (.reg false zz48_r6) (.seq (.cond (.t 27) (.skip) (.exit 0)) (.seq (.block 1 (.seq (.reg false zz48_r7) (.seq (.reg true zz48_r8) (.seq (.reg false zz48_r9) (.block 2 (.seq (.reg false zz48_r10) (.cond (.t 43) (.seq (.reg false zz48_r11) (.reg false zz48_r12)) (zz48_b0)))))))) (.reg false zz48_r16)))
abbrev zz48_r17:List AI:=[
 ⟨some 68,.mv false (.t 7),none⟩,
 ⟨some 69,.call (.c (.fn f_zz52)) [(.c (.int .i64 194)),(.t 68)] 0,none⟩,
 ⟨some 70,.faddr 0 (.t 6),none⟩,
 ⟨none,.store 16 (.t 70) (.t 69) .any,none⟩]
abbrev zz48_r18:List AI:=[
 ⟨some 71,.load true 18 (.t 6) .any,none⟩,
 ⟨none,.store 18 (.t 4) (.t 71) .any,none⟩,
 ⟨some 5,.mv true (.c (.int .i64 0)),none⟩]
abbrev zz48_c:ACode:=.seq (.reg false zz48_r0) (.seq (.seq (.reg false zz48_r1) (.cond (.t 21) (.seq (.reg false zz48_r2) (.ret)) (.skip))) (.seq (.reg false zz48_r3) (.seq (.reg false zz48_r4) (.seq (.seq (.reg false zz48_r5) (.block 0 (.loop zz48_l0))) (.seq (.reg false zz48_r17) (.seq (.reg false zz48_r18) (.ret)))))))
def zz48_F:AFunc:=⟨72,[.cell 4 true 18,.tmp 5],zz48_c⟩
theorem zz48_cp:compile Tryd.prog [50,65] f_zz48=some zz48_F:=by kernel_rfl
-- loop 0: [1, 7, 8, 9]
abbrev zz22_r0:List AI:=[
 ⟨some 4,.mv true (.c (.bool false)),none⟩]
abbrev zz22_r1:List AI:=[
 ⟨some 7,.mv false (.t 0),none⟩,
 ⟨some 8,.len false (.t 7),none⟩,
 ⟨some 9,.mv false (.c (.int .i64 0)),none⟩]
abbrev zz22_r2:List AI:=[
 ⟨some 10,.bin .lss (.t 9) (.t 8),none⟩]
abbrev zz22_r3:List AI:=[
 ⟨some 11,.iaddr 1 (.t 7) (.t 9),none⟩,
 ⟨some 12,.load false 1 (.t 11) .any,none⟩,
 ⟨some 6,.mv true (.t 12),none⟩]
abbrev zz22_r4:List AI:=[
 ⟨some 13,.mv false (.t 6),none⟩,
 ⟨some 14,.mv false (.t 1),none⟩,
 ⟨some 15,.bin .eql (.t 13) (.t 14),none⟩]
abbrev zz22_r5:List AI:=[
 ⟨some 4,.mv true (.c (.bool true)),none⟩]
abbrev zz22_r6:List AI:=[
 ⟨some 16,.bin .add (.t 9) (.c (.int .i64 1)),none⟩,
 ⟨some 9,.mv false (.t 16),none⟩]
abbrev zz22_l0:ACode:=.seq (.reg false zz22_r2) (.seq (.cond (.t 10) (.skip) (.exit 0)) (.seq (.block 1 (.seq (.reg false zz22_r3) (.seq (.reg false zz22_r4) (.cond (.t 15) (.seq (.reg false zz22_r5) (.ret)) (.skip))))) (.reg false zz22_r6)))
abbrev zz22_r7:List AI:=[
 ⟨some 4,.mv true (.c (.bool false)),none⟩]
abbrev zz22_c:ACode:=.seq (.reg false zz22_r0) (.seq (.seq (.reg false zz22_r1) (.block 0 (.loop zz22_l0))) (.seq (.reg false zz22_r7) (.ret)))
def zz22_F:AFunc:=⟨17,[.tmp 4],zz22_c⟩
theorem zz22_cp:compile Tryd.prog [] f_zz22=some zz22_F:=by kernel_rfl
-- loop 0: [2, 6, 7, 20, 21]
abbrev zz41_r0:List AI:=[
 ⟨some 2,.box 16 (.t 0),none⟩,
 ⟨some 4,.mv true (.c .nilS),none⟩,
 ⟨some 5,.mv true (.c (.int .i64 0)),none⟩]
abbrev zz41_r1:List AI:=[
 ⟨some 9,.mv false (.t 1),none⟩,
 ⟨some 10,.bin .lss (.t 9) (.c (.int .i64 0)),none⟩,
 ⟨some 11,.mv false (.t 10),none⟩,
 ⟨some 12,.mv false (.t 1),some (11,false)⟩,
 ⟨some 13,.bin .gtr (.t 12) (.c (.int .i64 1000)),some (11,false)⟩,
 ⟨some 14,.pick (.t 11) (.c (.bool true)) (.t 13),none⟩]
abbrev zz41_r2:List AI:=[
 ⟨some 4,.mv true (.c .nilS),none⟩,
 ⟨some 5,.mv true (.c (.int .i64 3)),none⟩]
abbrev zz41_r3:List AI:=[
 ⟨some 15,.mv false (.t 1),none⟩,
 ⟨some 17,.mv false (.t 1),none⟩,
 ⟨some 7,.alloc [.nilS],none⟩,
 ⟨some 16,.gn (.mkSl 1 8 [(.int .i64 0)]) [(.t 15),(.t 15)],none⟩,
 ⟨some 6,.mv true (.t 16),none⟩,
 ⟨some 18,.gn (.mkSl 16 16 (zr 16 (.int .u8 0))) [(.t 17),(.t 17)],none⟩,
 ⟨none,.store 1 (.t 7) (.t 18) (.site 7),none⟩]
abbrev zz41_r4:List AI:=[
 ⟨some 19,.mv false (.t 6),none⟩,
 ⟨some 20,.len false (.t 19),none⟩,
 ⟨some 21,.mv false (.c (.int .i64 0)),none⟩]
abbrev zz41_r5:List AI:=[
 ⟨some 22,.bin .lss (.t 21) (.t 20),none⟩]
abbrev zz41_r6:List AI:=[
 ⟨some 23,.mv false (.t 21),none⟩,
 ⟨some 8,.mv true (.t 23),none⟩]
abbrev zz41_r7:List AI:=[
 ⟨some 24,.mv false (.t 6),none⟩,
 ⟨some 25,.mv false (.t 8),none⟩,
 ⟨some 26,.load false 1 (.t 7) (.site 7),none⟩,
 ⟨some 27,.mv false (.t 8),none⟩,
 ⟨some 28,.mv false (.t 8),none⟩,
 ⟨some 29,.load true 16 (.t 2) (.site 2),none⟩,
 ⟨some 30,.mv false (.t 8),none⟩,
 ⟨some 31,.call (.c (.fn f_zz44)) [(.t 29),(.c (.int .i64 1)),(.t 30)] 2,none⟩,
 ⟨some 32,.iaddr 1 (.t 24) (.t 25),none⟩,
 ⟨none,.store 1 (.t 32) (.t 28) .gp,none⟩,
 ⟨some 33,.iaddr 16 (.t 26) (.t 27),none⟩,
 ⟨none,.store 16 (.t 33) (.t 31) .gp,none⟩]
abbrev zz41_r8:List AI:=[
 ⟨some 34,.bin .add (.t 21) (.c (.int .i64 1)),none⟩,
 ⟨some 21,.mv false (.t 34),none⟩]
abbrev zz41_l0:ACode:=.seq (.reg false zz41_r5) (.seq (.cond (.t 22) (.skip) (.exit 0)) (.seq (.block 1 (.seq (.reg false zz41_r6) (.reg true zz41_r7))) (.reg false zz41_r8)))
abbrev zz41_r9:List AI:=[
 ⟨some 35,.mv false (.t 6),none⟩,
 ⟨some 36,.mkfunc f_zz35 [(.t 7)],none⟩,
 ⟨some 37,.call (.c (.fn f_zz5)) [(.t 35),(.t 36)] 0,none⟩]
abbrev zz41_r10:List AI:=[
 ⟨some 38,.mv false (.t 6),none⟩,
 ⟨some 4,.mv true (.t 38),none⟩,
 ⟨some 5,.mv true (.c (.int .i64 0)),none⟩]
abbrev zz41_c:ACode:=.seq (.reg false zz41_r0) (.seq (.seq (.reg false zz41_r1) (.cond (.t 14) (.seq (.reg false zz41_r2) (.ret)) (.skip))) (.seq (.reg true zz41_r3) (.seq (.seq (.reg false zz41_r4) (.block 0 (.loop zz41_l0))) (.seq (.reg false zz41_r9) (.seq (.reg false zz41_r10) (.ret))))))
def zz41_F:AFunc:=⟨39,[.tmp 4,.tmp 5],zz41_c⟩
theorem zz41_cp:compile Tryd.prog [] f_zz41=some zz41_F:=by kernel_rfl
-- loop 0: [3, 10, 36, 37, 38]
abbrev zz30_r0:List AI:=[
 ⟨some 3,.box 16 (.t 0),none⟩,
 ⟨some 6,.mv true (.c .nilS),none⟩,
 ⟨some 7,.mv true (.c (.int .i64 0)),none⟩]
abbrev zz30_r1:List AI:=[
 ⟨some 14,.load true 16 (.t 3) .any,none⟩,
 ⟨some 15,.mv false (.t 1),none⟩,
 ⟨some 16,.call (.c (.fn f_zz41)) [(.t 14),(.t 15)] 0,none⟩,
 ⟨some 13,.mv false (.t 16),none⟩,
 ⟨some 17,.ext (.t 13) 0,none⟩,
 ⟨some 18,.ext (.t 13) 1,none⟩,
 ⟨some 8,.mv true (.t 17),none⟩,
 ⟨some 9,.mv true (.t 18),none⟩]
abbrev zz30_r2:List AI:=[
 ⟨some 20,.mv false (.t 9),none⟩,
 ⟨some 21,.bin .neq (.t 20) (.c (.int .i64 0)),none⟩,
 ⟨some 19,.mv true (.t 21),none⟩]
abbrev zz30_r3:List AI:=[
 ⟨some 22,.mv false (.t 9),none⟩,
 ⟨some 6,.mv true (.c .nilS),none⟩,
 ⟨some 7,.mv true (.t 22),none⟩]
abbrev zz30_r4:List AI:=[
 ⟨some 24,.mv false (.t 2),none⟩,
 ⟨some 25,.bin .lss (.t 24) (.c (.int .i64 0)),none⟩,
 ⟨some 26,.mv false (.t 25),none⟩,
 ⟨some 27,.mv false (.t 2),some (26,false)⟩,
 ⟨some 28,.mv false (.t 1),some (26,false)⟩,
 ⟨some 29,.bin .gtr (.t 27) (.t 28),some (26,false)⟩,
 ⟨some 30,.pick (.t 26) (.c (.bool true)) (.t 29),none⟩,
 ⟨some 23,.mv true (.t 30),none⟩]
abbrev zz30_r5:List AI:=[
 ⟨some 6,.mv true (.c .nilS),none⟩,
 ⟨some 7,.mv true (.c (.int .i64 3)),none⟩]
abbrev zz30_b0:ACode:=.seq (.reg false zz30_r4) (.cond (.t 23) (.seq (.reg false zz30_r5) (.ret)) (.skip))
abbrev zz30_r6:List AI:=[
 ⟨some 31,.mv false (.t 8),none⟩,
 ⟨some 32,.mv false (.t 2),none⟩,
 ⟨some 33,.sl 1 (.t 31) none (some (.t 32)),none⟩,
 ⟨some 34,.call (.c (.fn f_zz9)) [(.t 33)] 0,none⟩,
 ⟨some 35,.call (.c (.fn f_zz21)) [(.t 34)] 0,none⟩,
 ⟨some 8,.mv true (.t 35),none⟩]
abbrev zz30_r7:List AI:=[
 ⟨some 10,.mv true (.c .nilS),none⟩]
abbrev zz30_r8:List AI:=[
 ⟨some 36,.mv false (.t 8),none⟩,
 ⟨some 37,.len false (.t 36),none⟩,
 ⟨some 38,.mv false (.c (.int .i64 0)),none⟩]
abbrev zz30_r9:List AI:=[
 ⟨some 39,.bin .lss (.t 38) (.t 37),none⟩]
abbrev zz30_r10:List AI:=[
 ⟨some 40,.iaddr 1 (.t 36) (.t 38),none⟩,
 ⟨some 41,.load false 1 (.t 40) .any,none⟩,
 ⟨some 12,.mv true (.t 41),none⟩]
abbrev zz30_r11:List AI:=[
 ⟨some 42,.mv true (.t 10),none⟩,
 ⟨some 43,.mv false (.t 12),none⟩,
 ⟨some 44,.load true 16 (.t 3) .any,none⟩,
 ⟨some 45,.mv false (.t 12),none⟩,
 ⟨some 46,.call (.c (.fn f_zz44)) [(.t 44),(.c (.int .i64 2)),(.t 45)] 0,none⟩,
 ⟨some 47,.call (.c (.fn f_zz39)) [(.t 46)] 0,none⟩,
 ⟨some 48,.bin .rem (.t 47) (.c (.int .i64 2147483646)),none⟩,
 ⟨some 49,.bin .add (.c (.int .i64 1)) (.t 48),none⟩,
 ⟨some 50,.build [(.int .i64 0),(.int .i64 0)] [(0,1,(.t 43)),(1,1,(.t 49))],none⟩,
 ⟨some 51,.mkslice 2 1 (.agg [(.int .i64 0),(.int .i64 0)]) [(0,(.t 50))],none⟩,
 ⟨some 52,.append 2 16 (.t 42) (.t 51),none⟩,
 ⟨some 10,.mv true (.t 52),none⟩]
abbrev zz30_r12:List AI:=[
 ⟨some 53,.bin .add (.t 38) (.c (.int .i64 1)),none⟩,
 ⟨some 38,.mv false (.t 53),none⟩]
abbrev zz30_l0:ACode:=.seq (.reg false zz30_r9) (.seq (.cond (.t 39) (.skip) (.exit 1)) (.seq (.block 2 (.seq (.reg false zz30_r10) (.reg false zz30_r11))) (.reg false zz30_r12)))
abbrev zz30_r13:List AI:=[
 ⟨some 54,.mv false (.t 10),none⟩,
 ⟨some 6,.mv true (.t 54),none⟩,
 ⟨some 7,.mv true (.c (.int .i64 0)),none⟩]
abbrev zz30_c:ACode:=.seq (.reg false zz30_r0) (.seq (.reg false zz30_r1) (.seq (.block 0 (.seq (.reg false zz30_r2) (.cond (.t 19) (.seq (.reg false zz30_r3) (.ret)) (zz30_b0)))) (.seq (.reg false zz30_r6) (.seq (.reg false zz30_r7) (.seq (.seq (.reg false zz30_r8) (.block 1 (.loop zz30_l0))) (.seq (.reg false zz30_r13) (.ret)))))))
def zz30_F:AFunc:=⟨55,[.tmp 6,.tmp 7],zz30_c⟩
theorem zz30_cp:compile Tryd.prog [] f_zz30=some zz30_F:=by kernel_rfl
abbrev zz26_r0:List AI:=[
 ⟨some 2,.alloc (zr 16 (.int .u8 0)),none⟩]
abbrev zz26_r1:List AI:=[
 ⟨some 3,.mkslice 1 1 (.int .i64 0) [(0,(.c (.int .i64 0)))],none⟩,
 ⟨some 4,.mv false (.t 0),none⟩,
 ⟨some 5,.append 1 8 (.t 3) (.t 4),none⟩,
 ⟨some 6,.call (.c (.fn f_zz10)) [(.t 5)] 0,none⟩,
 ⟨some 7,.call (.c (.fn f_zz29)) [(.c (.int .i64 194)),(.t 6)] 0,none⟩,
 ⟨none,.store 16 (.t 2) (.t 7) .any,none⟩]
abbrev zz26_c:ACode:=.seq (.reg false zz26_r0) (.seq (.reg false zz26_r1) (.ret))
def zz26_F:AFunc:=⟨8,[.cell 2 true 16],zz26_c⟩
theorem zz26_cp:compile Tryd.prog [] f_zz26=some zz26_F:=by kernel_rfl
abbrev zz37_r0:List AI:=[
 ⟨some 2,.mv true (.c (.bool false)),none⟩]
abbrev zz37_r1:List AI:=[
 ⟨some 3,.mv false (.t 0),none⟩,
 ⟨some 4,.bin .geq (.t 3) (.c (.int .i64 0)),none⟩,
 ⟨some 5,.mv false (.t 4),none⟩,
 ⟨some 6,.mv false (.t 0),some (5,true)⟩,
 ⟨some 7,.bin .lss (.t 6) (.c (.int .i64 12)),some (5,true)⟩,
 ⟨some 8,.pick (.t 5) (.t 7) (.c (.bool false)),none⟩,
 ⟨some 2,.mv true (.t 8),none⟩]
abbrev zz37_c:ACode:=.seq (.reg false zz37_r0) (.seq (.reg false zz37_r1) (.ret))
def zz37_F:AFunc:=⟨9,[.tmp 2],zz37_c⟩
theorem zz37_cp:compile Tryd.prog [] f_zz37=some zz37_F:=by kernel_rfl
abbrev zz31_r0:List AI:=[
 ⟨some 2,.mv true (.c (.bool false)),none⟩]
abbrev zz31_r1:List AI:=[
 ⟨some 3,.mv false (.t 0),none⟩,
 ⟨some 4,.bin .geq (.t 3) (.c (.int .i64 0)),none⟩,
 ⟨some 5,.mv false (.t 4),none⟩,
 ⟨some 6,.mv false (.t 0),some (5,true)⟩,
 ⟨some 7,.bin .lss (.t 6) (.c (.int .i64 2147483647)),some (5,true)⟩,
 ⟨some 8,.pick (.t 5) (.t 7) (.c (.bool false)),none⟩,
 ⟨some 2,.mv true (.t 8),none⟩]
abbrev zz31_c:ACode:=.seq (.reg false zz31_r0) (.seq (.reg false zz31_r1) (.ret))
def zz31_F:AFunc:=⟨9,[.tmp 2],zz31_c⟩
theorem zz31_cp:compile Tryd.prog [] f_zz31=some zz31_F:=by kernel_rfl
-- loop 0: [0, 1, 2, 7, 8]
abbrev zz40_r0:List AI:=[
 ⟨some 6,.mv true (.c .nilF),none⟩]
abbrev zz40_r1:List AI:=[
 ⟨some 9,.mv false (.t 1),none⟩,
 ⟨some 10,.mkG 1 1 (.int .i64 0) [(0,(.t 9))],none⟩,
 ⟨some 7,.gn (.alloc [.nilS]) [],none⟩,
 ⟨none,.store 1 (.t 7) (.t 10) .any,none⟩]
abbrev zz40_r2:List AI:=[
 ⟨some 8,.mv true (.c (.int .i64 1)),none⟩]
abbrev zz40_r3:List AI:=[
 ⟨some 11,.mv false (.t 8),none⟩,
 ⟨some 12,.mv false (.t 2),none⟩,
 ⟨some 13,.bin .lss (.t 11) (.t 12),none⟩]
abbrev zz40_r4:List AI:=[
 ⟨some 16,.load false 1 (.t 7) .foreign,none⟩,
 ⟨some 17,.mv false (.t 0),none⟩,
 ⟨some 18,.mv false (.t 1),none⟩,
 ⟨some 19,.mv false (.t 8),none⟩,
 ⟨some 20,.mkslice 1 3 (.int .i64 0) [(0,(.t 17)),(1,(.t 18)),(2,(.t 19))],none⟩,
 ⟨some 21,.call (.c (.fn f_zz52)) [(.c (.int .i64 192)),(.t 20)] 1,none⟩,
 ⟨some 22,.call (.c (.fn f_zz39)) [(.t 21)] 1,none⟩,
 ⟨some 23,.mkslice 1 1 (.int .i64 0) [(0,(.t 22))],none⟩,
 ⟨some 24,.appG 1 8 [(.int .i64 0)] (.t 16) (.t 23),none⟩,
 ⟨none,.store 1 (.t 7) (.t 24) .gp,none⟩]
abbrev zz40_r5:List AI:=[
 ⟨some 14,.mv false (.t 8),none⟩,
 ⟨some 15,.bin .add (.t 14) (.c (.int .i64 1)),none⟩,
 ⟨some 8,.mv true (.t 15),none⟩]
abbrev zz40_l0:ACode:=.seq (.seq (.reg false zz40_r3) (.cond (.t 13) (.skip) (.exit 0))) (.seq (.block 1 (.reg true zz40_r4)) (.reg false zz40_r5))
abbrev zz40_r6:List AI:=[
 ⟨some 25,.gd (.clo f_zz32) [(.t 7)],none⟩,
 ⟨some 6,.mv true (.t 25),none⟩]
abbrev zz40_c:ACode:=.seq (.reg false zz40_r0) (.seq (.reg false zz40_r1) (.seq (.seq (.reg false zz40_r2) (.block 0 (.loop zz40_l0))) (.seq (.reg false zz40_r6) (.ret))))
def zz40_F:AFunc:=⟨26,[.tmp 6],zz40_c⟩
theorem zz40_cp:compile Tryd.prog [7,10,24,25] f_zz40=some zz40_F:=by kernel_rfl
-- loop 0: [0, 4, 5, 8, 9, 10]
abbrev zz52_r0:List AI:=[
 ⟨some 4,.alloc (zr 16 (.int .u8 0)),none⟩]
abbrev zz52_r1:List AI:=[
 ⟨some 5,.mv true (.c .nilS),none⟩]
abbrev zz52_r2:List AI:=[
 ⟨some 8,.mv false (.t 1),none⟩,
 ⟨some 9,.len false (.t 8),none⟩,
 ⟨some 10,.mv false (.c (.int .i64 0)),none⟩]
abbrev zz52_r3:List AI:=[
 ⟨some 11,.bin .lss (.t 10) (.t 9),none⟩]
abbrev zz52_r4:List AI:=[
 ⟨some 12,.iaddr 1 (.t 8) (.t 10),none⟩,
 ⟨some 13,.load false 1 (.t 12) .any,none⟩,
 ⟨some 7,.mv true (.t 13),none⟩]
abbrev zz52_r5:List AI:=[
 ⟨some 14,.mv true (.t 5),none⟩,
 ⟨some 15,.mv false (.t 7),none⟩,
 ⟨some 16,.call (.c (.fn f_zz51)) [(.t 15)] 0,none⟩,
 ⟨some 17,.b2s (.t 16),none⟩,
 ⟨some 18,.mkslice 1 1 (.str []) [(0,(.t 17))],none⟩,
 ⟨some 19,.append 1 16 (.t 14) (.t 18),none⟩,
 ⟨some 5,.mv true (.t 19),none⟩]
abbrev zz52_r6:List AI:=[
 ⟨some 20,.bin .add (.t 10) (.c (.int .i64 1)),none⟩,
 ⟨some 10,.mv false (.t 20),none⟩]
abbrev zz52_l0:ACode:=.seq (.reg false zz52_r3) (.seq (.cond (.t 11) (.skip) (.exit 0)) (.seq (.block 1 (.seq (.reg false zz52_r4) (.reg false zz52_r5))) (.reg false zz52_r6)))
abbrev zz52_r7:List AI:=[
 ⟨some 21,.mv false (.t 0),none⟩,
 ⟨some 22,.mv false (.t 5),none⟩,
 ⟨some 23,.call (.c (.fn f_zz53)) [(.t 21),(.t 22)] 0,none⟩,
 ⟨none,.store 16 (.t 4) (.t 23) .any,none⟩]
abbrev zz52_c:ACode:=.seq (.reg false zz52_r0) (.seq (.reg false zz52_r1) (.seq (.seq (.reg false zz52_r2) (.block 0 (.loop zz52_l0))) (.seq (.reg false zz52_r7) (.ret))))
def zz52_F:AFunc:=⟨24,[.cell 4 true 16],zz52_c⟩
theorem zz52_cp:compile Tryd.prog [] f_zz52=some zz52_F:=by kernel_rfl
-- loop 0: [0, 1, 2, 3, 9, 10, 11]
-- loop 0: [0, 3, 5, 6, 7, 10, 11, 12, 18, 19, 20]
-- loop 1: [0, 3, 10, 11, 12]
abbrev zz38_r0:List AI:=[
 ⟨some 2,.mv true (.c (.int .i64 0)),none⟩]
abbrev zz38_r1:List AI:=[
 ⟨some 3,.mv true (.c (.int .i64 0)),none⟩]
abbrev zz38_r2:List AI:=[
 ⟨some 10,.mv false (.t 0),none⟩,
 ⟨some 11,.len false (.t 10),none⟩,
 ⟨some 12,.mv false (.c (.int .i64 0)),none⟩]
abbrev zz38_r3:List AI:=[
 ⟨some 13,.bin .lss (.t 12) (.t 11),none⟩]
abbrev zz38_r4:List AI:=[
 ⟨some 14,.iaddr 2 (.t 10) (.t 12),none⟩,
 ⟨some 15,.load true 2 (.t 14) .any,none⟩,
 ⟨some 5,.alloc [(.int .i64 0),(.int .i64 0)],none⟩,
 ⟨none,.store 2 (.t 5) (.t 15) .any,none⟩]
abbrev zz38_r5:List AI:=[
 ⟨some 16,.faddr 1 (.t 5),none⟩,
 ⟨some 17,.load false 1 (.t 16) .any,none⟩,
 ⟨some 6,.mv true (.t 17),none⟩,
 ⟨some 7,.mv true (.c (.int .i64 1)),none⟩]
abbrev zz38_r6:List AI:=[
 ⟨some 18,.mv false (.t 0),none⟩,
 ⟨some 19,.len false (.t 18),none⟩,
 ⟨some 20,.mv false (.c (.int .i64 0)),none⟩]
abbrev zz38_r7:List AI:=[
 ⟨some 21,.bin .lss (.t 20) (.t 19),none⟩]
abbrev zz38_r8:List AI:=[
 ⟨some 22,.iaddr 2 (.t 18) (.t 20),none⟩,
 ⟨some 23,.load true 2 (.t 22) .any,none⟩,
 ⟨some 9,.alloc [(.int .i64 0),(.int .i64 0)],none⟩,
 ⟨none,.store 2 (.t 9) (.t 23) .any,none⟩]
abbrev zz38_r9:List AI:=[
 ⟨some 24,.faddr 0 (.t 9),none⟩,
 ⟨some 25,.load false 1 (.t 24) .any,none⟩,
 ⟨some 26,.faddr 0 (.t 5),none⟩,
 ⟨some 27,.load false 1 (.t 26) .any,none⟩,
 ⟨some 28,.bin .neq (.t 25) (.t 27),none⟩]
abbrev zz38_r10:List AI:=[
 ⟨some 29,.mv false (.t 6),none⟩,
 ⟨some 30,.faddr 0 (.t 9),none⟩,
 ⟨some 31,.load false 1 (.t 30) .any,none⟩,
 ⟨some 32,.bin .mul (.t 29) (.t 31),none⟩,
 ⟨some 33,.bin .rem (.t 32) (.c (.int .i64 2147483647)),none⟩,
 ⟨some 6,.mv true (.t 33),none⟩]
abbrev zz38_r11:List AI:=[
 ⟨some 34,.mv false (.t 7),none⟩,
 ⟨some 35,.faddr 0 (.t 9),none⟩,
 ⟨some 36,.load false 1 (.t 35) .any,none⟩,
 ⟨some 37,.faddr 0 (.t 5),none⟩,
 ⟨some 38,.load false 1 (.t 37) .any,none⟩,
 ⟨some 39,.bin .sub (.t 36) (.t 38),none⟩,
 ⟨some 40,.bin .add (.t 39) (.c (.int .i64 2147483647)),none⟩,
 ⟨some 41,.bin .rem (.t 40) (.c (.int .i64 2147483647)),none⟩,
 ⟨some 42,.bin .mul (.t 34) (.t 41),none⟩,
 ⟨some 43,.bin .rem (.t 42) (.c (.int .i64 2147483647)),none⟩,
 ⟨some 7,.mv true (.t 43),none⟩]
abbrev zz38_r12:List AI:=[
 ⟨some 44,.bin .add (.t 20) (.c (.int .i64 1)),none⟩,
 ⟨some 20,.mv false (.t 44),none⟩]
abbrev zz38_l0:ACode:=.seq (.reg false zz38_r7) (.seq (.cond (.t 21) (.skip) (.exit 2)) (.seq (.block 3 (.seq (.reg false zz38_r8) (.seq (.reg false zz38_r9) (.cond (.t 28) (.seq (.reg false zz38_r10) (.reg false zz38_r11)) (.skip))))) (.reg false zz38_r12)))
abbrev zz38_r13:List AI:=[
 ⟨some 45,.mv false (.t 3),none⟩,
 ⟨some 46,.mv false (.t 6),none⟩,
 ⟨some 47,.mv false (.t 7),none⟩,
 ⟨some 48,.call (.c (.fn f_zz43)) [(.t 47),(.c (.int .i64 2147483645))] 0,none⟩,
 ⟨some 49,.bin .mul (.t 46) (.t 48),none⟩,
 ⟨some 50,.bin .add (.t 45) (.t 49),none⟩,
 ⟨some 51,.bin .rem (.t 50) (.c (.int .i64 2147483647)),none⟩,
 ⟨some 3,.mv true (.t 51),none⟩]
abbrev zz38_r14:List AI:=[
 ⟨some 52,.bin .add (.t 12) (.c (.int .i64 1)),none⟩,
 ⟨some 12,.mv false (.t 52),none⟩]
abbrev zz38_l1:ACode:=.seq (.reg false zz38_r3) (.seq (.cond (.t 13) (.skip) (.exit 0)) (.seq (.block 1 (.seq (.reg false zz38_r4) (.seq (.reg false zz38_r5) (.seq (.seq (.reg false zz38_r6) (.block 2 (.loop zz38_l0))) (.reg false zz38_r13))))) (.reg false zz38_r14)))
abbrev zz38_r15:List AI:=[
 ⟨some 53,.mv false (.t 3),none⟩,
 ⟨some 2,.mv true (.t 53),none⟩]
abbrev zz38_c:ACode:=.seq (.reg false zz38_r0) (.seq (.reg false zz38_r1) (.seq (.seq (.reg false zz38_r2) (.block 0 (.loop zz38_l1))) (.seq (.reg false zz38_r15) (.ret))))
def zz38_F:AFunc:=⟨54,[.tmp 2],zz38_c⟩
theorem zz38_cp:compile Tryd.prog [] f_zz38=some zz38_F:=by kernel_rfl
-- loop 0: [0, 1, 12, 13]
abbrev zz0_r0:List AI:=[
 ⟨some 4,.mv true (.c (.bool false)),none⟩]
abbrev zz0_r1:List AI:=[
 ⟨some 6,.mv false (.t 0),none⟩,
 ⟨some 7,.len false (.t 6),none⟩,
 ⟨some 8,.mv false (.t 1),none⟩,
 ⟨some 9,.len false (.t 8),none⟩,
 ⟨some 10,.bin .neq (.t 7) (.t 9),none⟩]
abbrev zz0_r2:List AI:=[
 ⟨some 4,.mv true (.c (.bool false)),none⟩]
abbrev zz0_r3:List AI:=[
 ⟨some 11,.mv false (.t 0),none⟩,
 ⟨some 12,.len false (.t 11),none⟩,
 ⟨some 13,.mv false (.c (.int .i64 0)),none⟩]
abbrev zz0_r4:List AI:=[
 ⟨some 14,.bin .lss (.t 13) (.t 12),none⟩]
abbrev zz0_r5:List AI:=[
 ⟨some 15,.mv false (.t 13),none⟩,
 ⟨some 5,.mv true (.t 15),none⟩]
abbrev zz0_r6:List AI:=[
 ⟨some 16,.mv false (.t 0),none⟩,
 ⟨some 17,.mv false (.t 5),none⟩,
 ⟨some 18,.iaddr 16 (.t 16) (.t 17),none⟩,
 ⟨some 19,.load true 16 (.t 18) .foreign,none⟩,
 ⟨some 20,.mv false (.t 1),none⟩,
 ⟨some 21,.mv false (.t 5),none⟩,
 ⟨some 22,.iaddr 16 (.t 20) (.t 21),none⟩,
 ⟨some 23,.load true 16 (.t 22) .foreign,none⟩,
 ⟨some 24,.eqs true (kr 16 .i) (.t 19) (.t 23),none⟩]
abbrev zz0_r7:List AI:=[
 ⟨some 4,.mv true (.c (.bool false)),none⟩]
abbrev zz0_r8:List AI:=[
 ⟨some 25,.bin .add (.t 13) (.c (.int .i64 1)),none⟩,
 ⟨some 13,.mv false (.t 25),none⟩]
abbrev zz0_l0:ACode:=.seq (.reg false zz0_r4) (.seq (.cond (.t 14) (.skip) (.exit 0)) (.seq (.block 1 (.seq (.reg false zz0_r5) (.seq (.reg true zz0_r6) (.cond (.t 24) (.seq (.reg false zz0_r7) (.ret)) (.skip))))) (.reg false zz0_r8)))
abbrev zz0_r9:List AI:=[
 ⟨some 4,.mv true (.c (.bool true)),none⟩]
abbrev zz0_c:ACode:=.seq (.reg false zz0_r0) (.seq (.seq (.reg false zz0_r1) (.cond (.t 10) (.seq (.reg false zz0_r2) (.ret)) (.skip))) (.seq (.seq (.reg false zz0_r3) (.block 0 (.loop zz0_l0))) (.seq (.reg false zz0_r9) (.ret))))
def zz0_F:AFunc:=⟨26,[.tmp 4],zz0_c⟩
theorem zz0_cp:compile Tryd.prog [] f_zz0=some zz0_F:=by kernel_rfl
-- loop 0: [1, 2, 5, 6, 7, 8]
-- loop 1: [1, 2, 5, 6]
-- loop 0: [0, 3, 4, 5, 6]
-- loop 1: [0, 3, 4]
-- loop 0: [0, 5, 6, 7]
abbrev zz19_r0:List AI:=[
 ⟨some 2,.mv true (.c (.bool false)),none⟩]
abbrev zz19_r1:List AI:=[
 ⟨some 5,.mv false (.t 0),none⟩,
 ⟨some 6,.len false (.t 5),none⟩,
 ⟨some 7,.mv false (.c (.int .i64 0)),none⟩]
abbrev zz19_r2:List AI:=[
 ⟨some 8,.bin .lss (.t 7) (.t 6),none⟩]
abbrev zz19_r3:List AI:=[
 ⟨some 9,.mv false (.t 7),none⟩,
 ⟨some 10,.iaddr 3 (.t 5) (.t 7),none⟩,
 ⟨some 11,.load true 3 (.t 10) .any,none⟩,
 ⟨some 4,.alloc [(.int .i64 0),(.int .i64 0),.nilS],none⟩,
 ⟨some 3,.mv true (.t 9),none⟩,
 ⟨none,.store 3 (.t 4) (.t 11) .any,none⟩]
abbrev zz19_r4:List AI:=[
 ⟨some 12,.load true 3 (.t 4) (.site 4),none⟩,
 ⟨some 13,.call (.c (.fn f_zz42)) [(.t 12)] 1,none⟩,
 ⟨some 14,.not (.t 13),none⟩,
 ⟨some 15,.mv false (.t 14),none⟩,
 ⟨some 16,.mv false (.t 3),some (15,false)⟩,
 ⟨some 17,.bin .gtr (.t 16) (.c (.int .i64 0)),some (15,false)⟩,
 ⟨some 18,.mv false (.t 17),some (15,false)⟩,
 ⟨some 19,.faddr 0 (.t 4),some (18,true)⟩,
 ⟨some 20,.load false 1 (.t 19) (.site 4),some (18,true)⟩,
 ⟨some 21,.mv false (.t 0),some (18,true)⟩,
 ⟨some 22,.mv false (.t 3),some (18,true)⟩,
 ⟨some 23,.bin .sub (.t 22) (.c (.int .i64 1)),some (18,true)⟩,
 ⟨some 24,.iaddr 3 (.t 21) (.t 23),some (18,true)⟩,
 ⟨some 25,.faddr 0 (.t 24),some (18,true)⟩,
 ⟨some 26,.load false 1 (.t 25) .foreign,some (18,true)⟩,
 ⟨some 27,.bin .leq (.t 20) (.t 26),some (18,true)⟩,
 ⟨some 28,.pick (.t 18) (.t 27) (.c (.bool false)),some (15,false)⟩,
 ⟨some 29,.pick (.t 15) (.c (.bool true)) (.t 28),none⟩]
abbrev zz19_r5:List AI:=[
 ⟨some 2,.mv true (.c (.bool false)),none⟩]
abbrev zz19_r6:List AI:=[
 ⟨some 30,.bin .add (.t 7) (.c (.int .i64 1)),none⟩,
 ⟨some 7,.mv false (.t 30),none⟩]
abbrev zz19_l0:ACode:=.seq (.reg false zz19_r2) (.seq (.cond (.t 8) (.skip) (.exit 0)) (.seq (.block 1 (.seq (.reg false zz19_r3) (.seq (.reg true zz19_r4) (.cond (.t 29) (.seq (.reg false zz19_r5) (.ret)) (.skip))))) (.reg false zz19_r6)))
abbrev zz19_r7:List AI:=[
 ⟨some 2,.mv true (.c (.bool true)),none⟩]
abbrev zz19_c:ACode:=.seq (.reg false zz19_r0) (.seq (.seq (.reg false zz19_r1) (.block 0 (.loop zz19_l0))) (.seq (.reg false zz19_r7) (.ret)))
def zz19_F:AFunc:=⟨31,[.tmp 2],zz19_c⟩
theorem zz19_cp:compile Tryd.prog [] f_zz19=some zz19_F:=by kernel_rfl
abbrev zz44_r0:List AI:=[
 ⟨some 3,.gn (.box 16) [(.t 0)],none⟩,
 ⟨some 6,.alloc (zr 16 (.int .u8 0)),none⟩]
abbrev zz44_r1:List AI:=[
 ⟨some 7,.mv false (.t 1),none⟩,
 ⟨some 10,.gd (.arrS 1 16 false false false) [(.t 3)],none⟩,
 ⟨some 11,.gd .b2s [(.t 10)],none⟩,
 ⟨some 12,.mv false (.t 2),none⟩,
 ⟨some 8,.call (.c (.fn f_zz51)) [(.t 7)] 1,none⟩,
 ⟨some 9,.b2s (.t 8),none⟩,
 ⟨some 13,.call (.c (.fn f_zz51)) [(.t 12)] 1,none⟩,
 ⟨some 14,.b2s (.t 13),none⟩,
 ⟨some 15,.mkslice 1 3 (.str []) [(0,(.t 9)),(1,(.t 11)),(2,(.t 14))],none⟩,
 ⟨some 16,.call (.c (.fn f_zz53)) [(.c (.int .i64 194)),(.t 15)] 1,none⟩,
 ⟨none,.store 16 (.t 6) (.t 16) (.site 6),none⟩]
abbrev zz44_c:ACode:=.seq (.reg false zz44_r0) (.seq (.reg true zz44_r1) (.ret))
def zz44_F:AFunc:=⟨17,[.cell 6 true 16],zz44_c⟩
theorem zz44_cp:compile Tryd.prog [3,11] f_zz44=some zz44_F:=by kernel_rfl
abbrev zz21_r0:List AI:=[
 ⟨some 2,.mv true (.c .nilS),none⟩]
abbrev zz21_r1:List AI:=[
 ⟨some 4,.mv false (.t 0),none⟩,
 ⟨some 5,.call (.c (.fn f_zz18)) [(.t 4)] 0,none⟩,
 ⟨some 3,.mv true (.t 5),none⟩]
abbrev zz21_r2:List AI:=[
 ⟨some 6,.mv false (.t 3),none⟩,
 ⟨some 7,.call (.c (.fn f_zz13)) [(.t 6)] 0,none⟩]
abbrev zz21_r3:List AI:=[
 ⟨some 8,.mv false (.t 3),none⟩,
 ⟨some 2,.mv true (.t 8),none⟩]
abbrev zz21_c:ACode:=.seq (.reg false zz21_r0) (.seq (.reg false zz21_r1) (.seq (.reg false zz21_r2) (.seq (.reg false zz21_r3) (.ret))))
def zz21_F:AFunc:=⟨9,[.tmp 2],zz21_c⟩
theorem zz21_cp:compile Tryd.prog [] f_zz21=some zz21_F:=by kernel_rfl
abbrev zz9_r0:List AI:=[
 ⟨some 1,.gn (.box 1) [(.t 0)],none⟩,
 ⟨some 2,.mv true (.c .nilF),none⟩]
abbrev zz9_r1:List AI:=[
 ⟨some 3,.gd (.clo f_zz6) [(.t 1)],none⟩,
 ⟨some 2,.mv true (.t 3),none⟩]
abbrev zz9_c:ACode:=.seq (.reg false zz9_r0) (.seq (.reg false zz9_r1) (.ret))
def zz9_F:AFunc:=⟨4,[.tmp 2],zz9_c⟩
theorem zz9_cp:compile Tryd.prog [1,3] f_zz9=some zz9_F:=by kernel_rfl
-- loop 0: [3, 6, 7, 8]
abbrev zz39_r0:List AI:=[
 ⟨some 1,.gn (.box 16) [(.t 0)],none⟩,
 ⟨some 2,.mv true (.c (.int .i64 0)),none⟩]
abbrev zz39_r1:List AI:=[
 ⟨some 3,.mv true (.c (.int .u64 0)),none⟩]
abbrev zz39_r2:List AI:=[
 ⟨some 6,.gd (.arrS 1 16 false true false) [(.t 1),(.c (.int .i64 8))],none⟩,
 ⟨some 7,.len false (.t 6),none⟩,
 ⟨some 8,.mv false (.c (.int .i64 0)),none⟩]
abbrev zz39_r3:List AI:=[
 ⟨some 9,.bin .lss (.t 8) (.t 7),none⟩]
abbrev zz39_r4:List AI:=[
 ⟨some 10,.iaddr 1 (.t 6) (.t 8),none⟩,
 ⟨some 11,.load false 1 (.t 10) .any,none⟩,
 ⟨some 5,.mv true (.t 11),none⟩]
abbrev zz39_r5:List AI:=[
 ⟨some 12,.mv false (.t 3),none⟩,
 ⟨some 13,.bin .shl (.t 12) (.c (.int .u64 8)),none⟩,
 ⟨some 14,.mv false (.t 5),none⟩,
 ⟨some 15,.conv .u64 (.t 14),none⟩,
 ⟨some 16,.bin .or (.t 13) (.t 15),none⟩,
 ⟨some 3,.mv true (.t 16),none⟩]
abbrev zz39_r6:List AI:=[
 ⟨some 17,.bin .add (.t 8) (.c (.int .i64 1)),none⟩,
 ⟨some 8,.mv false (.t 17),none⟩]
abbrev zz39_l0:ACode:=.seq (.reg false zz39_r3) (.seq (.cond (.t 9) (.skip) (.exit 0)) (.seq (.block 1 (.seq (.reg false zz39_r4) (.reg false zz39_r5))) (.reg false zz39_r6)))
abbrev zz39_r7:List AI:=[
 ⟨some 18,.mv false (.t 3),none⟩,
 ⟨some 19,.bin .rem (.t 18) (.c (.int .u64 2147483647)),none⟩,
 ⟨some 20,.conv .i64 (.t 19),none⟩,
 ⟨some 2,.mv true (.t 20),none⟩]
abbrev zz39_c:ACode:=.seq (.reg false zz39_r0) (.seq (.reg false zz39_r1) (.seq (.seq (.reg false zz39_r2) (.block 0 (.loop zz39_l0))) (.seq (.reg false zz39_r7) (.ret))))
def zz39_F:AFunc:=⟨21,[.tmp 2],zz39_c⟩
theorem zz39_cp:compile Tryd.prog [1] f_zz39=some zz39_F:=by kernel_rfl
-- loop 0: [1, 3, 4]
abbrev zz29_r0:List AI:=[
 ⟨some 4,.alloc (zr 16 (.int .u8 0)),none⟩]
abbrev zz29_r1:List AI:=[
 ⟨some 5,.mv false (.t 0),none⟩,
 ⟨some 6,.mv false (.t 1),none⟩,
 ⟨some 7,.call (.c (.fn f_zz15)) [(.t 5),(.t 6)] 0,none⟩,
 ⟨some 8,.call (.c (.fn f_zz16)) [(.t 7)] 0,none⟩,
 ⟨none,.store 16 (.t 4) (.t 8) .any,none⟩]
abbrev zz29_c:ACode:=.seq (.reg false zz29_r0) (.seq (.reg false zz29_r1) (.ret))
def zz29_F:AFunc:=⟨9,[.cell 4 true 16],zz29_c⟩
theorem zz29_cp:compile Tryd.prog [] f_zz29=some zz29_F:=by kernel_rfl
-- loop 0: [0, 3, 4]
abbrev zz10_r0:List AI:=[
 ⟨some 2,.mv true (.c .nilS),none⟩]
abbrev zz10_r1:List AI:=[
 ⟨some 3,.mv true (.c .nilS),none⟩]
abbrev zz10_r2:List AI:=[
 ⟨some 4,.mv true (.c (.int .i64 0)),none⟩]
abbrev zz10_r3:List AI:=[
 ⟨some 5,.mv false (.t 4),none⟩,
 ⟨some 6,.mv false (.t 0),none⟩,
 ⟨some 7,.len false (.t 6),none⟩,
 ⟨some 8,.bin .lss (.t 5) (.t 7),none⟩]
abbrev zz10_r4:List AI:=[
 ⟨some 11,.mv true (.t 3),none⟩,
 ⟨some 12,.mv false (.t 0),none⟩,
 ⟨some 13,.mv false (.t 4),none⟩,
 ⟨some 14,.iaddr 1 (.t 12) (.t 13),none⟩,
 ⟨some 15,.load false 1 (.t 14) .any,none⟩,
 ⟨some 16,.call (.c (.fn f_zz23)) [(.t 15)] 0,none⟩,
 ⟨some 17,.b2s (.t 16),none⟩,
 ⟨some 18,.mkslice 1 1 (.str []) [(0,(.t 17))],none⟩,
 ⟨some 19,.append 1 16 (.t 11) (.t 18),none⟩,
 ⟨some 3,.mv true (.t 19),none⟩]
abbrev zz10_r5:List AI:=[
 ⟨some 9,.mv false (.t 4),none⟩,
 ⟨some 10,.bin .add (.t 9) (.c (.int .i64 1)),none⟩,
 ⟨some 4,.mv true (.t 10),none⟩]
abbrev zz10_l0:ACode:=.seq (.seq (.reg false zz10_r3) (.cond (.t 8) (.skip) (.exit 0))) (.seq (.block 1 (.reg false zz10_r4)) (.reg false zz10_r5))
abbrev zz10_r6:List AI:=[
 ⟨some 20,.mv false (.t 3),none⟩,
 ⟨some 2,.mv true (.t 20),none⟩]
abbrev zz10_c:ACode:=.seq (.reg false zz10_r0) (.seq (.reg false zz10_r1) (.seq (.seq (.reg false zz10_r2) (.block 0 (.loop zz10_l0))) (.seq (.reg false zz10_r6) (.ret))))
def zz10_F:AFunc:=⟨21,[.tmp 2],zz10_c⟩
theorem zz10_cp:compile Tryd.prog [] f_zz10=some zz10_F:=by kernel_rfl
-- loop 0: [2, 4, 10]
abbrev zz32_r0:List AI:=[
 ⟨some 2,.gn (.box 1) [(.t 0)],none⟩,
 ⟨some 3,.mv true (.c (.int .i64 0)),none⟩]
abbrev zz32_r1:List AI:=[
 ⟨some 4,.gn (.alloc [(.int .i64 0)]) [],none⟩,
 ⟨none,.store 1 (.t 4) (.c (.int .i64 0)) .any,none⟩]
abbrev zz32_r2:List AI:=[
 ⟨some 7,.load false 1 (.t 1) .any,none⟩,
 ⟨some 8,.call (.c (.fn f_zz4)) [(.t 7)] 0,none⟩]
abbrev zz32_r3:List AI:=[
 ⟨some 6,.mv true (.t 10),none⟩]
abbrev zz32_r4:List AI:=[
 ⟨some 11,.load false 1 (.t 4) .any,none⟩,
 ⟨some 12,.load false 1 (.t 2) .any,none⟩,
 ⟨some 13,.bin .mul (.t 11) (.t 12),none⟩,
 ⟨some 14,.mv false (.t 6),none⟩,
 ⟨some 15,.bin .add (.t 13) (.t 14),none⟩,
 ⟨some 16,.bin .rem (.t 15) (.c (.int .i64 2147483647)),none⟩,
 ⟨none,.store 1 (.t 4) (.t 16) .any,none⟩]
abbrev draw_sharer_1_y0a:ACode:=.reg false zz32_r3
abbrev draw_sharer_1_y0b:ACode:=.block 1 (.reg false zz32_r4)
abbrev zz32_r5:List AI:=[
 ⟨some 17,.load false 1 (.t 4) .any,none⟩,
 ⟨some 3,.mv true (.t 17),none⟩]
abbrev zz32_c:ACode:=.seq (.reg false zz32_r0) (.seq (.reg false zz32_r1) (.seq (.seq (.reg false zz32_r2) (.block 0 (.rangeF (.t 8) [9,10] draw_sharer_1_y0a draw_sharer_1_y0b))) (.seq (.reg false zz32_r5) (.ret))))
def zz32_F:AFunc:=⟨18,[.tmp 3],zz32_c⟩
theorem zz32_cp:compile Tryd.prog [2,4] f_zz32=some zz32_F:=by kernel_rfl
abbrev zz4_r0:List AI:=[
 ⟨some 1,.gn (.box 1) [(.t 0)],none⟩,
 ⟨some 2,.mv true (.c .nilF),none⟩]
abbrev zz4_r1:List AI:=[
 ⟨some 3,.gd (.clo f_zz2) [(.t 1)],none⟩,
 ⟨some 2,.mv true (.t 3),none⟩]
abbrev zz4_c:ACode:=.seq (.reg false zz4_r0) (.seq (.reg false zz4_r1) (.ret))
def zz4_F:AFunc:=⟨4,[.tmp 2],zz4_c⟩
theorem zz4_cp:compile Tryd.prog [1,3] f_zz4=some zz4_F:=by kernel_rfl
-- loop 0: [3, 4]
abbrev zz51_r0:List AI:=[
 ⟨some 2,.mv true (.c .nilS),none⟩]
abbrev zz51_r1:List AI:=[
 ⟨some 5,.mv false (.t 0),none⟩,
 ⟨some 6,.conv .u64 (.t 5),none⟩,
 ⟨some 7,.bin .shl (.t 6) (.c (.int .u64 1)),none⟩,
 ⟨some 8,.mv false (.t 0),none⟩,
 ⟨some 9,.bin .shr (.t 8) (.c (.int .u64 63)),none⟩,
 ⟨some 10,.conv .u64 (.t 9),none⟩,
 ⟨some 11,.bin .xor (.t 7) (.t 10),none⟩,
 ⟨some 3,.mv true (.t 11),none⟩]
abbrev zz51_r2:List AI:=[
 ⟨some 4,.mv true (.c .nilS),none⟩]
abbrev zz51_r3:List AI:=[
 ⟨some 12,.mv false (.t 3),none⟩,
 ⟨some 13,.bin .gtr (.t 12) (.c (.int .u64 127)),none⟩]
abbrev zz51_r4:List AI:=[
 ⟨some 16,.mv true (.t 4),none⟩,
 ⟨some 17,.mv false (.t 3),none⟩,
 ⟨some 18,.conv .u8 (.t 17),none⟩,
 ⟨some 19,.bin .or (.t 18) (.c (.int .u8 128)),none⟩,
 ⟨some 20,.mkslice 1 1 (.int .u8 0) [(0,(.t 19))],none⟩,
 ⟨some 21,.appG 1 1 [(.int .u8 0)] (.t 16) (.t 20),none⟩,
 ⟨some 4,.mv true (.t 21),none⟩]
abbrev zz51_r5:List AI:=[
 ⟨some 14,.mv false (.t 3),none⟩,
 ⟨some 15,.bin .shr (.t 14) (.c (.int .u64 7)),none⟩,
 ⟨some 3,.mv true (.t 15),none⟩]
abbrev zz51_l0:ACode:=.seq (.seq (.reg false zz51_r3) (.cond (.t 13) (.skip) (.exit 0))) (.seq (.block 1 (.reg false zz51_r4)) (.reg false zz51_r5))
abbrev zz51_r6:List AI:=[
 ⟨some 22,.mv true (.t 4),none⟩,
 ⟨some 23,.mv false (.t 3),none⟩,
 ⟨some 24,.conv .u8 (.t 23),none⟩,
 ⟨some 25,.mkslice 1 1 (.int .u8 0) [(0,(.t 24))],none⟩,
 ⟨some 26,.appG 1 1 [(.int .u8 0)] (.t 22) (.t 25),none⟩,
 ⟨some 2,.mv true (.t 26),none⟩]
abbrev zz51_c:ACode:=.seq (.reg false zz51_r0) (.seq (.reg false zz51_r1) (.seq (.reg false zz51_r2) (.seq (.block 0 (.loop zz51_l0)) (.seq (.reg false zz51_r6) (.ret)))))
def zz51_F:AFunc:=⟨27,[.tmp 2],zz51_c⟩
theorem zz51_cp:compile Tryd.prog [21,26] f_zz51=some zz51_F:=by kernel_rfl
-- loop 0: [4, 5, 15, 16, 17]
abbrev zz53_r0:List AI:=[
 ⟨some 4,.alloc (zr 16 (.int .u8 0)),none⟩]
abbrev zz53_r1:List AI:=[
 ⟨some 10,.mv false (.t 0),none⟩,
 ⟨some 11,.conv .u8 (.t 10),none⟩,
 ⟨some 12,.mkslice 1 1 (.int .u8 0) [(0,(.t 11))],none⟩,
 ⟨some 13,.b2s (.t 12),none⟩,
 ⟨some 5,.alloc (zr 8 (.int .u32 0) ++ zr 64 (.int .u8 0) ++ [(.int .u64 0)]),none⟩,
 ⟨some 9,.call (.c (.fn f_zz45)) [] 2,none⟩,
 ⟨some 14,.call (.c (.fn f_zz27)) [(.t 9),(.t 13)] 2,none⟩,
 ⟨none,.store 73 (.t 5) (.t 14) (.site 5),none⟩]
abbrev zz53_r2:List AI:=[
 ⟨some 15,.mv false (.t 1),none⟩,
 ⟨some 16,.len false (.t 15),none⟩,
 ⟨some 17,.mv false (.c (.int .i64 0)),none⟩]
abbrev zz53_r3:List AI:=[
 ⟨some 18,.bin .lss (.t 17) (.t 16),none⟩]
abbrev zz53_r4:List AI:=[
 ⟨some 19,.iaddr 1 (.t 15) (.t 17),none⟩,
 ⟨some 20,.load false 1 (.t 19) .any,none⟩,
 ⟨some 7,.mv true (.t 20),none⟩]
abbrev zz53_r5:List AI:=[
 ⟨some 21,.load true 73 (.t 5) (.site 5),none⟩,
 ⟨some 22,.mv false (.t 7),none⟩,
 ⟨some 23,.call (.c (.fn f_zz46)) [(.t 22)] 2,none⟩,
 ⟨some 24,.b2s (.t 23),none⟩,
 ⟨some 25,.call (.c (.fn f_zz27)) [(.t 21),(.t 24)] 2,none⟩,
 ⟨none,.store 73 (.t 5) (.t 25) (.site 5),none⟩]
abbrev zz53_r6:List AI:=[
 ⟨some 26,.bin .add (.t 17) (.c (.int .i64 1)),none⟩,
 ⟨some 17,.mv false (.t 26),none⟩]
abbrev zz53_l0:ACode:=.seq (.reg false zz53_r3) (.seq (.cond (.t 18) (.skip) (.exit 0)) (.seq (.block 1 (.seq (.reg false zz53_r4) (.reg true zz53_r5))) (.reg false zz53_r6)))
abbrev zz53_r7:List AI:=[
 ⟨some 27,.load true 73 (.t 5) .any,none⟩,
 ⟨some 28,.call (.c (.fn f_zz28)) [(.t 27)] 0,none⟩,
 ⟨some 8,.gn (.alloc (zr 32 (.int .u8 0))) [],none⟩,
 ⟨none,.store 32 (.t 8) (.t 28) .any,none⟩]
abbrev zz53_r8:List AI:=[
 ⟨some 29,.gd (.arrS 1 32 false true false) [(.t 8),(.c (.int .i64 16))],none⟩,
 ⟨some 30,.gd (.s2a 16) [(.t 29)],none⟩,
 ⟨some 31,.load true 16 (.t 30) .any,none⟩,
 ⟨none,.store 16 (.t 4) (.t 31) .any,none⟩]
abbrev zz53_c:ACode:=.seq (.reg false zz53_r0) (.seq (.reg true zz53_r1) (.seq (.seq (.reg false zz53_r2) (.block 0 (.loop zz53_l0))) (.seq (.reg false zz53_r7) (.seq (.reg false zz53_r8) (.ret)))))
def zz53_F:AFunc:=⟨32,[.cell 4 true 16],zz53_c⟩
theorem zz53_cp:compile Tryd.prog [8] f_zz53=some zz53_F:=by kernel_rfl
-- loop 0: [0, 1, 5]
abbrev zz43_r0:List AI:=[
 ⟨some 4,.mv true (.c (.int .i64 0)),none⟩]
abbrev zz43_r1:List AI:=[
 ⟨some 5,.mv true (.c (.int .i64 1)),none⟩]
abbrev zz43_r2:List AI:=[
 ⟨some 6,.mv false (.t 1),none⟩,
 ⟨some 7,.bin .gtr (.t 6) (.c (.int .i64 0)),none⟩]
abbrev zz43_r3:List AI:=[
 ⟨some 10,.mv false (.t 1),none⟩,
 ⟨some 11,.bin .and (.t 10) (.c (.int .i64 1)),none⟩,
 ⟨some 12,.bin .eql (.t 11) (.c (.int .i64 1)),none⟩]
abbrev zz43_r4:List AI:=[
 ⟨some 13,.mv false (.t 5),none⟩,
 ⟨some 14,.mv false (.t 0),none⟩,
 ⟨some 15,.bin .mul (.t 13) (.t 14),none⟩,
 ⟨some 16,.bin .rem (.t 15) (.c (.int .i64 2147483647)),none⟩,
 ⟨some 5,.mv true (.t 16),none⟩]
abbrev zz43_r5:List AI:=[
 ⟨some 17,.mv false (.t 0),none⟩,
 ⟨some 18,.mv false (.t 0),none⟩,
 ⟨some 19,.bin .mul (.t 17) (.t 18),none⟩,
 ⟨some 20,.bin .rem (.t 19) (.c (.int .i64 2147483647)),none⟩,
 ⟨some 0,.mv true (.t 20),none⟩]
abbrev zz43_r6:List AI:=[
 ⟨some 8,.mv false (.t 1),none⟩,
 ⟨some 9,.bin .shr (.t 8) (.c (.int .u64 1)),none⟩,
 ⟨some 1,.mv true (.t 9),none⟩]
abbrev zz43_l0:ACode:=.seq (.seq (.reg false zz43_r2) (.cond (.t 7) (.skip) (.exit 0))) (.seq (.block 1 (.seq (.seq (.reg false zz43_r3) (.cond (.t 12) (.reg false zz43_r4) (.skip))) (.reg false zz43_r5))) (.reg false zz43_r6))
abbrev zz43_r7:List AI:=[
 ⟨some 21,.mv false (.t 5),none⟩,
 ⟨some 4,.mv true (.t 21),none⟩]
abbrev zz43_c:ACode:=.seq (.reg false zz43_r0) (.seq (.reg false zz43_r1) (.seq (.block 0 (.loop zz43_l0)) (.seq (.reg false zz43_r7) (.ret))))
def zz43_F:AFunc:=⟨22,[.tmp 4],zz43_c⟩
theorem zz43_cp:compile Tryd.prog [] f_zz43=some zz43_F:=by kernel_rfl
-- loop 0: [3, 4, 5]
-- loop 0: [1, 3, 4]
-- loop 0: [3, 4]
abbrev zz23_r0:List AI:=[
 ⟨some 2,.mv true (.c .nilS),none⟩]
abbrev zz23_r1:List AI:=[
 ⟨some 5,.mv false (.t 0),none⟩,
 ⟨some 6,.conv .u64 (.t 5),none⟩,
 ⟨some 7,.bin .mul (.t 6) (.c (.int .u64 2)),none⟩,
 ⟨some 3,.mv true (.t 7),none⟩]
abbrev zz23_r2:List AI:=[
 ⟨some 8,.mv false (.t 0),none⟩,
 ⟨some 9,.bin .lss (.t 8) (.c (.int .i64 0)),none⟩]
abbrev zz23_r3:List AI:=[
 ⟨some 10,.mv false (.t 0),none⟩,
 ⟨some 11,.bin .sub (.c (.int .i64 (-1))) (.t 10),none⟩,
 ⟨some 12,.conv .u64 (.t 11),none⟩,
 ⟨some 13,.bin .mul (.t 12) (.c (.int .u64 2)),none⟩,
 ⟨some 14,.bin .add (.t 13) (.c (.int .u64 1)),none⟩,
 ⟨some 3,.mv true (.t 14),none⟩]
abbrev zz23_r4:List AI:=[
 ⟨some 4,.mv true (.c .nilS),none⟩]
abbrev zz23_r5:List AI:=[
 ⟨some 15,.mv false (.t 3),none⟩,
 ⟨some 16,.bin .geq (.t 15) (.c (.int .u64 128)),none⟩]
abbrev zz23_r6:List AI:=[
 ⟨some 17,.mv true (.t 4),none⟩,
 ⟨some 18,.mv false (.t 3),none⟩,
 ⟨some 19,.bin .rem (.t 18) (.c (.int .u64 128)),none⟩,
 ⟨some 20,.conv .u8 (.t 19),none⟩,
 ⟨some 21,.bin .add (.t 20) (.c (.int .u8 128)),none⟩,
 ⟨some 22,.mkslice 1 1 (.int .u8 0) [(0,(.t 21))],none⟩,
 ⟨some 23,.appG 1 1 [(.int .u8 0)] (.t 17) (.t 22),none⟩,
 ⟨some 4,.mv true (.t 23),none⟩]
abbrev zz23_r7:List AI:=[
 ⟨some 24,.mv false (.t 3),none⟩,
 ⟨some 25,.bin .quo (.t 24) (.c (.int .u64 128)),none⟩,
 ⟨some 3,.mv true (.t 25),none⟩]
abbrev zz23_l0:ACode:=.seq (.seq (.reg false zz23_r5) (.cond (.t 16) (.skip) (.exit 0))) (.block 1 (.seq (.reg false zz23_r6) (.reg false zz23_r7)))
abbrev zz23_r8:List AI:=[
 ⟨some 26,.mv true (.t 4),none⟩,
 ⟨some 27,.mv false (.t 3),none⟩,
 ⟨some 28,.conv .u8 (.t 27),none⟩,
 ⟨some 29,.mkslice 1 1 (.int .u8 0) [(0,(.t 28))],none⟩,
 ⟨some 30,.appG 1 1 [(.int .u8 0)] (.t 26) (.t 29),none⟩,
 ⟨some 2,.mv true (.t 30),none⟩]
abbrev zz23_c:ACode:=.seq (.reg false zz23_r0) (.seq (.reg false zz23_r1) (.seq (.seq (.reg false zz23_r2) (.cond (.t 9) (.reg false zz23_r3) (.skip))) (.seq (.reg false zz23_r4) (.seq (.block 0 (.loop zz23_l0)) (.seq (.reg false zz23_r8) (.ret))))))
def zz23_F:AFunc:=⟨31,[.tmp 2],zz23_c⟩
theorem zz23_cp:compile Tryd.prog [23,30] f_zz23=some zz23_F:=by kernel_rfl
abbrev zz18_r0:List AI:=[
 ⟨some 2,.mv true (.c .nilS),none⟩]
abbrev zz18_r1:List AI:=[
 ⟨some 3,.mv false (.t 0),none⟩,
 ⟨some 4,.call (.c (.fn f_zz3)) [(.c .nilS),(.t 3)] 0,none⟩,
 ⟨some 2,.mv true (.t 4),none⟩]
abbrev zz18_c:ACode:=.seq (.reg false zz18_r0) (.seq (.reg false zz18_r1) (.ret))
def zz18_F:AFunc:=⟨5,[.tmp 2],zz18_c⟩
theorem zz18_cp:compile Tryd.prog [] f_zz18=some zz18_F:=by kernel_rfl
-- loop 0: [0, 5, 6, 7]
abbrev zz6_r0:List AI:=[
 ⟨some 5,.load false 1 (.t 1) .any,none⟩,
 ⟨some 6,.len false (.t 5),none⟩,
 ⟨some 7,.mv false (.c (.int .i64 0)),none⟩]
abbrev zz6_r1:List AI:=[
 ⟨some 8,.bin .lss (.t 7) (.t 6),none⟩]
abbrev zz6_r2:List AI:=[
 ⟨some 9,.iaddr 1 (.t 5) (.t 7),none⟩,
 ⟨some 10,.load false 1 (.t 9) .any,none⟩,
 ⟨some 4,.mv true (.t 10),none⟩]
abbrev zz6_r3:List AI:=[
 ⟨some 11,.mv false (.t 0),none⟩,
 ⟨some 12,.mv false (.t 4),none⟩,
 ⟨some 13,.call (.t 11) [(.t 12)] 0,none⟩,
 ⟨some 14,.not (.t 13),none⟩]
abbrev zz6_r4:List AI:=[
 ⟨some 15,.bin .add (.t 7) (.c (.int .i64 1)),none⟩,
 ⟨some 7,.mv false (.t 15),none⟩]
abbrev zz6_l0:ACode:=.seq (.reg false zz6_r1) (.seq (.cond (.t 8) (.skip) (.exit 0)) (.seq (.block 1 (.seq (.reg false zz6_r2) (.seq (.reg false zz6_r3) (.cond (.t 14) (.ret) (.skip))))) (.reg false zz6_r4)))
abbrev zz6_c:ACode:=.seq (.reg false zz6_r0) (.block 0 (.loop zz6_l0))
def zz6_F:AFunc:=⟨16,[],zz6_c⟩
theorem zz6_cp:compile Tryd.prog [] f_zz6=some zz6_F:=by kernel_rfl
-- loop 0: [2, 3, 4, 5]
abbrev zz16_r0:List AI:=[
 ⟨some 2,.alloc (zr 16 (.int .u8 0)),none⟩]
abbrev zz16_r1:List AI:=[
 ⟨some 6,.mv false (.t 0),none⟩,
 ⟨some 7,.call (.c (.fn f_zz24)) [(.t 6)] 0,none⟩,
 ⟨some 3,.alloc (zr 32 (.int .u8 0)),none⟩,
 ⟨none,.store 32 (.t 3) (.t 7) .any,none⟩]
abbrev zz16_r2:List AI:=[
 ⟨some 8,.build (zr 16 (.int .u8 0)) [],none⟩,
 ⟨some 4,.alloc (zr 16 (.int .u8 0)),none⟩,
 ⟨none,.store 16 (.t 4) (.t 8) .any,none⟩]
abbrev zz16_r3:List AI:=[
 ⟨some 5,.mv true (.c (.int .i64 0)),none⟩]
abbrev zz16_r4:List AI:=[
 ⟨some 9,.mv false (.t 5),none⟩,
 ⟨some 10,.bin .lss (.t 9) (.c (.int .i64 16)),none⟩]
abbrev zz16_r5:List AI:=[
 ⟨some 13,.mv false (.t 5),none⟩,
 ⟨some 14,.mv false (.t 5),none⟩,
 ⟨some 15,.iaddrA 32 1 (.t 3) (.t 14),none⟩,
 ⟨some 16,.load false 1 (.t 15) .any,none⟩,
 ⟨some 17,.iaddrA 16 1 (.t 4) (.t 13),none⟩,
 ⟨none,.store 1 (.t 17) (.t 16) .any,none⟩]
abbrev zz16_r6:List AI:=[
 ⟨some 11,.mv false (.t 5),none⟩,
 ⟨some 12,.bin .add (.t 11) (.c (.int .i64 1)),none⟩,
 ⟨some 5,.mv true (.t 12),none⟩]
abbrev zz16_l0:ACode:=.seq (.seq (.reg false zz16_r4) (.cond (.t 10) (.skip) (.exit 0))) (.seq (.block 1 (.reg false zz16_r5)) (.reg false zz16_r6))
abbrev zz16_r7:List AI:=[
 ⟨some 18,.load true 16 (.t 4) .any,none⟩,
 ⟨none,.store 16 (.t 2) (.t 18) .any,none⟩]
abbrev zz16_c:ACode:=.seq (.reg false zz16_r0) (.seq (.reg false zz16_r1) (.seq (.reg false zz16_r2) (.seq (.seq (.reg false zz16_r3) (.block 0 (.loop zz16_l0))) (.seq (.reg false zz16_r7) (.ret)))))
def zz16_F:AFunc:=⟨19,[.cell 2 true 16],zz16_c⟩
theorem zz16_cp:compile Tryd.prog [] f_zz16=some zz16_F:=by kernel_rfl
-- loop 0: [1, 5, 6]
abbrev zz15_r0:List AI:=[
 ⟨some 4,.mv true (.c .nilS),none⟩]
abbrev zz15_r1:List AI:=[
 ⟨some 7,.mv false (.t 0),none⟩,
 ⟨some 8,.conv .u8 (.t 7),none⟩,
 ⟨some 9,.mkslice 1 1 (.int .u8 0) [(0,(.t 8))],none⟩,
 ⟨some 5,.mv true (.t 9),none⟩]
abbrev zz15_r2:List AI:=[
 ⟨some 6,.mv true (.c (.int .i64 0)),none⟩]
abbrev zz15_r3:List AI:=[
 ⟨some 10,.mv false (.t 6),none⟩,
 ⟨some 11,.mv false (.t 1),none⟩,
 ⟨some 12,.len false (.t 11),none⟩,
 ⟨some 13,.bin .lss (.t 10) (.t 12),none⟩]
abbrev zz15_r4:List AI:=[
 ⟨some 16,.mv true (.t 5),none⟩,
 ⟨some 17,.mv false (.t 1),none⟩,
 ⟨some 18,.mv false (.t 6),none⟩,
 ⟨some 19,.iaddr 1 (.t 17) (.t 18),none⟩,
 ⟨some 20,.load false 1 (.t 19) .any,none⟩,
 ⟨some 21,.call (.c (.fn f_zz14)) [(.t 20)] 0,none⟩,
 ⟨some 22,.append 1 1 (.t 16) (.t 21),none⟩,
 ⟨some 5,.mv true (.t 22),none⟩]
abbrev zz15_r5:List AI:=[
 ⟨some 14,.mv false (.t 6),none⟩,
 ⟨some 15,.bin .add (.t 14) (.c (.int .i64 1)),none⟩,
 ⟨some 6,.mv true (.t 15),none⟩]
abbrev zz15_l0:ACode:=.seq (.seq (.reg false zz15_r3) (.cond (.t 13) (.skip) (.exit 0))) (.seq (.block 1 (.reg false zz15_r4)) (.reg false zz15_r5))
abbrev zz15_r6:List AI:=[
 ⟨some 23,.mv false (.t 5),none⟩,
 ⟨some 4,.mv true (.t 23),none⟩]
abbrev zz15_c:ACode:=.seq (.reg false zz15_r0) (.seq (.reg false zz15_r1) (.seq (.seq (.reg false zz15_r2) (.block 0 (.loop zz15_l0))) (.seq (.reg false zz15_r6) (.ret))))
def zz15_F:AFunc:=⟨24,[.tmp 4],zz15_c⟩
theorem zz15_cp:compile Tryd.prog [] f_zz15=some zz15_F:=by kernel_rfl
-- loop 0: [0, 1, 3]
abbrev zz2_r0:List AI:=[
 ⟨some 4,.load false 1 (.t 1) .any,none⟩,
 ⟨some 5,.len false (.t 4),none⟩,
 ⟨some 6,.bin .sub (.t 5) (.c (.int .i64 1)),none⟩,
 ⟨some 3,.mv true (.t 6),none⟩]
abbrev zz2_r1:List AI:=[
 ⟨some 7,.mv false (.t 3),none⟩,
 ⟨some 8,.bin .geq (.t 7) (.c (.int .i64 0)),none⟩]
abbrev zz2_r2:List AI:=[
 ⟨some 11,.mv false (.t 0),none⟩,
 ⟨some 12,.mv false (.t 3),none⟩,
 ⟨some 13,.load false 1 (.t 1) .any,none⟩,
 ⟨some 14,.mv false (.t 3),none⟩,
 ⟨some 15,.iaddr 1 (.t 13) (.t 14),none⟩,
 ⟨some 16,.load false 1 (.t 15) .any,none⟩,
 ⟨some 17,.call (.t 11) [(.t 12),(.t 16)] 0,none⟩,
 ⟨some 18,.not (.t 17),none⟩]
abbrev zz2_r3:List AI:=[
 ⟨some 9,.mv false (.t 3),none⟩,
 ⟨some 10,.bin .sub (.t 9) (.c (.int .i64 1)),none⟩,
 ⟨some 3,.mv true (.t 10),none⟩]
abbrev zz2_l0:ACode:=.seq (.seq (.reg false zz2_r1) (.cond (.t 8) (.skip) (.exit 0))) (.seq (.block 1 (.seq (.reg false zz2_r2) (.cond (.t 18) (.ret) (.skip)))) (.reg false zz2_r3))
abbrev zz2_c:ACode:=.seq (.reg false zz2_r0) (.block 0 (.loop zz2_l0))
def zz2_F:AFunc:=⟨19,[],zz2_c⟩
theorem zz2_cp:compile Tryd.prog [] f_zz2=some zz2_F:=by kernel_rfl
abbrev zz45_r0:List AI:=[
 ⟨some 0,.alloc (zr 8 (.int .u32 0) ++ zr 64 (.int .u8 0) ++ [(.int .u64 0)]),none⟩]
abbrev zz45_r1:List AI:=[
 ⟨some 1,.build (zr 8 (.int .u32 0)) [(0,1,(.c (.int .u32 1779033703))),(1,1,(.c (.int .u32 3144134277))),(2,1,(.c (.int .u32 1013904242))),(3,1,(.c (.int .u32 2773480762))),(4,1,(.c (.int .u32 1359893119))),(5,1,(.c (.int .u32 2600822924))),(6,1,(.c (.int .u32 528734635))),(7,1,(.c (.int .u32 1541459225)))],none⟩,
 ⟨some 2,.build (zr 8 (.int .u32 0) ++ zr 64 (.int .u8 0) ++ [(.int .u64 0)]) [(0,8,(.t 1))],none⟩,
 ⟨none,.store 73 (.t 0) (.t 2) .any,none⟩]
abbrev zz45_c:ACode:=.seq (.reg false zz45_r0) (.seq (.reg false zz45_r1) (.ret))
def zz45_F:AFunc:=⟨3,[.cell 0 true 73],zz45_c⟩
theorem zz45_cp:compile Tryd.prog [] f_zz45=some zz45_F:=by kernel_rfl
-- loop 0: [1, 2, 4]
abbrev zz27_r0:List AI:=[
 ⟨some 2,.gn (.box 73) [(.t 0)],none⟩,
 ⟨some 4,.alloc (zr 8 (.int .u32 0) ++ zr 64 (.int .u8 0) ++ [(.int .u64 0)]),none⟩]
abbrev zz27_r1:List AI:=[
 ⟨some 7,.mv false (.t 1),none⟩,
 ⟨some 8,.bin .neq (.t 7) (.c (.str [])),none⟩]
abbrev zz27_r2:List AI:=[
 ⟨some 9,.faddr 72 (.t 2),none⟩,
 ⟨some 10,.load false 1 (.t 9) .any,none⟩,
 ⟨some 11,.bin .rem (.t 10) (.c (.int .u64 64)),none⟩,
 ⟨some 12,.conv .i64 (.t 11),none⟩,
 ⟨some 5,.mv true (.t 12),none⟩]
abbrev zz27_r3:List AI:=[
 ⟨some 13,.faddr 8 (.t 2),none⟩,
 ⟨some 14,.mv false (.t 5),none⟩,
 ⟨some 15,.gd (.arrS 1 64 true false false) [(.t 13),(.t 14)],none⟩,
 ⟨some 16,.mv false (.t 1),none⟩,
 ⟨some 17,.gd .copyS [(.t 15),(.t 16)],none⟩,
 ⟨some 6,.mv true (.t 17),none⟩]
abbrev zz27_r4:List AI:=[
 ⟨some 18,.mv false (.t 1),none⟩,
 ⟨some 19,.mv false (.t 6),none⟩,
 ⟨some 20,.slS (.t 18) (some (.t 19)) none,none⟩,
 ⟨some 1,.mv true (.t 20),none⟩]
abbrev zz27_r5:List AI:=[
 ⟨some 21,.faddr 72 (.t 2),none⟩,
 ⟨some 22,.load false 1 (.t 21) .any,none⟩,
 ⟨some 23,.mv false (.t 6),none⟩,
 ⟨some 24,.conv .u64 (.t 23),none⟩,
 ⟨some 25,.bin .add (.t 22) (.t 24),none⟩,
 ⟨some 26,.faddr 72 (.t 2),none⟩,
 ⟨none,.store 1 (.t 26) (.t 25) .any,none⟩]
abbrev zz27_r6:List AI:=[
 ⟨some 27,.mv false (.t 5),none⟩,
 ⟨some 28,.mv false (.t 6),none⟩,
 ⟨some 29,.bin .add (.t 27) (.t 28),none⟩,
 ⟨some 30,.bin .eql (.t 29) (.c (.int .i64 64)),none⟩]
abbrev zz27_r7:List AI:=[
 ⟨some 31,.faddr 0 (.t 2),none⟩,
 ⟨some 32,.load true 8 (.t 31) .foreign,none⟩,
 ⟨some 33,.faddr 8 (.t 2),none⟩,
 ⟨some 34,.gd (.arrS 1 64 false false false) [(.t 33)],none⟩,
 ⟨some 35,.call (.c (.fn f_zz33)) [(.t 32),(.t 34)] 1,none⟩,
 ⟨some 36,.faddr 0 (.t 2),none⟩,
 ⟨none,.store 8 (.t 36) (.t 35) .gp,none⟩]
abbrev zz27_l0:ACode:=.seq (.seq (.reg false zz27_r1) (.cond (.t 8) (.skip) (.exit 0))) (.block 1 (.seq (.reg false zz27_r2) (.seq (.reg false zz27_r3) (.seq (.reg false zz27_r4) (.seq (.reg false zz27_r5) (.seq (.reg false zz27_r6) (.cond (.t 30) (.reg true zz27_r7) (.skip))))))))
abbrev zz27_r8:List AI:=[
 ⟨some 37,.load true 73 (.t 2) .any,none⟩,
 ⟨none,.store 73 (.t 4) (.t 37) .any,none⟩]
abbrev zz27_c:ACode:=.seq (.reg false zz27_r0) (.seq (.block 0 (.loop zz27_l0)) (.seq (.reg false zz27_r8) (.ret)))
def zz27_F:AFunc:=⟨38,[.cell 4 true 73],zz27_c⟩
theorem zz27_cp:compile Tryd.prog [2] f_zz27=some zz27_F:=by kernel_rfl
abbrev zz46_r0:List AI:=[
 ⟨some 2,.mv true (.c .nilS),none⟩]
abbrev zz46_r1:List AI:=[
 ⟨some 3,.mv false (.t 0),none⟩,
 ⟨some 4,.len true (.t 3),none⟩,
 ⟨some 5,.call (.c (.fn f_zz51)) [(.t 4)] 0,none⟩,
 ⟨some 6,.mv false (.t 0),none⟩,
 ⟨some 7,.appG 1 1 [(.int .u8 0)] (.t 5) (.t 6),none⟩,
 ⟨some 2,.mv true (.t 7),none⟩]
abbrev zz46_c:ACode:=.seq (.reg false zz46_r0) (.seq (.reg false zz46_r1) (.ret))
def zz46_F:AFunc:=⟨8,[.tmp 2],zz46_c⟩
theorem zz46_cp:compile Tryd.prog [7] f_zz46=some zz46_F:=by kernel_rfl
-- loop 0: [1, 2, 3, 4]
-- loop 1: [1, 2, 3, 4, 23]
-- loop 2: [1, 2, 6, 40]
abbrev zz28_r0:List AI:=[
 ⟨some 1,.box 73 (.t 0),none⟩,
 ⟨some 2,.alloc (zr 32 (.int .u8 0)),none⟩]
abbrev zz28_r1:List AI:=[
 ⟨some 8,.faddr 72 (.t 1),none⟩,
 ⟨some 9,.load false 1 (.t 8) .any,none⟩,
 ⟨some 10,.bin .mul (.c (.int .u64 8)) (.t 9),none⟩,
 ⟨some 3,.mv true (.t 10),none⟩]
abbrev zz28_r2:List AI:=[
 ⟨some 11,.mkslice 1 1 (.int .u8 0) [(0,(.c (.int .u8 128)))],none⟩,
 ⟨some 4,.mv true (.t 11),none⟩]
abbrev zz28_r3:List AI:=[
 ⟨some 12,.faddr 72 (.t 1),none⟩,
 ⟨some 13,.load false 1 (.t 12) .any,none⟩,
 ⟨some 14,.conv .i64 (.t 13),none⟩,
 ⟨some 15,.mv false (.t 4),none⟩,
 ⟨some 16,.len false (.t 15),none⟩,
 ⟨some 17,.bin .add (.t 14) (.t 16),none⟩,
 ⟨some 18,.bin .rem (.t 17) (.c (.int .i64 64)),none⟩,
 ⟨some 19,.bin .neq (.t 18) (.c (.int .i64 56)),none⟩]
abbrev zz28_r4:List AI:=[
 ⟨some 20,.mv true (.t 4),none⟩,
 ⟨some 21,.mkslice 1 1 (.int .u8 0) [(0,(.c (.int .u8 0)))],none⟩,
 ⟨some 22,.append 1 1 (.t 20) (.t 21),none⟩,
 ⟨some 4,.mv true (.t 22),none⟩]
abbrev zz28_l0:ACode:=.seq (.seq (.reg false zz28_r3) (.cond (.t 19) (.skip) (.exit 0))) (.block 1 (.reg false zz28_r4))
abbrev zz28_r5:List AI:=[
 ⟨some 23,.mv false (.c (.int .i64 0)),none⟩]
abbrev zz28_r6:List AI:=[
 ⟨some 24,.bin .lss (.t 23) (.c (.int .i64 8)),none⟩]
abbrev zz28_r7:List AI:=[
 ⟨some 25,.mv false (.t 23),none⟩,
 ⟨some 5,.mv true (.t 25),none⟩]
abbrev zz28_r8:List AI:=[
 ⟨some 26,.mv true (.t 4),none⟩,
 ⟨some 27,.mv false (.t 3),none⟩,
 ⟨some 28,.mv false (.t 5),none⟩,
 ⟨some 29,.bin .mul (.c (.int .i64 8)) (.t 28),none⟩,
 ⟨some 30,.bin .sub (.c (.int .i64 56)) (.t 29),none⟩,
 ⟨some 31,.bin .shr (.t 27) (.t 30),none⟩,
 ⟨some 32,.conv .u8 (.t 31),none⟩,
 ⟨some 33,.mkslice 1 1 (.int .u8 0) [(0,(.t 32))],none⟩,
 ⟨some 34,.append 1 1 (.t 26) (.t 33),none⟩,
 ⟨some 4,.mv true (.t 34),none⟩]
abbrev zz28_r9:List AI:=[
 ⟨some 35,.bin .add (.t 23) (.c (.int .i64 1)),none⟩,
 ⟨some 23,.mv false (.t 35),none⟩]
abbrev zz28_l1:ACode:=.seq (.reg false zz28_r6) (.seq (.cond (.t 24) (.skip) (.exit 2)) (.seq (.block 3 (.seq (.reg false zz28_r7) (.reg false zz28_r8))) (.reg false zz28_r9)))
abbrev zz28_r10:List AI:=[
 ⟨some 36,.load true 73 (.t 1) .any,none⟩,
 ⟨some 37,.mv false (.t 4),none⟩,
 ⟨some 38,.b2s (.t 37),none⟩,
 ⟨some 39,.call (.c (.fn f_zz27)) [(.t 36),(.t 38)] 0,none⟩,
 ⟨none,.store 73 (.t 1) (.t 39) .any,none⟩]
abbrev zz28_r11:List AI:=[
 ⟨some 6,.alloc (zr 32 (.int .u8 0)),none⟩]
abbrev zz28_r12:List AI:=[
 ⟨some 40,.mv false (.c (.int .i64 0)),none⟩]
abbrev zz28_r13:List AI:=[
 ⟨some 41,.bin .lss (.t 40) (.c (.int .i64 32)),none⟩]
abbrev zz28_r14:List AI:=[
 ⟨some 42,.mv false (.t 40),none⟩,
 ⟨some 7,.mv true (.t 42),none⟩]
abbrev zz28_r15:List AI:=[
 ⟨some 43,.mv false (.t 7),none⟩,
 ⟨some 44,.mv false (.t 7),none⟩,
 ⟨some 45,.bin .quo (.t 44) (.c (.int .i64 4)),none⟩,
 ⟨some 46,.faddr 0 (.t 1),none⟩,
 ⟨some 47,.iaddrA 8 1 (.t 46) (.t 45),none⟩,
 ⟨some 48,.load false 1 (.t 47) .any,none⟩,
 ⟨some 49,.mv false (.t 7),none⟩,
 ⟨some 50,.bin .rem (.t 49) (.c (.int .i64 4)),none⟩,
 ⟨some 51,.bin .mul (.c (.int .i64 8)) (.t 50),none⟩,
 ⟨some 52,.bin .sub (.c (.int .i64 24)) (.t 51),none⟩,
 ⟨some 53,.bin .shr (.t 48) (.t 52),none⟩,
 ⟨some 54,.conv .u8 (.t 53),none⟩,
 ⟨some 55,.iaddrA 32 1 (.t 6) (.t 43),none⟩,
 ⟨none,.store 1 (.t 55) (.t 54) .any,none⟩]
abbrev zz28_r16:List AI:=[
 ⟨some 56,.bin .add (.t 40) (.c (.int .i64 1)),none⟩,
 ⟨some 40,.mv false (.t 56),none⟩]
abbrev zz28_l2:ACode:=.seq (.reg false zz28_r13) (.seq (.cond (.t 41) (.skip) (.exit 4)) (.seq (.block 5 (.seq (.reg false zz28_r14) (.reg false zz28_r15))) (.reg false zz28_r16)))
abbrev zz28_r17:List AI:=[
 ⟨some 57,.load true 32 (.t 6) .any,none⟩,
 ⟨none,.store 32 (.t 2) (.t 57) .any,none⟩]
abbrev zz28_c:ACode:=.seq (.reg false zz28_r0) (.seq (.reg false zz28_r1) (.seq (.reg false zz28_r2) (.seq (.block 0 (.loop zz28_l0)) (.seq (.seq (.reg false zz28_r5) (.block 2 (.loop zz28_l1))) (.seq (.reg false zz28_r10) (.seq (.reg false zz28_r11) (.seq (.seq (.reg false zz28_r12) (.block 4 (.loop zz28_l2))) (.seq (.reg false zz28_r17) (.ret)))))))))
def zz28_F:AFunc:=⟨58,[.cell 2 true 32],zz28_c⟩
theorem zz28_cp:compile Tryd.prog [] f_zz28=some zz28_F:=by kernel_rfl
-- loop 0: [2, 7]
abbrev zz3_r0:List AI:=[
 ⟨some 2,.gn (.box 1) [(.t 0)],none⟩,
 ⟨some 4,.mv true (.c .nilS),none⟩]
abbrev zz3_r1:List AI:=[
 ⟨some 6,.mv false (.t 1),none⟩]
abbrev zz3_r2:List AI:=[
 ⟨some 5,.mv true (.t 7),none⟩]
abbrev zz3_r3:List AI:=[
 ⟨some 8,.load false 1 (.t 2) .any,none⟩,
 ⟨some 9,.mv false (.t 5),none⟩,
 ⟨some 10,.mkslice 1 1 (.int .i64 0) [(0,(.t 9))],none⟩,
 ⟨some 11,.appG 1 8 [(.int .i64 0)] (.t 8) (.t 10),none⟩,
 ⟨none,.store 1 (.t 2) (.t 11) .any,none⟩]
abbrev slices_AppendSeq_int_int_y0a:ACode:=.reg false zz3_r2
abbrev slices_AppendSeq_int_int_y0b:ACode:=.block 1 (.reg false zz3_r3)
abbrev zz3_r4:List AI:=[
 ⟨some 12,.load false 1 (.t 2) .any,none⟩,
 ⟨some 4,.mv true (.t 12),none⟩]
abbrev zz3_c:ACode:=.seq (.reg false zz3_r0) (.seq (.seq (.reg false zz3_r1) (.block 0 (.rangeF (.t 6) [7] slices_AppendSeq_int_int_y0a slices_AppendSeq_int_int_y0b))) (.seq (.reg false zz3_r4) (.ret)))
def zz3_F:AFunc:=⟨13,[.tmp 4],zz3_c⟩
theorem zz3_cp:compile Tryd.prog [2,11] f_zz3=some zz3_F:=by kernel_rfl
-- loop 0: [2, 3, 4, 5, 6, 7, 8]
-- loop 1: [2, 3, 4, 5, 7, 11]
-- loop 2: [2, 3, 4, 5]
-- loop 3: [2, 3, 12, 13]
abbrev zz24_r0:List AI:=[
 ⟨some 2,.alloc (zr 32 (.int .u8 0)),none⟩]
abbrev zz24_r1:List AI:=[
 ⟨some 14,.build (zr 8 (.int .u32 0)) [(0,1,(.c (.int .u32 1779033703))),(1,1,(.c (.int .u32 3144134277))),(2,1,(.c (.int .u32 1013904242))),(3,1,(.c (.int .u32 2773480762))),(4,1,(.c (.int .u32 1359893119))),(5,1,(.c (.int .u32 2600822924))),(6,1,(.c (.int .u32 528734635))),(7,1,(.c (.int .u32 1541459225)))],none⟩,
 ⟨some 3,.alloc (zr 8 (.int .u32 0)),none⟩,
 ⟨none,.store 8 (.t 3) (.t 14) .any,none⟩]
abbrev zz24_r2:List AI:=[
 ⟨some 15,.mv false (.t 0),none⟩,
 ⟨some 16,.call (.c (.fn f_zz12)) [(.t 15)] 0,none⟩,
 ⟨some 4,.mv true (.t 16),none⟩]
abbrev zz24_r3:List AI:=[
 ⟨some 5,.mv true (.c (.int .i64 0)),none⟩]
abbrev zz24_r4:List AI:=[
 ⟨some 17,.mv false (.t 5),none⟩,
 ⟨some 18,.mv false (.t 4),none⟩,
 ⟨some 19,.len false (.t 18),none⟩,
 ⟨some 20,.bin .lss (.t 17) (.t 19),none⟩]
abbrev zz24_r5:List AI:=[
 ⟨some 23,.mv false (.t 4),none⟩,
 ⟨some 24,.mv false (.t 5),none⟩,
 ⟨some 25,.mv false (.t 5),none⟩,
 ⟨some 26,.bin .add (.t 25) (.c (.int .i64 64)),none⟩,
 ⟨some 27,.sl 1 (.t 23) (some (.t 24)) (some (.t 26)),none⟩,
 ⟨some 28,.call (.c (.fn f_zz17)) [(.t 27)] 0,none⟩,
 ⟨some 6,.alloc (zr 64 (.int .u32 0)),none⟩,
 ⟨none,.store 64 (.t 6) (.t 28) .any,none⟩]
abbrev zz24_r6:List AI:=[
 ⟨some 29,.load true 8 (.t 3) .any,none⟩,
 ⟨some 7,.alloc (zr 8 (.int .u32 0)),none⟩,
 ⟨none,.store 8 (.t 7) (.t 29) .any,none⟩]
abbrev zz24_r7:List AI:=[
 ⟨some 8,.mv true (.c (.int .i64 0)),none⟩]
abbrev zz24_r8:List AI:=[
 ⟨some 30,.mv false (.t 8),none⟩,
 ⟨some 31,.bin .lss (.t 30) (.c (.int .i64 64)),none⟩]
abbrev zz24_r9:List AI:=[
 ⟨some 34,.iaddrA 8 1 (.t 7) (.c (.int .i64 7)),none⟩,
 ⟨some 35,.load false 1 (.t 34) (.site 7),none⟩,
 ⟨some 36,.iaddrA 8 1 (.t 7) (.c (.int .i64 4)),none⟩,
 ⟨some 37,.load false 1 (.t 36) (.site 7),none⟩,
 ⟨some 39,.iaddrA 8 1 (.t 7) (.c (.int .i64 4)),none⟩,
 ⟨some 40,.load false 1 (.t 39) (.site 7),none⟩,
 ⟨some 43,.iaddrA 8 1 (.t 7) (.c (.int .i64 4)),none⟩,
 ⟨some 44,.load false 1 (.t 43) (.site 7),none⟩,
 ⟨some 48,.iaddrA 8 1 (.t 7) (.c (.int .i64 4)),none⟩,
 ⟨some 49,.load false 1 (.t 48) (.site 7),none⟩,
 ⟨some 50,.iaddrA 8 1 (.t 7) (.c (.int .i64 5)),none⟩,
 ⟨some 51,.load false 1 (.t 50) (.site 7),none⟩,
 ⟨some 52,.bin .and (.t 49) (.t 51),none⟩,
 ⟨some 53,.iaddrA 8 1 (.t 7) (.c (.int .i64 4)),none⟩,
 ⟨some 54,.load false 1 (.t 53) (.site 7),none⟩,
 ⟨some 55,.bin .xor (.t 54) (.c (.int .u32 4294967295)),none⟩,
 ⟨some 56,.iaddrA 8 1 (.t 7) (.c (.int .i64 6)),none⟩,
 ⟨some 57,.load false 1 (.t 56) (.site 7),none⟩,
 ⟨some 58,.bin .and (.t 55) (.t 57),none⟩,
 ⟨some 59,.bin .xor (.t 52) (.t 58),none⟩,
 ⟨some 61,.mv false (.t 8),none⟩,
 ⟨some 62,.iaddrA 64 1 (.g 1) (.t 61),none⟩,
 ⟨some 63,.load false 1 (.t 62) .foreign,none⟩,
 ⟨some 65,.mv false (.t 8),none⟩,
 ⟨some 66,.iaddrA 64 1 (.t 6) (.t 65),none⟩,
 ⟨some 67,.load false 1 (.t 66) (.site 6),none⟩,
 ⟨some 38,.call (.c (.fn f_zz20)) [(.t 37),(.c (.int .i64 6))] 1,none⟩,
 ⟨some 41,.call (.c (.fn f_zz20)) [(.t 40),(.c (.int .i64 11))] 1,none⟩,
 ⟨some 42,.bin .xor (.t 38) (.t 41),none⟩,
 ⟨some 45,.call (.c (.fn f_zz20)) [(.t 44),(.c (.int .i64 25))] 1,none⟩,
 ⟨some 46,.bin .xor (.t 42) (.t 45),none⟩,
 ⟨some 47,.bin .add (.t 35) (.t 46),none⟩,
 ⟨some 60,.bin .add (.t 47) (.t 59),none⟩,
 ⟨some 64,.bin .add (.t 60) (.t 63),none⟩,
 ⟨some 68,.bin .add (.t 64) (.t 67),none⟩,
 ⟨some 9,.mv true (.t 68),none⟩]
abbrev zz24_r10:List AI:=[
 ⟨some 69,.iaddrA 8 1 (.t 7) (.c (.int .i64 0)),none⟩,
 ⟨some 70,.load false 1 (.t 69) (.site 7),none⟩,
 ⟨some 72,.iaddrA 8 1 (.t 7) (.c (.int .i64 0)),none⟩,
 ⟨some 73,.load false 1 (.t 72) (.site 7),none⟩,
 ⟨some 76,.iaddrA 8 1 (.t 7) (.c (.int .i64 0)),none⟩,
 ⟨some 77,.load false 1 (.t 76) (.site 7),none⟩,
 ⟨some 80,.iaddrA 8 1 (.t 7) (.c (.int .i64 0)),none⟩,
 ⟨some 81,.load false 1 (.t 80) (.site 7),none⟩,
 ⟨some 82,.iaddrA 8 1 (.t 7) (.c (.int .i64 1)),none⟩,
 ⟨some 83,.load false 1 (.t 82) (.site 7),none⟩,
 ⟨some 84,.bin .and (.t 81) (.t 83),none⟩,
 ⟨some 85,.iaddrA 8 1 (.t 7) (.c (.int .i64 0)),none⟩,
 ⟨some 86,.load false 1 (.t 85) (.site 7),none⟩,
 ⟨some 87,.iaddrA 8 1 (.t 7) (.c (.int .i64 2)),none⟩,
 ⟨some 88,.load false 1 (.t 87) (.site 7),none⟩,
 ⟨some 89,.bin .and (.t 86) (.t 88),none⟩,
 ⟨some 90,.bin .xor (.t 84) (.t 89),none⟩,
 ⟨some 91,.iaddrA 8 1 (.t 7) (.c (.int .i64 1)),none⟩,
 ⟨some 92,.load false 1 (.t 91) (.site 7),none⟩,
 ⟨some 93,.iaddrA 8 1 (.t 7) (.c (.int .i64 2)),none⟩,
 ⟨some 94,.load false 1 (.t 93) (.site 7),none⟩,
 ⟨some 95,.bin .and (.t 92) (.t 94),none⟩,
 ⟨some 96,.bin .xor (.t 90) (.t 95),none⟩,
 ⟨some 71,.call (.c (.fn f_zz20)) [(.t 70),(.c (.int .i64 2))] 2,none⟩,
 ⟨some 74,.call (.c (.fn f_zz20)) [(.t 73),(.c (.int .i64 13))] 2,none⟩,
 ⟨some 75,.bin .xor (.t 71) (.t 74),none⟩,
 ⟨some 78,.call (.c (.fn f_zz20)) [(.t 77),(.c (.int .i64 22))] 2,none⟩,
 ⟨some 79,.bin .xor (.t 75) (.t 78),none⟩,
 ⟨some 97,.bin .add (.t 79) (.t 96),none⟩,
 ⟨some 10,.mv true (.t 97),none⟩]
abbrev zz24_r11:List AI:=[
 ⟨some 98,.mv false (.t 9),none⟩,
 ⟨some 99,.mv false (.t 10),none⟩,
 ⟨some 100,.bin .add (.t 98) (.t 99),none⟩,
 ⟨some 101,.iaddrA 8 1 (.t 7) (.c (.int .i64 0)),none⟩,
 ⟨some 102,.load false 1 (.t 101) .any,none⟩,
 ⟨some 103,.iaddrA 8 1 (.t 7) (.c (.int .i64 1)),none⟩,
 ⟨some 104,.load false 1 (.t 103) .any,none⟩,
 ⟨some 105,.iaddrA 8 1 (.t 7) (.c (.int .i64 2)),none⟩,
 ⟨some 106,.load false 1 (.t 105) .any,none⟩,
 ⟨some 107,.iaddrA 8 1 (.t 7) (.c (.int .i64 3)),none⟩,
 ⟨some 108,.load false 1 (.t 107) .any,none⟩,
 ⟨some 109,.mv false (.t 9),none⟩,
 ⟨some 110,.bin .add (.t 108) (.t 109),none⟩,
 ⟨some 111,.iaddrA 8 1 (.t 7) (.c (.int .i64 4)),none⟩,
 ⟨some 112,.load false 1 (.t 111) .any,none⟩,
 ⟨some 113,.iaddrA 8 1 (.t 7) (.c (.int .i64 5)),none⟩,
 ⟨some 114,.load false 1 (.t 113) .any,none⟩,
 ⟨some 115,.iaddrA 8 1 (.t 7) (.c (.int .i64 6)),none⟩,
 ⟨some 116,.load false 1 (.t 115) .any,none⟩,
 ⟨some 117,.build (zr 8 (.int .u32 0)) [(0,1,(.t 100)),(1,1,(.t 102)),(2,1,(.t 104)),(3,1,(.t 106)),(4,1,(.t 110)),(5,1,(.t 112)),(6,1,(.t 114)),(7,1,(.t 116))],none⟩,
 ⟨none,.store 8 (.t 7) (.t 117) .any,none⟩]
abbrev zz24_r12:List AI:=[
 ⟨some 32,.mv false (.t 8),none⟩,
 ⟨some 33,.bin .add (.t 32) (.c (.int .i64 1)),none⟩,
 ⟨some 8,.mv true (.t 33),none⟩]
abbrev zz24_l0:ACode:=.seq (.seq (.reg false zz24_r8) (.cond (.t 31) (.skip) (.exit 2))) (.seq (.block 3 (.seq (.reg true zz24_r9) (.seq (.reg true zz24_r10) (.reg false zz24_r11)))) (.reg false zz24_r12))
abbrev zz24_r13:List AI:=[
 ⟨some 11,.mv true (.c (.int .i64 0)),none⟩]
abbrev zz24_r14:List AI:=[
 ⟨some 118,.mv false (.t 11),none⟩,
 ⟨some 119,.bin .lss (.t 118) (.c (.int .i64 8)),none⟩]
abbrev zz24_r15:List AI:=[
 ⟨some 122,.mv false (.t 11),none⟩,
 ⟨some 123,.mv false (.t 11),none⟩,
 ⟨some 124,.iaddrA 8 1 (.t 3) (.t 123),none⟩,
 ⟨some 125,.load false 1 (.t 124) (.site 3),none⟩,
 ⟨some 126,.mv false (.t 11),none⟩,
 ⟨some 127,.iaddrA 8 1 (.t 7) (.t 126),none⟩,
 ⟨some 128,.load false 1 (.t 127) (.site 7),none⟩,
 ⟨some 129,.bin .add (.t 125) (.t 128),none⟩,
 ⟨some 130,.iaddrA 8 1 (.t 3) (.t 122),none⟩,
 ⟨none,.store 1 (.t 130) (.t 129) (.site 3),none⟩]
abbrev zz24_r16:List AI:=[
 ⟨some 120,.mv false (.t 11),none⟩,
 ⟨some 121,.bin .add (.t 120) (.c (.int .i64 1)),none⟩,
 ⟨some 11,.mv true (.t 121),none⟩]
abbrev zz24_l1:ACode:=.seq (.seq (.reg false zz24_r14) (.cond (.t 119) (.skip) (.exit 4))) (.seq (.block 5 (.reg true zz24_r15)) (.reg false zz24_r16))
abbrev zz24_r17:List AI:=[
 ⟨some 21,.mv false (.t 5),none⟩,
 ⟨some 22,.bin .add (.t 21) (.c (.int .i64 64)),none⟩,
 ⟨some 5,.mv true (.t 22),none⟩]
abbrev zz24_l2:ACode:=.seq (.seq (.reg false zz24_r4) (.cond (.t 20) (.skip) (.exit 0))) (.seq (.block 1 (.seq (.reg false zz24_r5) (.seq (.reg false zz24_r6) (.seq (.seq (.reg false zz24_r7) (.block 2 (.loop zz24_l0))) (.seq (.reg false zz24_r13) (.block 4 (.loop zz24_l1))))))) (.reg false zz24_r17))
abbrev zz24_r18:List AI:=[
 ⟨some 12,.alloc (zr 32 (.int .u8 0)),none⟩]
abbrev zz24_r19:List AI:=[
 ⟨some 13,.mv true (.c (.int .i64 0)),none⟩]
abbrev zz24_r20:List AI:=[
 ⟨some 131,.mv false (.t 13),none⟩,
 ⟨some 132,.bin .lss (.t 131) (.c (.int .i64 32)),none⟩]
abbrev zz24_r21:List AI:=[
 ⟨some 135,.mv false (.t 13),none⟩,
 ⟨some 136,.mv false (.t 13),none⟩,
 ⟨some 137,.bin .quo (.t 136) (.c (.int .i64 4)),none⟩,
 ⟨some 138,.iaddrA 8 1 (.t 3) (.t 137),none⟩,
 ⟨some 139,.load false 1 (.t 138) .any,none⟩,
 ⟨some 140,.mv false (.t 13),none⟩,
 ⟨some 141,.bin .rem (.t 140) (.c (.int .i64 4)),none⟩,
 ⟨some 142,.bin .mul (.c (.int .i64 8)) (.t 141),none⟩,
 ⟨some 143,.bin .sub (.c (.int .i64 24)) (.t 142),none⟩,
 ⟨some 144,.bin .shr (.t 139) (.t 143),none⟩,
 ⟨some 145,.conv .u8 (.t 144),none⟩,
 ⟨some 146,.iaddrA 32 1 (.t 12) (.t 135),none⟩,
 ⟨none,.store 1 (.t 146) (.t 145) .any,none⟩]
abbrev zz24_r22:List AI:=[
 ⟨some 133,.mv false (.t 13),none⟩,
 ⟨some 134,.bin .add (.t 133) (.c (.int .i64 1)),none⟩,
 ⟨some 13,.mv true (.t 134),none⟩]
abbrev zz24_l3:ACode:=.seq (.seq (.reg false zz24_r20) (.cond (.t 132) (.skip) (.exit 6))) (.seq (.block 7 (.reg false zz24_r21)) (.reg false zz24_r22))
abbrev zz24_r23:List AI:=[
 ⟨some 147,.load true 32 (.t 12) .any,none⟩,
 ⟨none,.store 32 (.t 2) (.t 147) .any,none⟩]
abbrev zz24_c:ACode:=.seq (.reg false zz24_r0) (.seq (.reg false zz24_r1) (.seq (.reg false zz24_r2) (.seq (.seq (.reg false zz24_r3) (.block 0 (.loop zz24_l2))) (.seq (.reg false zz24_r18) (.seq (.seq (.reg false zz24_r19) (.block 6 (.loop zz24_l3))) (.seq (.reg false zz24_r23) (.ret)))))))
def zz24_F:AFunc:=⟨148,[.cell 2 true 32],zz24_c⟩
theorem zz24_cp:compile Tryd.prog [] f_zz24=some zz24_F:=by kernel_rfl
abbrev zz14_r0:List AI:=[
 ⟨some 2,.mv true (.c .nilS),none⟩]
abbrev zz14_r1:List AI:=[
 ⟨some 3,.mv false (.t 0),none⟩,
 ⟨some 4,.len true (.t 3),none⟩,
 ⟨some 5,.call (.c (.fn f_zz23)) [(.t 4)] 0,none⟩,
 ⟨some 6,.mv false (.t 0),none⟩,
 ⟨some 7,.appG 1 1 [(.int .u8 0)] (.t 5) (.t 6),none⟩,
 ⟨some 2,.mv true (.t 7),none⟩]
abbrev zz14_c:ACode:=.seq (.reg false zz14_r0) (.seq (.reg false zz14_r1) (.ret))
def zz14_F:AFunc:=⟨8,[.tmp 2],zz14_c⟩
theorem zz14_cp:compile Tryd.prog [7] f_zz14=some zz14_F:=by kernel_rfl
-- loop 0: [2, 4, 5, 6, 7, 21, 22]
-- loop 1: [2, 4, 6, 7, 94]
abbrev zz33_r0:List AI:=[
 ⟨some 2,.gn (.box 8) [(.t 0)],none⟩,
 ⟨some 4,.alloc (zr 8 (.int .u32 0)),none⟩]
abbrev zz33_r1:List AI:=[
 ⟨some 13,.mv false (.t 1),none⟩,
 ⟨some 14,.call (.c (.fn f_zz34)) [(.t 13)] 0,none⟩,
 ⟨some 5,.alloc (zr 64 (.int .u32 0)),none⟩,
 ⟨none,.store 64 (.t 5) (.t 14) .any,none⟩]
abbrev zz33_r2:List AI:=[
 ⟨some 15,.gd (.arrS 1 8 false true false) [(.t 2),(.c (.int .i64 4))],none⟩,
 ⟨some 16,.gd (.s2a 4) [(.t 15)],none⟩,
 ⟨some 17,.load true 4 (.t 16) .foreign,none⟩,
 ⟨some 18,.gd (.arrS 1 8 true false false) [(.t 2),(.c (.int .i64 4))],none⟩,
 ⟨some 19,.gd (.s2a 4) [(.t 18)],none⟩,
 ⟨some 20,.load true 4 (.t 19) .foreign,none⟩,
 ⟨some 6,.alloc [(.int .u32 0),(.int .u32 0),(.int .u32 0),(.int .u32 0)],none⟩,
 ⟨some 7,.alloc [(.int .u32 0),(.int .u32 0),(.int .u32 0),(.int .u32 0)],none⟩,
 ⟨none,.store 4 (.t 6) (.t 17) (.site 6),none⟩,
 ⟨none,.store 4 (.t 7) (.t 20) (.site 7),none⟩]
abbrev zz33_r3:List AI:=[
 ⟨some 21,.load true 64 (.g 2) .any,none⟩,
 ⟨some 22,.mv false (.c (.int .i64 0)),none⟩]
abbrev zz33_r4:List AI:=[
 ⟨some 23,.bin .lss (.t 22) (.c (.int .i64 64)),none⟩]
abbrev zz33_r5:List AI:=[
 ⟨some 24,.mv false (.t 22),none⟩,
 ⟨some 25,.idxA false 64 1 (.t 21) (.t 22),none⟩,
 ⟨some 8,.mv true (.t 24),none⟩,
 ⟨some 9,.mv true (.t 25),none⟩]
abbrev zz33_r6:List AI:=[
 ⟨some 26,.iaddrA 4 1 (.t 7) (.c (.int .i64 3)),none⟩,
 ⟨some 27,.load false 1 (.t 26) (.site 7),none⟩,
 ⟨some 28,.iaddrA 4 1 (.t 7) (.c (.int .i64 0)),none⟩,
 ⟨some 29,.load false 1 (.t 28) (.site 7),none⟩,
 ⟨some 32,.iaddrA 4 1 (.t 7) (.c (.int .i64 0)),none⟩,
 ⟨some 33,.load false 1 (.t 32) (.site 7),none⟩,
 ⟨some 34,.iaddrA 4 1 (.t 7) (.c (.int .i64 1)),none⟩,
 ⟨some 35,.load false 1 (.t 34) (.site 7),none⟩,
 ⟨some 36,.bin .and (.t 33) (.t 35),none⟩,
 ⟨some 37,.iaddrA 4 1 (.t 7) (.c (.int .i64 0)),none⟩,
 ⟨some 38,.load false 1 (.t 37) (.site 7),none⟩,
 ⟨some 39,.bin .xor (.c (.int .u32 4294967295)) (.t 38),none⟩,
 ⟨some 40,.iaddrA 4 1 (.t 7) (.c (.int .i64 2)),none⟩,
 ⟨some 41,.load false 1 (.t 40) (.site 7),none⟩,
 ⟨some 42,.bin .and (.t 39) (.t 41),none⟩,
 ⟨some 43,.bin .xor (.t 36) (.t 42),none⟩,
 ⟨some 45,.mv false (.t 9),none⟩,
 ⟨some 47,.mv false (.t 8),none⟩,
 ⟨some 48,.iaddrA 64 1 (.t 5) (.t 47),none⟩,
 ⟨some 49,.load false 1 (.t 48) (.site 5),none⟩,
 ⟨some 30,.call (.c (.fn f_zz50)) [(.t 29),(.c (.int .i64 6)),(.c (.int .i64 11)),(.c (.int .i64 25))] 2,none⟩,
 ⟨some 31,.bin .add (.t 27) (.t 30),none⟩,
 ⟨some 44,.bin .add (.t 31) (.t 43),none⟩,
 ⟨some 46,.bin .add (.t 44) (.t 45),none⟩,
 ⟨some 50,.bin .add (.t 46) (.t 49),none⟩,
 ⟨some 10,.mv true (.t 50),none⟩]
abbrev zz33_r7:List AI:=[
 ⟨some 51,.iaddrA 4 1 (.t 6) (.c (.int .i64 0)),none⟩,
 ⟨some 52,.load false 1 (.t 51) (.site 6),none⟩,
 ⟨some 54,.iaddrA 4 1 (.t 6) (.c (.int .i64 0)),none⟩,
 ⟨some 55,.load false 1 (.t 54) (.site 6),none⟩,
 ⟨some 56,.iaddrA 4 1 (.t 6) (.c (.int .i64 1)),none⟩,
 ⟨some 57,.load false 1 (.t 56) (.site 6),none⟩,
 ⟨some 58,.bin .and (.t 55) (.t 57),none⟩,
 ⟨some 59,.iaddrA 4 1 (.t 6) (.c (.int .i64 0)),none⟩,
 ⟨some 60,.load false 1 (.t 59) (.site 6),none⟩,
 ⟨some 61,.iaddrA 4 1 (.t 6) (.c (.int .i64 2)),none⟩,
 ⟨some 62,.load false 1 (.t 61) (.site 6),none⟩,
 ⟨some 63,.bin .and (.t 60) (.t 62),none⟩,
 ⟨some 64,.bin .xor (.t 58) (.t 63),none⟩,
 ⟨some 65,.iaddrA 4 1 (.t 6) (.c (.int .i64 1)),none⟩,
 ⟨some 66,.load false 1 (.t 65) (.site 6),none⟩,
 ⟨some 67,.iaddrA 4 1 (.t 6) (.c (.int .i64 2)),none⟩,
 ⟨some 68,.load false 1 (.t 67) (.site 6),none⟩,
 ⟨some 69,.bin .and (.t 66) (.t 68),none⟩,
 ⟨some 70,.bin .xor (.t 64) (.t 69),none⟩,
 ⟨some 53,.call (.c (.fn f_zz50)) [(.t 52),(.c (.int .i64 2)),(.c (.int .i64 13)),(.c (.int .i64 22))] 2,none⟩,
 ⟨some 71,.bin .add (.t 53) (.t 70),none⟩,
 ⟨some 11,.mv true (.t 71),none⟩]
abbrev zz33_r8:List AI:=[
 ⟨some 72,.iaddrA 4 1 (.t 6) (.c (.int .i64 3)),none⟩,
 ⟨some 73,.load false 1 (.t 72) .any,none⟩,
 ⟨some 74,.mv false (.t 10),none⟩,
 ⟨some 75,.bin .add (.t 73) (.t 74),none⟩,
 ⟨some 76,.iaddrA 4 1 (.t 7) (.c (.int .i64 0)),none⟩,
 ⟨some 77,.load false 1 (.t 76) .any,none⟩,
 ⟨some 78,.iaddrA 4 1 (.t 7) (.c (.int .i64 1)),none⟩,
 ⟨some 79,.load false 1 (.t 78) .any,none⟩,
 ⟨some 80,.iaddrA 4 1 (.t 7) (.c (.int .i64 2)),none⟩,
 ⟨some 81,.load false 1 (.t 80) .any,none⟩,
 ⟨some 82,.build [(.int .u32 0),(.int .u32 0),(.int .u32 0),(.int .u32 0)] [(0,1,(.t 75)),(1,1,(.t 77)),(2,1,(.t 79)),(3,1,(.t 81))],none⟩,
 ⟨none,.store 4 (.t 7) (.t 82) .any,none⟩]
abbrev zz33_r9:List AI:=[
 ⟨some 83,.mv false (.t 10),none⟩,
 ⟨some 84,.mv false (.t 11),none⟩,
 ⟨some 85,.bin .add (.t 83) (.t 84),none⟩,
 ⟨some 86,.iaddrA 4 1 (.t 6) (.c (.int .i64 0)),none⟩,
 ⟨some 87,.load false 1 (.t 86) .any,none⟩,
 ⟨some 88,.iaddrA 4 1 (.t 6) (.c (.int .i64 1)),none⟩,
 ⟨some 89,.load false 1 (.t 88) .any,none⟩,
 ⟨some 90,.iaddrA 4 1 (.t 6) (.c (.int .i64 2)),none⟩,
 ⟨some 91,.load false 1 (.t 90) .any,none⟩,
 ⟨some 92,.build [(.int .u32 0),(.int .u32 0),(.int .u32 0),(.int .u32 0)] [(0,1,(.t 85)),(1,1,(.t 87)),(2,1,(.t 89)),(3,1,(.t 91))],none⟩,
 ⟨none,.store 4 (.t 6) (.t 92) .any,none⟩]
abbrev zz33_r10:List AI:=[
 ⟨some 93,.bin .add (.t 22) (.c (.int .i64 1)),none⟩,
 ⟨some 22,.mv false (.t 93),none⟩]
abbrev zz33_l0:ACode:=.seq (.reg false zz33_r4) (.seq (.cond (.t 23) (.skip) (.exit 0)) (.seq (.block 1 (.seq (.reg false zz33_r5) (.seq (.reg true zz33_r6) (.seq (.reg true zz33_r7) (.seq (.reg false zz33_r8) (.reg false zz33_r9)))))) (.reg false zz33_r10)))
abbrev zz33_r11:List AI:=[
 ⟨some 94,.mv false (.c (.int .i64 0)),none⟩]
abbrev zz33_r12:List AI:=[
 ⟨some 95,.bin .lss (.t 94) (.c (.int .i64 4)),none⟩]
abbrev zz33_r13:List AI:=[
 ⟨some 96,.mv false (.t 94),none⟩,
 ⟨some 12,.mv true (.t 96),none⟩]
abbrev zz33_r14:List AI:=[
 ⟨some 97,.mv false (.t 12),none⟩,
 ⟨some 98,.iaddrA 8 1 (.t 2) (.t 97),none⟩,
 ⟨some 99,.load false 1 (.t 98) .foreign,none⟩,
 ⟨some 100,.mv false (.t 12),none⟩,
 ⟨some 101,.iaddrA 4 1 (.t 6) (.t 100),none⟩,
 ⟨some 102,.load false 1 (.t 101) (.site 6),none⟩,
 ⟨some 103,.bin .add (.t 99) (.t 102),none⟩,
 ⟨some 104,.iaddrA 8 1 (.t 2) (.t 97),none⟩,
 ⟨none,.store 1 (.t 104) (.t 103) .gp,none⟩]
abbrev zz33_r15:List AI:=[
 ⟨some 105,.mv false (.t 12),none⟩,
 ⟨some 106,.bin .add (.t 105) (.c (.int .i64 4)),none⟩,
 ⟨some 107,.iaddrA 8 1 (.t 2) (.t 106),none⟩,
 ⟨some 108,.load false 1 (.t 107) .foreign,none⟩,
 ⟨some 109,.mv false (.t 12),none⟩,
 ⟨some 110,.iaddrA 4 1 (.t 7) (.t 109),none⟩,
 ⟨some 111,.load false 1 (.t 110) (.site 7),none⟩,
 ⟨some 112,.bin .add (.t 108) (.t 111),none⟩,
 ⟨some 113,.iaddrA 8 1 (.t 2) (.t 106),none⟩,
 ⟨none,.store 1 (.t 113) (.t 112) .gp,none⟩]
abbrev zz33_r16:List AI:=[
 ⟨some 114,.bin .add (.t 94) (.c (.int .i64 1)),none⟩,
 ⟨some 94,.mv false (.t 114),none⟩]
abbrev zz33_l1:ACode:=.seq (.reg false zz33_r12) (.seq (.cond (.t 95) (.skip) (.exit 2)) (.seq (.block 3 (.seq (.reg false zz33_r13) (.seq (.reg true zz33_r14) (.reg true zz33_r15)))) (.reg false zz33_r16)))
abbrev zz33_r17:List AI:=[
 ⟨some 115,.load true 8 (.t 2) .any,none⟩,
 ⟨none,.store 8 (.t 4) (.t 115) .any,none⟩]
abbrev zz33_c:ACode:=.seq (.reg false zz33_r0) (.seq (.reg false zz33_r1) (.seq (.reg true zz33_r2) (.seq (.seq (.reg false zz33_r3) (.block 0 (.loop zz33_l0))) (.seq (.seq (.reg false zz33_r11) (.block 2 (.loop zz33_l1))) (.seq (.reg false zz33_r17) (.ret))))))
def zz33_F:AFunc:=⟨116,[.cell 4 true 8],zz33_c⟩
theorem zz33_cp:compile Tryd.prog [2] f_zz33=some zz33_F:=by kernel_rfl
-- loop 0: [0, 3]
-- loop 1: [3, 4, 5]
abbrev zz12_r0:List AI:=[
 ⟨some 2,.mv true (.c .nilS),none⟩]
abbrev zz12_r1:List AI:=[
 ⟨some 6,.mkslice 1 0 (.int .u8 0) [],none⟩,
 ⟨some 7,.mv false (.t 0),none⟩,
 ⟨some 8,.append 1 1 (.t 6) (.t 7),none⟩,
 ⟨some 3,.mv true (.t 8),none⟩]
abbrev zz12_r2:List AI:=[
 ⟨some 9,.mv true (.t 3),none⟩,
 ⟨some 10,.mkslice 1 1 (.int .u8 0) [(0,(.c (.int .u8 128)))],none⟩,
 ⟨some 11,.append 1 1 (.t 9) (.t 10),none⟩,
 ⟨some 3,.mv true (.t 11),none⟩]
abbrev zz12_r3:List AI:=[
 ⟨some 12,.mv false (.t 3),none⟩,
 ⟨some 13,.len false (.t 12),none⟩,
 ⟨some 14,.bin .rem (.t 13) (.c (.int .i64 64)),none⟩,
 ⟨some 15,.bin .neq (.t 14) (.c (.int .i64 56)),none⟩]
abbrev zz12_r4:List AI:=[
 ⟨some 16,.mv true (.t 3),none⟩,
 ⟨some 17,.mkslice 1 1 (.int .u8 0) [(0,(.c (.int .u8 0)))],none⟩,
 ⟨some 18,.append 1 1 (.t 16) (.t 17),none⟩,
 ⟨some 3,.mv true (.t 18),none⟩]
abbrev zz12_l0:ACode:=.seq (.seq (.reg false zz12_r3) (.cond (.t 15) (.skip) (.exit 0))) (.block 1 (.reg false zz12_r4))
abbrev zz12_r5:List AI:=[
 ⟨some 19,.mv false (.t 0),none⟩,
 ⟨some 20,.len false (.t 19),none⟩,
 ⟨some 21,.conv .u64 (.t 20),none⟩,
 ⟨some 22,.bin .mul (.c (.int .u64 8)) (.t 21),none⟩,
 ⟨some 4,.mv true (.t 22),none⟩]
abbrev zz12_r6:List AI:=[
 ⟨some 5,.mv true (.c (.int .i64 0)),none⟩]
abbrev zz12_r7:List AI:=[
 ⟨some 23,.mv false (.t 5),none⟩,
 ⟨some 24,.bin .lss (.t 23) (.c (.int .i64 8)),none⟩]
abbrev zz12_r8:List AI:=[
 ⟨some 27,.mv true (.t 3),none⟩,
 ⟨some 28,.mv false (.t 4),none⟩,
 ⟨some 29,.mv false (.t 5),none⟩,
 ⟨some 30,.bin .mul (.c (.int .i64 8)) (.t 29),none⟩,
 ⟨some 31,.bin .sub (.c (.int .i64 56)) (.t 30),none⟩,
 ⟨some 32,.bin .shr (.t 28) (.t 31),none⟩,
 ⟨some 33,.conv .u8 (.t 32),none⟩,
 ⟨some 34,.mkslice 1 1 (.int .u8 0) [(0,(.t 33))],none⟩,
 ⟨some 35,.append 1 1 (.t 27) (.t 34),none⟩,
 ⟨some 3,.mv true (.t 35),none⟩]
abbrev zz12_r9:List AI:=[
 ⟨some 25,.mv false (.t 5),none⟩,
 ⟨some 26,.bin .add (.t 25) (.c (.int .i64 1)),none⟩,
 ⟨some 5,.mv true (.t 26),none⟩]
abbrev zz12_l1:ACode:=.seq (.seq (.reg false zz12_r7) (.cond (.t 24) (.skip) (.exit 2))) (.seq (.block 3 (.reg false zz12_r8)) (.reg false zz12_r9))
abbrev zz12_r10:List AI:=[
 ⟨some 36,.mv false (.t 3),none⟩,
 ⟨some 2,.mv true (.t 36),none⟩]
abbrev zz12_c:ACode:=.seq (.reg false zz12_r0) (.seq (.reg false zz12_r1) (.seq (.reg false zz12_r2) (.seq (.block 0 (.loop zz12_l0)) (.seq (.reg false zz12_r5) (.seq (.seq (.reg false zz12_r6) (.block 2 (.loop zz12_l1))) (.seq (.reg false zz12_r10) (.ret)))))))
def zz12_F:AFunc:=⟨37,[.tmp 2],zz12_c⟩
theorem zz12_cp:compile Tryd.prog [] f_zz12=some zz12_F:=by kernel_rfl
-- loop 0: [0, 2, 3, 4]
-- loop 1: [2, 3, 5]
abbrev zz17_r0:List AI:=[
 ⟨some 2,.alloc (zr 64 (.int .u32 0)),none⟩]
abbrev zz17_r1:List AI:=[
 ⟨some 3,.alloc (zr 64 (.int .u32 0)),none⟩]
abbrev zz17_r2:List AI:=[
 ⟨some 4,.mv true (.c (.int .i64 0)),none⟩]
abbrev zz17_r3:List AI:=[
 ⟨some 8,.mv false (.t 4),none⟩,
 ⟨some 9,.bin .lss (.t 8) (.c (.int .i64 16)),none⟩]
abbrev zz17_r4:List AI:=[
 ⟨some 12,.mv false (.t 4),none⟩,
 ⟨some 13,.mv false (.t 0),none⟩,
 ⟨some 14,.mv false (.t 4),none⟩,
 ⟨some 15,.bin .mul (.c (.int .i64 4)) (.t 14),none⟩,
 ⟨some 16,.iaddr 1 (.t 13) (.t 15),none⟩,
 ⟨some 17,.load false 1 (.t 16) .foreign,none⟩,
 ⟨some 18,.conv .u32 (.t 17),none⟩,
 ⟨some 19,.bin .shl (.t 18) (.c (.int .u64 24)),none⟩,
 ⟨some 20,.mv false (.t 0),none⟩,
 ⟨some 21,.mv false (.t 4),none⟩,
 ⟨some 22,.bin .mul (.c (.int .i64 4)) (.t 21),none⟩,
 ⟨some 23,.bin .add (.t 22) (.c (.int .i64 1)),none⟩,
 ⟨some 24,.iaddr 1 (.t 20) (.t 23),none⟩,
 ⟨some 25,.load false 1 (.t 24) .foreign,none⟩,
 ⟨some 26,.conv .u32 (.t 25),none⟩,
 ⟨some 27,.bin .shl (.t 26) (.c (.int .u64 16)),none⟩,
 ⟨some 28,.bin .or (.t 19) (.t 27),none⟩,
 ⟨some 29,.mv false (.t 0),none⟩,
 ⟨some 30,.mv false (.t 4),none⟩,
 ⟨some 31,.bin .mul (.c (.int .i64 4)) (.t 30),none⟩,
 ⟨some 32,.bin .add (.t 31) (.c (.int .i64 2)),none⟩,
 ⟨some 33,.iaddr 1 (.t 29) (.t 32),none⟩,
 ⟨some 34,.load false 1 (.t 33) .foreign,none⟩,
 ⟨some 35,.conv .u32 (.t 34),none⟩,
 ⟨some 36,.bin .shl (.t 35) (.c (.int .u64 8)),none⟩,
 ⟨some 37,.bin .or (.t 28) (.t 36),none⟩,
 ⟨some 38,.mv false (.t 0),none⟩,
 ⟨some 39,.mv false (.t 4),none⟩,
 ⟨some 40,.bin .mul (.c (.int .i64 4)) (.t 39),none⟩,
 ⟨some 41,.bin .add (.t 40) (.c (.int .i64 3)),none⟩,
 ⟨some 42,.iaddr 1 (.t 38) (.t 41),none⟩,
 ⟨some 43,.load false 1 (.t 42) .foreign,none⟩,
 ⟨some 44,.conv .u32 (.t 43),none⟩,
 ⟨some 45,.bin .or (.t 37) (.t 44),none⟩,
 ⟨some 46,.iaddrA 64 1 (.t 3) (.t 12),none⟩,
 ⟨none,.store 1 (.t 46) (.t 45) (.site 3),none⟩]
abbrev zz17_r5:List AI:=[
 ⟨some 10,.mv false (.t 4),none⟩,
 ⟨some 11,.bin .add (.t 10) (.c (.int .i64 1)),none⟩,
 ⟨some 4,.mv true (.t 11),none⟩]
abbrev zz17_l0:ACode:=.seq (.seq (.reg false zz17_r3) (.cond (.t 9) (.skip) (.exit 0))) (.seq (.block 1 (.reg true zz17_r4)) (.reg false zz17_r5))
abbrev zz17_r6:List AI:=[
 ⟨some 5,.mv true (.c (.int .i64 16)),none⟩]
abbrev zz17_r7:List AI:=[
 ⟨some 47,.mv false (.t 5),none⟩,
 ⟨some 48,.bin .lss (.t 47) (.c (.int .i64 64)),none⟩]
abbrev zz17_r8:List AI:=[
 ⟨some 51,.mv false (.t 5),none⟩,
 ⟨some 52,.bin .sub (.t 51) (.c (.int .i64 15)),none⟩,
 ⟨some 53,.iaddrA 64 1 (.t 3) (.t 52),none⟩,
 ⟨some 54,.load false 1 (.t 53) (.site 3),none⟩,
 ⟨some 56,.mv false (.t 5),none⟩,
 ⟨some 57,.bin .sub (.t 56) (.c (.int .i64 15)),none⟩,
 ⟨some 58,.iaddrA 64 1 (.t 3) (.t 57),none⟩,
 ⟨some 59,.load false 1 (.t 58) (.site 3),none⟩,
 ⟨some 62,.mv false (.t 5),none⟩,
 ⟨some 63,.bin .sub (.t 62) (.c (.int .i64 15)),none⟩,
 ⟨some 64,.iaddrA 64 1 (.t 3) (.t 63),none⟩,
 ⟨some 65,.load false 1 (.t 64) (.site 3),none⟩,
 ⟨some 66,.bin .shr (.t 65) (.c (.int .u64 3)),none⟩,
 ⟨some 55,.call (.c (.fn f_zz20)) [(.t 54),(.c (.int .i64 7))] 2,none⟩,
 ⟨some 60,.call (.c (.fn f_zz20)) [(.t 59),(.c (.int .i64 18))] 2,none⟩,
 ⟨some 61,.bin .xor (.t 55) (.t 60),none⟩,
 ⟨some 67,.bin .xor (.t 61) (.t 66),none⟩,
 ⟨some 6,.mv true (.t 67),none⟩]
abbrev zz17_r9:List AI:=[
 ⟨some 68,.mv false (.t 5),none⟩,
 ⟨some 69,.bin .sub (.t 68) (.c (.int .i64 2)),none⟩,
 ⟨some 70,.iaddrA 64 1 (.t 3) (.t 69),none⟩,
 ⟨some 71,.load false 1 (.t 70) (.site 3),none⟩,
 ⟨some 73,.mv false (.t 5),none⟩,
 ⟨some 74,.bin .sub (.t 73) (.c (.int .i64 2)),none⟩,
 ⟨some 75,.iaddrA 64 1 (.t 3) (.t 74),none⟩,
 ⟨some 76,.load false 1 (.t 75) (.site 3),none⟩,
 ⟨some 79,.mv false (.t 5),none⟩,
 ⟨some 80,.bin .sub (.t 79) (.c (.int .i64 2)),none⟩,
 ⟨some 81,.iaddrA 64 1 (.t 3) (.t 80),none⟩,
 ⟨some 82,.load false 1 (.t 81) (.site 3),none⟩,
 ⟨some 83,.bin .shr (.t 82) (.c (.int .u64 10)),none⟩,
 ⟨some 72,.call (.c (.fn f_zz20)) [(.t 71),(.c (.int .i64 17))] 2,none⟩,
 ⟨some 77,.call (.c (.fn f_zz20)) [(.t 76),(.c (.int .i64 19))] 2,none⟩,
 ⟨some 78,.bin .xor (.t 72) (.t 77),none⟩,
 ⟨some 84,.bin .xor (.t 78) (.t 83),none⟩,
 ⟨some 7,.mv true (.t 84),none⟩]
abbrev zz17_r10:List AI:=[
 ⟨some 85,.mv false (.t 5),none⟩,
 ⟨some 86,.mv false (.t 5),none⟩,
 ⟨some 87,.bin .sub (.t 86) (.c (.int .i64 16)),none⟩,
 ⟨some 88,.iaddrA 64 1 (.t 3) (.t 87),none⟩,
 ⟨some 89,.load false 1 (.t 88) (.site 3),none⟩,
 ⟨some 90,.mv false (.t 6),none⟩,
 ⟨some 91,.bin .add (.t 89) (.t 90),none⟩,
 ⟨some 92,.mv false (.t 5),none⟩,
 ⟨some 93,.bin .sub (.t 92) (.c (.int .i64 7)),none⟩,
 ⟨some 94,.iaddrA 64 1 (.t 3) (.t 93),none⟩,
 ⟨some 95,.load false 1 (.t 94) (.site 3),none⟩,
 ⟨some 96,.bin .add (.t 91) (.t 95),none⟩,
 ⟨some 97,.mv false (.t 7),none⟩,
 ⟨some 98,.bin .add (.t 96) (.t 97),none⟩,
 ⟨some 99,.iaddrA 64 1 (.t 3) (.t 85),none⟩,
 ⟨none,.store 1 (.t 99) (.t 98) (.site 3),none⟩]
abbrev zz17_r11:List AI:=[
 ⟨some 49,.mv false (.t 5),none⟩,
 ⟨some 50,.bin .add (.t 49) (.c (.int .i64 1)),none⟩,
 ⟨some 5,.mv true (.t 50),none⟩]
abbrev zz17_l1:ACode:=.seq (.seq (.reg false zz17_r7) (.cond (.t 48) (.skip) (.exit 2))) (.seq (.block 3 (.seq (.reg true zz17_r8) (.seq (.reg true zz17_r9) (.reg true zz17_r10)))) (.reg false zz17_r11))
abbrev zz17_r12:List AI:=[
 ⟨some 100,.load true 64 (.t 3) .any,none⟩,
 ⟨none,.store 64 (.t 2) (.t 100) .any,none⟩]
abbrev zz17_c:ACode:=.seq (.reg false zz17_r0) (.seq (.reg false zz17_r1) (.seq (.seq (.reg false zz17_r2) (.block 0 (.loop zz17_l0))) (.seq (.seq (.reg false zz17_r6) (.block 2 (.loop zz17_l1))) (.seq (.reg false zz17_r12) (.ret)))))
def zz17_F:AFunc:=⟨101,[.cell 2 true 64],zz17_c⟩
theorem zz17_cp:compile Tryd.prog [] f_zz17=some zz17_F:=by kernel_rfl
abbrev zz20_r0:List AI:=[
 ⟨some 4,.mv true (.c (.int .u32 0)),none⟩]
abbrev zz20_r1:List AI:=[
 ⟨some 5,.mv false (.t 0),none⟩,
 ⟨some 6,.mv false (.t 1),none⟩,
 ⟨some 7,.bin .shr (.t 5) (.t 6),none⟩,
 ⟨some 8,.mv false (.t 0),none⟩,
 ⟨some 9,.mv false (.t 1),none⟩,
 ⟨some 10,.bin .sub (.c (.int .i64 32)) (.t 9),none⟩,
 ⟨some 11,.bin .shl (.t 8) (.t 10),none⟩,
 ⟨some 12,.bin .or (.t 7) (.t 11),none⟩,
 ⟨some 4,.mv true (.t 12),none⟩]
abbrev zz20_c:ACode:=.seq (.reg false zz20_r0) (.seq (.reg true zz20_r1) (.ret))
def zz20_F:AFunc:=⟨13,[.tmp 4],zz20_c⟩
theorem zz20_cp:compile Tryd.prog [] f_zz20=some zz20_F:=by kernel_rfl
-- loop 0: [0, 2, 3, 4, 11, 22, 23, 24]
-- loop 1: [0, 2, 3, 11]
abbrev zz34_r0:List AI:=[
 ⟨some 2,.alloc (zr 64 (.int .u32 0)),none⟩]
abbrev zz34_r1:List AI:=[
 ⟨some 3,.alloc (zr 64 (.int .u32 0)),none⟩]
abbrev zz34_r2:List AI:=[
 ⟨some 11,.mv false (.c (.int .i64 0)),none⟩]
abbrev zz34_r3:List AI:=[
 ⟨some 12,.bin .lss (.t 11) (.c (.int .i64 64)),none⟩]
abbrev zz34_r4:List AI:=[
 ⟨some 13,.mv false (.t 11),none⟩,
 ⟨some 4,.mv true (.t 13),none⟩]
abbrev zz34_r5:List AI:=[
 ⟨some 14,.mv false (.t 4),none⟩,
 ⟨some 15,.bin .lss (.t 14) (.c (.int .i64 16)),none⟩]
abbrev zz34_r6:List AI:=[
 ⟨some 16,.mv false (.t 0),none⟩,
 ⟨some 17,.mv false (.t 4),none⟩,
 ⟨some 18,.bin .mul (.c (.int .i64 4)) (.t 17),none⟩,
 ⟨some 19,.mv false (.t 4),none⟩,
 ⟨some 20,.bin .mul (.c (.int .i64 4)) (.t 19),none⟩,
 ⟨some 21,.bin .add (.t 20) (.c (.int .i64 4)),none⟩,
 ⟨some 22,.sl 1 (.t 16) (some (.t 18)) (some (.t 21)),none⟩,
 ⟨some 23,.len false (.t 22),none⟩,
 ⟨some 24,.mv false (.c (.int .i64 0)),none⟩]
abbrev zz34_r7:List AI:=[
 ⟨some 25,.bin .lss (.t 24) (.t 23),none⟩]
abbrev zz34_r8:List AI:=[
 ⟨some 26,.iaddr 1 (.t 22) (.t 24),none⟩,
 ⟨some 27,.load false 1 (.t 26) .any,none⟩,
 ⟨some 6,.mv true (.t 27),none⟩]
abbrev zz34_r9:List AI:=[
 ⟨some 28,.mv false (.t 4),none⟩,
 ⟨some 29,.mv false (.t 4),none⟩,
 ⟨some 30,.iaddrA 64 1 (.t 3) (.t 29),none⟩,
 ⟨some 31,.load false 1 (.t 30) .any,none⟩,
 ⟨some 32,.bin .shl (.t 31) (.c (.int .u64 8)),none⟩,
 ⟨some 33,.mv false (.t 6),none⟩,
 ⟨some 34,.conv .u32 (.t 33),none⟩,
 ⟨some 35,.bin .or (.t 32) (.t 34),none⟩,
 ⟨some 36,.iaddrA 64 1 (.t 3) (.t 28),none⟩,
 ⟨none,.store 1 (.t 36) (.t 35) .any,none⟩]
abbrev zz34_r10:List AI:=[
 ⟨some 37,.bin .add (.t 24) (.c (.int .i64 1)),none⟩,
 ⟨some 24,.mv false (.t 37),none⟩]
abbrev zz34_l0:ACode:=.seq (.reg false zz34_r7) (.seq (.cond (.t 25) (.skip) (.exit 2)) (.seq (.block 3 (.seq (.reg false zz34_r8) (.reg false zz34_r9))) (.reg false zz34_r10)))
abbrev zz34_b0:ACode:=.seq (.seq (.reg false zz34_r6) (.block 2 (.loop zz34_l0))) (.exit 1)
abbrev zz34_r11:List AI:=[
 ⟨some 38,.mv false (.t 4),none⟩,
 ⟨some 39,.bin .sub (.t 38) (.c (.int .i64 15)),none⟩,
 ⟨some 40,.iaddrA 64 1 (.t 3) (.t 39),none⟩,
 ⟨some 41,.load false 1 (.t 40) (.site 3),none⟩,
 ⟨some 42,.mv false (.t 4),none⟩,
 ⟨some 43,.bin .sub (.t 42) (.c (.int .i64 2)),none⟩,
 ⟨some 44,.iaddrA 64 1 (.t 3) (.t 43),none⟩,
 ⟨some 45,.load false 1 (.t 44) (.site 3),none⟩,
 ⟨some 7,.mv true (.t 41),none⟩,
 ⟨some 8,.mv true (.t 45),none⟩]
abbrev zz34_r12:List AI:=[
 ⟨some 46,.mv false (.t 7),none⟩,
 ⟨some 47,.call (.c (.fn f_zz7)) [(.t 46),(.c (.int .i64 (-7)))] 0,none⟩,
 ⟨some 48,.mv false (.t 7),none⟩,
 ⟨some 49,.call (.c (.fn f_zz7)) [(.t 48),(.c (.int .i64 (-18)))] 0,none⟩,
 ⟨some 50,.bin .xor (.t 47) (.t 49),none⟩,
 ⟨some 51,.mv false (.t 7),none⟩,
 ⟨some 52,.bin .shr (.t 51) (.c (.int .u64 3)),none⟩,
 ⟨some 53,.bin .xor (.t 50) (.t 52),none⟩,
 ⟨some 9,.mv true (.t 53),none⟩]
abbrev zz34_r13:List AI:=[
 ⟨some 54,.mv false (.t 8),none⟩,
 ⟨some 55,.call (.c (.fn f_zz7)) [(.t 54),(.c (.int .i64 (-17)))] 0,none⟩,
 ⟨some 56,.mv false (.t 8),none⟩,
 ⟨some 57,.call (.c (.fn f_zz7)) [(.t 56),(.c (.int .i64 (-19)))] 0,none⟩,
 ⟨some 58,.bin .xor (.t 55) (.t 57),none⟩,
 ⟨some 59,.mv false (.t 8),none⟩,
 ⟨some 60,.bin .shr (.t 59) (.c (.int .u64 10)),none⟩,
 ⟨some 61,.bin .xor (.t 58) (.t 60),none⟩,
 ⟨some 10,.mv true (.t 61),none⟩]
abbrev zz34_r14:List AI:=[
 ⟨some 62,.mv false (.t 4),none⟩,
 ⟨some 63,.mv false (.t 4),none⟩,
 ⟨some 64,.bin .sub (.t 63) (.c (.int .i64 16)),none⟩,
 ⟨some 65,.iaddrA 64 1 (.t 3) (.t 64),none⟩,
 ⟨some 66,.load false 1 (.t 65) (.site 3),none⟩,
 ⟨some 67,.mv false (.t 9),none⟩,
 ⟨some 68,.bin .add (.t 66) (.t 67),none⟩,
 ⟨some 69,.mv false (.t 4),none⟩,
 ⟨some 70,.bin .sub (.t 69) (.c (.int .i64 7)),none⟩,
 ⟨some 71,.iaddrA 64 1 (.t 3) (.t 70),none⟩,
 ⟨some 72,.load false 1 (.t 71) (.site 3),none⟩,
 ⟨some 73,.bin .add (.t 68) (.t 72),none⟩,
 ⟨some 74,.mv false (.t 10),none⟩,
 ⟨some 75,.bin .add (.t 73) (.t 74),none⟩,
 ⟨some 76,.iaddrA 64 1 (.t 3) (.t 62),none⟩,
 ⟨none,.store 1 (.t 76) (.t 75) (.site 3),none⟩]
abbrev zz34_r15:List AI:=[
 ⟨some 77,.bin .add (.t 11) (.c (.int .i64 1)),none⟩,
 ⟨some 11,.mv false (.t 77),none⟩]
abbrev zz34_l1:ACode:=.seq (.reg false zz34_r3) (.seq (.cond (.t 12) (.skip) (.exit 0)) (.seq (.block 1 (.seq (.reg false zz34_r4) (.seq (.seq (.reg false zz34_r5) (.cond (.t 15) (zz34_b0) (.skip))) (.seq (.reg true zz34_r11) (.seq (.reg false zz34_r12) (.seq (.reg false zz34_r13) (.reg true zz34_r14))))))) (.reg false zz34_r15)))
abbrev zz34_r16:List AI:=[
 ⟨some 78,.load true 64 (.t 3) .any,none⟩,
 ⟨none,.store 64 (.t 2) (.t 78) .any,none⟩]
abbrev zz34_c:ACode:=.seq (.reg false zz34_r0) (.seq (.reg false zz34_r1) (.seq (.seq (.reg false zz34_r2) (.block 0 (.loop zz34_l1))) (.seq (.reg false zz34_r16) (.ret))))
def zz34_F:AFunc:=⟨79,[.cell 2 true 64],zz34_c⟩
theorem zz34_cp:compile Tryd.prog [] f_zz34=some zz34_F:=by kernel_rfl
abbrev zz50_r0:List AI:=[
 ⟨some 8,.mv true (.c (.int .u32 0)),none⟩]
abbrev zz50_r1:List AI:=[
 ⟨some 9,.mv false (.t 0),none⟩,
 ⟨some 10,.mv false (.t 1),none⟩,
 ⟨some 11,.neg (.t 10),none⟩,
 ⟨some 12,.call (.c (.fn f_zz7)) [(.t 9),(.t 11)] 0,none⟩,
 ⟨some 13,.mv false (.t 0),none⟩,
 ⟨some 14,.mv false (.t 2),none⟩,
 ⟨some 15,.neg (.t 14),none⟩,
 ⟨some 16,.call (.c (.fn f_zz7)) [(.t 13),(.t 15)] 0,none⟩,
 ⟨some 17,.bin .xor (.t 12) (.t 16),none⟩,
 ⟨some 18,.mv false (.t 0),none⟩,
 ⟨some 19,.mv false (.t 3),none⟩,
 ⟨some 20,.neg (.t 19),none⟩,
 ⟨some 21,.call (.c (.fn f_zz7)) [(.t 18),(.t 20)] 0,none⟩,
 ⟨some 22,.bin .xor (.t 17) (.t 21),none⟩,
 ⟨some 8,.mv true (.t 22),none⟩]
abbrev zz50_c:ACode:=.seq (.reg false zz50_r0) (.seq (.reg false zz50_r1) (.ret))
def zz50_F:AFunc:=⟨23,[.tmp 8],zz50_c⟩
theorem zz50_cp:compile Tryd.prog [] f_zz50=some zz50_F:=by kernel_rfl
abbrev zz7_r0:List AI:=[
 ⟨some 4,.mv true (.c (.int .u32 0)),none⟩]
abbrev zz7_r1:List AI:=[
 ⟨some 6,.mv false (.t 1),none⟩,
 ⟨some 7,.conv .u64 (.t 6),none⟩,
 ⟨some 8,.bin .and (.t 7) (.c (.int .u64 31)),none⟩,
 ⟨some 5,.mv true (.t 8),none⟩]
abbrev zz7_r2:List AI:=[
 ⟨some 9,.mv false (.t 0),none⟩,
 ⟨some 10,.mv false (.t 5),none⟩,
 ⟨some 11,.bin .shl (.t 9) (.t 10),none⟩,
 ⟨some 12,.mv false (.t 0),none⟩,
 ⟨some 13,.mv false (.t 5),none⟩,
 ⟨some 14,.bin .sub (.c (.int .u64 32)) (.t 13),none⟩,
 ⟨some 15,.bin .shr (.t 12) (.t 14),none⟩,
 ⟨some 16,.bin .or (.t 11) (.t 15),none⟩,
 ⟨some 4,.mv true (.t 16),none⟩]
abbrev zz7_c:ACode:=.seq (.reg false zz7_r0) (.seq (.reg false zz7_r1) (.seq (.reg false zz7_r2) (.ret)))
def zz7_F:AFunc:=⟨17,[.tmp 4],zz7_c⟩
theorem zz7_cp:compile Tryd.prog [] f_zz7=some zz7_F:=by kernel_rfl
theorem fol:Tryd.prog.follows .mixedOrders=true:=by kernel_rfl
end
end Go.Proofs.YtclmdhceceacoaaDoor
