/-
 The functions' code in the evaluator's form (second part),printed by a program of ours from the loaded program,and checked against it.
 Conditions: none.
-/
import Derived.Test.YtclmdhceceacoaaGreatDoorT44z
namespace Go.Proofs.YtclmdhceceacoaaGreatDoor
open Go Go.E2
noncomputable section
-- loop 0: [2, 3, 4, 7, 8, 65, 66, 67]
-- loop 1: [2, 3, 4, 7, 8, 11, 81, 82, 83]
-- loop 2: [4, 8, 16, 20, 22, 24, 161, 162, 163]
-- loop 3: [4, 8, 16, 20, 22, 24, 27, 177, 178]
abbrev zz1_r0:List AI:=[
 ⟨some 3,.box 16 (.t 0),none⟩,
 ⟨some 4,.box 6 (.t 1),none⟩,
 ⟨some 6,.mv true (.c (.bool false)),none⟩]
abbrev zz1_r1:List AI:=[
 ⟨some 29,.faddr 0 (.t 4),none⟩,
 ⟨some 30,.load false 1 (.t 29) .any,none⟩,
 ⟨some 31,.len false (.t 30),none⟩,
 ⟨some 7,.mv true (.t 31),none⟩]
abbrev zz1_r2:List AI:=[
 ⟨some 32,.mv false (.t 7),none⟩,
 ⟨some 33,.bin .eql (.t 32) (.c (.int .i64 0)),none⟩,
 ⟨some 34,.mv false (.t 33),none⟩,
 ⟨some 35,.mv false (.t 7),some (34,false)⟩,
 ⟨some 36,.bin .gtr (.t 35) (.c (.int .i64 20)),some (34,false)⟩,
 ⟨some 37,.pick (.t 34) (.c (.bool true)) (.t 36),none⟩,
 ⟨some 38,.mv false (.t 37),none⟩,
 ⟨some 39,.faddr 3 (.t 4),some (38,false)⟩,
 ⟨some 40,.load false 1 (.t 39) .any,some (38,false)⟩,
 ⟨some 41,.len false (.t 40),some (38,false)⟩,
 ⟨some 42,.mv false (.t 7),some (38,false)⟩,
 ⟨some 43,.bin .neq (.t 41) (.t 42),some (38,false)⟩,
 ⟨some 44,.pick (.t 38) (.c (.bool true)) (.t 43),none⟩,
 ⟨some 45,.mv false (.t 44),none⟩,
 ⟨some 46,.faddr 5 (.t 4),some (45,false)⟩,
 ⟨some 47,.load false 1 (.t 46) .any,some (45,false)⟩,
 ⟨some 48,.len true (.t 47),some (45,false)⟩,
 ⟨some 49,.bin .gtr (.t 48) (.c (.int .i64 6)),some (45,false)⟩,
 ⟨some 50,.pick (.t 45) (.c (.bool true)) (.t 49),none⟩]
abbrev zz1_r3:List AI:=[
 ⟨some 51,.call (.c (.fn f_zz12)) [] 0,none⟩,
 ⟨some 6,.mv true (.t 51),none⟩]
abbrev zz1_r4:List AI:=[
 ⟨some 52,.faddr 1 (.t 4),none⟩,
 ⟨some 53,.iaddrA 2 1 (.t 52) (.c (.int .i64 0)),none⟩,
 ⟨some 54,.load false 1 (.t 53) .any,none⟩,
 ⟨some 55,.bin .rem (.t 54) (.c (.int .u32 2147483647)),none⟩,
 ⟨some 56,.conv .i64 (.t 55),none⟩,
 ⟨some 57,.faddr 1 (.t 4),none⟩,
 ⟨some 58,.iaddrA 2 1 (.t 57) (.c (.int .i64 1)),none⟩,
 ⟨some 59,.load false 1 (.t 58) .any,none⟩,
 ⟨some 60,.bin .rem (.t 59) (.c (.int .u32 2147483647)),none⟩,
 ⟨some 61,.conv .i64 (.t 60),none⟩,
 ⟨some 62,.mkslice 1 2 (.int .i64 0) [(0,(.t 56)),(1,(.t 61))],none⟩,
 ⟨some 63,.build [.nilS,.nilS] [(0,1,(.t 62))],none⟩,
 ⟨some 8,.alloc [.nilS,.nilS],none⟩,
 ⟨none,.store 2 (.t 8) (.t 63) .any,none⟩]
abbrev zz1_r5:List AI:=[
 ⟨some 64,.faddr 3 (.t 4),none⟩,
 ⟨some 65,.load false 1 (.t 64) .any,none⟩,
 ⟨some 66,.len false (.t 65),none⟩,
 ⟨some 67,.mv false (.c (.int .i64 0)),none⟩]
abbrev zz1_r6:List AI:=[
 ⟨some 68,.bin .lss (.t 67) (.t 66),none⟩]
abbrev zz1_r7:List AI:=[
 ⟨some 69,.iaddr 1 (.t 65) (.t 67),none⟩,
 ⟨some 70,.load false 1 (.t 69) .any,none⟩,
 ⟨some 10,.mv true (.t 70),none⟩]
abbrev zz1_r8:List AI:=[
 ⟨some 71,.faddr 1 (.t 8),none⟩,
 ⟨some 72,.load false 1 (.t 71) .any,none⟩,
 ⟨some 73,.mv false (.t 10),none⟩,
 ⟨some 74,.bin .rem (.t 73) (.c (.int .u32 2147483647)),none⟩,
 ⟨some 75,.conv .i64 (.t 74),none⟩,
 ⟨some 76,.mkslice 1 1 (.int .i64 0) [(0,(.t 75))],none⟩,
 ⟨some 77,.appG 1 8 [(.int .i64 0)] (.t 72) (.t 76),none⟩,
 ⟨some 78,.faddr 1 (.t 8),none⟩,
 ⟨none,.store 1 (.t 78) (.t 77) .any,none⟩]
abbrev zz1_r9:List AI:=[
 ⟨some 79,.bin .add (.t 67) (.c (.int .i64 1)),none⟩,
 ⟨some 67,.mv false (.t 79),none⟩]
abbrev zz1_l0:ACode:=.seq (.reg false zz1_r6) (.seq (.cond (.t 68) (.skip) (.exit 0)) (.seq (.block 1 (.seq (.reg false zz1_r7) (.reg false zz1_r8))) (.reg false zz1_r9)))
abbrev zz1_r10:List AI:=[
 ⟨some 11,.mv true (.c .nilS),none⟩]
abbrev zz1_r11:List AI:=[
 ⟨some 80,.faddr 0 (.t 4),none⟩,
 ⟨some 81,.load false 1 (.t 80) .any,none⟩,
 ⟨some 82,.len false (.t 81),none⟩,
 ⟨some 83,.mv false (.c (.int .i64 0)),none⟩]
abbrev zz1_r12:List AI:=[
 ⟨some 84,.bin .lss (.t 83) (.t 82),none⟩]
abbrev zz1_r13:List AI:=[
 ⟨some 85,.mv false (.t 83),none⟩,
 ⟨some 86,.iaddr 1 (.t 81) (.t 83),none⟩,
 ⟨some 87,.load false 1 (.t 86) .any,none⟩,
 ⟨some 12,.mv true (.t 85),none⟩,
 ⟨some 13,.mv true (.t 87),none⟩]
abbrev zz1_r14:List AI:=[
 ⟨some 88,.mv false (.t 13),none⟩,
 ⟨some 89,.len true (.t 88),none⟩,
 ⟨some 90,.bin .gtr (.t 89) (.c (.int .i64 6)),none⟩]
abbrev zz1_r15:List AI:=[
 ⟨some 91,.call (.c (.fn f_zz12)) [] 0,none⟩,
 ⟨some 6,.mv true (.t 91),none⟩]
abbrev zz1_r16:List AI:=[
 ⟨some 93,.load true 2 (.t 8) .any,none⟩,
 ⟨some 94,.mv false (.t 12),none⟩,
 ⟨some 95,.mv false (.t 13),none⟩,
 ⟨some 96,.call (.c (.fn f_zz60)) [(.t 93),(.t 94),(.t 95)] 0,none⟩,
 ⟨some 92,.mv false (.t 96),none⟩,
 ⟨some 97,.ext (.t 92) 0,none⟩,
 ⟨some 98,.ext (.t 92) 1,none⟩,
 ⟨some 14,.mv true (.t 97),none⟩,
 ⟨some 15,.mv true (.t 98),none⟩]
abbrev zz1_r17:List AI:=[
 ⟨some 99,.mv false (.t 15),none⟩,
 ⟨some 100,.bin .neq (.t 99) (.c (.int .i64 0)),none⟩]
abbrev zz1_r18:List AI:=[
 ⟨some 6,.mv true (.c (.bool false)),none⟩]
abbrev zz1_r19:List AI:=[
 ⟨some 101,.mv true (.t 11),none⟩,
 ⟨some 102,.mv false (.t 14),none⟩,
 ⟨some 103,.mkslice 1 1 (.int .i64 0) [(0,(.t 102))],none⟩,
 ⟨some 104,.append 1 8 (.t 101) (.t 103),none⟩,
 ⟨some 11,.mv true (.t 104),none⟩]
abbrev zz1_r20:List AI:=[
 ⟨some 105,.bin .add (.t 83) (.c (.int .i64 1)),none⟩,
 ⟨some 83,.mv false (.t 105),none⟩]
abbrev zz1_l1:ACode:=.seq (.reg false zz1_r12) (.seq (.cond (.t 84) (.skip) (.exit 2)) (.seq (.block 3 (.seq (.reg false zz1_r13) (.seq (.seq (.reg false zz1_r14) (.cond (.t 90) (.seq (.reg false zz1_r15) (.ret)) (.skip))) (.seq (.reg false zz1_r16) (.seq (.seq (.reg false zz1_r17) (.cond (.t 100) (.seq (.reg false zz1_r18) (.ret)) (.skip))) (.reg false zz1_r19)))))) (.reg false zz1_r20)))
abbrev zz1_r21:List AI:=[
 ⟨some 107,.load true 16 (.t 3) (.site 3),none⟩,
 ⟨some 108,.mv false (.t 7),none⟩,
 ⟨some 109,.mv false (.t 2),none⟩,
 ⟨some 110,.conv .i64 (.t 109),none⟩,
 ⟨some 111,.mv false (.t 7),none⟩,
 ⟨some 112,.bin .add (.t 111) (.c (.int .i64 1)),none⟩,
 ⟨some 113,.bin .rem (.t 110) (.t 112),none⟩,
 ⟨some 114,.call (.c (.fn f_zz31)) [(.t 107),(.t 108),(.t 113)] 2,none⟩,
 ⟨some 106,.mv false (.t 114),none⟩,
 ⟨some 115,.ext (.t 106) 0,none⟩,
 ⟨some 116,.ext (.t 106) 1,none⟩,
 ⟨some 16,.mv true (.t 115),none⟩,
 ⟨some 17,.mv true (.t 116),none⟩]
abbrev zz1_r22:List AI:=[
 ⟨some 118,.faddr 0 (.t 4),none⟩,
 ⟨some 119,.load false 1 (.t 118) .any,none⟩,
 ⟨some 120,.mv false (.t 11),none⟩,
 ⟨some 121,.mv false (.t 16),none⟩,
 ⟨some 122,.call (.c (.fn f_zz51)) [(.c (.int .i64 2)),(.t 119),(.t 120),(.t 121)] 0,none⟩,
 ⟨some 117,.mv false (.t 122),none⟩,
 ⟨some 123,.ext (.t 117) 0,none⟩,
 ⟨some 124,.ext (.t 117) 1,none⟩,
 ⟨some 18,.alloc [.nilS,(.int .i64 0)],none⟩,
 ⟨none,.store 2 (.t 18) (.t 123) .any,none⟩,
 ⟨some 19,.mv true (.t 124),none⟩]
abbrev zz1_r23:List AI:=[
 ⟨some 125,.mv false (.t 17),none⟩,
 ⟨some 126,.bin .neq (.t 125) (.c (.int .i64 0)),none⟩,
 ⟨some 127,.mv false (.t 126),none⟩,
 ⟨some 128,.mv false (.t 19),some (127,false)⟩,
 ⟨some 129,.bin .neq (.t 128) (.c (.int .i64 0)),some (127,false)⟩,
 ⟨some 130,.pick (.t 127) (.c (.bool true)) (.t 129),none⟩,
 ⟨some 131,.mv false (.t 130),none⟩,
 ⟨some 132,.load true 2 (.t 8) .any,some (131,false)⟩,
 ⟨some 133,.mv false (.t 16),some (131,false)⟩,
 ⟨some 134,.load true 2 (.t 18) .any,some (131,false)⟩,
 ⟨some 135,.call (.c (.fn f_zz52)) [(.t 132),(.t 133),(.t 134)] 0,some (131,false)⟩,
 ⟨some 136,.bin .neq (.t 135) (.c (.int .i64 0)),some (131,false)⟩,
 ⟨some 137,.pick (.t 131) (.c (.bool true)) (.t 136),none⟩]
abbrev zz1_r24:List AI:=[
 ⟨some 6,.mv true (.c (.bool false)),none⟩]
abbrev zz1_r25:List AI:=[
 ⟨some 138,.faddr 4 (.t 4),none⟩,
 ⟨some 139,.load false 1 (.t 138) .any,none⟩,
 ⟨some 140,.conv .i64 (.t 139),none⟩,
 ⟨some 141,.mv false (.t 7),none⟩,
 ⟨some 142,.bin .rem (.t 140) (.t 141),none⟩,
 ⟨some 20,.mv true (.t 142),none⟩]
abbrev zz1_r26:List AI:=[
 ⟨some 143,.mkG 1 0 (.str []) [],none⟩,
 ⟨some 144,.faddr 0 (.t 4),none⟩,
 ⟨some 145,.load false 1 (.t 144) .any,none⟩,
 ⟨some 146,.appG 1 16 [(.str [])] (.t 143) (.t 145),none⟩,
 ⟨some 21,.mv true (.t 146),none⟩]
abbrev zz1_r27:List AI:=[
 ⟨some 147,.mv false (.t 21),none⟩,
 ⟨some 148,.mv false (.t 20),none⟩,
 ⟨some 149,.faddr 5 (.t 4),none⟩,
 ⟨some 150,.load false 1 (.t 149) .any,none⟩,
 ⟨some 151,.iaddr 1 (.t 147) (.t 148),none⟩,
 ⟨none,.store 1 (.t 151) (.t 150) .any,none⟩]
abbrev zz1_r28:List AI:=[
 ⟨some 153,.mv false (.t 21),none⟩,
 ⟨some 154,.mv false (.t 11),none⟩,
 ⟨some 155,.mv false (.t 16),none⟩,
 ⟨some 156,.call (.c (.fn f_zz51)) [(.c (.int .i64 2)),(.t 153),(.t 154),(.t 155)] 0,none⟩,
 ⟨some 152,.mv false (.t 156),none⟩,
 ⟨some 157,.ext (.t 152) 0,none⟩,
 ⟨some 158,.ext (.t 152) 1,none⟩,
 ⟨some 22,.alloc [.nilS,(.int .i64 0)],none⟩,
 ⟨none,.store 2 (.t 22) (.t 157) .any,none⟩,
 ⟨some 23,.mv true (.t 158),none⟩]
abbrev zz1_r29:List AI:=[
 ⟨some 159,.mv false (.t 23),none⟩,
 ⟨some 160,.bin .neq (.t 159) (.c (.int .i64 0)),none⟩]
abbrev zz1_r30:List AI:=[
 ⟨some 6,.mv true (.c (.bool false)),none⟩]
abbrev zz1_r31:List AI:=[
 ⟨some 24,.mv true (.c (.bool false)),none⟩]
abbrev zz1_r32:List AI:=[
 ⟨some 161,.mv false (.t 16),none⟩,
 ⟨some 162,.len false (.t 161),none⟩,
 ⟨some 163,.mv false (.c (.int .i64 0)),none⟩]
abbrev zz1_r33:List AI:=[
 ⟨some 164,.bin .lss (.t 163) (.t 162),none⟩]
abbrev zz1_r34:List AI:=[
 ⟨some 165,.iaddr 2 (.t 161) (.t 163),none⟩,
 ⟨some 166,.load true 2 (.t 165) .any,none⟩,
 ⟨some 26,.alloc [(.int .i64 0),(.int .i64 0)],none⟩,
 ⟨none,.store 2 (.t 26) (.t 166) .any,none⟩]
abbrev zz1_r35:List AI:=[
 ⟨some 167,.mv false (.t 24),none⟩,
 ⟨some 168,.mv false (.t 167),none⟩,
 ⟨some 169,.faddr 0 (.t 26),some (168,false)⟩,
 ⟨some 170,.load false 1 (.t 169) .any,some (168,false)⟩,
 ⟨some 171,.mv false (.t 20),some (168,false)⟩,
 ⟨some 172,.bin .eql (.t 170) (.t 171),some (168,false)⟩,
 ⟨some 173,.pick (.t 168) (.c (.bool true)) (.t 172),none⟩,
 ⟨some 24,.mv true (.t 173),none⟩]
abbrev zz1_r36:List AI:=[
 ⟨some 174,.bin .add (.t 163) (.c (.int .i64 1)),none⟩,
 ⟨some 163,.mv false (.t 174),none⟩]
abbrev zz1_l2:ACode:=.seq (.reg false zz1_r33) (.seq (.cond (.t 164) (.skip) (.exit 4)) (.seq (.block 5 (.seq (.reg false zz1_r34) (.reg false zz1_r35))) (.reg false zz1_r36)))
abbrev zz1_r37:List AI:=[
 ⟨some 27,.mv true (.c (.int .i64 0)),none⟩]
abbrev zz1_r38:List AI:=[
 ⟨some 175,.faddr 0 (.t 8),none⟩,
 ⟨some 176,.load false 1 (.t 175) .any,none⟩,
 ⟨some 177,.len false (.t 176),none⟩,
 ⟨some 178,.mv false (.c (.int .i64 0)),none⟩]
abbrev zz1_r39:List AI:=[
 ⟨some 179,.bin .lss (.t 178) (.t 177),none⟩]
abbrev zz1_r40:List AI:=[
 ⟨some 180,.mv false (.t 178),none⟩,
 ⟨some 28,.mv true (.t 180),none⟩]
abbrev zz1_r41:List AI:=[
 ⟨some 181,.mv false (.t 27),none⟩,
 ⟨some 182,.faddr 0 (.t 8),none⟩,
 ⟨some 183,.load false 1 (.t 182) (.site 8),none⟩,
 ⟨some 184,.mv false (.t 28),none⟩,
 ⟨some 185,.iaddr 1 (.t 183) (.t 184),none⟩,
 ⟨some 186,.load false 1 (.t 185) .foreign,none⟩,
 ⟨some 187,.faddr 5 (.t 4),none⟩,
 ⟨some 188,.load false 1 (.t 187) (.site 4),none⟩,
 ⟨some 189,.mv false (.t 28),none⟩,
 ⟨some 191,.faddr 0 (.t 4),none⟩,
 ⟨some 192,.load false 1 (.t 191) (.site 4),none⟩,
 ⟨some 193,.mv false (.t 20),none⟩,
 ⟨some 194,.iaddr 1 (.t 192) (.t 193),none⟩,
 ⟨some 195,.load false 1 (.t 194) .foreign,none⟩,
 ⟨some 196,.mv false (.t 28),none⟩,
 ⟨some 190,.call (.c (.fn f_zz13)) [(.t 188),(.t 189)] 1,none⟩,
 ⟨some 197,.call (.c (.fn f_zz13)) [(.t 195),(.t 196)] 1,none⟩,
 ⟨some 198,.bin .sub (.t 190) (.t 197),none⟩,
 ⟨some 199,.bin .add (.t 198) (.c (.int .i64 2147483647)),none⟩,
 ⟨some 200,.bin .rem (.t 199) (.c (.int .i64 2147483647)),none⟩,
 ⟨some 201,.bin .mul (.t 186) (.t 200),none⟩,
 ⟨some 202,.bin .add (.t 181) (.t 201),none⟩,
 ⟨some 203,.bin .rem (.t 202) (.c (.int .i64 2147483647)),none⟩,
 ⟨some 27,.mv true (.t 203),none⟩]
abbrev zz1_r42:List AI:=[
 ⟨some 204,.bin .add (.t 178) (.c (.int .i64 1)),none⟩,
 ⟨some 178,.mv false (.t 204),none⟩]
abbrev zz1_l3:ACode:=.seq (.reg false zz1_r39) (.seq (.cond (.t 179) (.skip) (.exit 6)) (.seq (.block 7 (.seq (.reg false zz1_r40) (.reg true zz1_r41))) (.reg false zz1_r42)))
abbrev zz1_r43:List AI:=[
 ⟨some 205,.call (.c (.fn f_zz12)) [] 0,none⟩,
 ⟨some 206,.mv false (.t 205),none⟩,
 ⟨some 207,.load true 2 (.t 8) .any,some (206,true)⟩,
 ⟨some 208,.mv false (.t 16),some (206,true)⟩,
 ⟨some 209,.load true 2 (.t 22) .any,some (206,true)⟩,
 ⟨some 210,.call (.c (.fn f_zz52)) [(.t 207),(.t 208),(.t 209)] 0,some (206,true)⟩,
 ⟨some 211,.bin .eql (.t 210) (.c (.int .i64 0)),some (206,true)⟩,
 ⟨some 212,.mv false (.t 24),some (206,true)⟩,
 ⟨some 213,.not (.t 212),some (206,true)⟩,
 ⟨some 214,.mv false (.t 213),some (206,true)⟩,
 ⟨some 215,.mv false (.t 27),some (214,false)⟩,
 ⟨some 216,.bin .eql (.t 215) (.c (.int .i64 0)),some (214,false)⟩,
 ⟨some 217,.pick (.t 214) (.c (.bool true)) (.t 216),some (206,true)⟩,
 ⟨some 218,.eqb false (.t 211) (.t 217),some (206,true)⟩,
 ⟨some 219,.pick (.t 206) (.t 218) (.c (.bool false)),none⟩,
 ⟨some 6,.mv true (.t 219),none⟩]
abbrev zz1_c:ACode:=.seq (.reg false zz1_r0) (.seq (.reg false zz1_r1) (.seq (.seq (.reg false zz1_r2) (.cond (.t 50) (.seq (.reg false zz1_r3) (.ret)) (.skip))) (.seq (.reg false zz1_r4) (.seq (.seq (.reg false zz1_r5) (.block 0 (.loop zz1_l0))) (.seq (.reg false zz1_r10) (.seq (.seq (.reg false zz1_r11) (.block 2 (.loop zz1_l1))) (.seq (.reg true zz1_r21) (.seq (.reg false zz1_r22) (.seq (.seq (.reg false zz1_r23) (.cond (.t 137) (.seq (.reg false zz1_r24) (.ret)) (.skip))) (.seq (.reg false zz1_r25) (.seq (.reg false zz1_r26) (.seq (.reg false zz1_r27) (.seq (.reg false zz1_r28) (.seq (.seq (.reg false zz1_r29) (.cond (.t 160) (.seq (.reg false zz1_r30) (.ret)) (.skip))) (.seq (.reg false zz1_r31) (.seq (.seq (.reg false zz1_r32) (.block 4 (.loop zz1_l2))) (.seq (.reg false zz1_r37) (.seq (.seq (.reg false zz1_r38) (.block 6 (.loop zz1_l3))) (.seq (.reg false zz1_r43) (.ret))))))))))))))))))))
def zz1_F:AFunc:=⟨220,[.tmp 6],zz1_c⟩
theorem zz1_cp:compile Tryz.prog [77,143,146] f_zz1=some zz1_F:=by kernel_rfl
-- loop 0: [0, 1, 5, 6]
abbrev zz13_r0:List AI:=[
 ⟨some 4,.mv true (.c (.int .i64 0)),none⟩]
abbrev zz13_r1:List AI:=[
 ⟨some 5,.mv true (.c (.int .i64 0)),none⟩]
abbrev zz13_r2:List AI:=[
 ⟨some 7,.mv false (.t 1),none⟩,
 ⟨some 8,.bin .mul (.c (.int .i64 3)) (.t 7),none⟩,
 ⟨some 6,.mv true (.t 8),none⟩]
abbrev zz13_r3:List AI:=[
 ⟨some 9,.mv false (.t 6),none⟩,
 ⟨some 10,.mv false (.t 1),none⟩,
 ⟨some 11,.bin .mul (.c (.int .i64 3)) (.t 10),none⟩,
 ⟨some 12,.bin .add (.t 11) (.c (.int .i64 3)),none⟩,
 ⟨some 13,.bin .lss (.t 9) (.t 12),none⟩]
abbrev zz13_r4:List AI:=[
 ⟨some 16,.mv false (.t 5),none⟩,
 ⟨some 17,.bin .mul (.t 16) (.c (.int .i64 256)),none⟩,
 ⟨some 5,.mv true (.t 17),none⟩]
abbrev zz13_r5:List AI:=[
 ⟨some 18,.mv false (.t 6),none⟩,
 ⟨some 19,.mv false (.t 0),none⟩,
 ⟨some 20,.len true (.t 19),none⟩,
 ⟨some 21,.bin .lss (.t 18) (.t 20),none⟩]
abbrev zz13_r6:List AI:=[
 ⟨some 22,.mv false (.t 5),none⟩,
 ⟨some 23,.mv false (.t 0),none⟩,
 ⟨some 24,.mv false (.t 6),none⟩,
 ⟨some 25,.idxS (.t 23) (.t 24),none⟩,
 ⟨some 26,.conv .i64 (.t 25),none⟩,
 ⟨some 27,.bin .add (.t 22) (.t 26),none⟩,
 ⟨some 5,.mv true (.t 27),none⟩]
abbrev zz13_r7:List AI:=[
 ⟨some 14,.mv false (.t 6),none⟩,
 ⟨some 15,.bin .add (.t 14) (.c (.int .i64 1)),none⟩,
 ⟨some 6,.mv true (.t 15),none⟩]
abbrev zz13_l0:ACode:=.seq (.seq (.reg false zz13_r3) (.cond (.t 13) (.skip) (.exit 0))) (.seq (.block 1 (.seq (.reg false zz13_r4) (.seq (.reg false zz13_r5) (.cond (.t 21) (.reg false zz13_r6) (.skip))))) (.reg false zz13_r7))
abbrev zz13_r8:List AI:=[
 ⟨some 28,.mv false (.t 5),none⟩,
 ⟨some 4,.mv true (.t 28),none⟩]
abbrev zz13_c:ACode:=.seq (.reg false zz13_r0) (.seq (.reg false zz13_r1) (.seq (.seq (.reg false zz13_r2) (.block 0 (.loop zz13_l0))) (.seq (.reg false zz13_r8) (.ret))))
def zz13_F:AFunc:=⟨29,[.tmp 4],zz13_c⟩
theorem zz13_cp:compile Tryz.prog [] f_zz13=some zz13_F:=by kernel_rfl
abbrev zz2_r0:List AI:=[
 ⟨some 4,.mv true (.c (.bool false)),none⟩]
abbrev zz2_r1:List AI:=[
 ⟨some 5,.mv false (.t 0),none⟩,
 ⟨some 6,.mv false (.t 1),none⟩,
 ⟨some 7,.call (.c (.fn f_zz5)) [(.t 5),(.t 6)] 0,none⟩,
 ⟨some 8,.bin .geq (.t 7) (.c (.int .i64 0)),none⟩,
 ⟨some 4,.mv true (.t 8),none⟩]
abbrev zz2_c:ACode:=.seq (.reg false zz2_r0) (.seq (.reg false zz2_r1) (.ret))
def zz2_F:AFunc:=⟨9,[.tmp 4],zz2_c⟩
theorem zz2_cp:compile Tryz.prog [] f_zz2=some zz2_F:=by kernel_rfl
-- loop 0: [0, 1, 7, 8]
abbrev zz5_r0:List AI:=[
 ⟨some 4,.mv true (.c (.int .i64 0)),none⟩]
abbrev zz5_r1:List AI:=[
 ⟨some 6,.mv false (.t 0),none⟩,
 ⟨some 7,.len false (.t 6),none⟩,
 ⟨some 8,.mv false (.c (.int .i64 0)),none⟩]
abbrev zz5_r2:List AI:=[
 ⟨some 9,.bin .lss (.t 8) (.t 7),none⟩]
abbrev zz5_r3:List AI:=[
 ⟨some 10,.mv false (.t 8),none⟩,
 ⟨some 5,.mv true (.t 10),none⟩]
abbrev zz5_r4:List AI:=[
 ⟨some 11,.mv false (.t 1),none⟩,
 ⟨some 12,.mv false (.t 0),none⟩,
 ⟨some 13,.mv false (.t 5),none⟩,
 ⟨some 14,.iaddr 1 (.t 12) (.t 13),none⟩,
 ⟨some 15,.load false 1 (.t 14) .any,none⟩,
 ⟨some 16,.call (.t 11) [(.t 15)] 0,none⟩]
abbrev zz5_r5:List AI:=[
 ⟨some 17,.mv false (.t 5),none⟩,
 ⟨some 4,.mv true (.t 17),none⟩]
abbrev zz5_r6:List AI:=[
 ⟨some 18,.bin .add (.t 8) (.c (.int .i64 1)),none⟩,
 ⟨some 8,.mv false (.t 18),none⟩]
abbrev zz5_l0:ACode:=.seq (.reg false zz5_r2) (.seq (.cond (.t 9) (.skip) (.exit 0)) (.seq (.block 1 (.seq (.reg false zz5_r3) (.seq (.reg false zz5_r4) (.cond (.t 16) (.seq (.reg false zz5_r5) (.ret)) (.skip))))) (.reg false zz5_r6)))
abbrev zz5_r7:List AI:=[
 ⟨some 4,.mv true (.c (.int .i64 (-1))),none⟩]
abbrev zz5_c:ACode:=.seq (.reg false zz5_r0) (.seq (.seq (.reg false zz5_r1) (.block 0 (.loop zz5_l0))) (.seq (.reg false zz5_r7) (.ret)))
def zz5_F:AFunc:=⟨19,[.tmp 4],zz5_c⟩
theorem zz5_cp:compile Tryz.prog [] f_zz5=some zz5_F:=by kernel_rfl
-- loop 0: [0, 1, 2, 3, 8, 10, 39, 40, 41]
-- loop 1: [2, 8, 10, 15, 16, 18, 70, 71, 72, 80, 81, 82]
-- loop 2: [2, 8, 10, 15, 16, 70, 71, 72]
abbrev zz51_r0:List AI:=[
 ⟨some 8,.alloc [.nilS,(.int .i64 0)],none⟩,
 ⟨some 9,.mv true (.c (.int .i64 0)),none⟩]
abbrev zz51_r1:List AI:=[
 ⟨some 21,.mv false (.t 0),none⟩,
 ⟨some 22,.bin .lss (.t 21) (.c (.int .i64 1)),none⟩,
 ⟨some 23,.mv false (.t 22),none⟩,
 ⟨some 24,.mv false (.t 0),some (23,false)⟩,
 ⟨some 25,.bin .gtr (.t 24) (.c (.int .i64 64)),some (23,false)⟩,
 ⟨some 26,.pick (.t 23) (.c (.bool true)) (.t 25),none⟩,
 ⟨some 27,.mv false (.t 26),none⟩,
 ⟨some 28,.mv false (.t 1),some (27,false)⟩,
 ⟨some 29,.len false (.t 28),some (27,false)⟩,
 ⟨some 30,.bin .gtr (.t 29) (.c (.int .i64 200)),some (27,false)⟩,
 ⟨some 31,.pick (.t 27) (.c (.bool true)) (.t 30),none⟩]
abbrev zz51_r2:List AI:=[
 ⟨some 32,.build [.nilS,(.int .i64 0)] [],none⟩,
 ⟨none,.store 2 (.t 8) (.t 32) .any,none⟩,
 ⟨some 9,.mv true (.c (.int .i64 2)),none⟩]
abbrev zz51_r3:List AI:=[
 ⟨some 33,.mv false (.t 2),none⟩,
 ⟨some 34,.len false (.t 33),none⟩,
 ⟨some 35,.mv false (.t 1),none⟩,
 ⟨some 36,.len false (.t 35),none⟩,
 ⟨some 37,.bin .neq (.t 34) (.t 36),none⟩]
abbrev zz51_r4:List AI:=[
 ⟨some 38,.build [.nilS,(.int .i64 0)] [],none⟩,
 ⟨none,.store 2 (.t 8) (.t 38) .any,none⟩,
 ⟨some 9,.mv true (.c (.int .i64 1)),none⟩]
abbrev zz51_r5:List AI:=[
 ⟨some 10,.mv true (.c .nilS),none⟩]
abbrev zz51_r6:List AI:=[
 ⟨some 39,.mv false (.t 1),none⟩,
 ⟨some 40,.len false (.t 39),none⟩,
 ⟨some 41,.mv false (.c (.int .i64 0)),none⟩]
abbrev zz51_r7:List AI:=[
 ⟨some 42,.bin .lss (.t 41) (.t 40),none⟩]
abbrev zz51_r8:List AI:=[
 ⟨some 43,.iaddr 1 (.t 39) (.t 41),none⟩,
 ⟨some 44,.load false 1 (.t 43) .any,none⟩,
 ⟨some 12,.mv true (.t 44),none⟩]
abbrev zz51_r9:List AI:=[
 ⟨some 45,.mv false (.t 12),none⟩,
 ⟨some 46,.call (.c (.fn f_zz44)) [(.t 45)] 0,none⟩,
 ⟨some 13,.mv true (.t 46),none⟩]
abbrev zz51_r10:List AI:=[
 ⟨some 47,.mv false (.t 13),none⟩,
 ⟨some 48,.len false (.t 47),none⟩,
 ⟨some 49,.mv false (.t 0),none⟩,
 ⟨some 50,.bin .gtr (.t 48) (.t 49),none⟩]
abbrev zz51_r11:List AI:=[
 ⟨some 51,.build [.nilS,(.int .i64 0)] [],none⟩,
 ⟨none,.store 2 (.t 8) (.t 51) .any,none⟩,
 ⟨some 9,.mv true (.c (.int .i64 2)),none⟩]
abbrev zz51_r12:List AI:=[
 ⟨some 52,.mv true (.t 10),none⟩,
 ⟨some 53,.mv false (.t 13),none⟩,
 ⟨some 54,.mkslice 1 1 .nilS [(0,(.t 53))],none⟩,
 ⟨some 55,.append 1 24 (.t 52) (.t 54),none⟩,
 ⟨some 10,.mv true (.t 55),none⟩]
abbrev zz51_r13:List AI:=[
 ⟨some 56,.bin .add (.t 41) (.c (.int .i64 1)),none⟩,
 ⟨some 41,.mv false (.t 56),none⟩]
abbrev zz51_l0:ACode:=.seq (.reg false zz51_r7) (.seq (.cond (.t 42) (.skip) (.exit 0)) (.seq (.block 1 (.seq (.reg false zz51_r8) (.seq (.reg false zz51_r9) (.seq (.seq (.reg false zz51_r10) (.cond (.t 50) (.seq (.reg false zz51_r11) (.ret)) (.skip))) (.reg false zz51_r12))))) (.reg false zz51_r13)))
abbrev zz51_r14:List AI:=[
 ⟨some 57,.mv false (.t 2),none⟩,
 ⟨some 58,.call (.c (.fn f_zz2)) [(.t 57),(.c (.fn f_zz61))] 0,none⟩]
abbrev zz51_r15:List AI:=[
 ⟨some 59,.build [.nilS,(.int .i64 0)] [],none⟩,
 ⟨none,.store 2 (.t 8) (.t 59) .any,none⟩,
 ⟨some 9,.mv true (.c (.int .i64 3)),none⟩]
abbrev zz51_r16:List AI:=[
 ⟨some 60,.mv false (.t 3),none⟩,
 ⟨some 61,.mv false (.t 1),none⟩,
 ⟨some 62,.len false (.t 61),none⟩,
 ⟨some 63,.call (.c (.fn f_zz37)) [(.t 60),(.t 62)] 0,none⟩,
 ⟨some 14,.mv true (.t 63),none⟩]
abbrev zz51_r17:List AI:=[
 ⟨some 64,.mv false (.t 14),none⟩,
 ⟨some 65,.bin .neq (.t 64) (.c (.int .i64 0)),none⟩]
abbrev zz51_r18:List AI:=[
 ⟨some 66,.build [.nilS,(.int .i64 0)] [],none⟩,
 ⟨some 67,.mv false (.t 14),none⟩,
 ⟨none,.store 2 (.t 8) (.t 66) .any,none⟩,
 ⟨some 9,.mv true (.t 67),none⟩]
abbrev zz51_r19:List AI:=[
 ⟨some 68,.mv false (.t 0),none⟩,
 ⟨some 69,.gn (.mkSl 1 8 [(.int .i64 0)]) [(.t 68),(.t 68)],none⟩,
 ⟨some 15,.mv true (.t 69),none⟩]
abbrev zz51_r20:List AI:=[
 ⟨some 16,.mv true (.c (.int .i64 0)),none⟩]
abbrev zz51_r21:List AI:=[
 ⟨some 70,.mv false (.t 3),none⟩,
 ⟨some 71,.len false (.t 70),none⟩,
 ⟨some 72,.mv false (.c (.int .i64 0)),none⟩]
abbrev zz51_r22:List AI:=[
 ⟨some 73,.bin .lss (.t 72) (.t 71),none⟩]
abbrev zz51_r23:List AI:=[
 ⟨some 74,.iaddr 2 (.t 70) (.t 72),none⟩,
 ⟨some 75,.load true 2 (.t 74) .any,none⟩,
 ⟨some 18,.alloc [(.int .i64 0),(.int .i64 0)],none⟩,
 ⟨none,.store 2 (.t 18) (.t 75) .any,none⟩]
abbrev zz51_r24:List AI:=[
 ⟨some 76,.mv false (.t 10),none⟩,
 ⟨some 77,.faddr 0 (.t 18),none⟩,
 ⟨some 78,.load false 1 (.t 77) .any,none⟩,
 ⟨some 79,.iaddr 1 (.t 76) (.t 78),none⟩,
 ⟨some 80,.load false 1 (.t 79) .any,none⟩,
 ⟨some 81,.len false (.t 80),none⟩,
 ⟨some 82,.mv false (.c (.int .i64 0)),none⟩]
abbrev zz51_r25:List AI:=[
 ⟨some 83,.bin .lss (.t 82) (.t 81),none⟩]
abbrev zz51_r26:List AI:=[
 ⟨some 84,.mv false (.t 82),none⟩,
 ⟨some 85,.iaddr 1 (.t 80) (.t 82),none⟩,
 ⟨some 86,.load false 1 (.t 85) .any,none⟩,
 ⟨some 19,.mv true (.t 84),none⟩,
 ⟨some 20,.mv true (.t 86),none⟩]
abbrev zz51_r27:List AI:=[
 ⟨some 87,.mv false (.t 15),none⟩,
 ⟨some 88,.mv false (.t 19),none⟩,
 ⟨some 89,.mv false (.t 15),none⟩,
 ⟨some 90,.mv false (.t 19),none⟩,
 ⟨some 91,.iaddr 1 (.t 89) (.t 90),none⟩,
 ⟨some 92,.load false 1 (.t 91) .foreign,none⟩,
 ⟨some 93,.mv false (.t 20),none⟩,
 ⟨some 94,.faddr 1 (.t 18),none⟩,
 ⟨some 95,.load false 1 (.t 94) (.site 18),none⟩,
 ⟨some 96,.call (.c (.fn f_zz24)) [(.t 93),(.t 95)] 1,none⟩,
 ⟨some 97,.mkslice 1 2 (.int .i64 0) [(0,(.t 92)),(1,(.t 96))],none⟩,
 ⟨some 98,.call (.c (.fn f_zz65)) [(.t 97)] 1,none⟩,
 ⟨some 99,.iaddr 1 (.t 87) (.t 88),none⟩,
 ⟨none,.store 1 (.t 99) (.t 98) .gp,none⟩]
abbrev zz51_r28:List AI:=[
 ⟨some 100,.bin .add (.t 82) (.c (.int .i64 1)),none⟩,
 ⟨some 82,.mv false (.t 100),none⟩]
abbrev zz51_l1:ACode:=.seq (.reg false zz51_r25) (.seq (.cond (.t 83) (.skip) (.exit 4)) (.seq (.block 5 (.seq (.reg false zz51_r26) (.reg true zz51_r27))) (.reg false zz51_r28)))
abbrev zz51_r29:List AI:=[
 ⟨some 101,.mv false (.t 16),none⟩,
 ⟨some 102,.mv false (.t 2),none⟩,
 ⟨some 103,.faddr 0 (.t 18),none⟩,
 ⟨some 104,.load false 1 (.t 103) (.site 18),none⟩,
 ⟨some 105,.iaddr 1 (.t 102) (.t 104),none⟩,
 ⟨some 106,.load false 1 (.t 105) .foreign,none⟩,
 ⟨some 107,.faddr 1 (.t 18),none⟩,
 ⟨some 108,.load false 1 (.t 107) (.site 18),none⟩,
 ⟨some 109,.call (.c (.fn f_zz24)) [(.t 106),(.t 108)] 1,none⟩,
 ⟨some 110,.mkslice 1 2 (.int .i64 0) [(0,(.t 101)),(1,(.t 109))],none⟩,
 ⟨some 111,.call (.c (.fn f_zz65)) [(.t 110)] 1,none⟩,
 ⟨some 16,.mv true (.t 111),none⟩]
abbrev zz51_r30:List AI:=[
 ⟨some 112,.bin .add (.t 72) (.c (.int .i64 1)),none⟩,
 ⟨some 72,.mv false (.t 112),none⟩]
abbrev zz51_l2:ACode:=.seq (.reg false zz51_r22) (.seq (.cond (.t 73) (.skip) (.exit 2)) (.seq (.block 3 (.seq (.reg false zz51_r23) (.seq (.seq (.reg false zz51_r24) (.block 4 (.loop zz51_l1))) (.reg true zz51_r29)))) (.reg false zz51_r30)))
abbrev zz51_r31:List AI:=[
 ⟨some 113,.mv false (.t 15),none⟩,
 ⟨some 114,.mv false (.t 16),none⟩,
 ⟨some 115,.call (.c (.fn f_zz58)) [(.t 113),(.t 114)] 0,none⟩,
 ⟨none,.store 2 (.t 8) (.t 115) .any,none⟩,
 ⟨some 9,.mv true (.c (.int .i64 0)),none⟩]
abbrev zz51_c:ACode:=.seq (.reg false zz51_r0) (.seq (.seq (.reg false zz51_r1) (.cond (.t 31) (.seq (.reg false zz51_r2) (.ret)) (.skip))) (.seq (.seq (.reg false zz51_r3) (.cond (.t 37) (.seq (.reg false zz51_r4) (.ret)) (.skip))) (.seq (.reg false zz51_r5) (.seq (.seq (.reg false zz51_r6) (.block 0 (.loop zz51_l0))) (.seq (.seq (.reg false zz51_r14) (.cond (.t 58) (.seq (.reg false zz51_r15) (.ret)) (.skip))) (.seq (.seq (.reg false zz51_r16) (.seq (.reg false zz51_r17) (.cond (.t 65) (.seq (.reg false zz51_r18) (.ret)) (.skip)))) (.seq (.reg false zz51_r19) (.seq (.reg false zz51_r20) (.seq (.seq (.reg false zz51_r21) (.block 2 (.loop zz51_l2))) (.seq (.reg false zz51_r31) (.ret)))))))))))
def zz51_F:AFunc:=⟨116,[.cell 8 true 2,.tmp 9],zz51_c⟩
theorem zz51_cp:compile Tryz.prog [] f_zz51=some zz51_F:=by kernel_rfl
abbrev zz57_r0:List AI:=[
 ⟨some 1,.box 2 (.t 0),none⟩,
 ⟨some 2,.mv true (.c (.int .i64 0)),none⟩]
abbrev zz57_r1:List AI:=[
 ⟨some 4,.faddr 0 (.t 1),none⟩,
 ⟨some 5,.load false 1 (.t 4) .any,none⟩,
 ⟨some 6,.len false (.t 5),none⟩,
 ⟨some 7,.bin .lss (.t 6) (.c (.int .i64 1)),none⟩,
 ⟨some 8,.mv false (.t 7),none⟩,
 ⟨some 9,.faddr 0 (.t 1),some (8,false)⟩,
 ⟨some 10,.load false 1 (.t 9) .any,some (8,false)⟩,
 ⟨some 11,.len false (.t 10),some (8,false)⟩,
 ⟨some 12,.bin .gtr (.t 11) (.c (.int .i64 64)),some (8,false)⟩,
 ⟨some 13,.pick (.t 8) (.c (.bool true)) (.t 12),none⟩,
 ⟨some 14,.mv false (.t 13),none⟩,
 ⟨some 15,.faddr 1 (.t 1),some (14,false)⟩,
 ⟨some 16,.load false 1 (.t 15) .any,some (14,false)⟩,
 ⟨some 17,.len false (.t 16),some (14,false)⟩,
 ⟨some 18,.bin .gtr (.t 17) (.c (.int .i64 200)),some (14,false)⟩,
 ⟨some 19,.pick (.t 14) (.c (.bool true)) (.t 18),none⟩,
 ⟨some 3,.mv true (.t 19),none⟩]
abbrev zz57_r2:List AI:=[
 ⟨some 2,.mv true (.c (.int .i64 2)),none⟩]
abbrev zz57_r3:List AI:=[
 ⟨some 21,.faddr 0 (.t 1),none⟩,
 ⟨some 22,.load false 1 (.t 21) .any,none⟩,
 ⟨some 23,.call (.c (.fn f_zz2)) [(.t 22),(.c (.fn f_zz61))] 0,none⟩,
 ⟨some 24,.mv false (.t 23),none⟩,
 ⟨some 25,.faddr 1 (.t 1),some (24,false)⟩,
 ⟨some 26,.load false 1 (.t 25) .any,some (24,false)⟩,
 ⟨some 27,.call (.c (.fn f_zz2)) [(.t 26),(.c (.fn f_zz61))] 0,some (24,false)⟩,
 ⟨some 28,.pick (.t 24) (.c (.bool true)) (.t 27),none⟩,
 ⟨some 20,.mv true (.t 28),none⟩]
abbrev zz57_r4:List AI:=[
 ⟨some 2,.mv true (.c (.int .i64 3)),none⟩]
abbrev zz57_b0:ACode:=.seq (.reg false zz57_r3) (.cond (.t 20) (.seq (.reg false zz57_r4) (.ret)) (.skip))
abbrev zz57_r5:List AI:=[
 ⟨some 2,.mv true (.c (.int .i64 0)),none⟩]
abbrev zz57_c:ACode:=.seq (.reg false zz57_r0) (.seq (.block 0 (.seq (.reg false zz57_r1) (.cond (.t 3) (.seq (.reg false zz57_r2) (.ret)) (zz57_b0)))) (.seq (.reg false zz57_r5) (.ret)))
def zz57_F:AFunc:=⟨29,[.tmp 2],zz57_c⟩
theorem zz57_cp:compile Tryz.prog [] f_zz57=some zz57_F:=by kernel_rfl
abbrev zz60_r0:List AI:=[
 ⟨some 3,.box 2 (.t 0),none⟩,
 ⟨some 6,.mv true (.c (.int .i64 0)),none⟩,
 ⟨some 7,.mv true (.c (.int .i64 0)),none⟩]
abbrev zz60_r1:List AI:=[
 ⟨some 10,.load true 2 (.t 3) .any,none⟩,
 ⟨some 11,.call (.c (.fn f_zz57)) [(.t 10)] 0,none⟩,
 ⟨some 8,.mv true (.t 11),none⟩]
abbrev zz60_r2:List AI:=[
 ⟨some 12,.mv false (.t 8),none⟩,
 ⟨some 13,.bin .neq (.t 12) (.c (.int .i64 0)),none⟩]
abbrev zz60_r3:List AI:=[
 ⟨some 14,.mv false (.t 8),none⟩,
 ⟨some 6,.mv true (.c (.int .i64 0)),none⟩,
 ⟨some 7,.mv true (.t 14),none⟩]
abbrev zz60_r4:List AI:=[
 ⟨some 15,.mv false (.t 1),none⟩,
 ⟨some 16,.bin .lss (.t 15) (.c (.int .i64 0)),none⟩,
 ⟨some 17,.mv false (.t 16),none⟩,
 ⟨some 18,.mv false (.t 1),some (17,false)⟩,
 ⟨some 19,.faddr 1 (.t 3),some (17,false)⟩,
 ⟨some 20,.load false 1 (.t 19) .any,some (17,false)⟩,
 ⟨some 21,.len false (.t 20),some (17,false)⟩,
 ⟨some 22,.bin .geq (.t 18) (.t 21),some (17,false)⟩,
 ⟨some 23,.pick (.t 17) (.c (.bool true)) (.t 22),none⟩]
abbrev zz60_r5:List AI:=[
 ⟨some 6,.mv true (.c (.int .i64 0)),none⟩,
 ⟨some 7,.mv true (.c (.int .i64 1)),none⟩]
abbrev zz60_r6:List AI:=[
 ⟨some 24,.mv false (.t 2),none⟩,
 ⟨some 25,.call (.c (.fn f_zz44)) [(.t 24)] 0,none⟩,
 ⟨some 9,.mv true (.t 25),none⟩]
abbrev zz60_r7:List AI:=[
 ⟨some 26,.mv false (.t 9),none⟩,
 ⟨some 27,.len false (.t 26),none⟩,
 ⟨some 28,.faddr 0 (.t 3),none⟩,
 ⟨some 29,.load false 1 (.t 28) .any,none⟩,
 ⟨some 30,.len false (.t 29),none⟩,
 ⟨some 31,.bin .gtr (.t 27) (.t 30),none⟩]
abbrev zz60_r8:List AI:=[
 ⟨some 6,.mv true (.c (.int .i64 0)),none⟩,
 ⟨some 7,.mv true (.c (.int .i64 2)),none⟩]
abbrev zz60_r9:List AI:=[
 ⟨some 32,.faddr 1 (.t 3),none⟩,
 ⟨some 33,.load false 1 (.t 32) (.site 3),none⟩,
 ⟨some 34,.mv false (.t 1),none⟩,
 ⟨some 35,.iaddr 1 (.t 33) (.t 34),none⟩,
 ⟨some 36,.load false 1 (.t 35) .foreign,none⟩,
 ⟨some 37,.faddr 0 (.t 3),none⟩,
 ⟨some 38,.load false 1 (.t 37) (.site 3),none⟩,
 ⟨some 39,.mv false (.t 9),none⟩,
 ⟨some 40,.call (.c (.fn f_zz45)) [(.t 38),(.t 39)] 1,none⟩,
 ⟨some 41,.mkslice 1 2 (.int .i64 0) [(0,(.t 36)),(1,(.t 40))],none⟩,
 ⟨some 42,.call (.c (.fn f_zz65)) [(.t 41)] 1,none⟩,
 ⟨some 6,.mv true (.t 42),none⟩,
 ⟨some 7,.mv true (.c (.int .i64 0)),none⟩]
abbrev zz60_c:ACode:=.seq (.reg false zz60_r0) (.seq (.seq (.reg false zz60_r1) (.seq (.reg false zz60_r2) (.cond (.t 13) (.seq (.reg false zz60_r3) (.ret)) (.skip)))) (.seq (.seq (.reg false zz60_r4) (.cond (.t 23) (.seq (.reg false zz60_r5) (.ret)) (.skip))) (.seq (.reg false zz60_r6) (.seq (.seq (.reg false zz60_r7) (.cond (.t 31) (.seq (.reg false zz60_r8) (.ret)) (.skip))) (.seq (.reg true zz60_r9) (.ret))))))
def zz60_F:AFunc:=⟨43,[.tmp 6,.tmp 7],zz60_c⟩
theorem zz60_cp:compile Tryz.prog [] f_zz60=some zz60_F:=by kernel_rfl
-- loop 0: [1, 3, 4, 5]
abbrev zz44_r0:List AI:=[
 ⟨some 1,.gn (.box 1) [(.t 0)],none⟩,
 ⟨some 2,.mv true (.c .nilS),none⟩]
abbrev zz44_r1:List AI:=[
 ⟨some 6,.gd (.clo f_zz36) [(.t 1)],none⟩,
 ⟨some 3,.mv true (.t 6),none⟩]
abbrev zz44_r2:List AI:=[
 ⟨some 4,.mv true (.c .nilS),none⟩]
abbrev zz44_r3:List AI:=[
 ⟨some 5,.mv true (.c (.int .i64 0)),none⟩]
abbrev zz44_r4:List AI:=[
 ⟨some 7,.mv false (.t 5),none⟩,
 ⟨some 8,.load false 1 (.t 1) .any,none⟩,
 ⟨some 9,.len true (.t 8),none⟩,
 ⟨some 10,.bin .lss (.t 7) (.t 9),none⟩]
abbrev zz44_r5:List AI:=[
 ⟨some 13,.mv true (.t 4),none⟩,
 ⟨some 14,.mv false (.t 3),none⟩,
 ⟨some 15,.mv false (.t 5),none⟩,
 ⟨some 16,.call (.t 14) [(.t 15)] 0,none⟩,
 ⟨some 17,.bin .shl (.t 16) (.c (.int .u64 16)),none⟩,
 ⟨some 18,.mv false (.t 3),none⟩,
 ⟨some 19,.mv false (.t 5),none⟩,
 ⟨some 20,.bin .add (.t 19) (.c (.int .i64 1)),none⟩,
 ⟨some 21,.call (.t 18) [(.t 20)] 0,none⟩,
 ⟨some 22,.bin .shl (.t 21) (.c (.int .u64 8)),none⟩,
 ⟨some 23,.bin .or (.t 17) (.t 22),none⟩,
 ⟨some 24,.mv false (.t 3),none⟩,
 ⟨some 25,.mv false (.t 5),none⟩,
 ⟨some 26,.bin .add (.t 25) (.c (.int .i64 2)),none⟩,
 ⟨some 27,.call (.t 24) [(.t 26)] 0,none⟩,
 ⟨some 28,.bin .or (.t 23) (.t 27),none⟩,
 ⟨some 29,.mkslice 1 1 (.int .i64 0) [(0,(.t 28))],none⟩,
 ⟨some 30,.append 1 8 (.t 13) (.t 29),none⟩,
 ⟨some 4,.mv true (.t 30),none⟩]
abbrev zz44_r6:List AI:=[
 ⟨some 11,.mv false (.t 5),none⟩,
 ⟨some 12,.bin .add (.t 11) (.c (.int .i64 3)),none⟩,
 ⟨some 5,.mv true (.t 12),none⟩]
abbrev zz44_l0:ACode:=.seq (.seq (.reg false zz44_r4) (.cond (.t 10) (.skip) (.exit 0))) (.seq (.block 1 (.reg false zz44_r5)) (.reg false zz44_r6))
abbrev zz44_r7:List AI:=[
 ⟨some 31,.mv false (.t 4),none⟩,
 ⟨some 2,.mv true (.t 31),none⟩]
abbrev zz44_c:ACode:=.seq (.reg false zz44_r0) (.seq (.reg false zz44_r1) (.seq (.reg false zz44_r2) (.seq (.seq (.reg false zz44_r3) (.block 0 (.loop zz44_l0))) (.seq (.reg false zz44_r7) (.ret)))))
def zz44_F:AFunc:=⟨32,[.tmp 2],zz44_c⟩
theorem zz44_cp:compile Tryz.prog [1,6] f_zz44=some zz44_F:=by kernel_rfl
abbrev zz36_r0:List AI:=[
 ⟨some 3,.mv true (.c (.int .i64 0)),none⟩]
abbrev zz36_r1:List AI:=[
 ⟨some 4,.mv false (.t 0),none⟩,
 ⟨some 5,.load false 1 (.t 1) .any,none⟩,
 ⟨some 6,.len true (.t 5),none⟩,
 ⟨some 7,.bin .lss (.t 4) (.t 6),none⟩]
abbrev zz36_r2:List AI:=[
 ⟨some 8,.load false 1 (.t 1) .any,none⟩,
 ⟨some 9,.mv false (.t 0),none⟩,
 ⟨some 10,.idxS (.t 8) (.t 9),none⟩,
 ⟨some 11,.conv .i64 (.t 10),none⟩,
 ⟨some 3,.mv true (.t 11),none⟩]
abbrev zz36_r3:List AI:=[
 ⟨some 3,.mv true (.c (.int .i64 0)),none⟩]
abbrev zz36_c:ACode:=.seq (.reg false zz36_r0) (.seq (.seq (.reg false zz36_r1) (.cond (.t 7) (.seq (.reg false zz36_r2) (.ret)) (.skip))) (.seq (.reg false zz36_r3) (.ret)))
def zz36_F:AFunc:=⟨12,[.tmp 3],zz36_c⟩
theorem zz36_cp:compile Tryz.prog [] f_zz36=some zz36_F:=by kernel_rfl
-- loop 0: [3, 5, 9, 47, 48, 49]
abbrev zz52_r0:List AI:=[
 ⟨some 3,.box 2 (.t 0),none⟩,
 ⟨some 5,.box 2 (.t 2),none⟩,
 ⟨some 6,.mv true (.c (.int .i64 0)),none⟩]
abbrev zz52_r1:List AI:=[
 ⟨some 12,.load true 2 (.t 3) .any,none⟩,
 ⟨some 13,.call (.c (.fn f_zz57)) [(.t 12)] 0,none⟩,
 ⟨some 7,.mv true (.t 13),none⟩]
abbrev zz52_r2:List AI:=[
 ⟨some 14,.mv false (.t 7),none⟩,
 ⟨some 15,.bin .neq (.t 14) (.c (.int .i64 0)),none⟩]
abbrev zz52_r3:List AI:=[
 ⟨some 16,.mv false (.t 7),none⟩,
 ⟨some 6,.mv true (.t 16),none⟩]
abbrev zz52_r4:List AI:=[
 ⟨some 18,.faddr 0 (.t 5),none⟩,
 ⟨some 19,.load false 1 (.t 18) .any,none⟩,
 ⟨some 20,.len false (.t 19),none⟩,
 ⟨some 21,.faddr 0 (.t 3),none⟩,
 ⟨some 22,.load false 1 (.t 21) .any,none⟩,
 ⟨some 23,.len false (.t 22),none⟩,
 ⟨some 24,.bin .neq (.t 20) (.t 23),none⟩,
 ⟨some 17,.mv true (.t 24),none⟩]
abbrev zz52_r5:List AI:=[
 ⟨some 6,.mv true (.c (.int .i64 1)),none⟩]
abbrev zz52_r6:List AI:=[
 ⟨some 26,.faddr 1 (.t 5),none⟩,
 ⟨some 27,.load false 1 (.t 26) .any,none⟩,
 ⟨some 28,.call (.c (.fn f_zz61)) [(.t 27)] 0,none⟩,
 ⟨some 29,.mv false (.t 28),none⟩,
 ⟨some 30,.faddr 0 (.t 5),some (29,false)⟩,
 ⟨some 31,.load false 1 (.t 30) .any,some (29,false)⟩,
 ⟨some 32,.call (.c (.fn f_zz2)) [(.t 31),(.c (.fn f_zz61))] 0,some (29,false)⟩,
 ⟨some 33,.pick (.t 29) (.c (.bool true)) (.t 32),none⟩,
 ⟨some 25,.mv true (.t 33),none⟩]
abbrev zz52_r7:List AI:=[
 ⟨some 6,.mv true (.c (.int .i64 3)),none⟩]
abbrev zz52_b0:ACode:=.seq (.reg false zz52_r6) (.cond (.t 25) (.seq (.reg false zz52_r7) (.ret)) (.skip))
abbrev zz52_r8:List AI:=[
 ⟨some 34,.mv false (.t 1),none⟩,
 ⟨some 35,.faddr 1 (.t 3),none⟩,
 ⟨some 36,.load false 1 (.t 35) .any,none⟩,
 ⟨some 37,.len false (.t 36),none⟩,
 ⟨some 38,.call (.c (.fn f_zz37)) [(.t 34),(.t 37)] 0,none⟩,
 ⟨some 8,.mv true (.t 38),none⟩]
abbrev zz52_r9:List AI:=[
 ⟨some 39,.mv false (.t 8),none⟩,
 ⟨some 40,.bin .neq (.t 39) (.c (.int .i64 0)),none⟩]
abbrev zz52_r10:List AI:=[
 ⟨some 41,.mv false (.t 8),none⟩,
 ⟨some 6,.mv true (.t 41),none⟩]
abbrev zz52_r11:List AI:=[
 ⟨some 42,.faddr 0 (.t 3),none⟩,
 ⟨some 43,.load false 1 (.t 42) .any,none⟩,
 ⟨some 44,.faddr 0 (.t 5),none⟩,
 ⟨some 45,.load false 1 (.t 44) .any,none⟩,
 ⟨some 46,.call (.c (.fn f_zz45)) [(.t 43),(.t 45)] 0,none⟩,
 ⟨some 9,.mv true (.t 46),none⟩]
abbrev zz52_r12:List AI:=[
 ⟨some 47,.mv false (.t 1),none⟩,
 ⟨some 48,.len false (.t 47),none⟩,
 ⟨some 49,.mv false (.c (.int .i64 0)),none⟩]
abbrev zz52_r13:List AI:=[
 ⟨some 50,.bin .lss (.t 49) (.t 48),none⟩]
abbrev zz52_r14:List AI:=[
 ⟨some 51,.iaddr 2 (.t 47) (.t 49),none⟩,
 ⟨some 52,.load true 2 (.t 51) .any,none⟩,
 ⟨some 11,.alloc [(.int .i64 0),(.int .i64 0)],none⟩,
 ⟨none,.store 2 (.t 11) (.t 52) .any,none⟩]
abbrev zz52_r15:List AI:=[
 ⟨some 53,.mv false (.t 9),none⟩,
 ⟨some 54,.faddr 1 (.t 3),none⟩,
 ⟨some 55,.load false 1 (.t 54) (.site 3),none⟩,
 ⟨some 56,.faddr 0 (.t 11),none⟩,
 ⟨some 57,.load false 1 (.t 56) (.site 11),none⟩,
 ⟨some 58,.iaddr 1 (.t 55) (.t 57),none⟩,
 ⟨some 59,.load false 1 (.t 58) .foreign,none⟩,
 ⟨some 60,.faddr 1 (.t 11),none⟩,
 ⟨some 61,.load false 1 (.t 60) (.site 11),none⟩,
 ⟨some 62,.call (.c (.fn f_zz24)) [(.t 59),(.t 61)] 1,none⟩,
 ⟨some 63,.mkslice 1 2 (.int .i64 0) [(0,(.t 53)),(1,(.t 62))],none⟩,
 ⟨some 64,.call (.c (.fn f_zz65)) [(.t 63)] 1,none⟩,
 ⟨some 9,.mv true (.t 64),none⟩]
abbrev zz52_r16:List AI:=[
 ⟨some 65,.bin .add (.t 49) (.c (.int .i64 1)),none⟩,
 ⟨some 49,.mv false (.t 65),none⟩]
abbrev zz52_l0:ACode:=.seq (.reg false zz52_r13) (.seq (.cond (.t 50) (.skip) (.exit 1)) (.seq (.block 2 (.seq (.reg false zz52_r14) (.reg true zz52_r15))) (.reg false zz52_r16)))
abbrev zz52_r17:List AI:=[
 ⟨some 66,.mv false (.t 9),none⟩,
 ⟨some 67,.faddr 1 (.t 5),none⟩,
 ⟨some 68,.load false 1 (.t 67) .any,none⟩,
 ⟨some 69,.bin .neq (.t 66) (.t 68),none⟩]
abbrev zz52_r18:List AI:=[
 ⟨some 6,.mv true (.c (.int .i64 23)),none⟩]
abbrev zz52_r19:List AI:=[
 ⟨some 6,.mv true (.c (.int .i64 0)),none⟩]
abbrev zz52_c:ACode:=.seq (.reg false zz52_r0) (.seq (.seq (.reg false zz52_r1) (.seq (.reg false zz52_r2) (.cond (.t 15) (.seq (.reg false zz52_r3) (.ret)) (.skip)))) (.seq (.block 0 (.seq (.reg false zz52_r4) (.cond (.t 17) (.seq (.reg false zz52_r5) (.ret)) (zz52_b0)))) (.seq (.seq (.reg false zz52_r8) (.seq (.reg false zz52_r9) (.cond (.t 40) (.seq (.reg false zz52_r10) (.ret)) (.skip)))) (.seq (.reg false zz52_r11) (.seq (.seq (.reg false zz52_r12) (.block 1 (.loop zz52_l0))) (.seq (.seq (.reg false zz52_r17) (.cond (.t 69) (.seq (.reg false zz52_r18) (.ret)) (.skip))) (.seq (.reg false zz52_r19) (.ret))))))))
def zz52_F:AFunc:=⟨70,[.tmp 6],zz52_c⟩
theorem zz52_cp:compile Tryz.prog [] f_zz52=some zz52_F:=by kernel_rfl
-- loop 0: [1, 7, 8, 9]
abbrev zz37_r0:List AI:=[
 ⟨some 4,.mv true (.c (.int .i64 0)),none⟩]
abbrev zz37_r1:List AI:=[
 ⟨some 7,.mv false (.t 0),none⟩,
 ⟨some 8,.len false (.t 7),none⟩,
 ⟨some 9,.mv false (.c (.int .i64 0)),none⟩]
abbrev zz37_r2:List AI:=[
 ⟨some 10,.bin .lss (.t 9) (.t 8),none⟩]
abbrev zz37_r3:List AI:=[
 ⟨some 11,.iaddr 2 (.t 7) (.t 9),none⟩,
 ⟨some 12,.load true 2 (.t 11) .any,none⟩,
 ⟨some 6,.alloc [(.int .i64 0),(.int .i64 0)],none⟩,
 ⟨none,.store 2 (.t 6) (.t 12) .any,none⟩]
abbrev zz37_r4:List AI:=[
 ⟨some 13,.faddr 0 (.t 6),none⟩,
 ⟨some 14,.load false 1 (.t 13) .any,none⟩,
 ⟨some 15,.bin .lss (.t 14) (.c (.int .i64 0)),none⟩,
 ⟨some 16,.mv false (.t 15),none⟩,
 ⟨some 17,.faddr 0 (.t 6),some (16,false)⟩,
 ⟨some 18,.load false 1 (.t 17) .any,some (16,false)⟩,
 ⟨some 19,.mv false (.t 1),some (16,false)⟩,
 ⟨some 20,.bin .geq (.t 18) (.t 19),some (16,false)⟩,
 ⟨some 21,.pick (.t 16) (.c (.bool true)) (.t 20),none⟩]
abbrev zz37_r5:List AI:=[
 ⟨some 4,.mv true (.c (.int .i64 1)),none⟩]
abbrev zz37_r6:List AI:=[
 ⟨some 22,.faddr 1 (.t 6),none⟩,
 ⟨some 23,.load false 1 (.t 22) .any,none⟩,
 ⟨some 24,.call (.c (.fn f_zz61)) [(.t 23)] 0,none⟩]
abbrev zz37_r7:List AI:=[
 ⟨some 4,.mv true (.c (.int .i64 3)),none⟩]
abbrev zz37_r8:List AI:=[
 ⟨some 25,.bin .add (.t 9) (.c (.int .i64 1)),none⟩,
 ⟨some 9,.mv false (.t 25),none⟩]
abbrev zz37_l0:ACode:=.seq (.reg false zz37_r2) (.seq (.cond (.t 10) (.skip) (.exit 0)) (.seq (.block 1 (.seq (.reg false zz37_r3) (.seq (.seq (.reg false zz37_r4) (.cond (.t 21) (.seq (.reg false zz37_r5) (.ret)) (.skip))) (.seq (.reg false zz37_r6) (.cond (.t 24) (.seq (.reg false zz37_r7) (.ret)) (.skip)))))) (.reg false zz37_r8)))
abbrev zz37_r9:List AI:=[
 ⟨some 4,.mv true (.c (.int .i64 0)),none⟩]
abbrev zz37_c:ACode:=.seq (.reg false zz37_r0) (.seq (.seq (.reg false zz37_r1) (.block 0 (.loop zz37_l0))) (.seq (.reg false zz37_r9) (.ret)))
def zz37_F:AFunc:=⟨26,[.tmp 4],zz37_c⟩
theorem zz37_cp:compile Tryz.prog [] f_zz37=some zz37_F:=by kernel_rfl
-- loop 0: [4, 5, 10, 11, 12]
abbrev zz58_r0:List AI:=[
 ⟨some 4,.alloc [.nilS,(.int .i64 0)],none⟩]
abbrev zz58_r1:List AI:=[
 ⟨some 8,.mv false (.t 1),none⟩,
 ⟨some 9,.build [.nilS,(.int .i64 0)] [(1,1,(.t 8))],none⟩,
 ⟨some 5,.alloc [.nilS,(.int .i64 0)],none⟩,
 ⟨none,.store 2 (.t 5) (.t 9) .any,none⟩]
abbrev zz58_r2:List AI:=[
 ⟨some 10,.mv false (.t 0),none⟩,
 ⟨some 11,.len false (.t 10),none⟩,
 ⟨some 12,.mv false (.c (.int .i64 0)),none⟩]
abbrev zz58_r3:List AI:=[
 ⟨some 13,.bin .lss (.t 12) (.t 11),none⟩]
abbrev zz58_r4:List AI:=[
 ⟨some 14,.iaddr 1 (.t 10) (.t 12),none⟩,
 ⟨some 15,.load false 1 (.t 14) .any,none⟩,
 ⟨some 7,.mv true (.t 15),none⟩]
abbrev zz58_r5:List AI:=[
 ⟨some 16,.faddr 0 (.t 5),none⟩,
 ⟨some 17,.load false 1 (.t 16) .any,none⟩,
 ⟨some 18,.mv false (.t 7),none⟩,
 ⟨some 19,.mkslice 1 1 (.int .i64 0) [(0,(.t 18))],none⟩,
 ⟨some 20,.appG 1 8 [(.int .i64 0)] (.t 17) (.t 19),none⟩,
 ⟨some 21,.faddr 0 (.t 5),none⟩,
 ⟨none,.store 1 (.t 21) (.t 20) .any,none⟩]
abbrev zz58_r6:List AI:=[
 ⟨some 22,.bin .add (.t 12) (.c (.int .i64 1)),none⟩,
 ⟨some 12,.mv false (.t 22),none⟩]
abbrev zz58_l0:ACode:=.seq (.reg false zz58_r3) (.seq (.cond (.t 13) (.skip) (.exit 0)) (.seq (.block 1 (.seq (.reg false zz58_r4) (.reg false zz58_r5))) (.reg false zz58_r6)))
abbrev zz58_r7:List AI:=[
 ⟨some 23,.load true 2 (.t 5) .any,none⟩,
 ⟨none,.store 2 (.t 4) (.t 23) .any,none⟩]
abbrev zz58_c:ACode:=.seq (.reg false zz58_r0) (.seq (.reg false zz58_r1) (.seq (.seq (.reg false zz58_r2) (.block 0 (.loop zz58_l0))) (.seq (.reg false zz58_r7) (.ret))))
def zz58_F:AFunc:=⟨24,[.cell 4 true 2],zz58_c⟩
theorem zz58_cp:compile Tryz.prog [20] f_zz58=some zz58_F:=by kernel_rfl
-- loop 0: [0, 5, 9, 10, 11]
abbrev zz45_r0:List AI:=[
 ⟨some 4,.mv true (.c (.int .i64 0)),none⟩]
abbrev zz45_r1:List AI:=[
 ⟨some 5,.mv true (.c .nilS),none⟩]
abbrev zz45_r2:List AI:=[
 ⟨some 9,.mv false (.t 1),none⟩,
 ⟨some 10,.len false (.t 9),none⟩,
 ⟨some 11,.mv false (.c (.int .i64 0)),none⟩]
abbrev zz45_r3:List AI:=[
 ⟨some 12,.bin .lss (.t 11) (.t 10),none⟩]
abbrev zz45_r4:List AI:=[
 ⟨some 13,.mv false (.t 11),none⟩,
 ⟨some 14,.iaddr 1 (.t 9) (.t 11),none⟩,
 ⟨some 15,.load false 1 (.t 14) .any,none⟩,
 ⟨some 6,.mv true (.t 13),none⟩,
 ⟨some 7,.mv true (.t 15),none⟩]
abbrev zz45_r5:List AI:=[
 ⟨some 16,.mv false (.t 0),none⟩,
 ⟨some 17,.mv false (.t 6),none⟩,
 ⟨some 18,.iaddr 1 (.t 16) (.t 17),none⟩,
 ⟨some 19,.load false 1 (.t 18) .any,none⟩,
 ⟨some 20,.gd (.bnd f_zz24) [(.t 19)],none⟩,
 ⟨some 8,.mv true (.t 20),none⟩]
abbrev zz45_r6:List AI:=[
 ⟨some 21,.mv true (.t 5),none⟩,
 ⟨some 22,.mv false (.t 8),none⟩,
 ⟨some 23,.mv false (.t 7),none⟩,
 ⟨some 24,.call (.t 22) [(.t 23)] 0,none⟩,
 ⟨some 25,.mkslice 1 1 (.int .i64 0) [(0,(.t 24))],none⟩,
 ⟨some 26,.append 1 8 (.t 21) (.t 25),none⟩,
 ⟨some 5,.mv true (.t 26),none⟩]
abbrev zz45_r7:List AI:=[
 ⟨some 27,.bin .add (.t 11) (.c (.int .i64 1)),none⟩,
 ⟨some 11,.mv false (.t 27),none⟩]
abbrev zz45_l0:ACode:=.seq (.reg false zz45_r3) (.seq (.cond (.t 12) (.skip) (.exit 0)) (.seq (.block 1 (.seq (.reg false zz45_r4) (.seq (.reg false zz45_r5) (.reg false zz45_r6)))) (.reg false zz45_r7)))
abbrev zz45_r8:List AI:=[
 ⟨some 28,.mv false (.t 5),none⟩,
 ⟨some 29,.call (.c (.fn f_zz65)) [(.t 28)] 0,none⟩,
 ⟨some 4,.mv true (.t 29),none⟩]
abbrev zz45_c:ACode:=.seq (.reg false zz45_r0) (.seq (.reg false zz45_r1) (.seq (.seq (.reg false zz45_r2) (.block 0 (.loop zz45_l0))) (.seq (.reg false zz45_r8) (.ret))))
def zz45_F:AFunc:=⟨30,[.tmp 4],zz45_c⟩
theorem zz45_cp:compile Tryz.prog [20] f_zz45=some zz45_F:=by kernel_rfl
abbrev zz24_r0:List AI:=[
 ⟨some 4,.mv true (.c (.int .i64 0)),none⟩]
abbrev zz24_r1:List AI:=[
 ⟨some 5,.mv false (.t 0),none⟩,
 ⟨some 6,.mv false (.t 1),none⟩,
 ⟨some 7,.bin .mul (.t 5) (.t 6),none⟩,
 ⟨some 8,.bin .rem (.t 7) (.c (.int .i64 2147483647)),none⟩,
 ⟨some 4,.mv true (.t 8),none⟩]
abbrev zz24_c:ACode:=.seq (.reg false zz24_r0) (.seq (.reg false zz24_r1) (.ret))
def zz24_F:AFunc:=⟨9,[.tmp 4],zz24_c⟩
theorem zz24_cp:compile Tryz.prog [] f_zz24=some zz24_F:=by kernel_rfl
-- loop 0: [3, 6, 7, 8]
abbrev zz65_r0:List AI:=[
 ⟨some 2,.mv true (.c (.int .i64 0)),none⟩]
abbrev zz65_r1:List AI:=[
 ⟨some 3,.mv true (.c (.int .i64 0)),none⟩]
abbrev zz65_r2:List AI:=[
 ⟨some 6,.mv false (.t 0),none⟩,
 ⟨some 7,.len false (.t 6),none⟩,
 ⟨some 8,.mv false (.c (.int .i64 0)),none⟩]
abbrev zz65_r3:List AI:=[
 ⟨some 9,.bin .lss (.t 8) (.t 7),none⟩]
abbrev zz65_r4:List AI:=[
 ⟨some 10,.iaddr 1 (.t 6) (.t 8),none⟩,
 ⟨some 11,.load false 1 (.t 10) .any,none⟩,
 ⟨some 5,.mv true (.t 11),none⟩]
abbrev zz65_r5:List AI:=[
 ⟨some 12,.mv false (.t 3),none⟩,
 ⟨some 13,.mv false (.t 5),none⟩,
 ⟨some 14,.bin .add (.t 12) (.t 13),none⟩,
 ⟨some 3,.mv true (.t 14),none⟩]
abbrev zz65_r6:List AI:=[
 ⟨some 15,.mv false (.t 3),none⟩,
 ⟨some 16,.bin .geq (.t 15) (.c (.int .i64 2147483647)),none⟩]
abbrev zz65_r7:List AI:=[
 ⟨some 17,.mv false (.t 3),none⟩,
 ⟨some 18,.bin .sub (.t 17) (.c (.int .i64 2147483647)),none⟩,
 ⟨some 3,.mv true (.t 18),none⟩]
abbrev zz65_r8:List AI:=[
 ⟨some 19,.bin .add (.t 8) (.c (.int .i64 1)),none⟩,
 ⟨some 8,.mv false (.t 19),none⟩]
abbrev zz65_l0:ACode:=.seq (.reg false zz65_r3) (.seq (.cond (.t 9) (.skip) (.exit 0)) (.seq (.block 1 (.seq (.reg false zz65_r4) (.seq (.reg false zz65_r5) (.seq (.reg false zz65_r6) (.cond (.t 16) (.reg false zz65_r7) (.skip)))))) (.reg false zz65_r8)))
abbrev zz65_r9:List AI:=[
 ⟨some 20,.mv false (.t 3),none⟩,
 ⟨some 2,.mv true (.t 20),none⟩]
abbrev zz65_c:ACode:=.seq (.reg false zz65_r0) (.seq (.reg false zz65_r1) (.seq (.seq (.reg false zz65_r2) (.block 0 (.loop zz65_l0))) (.seq (.reg false zz65_r9) (.ret))))
def zz65_F:AFunc:=⟨21,[.tmp 2],zz65_c⟩
theorem zz65_cp:compile Tryz.prog [] f_zz65=some zz65_F:=by kernel_rfl
abbrev zz61_r0:List AI:=[
 ⟨some 2,.mv true (.c (.bool false)),none⟩]
abbrev zz61_r1:List AI:=[
 ⟨some 3,.mv false (.t 0),none⟩,
 ⟨some 4,.bin .lss (.t 3) (.c (.int .i64 0)),none⟩,
 ⟨some 5,.mv false (.t 4),none⟩,
 ⟨some 6,.mv false (.t 0),some (5,false)⟩,
 ⟨some 7,.bin .geq (.t 6) (.c (.int .i64 2147483647)),some (5,false)⟩,
 ⟨some 8,.pick (.t 5) (.c (.bool true)) (.t 7),none⟩,
 ⟨some 2,.mv true (.t 8),none⟩]
abbrev zz61_c:ACode:=.seq (.reg false zz61_r0) (.seq (.reg false zz61_r1) (.ret))
def zz61_F:AFunc:=⟨9,[.tmp 2],zz61_c⟩
theorem zz61_cp:compile Tryz.prog [] f_zz61=some zz61_F:=by kernel_rfl
end
end Go.Proofs.YtclmdhceceacoaaGreatDoor
