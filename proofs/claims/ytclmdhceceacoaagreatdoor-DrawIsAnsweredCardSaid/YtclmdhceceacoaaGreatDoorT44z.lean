/-
 The functions' code in the evaluator's form,printed by a program of ours from the loaded program,and checked against it.
 Conditions: none.
-/
import Derived.Test.YtclmdhceceacoaaGreatDoorProg
import Derived.KernelRfl
import Derived.Test.YtclmdhceceacoaaGreatDoorEZ
namespace Go.Proofs.YtclmdhceceacoaaGreatDoor
open Go Go.E2
noncomputable section
abbrev f_zz1:FuncId:=4
abbrev f_zz12:FuncId:=6
abbrev f_zz55:FuncId:=7
abbrev f_zz60:FuncId:=10
abbrev f_zz31:FuncId:=11
abbrev f_zz51:FuncId:=12
abbrev f_zz52:FuncId:=13
abbrev f_zz13:FuncId:=14
abbrev f_zz54:FuncId:=15
abbrev f_zz39:FuncId:=16
abbrev f_zz27:FuncId:=17
abbrev f_zz47:FuncId:=18
abbrev f_zz56:FuncId:=19
abbrev f_zz21:FuncId:=20
abbrev f_zz63:FuncId:=21
abbrev f_zz57:FuncId:=24
abbrev f_zz44:FuncId:=25
abbrev f_zz65:FuncId:=26
abbrev f_zz45:FuncId:=27
abbrev f_zz46:FuncId:=28
abbrev f_zz23:FuncId:=29
abbrev f_zz10:FuncId:=30
abbrev f_zz42:FuncId:=31
abbrev f_zz49:FuncId:=32
abbrev f_zz2:FuncId:=33
abbrev f_zz61:FuncId:=34
abbrev f_zz37:FuncId:=35
abbrev f_zz24:FuncId:=36
abbrev f_zz58:FuncId:=37
abbrev f_zz40:FuncId:=38
abbrev f_zz32:FuncId:=39
abbrev f_zz43:FuncId:=40
abbrev f_zz41:FuncId:=41
abbrev f_zz0:FuncId:=42
abbrev f_zz30:FuncId:=43
abbrev f_zz11:FuncId:=44
abbrev f_zz62:FuncId:=45
abbrev f_zz64:FuncId:=46
abbrev f_zz36:FuncId:=51
abbrev f_zz7:FuncId:=52
abbrev f_zz38:FuncId:=53
abbrev f_zz20:FuncId:=57
abbrev f_zz15:FuncId:=58
abbrev f_zz8:FuncId:=59
abbrev f_zz5:FuncId:=60
abbrev f_zz33:FuncId:=61
abbrev f_zz6:FuncId:=62
abbrev f_zz48:FuncId:=63
abbrev f_zz18:FuncId:=64
abbrev f_zz17:FuncId:=65
abbrev f_zz25:FuncId:=66
abbrev f_zz50:FuncId:=67
abbrev f_zz28:FuncId:=68
abbrev f_zz53:FuncId:=69
abbrev f_zz29:FuncId:=70
abbrev f_zz4:FuncId:=79
abbrev f_zz3:FuncId:=81
abbrev f_zz26:FuncId:=82
abbrev f_zz16:FuncId:=83
abbrev f_zz34:FuncId:=84
abbrev f_zz14:FuncId:=105
abbrev f_zz19:FuncId:=106
abbrev f_zz22:FuncId:=107
abbrev f_zz35:FuncId:=108
abbrev f_zz59:FuncId:=109
abbrev f_zz9:FuncId:=118
-- loop 0: [1, 2, 7, 8, 10, 13, 14, 15, 16, 17, 160, 161, 162]
abbrev zz12_r0:List AI:=[
 ⟨some 0,.mv true (.c (.bool false)),none⟩]
abbrev zz12_r1:List AI:=[
 ⟨some 26,.call (.c (.fn f_zz54)) [(.c (.int .i64 1)),(.c (.int .i64 5)),(.c (.int .i64 1)),(.c (.int .i64 2))] 0,none⟩,
 ⟨some 25,.mv false (.t 26),none⟩,
 ⟨some 27,.ext (.t 25) 0,none⟩,
 ⟨some 28,.ext (.t 25) 1,none⟩,
 ⟨some 29,.ext (.t 25) 2,none⟩,
 ⟨some 2,.alloc [(.int .i64 0),(.int .i64 0),.nilS],none⟩,
 ⟨some 1,.mv true (.t 27),none⟩,
 ⟨none,.store 3 (.t 2) (.t 28) .any,none⟩,
 ⟨some 3,.mv true (.t 29),none⟩]
abbrev zz12_r2:List AI:=[
 ⟨some 31,.call (.c (.fn f_zz54)) [(.c (.int .i64 2)),(.c (.int .i64 7)),(.c (.int .i64 2)),(.c (.int .i64 3))] 0,none⟩,
 ⟨some 30,.mv false (.t 31),none⟩,
 ⟨some 32,.ext (.t 30) 0,none⟩,
 ⟨some 33,.ext (.t 30) 1,none⟩,
 ⟨some 34,.ext (.t 30) 2,none⟩,
 ⟨some 5,.alloc [(.int .i64 0),(.int .i64 0),.nilS],none⟩,
 ⟨some 4,.mv true (.t 32),none⟩,
 ⟨none,.store 3 (.t 5) (.t 33) .any,none⟩,
 ⟨some 6,.mv true (.t 34),none⟩]
abbrev zz12_r3:List AI:=[
 ⟨some 35,.mv false (.t 3),none⟩,
 ⟨some 36,.bin .neq (.t 35) (.c (.int .i64 0)),none⟩,
 ⟨some 37,.mv false (.t 36),none⟩,
 ⟨some 38,.mv false (.t 6),some (37,false)⟩,
 ⟨some 39,.bin .neq (.t 38) (.c (.int .i64 0)),some (37,false)⟩,
 ⟨some 40,.pick (.t 37) (.c (.bool true)) (.t 39),none⟩,
 ⟨some 41,.mv false (.t 40),none⟩,
 ⟨some 42,.mv false (.t 1),some (41,false)⟩,
 ⟨some 43,.len false (.t 42),some (41,false)⟩,
 ⟨some 44,.bin .neq (.t 43) (.c (.int .i64 2)),some (41,false)⟩,
 ⟨some 45,.pick (.t 41) (.c (.bool true)) (.t 44),none⟩,
 ⟨some 46,.mv false (.t 45),none⟩,
 ⟨some 47,.mv false (.t 4),some (46,false)⟩,
 ⟨some 48,.len false (.t 47),some (46,false)⟩,
 ⟨some 49,.bin .neq (.t 48) (.c (.int .i64 3)),some (46,false)⟩,
 ⟨some 50,.pick (.t 46) (.c (.bool true)) (.t 49),none⟩,
 ⟨some 51,.mv false (.t 50),none⟩,
 ⟨some 52,.faddr 2 (.t 2),some (51,false)⟩,
 ⟨some 53,.load false 1 (.t 52) .any,some (51,false)⟩,
 ⟨some 54,.len false (.t 53),some (51,false)⟩,
 ⟨some 55,.bin .neq (.t 54) (.c (.int .i64 2)),some (51,false)⟩,
 ⟨some 56,.pick (.t 51) (.c (.bool true)) (.t 55),none⟩,
 ⟨some 57,.mv false (.t 56),none⟩,
 ⟨some 58,.faddr 2 (.t 5),some (57,false)⟩,
 ⟨some 59,.load false 1 (.t 58) .any,some (57,false)⟩,
 ⟨some 60,.len false (.t 59),some (57,false)⟩,
 ⟨some 61,.bin .neq (.t 60) (.c (.int .i64 3)),some (57,false)⟩,
 ⟨some 62,.pick (.t 57) (.c (.bool true)) (.t 61),none⟩]
abbrev zz12_r4:List AI:=[
 ⟨some 0,.mv true (.c (.bool false)),none⟩]
abbrev zz12_r5:List AI:=[
 ⟨some 64,.load true 3 (.t 2) .any,none⟩,
 ⟨some 65,.build [(.int .i64 0),(.int .i64 0)] [(0,1,(.c (.int .i64 2))),(1,1,(.c (.int .i64 5)))],none⟩,
 ⟨some 66,.mkslice 2 1 (.agg [(.int .i64 0),(.int .i64 0)]) [(0,(.t 65))],none⟩,
 ⟨some 67,.call (.c (.fn f_zz39)) [(.t 64),(.t 66)] 0,none⟩,
 ⟨some 63,.mv false (.t 67),none⟩,
 ⟨some 68,.ext (.t 63) 0,none⟩,
 ⟨some 69,.ext (.t 63) 1,none⟩,
 ⟨some 7,.mv true (.t 68),none⟩,
 ⟨some 8,.mv true (.t 69),none⟩]
abbrev zz12_r6:List AI:=[
 ⟨some 71,.load true 3 (.t 2) .any,none⟩,
 ⟨some 72,.build [(.int .i64 0),(.int .i64 0)] [(0,1,(.c (.int .i64 2))),(1,1,(.c (.int .i64 6)))],none⟩,
 ⟨some 73,.mkslice 2 1 (.agg [(.int .i64 0),(.int .i64 0)]) [(0,(.t 72))],none⟩,
 ⟨some 74,.call (.c (.fn f_zz39)) [(.t 71),(.t 73)] 0,none⟩,
 ⟨some 70,.mv false (.t 74),none⟩,
 ⟨some 75,.ext (.t 70) 0,none⟩,
 ⟨some 76,.ext (.t 70) 1,none⟩,
 ⟨some 9,.mv true (.t 75),none⟩,
 ⟨some 10,.mv true (.t 76),none⟩]
abbrev zz12_r7:List AI:=[
 ⟨some 77,.build (zr 16 (.int .u8 0)) [(0,1,(.c (.int .u8 1)))],none⟩,
 ⟨some 78,.faddr 2 (.t 2),none⟩,
 ⟨some 79,.load false 1 (.t 78) .any,none⟩,
 ⟨some 80,.iaddr 16 (.t 79) (.c (.int .i64 1)),none⟩,
 ⟨some 81,.load true 16 (.t 80) .any,none⟩,
 ⟨some 82,.mkslice 16 2 (.agg (zr 16 (.int .u8 0))) [(0,(.t 77)),(1,(.t 81))],none⟩,
 ⟨some 83,.build [(.int .i64 0),(.int .i64 0),.nilS] [(0,1,(.c (.int .i64 1))),(1,1,(.c (.int .i64 1))),(2,1,(.t 82))],none⟩,
 ⟨some 11,.alloc [(.int .i64 0),(.int .i64 0),.nilS],none⟩,
 ⟨none,.store 3 (.t 11) (.t 83) .any,none⟩]
abbrev zz12_r8:List AI:=[
 ⟨some 85,.load true 3 (.t 11) .any,none⟩,
 ⟨some 86,.build [(.int .i64 0),(.int .i64 0)] [(0,1,(.c (.int .i64 2))),(1,1,(.c (.int .i64 5)))],none⟩,
 ⟨some 87,.mkslice 2 1 (.agg [(.int .i64 0),(.int .i64 0)]) [(0,(.t 86))],none⟩,
 ⟨some 88,.call (.c (.fn f_zz39)) [(.t 85),(.t 87)] 0,none⟩,
 ⟨some 84,.mv false (.t 88),none⟩,
 ⟨some 89,.ext (.t 84) 0,none⟩,
 ⟨some 90,.ext (.t 84) 1,none⟩,
 ⟨some 12,.mv true (.t 89),none⟩,
 ⟨some 13,.mv true (.t 90),none⟩]
abbrev zz12_r9:List AI:=[
 ⟨some 92,.load true 3 (.t 5) (.site 5),none⟩,
 ⟨some 93,.mv false (.t 4),none⟩,
 ⟨some 94,.iaddr 1 (.t 93) (.c (.int .i64 2)),none⟩,
 ⟨some 95,.load false 1 (.t 94) .foreign,none⟩,
 ⟨some 96,.build [(.int .i64 0),(.int .i64 0)] [(0,1,(.c (.int .i64 3))),(1,1,(.t 95))],none⟩,
 ⟨some 97,.mv false (.t 4),none⟩,
 ⟨some 98,.iaddr 1 (.t 97) (.c (.int .i64 0)),none⟩,
 ⟨some 99,.load false 1 (.t 98) .foreign,none⟩,
 ⟨some 100,.build [(.int .i64 0),(.int .i64 0)] [(0,1,(.c (.int .i64 1))),(1,1,(.t 99))],none⟩,
 ⟨some 101,.mkslice 2 2 (.agg [(.int .i64 0),(.int .i64 0)]) [(0,(.t 96)),(1,(.t 100))],none⟩,
 ⟨some 102,.call (.c (.fn f_zz39)) [(.t 92),(.t 101)] 1,none⟩,
 ⟨some 91,.mv false (.t 102),none⟩,
 ⟨some 103,.ext (.t 91) 0,none⟩,
 ⟨some 104,.ext (.t 91) 1,none⟩,
 ⟨some 14,.mv true (.t 103),none⟩,
 ⟨some 15,.mv true (.t 104),none⟩]
abbrev zz12_r10:List AI:=[
 ⟨some 106,.load true 3 (.t 2) (.site 2),none⟩,
 ⟨some 107,.load true 3 (.t 5) (.site 5),none⟩,
 ⟨some 108,.mkslice 3 2 (.agg [(.int .i64 0),(.int .i64 0),.nilS]) [(0,(.t 106)),(1,(.t 107))],none⟩,
 ⟨some 109,.build [(.int .i64 0),(.int .i64 0)] [(0,1,(.c (.int .i64 1))),(1,1,(.c (.int .i64 5)))],none⟩,
 ⟨some 110,.mkslice 2 1 (.agg [(.int .i64 0),(.int .i64 0)]) [(0,(.t 109))],none⟩,
 ⟨some 111,.mv false (.t 4),none⟩,
 ⟨some 112,.iaddr 1 (.t 111) (.c (.int .i64 0)),none⟩,
 ⟨some 113,.load false 1 (.t 112) .foreign,none⟩,
 ⟨some 114,.build [(.int .i64 0),(.int .i64 0)] [(0,1,(.c (.int .i64 1))),(1,1,(.t 113))],none⟩,
 ⟨some 115,.mv false (.t 4),none⟩,
 ⟨some 116,.iaddr 1 (.t 115) (.c (.int .i64 1)),none⟩,
 ⟨some 117,.load false 1 (.t 116) .foreign,none⟩,
 ⟨some 118,.build [(.int .i64 0),(.int .i64 0)] [(0,1,(.c (.int .i64 2))),(1,1,(.t 117))],none⟩,
 ⟨some 119,.mkslice 2 2 (.agg [(.int .i64 0),(.int .i64 0)]) [(0,(.t 114)),(1,(.t 118))],none⟩,
 ⟨some 120,.mkslice 1 2 .nilS [(0,(.t 110)),(1,(.t 119))],none⟩,
 ⟨some 16,.alloc (zr 16 (.int .u8 0) ++ [.nilS,.nilS]),none⟩,
 ⟨some 121,.call (.c (.fn f_zz55)) [(.t 108),(.t 120)] 1,none⟩,
 ⟨some 105,.mv false (.t 121),none⟩,
 ⟨some 122,.ext (.t 105) 0,none⟩,
 ⟨some 123,.ext (.t 105) 1,none⟩,
 ⟨none,.store 18 (.t 16) (.t 122) (.site 16),none⟩,
 ⟨some 17,.mv true (.t 123),none⟩]
abbrev zz12_r11:List AI:=[
 ⟨some 125,.faddr 0 (.t 16),none⟩,
 ⟨some 126,.load true 16 (.t 125) .any,none⟩,
 ⟨some 127,.call (.c (.fn f_zz31)) [(.t 126),(.c (.int .i64 4)),(.c (.int .i64 4))] 0,none⟩,
 ⟨some 124,.mv false (.t 127),none⟩,
 ⟨some 128,.ext (.t 124) 0,none⟩,
 ⟨some 129,.ext (.t 124) 1,none⟩,
 ⟨some 18,.mv true (.t 128),none⟩,
 ⟨some 19,.mv true (.t 129),none⟩]
abbrev zz12_r12:List AI:=[
 ⟨some 131,.faddr 0 (.t 16),none⟩,
 ⟨some 132,.load true 16 (.t 131) .any,none⟩,
 ⟨some 133,.call (.c (.fn f_zz31)) [(.t 132),(.c (.int .i64 4)),(.c (.int .i64 5))] 0,none⟩,
 ⟨some 130,.mv false (.t 133),none⟩,
 ⟨some 134,.ext (.t 130) 0,none⟩,
 ⟨some 135,.ext (.t 130) 1,none⟩,
 ⟨some 20,.mv true (.t 134),none⟩,
 ⟨some 21,.mv true (.t 135),none⟩]
abbrev zz12_r13:List AI:=[
 ⟨some 136,.faddr 16 (.t 16),none⟩,
 ⟨some 137,.load false 1 (.t 136) (.site 16),none⟩,
 ⟨some 138,.len false (.t 137),none⟩,
 ⟨some 139,.bin .neq (.t 138) (.c (.int .i64 2)),none⟩,
 ⟨some 140,.mv false (.t 139),none⟩,
 ⟨some 141,.mv false (.t 18),some (140,false)⟩,
 ⟨some 142,.len false (.t 141),some (140,false)⟩,
 ⟨some 143,.bin .neq (.t 142) (.c (.int .i64 4)),some (140,false)⟩,
 ⟨some 144,.pick (.t 140) (.c (.bool true)) (.t 143),none⟩,
 ⟨some 145,.mv false (.t 144),none⟩,
 ⟨some 146,.mv false (.t 19),some (145,false)⟩,
 ⟨some 147,.bin .neq (.t 146) (.c (.int .i64 0)),some (145,false)⟩,
 ⟨some 148,.pick (.t 145) (.c (.bool true)) (.t 147),none⟩,
 ⟨some 149,.mv false (.t 148),none⟩,
 ⟨some 150,.mv false (.t 21),some (149,false)⟩,
 ⟨some 151,.bin .neq (.t 150) (.c (.int .i64 3)),some (149,false)⟩,
 ⟨some 152,.pick (.t 149) (.c (.bool true)) (.t 151),none⟩,
 ⟨some 153,.mv false (.t 152),none⟩,
 ⟨some 154,.faddr 0 (.t 16),some (153,false)⟩,
 ⟨some 155,.load true 16 (.t 154) (.site 16),some (153,false)⟩,
 ⟨some 156,.mkslice 1 4 (.int .i64 0) [(0,(.c (.int .i64 1))),(1,(.c (.int .i64 5))),(2,(.c (.int .i64 2))),(3,(.c (.int .i64 7)))],some (153,false)⟩,
 ⟨some 157,.call (.c (.fn f_zz27)) [(.t 156)] 2,some (153,false)⟩,
 ⟨some 158,.eqs true (kr 16 .i) (.t 155) (.t 157),some (153,false)⟩,
 ⟨some 159,.pick (.t 153) (.c (.bool true)) (.t 158),none⟩]
abbrev zz12_r14:List AI:=[
 ⟨some 0,.mv true (.c (.bool false)),none⟩]
abbrev zz12_r15:List AI:=[
 ⟨some 160,.mv false (.t 18),none⟩,
 ⟨some 161,.len false (.t 160),none⟩,
 ⟨some 162,.mv false (.c (.int .i64 0)),none⟩]
abbrev zz12_r16:List AI:=[
 ⟨some 163,.bin .lss (.t 162) (.t 161),none⟩]
abbrev zz12_r17:List AI:=[
 ⟨some 164,.mv false (.t 162),none⟩,
 ⟨some 165,.iaddr 2 (.t 160) (.t 162),none⟩,
 ⟨some 166,.load true 2 (.t 165) .any,none⟩,
 ⟨some 23,.alloc [(.int .i64 0),(.int .i64 0)],none⟩,
 ⟨some 22,.mv true (.t 164),none⟩,
 ⟨none,.store 2 (.t 23) (.t 166) .any,none⟩]
abbrev zz12_r18:List AI:=[
 ⟨some 167,.faddr 0 (.t 23),none⟩,
 ⟨some 168,.load false 1 (.t 167) .any,none⟩,
 ⟨some 169,.mv false (.t 22),none⟩,
 ⟨some 170,.bin .neq (.t 168) (.t 169),none⟩,
 ⟨some 171,.mv false (.t 170),none⟩,
 ⟨some 172,.faddr 1 (.t 23),some (171,false)⟩,
 ⟨some 173,.load false 1 (.t 172) .any,some (171,false)⟩,
 ⟨some 174,.bin .lss (.t 173) (.c (.int .i64 1)),some (171,false)⟩,
 ⟨some 175,.pick (.t 171) (.c (.bool true)) (.t 174),none⟩,
 ⟨some 176,.mv false (.t 175),none⟩,
 ⟨some 177,.faddr 1 (.t 23),some (176,false)⟩,
 ⟨some 178,.load false 1 (.t 177) .any,some (176,false)⟩,
 ⟨some 179,.bin .geq (.t 178) (.c (.int .i64 2147483647)),some (176,false)⟩,
 ⟨some 180,.pick (.t 176) (.c (.bool true)) (.t 179),none⟩]
abbrev zz12_r19:List AI:=[
 ⟨some 0,.mv true (.c (.bool false)),none⟩]
abbrev zz12_r20:List AI:=[
 ⟨some 181,.bin .add (.t 162) (.c (.int .i64 1)),none⟩,
 ⟨some 162,.mv false (.t 181),none⟩]
abbrev zz12_l0:ACode:=.seq (.reg false zz12_r16) (.seq (.cond (.t 163) (.skip) (.exit 0)) (.seq (.block 1 (.seq (.reg false zz12_r17) (.seq (.reg false zz12_r18) (.cond (.t 180) (.seq (.reg false zz12_r19) (.ret)) (.skip))))) (.reg false zz12_r20)))
abbrev zz12_r21:List AI:=[
 ⟨some 182,.mv false (.t 1),none⟩,
 ⟨some 183,.iaddr 1 (.t 182) (.c (.int .i64 0)),none⟩,
 ⟨some 184,.load false 1 (.t 183) .any,none⟩,
 ⟨some 185,.bin .eql (.t 184) (.c (.int .i64 5)),none⟩,
 ⟨some 186,.mv false (.t 185),none⟩,
 ⟨some 187,.mv false (.t 1),some (186,true)⟩,
 ⟨some 188,.iaddr 1 (.t 187) (.c (.int .i64 1)),some (186,true)⟩,
 ⟨some 189,.load false 1 (.t 188) .any,some (186,true)⟩,
 ⟨some 190,.bin .eql (.t 189) (.c (.int .i64 5)),some (186,true)⟩,
 ⟨some 191,.pick (.t 186) (.t 190) (.c (.bool false)),none⟩,
 ⟨some 192,.mv false (.t 191),none⟩,
 ⟨some 193,.mv false (.t 7),some (192,true)⟩,
 ⟨some 194,.bin .eql (.t 193) (.c (.int .i64 5)),some (192,true)⟩,
 ⟨some 195,.pick (.t 192) (.t 194) (.c (.bool false)),none⟩,
 ⟨some 196,.mv false (.t 195),none⟩,
 ⟨some 197,.mv false (.t 8),some (196,true)⟩,
 ⟨some 198,.bin .eql (.t 197) (.c (.int .i64 0)),some (196,true)⟩,
 ⟨some 199,.pick (.t 196) (.t 198) (.c (.bool false)),none⟩,
 ⟨some 200,.mv false (.t 199),none⟩,
 ⟨some 201,.mv false (.t 10),some (200,true)⟩,
 ⟨some 202,.bin .eql (.t 201) (.c (.int .i64 8)),some (200,true)⟩,
 ⟨some 203,.pick (.t 200) (.t 202) (.c (.bool false)),none⟩,
 ⟨some 204,.mv false (.t 203),none⟩,
 ⟨some 205,.mv false (.t 13),some (204,true)⟩,
 ⟨some 206,.bin .eql (.t 205) (.c (.int .i64 23)),some (204,true)⟩,
 ⟨some 207,.pick (.t 204) (.t 206) (.c (.bool false)),none⟩,
 ⟨some 208,.mv false (.t 207),none⟩,
 ⟨some 209,.mv false (.t 14),some (208,true)⟩,
 ⟨some 210,.bin .eql (.t 209) (.c (.int .i64 7)),some (208,true)⟩,
 ⟨some 211,.pick (.t 208) (.t 210) (.c (.bool false)),none⟩,
 ⟨some 212,.mv false (.t 211),none⟩,
 ⟨some 213,.mv false (.t 15),some (212,true)⟩,
 ⟨some 214,.bin .eql (.t 213) (.c (.int .i64 0)),some (212,true)⟩,
 ⟨some 215,.pick (.t 212) (.t 214) (.c (.bool false)),none⟩,
 ⟨some 24,.mv true (.t 215),none⟩]
abbrev zz12_r22:List AI:=[
 ⟨some 216,.mv false (.t 24),none⟩,
 ⟨some 217,.mv false (.t 216),none⟩,
 ⟨some 218,.mv false (.t 17),some (217,true)⟩,
 ⟨some 219,.bin .eql (.t 218) (.c (.int .i64 0)),some (217,true)⟩,
 ⟨some 220,.pick (.t 217) (.t 219) (.c (.bool false)),none⟩,
 ⟨some 221,.mv false (.t 220),none⟩,
 ⟨some 222,.faddr 17 (.t 16),some (221,true)⟩,
 ⟨some 223,.load false 1 (.t 222) .any,some (221,true)⟩,
 ⟨some 224,.len false (.t 223),some (221,true)⟩,
 ⟨some 225,.bin .eql (.t 224) (.c (.int .i64 0)),some (221,true)⟩,
 ⟨some 226,.pick (.t 221) (.t 225) (.c (.bool false)),none⟩,
 ⟨some 227,.mv false (.t 226),none⟩,
 ⟨some 228,.faddr 16 (.t 16),some (227,true)⟩,
 ⟨some 229,.load false 1 (.t 228) .any,some (227,true)⟩,
 ⟨some 230,.iaddr 1 (.t 229) (.c (.int .i64 0)),some (227,true)⟩,
 ⟨some 231,.load false 1 (.t 230) .any,some (227,true)⟩,
 ⟨some 232,.bin .eql (.t 231) (.c (.int .i64 1)),some (227,true)⟩,
 ⟨some 233,.pick (.t 227) (.t 232) (.c (.bool false)),none⟩,
 ⟨some 234,.mv false (.t 233),none⟩,
 ⟨some 235,.faddr 16 (.t 16),some (234,true)⟩,
 ⟨some 236,.load false 1 (.t 235) .any,some (234,true)⟩,
 ⟨some 237,.iaddr 1 (.t 236) (.c (.int .i64 1)),some (234,true)⟩,
 ⟨some 238,.load false 1 (.t 237) .any,some (234,true)⟩,
 ⟨some 239,.bin .eql (.t 238) (.c (.int .i64 2)),some (234,true)⟩,
 ⟨some 240,.pick (.t 234) (.t 239) (.c (.bool false)),none⟩,
 ⟨some 241,.mv false (.t 240),none⟩,
 ⟨some 242,.load true 3 (.t 2) .any,some (241,true)⟩,
 ⟨some 243,.call (.c (.fn f_zz47)) [(.t 242)] 0,some (241,true)⟩,
 ⟨some 244,.pick (.t 241) (.t 243) (.c (.bool false)),none⟩,
 ⟨some 245,.mv false (.t 244),none⟩,
 ⟨some 246,.load true 3 (.t 2) .any,some (245,true)⟩,
 ⟨some 247,.build [(.int .i64 0),(.int .i64 0)] [(0,1,(.c (.int .i64 2))),(1,1,(.c (.int .i64 5)))],some (245,true)⟩,
 ⟨some 248,.call (.c (.fn f_zz56)) [(.t 246),(.t 247)] 0,some (245,true)⟩,
 ⟨some 249,.pick (.t 245) (.t 248) (.c (.bool false)),none⟩,
 ⟨some 0,.mv true (.t 249),none⟩]
abbrev zz12_c:ACode:=.seq (.reg false zz12_r0) (.seq (.reg false zz12_r1) (.seq (.reg false zz12_r2) (.seq (.seq (.reg false zz12_r3) (.cond (.t 62) (.seq (.reg false zz12_r4) (.ret)) (.skip))) (.seq (.reg false zz12_r5) (.seq (.reg false zz12_r6) (.seq (.reg false zz12_r7) (.seq (.reg false zz12_r8) (.seq (.reg true zz12_r9) (.seq (.reg true zz12_r10) (.seq (.reg false zz12_r11) (.seq (.reg false zz12_r12) (.seq (.seq (.reg true zz12_r13) (.cond (.t 159) (.seq (.reg false zz12_r14) (.ret)) (.skip))) (.seq (.seq (.reg false zz12_r15) (.block 0 (.loop zz12_l0))) (.seq (.reg false zz12_r21) (.seq (.reg false zz12_r22) (.ret))))))))))))))))
def zz12_F:AFunc:=⟨250,[.tmp 0],zz12_c⟩
theorem zz12_cp:compile Tryz.prog [] f_zz12=some zz12_F:=by kernel_rfl
-- loop 0: [0, 3, 9, 11, 12, 13, 14]
abbrev zz54_r0:List AI:=[
 ⟨some 8,.mv true (.c .nilS),none⟩,
 ⟨some 9,.alloc [(.int .i64 0),(.int .i64 0),.nilS],none⟩,
 ⟨some 10,.mv true (.c (.int .i64 0)),none⟩]
abbrev zz54_r1:List AI:=[
 ⟨some 15,.mv false (.t 0),none⟩,
 ⟨some 16,.call (.c (.fn f_zz40)) [(.t 15)] 0,none⟩,
 ⟨some 17,.not (.t 16),none⟩,
 ⟨some 18,.mv false (.t 17),none⟩,
 ⟨some 19,.mv false (.t 1),some (18,false)⟩,
 ⟨some 20,.call (.c (.fn f_zz32)) [(.t 19)] 0,some (18,false)⟩,
 ⟨some 21,.not (.t 20),some (18,false)⟩,
 ⟨some 22,.pick (.t 18) (.c (.bool true)) (.t 21),none⟩,
 ⟨some 23,.mv false (.t 22),none⟩,
 ⟨some 24,.mv false (.t 3),some (23,false)⟩,
 ⟨some 25,.bin .lss (.t 24) (.c (.int .i64 1)),some (23,false)⟩,
 ⟨some 26,.pick (.t 23) (.c (.bool true)) (.t 25),none⟩,
 ⟨some 27,.mv false (.t 26),none⟩,
 ⟨some 28,.mv false (.t 3),some (27,false)⟩,
 ⟨some 29,.bin .gtr (.t 28) (.c (.int .i64 12)),some (27,false)⟩,
 ⟨some 30,.pick (.t 27) (.c (.bool true)) (.t 29),none⟩,
 ⟨some 31,.mv false (.t 30),none⟩,
 ⟨some 32,.mv false (.t 2),some (31,false)⟩,
 ⟨some 33,.bin .lss (.t 32) (.c (.int .i64 1)),some (31,false)⟩,
 ⟨some 34,.pick (.t 31) (.c (.bool true)) (.t 33),none⟩,
 ⟨some 35,.mv false (.t 34),none⟩,
 ⟨some 36,.mv false (.t 2),some (35,false)⟩,
 ⟨some 37,.mv false (.t 3),some (35,false)⟩,
 ⟨some 38,.bin .gtr (.t 36) (.t 37),some (35,false)⟩,
 ⟨some 39,.pick (.t 35) (.c (.bool true)) (.t 38),none⟩]
abbrev zz54_r2:List AI:=[
 ⟨some 40,.build [(.int .i64 0),(.int .i64 0),.nilS] [],none⟩,
 ⟨some 8,.mv true (.c .nilS),none⟩,
 ⟨none,.store 3 (.t 9) (.t 40) .any,none⟩,
 ⟨some 10,.mv true (.c (.int .i64 3)),none⟩]
abbrev zz54_r3:List AI:=[
 ⟨some 41,.mv false (.t 0),none⟩,
 ⟨some 42,.mv false (.t 1),none⟩,
 ⟨some 43,.mv false (.t 2),none⟩,
 ⟨some 44,.call (.c (.fn f_zz43)) [(.t 41),(.t 42),(.t 43)] 0,none⟩,
 ⟨some 11,.mv true (.t 44),none⟩]
abbrev zz54_r4:List AI:=[
 ⟨some 12,.mv true (.c .nilS),none⟩]
abbrev zz54_r5:List AI:=[
 ⟨some 45,.mv false (.t 0),none⟩,
 ⟨some 46,.mv false (.t 2),none⟩,
 ⟨some 47,.build [(.int .i64 0),(.int .i64 0),.nilS] [(0,1,(.t 45)),(1,1,(.t 46))],none⟩,
 ⟨some 13,.alloc [(.int .i64 0),(.int .i64 0),.nilS],none⟩,
 ⟨none,.store 3 (.t 13) (.t 47) .any,none⟩]
abbrev zz54_r6:List AI:=[
 ⟨some 14,.mv true (.c (.int .i64 1)),none⟩]
abbrev zz54_r7:List AI:=[
 ⟨some 48,.mv false (.t 14),none⟩,
 ⟨some 49,.mv false (.t 3),none⟩,
 ⟨some 50,.bin .leq (.t 48) (.t 49),none⟩]
abbrev zz54_r8:List AI:=[
 ⟨some 53,.mv true (.t 12),none⟩,
 ⟨some 54,.mv false (.t 11),none⟩,
 ⟨some 55,.mv false (.t 14),none⟩,
 ⟨some 56,.call (.t 54) [(.t 55)] 0,none⟩,
 ⟨some 57,.mkslice 1 1 (.int .i64 0) [(0,(.t 56))],none⟩,
 ⟨some 58,.append 1 8 (.t 53) (.t 57),none⟩,
 ⟨some 12,.mv true (.t 58),none⟩]
abbrev zz54_r9:List AI:=[
 ⟨some 59,.faddr 2 (.t 13),none⟩,
 ⟨some 60,.load false 1 (.t 59) (.site 13),none⟩,
 ⟨some 61,.mv false (.t 0),none⟩,
 ⟨some 62,.mv false (.t 14),none⟩,
 ⟨some 63,.mv false (.t 12),none⟩,
 ⟨some 64,.mv false (.t 14),none⟩,
 ⟨some 65,.bin .sub (.t 64) (.c (.int .i64 1)),none⟩,
 ⟨some 66,.iaddr 1 (.t 63) (.t 65),none⟩,
 ⟨some 67,.load false 1 (.t 66) .foreign,none⟩,
 ⟨some 68,.mkslice 1 3 (.int .i64 0) [(0,(.t 61)),(1,(.t 62)),(2,(.t 67))],none⟩,
 ⟨some 69,.call (.c (.fn f_zz63)) [(.c (.int .i64 193)),(.t 68)] 1,none⟩,
 ⟨some 70,.mkslice 16 1 (.agg (zr 16 (.int .u8 0))) [(0,(.t 69))],none⟩,
 ⟨some 71,.appG 16 16 (zr 16 (.int .u8 0)) (.t 60) (.t 70),none⟩,
 ⟨some 72,.faddr 2 (.t 13),none⟩,
 ⟨none,.store 1 (.t 72) (.t 71) (.site 13),none⟩]
abbrev zz54_r10:List AI:=[
 ⟨some 51,.mv false (.t 14),none⟩,
 ⟨some 52,.bin .add (.t 51) (.c (.int .i64 1)),none⟩,
 ⟨some 14,.mv true (.t 52),none⟩]
abbrev zz54_l0:ACode:=.seq (.seq (.reg false zz54_r7) (.cond (.t 50) (.skip) (.exit 0))) (.seq (.block 1 (.seq (.reg false zz54_r8) (.reg true zz54_r9))) (.reg false zz54_r10))
abbrev zz54_r11:List AI:=[
 ⟨some 73,.mv false (.t 12),none⟩,
 ⟨some 74,.load true 3 (.t 13) (.site 13),none⟩,
 ⟨some 8,.mv true (.t 73),none⟩,
 ⟨none,.store 3 (.t 9) (.t 74) (.site 9),none⟩,
 ⟨some 10,.mv true (.c (.int .i64 0)),none⟩]
abbrev zz54_c:ACode:=.seq (.reg false zz54_r0) (.seq (.seq (.reg false zz54_r1) (.cond (.t 39) (.seq (.reg false zz54_r2) (.ret)) (.skip))) (.seq (.reg false zz54_r3) (.seq (.reg false zz54_r4) (.seq (.reg false zz54_r5) (.seq (.seq (.reg false zz54_r6) (.block 0 (.loop zz54_l0))) (.seq (.reg true zz54_r11) (.ret)))))))
def zz54_F:AFunc:=⟨75,[.tmp 8,.cell 9 true 3,.tmp 10],zz54_c⟩
theorem zz54_cp:compile Tryz.prog [71] f_zz54=some zz54_F:=by kernel_rfl
-- loop 0: [0, 1, 2, 3, 8, 9, 10]
-- loop 0: [0, 1, 5]
-- loop 0: [2, 3, 5]
abbrev zz47_r0:List AI:=[
 ⟨some 1,.box 3 (.t 0),none⟩,
 ⟨some 2,.mv true (.c (.bool false)),none⟩]
abbrev zz47_r1:List AI:=[
 ⟨some 3,.faddr 0 (.t 1),none⟩,
 ⟨some 4,.load false 1 (.t 3) .any,none⟩,
 ⟨some 5,.call (.c (.fn f_zz40)) [(.t 4)] 0,none⟩,
 ⟨some 6,.mv false (.t 5),none⟩,
 ⟨some 7,.faddr 2 (.t 1),some (6,true)⟩,
 ⟨some 8,.load false 1 (.t 7) .any,some (6,true)⟩,
 ⟨some 9,.len false (.t 8),some (6,true)⟩,
 ⟨some 10,.bin .leq (.t 9) (.c (.int .i64 12)),some (6,true)⟩,
 ⟨some 11,.pick (.t 6) (.t 10) (.c (.bool false)),none⟩,
 ⟨some 12,.mv false (.t 11),none⟩,
 ⟨some 13,.faddr 1 (.t 1),some (12,true)⟩,
 ⟨some 14,.load false 1 (.t 13) .any,some (12,true)⟩,
 ⟨some 15,.bin .geq (.t 14) (.c (.int .i64 1)),some (12,true)⟩,
 ⟨some 16,.pick (.t 12) (.t 15) (.c (.bool false)),none⟩,
 ⟨some 17,.mv false (.t 16),none⟩,
 ⟨some 18,.faddr 1 (.t 1),some (17,true)⟩,
 ⟨some 19,.load false 1 (.t 18) .any,some (17,true)⟩,
 ⟨some 20,.faddr 2 (.t 1),some (17,true)⟩,
 ⟨some 21,.load false 1 (.t 20) .any,some (17,true)⟩,
 ⟨some 22,.len false (.t 21),some (17,true)⟩,
 ⟨some 23,.bin .leq (.t 19) (.t 22),some (17,true)⟩,
 ⟨some 24,.pick (.t 17) (.t 23) (.c (.bool false)),none⟩,
 ⟨some 2,.mv true (.t 24),none⟩]
abbrev zz47_c:ACode:=.seq (.reg false zz47_r0) (.seq (.reg false zz47_r1) (.ret))
def zz47_F:AFunc:=⟨25,[.tmp 2],zz47_c⟩
theorem zz47_cp:compile Tryz.prog [] f_zz47=some zz47_F:=by kernel_rfl
abbrev zz56_r0:List AI:=[
 ⟨some 2,.box 3 (.t 0),none⟩,
 ⟨some 3,.box 2 (.t 1),none⟩,
 ⟨some 4,.mv true (.c (.bool false)),none⟩]
abbrev zz56_r1:List AI:=[
 ⟨some 5,.load true 3 (.t 2) (.site 2),none⟩,
 ⟨some 6,.call (.c (.fn f_zz47)) [(.t 5)] 1,none⟩,
 ⟨some 7,.mv false (.t 6),none⟩,
 ⟨some 8,.faddr 0 (.t 3),some (7,true)⟩,
 ⟨some 9,.load false 1 (.t 8) (.site 3),some (7,true)⟩,
 ⟨some 10,.bin .geq (.t 9) (.c (.int .i64 1)),some (7,true)⟩,
 ⟨some 11,.pick (.t 7) (.t 10) (.c (.bool false)),none⟩,
 ⟨some 12,.mv false (.t 11),none⟩,
 ⟨some 13,.faddr 0 (.t 3),some (12,true)⟩,
 ⟨some 14,.load false 1 (.t 13) (.site 3),some (12,true)⟩,
 ⟨some 15,.faddr 2 (.t 2),some (12,true)⟩,
 ⟨some 16,.load false 1 (.t 15) (.site 2),some (12,true)⟩,
 ⟨some 17,.len false (.t 16),some (12,true)⟩,
 ⟨some 18,.bin .leq (.t 14) (.t 17),some (12,true)⟩,
 ⟨some 19,.pick (.t 12) (.t 18) (.c (.bool false)),none⟩,
 ⟨some 20,.mv false (.t 19),none⟩,
 ⟨some 21,.faddr 1 (.t 3),some (20,true)⟩,
 ⟨some 22,.load false 1 (.t 21) (.site 3),some (20,true)⟩,
 ⟨some 23,.call (.c (.fn f_zz32)) [(.t 22)] 1,some (20,true)⟩,
 ⟨some 24,.pick (.t 20) (.t 23) (.c (.bool false)),none⟩,
 ⟨some 25,.mv false (.t 24),none⟩,
 ⟨some 26,.faddr 0 (.t 2),some (25,true)⟩,
 ⟨some 27,.load false 1 (.t 26) (.site 2),some (25,true)⟩,
 ⟨some 28,.faddr 0 (.t 3),some (25,true)⟩,
 ⟨some 29,.load false 1 (.t 28) (.site 3),some (25,true)⟩,
 ⟨some 30,.faddr 1 (.t 3),some (25,true)⟩,
 ⟨some 31,.load false 1 (.t 30) (.site 3),some (25,true)⟩,
 ⟨some 32,.mkslice 1 3 (.int .i64 0) [(0,(.t 27)),(1,(.t 29)),(2,(.t 31))],some (25,true)⟩,
 ⟨some 34,.faddr 2 (.t 2),some (25,true)⟩,
 ⟨some 35,.load false 1 (.t 34) (.site 2),some (25,true)⟩,
 ⟨some 36,.faddr 0 (.t 3),some (25,true)⟩,
 ⟨some 37,.load false 1 (.t 36) (.site 3),some (25,true)⟩,
 ⟨some 38,.bin .sub (.t 37) (.c (.int .i64 1)),some (25,true)⟩,
 ⟨some 39,.iaddr 16 (.t 35) (.t 38),some (25,true)⟩,
 ⟨some 40,.load true 16 (.t 39) .foreign,some (25,true)⟩,
 ⟨some 33,.call (.c (.fn f_zz63)) [(.c (.int .i64 193)),(.t 32)] 1,some (25,true)⟩,
 ⟨some 41,.eqs false (kr 16 .i) (.t 33) (.t 40),some (25,true)⟩,
 ⟨some 42,.pick (.t 25) (.t 41) (.c (.bool false)),none⟩,
 ⟨some 4,.mv true (.t 42),none⟩]
abbrev zz56_c:ACode:=.seq (.reg false zz56_r0) (.seq (.reg true zz56_r1) (.ret))
def zz56_F:AFunc:=⟨43,[.tmp 4],zz56_c⟩
theorem zz56_cp:compile Tryz.prog [] f_zz56=some zz56_F:=by kernel_rfl
-- loop 0: [2, 6, 19, 20, 21]
-- loop 1: [2, 9, 52, 53]
abbrev zz39_r0:List AI:=[
 ⟨some 2,.box 3 (.t 0),none⟩,
 ⟨some 4,.mv true (.c (.int .i64 0)),none⟩,
 ⟨some 5,.mv true (.c (.int .i64 0)),none⟩]
abbrev zz39_r1:List AI:=[
 ⟨some 16,.load true 3 (.t 2) .any,none⟩,
 ⟨some 17,.call (.c (.fn f_zz47)) [(.t 16)] 0,none⟩,
 ⟨some 18,.not (.t 17),none⟩]
abbrev zz39_r2:List AI:=[
 ⟨some 4,.mv true (.c (.int .i64 0)),none⟩,
 ⟨some 5,.mv true (.c (.int .i64 1)),none⟩]
abbrev zz39_r3:List AI:=[
 ⟨some 6,.alloc (zr 13 .nilP),none⟩]
abbrev zz39_r4:List AI:=[
 ⟨some 19,.mv false (.t 1),none⟩,
 ⟨some 20,.len false (.t 19),none⟩,
 ⟨some 21,.mv false (.c (.int .i64 0)),none⟩]
abbrev zz39_r5:List AI:=[
 ⟨some 22,.bin .lss (.t 21) (.t 20),none⟩]
abbrev zz39_r6:List AI:=[
 ⟨some 23,.iaddr 2 (.t 19) (.t 21),none⟩,
 ⟨some 24,.load true 2 (.t 23) .any,none⟩,
 ⟨some 8,.gn (.alloc [(.int .i64 0),(.int .i64 0)]) [],none⟩,
 ⟨none,.store 2 (.t 8) (.t 24) .any,none⟩]
abbrev zz39_r7:List AI:=[
 ⟨some 25,.faddr 0 (.t 8),none⟩,
 ⟨some 26,.load false 1 (.t 25) .any,none⟩,
 ⟨some 27,.bin .geq (.t 26) (.c (.int .i64 1)),none⟩,
 ⟨some 28,.mv false (.t 27),none⟩,
 ⟨some 29,.faddr 0 (.t 8),some (28,true)⟩,
 ⟨some 30,.load false 1 (.t 29) .any,some (28,true)⟩,
 ⟨some 31,.faddr 2 (.t 2),some (28,true)⟩,
 ⟨some 32,.load false 1 (.t 31) .any,some (28,true)⟩,
 ⟨some 33,.len false (.t 32),some (28,true)⟩,
 ⟨some 34,.bin .leq (.t 30) (.t 33),some (28,true)⟩,
 ⟨some 35,.pick (.t 28) (.t 34) (.c (.bool false)),none⟩,
 ⟨some 36,.mv false (.t 35),none⟩,
 ⟨some 37,.faddr 0 (.t 8),some (36,true)⟩,
 ⟨some 38,.load false 1 (.t 37) .any,some (36,true)⟩,
 ⟨some 39,.iaddrA 13 1 (.t 6) (.t 38),some (36,true)⟩,
 ⟨some 40,.load false 1 (.t 39) .any,some (36,true)⟩,
 ⟨some 41,.gd (.pnil 0 false) [(.t 40)],some (36,true)⟩,
 ⟨some 42,.pick (.t 36) (.t 41) (.c (.bool false)),none⟩,
 ⟨some 43,.mv false (.t 42),none⟩,
 ⟨some 44,.load true 3 (.t 2) .any,some (43,true)⟩,
 ⟨some 45,.load true 2 (.t 8) .any,some (43,true)⟩,
 ⟨some 46,.call (.c (.fn f_zz56)) [(.t 44),(.t 45)] 0,some (43,true)⟩,
 ⟨some 47,.pick (.t 43) (.t 46) (.c (.bool false)),none⟩]
abbrev zz39_r8:List AI:=[
 ⟨some 48,.faddr 0 (.t 8),none⟩,
 ⟨some 49,.load false 1 (.t 48) .any,none⟩,
 ⟨some 50,.iaddrA 13 1 (.t 6) (.t 49),none⟩,
 ⟨none,.store 1 (.t 50) (.t 8) .any,none⟩]
abbrev zz39_r9:List AI:=[
 ⟨some 51,.bin .add (.t 21) (.c (.int .i64 1)),none⟩,
 ⟨some 21,.mv false (.t 51),none⟩]
abbrev zz39_l0:ACode:=.seq (.reg false zz39_r5) (.seq (.cond (.t 22) (.skip) (.exit 0)) (.seq (.block 1 (.seq (.reg false zz39_r6) (.seq (.reg false zz39_r7) (.cond (.t 47) (.reg false zz39_r8) (.skip))))) (.reg false zz39_r9)))
abbrev zz39_r10:List AI:=[
 ⟨some 9,.mv true (.c .nilS),none⟩]
abbrev zz39_r11:List AI:=[
 ⟨some 52,.load true 13 (.t 6) .any,none⟩,
 ⟨some 53,.mv false (.c (.int .i64 0)),none⟩]
abbrev zz39_r12:List AI:=[
 ⟨some 54,.bin .lss (.t 53) (.c (.int .i64 13)),none⟩]
abbrev zz39_r13:List AI:=[
 ⟨some 55,.idxA false 13 1 (.t 52) (.t 53),none⟩,
 ⟨some 11,.mv true (.t 55),none⟩]
abbrev zz39_r14:List AI:=[
 ⟨some 56,.mv false (.t 11),none⟩,
 ⟨some 57,.gd (.pnil 0 true) [(.t 56)],none⟩,
 ⟨some 58,.mv false (.t 57),none⟩,
 ⟨some 59,.mv false (.t 9),some (58,true)⟩,
 ⟨some 60,.len false (.t 59),some (58,true)⟩,
 ⟨some 61,.faddr 1 (.t 2),some (58,true)⟩,
 ⟨some 62,.load false 1 (.t 61) .any,some (58,true)⟩,
 ⟨some 63,.bin .lss (.t 60) (.t 62),some (58,true)⟩,
 ⟨some 64,.pick (.t 58) (.t 63) (.c (.bool false)),none⟩]
abbrev zz39_r15:List AI:=[
 ⟨some 65,.mv true (.t 9),none⟩,
 ⟨some 66,.mv false (.t 11),none⟩,
 ⟨some 67,.nilck (.t 66),none⟩,
 ⟨some 68,.load true 2 (.t 67) .any,none⟩,
 ⟨some 69,.mkslice 2 1 (.agg [(.int .i64 0),(.int .i64 0)]) [(0,(.t 68))],none⟩,
 ⟨some 70,.append 2 16 (.t 65) (.t 69),none⟩,
 ⟨some 9,.mv true (.t 70),none⟩]
abbrev zz39_r16:List AI:=[
 ⟨some 71,.bin .add (.t 53) (.c (.int .i64 1)),none⟩,
 ⟨some 53,.mv false (.t 71),none⟩]
abbrev zz39_l1:ACode:=.seq (.reg false zz39_r12) (.seq (.cond (.t 54) (.skip) (.exit 2)) (.seq (.block 3 (.seq (.reg false zz39_r13) (.seq (.reg false zz39_r14) (.cond (.t 64) (.reg false zz39_r15) (.skip))))) (.reg false zz39_r16)))
abbrev zz39_r17:List AI:=[
 ⟨some 72,.mv false (.t 9),none⟩,
 ⟨some 73,.len false (.t 72),none⟩,
 ⟨some 74,.faddr 1 (.t 2),none⟩,
 ⟨some 75,.load false 1 (.t 74) .any,none⟩,
 ⟨some 76,.bin .lss (.t 73) (.t 75),none⟩]
abbrev zz39_r18:List AI:=[
 ⟨some 4,.mv true (.c (.int .i64 0)),none⟩,
 ⟨some 5,.mv true (.c (.int .i64 8)),none⟩]
abbrev zz39_r19:List AI:=[
 ⟨some 77,.mv false (.t 9),none⟩,
 ⟨some 78,.call (.c (.fn f_zz41)) [(.t 77)] 0,none⟩,
 ⟨some 12,.mv true (.t 78),none⟩]
abbrev zz39_r20:List AI:=[
 ⟨some 80,.faddr 0 (.t 2),none⟩,
 ⟨some 81,.load false 1 (.t 80) .any,none⟩,
 ⟨some 82,.mv false (.t 12),none⟩,
 ⟨some 83,.faddr 1 (.t 2),none⟩,
 ⟨some 84,.load false 1 (.t 83) .any,none⟩,
 ⟨some 85,.faddr 2 (.t 2),none⟩,
 ⟨some 86,.load false 1 (.t 85) .any,none⟩,
 ⟨some 87,.len false (.t 86),none⟩,
 ⟨some 88,.call (.c (.fn f_zz54)) [(.t 81),(.t 82),(.t 84),(.t 87)] 0,none⟩,
 ⟨some 79,.mv false (.t 88),none⟩,
 ⟨some 89,.ext (.t 79) 0,none⟩,
 ⟨some 90,.ext (.t 79) 1,none⟩,
 ⟨some 91,.ext (.t 79) 2,none⟩,
 ⟨some 14,.alloc [(.int .i64 0),(.int .i64 0),.nilS],none⟩,
 ⟨some 13,.mv true (.t 89),none⟩,
 ⟨none,.store 3 (.t 14) (.t 90) .any,none⟩,
 ⟨some 15,.mv true (.t 91),none⟩]
abbrev zz39_r21:List AI:=[
 ⟨some 92,.faddr 2 (.t 14),none⟩,
 ⟨some 93,.load false 1 (.t 92) .any,none⟩,
 ⟨some 94,.faddr 2 (.t 2),none⟩,
 ⟨some 95,.load false 1 (.t 94) .any,none⟩,
 ⟨some 96,.call (.c (.fn f_zz0)) [(.t 93),(.t 95)] 0,none⟩,
 ⟨some 97,.not (.t 96),none⟩]
abbrev zz39_r22:List AI:=[
 ⟨some 4,.mv true (.c (.int .i64 0)),none⟩,
 ⟨some 5,.mv true (.c (.int .i64 23)),none⟩]
abbrev zz39_r23:List AI:=[
 ⟨some 98,.mv false (.t 12),none⟩,
 ⟨some 4,.mv true (.t 98),none⟩,
 ⟨some 5,.mv true (.c (.int .i64 0)),none⟩]
abbrev zz39_c:ACode:=.seq (.reg false zz39_r0) (.seq (.seq (.reg false zz39_r1) (.cond (.t 18) (.seq (.reg false zz39_r2) (.ret)) (.skip))) (.seq (.reg false zz39_r3) (.seq (.seq (.reg false zz39_r4) (.block 0 (.loop zz39_l0))) (.seq (.reg false zz39_r10) (.seq (.seq (.reg false zz39_r11) (.block 2 (.loop zz39_l1))) (.seq (.seq (.reg false zz39_r17) (.cond (.t 76) (.seq (.reg false zz39_r18) (.ret)) (.skip))) (.seq (.reg false zz39_r19) (.seq (.reg false zz39_r20) (.seq (.seq (.reg false zz39_r21) (.cond (.t 97) (.seq (.reg false zz39_r22) (.ret)) (.skip))) (.seq (.reg false zz39_r23) (.ret)))))))))))
def zz39_F:AFunc:=⟨99,[.tmp 4,.tmp 5],zz39_c⟩
theorem zz39_cp:compile Tryz.prog [8] f_zz39=some zz39_F:=by kernel_rfl
-- loop 0: [1, 4, 6, 7, 24, 25, 26]
abbrev zz55_r0:List AI:=[
 ⟨some 4,.alloc (zr 16 (.int .u8 0) ++ [.nilS,.nilS]),none⟩,
 ⟨some 5,.mv true (.c (.int .i64 0)),none⟩]
abbrev zz55_r1:List AI:=[
 ⟨some 12,.mv false (.t 0),none⟩,
 ⟨some 13,.len false (.t 12),none⟩,
 ⟨some 14,.mv false (.t 1),none⟩,
 ⟨some 15,.len false (.t 14),none⟩,
 ⟨some 16,.bin .neq (.t 13) (.t 15),none⟩,
 ⟨some 17,.mv false (.t 16),none⟩,
 ⟨some 18,.mv false (.t 0),some (17,false)⟩,
 ⟨some 19,.call (.c (.fn f_zz21)) [(.t 18)] 0,some (17,false)⟩,
 ⟨some 20,.not (.t 19),some (17,false)⟩,
 ⟨some 21,.pick (.t 17) (.c (.bool true)) (.t 20),none⟩]
abbrev zz55_r2:List AI:=[
 ⟨some 22,.build (zr 16 (.int .u8 0) ++ [.nilS,.nilS]) [],none⟩,
 ⟨none,.store 18 (.t 4) (.t 22) .any,none⟩,
 ⟨some 5,.mv true (.c (.int .i64 1)),none⟩]
abbrev zz55_r3:List AI:=[
 ⟨some 6,.alloc (zr 16 (.int .u8 0) ++ [.nilS,.nilS]),none⟩]
abbrev zz55_r4:List AI:=[
 ⟨some 23,.mkslice 1 1 (.int .i64 0) [(0,(.c (.int .i64 0)))],none⟩,
 ⟨some 7,.mv true (.t 23),none⟩]
abbrev zz55_r5:List AI:=[
 ⟨some 24,.mv false (.t 0),none⟩,
 ⟨some 25,.len false (.t 24),none⟩,
 ⟨some 26,.mv false (.c (.int .i64 0)),none⟩]
abbrev zz55_r6:List AI:=[
 ⟨some 27,.bin .lss (.t 26) (.t 25),none⟩]
abbrev zz55_r7:List AI:=[
 ⟨some 28,.mv false (.t 26),none⟩,
 ⟨some 29,.iaddr 3 (.t 24) (.t 26),none⟩,
 ⟨some 30,.load true 3 (.t 29) .any,none⟩,
 ⟨some 9,.alloc [(.int .i64 0),(.int .i64 0),.nilS],none⟩,
 ⟨some 8,.mv true (.t 28),none⟩,
 ⟨none,.store 3 (.t 9) (.t 30) .any,none⟩]
abbrev zz55_r8:List AI:=[
 ⟨some 32,.load true 3 (.t 9) (.site 9),none⟩,
 ⟨some 33,.mv false (.t 1),none⟩,
 ⟨some 34,.mv false (.t 8),none⟩,
 ⟨some 35,.iaddr 1 (.t 33) (.t 34),none⟩,
 ⟨some 36,.load false 1 (.t 35) .foreign,none⟩,
 ⟨some 37,.call (.c (.fn f_zz39)) [(.t 32),(.t 36)] 1,none⟩,
 ⟨some 31,.mv false (.t 37),none⟩,
 ⟨some 38,.ext (.t 31) 0,none⟩,
 ⟨some 39,.ext (.t 31) 1,none⟩,
 ⟨some 10,.mv true (.t 38),none⟩,
 ⟨some 11,.mv true (.t 39),none⟩]
abbrev zz55_r9:List AI:=[
 ⟨some 40,.mv false (.t 11),none⟩]
abbrev zz55_r10:List AI:=[
 ⟨some 44,.bin .eql (.t 40) (.c (.int .i64 0)),none⟩,
 ⟨some 43,.mv true (.t 44),none⟩]
abbrev zz55_r11:List AI:=[
 ⟨some 45,.faddr 16 (.t 6),none⟩,
 ⟨some 46,.load false 1 (.t 45) .any,none⟩,
 ⟨some 47,.faddr 0 (.t 9),none⟩,
 ⟨some 48,.load false 1 (.t 47) .any,none⟩,
 ⟨some 49,.mkslice 1 1 (.int .i64 0) [(0,(.t 48))],none⟩,
 ⟨some 50,.appG 1 8 [(.int .i64 0)] (.t 46) (.t 49),none⟩,
 ⟨some 51,.faddr 16 (.t 6),none⟩,
 ⟨none,.store 1 (.t 51) (.t 50) .any,none⟩]
abbrev zz55_r12:List AI:=[
 ⟨some 52,.mv true (.t 7),none⟩,
 ⟨some 53,.faddr 0 (.t 9),none⟩,
 ⟨some 54,.load false 1 (.t 53) .any,none⟩,
 ⟨some 55,.mv false (.t 10),none⟩,
 ⟨some 56,.mkslice 1 2 (.int .i64 0) [(0,(.t 54)),(1,(.t 55))],none⟩,
 ⟨some 57,.append 1 8 (.t 52) (.t 56),none⟩,
 ⟨some 7,.mv true (.t 57),none⟩]
abbrev zz55_r13:List AI:=[
 ⟨some 59,.bin .eql (.t 40) (.c (.int .i64 23)),none⟩,
 ⟨some 58,.mv true (.t 59),none⟩]
abbrev zz55_r14:List AI:=[
 ⟨some 60,.faddr 17 (.t 6),none⟩,
 ⟨some 61,.load false 1 (.t 60) .any,none⟩,
 ⟨some 62,.faddr 0 (.t 9),none⟩,
 ⟨some 63,.load false 1 (.t 62) .any,none⟩,
 ⟨some 64,.mkslice 1 1 (.int .i64 0) [(0,(.t 63))],none⟩,
 ⟨some 65,.appG 1 8 [(.int .i64 0)] (.t 61) (.t 64),none⟩,
 ⟨some 66,.faddr 17 (.t 6),none⟩,
 ⟨none,.store 1 (.t 66) (.t 65) .any,none⟩]
abbrev zz55_r15:List AI:=[
 ⟨some 41,.build (zr 16 (.int .u8 0) ++ [.nilS,.nilS]) [],none⟩,
 ⟨some 42,.mv false (.t 11),none⟩,
 ⟨none,.store 18 (.t 4) (.t 41) .any,none⟩,
 ⟨some 5,.mv true (.t 42),none⟩]
abbrev zz55_b0:ACode:=.seq (.reg false zz55_r13) (.cond (.t 58) (.reg false zz55_r14) (.seq (.reg false zz55_r15) (.ret)))
abbrev zz55_r16:List AI:=[
 ⟨some 67,.bin .add (.t 26) (.c (.int .i64 1)),none⟩,
 ⟨some 26,.mv false (.t 67),none⟩]
abbrev zz55_l0:ACode:=.seq (.reg false zz55_r6) (.seq (.cond (.t 27) (.skip) (.exit 0)) (.seq (.block 1 (.seq (.reg false zz55_r7) (.seq (.reg true zz55_r8) (.seq (.reg false zz55_r9) (.block 2 (.seq (.reg false zz55_r10) (.cond (.t 43) (.seq (.reg false zz55_r11) (.reg false zz55_r12)) (zz55_b0)))))))) (.reg false zz55_r16)))
abbrev zz55_r17:List AI:=[
 ⟨some 68,.mv false (.t 7),none⟩,
 ⟨some 69,.call (.c (.fn f_zz63)) [(.c (.int .i64 194)),(.t 68)] 0,none⟩,
 ⟨some 70,.faddr 0 (.t 6),none⟩,
 ⟨none,.store 16 (.t 70) (.t 69) .any,none⟩]
abbrev zz55_r18:List AI:=[
 ⟨some 71,.load true 18 (.t 6) .any,none⟩,
 ⟨none,.store 18 (.t 4) (.t 71) .any,none⟩,
 ⟨some 5,.mv true (.c (.int .i64 0)),none⟩]
abbrev zz55_c:ACode:=.seq (.reg false zz55_r0) (.seq (.seq (.reg false zz55_r1) (.cond (.t 21) (.seq (.reg false zz55_r2) (.ret)) (.skip))) (.seq (.reg false zz55_r3) (.seq (.reg false zz55_r4) (.seq (.seq (.reg false zz55_r5) (.block 0 (.loop zz55_l0))) (.seq (.reg false zz55_r17) (.seq (.reg false zz55_r18) (.ret)))))))
def zz55_F:AFunc:=⟨72,[.cell 4 true 18,.tmp 5],zz55_c⟩
theorem zz55_cp:compile Tryz.prog [50,65] f_zz55=some zz55_F:=by kernel_rfl
-- loop 0: [2, 6, 7, 20, 21]
abbrev zz46_r0:List AI:=[
 ⟨some 2,.box 16 (.t 0),none⟩,
 ⟨some 4,.mv true (.c .nilS),none⟩,
 ⟨some 5,.mv true (.c (.int .i64 0)),none⟩]
abbrev zz46_r1:List AI:=[
 ⟨some 9,.mv false (.t 1),none⟩,
 ⟨some 10,.bin .lss (.t 9) (.c (.int .i64 0)),none⟩,
 ⟨some 11,.mv false (.t 10),none⟩,
 ⟨some 12,.mv false (.t 1),some (11,false)⟩,
 ⟨some 13,.bin .gtr (.t 12) (.c (.int .i64 1000)),some (11,false)⟩,
 ⟨some 14,.pick (.t 11) (.c (.bool true)) (.t 13),none⟩]
abbrev zz46_r2:List AI:=[
 ⟨some 4,.mv true (.c .nilS),none⟩,
 ⟨some 5,.mv true (.c (.int .i64 3)),none⟩]
abbrev zz46_r3:List AI:=[
 ⟨some 15,.mv false (.t 1),none⟩,
 ⟨some 17,.mv false (.t 1),none⟩,
 ⟨some 7,.alloc [.nilS],none⟩,
 ⟨some 16,.gn (.mkSl 1 8 [(.int .i64 0)]) [(.t 15),(.t 15)],none⟩,
 ⟨some 6,.mv true (.t 16),none⟩,
 ⟨some 18,.gn (.mkSl 16 16 (zr 16 (.int .u8 0))) [(.t 17),(.t 17)],none⟩,
 ⟨none,.store 1 (.t 7) (.t 18) (.site 7),none⟩]
abbrev zz46_r4:List AI:=[
 ⟨some 19,.mv false (.t 6),none⟩,
 ⟨some 20,.len false (.t 19),none⟩,
 ⟨some 21,.mv false (.c (.int .i64 0)),none⟩]
abbrev zz46_r5:List AI:=[
 ⟨some 22,.bin .lss (.t 21) (.t 20),none⟩]
abbrev zz46_r6:List AI:=[
 ⟨some 23,.mv false (.t 21),none⟩,
 ⟨some 8,.mv true (.t 23),none⟩]
abbrev zz46_r7:List AI:=[
 ⟨some 24,.mv false (.t 6),none⟩,
 ⟨some 25,.mv false (.t 8),none⟩,
 ⟨some 26,.load false 1 (.t 7) (.site 7),none⟩,
 ⟨some 27,.mv false (.t 8),none⟩,
 ⟨some 28,.mv false (.t 8),none⟩,
 ⟨some 29,.load true 16 (.t 2) (.site 2),none⟩,
 ⟨some 30,.mv false (.t 8),none⟩,
 ⟨some 31,.call (.c (.fn f_zz49)) [(.t 29),(.c (.int .i64 1)),(.t 30)] 2,none⟩,
 ⟨some 32,.iaddr 1 (.t 24) (.t 25),none⟩,
 ⟨none,.store 1 (.t 32) (.t 28) .gp,none⟩,
 ⟨some 33,.iaddr 16 (.t 26) (.t 27),none⟩,
 ⟨none,.store 16 (.t 33) (.t 31) .gp,none⟩]
abbrev zz46_r8:List AI:=[
 ⟨some 34,.bin .add (.t 21) (.c (.int .i64 1)),none⟩,
 ⟨some 21,.mv false (.t 34),none⟩]
abbrev zz46_l0:ACode:=.seq (.reg false zz46_r5) (.seq (.cond (.t 22) (.skip) (.exit 0)) (.seq (.block 1 (.seq (.reg false zz46_r6) (.reg true zz46_r7))) (.reg false zz46_r8)))
abbrev zz46_r9:List AI:=[
 ⟨some 35,.mv false (.t 6),none⟩,
 ⟨some 36,.mkfunc f_zz38 [(.t 7)],none⟩,
 ⟨some 37,.call (.c (.fn f_zz7)) [(.t 35),(.t 36)] 0,none⟩]
abbrev zz46_r10:List AI:=[
 ⟨some 38,.mv false (.t 6),none⟩,
 ⟨some 4,.mv true (.t 38),none⟩,
 ⟨some 5,.mv true (.c (.int .i64 0)),none⟩]
abbrev zz46_c:ACode:=.seq (.reg false zz46_r0) (.seq (.seq (.reg false zz46_r1) (.cond (.t 14) (.seq (.reg false zz46_r2) (.ret)) (.skip))) (.seq (.reg true zz46_r3) (.seq (.seq (.reg false zz46_r4) (.block 0 (.loop zz46_l0))) (.seq (.reg false zz46_r9) (.seq (.reg false zz46_r10) (.ret))))))
def zz46_F:AFunc:=⟨39,[.tmp 4,.tmp 5],zz46_c⟩
theorem zz46_cp:compile Tryz.prog [] f_zz46=some zz46_F:=by kernel_rfl
-- loop 0: [3, 10, 36, 37, 38]
abbrev zz31_r0:List AI:=[
 ⟨some 3,.box 16 (.t 0),none⟩,
 ⟨some 6,.mv true (.c .nilS),none⟩,
 ⟨some 7,.mv true (.c (.int .i64 0)),none⟩]
abbrev zz31_r1:List AI:=[
 ⟨some 14,.load true 16 (.t 3) .any,none⟩,
 ⟨some 15,.mv false (.t 1),none⟩,
 ⟨some 16,.call (.c (.fn f_zz46)) [(.t 14),(.t 15)] 0,none⟩,
 ⟨some 13,.mv false (.t 16),none⟩,
 ⟨some 17,.ext (.t 13) 0,none⟩,
 ⟨some 18,.ext (.t 13) 1,none⟩,
 ⟨some 8,.mv true (.t 17),none⟩,
 ⟨some 9,.mv true (.t 18),none⟩]
abbrev zz31_r2:List AI:=[
 ⟨some 20,.mv false (.t 9),none⟩,
 ⟨some 21,.bin .neq (.t 20) (.c (.int .i64 0)),none⟩,
 ⟨some 19,.mv true (.t 21),none⟩]
abbrev zz31_r3:List AI:=[
 ⟨some 22,.mv false (.t 9),none⟩,
 ⟨some 6,.mv true (.c .nilS),none⟩,
 ⟨some 7,.mv true (.t 22),none⟩]
abbrev zz31_r4:List AI:=[
 ⟨some 24,.mv false (.t 2),none⟩,
 ⟨some 25,.bin .lss (.t 24) (.c (.int .i64 0)),none⟩,
 ⟨some 26,.mv false (.t 25),none⟩,
 ⟨some 27,.mv false (.t 2),some (26,false)⟩,
 ⟨some 28,.mv false (.t 1),some (26,false)⟩,
 ⟨some 29,.bin .gtr (.t 27) (.t 28),some (26,false)⟩,
 ⟨some 30,.pick (.t 26) (.c (.bool true)) (.t 29),none⟩,
 ⟨some 23,.mv true (.t 30),none⟩]
abbrev zz31_r5:List AI:=[
 ⟨some 6,.mv true (.c .nilS),none⟩,
 ⟨some 7,.mv true (.c (.int .i64 3)),none⟩]
abbrev zz31_b0:ACode:=.seq (.reg false zz31_r4) (.cond (.t 23) (.seq (.reg false zz31_r5) (.ret)) (.skip))
abbrev zz31_r6:List AI:=[
 ⟨some 31,.mv false (.t 8),none⟩,
 ⟨some 32,.mv false (.t 2),none⟩,
 ⟨some 33,.sl 1 (.t 31) none (some (.t 32)),none⟩,
 ⟨some 34,.call (.c (.fn f_zz10)) [(.t 33)] 0,none⟩,
 ⟨some 35,.call (.c (.fn f_zz23)) [(.t 34)] 0,none⟩,
 ⟨some 8,.mv true (.t 35),none⟩]
abbrev zz31_r7:List AI:=[
 ⟨some 10,.mv true (.c .nilS),none⟩]
abbrev zz31_r8:List AI:=[
 ⟨some 36,.mv false (.t 8),none⟩,
 ⟨some 37,.len false (.t 36),none⟩,
 ⟨some 38,.mv false (.c (.int .i64 0)),none⟩]
abbrev zz31_r9:List AI:=[
 ⟨some 39,.bin .lss (.t 38) (.t 37),none⟩]
abbrev zz31_r10:List AI:=[
 ⟨some 40,.iaddr 1 (.t 36) (.t 38),none⟩,
 ⟨some 41,.load false 1 (.t 40) .any,none⟩,
 ⟨some 12,.mv true (.t 41),none⟩]
abbrev zz31_r11:List AI:=[
 ⟨some 42,.mv true (.t 10),none⟩,
 ⟨some 43,.mv false (.t 12),none⟩,
 ⟨some 44,.load true 16 (.t 3) .any,none⟩,
 ⟨some 45,.mv false (.t 12),none⟩,
 ⟨some 46,.call (.c (.fn f_zz49)) [(.t 44),(.c (.int .i64 2)),(.t 45)] 0,none⟩,
 ⟨some 47,.call (.c (.fn f_zz42)) [(.t 46)] 0,none⟩,
 ⟨some 48,.bin .rem (.t 47) (.c (.int .i64 2147483646)),none⟩,
 ⟨some 49,.bin .add (.c (.int .i64 1)) (.t 48),none⟩,
 ⟨some 50,.build [(.int .i64 0),(.int .i64 0)] [(0,1,(.t 43)),(1,1,(.t 49))],none⟩,
 ⟨some 51,.mkslice 2 1 (.agg [(.int .i64 0),(.int .i64 0)]) [(0,(.t 50))],none⟩,
 ⟨some 52,.append 2 16 (.t 42) (.t 51),none⟩,
 ⟨some 10,.mv true (.t 52),none⟩]
abbrev zz31_r12:List AI:=[
 ⟨some 53,.bin .add (.t 38) (.c (.int .i64 1)),none⟩,
 ⟨some 38,.mv false (.t 53),none⟩]
abbrev zz31_l0:ACode:=.seq (.reg false zz31_r9) (.seq (.cond (.t 39) (.skip) (.exit 1)) (.seq (.block 2 (.seq (.reg false zz31_r10) (.reg false zz31_r11))) (.reg false zz31_r12)))
abbrev zz31_r13:List AI:=[
 ⟨some 54,.mv false (.t 10),none⟩,
 ⟨some 6,.mv true (.t 54),none⟩,
 ⟨some 7,.mv true (.c (.int .i64 0)),none⟩]
abbrev zz31_c:ACode:=.seq (.reg false zz31_r0) (.seq (.reg false zz31_r1) (.seq (.block 0 (.seq (.reg false zz31_r2) (.cond (.t 19) (.seq (.reg false zz31_r3) (.ret)) (zz31_b0)))) (.seq (.reg false zz31_r6) (.seq (.reg false zz31_r7) (.seq (.seq (.reg false zz31_r8) (.block 1 (.loop zz31_l0))) (.seq (.reg false zz31_r13) (.ret)))))))
def zz31_F:AFunc:=⟨55,[.tmp 6,.tmp 7],zz31_c⟩
theorem zz31_cp:compile Tryz.prog [] f_zz31=some zz31_F:=by kernel_rfl
abbrev zz27_r0:List AI:=[
 ⟨some 2,.alloc (zr 16 (.int .u8 0)),none⟩]
abbrev zz27_r1:List AI:=[
 ⟨some 3,.mkslice 1 1 (.int .i64 0) [(0,(.c (.int .i64 0)))],none⟩,
 ⟨some 4,.mv false (.t 0),none⟩,
 ⟨some 5,.append 1 8 (.t 3) (.t 4),none⟩,
 ⟨some 6,.call (.c (.fn f_zz11)) [(.t 5)] 0,none⟩,
 ⟨some 7,.call (.c (.fn f_zz30)) [(.c (.int .i64 194)),(.t 6)] 0,none⟩,
 ⟨none,.store 16 (.t 2) (.t 7) .any,none⟩]
abbrev zz27_c:ACode:=.seq (.reg false zz27_r0) (.seq (.reg false zz27_r1) (.ret))
def zz27_F:AFunc:=⟨8,[.cell 2 true 16],zz27_c⟩
theorem zz27_cp:compile Tryz.prog [] f_zz27=some zz27_F:=by kernel_rfl
abbrev zz40_r0:List AI:=[
 ⟨some 2,.mv true (.c (.bool false)),none⟩]
abbrev zz40_r1:List AI:=[
 ⟨some 3,.mv false (.t 0),none⟩,
 ⟨some 4,.bin .geq (.t 3) (.c (.int .i64 0)),none⟩,
 ⟨some 5,.mv false (.t 4),none⟩,
 ⟨some 6,.mv false (.t 0),some (5,true)⟩,
 ⟨some 7,.bin .lss (.t 6) (.c (.int .i64 12)),some (5,true)⟩,
 ⟨some 8,.pick (.t 5) (.t 7) (.c (.bool false)),none⟩,
 ⟨some 2,.mv true (.t 8),none⟩]
abbrev zz40_c:ACode:=.seq (.reg false zz40_r0) (.seq (.reg false zz40_r1) (.ret))
def zz40_F:AFunc:=⟨9,[.tmp 2],zz40_c⟩
theorem zz40_cp:compile Tryz.prog [] f_zz40=some zz40_F:=by kernel_rfl
abbrev zz32_r0:List AI:=[
 ⟨some 2,.mv true (.c (.bool false)),none⟩]
abbrev zz32_r1:List AI:=[
 ⟨some 3,.mv false (.t 0),none⟩,
 ⟨some 4,.bin .geq (.t 3) (.c (.int .i64 0)),none⟩,
 ⟨some 5,.mv false (.t 4),none⟩,
 ⟨some 6,.mv false (.t 0),some (5,true)⟩,
 ⟨some 7,.bin .lss (.t 6) (.c (.int .i64 2147483647)),some (5,true)⟩,
 ⟨some 8,.pick (.t 5) (.t 7) (.c (.bool false)),none⟩,
 ⟨some 2,.mv true (.t 8),none⟩]
abbrev zz32_c:ACode:=.seq (.reg false zz32_r0) (.seq (.reg false zz32_r1) (.ret))
def zz32_F:AFunc:=⟨9,[.tmp 2],zz32_c⟩
theorem zz32_cp:compile Tryz.prog [] f_zz32=some zz32_F:=by kernel_rfl
-- loop 0: [0, 1, 2, 7, 8]
abbrev zz43_r0:List AI:=[
 ⟨some 6,.mv true (.c .nilF),none⟩]
abbrev zz43_r1:List AI:=[
 ⟨some 9,.mv false (.t 1),none⟩,
 ⟨some 10,.mkG 1 1 (.int .i64 0) [(0,(.t 9))],none⟩,
 ⟨some 7,.gn (.alloc [.nilS]) [],none⟩,
 ⟨none,.store 1 (.t 7) (.t 10) .any,none⟩]
abbrev zz43_r2:List AI:=[
 ⟨some 8,.mv true (.c (.int .i64 1)),none⟩]
abbrev zz43_r3:List AI:=[
 ⟨some 11,.mv false (.t 8),none⟩,
 ⟨some 12,.mv false (.t 2),none⟩,
 ⟨some 13,.bin .lss (.t 11) (.t 12),none⟩]
abbrev zz43_r4:List AI:=[
 ⟨some 16,.load false 1 (.t 7) .foreign,none⟩,
 ⟨some 17,.mv false (.t 0),none⟩,
 ⟨some 18,.mv false (.t 1),none⟩,
 ⟨some 19,.mv false (.t 8),none⟩,
 ⟨some 20,.mkslice 1 3 (.int .i64 0) [(0,(.t 17)),(1,(.t 18)),(2,(.t 19))],none⟩,
 ⟨some 21,.call (.c (.fn f_zz63)) [(.c (.int .i64 192)),(.t 20)] 1,none⟩,
 ⟨some 22,.call (.c (.fn f_zz42)) [(.t 21)] 1,none⟩,
 ⟨some 23,.mkslice 1 1 (.int .i64 0) [(0,(.t 22))],none⟩,
 ⟨some 24,.appG 1 8 [(.int .i64 0)] (.t 16) (.t 23),none⟩,
 ⟨none,.store 1 (.t 7) (.t 24) .gp,none⟩]
abbrev zz43_r5:List AI:=[
 ⟨some 14,.mv false (.t 8),none⟩,
 ⟨some 15,.bin .add (.t 14) (.c (.int .i64 1)),none⟩,
 ⟨some 8,.mv true (.t 15),none⟩]
abbrev zz43_l0:ACode:=.seq (.seq (.reg false zz43_r3) (.cond (.t 13) (.skip) (.exit 0))) (.seq (.block 1 (.reg true zz43_r4)) (.reg false zz43_r5))
abbrev zz43_r6:List AI:=[
 ⟨some 25,.gd (.clo f_zz33) [(.t 7)],none⟩,
 ⟨some 6,.mv true (.t 25),none⟩]
abbrev zz43_c:ACode:=.seq (.reg false zz43_r0) (.seq (.reg false zz43_r1) (.seq (.seq (.reg false zz43_r2) (.block 0 (.loop zz43_l0))) (.seq (.reg false zz43_r6) (.ret))))
def zz43_F:AFunc:=⟨26,[.tmp 6],zz43_c⟩
theorem zz43_cp:compile Tryz.prog [7,10,24,25] f_zz43=some zz43_F:=by kernel_rfl
-- loop 0: [0, 4, 5, 8, 9, 10]
abbrev zz63_r0:List AI:=[
 ⟨some 4,.alloc (zr 16 (.int .u8 0)),none⟩]
abbrev zz63_r1:List AI:=[
 ⟨some 5,.mv true (.c .nilS),none⟩]
abbrev zz63_r2:List AI:=[
 ⟨some 8,.mv false (.t 1),none⟩,
 ⟨some 9,.len false (.t 8),none⟩,
 ⟨some 10,.mv false (.c (.int .i64 0)),none⟩]
abbrev zz63_r3:List AI:=[
 ⟨some 11,.bin .lss (.t 10) (.t 9),none⟩]
abbrev zz63_r4:List AI:=[
 ⟨some 12,.iaddr 1 (.t 8) (.t 10),none⟩,
 ⟨some 13,.load false 1 (.t 12) .any,none⟩,
 ⟨some 7,.mv true (.t 13),none⟩]
abbrev zz63_r5:List AI:=[
 ⟨some 14,.mv true (.t 5),none⟩,
 ⟨some 15,.mv false (.t 7),none⟩,
 ⟨some 16,.call (.c (.fn f_zz62)) [(.t 15)] 0,none⟩,
 ⟨some 17,.b2s (.t 16),none⟩,
 ⟨some 18,.mkslice 1 1 (.str []) [(0,(.t 17))],none⟩,
 ⟨some 19,.append 1 16 (.t 14) (.t 18),none⟩,
 ⟨some 5,.mv true (.t 19),none⟩]
abbrev zz63_r6:List AI:=[
 ⟨some 20,.bin .add (.t 10) (.c (.int .i64 1)),none⟩,
 ⟨some 10,.mv false (.t 20),none⟩]
abbrev zz63_l0:ACode:=.seq (.reg false zz63_r3) (.seq (.cond (.t 11) (.skip) (.exit 0)) (.seq (.block 1 (.seq (.reg false zz63_r4) (.reg false zz63_r5))) (.reg false zz63_r6)))
abbrev zz63_r7:List AI:=[
 ⟨some 21,.mv false (.t 0),none⟩,
 ⟨some 22,.mv false (.t 5),none⟩,
 ⟨some 23,.call (.c (.fn f_zz64)) [(.t 21),(.t 22)] 0,none⟩,
 ⟨none,.store 16 (.t 4) (.t 23) .any,none⟩]
abbrev zz63_c:ACode:=.seq (.reg false zz63_r0) (.seq (.reg false zz63_r1) (.seq (.seq (.reg false zz63_r2) (.block 0 (.loop zz63_l0))) (.seq (.reg false zz63_r7) (.ret))))
def zz63_F:AFunc:=⟨24,[.cell 4 true 16],zz63_c⟩
theorem zz63_cp:compile Tryz.prog [] f_zz63=some zz63_F:=by kernel_rfl
-- loop 0: [0, 1, 2, 3, 9, 10, 11]
-- loop 0: [0, 3, 5, 6, 7, 10, 11, 12, 18, 19, 20]
-- loop 1: [0, 3, 10, 11, 12]
abbrev zz41_r0:List AI:=[
 ⟨some 2,.mv true (.c (.int .i64 0)),none⟩]
abbrev zz41_r1:List AI:=[
 ⟨some 3,.mv true (.c (.int .i64 0)),none⟩]
abbrev zz41_r2:List AI:=[
 ⟨some 10,.mv false (.t 0),none⟩,
 ⟨some 11,.len false (.t 10),none⟩,
 ⟨some 12,.mv false (.c (.int .i64 0)),none⟩]
abbrev zz41_r3:List AI:=[
 ⟨some 13,.bin .lss (.t 12) (.t 11),none⟩]
abbrev zz41_r4:List AI:=[
 ⟨some 14,.iaddr 2 (.t 10) (.t 12),none⟩,
 ⟨some 15,.load true 2 (.t 14) .any,none⟩,
 ⟨some 5,.alloc [(.int .i64 0),(.int .i64 0)],none⟩,
 ⟨none,.store 2 (.t 5) (.t 15) .any,none⟩]
abbrev zz41_r5:List AI:=[
 ⟨some 16,.faddr 1 (.t 5),none⟩,
 ⟨some 17,.load false 1 (.t 16) .any,none⟩,
 ⟨some 6,.mv true (.t 17),none⟩,
 ⟨some 7,.mv true (.c (.int .i64 1)),none⟩]
abbrev zz41_r6:List AI:=[
 ⟨some 18,.mv false (.t 0),none⟩,
 ⟨some 19,.len false (.t 18),none⟩,
 ⟨some 20,.mv false (.c (.int .i64 0)),none⟩]
abbrev zz41_r7:List AI:=[
 ⟨some 21,.bin .lss (.t 20) (.t 19),none⟩]
abbrev zz41_r8:List AI:=[
 ⟨some 22,.iaddr 2 (.t 18) (.t 20),none⟩,
 ⟨some 23,.load true 2 (.t 22) .any,none⟩,
 ⟨some 9,.alloc [(.int .i64 0),(.int .i64 0)],none⟩,
 ⟨none,.store 2 (.t 9) (.t 23) .any,none⟩]
abbrev zz41_r9:List AI:=[
 ⟨some 24,.faddr 0 (.t 9),none⟩,
 ⟨some 25,.load false 1 (.t 24) .any,none⟩,
 ⟨some 26,.faddr 0 (.t 5),none⟩,
 ⟨some 27,.load false 1 (.t 26) .any,none⟩,
 ⟨some 28,.bin .neq (.t 25) (.t 27),none⟩]
abbrev zz41_r10:List AI:=[
 ⟨some 29,.mv false (.t 6),none⟩,
 ⟨some 30,.faddr 0 (.t 9),none⟩,
 ⟨some 31,.load false 1 (.t 30) .any,none⟩,
 ⟨some 32,.bin .mul (.t 29) (.t 31),none⟩,
 ⟨some 33,.bin .rem (.t 32) (.c (.int .i64 2147483647)),none⟩,
 ⟨some 6,.mv true (.t 33),none⟩]
abbrev zz41_r11:List AI:=[
 ⟨some 34,.mv false (.t 7),none⟩,
 ⟨some 35,.faddr 0 (.t 9),none⟩,
 ⟨some 36,.load false 1 (.t 35) .any,none⟩,
 ⟨some 37,.faddr 0 (.t 5),none⟩,
 ⟨some 38,.load false 1 (.t 37) .any,none⟩,
 ⟨some 39,.bin .sub (.t 36) (.t 38),none⟩,
 ⟨some 40,.bin .add (.t 39) (.c (.int .i64 2147483647)),none⟩,
 ⟨some 41,.bin .rem (.t 40) (.c (.int .i64 2147483647)),none⟩,
 ⟨some 42,.bin .mul (.t 34) (.t 41),none⟩,
 ⟨some 43,.bin .rem (.t 42) (.c (.int .i64 2147483647)),none⟩,
 ⟨some 7,.mv true (.t 43),none⟩]
abbrev zz41_r12:List AI:=[
 ⟨some 44,.bin .add (.t 20) (.c (.int .i64 1)),none⟩,
 ⟨some 20,.mv false (.t 44),none⟩]
abbrev zz41_l0:ACode:=.seq (.reg false zz41_r7) (.seq (.cond (.t 21) (.skip) (.exit 2)) (.seq (.block 3 (.seq (.reg false zz41_r8) (.seq (.reg false zz41_r9) (.cond (.t 28) (.seq (.reg false zz41_r10) (.reg false zz41_r11)) (.skip))))) (.reg false zz41_r12)))
abbrev zz41_r13:List AI:=[
 ⟨some 45,.mv false (.t 3),none⟩,
 ⟨some 46,.mv false (.t 6),none⟩,
 ⟨some 47,.mv false (.t 7),none⟩,
 ⟨some 48,.call (.c (.fn f_zz48)) [(.t 47),(.c (.int .i64 2147483645))] 0,none⟩,
 ⟨some 49,.bin .mul (.t 46) (.t 48),none⟩,
 ⟨some 50,.bin .add (.t 45) (.t 49),none⟩,
 ⟨some 51,.bin .rem (.t 50) (.c (.int .i64 2147483647)),none⟩,
 ⟨some 3,.mv true (.t 51),none⟩]
abbrev zz41_r14:List AI:=[
 ⟨some 52,.bin .add (.t 12) (.c (.int .i64 1)),none⟩,
 ⟨some 12,.mv false (.t 52),none⟩]
abbrev zz41_l1:ACode:=.seq (.reg false zz41_r3) (.seq (.cond (.t 13) (.skip) (.exit 0)) (.seq (.block 1 (.seq (.reg false zz41_r4) (.seq (.reg false zz41_r5) (.seq (.seq (.reg false zz41_r6) (.block 2 (.loop zz41_l0))) (.reg false zz41_r13))))) (.reg false zz41_r14)))
abbrev zz41_r15:List AI:=[
 ⟨some 53,.mv false (.t 3),none⟩,
 ⟨some 2,.mv true (.t 53),none⟩]
abbrev zz41_c:ACode:=.seq (.reg false zz41_r0) (.seq (.reg false zz41_r1) (.seq (.seq (.reg false zz41_r2) (.block 0 (.loop zz41_l1))) (.seq (.reg false zz41_r15) (.ret))))
def zz41_F:AFunc:=⟨54,[.tmp 2],zz41_c⟩
theorem zz41_cp:compile Tryz.prog [] f_zz41=some zz41_F:=by kernel_rfl
-- loop 0: [0, 1, 12, 13]
abbrev zz0_r0:List AI:=[
 ⟨some 4,.mv true (.c (.bool false)),none⟩]
abbrev zz0_r1:List AI:=[
 ⟨some 6,.mv false (.t 0),none⟩,
 ⟨some 7,.len false (.t 6),none⟩,
 ⟨some 8,.mv false (.t 1),none⟩,
 ⟨some 9,.len false (.t 8),none⟩,
 ⟨some 10,.bin .neq (.t 7) (.t 9),none⟩]
abbrev zz0_r2:List AI:=[
 ⟨some 4,.mv true (.c (.bool false)),none⟩]
abbrev zz0_r3:List AI:=[
 ⟨some 11,.mv false (.t 0),none⟩,
 ⟨some 12,.len false (.t 11),none⟩,
 ⟨some 13,.mv false (.c (.int .i64 0)),none⟩]
abbrev zz0_r4:List AI:=[
 ⟨some 14,.bin .lss (.t 13) (.t 12),none⟩]
abbrev zz0_r5:List AI:=[
 ⟨some 15,.mv false (.t 13),none⟩,
 ⟨some 5,.mv true (.t 15),none⟩]
abbrev zz0_r6:List AI:=[
 ⟨some 16,.mv false (.t 0),none⟩,
 ⟨some 17,.mv false (.t 5),none⟩,
 ⟨some 18,.iaddr 16 (.t 16) (.t 17),none⟩,
 ⟨some 19,.load true 16 (.t 18) .foreign,none⟩,
 ⟨some 20,.mv false (.t 1),none⟩,
 ⟨some 21,.mv false (.t 5),none⟩,
 ⟨some 22,.iaddr 16 (.t 20) (.t 21),none⟩,
 ⟨some 23,.load true 16 (.t 22) .foreign,none⟩,
 ⟨some 24,.eqs true (kr 16 .i) (.t 19) (.t 23),none⟩]
abbrev zz0_r7:List AI:=[
 ⟨some 4,.mv true (.c (.bool false)),none⟩]
abbrev zz0_r8:List AI:=[
 ⟨some 25,.bin .add (.t 13) (.c (.int .i64 1)),none⟩,
 ⟨some 13,.mv false (.t 25),none⟩]
abbrev zz0_l0:ACode:=.seq (.reg false zz0_r4) (.seq (.cond (.t 14) (.skip) (.exit 0)) (.seq (.block 1 (.seq (.reg false zz0_r5) (.seq (.reg true zz0_r6) (.cond (.t 24) (.seq (.reg false zz0_r7) (.ret)) (.skip))))) (.reg false zz0_r8)))
abbrev zz0_r9:List AI:=[
 ⟨some 4,.mv true (.c (.bool true)),none⟩]
abbrev zz0_c:ACode:=.seq (.reg false zz0_r0) (.seq (.seq (.reg false zz0_r1) (.cond (.t 10) (.seq (.reg false zz0_r2) (.ret)) (.skip))) (.seq (.seq (.reg false zz0_r3) (.block 0 (.loop zz0_l0))) (.seq (.reg false zz0_r9) (.ret))))
def zz0_F:AFunc:=⟨26,[.tmp 4],zz0_c⟩
theorem zz0_cp:compile Tryz.prog [] f_zz0=some zz0_F:=by kernel_rfl
-- loop 0: [1, 2, 5, 6, 7, 8]
-- loop 1: [1, 2, 5, 6]
-- loop 0: [0, 3, 4, 5, 6]
-- loop 1: [0, 3, 4]
-- loop 0: [0, 5, 6, 7]
abbrev zz21_r0:List AI:=[
 ⟨some 2,.mv true (.c (.bool false)),none⟩]
abbrev zz21_r1:List AI:=[
 ⟨some 5,.mv false (.t 0),none⟩,
 ⟨some 6,.len false (.t 5),none⟩,
 ⟨some 7,.mv false (.c (.int .i64 0)),none⟩]
abbrev zz21_r2:List AI:=[
 ⟨some 8,.bin .lss (.t 7) (.t 6),none⟩]
abbrev zz21_r3:List AI:=[
 ⟨some 9,.mv false (.t 7),none⟩,
 ⟨some 10,.iaddr 3 (.t 5) (.t 7),none⟩,
 ⟨some 11,.load true 3 (.t 10) .any,none⟩,
 ⟨some 4,.alloc [(.int .i64 0),(.int .i64 0),.nilS],none⟩,
 ⟨some 3,.mv true (.t 9),none⟩,
 ⟨none,.store 3 (.t 4) (.t 11) .any,none⟩]
abbrev zz21_r4:List AI:=[
 ⟨some 12,.load true 3 (.t 4) (.site 4),none⟩,
 ⟨some 13,.call (.c (.fn f_zz47)) [(.t 12)] 1,none⟩,
 ⟨some 14,.not (.t 13),none⟩,
 ⟨some 15,.mv false (.t 14),none⟩,
 ⟨some 16,.mv false (.t 3),some (15,false)⟩,
 ⟨some 17,.bin .gtr (.t 16) (.c (.int .i64 0)),some (15,false)⟩,
 ⟨some 18,.mv false (.t 17),some (15,false)⟩,
 ⟨some 19,.faddr 0 (.t 4),some (18,true)⟩,
 ⟨some 20,.load false 1 (.t 19) (.site 4),some (18,true)⟩,
 ⟨some 21,.mv false (.t 0),some (18,true)⟩,
 ⟨some 22,.mv false (.t 3),some (18,true)⟩,
 ⟨some 23,.bin .sub (.t 22) (.c (.int .i64 1)),some (18,true)⟩,
 ⟨some 24,.iaddr 3 (.t 21) (.t 23),some (18,true)⟩,
 ⟨some 25,.faddr 0 (.t 24),some (18,true)⟩,
 ⟨some 26,.load false 1 (.t 25) .foreign,some (18,true)⟩,
 ⟨some 27,.bin .leq (.t 20) (.t 26),some (18,true)⟩,
 ⟨some 28,.pick (.t 18) (.t 27) (.c (.bool false)),some (15,false)⟩,
 ⟨some 29,.pick (.t 15) (.c (.bool true)) (.t 28),none⟩]
abbrev zz21_r5:List AI:=[
 ⟨some 2,.mv true (.c (.bool false)),none⟩]
abbrev zz21_r6:List AI:=[
 ⟨some 30,.bin .add (.t 7) (.c (.int .i64 1)),none⟩,
 ⟨some 7,.mv false (.t 30),none⟩]
abbrev zz21_l0:ACode:=.seq (.reg false zz21_r2) (.seq (.cond (.t 8) (.skip) (.exit 0)) (.seq (.block 1 (.seq (.reg false zz21_r3) (.seq (.reg true zz21_r4) (.cond (.t 29) (.seq (.reg false zz21_r5) (.ret)) (.skip))))) (.reg false zz21_r6)))
abbrev zz21_r7:List AI:=[
 ⟨some 2,.mv true (.c (.bool true)),none⟩]
abbrev zz21_c:ACode:=.seq (.reg false zz21_r0) (.seq (.seq (.reg false zz21_r1) (.block 0 (.loop zz21_l0))) (.seq (.reg false zz21_r7) (.ret)))
def zz21_F:AFunc:=⟨31,[.tmp 2],zz21_c⟩
theorem zz21_cp:compile Tryz.prog [] f_zz21=some zz21_F:=by kernel_rfl
abbrev zz49_r0:List AI:=[
 ⟨some 3,.gn (.box 16) [(.t 0)],none⟩,
 ⟨some 6,.alloc (zr 16 (.int .u8 0)),none⟩]
abbrev zz49_r1:List AI:=[
 ⟨some 7,.mv false (.t 1),none⟩,
 ⟨some 10,.gd (.arrS 1 16 false false false) [(.t 3)],none⟩,
 ⟨some 11,.gd .b2s [(.t 10)],none⟩,
 ⟨some 12,.mv false (.t 2),none⟩,
 ⟨some 8,.call (.c (.fn f_zz62)) [(.t 7)] 1,none⟩,
 ⟨some 9,.b2s (.t 8),none⟩,
 ⟨some 13,.call (.c (.fn f_zz62)) [(.t 12)] 1,none⟩,
 ⟨some 14,.b2s (.t 13),none⟩,
 ⟨some 15,.mkslice 1 3 (.str []) [(0,(.t 9)),(1,(.t 11)),(2,(.t 14))],none⟩,
 ⟨some 16,.call (.c (.fn f_zz64)) [(.c (.int .i64 194)),(.t 15)] 1,none⟩,
 ⟨none,.store 16 (.t 6) (.t 16) (.site 6),none⟩]
abbrev zz49_c:ACode:=.seq (.reg false zz49_r0) (.seq (.reg true zz49_r1) (.ret))
def zz49_F:AFunc:=⟨17,[.cell 6 true 16],zz49_c⟩
theorem zz49_cp:compile Tryz.prog [3,11] f_zz49=some zz49_F:=by kernel_rfl
abbrev zz23_r0:List AI:=[
 ⟨some 2,.mv true (.c .nilS),none⟩]
abbrev zz23_r1:List AI:=[
 ⟨some 4,.mv false (.t 0),none⟩,
 ⟨some 5,.call (.c (.fn f_zz20)) [(.t 4)] 0,none⟩,
 ⟨some 3,.mv true (.t 5),none⟩]
abbrev zz23_r2:List AI:=[
 ⟨some 6,.mv false (.t 3),none⟩,
 ⟨some 7,.call (.c (.fn f_zz15)) [(.t 6)] 0,none⟩]
abbrev zz23_r3:List AI:=[
 ⟨some 8,.mv false (.t 3),none⟩,
 ⟨some 2,.mv true (.t 8),none⟩]
abbrev zz23_c:ACode:=.seq (.reg false zz23_r0) (.seq (.reg false zz23_r1) (.seq (.reg false zz23_r2) (.seq (.reg false zz23_r3) (.ret))))
def zz23_F:AFunc:=⟨9,[.tmp 2],zz23_c⟩
theorem zz23_cp:compile Tryz.prog [] f_zz23=some zz23_F:=by kernel_rfl
abbrev zz10_r0:List AI:=[
 ⟨some 1,.gn (.box 1) [(.t 0)],none⟩,
 ⟨some 2,.mv true (.c .nilF),none⟩]
abbrev zz10_r1:List AI:=[
 ⟨some 3,.gd (.clo f_zz8) [(.t 1)],none⟩,
 ⟨some 2,.mv true (.t 3),none⟩]
abbrev zz10_c:ACode:=.seq (.reg false zz10_r0) (.seq (.reg false zz10_r1) (.ret))
def zz10_F:AFunc:=⟨4,[.tmp 2],zz10_c⟩
theorem zz10_cp:compile Tryz.prog [1,3] f_zz10=some zz10_F:=by kernel_rfl
-- loop 0: [3, 6, 7, 8]
abbrev zz42_r0:List AI:=[
 ⟨some 1,.gn (.box 16) [(.t 0)],none⟩,
 ⟨some 2,.mv true (.c (.int .i64 0)),none⟩]
abbrev zz42_r1:List AI:=[
 ⟨some 3,.mv true (.c (.int .u64 0)),none⟩]
abbrev zz42_r2:List AI:=[
 ⟨some 6,.gd (.arrS 1 16 false true false) [(.t 1),(.c (.int .i64 8))],none⟩,
 ⟨some 7,.len false (.t 6),none⟩,
 ⟨some 8,.mv false (.c (.int .i64 0)),none⟩]
abbrev zz42_r3:List AI:=[
 ⟨some 9,.bin .lss (.t 8) (.t 7),none⟩]
abbrev zz42_r4:List AI:=[
 ⟨some 10,.iaddr 1 (.t 6) (.t 8),none⟩,
 ⟨some 11,.load false 1 (.t 10) .any,none⟩,
 ⟨some 5,.mv true (.t 11),none⟩]
abbrev zz42_r5:List AI:=[
 ⟨some 12,.mv false (.t 3),none⟩,
 ⟨some 13,.bin .shl (.t 12) (.c (.int .u64 8)),none⟩,
 ⟨some 14,.mv false (.t 5),none⟩,
 ⟨some 15,.conv .u64 (.t 14),none⟩,
 ⟨some 16,.bin .or (.t 13) (.t 15),none⟩,
 ⟨some 3,.mv true (.t 16),none⟩]
abbrev zz42_r6:List AI:=[
 ⟨some 17,.bin .add (.t 8) (.c (.int .i64 1)),none⟩,
 ⟨some 8,.mv false (.t 17),none⟩]
abbrev zz42_l0:ACode:=.seq (.reg false zz42_r3) (.seq (.cond (.t 9) (.skip) (.exit 0)) (.seq (.block 1 (.seq (.reg false zz42_r4) (.reg false zz42_r5))) (.reg false zz42_r6)))
abbrev zz42_r7:List AI:=[
 ⟨some 18,.mv false (.t 3),none⟩,
 ⟨some 19,.bin .rem (.t 18) (.c (.int .u64 2147483647)),none⟩,
 ⟨some 20,.conv .i64 (.t 19),none⟩,
 ⟨some 2,.mv true (.t 20),none⟩]
abbrev zz42_c:ACode:=.seq (.reg false zz42_r0) (.seq (.reg false zz42_r1) (.seq (.seq (.reg false zz42_r2) (.block 0 (.loop zz42_l0))) (.seq (.reg false zz42_r7) (.ret))))
def zz42_F:AFunc:=⟨21,[.tmp 2],zz42_c⟩
theorem zz42_cp:compile Tryz.prog [1] f_zz42=some zz42_F:=by kernel_rfl
-- loop 0: [1, 3, 4]
abbrev zz30_r0:List AI:=[
 ⟨some 4,.alloc (zr 16 (.int .u8 0)),none⟩]
abbrev zz30_r1:List AI:=[
 ⟨some 5,.mv false (.t 0),none⟩,
 ⟨some 6,.mv false (.t 1),none⟩,
 ⟨some 7,.call (.c (.fn f_zz17)) [(.t 5),(.t 6)] 0,none⟩,
 ⟨some 8,.call (.c (.fn f_zz18)) [(.t 7)] 0,none⟩,
 ⟨none,.store 16 (.t 4) (.t 8) .any,none⟩]
abbrev zz30_c:ACode:=.seq (.reg false zz30_r0) (.seq (.reg false zz30_r1) (.ret))
def zz30_F:AFunc:=⟨9,[.cell 4 true 16],zz30_c⟩
theorem zz30_cp:compile Tryz.prog [] f_zz30=some zz30_F:=by kernel_rfl
-- loop 0: [0, 3, 4]
abbrev zz11_r0:List AI:=[
 ⟨some 2,.mv true (.c .nilS),none⟩]
abbrev zz11_r1:List AI:=[
 ⟨some 3,.mv true (.c .nilS),none⟩]
abbrev zz11_r2:List AI:=[
 ⟨some 4,.mv true (.c (.int .i64 0)),none⟩]
abbrev zz11_r3:List AI:=[
 ⟨some 5,.mv false (.t 4),none⟩,
 ⟨some 6,.mv false (.t 0),none⟩,
 ⟨some 7,.len false (.t 6),none⟩,
 ⟨some 8,.bin .lss (.t 5) (.t 7),none⟩]
abbrev zz11_r4:List AI:=[
 ⟨some 11,.mv true (.t 3),none⟩,
 ⟨some 12,.mv false (.t 0),none⟩,
 ⟨some 13,.mv false (.t 4),none⟩,
 ⟨some 14,.iaddr 1 (.t 12) (.t 13),none⟩,
 ⟨some 15,.load false 1 (.t 14) .any,none⟩,
 ⟨some 16,.call (.c (.fn f_zz25)) [(.t 15)] 0,none⟩,
 ⟨some 17,.b2s (.t 16),none⟩,
 ⟨some 18,.mkslice 1 1 (.str []) [(0,(.t 17))],none⟩,
 ⟨some 19,.append 1 16 (.t 11) (.t 18),none⟩,
 ⟨some 3,.mv true (.t 19),none⟩]
abbrev zz11_r5:List AI:=[
 ⟨some 9,.mv false (.t 4),none⟩,
 ⟨some 10,.bin .add (.t 9) (.c (.int .i64 1)),none⟩,
 ⟨some 4,.mv true (.t 10),none⟩]
abbrev zz11_l0:ACode:=.seq (.seq (.reg false zz11_r3) (.cond (.t 8) (.skip) (.exit 0))) (.seq (.block 1 (.reg false zz11_r4)) (.reg false zz11_r5))
abbrev zz11_r6:List AI:=[
 ⟨some 20,.mv false (.t 3),none⟩,
 ⟨some 2,.mv true (.t 20),none⟩]
abbrev zz11_c:ACode:=.seq (.reg false zz11_r0) (.seq (.reg false zz11_r1) (.seq (.seq (.reg false zz11_r2) (.block 0 (.loop zz11_l0))) (.seq (.reg false zz11_r6) (.ret))))
def zz11_F:AFunc:=⟨21,[.tmp 2],zz11_c⟩
theorem zz11_cp:compile Tryz.prog [] f_zz11=some zz11_F:=by kernel_rfl
-- loop 0: [2, 4, 10]
abbrev zz33_r0:List AI:=[
 ⟨some 2,.gn (.box 1) [(.t 0)],none⟩,
 ⟨some 3,.mv true (.c (.int .i64 0)),none⟩]
abbrev zz33_r1:List AI:=[
 ⟨some 4,.gn (.alloc [(.int .i64 0)]) [],none⟩,
 ⟨none,.store 1 (.t 4) (.c (.int .i64 0)) .any,none⟩]
abbrev zz33_r2:List AI:=[
 ⟨some 7,.load false 1 (.t 1) .any,none⟩,
 ⟨some 8,.call (.c (.fn f_zz6)) [(.t 7)] 0,none⟩]
abbrev zz33_r3:List AI:=[
 ⟨some 6,.mv true (.t 10),none⟩]
abbrev zz33_r4:List AI:=[
 ⟨some 11,.load false 1 (.t 4) .any,none⟩,
 ⟨some 12,.load false 1 (.t 2) .any,none⟩,
 ⟨some 13,.bin .mul (.t 11) (.t 12),none⟩,
 ⟨some 14,.mv false (.t 6),none⟩,
 ⟨some 15,.bin .add (.t 13) (.t 14),none⟩,
 ⟨some 16,.bin .rem (.t 15) (.c (.int .i64 2147483647)),none⟩,
 ⟨none,.store 1 (.t 4) (.t 16) .any,none⟩]
abbrev draw_sharer_1_y0a:ACode:=.reg false zz33_r3
abbrev draw_sharer_1_y0b:ACode:=.block 1 (.reg false zz33_r4)
abbrev zz33_r5:List AI:=[
 ⟨some 17,.load false 1 (.t 4) .any,none⟩,
 ⟨some 3,.mv true (.t 17),none⟩]
abbrev zz33_c:ACode:=.seq (.reg false zz33_r0) (.seq (.reg false zz33_r1) (.seq (.seq (.reg false zz33_r2) (.block 0 (.rangeF (.t 8) [9,10] draw_sharer_1_y0a draw_sharer_1_y0b))) (.seq (.reg false zz33_r5) (.ret))))
def zz33_F:AFunc:=⟨18,[.tmp 3],zz33_c⟩
theorem zz33_cp:compile Tryz.prog [2,4] f_zz33=some zz33_F:=by kernel_rfl
abbrev zz6_r0:List AI:=[
 ⟨some 1,.gn (.box 1) [(.t 0)],none⟩,
 ⟨some 2,.mv true (.c .nilF),none⟩]
abbrev zz6_r1:List AI:=[
 ⟨some 3,.gd (.clo f_zz3) [(.t 1)],none⟩,
 ⟨some 2,.mv true (.t 3),none⟩]
abbrev zz6_c:ACode:=.seq (.reg false zz6_r0) (.seq (.reg false zz6_r1) (.ret))
def zz6_F:AFunc:=⟨4,[.tmp 2],zz6_c⟩
theorem zz6_cp:compile Tryz.prog [1,3] f_zz6=some zz6_F:=by kernel_rfl
-- loop 0: [3, 4]
abbrev zz62_r0:List AI:=[
 ⟨some 2,.mv true (.c .nilS),none⟩]
abbrev zz62_r1:List AI:=[
 ⟨some 5,.mv false (.t 0),none⟩,
 ⟨some 6,.conv .u64 (.t 5),none⟩,
 ⟨some 7,.bin .shl (.t 6) (.c (.int .u64 1)),none⟩,
 ⟨some 8,.mv false (.t 0),none⟩,
 ⟨some 9,.bin .shr (.t 8) (.c (.int .u64 63)),none⟩,
 ⟨some 10,.conv .u64 (.t 9),none⟩,
 ⟨some 11,.bin .xor (.t 7) (.t 10),none⟩,
 ⟨some 3,.mv true (.t 11),none⟩]
abbrev zz62_r2:List AI:=[
 ⟨some 4,.mv true (.c .nilS),none⟩]
abbrev zz62_r3:List AI:=[
 ⟨some 12,.mv false (.t 3),none⟩,
 ⟨some 13,.bin .gtr (.t 12) (.c (.int .u64 127)),none⟩]
abbrev zz62_r4:List AI:=[
 ⟨some 16,.mv true (.t 4),none⟩,
 ⟨some 17,.mv false (.t 3),none⟩,
 ⟨some 18,.conv .u8 (.t 17),none⟩,
 ⟨some 19,.bin .or (.t 18) (.c (.int .u8 128)),none⟩,
 ⟨some 20,.mkslice 1 1 (.int .u8 0) [(0,(.t 19))],none⟩,
 ⟨some 21,.appG 1 1 [(.int .u8 0)] (.t 16) (.t 20),none⟩,
 ⟨some 4,.mv true (.t 21),none⟩]
abbrev zz62_r5:List AI:=[
 ⟨some 14,.mv false (.t 3),none⟩,
 ⟨some 15,.bin .shr (.t 14) (.c (.int .u64 7)),none⟩,
 ⟨some 3,.mv true (.t 15),none⟩]
abbrev zz62_l0:ACode:=.seq (.seq (.reg false zz62_r3) (.cond (.t 13) (.skip) (.exit 0))) (.seq (.block 1 (.reg false zz62_r4)) (.reg false zz62_r5))
abbrev zz62_r6:List AI:=[
 ⟨some 22,.mv true (.t 4),none⟩,
 ⟨some 23,.mv false (.t 3),none⟩,
 ⟨some 24,.conv .u8 (.t 23),none⟩,
 ⟨some 25,.mkslice 1 1 (.int .u8 0) [(0,(.t 24))],none⟩,
 ⟨some 26,.appG 1 1 [(.int .u8 0)] (.t 22) (.t 25),none⟩,
 ⟨some 2,.mv true (.t 26),none⟩]
abbrev zz62_c:ACode:=.seq (.reg false zz62_r0) (.seq (.reg false zz62_r1) (.seq (.reg false zz62_r2) (.seq (.block 0 (.loop zz62_l0)) (.seq (.reg false zz62_r6) (.ret)))))
def zz62_F:AFunc:=⟨27,[.tmp 2],zz62_c⟩
theorem zz62_cp:compile Tryz.prog [21,26] f_zz62=some zz62_F:=by kernel_rfl
-- loop 0: [4, 5, 15, 16, 17]
abbrev zz64_r0:List AI:=[
 ⟨some 4,.alloc (zr 16 (.int .u8 0)),none⟩]
abbrev zz64_r1:List AI:=[
 ⟨some 10,.mv false (.t 0),none⟩,
 ⟨some 11,.conv .u8 (.t 10),none⟩,
 ⟨some 12,.mkslice 1 1 (.int .u8 0) [(0,(.t 11))],none⟩,
 ⟨some 13,.b2s (.t 12),none⟩,
 ⟨some 5,.alloc (zr 8 (.int .u32 0) ++ zr 64 (.int .u8 0) ++ [(.int .u64 0)]),none⟩,
 ⟨some 9,.call (.c (.fn f_zz50)) [] 2,none⟩,
 ⟨some 14,.call (.c (.fn f_zz28)) [(.t 9),(.t 13)] 2,none⟩,
 ⟨none,.store 73 (.t 5) (.t 14) (.site 5),none⟩]
abbrev zz64_r2:List AI:=[
 ⟨some 15,.mv false (.t 1),none⟩,
 ⟨some 16,.len false (.t 15),none⟩,
 ⟨some 17,.mv false (.c (.int .i64 0)),none⟩]
abbrev zz64_r3:List AI:=[
 ⟨some 18,.bin .lss (.t 17) (.t 16),none⟩]
abbrev zz64_r4:List AI:=[
 ⟨some 19,.iaddr 1 (.t 15) (.t 17),none⟩,
 ⟨some 20,.load false 1 (.t 19) .any,none⟩,
 ⟨some 7,.mv true (.t 20),none⟩]
abbrev zz64_r5:List AI:=[
 ⟨some 21,.load true 73 (.t 5) (.site 5),none⟩,
 ⟨some 22,.mv false (.t 7),none⟩,
 ⟨some 23,.call (.c (.fn f_zz53)) [(.t 22)] 2,none⟩,
 ⟨some 24,.b2s (.t 23),none⟩,
 ⟨some 25,.call (.c (.fn f_zz28)) [(.t 21),(.t 24)] 2,none⟩,
 ⟨none,.store 73 (.t 5) (.t 25) (.site 5),none⟩]
abbrev zz64_r6:List AI:=[
 ⟨some 26,.bin .add (.t 17) (.c (.int .i64 1)),none⟩,
 ⟨some 17,.mv false (.t 26),none⟩]
abbrev zz64_l0:ACode:=.seq (.reg false zz64_r3) (.seq (.cond (.t 18) (.skip) (.exit 0)) (.seq (.block 1 (.seq (.reg false zz64_r4) (.reg true zz64_r5))) (.reg false zz64_r6)))
abbrev zz64_r7:List AI:=[
 ⟨some 27,.load true 73 (.t 5) .any,none⟩,
 ⟨some 28,.call (.c (.fn f_zz29)) [(.t 27)] 0,none⟩,
 ⟨some 8,.gn (.alloc (zr 32 (.int .u8 0))) [],none⟩,
 ⟨none,.store 32 (.t 8) (.t 28) .any,none⟩]
abbrev zz64_r8:List AI:=[
 ⟨some 29,.gd (.arrS 1 32 false true false) [(.t 8),(.c (.int .i64 16))],none⟩,
 ⟨some 30,.gd (.s2a 16) [(.t 29)],none⟩,
 ⟨some 31,.load true 16 (.t 30) .any,none⟩,
 ⟨none,.store 16 (.t 4) (.t 31) .any,none⟩]
abbrev zz64_c:ACode:=.seq (.reg false zz64_r0) (.seq (.reg true zz64_r1) (.seq (.seq (.reg false zz64_r2) (.block 0 (.loop zz64_l0))) (.seq (.reg false zz64_r7) (.seq (.reg false zz64_r8) (.ret)))))
def zz64_F:AFunc:=⟨32,[.cell 4 true 16],zz64_c⟩
theorem zz64_cp:compile Tryz.prog [8] f_zz64=some zz64_F:=by kernel_rfl
-- loop 0: [0, 1, 5]
abbrev zz48_r0:List AI:=[
 ⟨some 4,.mv true (.c (.int .i64 0)),none⟩]
abbrev zz48_r1:List AI:=[
 ⟨some 5,.mv true (.c (.int .i64 1)),none⟩]
abbrev zz48_r2:List AI:=[
 ⟨some 6,.mv false (.t 1),none⟩,
 ⟨some 7,.bin .gtr (.t 6) (.c (.int .i64 0)),none⟩]
abbrev zz48_r3:List AI:=[
 ⟨some 10,.mv false (.t 1),none⟩,
 ⟨some 11,.bin .and (.t 10) (.c (.int .i64 1)),none⟩,
 ⟨some 12,.bin .eql (.t 11) (.c (.int .i64 1)),none⟩]
abbrev zz48_r4:List AI:=[
 ⟨some 13,.mv false (.t 5),none⟩,
 ⟨some 14,.mv false (.t 0),none⟩,
 ⟨some 15,.bin .mul (.t 13) (.t 14),none⟩,
 ⟨some 16,.bin .rem (.t 15) (.c (.int .i64 2147483647)),none⟩,
 ⟨some 5,.mv true (.t 16),none⟩]
abbrev zz48_r5:List AI:=[
 ⟨some 17,.mv false (.t 0),none⟩,
 ⟨some 18,.mv false (.t 0),none⟩,
 ⟨some 19,.bin .mul (.t 17) (.t 18),none⟩,
 ⟨some 20,.bin .rem (.t 19) (.c (.int .i64 2147483647)),none⟩,
 ⟨some 0,.mv true (.t 20),none⟩]
abbrev zz48_r6:List AI:=[
 ⟨some 8,.mv false (.t 1),none⟩,
 ⟨some 9,.bin .shr (.t 8) (.c (.int .u64 1)),none⟩,
 ⟨some 1,.mv true (.t 9),none⟩]
abbrev zz48_l0:ACode:=.seq (.seq (.reg false zz48_r2) (.cond (.t 7) (.skip) (.exit 0))) (.seq (.block 1 (.seq (.seq (.reg false zz48_r3) (.cond (.t 12) (.reg false zz48_r4) (.skip))) (.reg false zz48_r5))) (.reg false zz48_r6))
abbrev zz48_r7:List AI:=[
 ⟨some 21,.mv false (.t 5),none⟩,
 ⟨some 4,.mv true (.t 21),none⟩]
abbrev zz48_c:ACode:=.seq (.reg false zz48_r0) (.seq (.reg false zz48_r1) (.seq (.block 0 (.loop zz48_l0)) (.seq (.reg false zz48_r7) (.ret))))
def zz48_F:AFunc:=⟨22,[.tmp 4],zz48_c⟩
theorem zz48_cp:compile Tryz.prog [] f_zz48=some zz48_F:=by kernel_rfl
-- loop 0: [3, 4, 5]
-- loop 0: [3, 4]
abbrev zz25_r0:List AI:=[
 ⟨some 2,.mv true (.c .nilS),none⟩]
abbrev zz25_r1:List AI:=[
 ⟨some 5,.mv false (.t 0),none⟩,
 ⟨some 6,.conv .u64 (.t 5),none⟩,
 ⟨some 7,.bin .mul (.t 6) (.c (.int .u64 2)),none⟩,
 ⟨some 3,.mv true (.t 7),none⟩]
abbrev zz25_r2:List AI:=[
 ⟨some 8,.mv false (.t 0),none⟩,
 ⟨some 9,.bin .lss (.t 8) (.c (.int .i64 0)),none⟩]
abbrev zz25_r3:List AI:=[
 ⟨some 10,.mv false (.t 0),none⟩,
 ⟨some 11,.bin .sub (.c (.int .i64 (-1))) (.t 10),none⟩,
 ⟨some 12,.conv .u64 (.t 11),none⟩,
 ⟨some 13,.bin .mul (.t 12) (.c (.int .u64 2)),none⟩,
 ⟨some 14,.bin .add (.t 13) (.c (.int .u64 1)),none⟩,
 ⟨some 3,.mv true (.t 14),none⟩]
abbrev zz25_r4:List AI:=[
 ⟨some 4,.mv true (.c .nilS),none⟩]
abbrev zz25_r5:List AI:=[
 ⟨some 15,.mv false (.t 3),none⟩,
 ⟨some 16,.bin .geq (.t 15) (.c (.int .u64 128)),none⟩]
abbrev zz25_r6:List AI:=[
 ⟨some 17,.mv true (.t 4),none⟩,
 ⟨some 18,.mv false (.t 3),none⟩,
 ⟨some 19,.bin .rem (.t 18) (.c (.int .u64 128)),none⟩,
 ⟨some 20,.conv .u8 (.t 19),none⟩,
 ⟨some 21,.bin .add (.t 20) (.c (.int .u8 128)),none⟩,
 ⟨some 22,.mkslice 1 1 (.int .u8 0) [(0,(.t 21))],none⟩,
 ⟨some 23,.appG 1 1 [(.int .u8 0)] (.t 17) (.t 22),none⟩,
 ⟨some 4,.mv true (.t 23),none⟩]
abbrev zz25_r7:List AI:=[
 ⟨some 24,.mv false (.t 3),none⟩,
 ⟨some 25,.bin .quo (.t 24) (.c (.int .u64 128)),none⟩,
 ⟨some 3,.mv true (.t 25),none⟩]
abbrev zz25_l0:ACode:=.seq (.seq (.reg false zz25_r5) (.cond (.t 16) (.skip) (.exit 0))) (.block 1 (.seq (.reg false zz25_r6) (.reg false zz25_r7)))
abbrev zz25_r8:List AI:=[
 ⟨some 26,.mv true (.t 4),none⟩,
 ⟨some 27,.mv false (.t 3),none⟩,
 ⟨some 28,.conv .u8 (.t 27),none⟩,
 ⟨some 29,.mkslice 1 1 (.int .u8 0) [(0,(.t 28))],none⟩,
 ⟨some 30,.appG 1 1 [(.int .u8 0)] (.t 26) (.t 29),none⟩,
 ⟨some 2,.mv true (.t 30),none⟩]
abbrev zz25_c:ACode:=.seq (.reg false zz25_r0) (.seq (.reg false zz25_r1) (.seq (.seq (.reg false zz25_r2) (.cond (.t 9) (.reg false zz25_r3) (.skip))) (.seq (.reg false zz25_r4) (.seq (.block 0 (.loop zz25_l0)) (.seq (.reg false zz25_r8) (.ret))))))
def zz25_F:AFunc:=⟨31,[.tmp 2],zz25_c⟩
theorem zz25_cp:compile Tryz.prog [23,30] f_zz25=some zz25_F:=by kernel_rfl
abbrev zz20_r0:List AI:=[
 ⟨some 2,.mv true (.c .nilS),none⟩]
abbrev zz20_r1:List AI:=[
 ⟨some 3,.mv false (.t 0),none⟩,
 ⟨some 4,.call (.c (.fn f_zz4)) [(.c .nilS),(.t 3)] 0,none⟩,
 ⟨some 2,.mv true (.t 4),none⟩]
abbrev zz20_c:ACode:=.seq (.reg false zz20_r0) (.seq (.reg false zz20_r1) (.ret))
def zz20_F:AFunc:=⟨5,[.tmp 2],zz20_c⟩
theorem zz20_cp:compile Tryz.prog [] f_zz20=some zz20_F:=by kernel_rfl
-- loop 0: [0, 5, 6, 7]
abbrev zz8_r0:List AI:=[
 ⟨some 5,.load false 1 (.t 1) .any,none⟩,
 ⟨some 6,.len false (.t 5),none⟩,
 ⟨some 7,.mv false (.c (.int .i64 0)),none⟩]
abbrev zz8_r1:List AI:=[
 ⟨some 8,.bin .lss (.t 7) (.t 6),none⟩]
abbrev zz8_r2:List AI:=[
 ⟨some 9,.iaddr 1 (.t 5) (.t 7),none⟩,
 ⟨some 10,.load false 1 (.t 9) .any,none⟩,
 ⟨some 4,.mv true (.t 10),none⟩]
abbrev zz8_r3:List AI:=[
 ⟨some 11,.mv false (.t 0),none⟩,
 ⟨some 12,.mv false (.t 4),none⟩,
 ⟨some 13,.call (.t 11) [(.t 12)] 0,none⟩,
 ⟨some 14,.not (.t 13),none⟩]
abbrev zz8_r4:List AI:=[
 ⟨some 15,.bin .add (.t 7) (.c (.int .i64 1)),none⟩,
 ⟨some 7,.mv false (.t 15),none⟩]
abbrev zz8_l0:ACode:=.seq (.reg false zz8_r1) (.seq (.cond (.t 8) (.skip) (.exit 0)) (.seq (.block 1 (.seq (.reg false zz8_r2) (.seq (.reg false zz8_r3) (.cond (.t 14) (.ret) (.skip))))) (.reg false zz8_r4)))
abbrev zz8_c:ACode:=.seq (.reg false zz8_r0) (.block 0 (.loop zz8_l0))
def zz8_F:AFunc:=⟨16,[],zz8_c⟩
theorem zz8_cp:compile Tryz.prog [] f_zz8=some zz8_F:=by kernel_rfl
-- loop 0: [2, 3, 4, 5]
abbrev zz18_r0:List AI:=[
 ⟨some 2,.alloc (zr 16 (.int .u8 0)),none⟩]
abbrev zz18_r1:List AI:=[
 ⟨some 6,.mv false (.t 0),none⟩,
 ⟨some 7,.call (.c (.fn f_zz26)) [(.t 6)] 0,none⟩,
 ⟨some 3,.alloc (zr 32 (.int .u8 0)),none⟩,
 ⟨none,.store 32 (.t 3) (.t 7) .any,none⟩]
abbrev zz18_r2:List AI:=[
 ⟨some 8,.build (zr 16 (.int .u8 0)) [],none⟩,
 ⟨some 4,.alloc (zr 16 (.int .u8 0)),none⟩,
 ⟨none,.store 16 (.t 4) (.t 8) .any,none⟩]
abbrev zz18_r3:List AI:=[
 ⟨some 5,.mv true (.c (.int .i64 0)),none⟩]
abbrev zz18_r4:List AI:=[
 ⟨some 9,.mv false (.t 5),none⟩,
 ⟨some 10,.bin .lss (.t 9) (.c (.int .i64 16)),none⟩]
abbrev zz18_r5:List AI:=[
 ⟨some 13,.mv false (.t 5),none⟩,
 ⟨some 14,.mv false (.t 5),none⟩,
 ⟨some 15,.iaddrA 32 1 (.t 3) (.t 14),none⟩,
 ⟨some 16,.load false 1 (.t 15) .any,none⟩,
 ⟨some 17,.iaddrA 16 1 (.t 4) (.t 13),none⟩,
 ⟨none,.store 1 (.t 17) (.t 16) .any,none⟩]
abbrev zz18_r6:List AI:=[
 ⟨some 11,.mv false (.t 5),none⟩,
 ⟨some 12,.bin .add (.t 11) (.c (.int .i64 1)),none⟩,
 ⟨some 5,.mv true (.t 12),none⟩]
abbrev zz18_l0:ACode:=.seq (.seq (.reg false zz18_r4) (.cond (.t 10) (.skip) (.exit 0))) (.seq (.block 1 (.reg false zz18_r5)) (.reg false zz18_r6))
abbrev zz18_r7:List AI:=[
 ⟨some 18,.load true 16 (.t 4) .any,none⟩,
 ⟨none,.store 16 (.t 2) (.t 18) .any,none⟩]
abbrev zz18_c:ACode:=.seq (.reg false zz18_r0) (.seq (.reg false zz18_r1) (.seq (.reg false zz18_r2) (.seq (.seq (.reg false zz18_r3) (.block 0 (.loop zz18_l0))) (.seq (.reg false zz18_r7) (.ret)))))
def zz18_F:AFunc:=⟨19,[.cell 2 true 16],zz18_c⟩
theorem zz18_cp:compile Tryz.prog [] f_zz18=some zz18_F:=by kernel_rfl
-- loop 0: [1, 5, 6]
abbrev zz17_r0:List AI:=[
 ⟨some 4,.mv true (.c .nilS),none⟩]
abbrev zz17_r1:List AI:=[
 ⟨some 7,.mv false (.t 0),none⟩,
 ⟨some 8,.conv .u8 (.t 7),none⟩,
 ⟨some 9,.mkslice 1 1 (.int .u8 0) [(0,(.t 8))],none⟩,
 ⟨some 5,.mv true (.t 9),none⟩]
abbrev zz17_r2:List AI:=[
 ⟨some 6,.mv true (.c (.int .i64 0)),none⟩]
abbrev zz17_r3:List AI:=[
 ⟨some 10,.mv false (.t 6),none⟩,
 ⟨some 11,.mv false (.t 1),none⟩,
 ⟨some 12,.len false (.t 11),none⟩,
 ⟨some 13,.bin .lss (.t 10) (.t 12),none⟩]
abbrev zz17_r4:List AI:=[
 ⟨some 16,.mv true (.t 5),none⟩,
 ⟨some 17,.mv false (.t 1),none⟩,
 ⟨some 18,.mv false (.t 6),none⟩,
 ⟨some 19,.iaddr 1 (.t 17) (.t 18),none⟩,
 ⟨some 20,.load false 1 (.t 19) .any,none⟩,
 ⟨some 21,.call (.c (.fn f_zz16)) [(.t 20)] 0,none⟩,
 ⟨some 22,.append 1 1 (.t 16) (.t 21),none⟩,
 ⟨some 5,.mv true (.t 22),none⟩]
abbrev zz17_r5:List AI:=[
 ⟨some 14,.mv false (.t 6),none⟩,
 ⟨some 15,.bin .add (.t 14) (.c (.int .i64 1)),none⟩,
 ⟨some 6,.mv true (.t 15),none⟩]
abbrev zz17_l0:ACode:=.seq (.seq (.reg false zz17_r3) (.cond (.t 13) (.skip) (.exit 0))) (.seq (.block 1 (.reg false zz17_r4)) (.reg false zz17_r5))
abbrev zz17_r6:List AI:=[
 ⟨some 23,.mv false (.t 5),none⟩,
 ⟨some 4,.mv true (.t 23),none⟩]
abbrev zz17_c:ACode:=.seq (.reg false zz17_r0) (.seq (.reg false zz17_r1) (.seq (.seq (.reg false zz17_r2) (.block 0 (.loop zz17_l0))) (.seq (.reg false zz17_r6) (.ret))))
def zz17_F:AFunc:=⟨24,[.tmp 4],zz17_c⟩
theorem zz17_cp:compile Tryz.prog [] f_zz17=some zz17_F:=by kernel_rfl
-- loop 0: [0, 1, 3]
abbrev zz3_r0:List AI:=[
 ⟨some 4,.load false 1 (.t 1) .any,none⟩,
 ⟨some 5,.len false (.t 4),none⟩,
 ⟨some 6,.bin .sub (.t 5) (.c (.int .i64 1)),none⟩,
 ⟨some 3,.mv true (.t 6),none⟩]
abbrev zz3_r1:List AI:=[
 ⟨some 7,.mv false (.t 3),none⟩,
 ⟨some 8,.bin .geq (.t 7) (.c (.int .i64 0)),none⟩]
abbrev zz3_r2:List AI:=[
 ⟨some 11,.mv false (.t 0),none⟩,
 ⟨some 12,.mv false (.t 3),none⟩,
 ⟨some 13,.load false 1 (.t 1) .any,none⟩,
 ⟨some 14,.mv false (.t 3),none⟩,
 ⟨some 15,.iaddr 1 (.t 13) (.t 14),none⟩,
 ⟨some 16,.load false 1 (.t 15) .any,none⟩,
 ⟨some 17,.call (.t 11) [(.t 12),(.t 16)] 0,none⟩,
 ⟨some 18,.not (.t 17),none⟩]
abbrev zz3_r3:List AI:=[
 ⟨some 9,.mv false (.t 3),none⟩,
 ⟨some 10,.bin .sub (.t 9) (.c (.int .i64 1)),none⟩,
 ⟨some 3,.mv true (.t 10),none⟩]
abbrev zz3_l0:ACode:=.seq (.seq (.reg false zz3_r1) (.cond (.t 8) (.skip) (.exit 0))) (.seq (.block 1 (.seq (.reg false zz3_r2) (.cond (.t 18) (.ret) (.skip)))) (.reg false zz3_r3))
abbrev zz3_c:ACode:=.seq (.reg false zz3_r0) (.block 0 (.loop zz3_l0))
def zz3_F:AFunc:=⟨19,[],zz3_c⟩
theorem zz3_cp:compile Tryz.prog [] f_zz3=some zz3_F:=by kernel_rfl
abbrev zz50_r0:List AI:=[
 ⟨some 0,.alloc (zr 8 (.int .u32 0) ++ zr 64 (.int .u8 0) ++ [(.int .u64 0)]),none⟩]
abbrev zz50_r1:List AI:=[
 ⟨some 1,.build (zr 8 (.int .u32 0)) [(0,1,(.c (.int .u32 1779033703))),(1,1,(.c (.int .u32 3144134277))),(2,1,(.c (.int .u32 1013904242))),(3,1,(.c (.int .u32 2773480762))),(4,1,(.c (.int .u32 1359893119))),(5,1,(.c (.int .u32 2600822924))),(6,1,(.c (.int .u32 528734635))),(7,1,(.c (.int .u32 1541459225)))],none⟩,
 ⟨some 2,.build (zr 8 (.int .u32 0) ++ zr 64 (.int .u8 0) ++ [(.int .u64 0)]) [(0,8,(.t 1))],none⟩,
 ⟨none,.store 73 (.t 0) (.t 2) .any,none⟩]
abbrev zz50_c:ACode:=.seq (.reg false zz50_r0) (.seq (.reg false zz50_r1) (.ret))
def zz50_F:AFunc:=⟨3,[.cell 0 true 73],zz50_c⟩
theorem zz50_cp:compile Tryz.prog [] f_zz50=some zz50_F:=by kernel_rfl
-- loop 0: [1, 2, 4]
abbrev zz28_r0:List AI:=[
 ⟨some 2,.gn (.box 73) [(.t 0)],none⟩,
 ⟨some 4,.alloc (zr 8 (.int .u32 0) ++ zr 64 (.int .u8 0) ++ [(.int .u64 0)]),none⟩]
abbrev zz28_r1:List AI:=[
 ⟨some 7,.mv false (.t 1),none⟩,
 ⟨some 8,.bin .neq (.t 7) (.c (.str [])),none⟩]
abbrev zz28_r2:List AI:=[
 ⟨some 9,.faddr 72 (.t 2),none⟩,
 ⟨some 10,.load false 1 (.t 9) .any,none⟩,
 ⟨some 11,.bin .rem (.t 10) (.c (.int .u64 64)),none⟩,
 ⟨some 12,.conv .i64 (.t 11),none⟩,
 ⟨some 5,.mv true (.t 12),none⟩]
abbrev zz28_r3:List AI:=[
 ⟨some 13,.faddr 8 (.t 2),none⟩,
 ⟨some 14,.mv false (.t 5),none⟩,
 ⟨some 15,.gd (.arrS 1 64 true false false) [(.t 13),(.t 14)],none⟩,
 ⟨some 16,.mv false (.t 1),none⟩,
 ⟨some 17,.gd .copyS [(.t 15),(.t 16)],none⟩,
 ⟨some 6,.mv true (.t 17),none⟩]
abbrev zz28_r4:List AI:=[
 ⟨some 18,.mv false (.t 1),none⟩,
 ⟨some 19,.mv false (.t 6),none⟩,
 ⟨some 20,.slS (.t 18) (some (.t 19)) none,none⟩,
 ⟨some 1,.mv true (.t 20),none⟩]
abbrev zz28_r5:List AI:=[
 ⟨some 21,.faddr 72 (.t 2),none⟩,
 ⟨some 22,.load false 1 (.t 21) .any,none⟩,
 ⟨some 23,.mv false (.t 6),none⟩,
 ⟨some 24,.conv .u64 (.t 23),none⟩,
 ⟨some 25,.bin .add (.t 22) (.t 24),none⟩,
 ⟨some 26,.faddr 72 (.t 2),none⟩,
 ⟨none,.store 1 (.t 26) (.t 25) .any,none⟩]
abbrev zz28_r6:List AI:=[
 ⟨some 27,.mv false (.t 5),none⟩,
 ⟨some 28,.mv false (.t 6),none⟩,
 ⟨some 29,.bin .add (.t 27) (.t 28),none⟩,
 ⟨some 30,.bin .eql (.t 29) (.c (.int .i64 64)),none⟩]
abbrev zz28_r7:List AI:=[
 ⟨some 31,.faddr 0 (.t 2),none⟩,
 ⟨some 32,.load true 8 (.t 31) .foreign,none⟩,
 ⟨some 33,.faddr 8 (.t 2),none⟩,
 ⟨some 34,.gd (.arrS 1 64 false false false) [(.t 33)],none⟩,
 ⟨some 35,.call (.c (.fn f_zz34)) [(.t 32),(.t 34)] 1,none⟩,
 ⟨some 36,.faddr 0 (.t 2),none⟩,
 ⟨none,.store 8 (.t 36) (.t 35) .gp,none⟩]
abbrev zz28_l0:ACode:=.seq (.seq (.reg false zz28_r1) (.cond (.t 8) (.skip) (.exit 0))) (.block 1 (.seq (.reg false zz28_r2) (.seq (.reg false zz28_r3) (.seq (.reg false zz28_r4) (.seq (.reg false zz28_r5) (.seq (.reg false zz28_r6) (.cond (.t 30) (.reg true zz28_r7) (.skip))))))))
abbrev zz28_r8:List AI:=[
 ⟨some 37,.load true 73 (.t 2) .any,none⟩,
 ⟨none,.store 73 (.t 4) (.t 37) .any,none⟩]
abbrev zz28_c:ACode:=.seq (.reg false zz28_r0) (.seq (.block 0 (.loop zz28_l0)) (.seq (.reg false zz28_r8) (.ret)))
def zz28_F:AFunc:=⟨38,[.cell 4 true 73],zz28_c⟩
theorem zz28_cp:compile Tryz.prog [2] f_zz28=some zz28_F:=by kernel_rfl
abbrev zz53_r0:List AI:=[
 ⟨some 2,.mv true (.c .nilS),none⟩]
abbrev zz53_r1:List AI:=[
 ⟨some 3,.mv false (.t 0),none⟩,
 ⟨some 4,.len true (.t 3),none⟩,
 ⟨some 5,.call (.c (.fn f_zz62)) [(.t 4)] 0,none⟩,
 ⟨some 6,.mv false (.t 0),none⟩,
 ⟨some 7,.appG 1 1 [(.int .u8 0)] (.t 5) (.t 6),none⟩,
 ⟨some 2,.mv true (.t 7),none⟩]
abbrev zz53_c:ACode:=.seq (.reg false zz53_r0) (.seq (.reg false zz53_r1) (.ret))
def zz53_F:AFunc:=⟨8,[.tmp 2],zz53_c⟩
theorem zz53_cp:compile Tryz.prog [7] f_zz53=some zz53_F:=by kernel_rfl
-- loop 0: [1, 2, 3, 4]
-- loop 1: [1, 2, 3, 4, 23]
-- loop 2: [1, 2, 6, 40]
abbrev zz29_r0:List AI:=[
 ⟨some 1,.box 73 (.t 0),none⟩,
 ⟨some 2,.alloc (zr 32 (.int .u8 0)),none⟩]
abbrev zz29_r1:List AI:=[
 ⟨some 8,.faddr 72 (.t 1),none⟩,
 ⟨some 9,.load false 1 (.t 8) .any,none⟩,
 ⟨some 10,.bin .mul (.c (.int .u64 8)) (.t 9),none⟩,
 ⟨some 3,.mv true (.t 10),none⟩]
abbrev zz29_r2:List AI:=[
 ⟨some 11,.mkslice 1 1 (.int .u8 0) [(0,(.c (.int .u8 128)))],none⟩,
 ⟨some 4,.mv true (.t 11),none⟩]
abbrev zz29_r3:List AI:=[
 ⟨some 12,.faddr 72 (.t 1),none⟩,
 ⟨some 13,.load false 1 (.t 12) .any,none⟩,
 ⟨some 14,.conv .i64 (.t 13),none⟩,
 ⟨some 15,.mv false (.t 4),none⟩,
 ⟨some 16,.len false (.t 15),none⟩,
 ⟨some 17,.bin .add (.t 14) (.t 16),none⟩,
 ⟨some 18,.bin .rem (.t 17) (.c (.int .i64 64)),none⟩,
 ⟨some 19,.bin .neq (.t 18) (.c (.int .i64 56)),none⟩]
abbrev zz29_r4:List AI:=[
 ⟨some 20,.mv true (.t 4),none⟩,
 ⟨some 21,.mkslice 1 1 (.int .u8 0) [(0,(.c (.int .u8 0)))],none⟩,
 ⟨some 22,.append 1 1 (.t 20) (.t 21),none⟩,
 ⟨some 4,.mv true (.t 22),none⟩]
abbrev zz29_l0:ACode:=.seq (.seq (.reg false zz29_r3) (.cond (.t 19) (.skip) (.exit 0))) (.block 1 (.reg false zz29_r4))
abbrev zz29_r5:List AI:=[
 ⟨some 23,.mv false (.c (.int .i64 0)),none⟩]
abbrev zz29_r6:List AI:=[
 ⟨some 24,.bin .lss (.t 23) (.c (.int .i64 8)),none⟩]
abbrev zz29_r7:List AI:=[
 ⟨some 25,.mv false (.t 23),none⟩,
 ⟨some 5,.mv true (.t 25),none⟩]
abbrev zz29_r8:List AI:=[
 ⟨some 26,.mv true (.t 4),none⟩,
 ⟨some 27,.mv false (.t 3),none⟩,
 ⟨some 28,.mv false (.t 5),none⟩,
 ⟨some 29,.bin .mul (.c (.int .i64 8)) (.t 28),none⟩,
 ⟨some 30,.bin .sub (.c (.int .i64 56)) (.t 29),none⟩,
 ⟨some 31,.bin .shr (.t 27) (.t 30),none⟩,
 ⟨some 32,.conv .u8 (.t 31),none⟩,
 ⟨some 33,.mkslice 1 1 (.int .u8 0) [(0,(.t 32))],none⟩,
 ⟨some 34,.append 1 1 (.t 26) (.t 33),none⟩,
 ⟨some 4,.mv true (.t 34),none⟩]
abbrev zz29_r9:List AI:=[
 ⟨some 35,.bin .add (.t 23) (.c (.int .i64 1)),none⟩,
 ⟨some 23,.mv false (.t 35),none⟩]
abbrev zz29_l1:ACode:=.seq (.reg false zz29_r6) (.seq (.cond (.t 24) (.skip) (.exit 2)) (.seq (.block 3 (.seq (.reg false zz29_r7) (.reg false zz29_r8))) (.reg false zz29_r9)))
abbrev zz29_r10:List AI:=[
 ⟨some 36,.load true 73 (.t 1) .any,none⟩,
 ⟨some 37,.mv false (.t 4),none⟩,
 ⟨some 38,.b2s (.t 37),none⟩,
 ⟨some 39,.call (.c (.fn f_zz28)) [(.t 36),(.t 38)] 0,none⟩,
 ⟨none,.store 73 (.t 1) (.t 39) .any,none⟩]
abbrev zz29_r11:List AI:=[
 ⟨some 6,.alloc (zr 32 (.int .u8 0)),none⟩]
abbrev zz29_r12:List AI:=[
 ⟨some 40,.mv false (.c (.int .i64 0)),none⟩]
abbrev zz29_r13:List AI:=[
 ⟨some 41,.bin .lss (.t 40) (.c (.int .i64 32)),none⟩]
abbrev zz29_r14:List AI:=[
 ⟨some 42,.mv false (.t 40),none⟩,
 ⟨some 7,.mv true (.t 42),none⟩]
abbrev zz29_r15:List AI:=[
 ⟨some 43,.mv false (.t 7),none⟩,
 ⟨some 44,.mv false (.t 7),none⟩,
 ⟨some 45,.bin .quo (.t 44) (.c (.int .i64 4)),none⟩,
 ⟨some 46,.faddr 0 (.t 1),none⟩,
 ⟨some 47,.iaddrA 8 1 (.t 46) (.t 45),none⟩,
 ⟨some 48,.load false 1 (.t 47) .any,none⟩,
 ⟨some 49,.mv false (.t 7),none⟩,
 ⟨some 50,.bin .rem (.t 49) (.c (.int .i64 4)),none⟩,
 ⟨some 51,.bin .mul (.c (.int .i64 8)) (.t 50),none⟩,
 ⟨some 52,.bin .sub (.c (.int .i64 24)) (.t 51),none⟩,
 ⟨some 53,.bin .shr (.t 48) (.t 52),none⟩,
 ⟨some 54,.conv .u8 (.t 53),none⟩,
 ⟨some 55,.iaddrA 32 1 (.t 6) (.t 43),none⟩,
 ⟨none,.store 1 (.t 55) (.t 54) .any,none⟩]
abbrev zz29_r16:List AI:=[
 ⟨some 56,.bin .add (.t 40) (.c (.int .i64 1)),none⟩,
 ⟨some 40,.mv false (.t 56),none⟩]
abbrev zz29_l2:ACode:=.seq (.reg false zz29_r13) (.seq (.cond (.t 41) (.skip) (.exit 4)) (.seq (.block 5 (.seq (.reg false zz29_r14) (.reg false zz29_r15))) (.reg false zz29_r16)))
abbrev zz29_r17:List AI:=[
 ⟨some 57,.load true 32 (.t 6) .any,none⟩,
 ⟨none,.store 32 (.t 2) (.t 57) .any,none⟩]
abbrev zz29_c:ACode:=.seq (.reg false zz29_r0) (.seq (.reg false zz29_r1) (.seq (.reg false zz29_r2) (.seq (.block 0 (.loop zz29_l0)) (.seq (.seq (.reg false zz29_r5) (.block 2 (.loop zz29_l1))) (.seq (.reg false zz29_r10) (.seq (.reg false zz29_r11) (.seq (.seq (.reg false zz29_r12) (.block 4 (.loop zz29_l2))) (.seq (.reg false zz29_r17) (.ret)))))))))
def zz29_F:AFunc:=⟨58,[.cell 2 true 32],zz29_c⟩
theorem zz29_cp:compile Tryz.prog [] f_zz29=some zz29_F:=by kernel_rfl
-- loop 0: [2, 7]
abbrev zz4_r0:List AI:=[
 ⟨some 2,.gn (.box 1) [(.t 0)],none⟩,
 ⟨some 4,.mv true (.c .nilS),none⟩]
abbrev zz4_r1:List AI:=[
 ⟨some 6,.mv false (.t 1),none⟩]
abbrev zz4_r2:List AI:=[
 ⟨some 5,.mv true (.t 7),none⟩]
abbrev zz4_r3:List AI:=[
 ⟨some 8,.load false 1 (.t 2) .any,none⟩,
 ⟨some 9,.mv false (.t 5),none⟩,
 ⟨some 10,.mkslice 1 1 (.int .i64 0) [(0,(.t 9))],none⟩,
 ⟨some 11,.appG 1 8 [(.int .i64 0)] (.t 8) (.t 10),none⟩,
 ⟨none,.store 1 (.t 2) (.t 11) .any,none⟩]
abbrev slices_AppendSeq_int_int_y0a:ACode:=.reg false zz4_r2
abbrev slices_AppendSeq_int_int_y0b:ACode:=.block 1 (.reg false zz4_r3)
abbrev zz4_r4:List AI:=[
 ⟨some 12,.load false 1 (.t 2) .any,none⟩,
 ⟨some 4,.mv true (.t 12),none⟩]
abbrev zz4_c:ACode:=.seq (.reg false zz4_r0) (.seq (.seq (.reg false zz4_r1) (.block 0 (.rangeF (.t 6) [7] slices_AppendSeq_int_int_y0a slices_AppendSeq_int_int_y0b))) (.seq (.reg false zz4_r4) (.ret)))
def zz4_F:AFunc:=⟨13,[.tmp 4],zz4_c⟩
theorem zz4_cp:compile Tryz.prog [2,11] f_zz4=some zz4_F:=by kernel_rfl
-- loop 0: [2, 3, 4, 5, 6, 7, 8]
-- loop 1: [2, 3, 4, 5, 7, 11]
-- loop 2: [2, 3, 4, 5]
-- loop 3: [2, 3, 12, 13]
abbrev zz26_r0:List AI:=[
 ⟨some 2,.alloc (zr 32 (.int .u8 0)),none⟩]
abbrev zz26_r1:List AI:=[
 ⟨some 14,.build (zr 8 (.int .u32 0)) [(0,1,(.c (.int .u32 1779033703))),(1,1,(.c (.int .u32 3144134277))),(2,1,(.c (.int .u32 1013904242))),(3,1,(.c (.int .u32 2773480762))),(4,1,(.c (.int .u32 1359893119))),(5,1,(.c (.int .u32 2600822924))),(6,1,(.c (.int .u32 528734635))),(7,1,(.c (.int .u32 1541459225)))],none⟩,
 ⟨some 3,.alloc (zr 8 (.int .u32 0)),none⟩,
 ⟨none,.store 8 (.t 3) (.t 14) .any,none⟩]
abbrev zz26_r2:List AI:=[
 ⟨some 15,.mv false (.t 0),none⟩,
 ⟨some 16,.call (.c (.fn f_zz14)) [(.t 15)] 0,none⟩,
 ⟨some 4,.mv true (.t 16),none⟩]
abbrev zz26_r3:List AI:=[
 ⟨some 5,.mv true (.c (.int .i64 0)),none⟩]
abbrev zz26_r4:List AI:=[
 ⟨some 17,.mv false (.t 5),none⟩,
 ⟨some 18,.mv false (.t 4),none⟩,
 ⟨some 19,.len false (.t 18),none⟩,
 ⟨some 20,.bin .lss (.t 17) (.t 19),none⟩]
abbrev zz26_r5:List AI:=[
 ⟨some 23,.mv false (.t 4),none⟩,
 ⟨some 24,.mv false (.t 5),none⟩,
 ⟨some 25,.mv false (.t 5),none⟩,
 ⟨some 26,.bin .add (.t 25) (.c (.int .i64 64)),none⟩,
 ⟨some 27,.sl 1 (.t 23) (some (.t 24)) (some (.t 26)),none⟩,
 ⟨some 28,.call (.c (.fn f_zz19)) [(.t 27)] 0,none⟩,
 ⟨some 6,.alloc (zr 64 (.int .u32 0)),none⟩,
 ⟨none,.store 64 (.t 6) (.t 28) .any,none⟩]
abbrev zz26_r6:List AI:=[
 ⟨some 29,.load true 8 (.t 3) .any,none⟩,
 ⟨some 7,.alloc (zr 8 (.int .u32 0)),none⟩,
 ⟨none,.store 8 (.t 7) (.t 29) .any,none⟩]
abbrev zz26_r7:List AI:=[
 ⟨some 8,.mv true (.c (.int .i64 0)),none⟩]
abbrev zz26_r8:List AI:=[
 ⟨some 30,.mv false (.t 8),none⟩,
 ⟨some 31,.bin .lss (.t 30) (.c (.int .i64 64)),none⟩]
abbrev zz26_r9:List AI:=[
 ⟨some 34,.iaddrA 8 1 (.t 7) (.c (.int .i64 7)),none⟩,
 ⟨some 35,.load false 1 (.t 34) (.site 7),none⟩,
 ⟨some 36,.iaddrA 8 1 (.t 7) (.c (.int .i64 4)),none⟩,
 ⟨some 37,.load false 1 (.t 36) (.site 7),none⟩,
 ⟨some 39,.iaddrA 8 1 (.t 7) (.c (.int .i64 4)),none⟩,
 ⟨some 40,.load false 1 (.t 39) (.site 7),none⟩,
 ⟨some 43,.iaddrA 8 1 (.t 7) (.c (.int .i64 4)),none⟩,
 ⟨some 44,.load false 1 (.t 43) (.site 7),none⟩,
 ⟨some 48,.iaddrA 8 1 (.t 7) (.c (.int .i64 4)),none⟩,
 ⟨some 49,.load false 1 (.t 48) (.site 7),none⟩,
 ⟨some 50,.iaddrA 8 1 (.t 7) (.c (.int .i64 5)),none⟩,
 ⟨some 51,.load false 1 (.t 50) (.site 7),none⟩,
 ⟨some 52,.bin .and (.t 49) (.t 51),none⟩,
 ⟨some 53,.iaddrA 8 1 (.t 7) (.c (.int .i64 4)),none⟩,
 ⟨some 54,.load false 1 (.t 53) (.site 7),none⟩,
 ⟨some 55,.bin .xor (.t 54) (.c (.int .u32 4294967295)),none⟩,
 ⟨some 56,.iaddrA 8 1 (.t 7) (.c (.int .i64 6)),none⟩,
 ⟨some 57,.load false 1 (.t 56) (.site 7),none⟩,
 ⟨some 58,.bin .and (.t 55) (.t 57),none⟩,
 ⟨some 59,.bin .xor (.t 52) (.t 58),none⟩,
 ⟨some 61,.mv false (.t 8),none⟩,
 ⟨some 62,.iaddrA 64 1 (.g 1) (.t 61),none⟩,
 ⟨some 63,.load false 1 (.t 62) .foreign,none⟩,
 ⟨some 65,.mv false (.t 8),none⟩,
 ⟨some 66,.iaddrA 64 1 (.t 6) (.t 65),none⟩,
 ⟨some 67,.load false 1 (.t 66) (.site 6),none⟩,
 ⟨some 38,.call (.c (.fn f_zz22)) [(.t 37),(.c (.int .i64 6))] 1,none⟩,
 ⟨some 41,.call (.c (.fn f_zz22)) [(.t 40),(.c (.int .i64 11))] 1,none⟩,
 ⟨some 42,.bin .xor (.t 38) (.t 41),none⟩,
 ⟨some 45,.call (.c (.fn f_zz22)) [(.t 44),(.c (.int .i64 25))] 1,none⟩,
 ⟨some 46,.bin .xor (.t 42) (.t 45),none⟩,
 ⟨some 47,.bin .add (.t 35) (.t 46),none⟩,
 ⟨some 60,.bin .add (.t 47) (.t 59),none⟩,
 ⟨some 64,.bin .add (.t 60) (.t 63),none⟩,
 ⟨some 68,.bin .add (.t 64) (.t 67),none⟩,
 ⟨some 9,.mv true (.t 68),none⟩]
abbrev zz26_r10:List AI:=[
 ⟨some 69,.iaddrA 8 1 (.t 7) (.c (.int .i64 0)),none⟩,
 ⟨some 70,.load false 1 (.t 69) (.site 7),none⟩,
 ⟨some 72,.iaddrA 8 1 (.t 7) (.c (.int .i64 0)),none⟩,
 ⟨some 73,.load false 1 (.t 72) (.site 7),none⟩,
 ⟨some 76,.iaddrA 8 1 (.t 7) (.c (.int .i64 0)),none⟩,
 ⟨some 77,.load false 1 (.t 76) (.site 7),none⟩,
 ⟨some 80,.iaddrA 8 1 (.t 7) (.c (.int .i64 0)),none⟩,
 ⟨some 81,.load false 1 (.t 80) (.site 7),none⟩,
 ⟨some 82,.iaddrA 8 1 (.t 7) (.c (.int .i64 1)),none⟩,
 ⟨some 83,.load false 1 (.t 82) (.site 7),none⟩,
 ⟨some 84,.bin .and (.t 81) (.t 83),none⟩,
 ⟨some 85,.iaddrA 8 1 (.t 7) (.c (.int .i64 0)),none⟩,
 ⟨some 86,.load false 1 (.t 85) (.site 7),none⟩,
 ⟨some 87,.iaddrA 8 1 (.t 7) (.c (.int .i64 2)),none⟩,
 ⟨some 88,.load false 1 (.t 87) (.site 7),none⟩,
 ⟨some 89,.bin .and (.t 86) (.t 88),none⟩,
 ⟨some 90,.bin .xor (.t 84) (.t 89),none⟩,
 ⟨some 91,.iaddrA 8 1 (.t 7) (.c (.int .i64 1)),none⟩,
 ⟨some 92,.load false 1 (.t 91) (.site 7),none⟩,
 ⟨some 93,.iaddrA 8 1 (.t 7) (.c (.int .i64 2)),none⟩,
 ⟨some 94,.load false 1 (.t 93) (.site 7),none⟩,
 ⟨some 95,.bin .and (.t 92) (.t 94),none⟩,
 ⟨some 96,.bin .xor (.t 90) (.t 95),none⟩,
 ⟨some 71,.call (.c (.fn f_zz22)) [(.t 70),(.c (.int .i64 2))] 2,none⟩,
 ⟨some 74,.call (.c (.fn f_zz22)) [(.t 73),(.c (.int .i64 13))] 2,none⟩,
 ⟨some 75,.bin .xor (.t 71) (.t 74),none⟩,
 ⟨some 78,.call (.c (.fn f_zz22)) [(.t 77),(.c (.int .i64 22))] 2,none⟩,
 ⟨some 79,.bin .xor (.t 75) (.t 78),none⟩,
 ⟨some 97,.bin .add (.t 79) (.t 96),none⟩,
 ⟨some 10,.mv true (.t 97),none⟩]
abbrev zz26_r11:List AI:=[
 ⟨some 98,.mv false (.t 9),none⟩,
 ⟨some 99,.mv false (.t 10),none⟩,
 ⟨some 100,.bin .add (.t 98) (.t 99),none⟩,
 ⟨some 101,.iaddrA 8 1 (.t 7) (.c (.int .i64 0)),none⟩,
 ⟨some 102,.load false 1 (.t 101) .any,none⟩,
 ⟨some 103,.iaddrA 8 1 (.t 7) (.c (.int .i64 1)),none⟩,
 ⟨some 104,.load false 1 (.t 103) .any,none⟩,
 ⟨some 105,.iaddrA 8 1 (.t 7) (.c (.int .i64 2)),none⟩,
 ⟨some 106,.load false 1 (.t 105) .any,none⟩,
 ⟨some 107,.iaddrA 8 1 (.t 7) (.c (.int .i64 3)),none⟩,
 ⟨some 108,.load false 1 (.t 107) .any,none⟩,
 ⟨some 109,.mv false (.t 9),none⟩,
 ⟨some 110,.bin .add (.t 108) (.t 109),none⟩,
 ⟨some 111,.iaddrA 8 1 (.t 7) (.c (.int .i64 4)),none⟩,
 ⟨some 112,.load false 1 (.t 111) .any,none⟩,
 ⟨some 113,.iaddrA 8 1 (.t 7) (.c (.int .i64 5)),none⟩,
 ⟨some 114,.load false 1 (.t 113) .any,none⟩,
 ⟨some 115,.iaddrA 8 1 (.t 7) (.c (.int .i64 6)),none⟩,
 ⟨some 116,.load false 1 (.t 115) .any,none⟩,
 ⟨some 117,.build (zr 8 (.int .u32 0)) [(0,1,(.t 100)),(1,1,(.t 102)),(2,1,(.t 104)),(3,1,(.t 106)),(4,1,(.t 110)),(5,1,(.t 112)),(6,1,(.t 114)),(7,1,(.t 116))],none⟩,
 ⟨none,.store 8 (.t 7) (.t 117) .any,none⟩]
abbrev zz26_r12:List AI:=[
 ⟨some 32,.mv false (.t 8),none⟩,
 ⟨some 33,.bin .add (.t 32) (.c (.int .i64 1)),none⟩,
 ⟨some 8,.mv true (.t 33),none⟩]
abbrev zz26_l0:ACode:=.seq (.seq (.reg false zz26_r8) (.cond (.t 31) (.skip) (.exit 2))) (.seq (.block 3 (.seq (.reg true zz26_r9) (.seq (.reg true zz26_r10) (.reg false zz26_r11)))) (.reg false zz26_r12))
abbrev zz26_r13:List AI:=[
 ⟨some 11,.mv true (.c (.int .i64 0)),none⟩]
abbrev zz26_r14:List AI:=[
 ⟨some 118,.mv false (.t 11),none⟩,
 ⟨some 119,.bin .lss (.t 118) (.c (.int .i64 8)),none⟩]
abbrev zz26_r15:List AI:=[
 ⟨some 122,.mv false (.t 11),none⟩,
 ⟨some 123,.mv false (.t 11),none⟩,
 ⟨some 124,.iaddrA 8 1 (.t 3) (.t 123),none⟩,
 ⟨some 125,.load false 1 (.t 124) (.site 3),none⟩,
 ⟨some 126,.mv false (.t 11),none⟩,
 ⟨some 127,.iaddrA 8 1 (.t 7) (.t 126),none⟩,
 ⟨some 128,.load false 1 (.t 127) (.site 7),none⟩,
 ⟨some 129,.bin .add (.t 125) (.t 128),none⟩,
 ⟨some 130,.iaddrA 8 1 (.t 3) (.t 122),none⟩,
 ⟨none,.store 1 (.t 130) (.t 129) (.site 3),none⟩]
abbrev zz26_r16:List AI:=[
 ⟨some 120,.mv false (.t 11),none⟩,
 ⟨some 121,.bin .add (.t 120) (.c (.int .i64 1)),none⟩,
 ⟨some 11,.mv true (.t 121),none⟩]
abbrev zz26_l1:ACode:=.seq (.seq (.reg false zz26_r14) (.cond (.t 119) (.skip) (.exit 4))) (.seq (.block 5 (.reg true zz26_r15)) (.reg false zz26_r16))
abbrev zz26_r17:List AI:=[
 ⟨some 21,.mv false (.t 5),none⟩,
 ⟨some 22,.bin .add (.t 21) (.c (.int .i64 64)),none⟩,
 ⟨some 5,.mv true (.t 22),none⟩]
abbrev zz26_l2:ACode:=.seq (.seq (.reg false zz26_r4) (.cond (.t 20) (.skip) (.exit 0))) (.seq (.block 1 (.seq (.reg false zz26_r5) (.seq (.reg false zz26_r6) (.seq (.seq (.reg false zz26_r7) (.block 2 (.loop zz26_l0))) (.seq (.reg false zz26_r13) (.block 4 (.loop zz26_l1))))))) (.reg false zz26_r17))
abbrev zz26_r18:List AI:=[
 ⟨some 12,.alloc (zr 32 (.int .u8 0)),none⟩]
abbrev zz26_r19:List AI:=[
 ⟨some 13,.mv true (.c (.int .i64 0)),none⟩]
abbrev zz26_r20:List AI:=[
 ⟨some 131,.mv false (.t 13),none⟩,
 ⟨some 132,.bin .lss (.t 131) (.c (.int .i64 32)),none⟩]
abbrev zz26_r21:List AI:=[
 ⟨some 135,.mv false (.t 13),none⟩,
 ⟨some 136,.mv false (.t 13),none⟩,
 ⟨some 137,.bin .quo (.t 136) (.c (.int .i64 4)),none⟩,
 ⟨some 138,.iaddrA 8 1 (.t 3) (.t 137),none⟩,
 ⟨some 139,.load false 1 (.t 138) .any,none⟩,
 ⟨some 140,.mv false (.t 13),none⟩,
 ⟨some 141,.bin .rem (.t 140) (.c (.int .i64 4)),none⟩,
 ⟨some 142,.bin .mul (.c (.int .i64 8)) (.t 141),none⟩,
 ⟨some 143,.bin .sub (.c (.int .i64 24)) (.t 142),none⟩,
 ⟨some 144,.bin .shr (.t 139) (.t 143),none⟩,
 ⟨some 145,.conv .u8 (.t 144),none⟩,
 ⟨some 146,.iaddrA 32 1 (.t 12) (.t 135),none⟩,
 ⟨none,.store 1 (.t 146) (.t 145) .any,none⟩]
abbrev zz26_r22:List AI:=[
 ⟨some 133,.mv false (.t 13),none⟩,
 ⟨some 134,.bin .add (.t 133) (.c (.int .i64 1)),none⟩,
 ⟨some 13,.mv true (.t 134),none⟩]
abbrev zz26_l3:ACode:=.seq (.seq (.reg false zz26_r20) (.cond (.t 132) (.skip) (.exit 6))) (.seq (.block 7 (.reg false zz26_r21)) (.reg false zz26_r22))
abbrev zz26_r23:List AI:=[
 ⟨some 147,.load true 32 (.t 12) .any,none⟩,
 ⟨none,.store 32 (.t 2) (.t 147) .any,none⟩]
abbrev zz26_c:ACode:=.seq (.reg false zz26_r0) (.seq (.reg false zz26_r1) (.seq (.reg false zz26_r2) (.seq (.seq (.reg false zz26_r3) (.block 0 (.loop zz26_l2))) (.seq (.reg false zz26_r18) (.seq (.seq (.reg false zz26_r19) (.block 6 (.loop zz26_l3))) (.seq (.reg false zz26_r23) (.ret)))))))
def zz26_F:AFunc:=⟨148,[.cell 2 true 32],zz26_c⟩
theorem zz26_cp:compile Tryz.prog [] f_zz26=some zz26_F:=by kernel_rfl
abbrev zz16_r0:List AI:=[
 ⟨some 2,.mv true (.c .nilS),none⟩]
abbrev zz16_r1:List AI:=[
 ⟨some 3,.mv false (.t 0),none⟩,
 ⟨some 4,.len true (.t 3),none⟩,
 ⟨some 5,.call (.c (.fn f_zz25)) [(.t 4)] 0,none⟩,
 ⟨some 6,.mv false (.t 0),none⟩,
 ⟨some 7,.appG 1 1 [(.int .u8 0)] (.t 5) (.t 6),none⟩,
 ⟨some 2,.mv true (.t 7),none⟩]
abbrev zz16_c:ACode:=.seq (.reg false zz16_r0) (.seq (.reg false zz16_r1) (.ret))
def zz16_F:AFunc:=⟨8,[.tmp 2],zz16_c⟩
theorem zz16_cp:compile Tryz.prog [7] f_zz16=some zz16_F:=by kernel_rfl
-- loop 0: [2, 4, 5, 6, 7, 21, 22]
-- loop 1: [2, 4, 6, 7, 94]
abbrev zz34_r0:List AI:=[
 ⟨some 2,.gn (.box 8) [(.t 0)],none⟩,
 ⟨some 4,.alloc (zr 8 (.int .u32 0)),none⟩]
abbrev zz34_r1:List AI:=[
 ⟨some 13,.mv false (.t 1),none⟩,
 ⟨some 14,.call (.c (.fn f_zz35)) [(.t 13)] 0,none⟩,
 ⟨some 5,.alloc (zr 64 (.int .u32 0)),none⟩,
 ⟨none,.store 64 (.t 5) (.t 14) .any,none⟩]
abbrev zz34_r2:List AI:=[
 ⟨some 15,.gd (.arrS 1 8 false true false) [(.t 2),(.c (.int .i64 4))],none⟩,
 ⟨some 16,.gd (.s2a 4) [(.t 15)],none⟩,
 ⟨some 17,.load true 4 (.t 16) .foreign,none⟩,
 ⟨some 18,.gd (.arrS 1 8 true false false) [(.t 2),(.c (.int .i64 4))],none⟩,
 ⟨some 19,.gd (.s2a 4) [(.t 18)],none⟩,
 ⟨some 20,.load true 4 (.t 19) .foreign,none⟩,
 ⟨some 6,.alloc [(.int .u32 0),(.int .u32 0),(.int .u32 0),(.int .u32 0)],none⟩,
 ⟨some 7,.alloc [(.int .u32 0),(.int .u32 0),(.int .u32 0),(.int .u32 0)],none⟩,
 ⟨none,.store 4 (.t 6) (.t 17) (.site 6),none⟩,
 ⟨none,.store 4 (.t 7) (.t 20) (.site 7),none⟩]
abbrev zz34_r3:List AI:=[
 ⟨some 21,.load true 64 (.g 2) .any,none⟩,
 ⟨some 22,.mv false (.c (.int .i64 0)),none⟩]
abbrev zz34_r4:List AI:=[
 ⟨some 23,.bin .lss (.t 22) (.c (.int .i64 64)),none⟩]
abbrev zz34_r5:List AI:=[
 ⟨some 24,.mv false (.t 22),none⟩,
 ⟨some 25,.idxA false 64 1 (.t 21) (.t 22),none⟩,
 ⟨some 8,.mv true (.t 24),none⟩,
 ⟨some 9,.mv true (.t 25),none⟩]
abbrev zz34_r6:List AI:=[
 ⟨some 26,.iaddrA 4 1 (.t 7) (.c (.int .i64 3)),none⟩,
 ⟨some 27,.load false 1 (.t 26) (.site 7),none⟩,
 ⟨some 28,.iaddrA 4 1 (.t 7) (.c (.int .i64 0)),none⟩,
 ⟨some 29,.load false 1 (.t 28) (.site 7),none⟩,
 ⟨some 32,.iaddrA 4 1 (.t 7) (.c (.int .i64 0)),none⟩,
 ⟨some 33,.load false 1 (.t 32) (.site 7),none⟩,
 ⟨some 34,.iaddrA 4 1 (.t 7) (.c (.int .i64 1)),none⟩,
 ⟨some 35,.load false 1 (.t 34) (.site 7),none⟩,
 ⟨some 36,.bin .and (.t 33) (.t 35),none⟩,
 ⟨some 37,.iaddrA 4 1 (.t 7) (.c (.int .i64 0)),none⟩,
 ⟨some 38,.load false 1 (.t 37) (.site 7),none⟩,
 ⟨some 39,.bin .xor (.c (.int .u32 4294967295)) (.t 38),none⟩,
 ⟨some 40,.iaddrA 4 1 (.t 7) (.c (.int .i64 2)),none⟩,
 ⟨some 41,.load false 1 (.t 40) (.site 7),none⟩,
 ⟨some 42,.bin .and (.t 39) (.t 41),none⟩,
 ⟨some 43,.bin .xor (.t 36) (.t 42),none⟩,
 ⟨some 45,.mv false (.t 9),none⟩,
 ⟨some 47,.mv false (.t 8),none⟩,
 ⟨some 48,.iaddrA 64 1 (.t 5) (.t 47),none⟩,
 ⟨some 49,.load false 1 (.t 48) (.site 5),none⟩,
 ⟨some 30,.call (.c (.fn f_zz59)) [(.t 29),(.c (.int .i64 6)),(.c (.int .i64 11)),(.c (.int .i64 25))] 2,none⟩,
 ⟨some 31,.bin .add (.t 27) (.t 30),none⟩,
 ⟨some 44,.bin .add (.t 31) (.t 43),none⟩,
 ⟨some 46,.bin .add (.t 44) (.t 45),none⟩,
 ⟨some 50,.bin .add (.t 46) (.t 49),none⟩,
 ⟨some 10,.mv true (.t 50),none⟩]
abbrev zz34_r7:List AI:=[
 ⟨some 51,.iaddrA 4 1 (.t 6) (.c (.int .i64 0)),none⟩,
 ⟨some 52,.load false 1 (.t 51) (.site 6),none⟩,
 ⟨some 54,.iaddrA 4 1 (.t 6) (.c (.int .i64 0)),none⟩,
 ⟨some 55,.load false 1 (.t 54) (.site 6),none⟩,
 ⟨some 56,.iaddrA 4 1 (.t 6) (.c (.int .i64 1)),none⟩,
 ⟨some 57,.load false 1 (.t 56) (.site 6),none⟩,
 ⟨some 58,.bin .and (.t 55) (.t 57),none⟩,
 ⟨some 59,.iaddrA 4 1 (.t 6) (.c (.int .i64 0)),none⟩,
 ⟨some 60,.load false 1 (.t 59) (.site 6),none⟩,
 ⟨some 61,.iaddrA 4 1 (.t 6) (.c (.int .i64 2)),none⟩,
 ⟨some 62,.load false 1 (.t 61) (.site 6),none⟩,
 ⟨some 63,.bin .and (.t 60) (.t 62),none⟩,
 ⟨some 64,.bin .xor (.t 58) (.t 63),none⟩,
 ⟨some 65,.iaddrA 4 1 (.t 6) (.c (.int .i64 1)),none⟩,
 ⟨some 66,.load false 1 (.t 65) (.site 6),none⟩,
 ⟨some 67,.iaddrA 4 1 (.t 6) (.c (.int .i64 2)),none⟩,
 ⟨some 68,.load false 1 (.t 67) (.site 6),none⟩,
 ⟨some 69,.bin .and (.t 66) (.t 68),none⟩,
 ⟨some 70,.bin .xor (.t 64) (.t 69),none⟩,
 ⟨some 53,.call (.c (.fn f_zz59)) [(.t 52),(.c (.int .i64 2)),(.c (.int .i64 13)),(.c (.int .i64 22))] 2,none⟩,
 ⟨some 71,.bin .add (.t 53) (.t 70),none⟩,
 ⟨some 11,.mv true (.t 71),none⟩]
abbrev zz34_r8:List AI:=[
 ⟨some 72,.iaddrA 4 1 (.t 6) (.c (.int .i64 3)),none⟩,
 ⟨some 73,.load false 1 (.t 72) .any,none⟩,
 ⟨some 74,.mv false (.t 10),none⟩,
 ⟨some 75,.bin .add (.t 73) (.t 74),none⟩,
 ⟨some 76,.iaddrA 4 1 (.t 7) (.c (.int .i64 0)),none⟩,
 ⟨some 77,.load false 1 (.t 76) .any,none⟩,
 ⟨some 78,.iaddrA 4 1 (.t 7) (.c (.int .i64 1)),none⟩,
 ⟨some 79,.load false 1 (.t 78) .any,none⟩,
 ⟨some 80,.iaddrA 4 1 (.t 7) (.c (.int .i64 2)),none⟩,
 ⟨some 81,.load false 1 (.t 80) .any,none⟩,
 ⟨some 82,.build [(.int .u32 0),(.int .u32 0),(.int .u32 0),(.int .u32 0)] [(0,1,(.t 75)),(1,1,(.t 77)),(2,1,(.t 79)),(3,1,(.t 81))],none⟩,
 ⟨none,.store 4 (.t 7) (.t 82) .any,none⟩]
abbrev zz34_r9:List AI:=[
 ⟨some 83,.mv false (.t 10),none⟩,
 ⟨some 84,.mv false (.t 11),none⟩,
 ⟨some 85,.bin .add (.t 83) (.t 84),none⟩,
 ⟨some 86,.iaddrA 4 1 (.t 6) (.c (.int .i64 0)),none⟩,
 ⟨some 87,.load false 1 (.t 86) .any,none⟩,
 ⟨some 88,.iaddrA 4 1 (.t 6) (.c (.int .i64 1)),none⟩,
 ⟨some 89,.load false 1 (.t 88) .any,none⟩,
 ⟨some 90,.iaddrA 4 1 (.t 6) (.c (.int .i64 2)),none⟩,
 ⟨some 91,.load false 1 (.t 90) .any,none⟩,
 ⟨some 92,.build [(.int .u32 0),(.int .u32 0),(.int .u32 0),(.int .u32 0)] [(0,1,(.t 85)),(1,1,(.t 87)),(2,1,(.t 89)),(3,1,(.t 91))],none⟩,
 ⟨none,.store 4 (.t 6) (.t 92) .any,none⟩]
abbrev zz34_r10:List AI:=[
 ⟨some 93,.bin .add (.t 22) (.c (.int .i64 1)),none⟩,
 ⟨some 22,.mv false (.t 93),none⟩]
abbrev zz34_l0:ACode:=.seq (.reg false zz34_r4) (.seq (.cond (.t 23) (.skip) (.exit 0)) (.seq (.block 1 (.seq (.reg false zz34_r5) (.seq (.reg true zz34_r6) (.seq (.reg true zz34_r7) (.seq (.reg false zz34_r8) (.reg false zz34_r9)))))) (.reg false zz34_r10)))
abbrev zz34_r11:List AI:=[
 ⟨some 94,.mv false (.c (.int .i64 0)),none⟩]
abbrev zz34_r12:List AI:=[
 ⟨some 95,.bin .lss (.t 94) (.c (.int .i64 4)),none⟩]
abbrev zz34_r13:List AI:=[
 ⟨some 96,.mv false (.t 94),none⟩,
 ⟨some 12,.mv true (.t 96),none⟩]
abbrev zz34_r14:List AI:=[
 ⟨some 97,.mv false (.t 12),none⟩,
 ⟨some 98,.iaddrA 8 1 (.t 2) (.t 97),none⟩,
 ⟨some 99,.load false 1 (.t 98) .foreign,none⟩,
 ⟨some 100,.mv false (.t 12),none⟩,
 ⟨some 101,.iaddrA 4 1 (.t 6) (.t 100),none⟩,
 ⟨some 102,.load false 1 (.t 101) (.site 6),none⟩,
 ⟨some 103,.bin .add (.t 99) (.t 102),none⟩,
 ⟨some 104,.iaddrA 8 1 (.t 2) (.t 97),none⟩,
 ⟨none,.store 1 (.t 104) (.t 103) .gp,none⟩]
abbrev zz34_r15:List AI:=[
 ⟨some 105,.mv false (.t 12),none⟩,
 ⟨some 106,.bin .add (.t 105) (.c (.int .i64 4)),none⟩,
 ⟨some 107,.iaddrA 8 1 (.t 2) (.t 106),none⟩,
 ⟨some 108,.load false 1 (.t 107) .foreign,none⟩,
 ⟨some 109,.mv false (.t 12),none⟩,
 ⟨some 110,.iaddrA 4 1 (.t 7) (.t 109),none⟩,
 ⟨some 111,.load false 1 (.t 110) (.site 7),none⟩,
 ⟨some 112,.bin .add (.t 108) (.t 111),none⟩,
 ⟨some 113,.iaddrA 8 1 (.t 2) (.t 106),none⟩,
 ⟨none,.store 1 (.t 113) (.t 112) .gp,none⟩]
abbrev zz34_r16:List AI:=[
 ⟨some 114,.bin .add (.t 94) (.c (.int .i64 1)),none⟩,
 ⟨some 94,.mv false (.t 114),none⟩]
abbrev zz34_l1:ACode:=.seq (.reg false zz34_r12) (.seq (.cond (.t 95) (.skip) (.exit 2)) (.seq (.block 3 (.seq (.reg false zz34_r13) (.seq (.reg true zz34_r14) (.reg true zz34_r15)))) (.reg false zz34_r16)))
abbrev zz34_r17:List AI:=[
 ⟨some 115,.load true 8 (.t 2) .any,none⟩,
 ⟨none,.store 8 (.t 4) (.t 115) .any,none⟩]
abbrev zz34_c:ACode:=.seq (.reg false zz34_r0) (.seq (.reg false zz34_r1) (.seq (.reg true zz34_r2) (.seq (.seq (.reg false zz34_r3) (.block 0 (.loop zz34_l0))) (.seq (.seq (.reg false zz34_r11) (.block 2 (.loop zz34_l1))) (.seq (.reg false zz34_r17) (.ret))))))
def zz34_F:AFunc:=⟨116,[.cell 4 true 8],zz34_c⟩
theorem zz34_cp:compile Tryz.prog [2] f_zz34=some zz34_F:=by kernel_rfl
-- loop 0: [0, 3]
-- loop 1: [3, 4, 5]
abbrev zz14_r0:List AI:=[
 ⟨some 2,.mv true (.c .nilS),none⟩]
abbrev zz14_r1:List AI:=[
 ⟨some 6,.mkslice 1 0 (.int .u8 0) [],none⟩,
 ⟨some 7,.mv false (.t 0),none⟩,
 ⟨some 8,.append 1 1 (.t 6) (.t 7),none⟩,
 ⟨some 3,.mv true (.t 8),none⟩]
abbrev zz14_r2:List AI:=[
 ⟨some 9,.mv true (.t 3),none⟩,
 ⟨some 10,.mkslice 1 1 (.int .u8 0) [(0,(.c (.int .u8 128)))],none⟩,
 ⟨some 11,.append 1 1 (.t 9) (.t 10),none⟩,
 ⟨some 3,.mv true (.t 11),none⟩]
abbrev zz14_r3:List AI:=[
 ⟨some 12,.mv false (.t 3),none⟩,
 ⟨some 13,.len false (.t 12),none⟩,
 ⟨some 14,.bin .rem (.t 13) (.c (.int .i64 64)),none⟩,
 ⟨some 15,.bin .neq (.t 14) (.c (.int .i64 56)),none⟩]
abbrev zz14_r4:List AI:=[
 ⟨some 16,.mv true (.t 3),none⟩,
 ⟨some 17,.mkslice 1 1 (.int .u8 0) [(0,(.c (.int .u8 0)))],none⟩,
 ⟨some 18,.append 1 1 (.t 16) (.t 17),none⟩,
 ⟨some 3,.mv true (.t 18),none⟩]
abbrev zz14_l0:ACode:=.seq (.seq (.reg false zz14_r3) (.cond (.t 15) (.skip) (.exit 0))) (.block 1 (.reg false zz14_r4))
abbrev zz14_r5:List AI:=[
 ⟨some 19,.mv false (.t 0),none⟩,
 ⟨some 20,.len false (.t 19),none⟩,
 ⟨some 21,.conv .u64 (.t 20),none⟩,
 ⟨some 22,.bin .mul (.c (.int .u64 8)) (.t 21),none⟩,
 ⟨some 4,.mv true (.t 22),none⟩]
abbrev zz14_r6:List AI:=[
 ⟨some 5,.mv true (.c (.int .i64 0)),none⟩]
abbrev zz14_r7:List AI:=[
 ⟨some 23,.mv false (.t 5),none⟩,
 ⟨some 24,.bin .lss (.t 23) (.c (.int .i64 8)),none⟩]
abbrev zz14_r8:List AI:=[
 ⟨some 27,.mv true (.t 3),none⟩,
 ⟨some 28,.mv false (.t 4),none⟩,
 ⟨some 29,.mv false (.t 5),none⟩,
 ⟨some 30,.bin .mul (.c (.int .i64 8)) (.t 29),none⟩,
 ⟨some 31,.bin .sub (.c (.int .i64 56)) (.t 30),none⟩,
 ⟨some 32,.bin .shr (.t 28) (.t 31),none⟩,
 ⟨some 33,.conv .u8 (.t 32),none⟩,
 ⟨some 34,.mkslice 1 1 (.int .u8 0) [(0,(.t 33))],none⟩,
 ⟨some 35,.append 1 1 (.t 27) (.t 34),none⟩,
 ⟨some 3,.mv true (.t 35),none⟩]
abbrev zz14_r9:List AI:=[
 ⟨some 25,.mv false (.t 5),none⟩,
 ⟨some 26,.bin .add (.t 25) (.c (.int .i64 1)),none⟩,
 ⟨some 5,.mv true (.t 26),none⟩]
abbrev zz14_l1:ACode:=.seq (.seq (.reg false zz14_r7) (.cond (.t 24) (.skip) (.exit 2))) (.seq (.block 3 (.reg false zz14_r8)) (.reg false zz14_r9))
abbrev zz14_r10:List AI:=[
 ⟨some 36,.mv false (.t 3),none⟩,
 ⟨some 2,.mv true (.t 36),none⟩]
abbrev zz14_c:ACode:=.seq (.reg false zz14_r0) (.seq (.reg false zz14_r1) (.seq (.reg false zz14_r2) (.seq (.block 0 (.loop zz14_l0)) (.seq (.reg false zz14_r5) (.seq (.seq (.reg false zz14_r6) (.block 2 (.loop zz14_l1))) (.seq (.reg false zz14_r10) (.ret)))))))
def zz14_F:AFunc:=⟨37,[.tmp 2],zz14_c⟩
theorem zz14_cp:compile Tryz.prog [] f_zz14=some zz14_F:=by kernel_rfl
-- loop 0: [0, 2, 3, 4]
-- loop 1: [2, 3, 5]
abbrev zz19_r0:List AI:=[
 ⟨some 2,.alloc (zr 64 (.int .u32 0)),none⟩]
abbrev zz19_r1:List AI:=[
 ⟨some 3,.alloc (zr 64 (.int .u32 0)),none⟩]
abbrev zz19_r2:List AI:=[
 ⟨some 4,.mv true (.c (.int .i64 0)),none⟩]
abbrev zz19_r3:List AI:=[
 ⟨some 8,.mv false (.t 4),none⟩,
 ⟨some 9,.bin .lss (.t 8) (.c (.int .i64 16)),none⟩]
abbrev zz19_r4:List AI:=[
 ⟨some 12,.mv false (.t 4),none⟩,
 ⟨some 13,.mv false (.t 0),none⟩,
 ⟨some 14,.mv false (.t 4),none⟩,
 ⟨some 15,.bin .mul (.c (.int .i64 4)) (.t 14),none⟩,
 ⟨some 16,.iaddr 1 (.t 13) (.t 15),none⟩,
 ⟨some 17,.load false 1 (.t 16) .foreign,none⟩,
 ⟨some 18,.conv .u32 (.t 17),none⟩,
 ⟨some 19,.bin .shl (.t 18) (.c (.int .u64 24)),none⟩,
 ⟨some 20,.mv false (.t 0),none⟩,
 ⟨some 21,.mv false (.t 4),none⟩,
 ⟨some 22,.bin .mul (.c (.int .i64 4)) (.t 21),none⟩,
 ⟨some 23,.bin .add (.t 22) (.c (.int .i64 1)),none⟩,
 ⟨some 24,.iaddr 1 (.t 20) (.t 23),none⟩,
 ⟨some 25,.load false 1 (.t 24) .foreign,none⟩,
 ⟨some 26,.conv .u32 (.t 25),none⟩,
 ⟨some 27,.bin .shl (.t 26) (.c (.int .u64 16)),none⟩,
 ⟨some 28,.bin .or (.t 19) (.t 27),none⟩,
 ⟨some 29,.mv false (.t 0),none⟩,
 ⟨some 30,.mv false (.t 4),none⟩,
 ⟨some 31,.bin .mul (.c (.int .i64 4)) (.t 30),none⟩,
 ⟨some 32,.bin .add (.t 31) (.c (.int .i64 2)),none⟩,
 ⟨some 33,.iaddr 1 (.t 29) (.t 32),none⟩,
 ⟨some 34,.load false 1 (.t 33) .foreign,none⟩,
 ⟨some 35,.conv .u32 (.t 34),none⟩,
 ⟨some 36,.bin .shl (.t 35) (.c (.int .u64 8)),none⟩,
 ⟨some 37,.bin .or (.t 28) (.t 36),none⟩,
 ⟨some 38,.mv false (.t 0),none⟩,
 ⟨some 39,.mv false (.t 4),none⟩,
 ⟨some 40,.bin .mul (.c (.int .i64 4)) (.t 39),none⟩,
 ⟨some 41,.bin .add (.t 40) (.c (.int .i64 3)),none⟩,
 ⟨some 42,.iaddr 1 (.t 38) (.t 41),none⟩,
 ⟨some 43,.load false 1 (.t 42) .foreign,none⟩,
 ⟨some 44,.conv .u32 (.t 43),none⟩,
 ⟨some 45,.bin .or (.t 37) (.t 44),none⟩,
 ⟨some 46,.iaddrA 64 1 (.t 3) (.t 12),none⟩,
 ⟨none,.store 1 (.t 46) (.t 45) (.site 3),none⟩]
abbrev zz19_r5:List AI:=[
 ⟨some 10,.mv false (.t 4),none⟩,
 ⟨some 11,.bin .add (.t 10) (.c (.int .i64 1)),none⟩,
 ⟨some 4,.mv true (.t 11),none⟩]
abbrev zz19_l0:ACode:=.seq (.seq (.reg false zz19_r3) (.cond (.t 9) (.skip) (.exit 0))) (.seq (.block 1 (.reg true zz19_r4)) (.reg false zz19_r5))
abbrev zz19_r6:List AI:=[
 ⟨some 5,.mv true (.c (.int .i64 16)),none⟩]
abbrev zz19_r7:List AI:=[
 ⟨some 47,.mv false (.t 5),none⟩,
 ⟨some 48,.bin .lss (.t 47) (.c (.int .i64 64)),none⟩]
abbrev zz19_r8:List AI:=[
 ⟨some 51,.mv false (.t 5),none⟩,
 ⟨some 52,.bin .sub (.t 51) (.c (.int .i64 15)),none⟩,
 ⟨some 53,.iaddrA 64 1 (.t 3) (.t 52),none⟩,
 ⟨some 54,.load false 1 (.t 53) (.site 3),none⟩,
 ⟨some 56,.mv false (.t 5),none⟩,
 ⟨some 57,.bin .sub (.t 56) (.c (.int .i64 15)),none⟩,
 ⟨some 58,.iaddrA 64 1 (.t 3) (.t 57),none⟩,
 ⟨some 59,.load false 1 (.t 58) (.site 3),none⟩,
 ⟨some 62,.mv false (.t 5),none⟩,
 ⟨some 63,.bin .sub (.t 62) (.c (.int .i64 15)),none⟩,
 ⟨some 64,.iaddrA 64 1 (.t 3) (.t 63),none⟩,
 ⟨some 65,.load false 1 (.t 64) (.site 3),none⟩,
 ⟨some 66,.bin .shr (.t 65) (.c (.int .u64 3)),none⟩,
 ⟨some 55,.call (.c (.fn f_zz22)) [(.t 54),(.c (.int .i64 7))] 2,none⟩,
 ⟨some 60,.call (.c (.fn f_zz22)) [(.t 59),(.c (.int .i64 18))] 2,none⟩,
 ⟨some 61,.bin .xor (.t 55) (.t 60),none⟩,
 ⟨some 67,.bin .xor (.t 61) (.t 66),none⟩,
 ⟨some 6,.mv true (.t 67),none⟩]
abbrev zz19_r9:List AI:=[
 ⟨some 68,.mv false (.t 5),none⟩,
 ⟨some 69,.bin .sub (.t 68) (.c (.int .i64 2)),none⟩,
 ⟨some 70,.iaddrA 64 1 (.t 3) (.t 69),none⟩,
 ⟨some 71,.load false 1 (.t 70) (.site 3),none⟩,
 ⟨some 73,.mv false (.t 5),none⟩,
 ⟨some 74,.bin .sub (.t 73) (.c (.int .i64 2)),none⟩,
 ⟨some 75,.iaddrA 64 1 (.t 3) (.t 74),none⟩,
 ⟨some 76,.load false 1 (.t 75) (.site 3),none⟩,
 ⟨some 79,.mv false (.t 5),none⟩,
 ⟨some 80,.bin .sub (.t 79) (.c (.int .i64 2)),none⟩,
 ⟨some 81,.iaddrA 64 1 (.t 3) (.t 80),none⟩,
 ⟨some 82,.load false 1 (.t 81) (.site 3),none⟩,
 ⟨some 83,.bin .shr (.t 82) (.c (.int .u64 10)),none⟩,
 ⟨some 72,.call (.c (.fn f_zz22)) [(.t 71),(.c (.int .i64 17))] 2,none⟩,
 ⟨some 77,.call (.c (.fn f_zz22)) [(.t 76),(.c (.int .i64 19))] 2,none⟩,
 ⟨some 78,.bin .xor (.t 72) (.t 77),none⟩,
 ⟨some 84,.bin .xor (.t 78) (.t 83),none⟩,
 ⟨some 7,.mv true (.t 84),none⟩]
abbrev zz19_r10:List AI:=[
 ⟨some 85,.mv false (.t 5),none⟩,
 ⟨some 86,.mv false (.t 5),none⟩,
 ⟨some 87,.bin .sub (.t 86) (.c (.int .i64 16)),none⟩,
 ⟨some 88,.iaddrA 64 1 (.t 3) (.t 87),none⟩,
 ⟨some 89,.load false 1 (.t 88) (.site 3),none⟩,
 ⟨some 90,.mv false (.t 6),none⟩,
 ⟨some 91,.bin .add (.t 89) (.t 90),none⟩,
 ⟨some 92,.mv false (.t 5),none⟩,
 ⟨some 93,.bin .sub (.t 92) (.c (.int .i64 7)),none⟩,
 ⟨some 94,.iaddrA 64 1 (.t 3) (.t 93),none⟩,
 ⟨some 95,.load false 1 (.t 94) (.site 3),none⟩,
 ⟨some 96,.bin .add (.t 91) (.t 95),none⟩,
 ⟨some 97,.mv false (.t 7),none⟩,
 ⟨some 98,.bin .add (.t 96) (.t 97),none⟩,
 ⟨some 99,.iaddrA 64 1 (.t 3) (.t 85),none⟩,
 ⟨none,.store 1 (.t 99) (.t 98) (.site 3),none⟩]
abbrev zz19_r11:List AI:=[
 ⟨some 49,.mv false (.t 5),none⟩,
 ⟨some 50,.bin .add (.t 49) (.c (.int .i64 1)),none⟩,
 ⟨some 5,.mv true (.t 50),none⟩]
abbrev zz19_l1:ACode:=.seq (.seq (.reg false zz19_r7) (.cond (.t 48) (.skip) (.exit 2))) (.seq (.block 3 (.seq (.reg true zz19_r8) (.seq (.reg true zz19_r9) (.reg true zz19_r10)))) (.reg false zz19_r11))
abbrev zz19_r12:List AI:=[
 ⟨some 100,.load true 64 (.t 3) .any,none⟩,
 ⟨none,.store 64 (.t 2) (.t 100) .any,none⟩]
abbrev zz19_c:ACode:=.seq (.reg false zz19_r0) (.seq (.reg false zz19_r1) (.seq (.seq (.reg false zz19_r2) (.block 0 (.loop zz19_l0))) (.seq (.seq (.reg false zz19_r6) (.block 2 (.loop zz19_l1))) (.seq (.reg false zz19_r12) (.ret)))))
def zz19_F:AFunc:=⟨101,[.cell 2 true 64],zz19_c⟩
theorem zz19_cp:compile Tryz.prog [] f_zz19=some zz19_F:=by kernel_rfl
abbrev zz22_r0:List AI:=[
 ⟨some 4,.mv true (.c (.int .u32 0)),none⟩]
abbrev zz22_r1:List AI:=[
 ⟨some 5,.mv false (.t 0),none⟩,
 ⟨some 6,.mv false (.t 1),none⟩,
 ⟨some 7,.bin .shr (.t 5) (.t 6),none⟩,
 ⟨some 8,.mv false (.t 0),none⟩,
 ⟨some 9,.mv false (.t 1),none⟩,
 ⟨some 10,.bin .sub (.c (.int .i64 32)) (.t 9),none⟩,
 ⟨some 11,.bin .shl (.t 8) (.t 10),none⟩,
 ⟨some 12,.bin .or (.t 7) (.t 11),none⟩,
 ⟨some 4,.mv true (.t 12),none⟩]
abbrev zz22_c:ACode:=.seq (.reg false zz22_r0) (.seq (.reg true zz22_r1) (.ret))
def zz22_F:AFunc:=⟨13,[.tmp 4],zz22_c⟩
theorem zz22_cp:compile Tryz.prog [] f_zz22=some zz22_F:=by kernel_rfl
-- loop 0: [0, 2, 3, 4, 11, 22, 23, 24]
-- loop 1: [0, 2, 3, 11]
abbrev zz35_r0:List AI:=[
 ⟨some 2,.alloc (zr 64 (.int .u32 0)),none⟩]
abbrev zz35_r1:List AI:=[
 ⟨some 3,.alloc (zr 64 (.int .u32 0)),none⟩]
abbrev zz35_r2:List AI:=[
 ⟨some 11,.mv false (.c (.int .i64 0)),none⟩]
abbrev zz35_r3:List AI:=[
 ⟨some 12,.bin .lss (.t 11) (.c (.int .i64 64)),none⟩]
abbrev zz35_r4:List AI:=[
 ⟨some 13,.mv false (.t 11),none⟩,
 ⟨some 4,.mv true (.t 13),none⟩]
abbrev zz35_r5:List AI:=[
 ⟨some 14,.mv false (.t 4),none⟩,
 ⟨some 15,.bin .lss (.t 14) (.c (.int .i64 16)),none⟩]
abbrev zz35_r6:List AI:=[
 ⟨some 16,.mv false (.t 0),none⟩,
 ⟨some 17,.mv false (.t 4),none⟩,
 ⟨some 18,.bin .mul (.c (.int .i64 4)) (.t 17),none⟩,
 ⟨some 19,.mv false (.t 4),none⟩,
 ⟨some 20,.bin .mul (.c (.int .i64 4)) (.t 19),none⟩,
 ⟨some 21,.bin .add (.t 20) (.c (.int .i64 4)),none⟩,
 ⟨some 22,.sl 1 (.t 16) (some (.t 18)) (some (.t 21)),none⟩,
 ⟨some 23,.len false (.t 22),none⟩,
 ⟨some 24,.mv false (.c (.int .i64 0)),none⟩]
abbrev zz35_r7:List AI:=[
 ⟨some 25,.bin .lss (.t 24) (.t 23),none⟩]
abbrev zz35_r8:List AI:=[
 ⟨some 26,.iaddr 1 (.t 22) (.t 24),none⟩,
 ⟨some 27,.load false 1 (.t 26) .any,none⟩,
 ⟨some 6,.mv true (.t 27),none⟩]
abbrev zz35_r9:List AI:=[
 ⟨some 28,.mv false (.t 4),none⟩,
 ⟨some 29,.mv false (.t 4),none⟩,
 ⟨some 30,.iaddrA 64 1 (.t 3) (.t 29),none⟩,
 ⟨some 31,.load false 1 (.t 30) .any,none⟩,
 ⟨some 32,.bin .shl (.t 31) (.c (.int .u64 8)),none⟩,
 ⟨some 33,.mv false (.t 6),none⟩,
 ⟨some 34,.conv .u32 (.t 33),none⟩,
 ⟨some 35,.bin .or (.t 32) (.t 34),none⟩,
 ⟨some 36,.iaddrA 64 1 (.t 3) (.t 28),none⟩,
 ⟨none,.store 1 (.t 36) (.t 35) .any,none⟩]
abbrev zz35_r10:List AI:=[
 ⟨some 37,.bin .add (.t 24) (.c (.int .i64 1)),none⟩,
 ⟨some 24,.mv false (.t 37),none⟩]
abbrev zz35_l0:ACode:=.seq (.reg false zz35_r7) (.seq (.cond (.t 25) (.skip) (.exit 2)) (.seq (.block 3 (.seq (.reg false zz35_r8) (.reg false zz35_r9))) (.reg false zz35_r10)))
abbrev zz35_b0:ACode:=.seq (.seq (.reg false zz35_r6) (.block 2 (.loop zz35_l0))) (.exit 1)
abbrev zz35_r11:List AI:=[
 ⟨some 38,.mv false (.t 4),none⟩,
 ⟨some 39,.bin .sub (.t 38) (.c (.int .i64 15)),none⟩,
 ⟨some 40,.iaddrA 64 1 (.t 3) (.t 39),none⟩,
 ⟨some 41,.load false 1 (.t 40) (.site 3),none⟩,
 ⟨some 42,.mv false (.t 4),none⟩,
 ⟨some 43,.bin .sub (.t 42) (.c (.int .i64 2)),none⟩,
 ⟨some 44,.iaddrA 64 1 (.t 3) (.t 43),none⟩,
 ⟨some 45,.load false 1 (.t 44) (.site 3),none⟩,
 ⟨some 7,.mv true (.t 41),none⟩,
 ⟨some 8,.mv true (.t 45),none⟩]
abbrev zz35_r12:List AI:=[
 ⟨some 46,.mv false (.t 7),none⟩,
 ⟨some 47,.call (.c (.fn f_zz9)) [(.t 46),(.c (.int .i64 (-7)))] 0,none⟩,
 ⟨some 48,.mv false (.t 7),none⟩,
 ⟨some 49,.call (.c (.fn f_zz9)) [(.t 48),(.c (.int .i64 (-18)))] 0,none⟩,
 ⟨some 50,.bin .xor (.t 47) (.t 49),none⟩,
 ⟨some 51,.mv false (.t 7),none⟩,
 ⟨some 52,.bin .shr (.t 51) (.c (.int .u64 3)),none⟩,
 ⟨some 53,.bin .xor (.t 50) (.t 52),none⟩,
 ⟨some 9,.mv true (.t 53),none⟩]
abbrev zz35_r13:List AI:=[
 ⟨some 54,.mv false (.t 8),none⟩,
 ⟨some 55,.call (.c (.fn f_zz9)) [(.t 54),(.c (.int .i64 (-17)))] 0,none⟩,
 ⟨some 56,.mv false (.t 8),none⟩,
 ⟨some 57,.call (.c (.fn f_zz9)) [(.t 56),(.c (.int .i64 (-19)))] 0,none⟩,
 ⟨some 58,.bin .xor (.t 55) (.t 57),none⟩,
 ⟨some 59,.mv false (.t 8),none⟩,
 ⟨some 60,.bin .shr (.t 59) (.c (.int .u64 10)),none⟩,
 ⟨some 61,.bin .xor (.t 58) (.t 60),none⟩,
 ⟨some 10,.mv true (.t 61),none⟩]
abbrev zz35_r14:List AI:=[
 ⟨some 62,.mv false (.t 4),none⟩,
 ⟨some 63,.mv false (.t 4),none⟩,
 ⟨some 64,.bin .sub (.t 63) (.c (.int .i64 16)),none⟩,
 ⟨some 65,.iaddrA 64 1 (.t 3) (.t 64),none⟩,
 ⟨some 66,.load false 1 (.t 65) (.site 3),none⟩,
 ⟨some 67,.mv false (.t 9),none⟩,
 ⟨some 68,.bin .add (.t 66) (.t 67),none⟩,
 ⟨some 69,.mv false (.t 4),none⟩,
 ⟨some 70,.bin .sub (.t 69) (.c (.int .i64 7)),none⟩,
 ⟨some 71,.iaddrA 64 1 (.t 3) (.t 70),none⟩,
 ⟨some 72,.load false 1 (.t 71) (.site 3),none⟩,
 ⟨some 73,.bin .add (.t 68) (.t 72),none⟩,
 ⟨some 74,.mv false (.t 10),none⟩,
 ⟨some 75,.bin .add (.t 73) (.t 74),none⟩,
 ⟨some 76,.iaddrA 64 1 (.t 3) (.t 62),none⟩,
 ⟨none,.store 1 (.t 76) (.t 75) (.site 3),none⟩]
abbrev zz35_r15:List AI:=[
 ⟨some 77,.bin .add (.t 11) (.c (.int .i64 1)),none⟩,
 ⟨some 11,.mv false (.t 77),none⟩]
abbrev zz35_l1:ACode:=.seq (.reg false zz35_r3) (.seq (.cond (.t 12) (.skip) (.exit 0)) (.seq (.block 1 (.seq (.reg false zz35_r4) (.seq (.seq (.reg false zz35_r5) (.cond (.t 15) (zz35_b0) (.skip))) (.seq (.reg true zz35_r11) (.seq (.reg false zz35_r12) (.seq (.reg false zz35_r13) (.reg true zz35_r14))))))) (.reg false zz35_r15)))
abbrev zz35_r16:List AI:=[
 ⟨some 78,.load true 64 (.t 3) .any,none⟩,
 ⟨none,.store 64 (.t 2) (.t 78) .any,none⟩]
abbrev zz35_c:ACode:=.seq (.reg false zz35_r0) (.seq (.reg false zz35_r1) (.seq (.seq (.reg false zz35_r2) (.block 0 (.loop zz35_l1))) (.seq (.reg false zz35_r16) (.ret))))
def zz35_F:AFunc:=⟨79,[.cell 2 true 64],zz35_c⟩
theorem zz35_cp:compile Tryz.prog [] f_zz35=some zz35_F:=by kernel_rfl
abbrev zz59_r0:List AI:=[
 ⟨some 8,.mv true (.c (.int .u32 0)),none⟩]
abbrev zz59_r1:List AI:=[
 ⟨some 9,.mv false (.t 0),none⟩,
 ⟨some 10,.mv false (.t 1),none⟩,
 ⟨some 11,.neg (.t 10),none⟩,
 ⟨some 12,.call (.c (.fn f_zz9)) [(.t 9),(.t 11)] 0,none⟩,
 ⟨some 13,.mv false (.t 0),none⟩,
 ⟨some 14,.mv false (.t 2),none⟩,
 ⟨some 15,.neg (.t 14),none⟩,
 ⟨some 16,.call (.c (.fn f_zz9)) [(.t 13),(.t 15)] 0,none⟩,
 ⟨some 17,.bin .xor (.t 12) (.t 16),none⟩,
 ⟨some 18,.mv false (.t 0),none⟩,
 ⟨some 19,.mv false (.t 3),none⟩,
 ⟨some 20,.neg (.t 19),none⟩,
 ⟨some 21,.call (.c (.fn f_zz9)) [(.t 18),(.t 20)] 0,none⟩,
 ⟨some 22,.bin .xor (.t 17) (.t 21),none⟩,
 ⟨some 8,.mv true (.t 22),none⟩]
abbrev zz59_c:ACode:=.seq (.reg false zz59_r0) (.seq (.reg false zz59_r1) (.ret))
def zz59_F:AFunc:=⟨23,[.tmp 8],zz59_c⟩
theorem zz59_cp:compile Tryz.prog [] f_zz59=some zz59_F:=by kernel_rfl
abbrev zz9_r0:List AI:=[
 ⟨some 4,.mv true (.c (.int .u32 0)),none⟩]
abbrev zz9_r1:List AI:=[
 ⟨some 6,.mv false (.t 1),none⟩,
 ⟨some 7,.conv .u64 (.t 6),none⟩,
 ⟨some 8,.bin .and (.t 7) (.c (.int .u64 31)),none⟩,
 ⟨some 5,.mv true (.t 8),none⟩]
abbrev zz9_r2:List AI:=[
 ⟨some 9,.mv false (.t 0),none⟩,
 ⟨some 10,.mv false (.t 5),none⟩,
 ⟨some 11,.bin .shl (.t 9) (.t 10),none⟩,
 ⟨some 12,.mv false (.t 0),none⟩,
 ⟨some 13,.mv false (.t 5),none⟩,
 ⟨some 14,.bin .sub (.c (.int .u64 32)) (.t 13),none⟩,
 ⟨some 15,.bin .shr (.t 12) (.t 14),none⟩,
 ⟨some 16,.bin .or (.t 11) (.t 15),none⟩,
 ⟨some 4,.mv true (.t 16),none⟩]
abbrev zz9_c:ACode:=.seq (.reg false zz9_r0) (.seq (.reg false zz9_r1) (.seq (.reg false zz9_r2) (.ret)))
def zz9_F:AFunc:=⟨17,[.tmp 4],zz9_c⟩
theorem zz9_cp:compile Tryz.prog [] f_zz9=some zz9_F:=by kernel_rfl
theorem fol:Tryz.prog.follows .mixedOrders=true:=by kernel_rfl
end
end Go.Proofs.YtclmdhceceacoaaGreatDoor
