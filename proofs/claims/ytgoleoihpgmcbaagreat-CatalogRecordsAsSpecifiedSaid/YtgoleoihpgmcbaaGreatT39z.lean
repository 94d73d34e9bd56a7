/-
 The functions' code in the evaluator's form,printed by a program of ours from the loaded program,and checked against it.
 Conditions: none.
-/
import Derived.Test.YtgoleoihpgmcbaaGreatProg
import Derived.KernelRfl
import Derived.Test.YtgoleoihpgmcbaaGreatEZ
namespace Go.Proofs.YtgoleoihpgmcbaaGreat
open Go Go.E2
noncomputable section
abbrev f_zz7:FuncId:=3
abbrev f_zz22:FuncId:=4
abbrev f_zz60:FuncId:=5
abbrev f_zz25:FuncId:=6
abbrev f_zz61:FuncId:=7
abbrev f_zz65:FuncId:=8
abbrev f_zz27:FuncId:=9
abbrev f_zz26:FuncId:=10
abbrev f_zz41:FuncId:=11
abbrev f_zz38:FuncId:=12
abbrev f_zz50:FuncId:=13
abbrev f_zz83:FuncId:=14
abbrev f_zz84:FuncId:=15
abbrev f_zz95:FuncId:=16
abbrev f_zz62:FuncId:=17
abbrev f_zz63:FuncId:=18
abbrev f_zz19:FuncId:=19
abbrev f_zz90:FuncId:=20
abbrev f_zz81:FuncId:=21
abbrev f_zz21:FuncId:=22
abbrev f_zz20:FuncId:=23
abbrev f_zz98:FuncId:=24
abbrev f_zz97:FuncId:=25
abbrev f_zz59:FuncId:=26
abbrev f_zz39:FuncId:=27
abbrev f_zz33:FuncId:=28
abbrev f_zz74:FuncId:=29
abbrev f_zz3:FuncId:=30
abbrev f_zz16:FuncId:=31
abbrev f_zz87:FuncId:=32
abbrev f_zz64:FuncId:=33
abbrev f_zz45:FuncId:=34
abbrev f_zz31:FuncId:=35
abbrev f_zz102:FuncId:=36
abbrev f_zz69:FuncId:=37
abbrev f_zz0:FuncId:=38
abbrev f_zz76:FuncId:=39
abbrev f_zz78:FuncId:=40
abbrev f_zz75:FuncId:=41
abbrev f_zz91:FuncId:=42
abbrev f_zz93:FuncId:=43
abbrev f_zz94:FuncId:=44
abbrev f_zz24:FuncId:=45
abbrev f_zz23:FuncId:=46
abbrev f_zz82:FuncId:=47
abbrev f_zz101:FuncId:=48
abbrev f_zz34:FuncId:=49
abbrev f_zz40:FuncId:=50
abbrev f_zz52:FuncId:=51
abbrev f_zz36:FuncId:=52
abbrev f_zz53:FuncId:=53
abbrev f_zz30:FuncId:=54
abbrev f_zz42:FuncId:=55
abbrev f_zz51:FuncId:=56
abbrev f_zz73:FuncId:=57
abbrev f_zz68:FuncId:=58
abbrev f_zz86:FuncId:=59
abbrev f_zz54:FuncId:=60
abbrev f_zz55:FuncId:=61
abbrev f_zz2:FuncId:=62
abbrev f_zz70:FuncId:=63
abbrev f_zz13:FuncId:=64
abbrev f_zz89:FuncId:=65
abbrev f_zz92:FuncId:=66
abbrev f_zz85:FuncId:=67
abbrev f_zz67:FuncId:=68
abbrev f_zz66:FuncId:=69
abbrev f_zz88:FuncId:=70
abbrev f_zz72:FuncId:=71
abbrev f_zz100:FuncId:=72
abbrev f_zz99:FuncId:=73
abbrev f_zz48:FuncId:=74
abbrev f_zz96:FuncId:=75
abbrev f_zz32:FuncId:=76
abbrev f_zz58:FuncId:=77
abbrev f_zz6:FuncId:=78
abbrev f_zz8:FuncId:=79
abbrev f_zz29:FuncId:=80
abbrev f_zz43:FuncId:=81
abbrev f_zz35:FuncId:=82
abbrev f_zz44:FuncId:=83
abbrev f_zz79:FuncId:=84
abbrev f_zz71:FuncId:=85
abbrev f_zz77:FuncId:=86
abbrev f_zz5:FuncId:=87
abbrev f_zz47:FuncId:=88
abbrev f_zz46:FuncId:=89
abbrev f_zz56:FuncId:=90
abbrev f_zz10:FuncId:=91
abbrev f_zz11:FuncId:=92
abbrev f_zz9:FuncId:=93
abbrev f_zz49:FuncId:=94
abbrev f_zz80:FuncId:=95
abbrev f_zz15:FuncId:=96
abbrev f_zz12:FuncId:=97
abbrev f_zz28:FuncId:=98
abbrev f_zz18:FuncId:=99
abbrev f_zz57:FuncId:=100
abbrev f_zz1:FuncId:=101
abbrev f_zz37:FuncId:=102
abbrev f_zz17:FuncId:=103
abbrev f_zz14:FuncId:=104
abbrev zz22_r0:List AI:=[
 ⟨some 0,.mv true (.c (.bool false)),none⟩]
abbrev zz22_r1:List AI:=[
 ⟨some 32,.build [(.int .i64 0),.nilS,.nilS] [],none⟩,
 ⟨some 33,.call (.c (.fn f_zz50)) [(.c (.str [97])),(.c (.int .i64 1)),(.c (.int .i64 9))] 0,none⟩,
 ⟨some 34,.call (.c (.fn f_zz50)) [(.c (.str [97])),(.c (.int .i64 2)),(.c (.int .i64 5))] 0,none⟩,
 ⟨some 35,.build [(.int .i64 0),(.int .i64 0),(.int .i64 0),(.int .i64 0),(.int .i64 0),(.int .i64 0),(.str [])] [(0,1,(.c (.int .i64 6))),(5,1,(.c (.int .i64 7)))],none⟩,
 ⟨some 36,.mkslice 7 3 (.agg [(.int .i64 0),(.int .i64 0),(.int .i64 0),(.int .i64 0),(.int .i64 0),(.int .i64 0),(.str [])]) [(0,(.t 33)),(1,(.t 34)),(2,(.t 35))],none⟩,
 ⟨some 37,.call (.c (.fn f_zz38)) [(.t 32),(.t 36)] 0,none⟩,
 ⟨some 31,.mv false (.t 37),none⟩,
 ⟨some 38,.ext (.t 31) 0,none⟩,
 ⟨some 39,.ext (.t 31) 1,none⟩,
 ⟨some 1,.alloc [(.int .i64 0),.nilS,.nilS],none⟩,
 ⟨none,.store 3 (.t 1) (.t 38) .any,none⟩,
 ⟨some 2,.mv true (.t 39),none⟩]
abbrev zz22_r2:List AI:=[
 ⟨some 41,.load true 3 (.t 1) (.site 1),none⟩,
 ⟨some 42,.build [(.int .i64 0),(.int .i64 0),(.int .i64 0),(.int .i64 0),(.int .i64 0),(.int .i64 0),(.str [])] [(0,1,(.c (.int .i64 1))),(1,1,(.c (.int .i64 6)))],none⟩,
 ⟨some 3,.alloc [(.int .i64 0),.nilS,.nilS],none⟩,
 ⟨some 43,.call (.c (.fn f_zz50)) [(.c (.str [97])),(.c (.int .i64 3)),(.c (.int .i64 9))] 2,none⟩,
 ⟨some 44,.mkslice 7 2 (.agg [(.int .i64 0),(.int .i64 0),(.int .i64 0),(.int .i64 0),(.int .i64 0),(.int .i64 0),(.str [])]) [(0,(.t 42)),(1,(.t 43))],none⟩,
 ⟨some 45,.call (.c (.fn f_zz38)) [(.t 41),(.t 44)] 2,none⟩,
 ⟨some 40,.mv false (.t 45),none⟩,
 ⟨some 46,.ext (.t 40) 0,none⟩,
 ⟨some 47,.ext (.t 40) 1,none⟩,
 ⟨none,.store 3 (.t 3) (.t 46) (.site 3),none⟩,
 ⟨some 4,.mv true (.t 47),none⟩]
abbrev zz22_r3:List AI:=[
 ⟨some 48,.mv false (.t 2),none⟩,
 ⟨some 49,.not (.t 48),none⟩,
 ⟨some 50,.mv false (.t 49),none⟩,
 ⟨some 51,.mv false (.t 4),some (50,false)⟩,
 ⟨some 52,.not (.t 51),some (50,false)⟩,
 ⟨some 53,.pick (.t 50) (.c (.bool true)) (.t 52),none⟩,
 ⟨some 54,.mv false (.t 53),none⟩,
 ⟨some 55,.faddr 1 (.t 1),some (54,false)⟩,
 ⟨some 56,.load false 1 (.t 55) .any,some (54,false)⟩,
 ⟨some 57,.len false (.t 56),some (54,false)⟩,
 ⟨some 58,.bin .neq (.t 57) (.c (.int .i64 2)),some (54,false)⟩,
 ⟨some 59,.pick (.t 54) (.c (.bool true)) (.t 58),none⟩,
 ⟨some 60,.mv false (.t 59),none⟩,
 ⟨some 61,.faddr 1 (.t 1),some (60,false)⟩,
 ⟨some 62,.load false 1 (.t 61) .any,some (60,false)⟩,
 ⟨some 63,.iaddr 4 (.t 62) (.c (.int .i64 1)),some (60,false)⟩,
 ⟨some 64,.faddr 1 (.t 63),some (60,false)⟩,
 ⟨some 65,.load false 1 (.t 64) .any,some (60,false)⟩,
 ⟨some 66,.bin .neq (.t 65) (.c (.int .i64 2)),some (60,false)⟩,
 ⟨some 67,.pick (.t 60) (.c (.bool true)) (.t 66),none⟩,
 ⟨some 68,.mv false (.t 67),none⟩,
 ⟨some 69,.faddr 2 (.t 1),some (68,false)⟩,
 ⟨some 70,.load false 1 (.t 69) .any,some (68,false)⟩,
 ⟨some 71,.len false (.t 70),some (68,false)⟩,
 ⟨some 72,.bin .neq (.t 71) (.c (.int .i64 1)),some (68,false)⟩,
 ⟨some 73,.pick (.t 68) (.c (.bool true)) (.t 72),none⟩,
 ⟨some 74,.mv false (.t 73),none⟩,
 ⟨some 75,.faddr 2 (.t 1),some (74,false)⟩,
 ⟨some 76,.load false 1 (.t 75) .any,some (74,false)⟩,
 ⟨some 77,.iaddr 2 (.t 76) (.c (.int .i64 0)),some (74,false)⟩,
 ⟨some 78,.faddr 1 (.t 77),some (74,false)⟩,
 ⟨some 79,.load false 1 (.t 78) .any,some (74,false)⟩,
 ⟨some 80,.len false (.t 79),some (74,false)⟩,
 ⟨some 81,.bin .neq (.t 80) (.c (.int .i64 2)),some (74,false)⟩,
 ⟨some 82,.pick (.t 74) (.c (.bool true)) (.t 81),none⟩,
 ⟨some 83,.mv false (.t 82),none⟩,
 ⟨some 84,.faddr 1 (.t 3),some (83,false)⟩,
 ⟨some 85,.load false 1 (.t 84) .any,some (83,false)⟩,
 ⟨some 86,.len false (.t 85),some (83,false)⟩,
 ⟨some 87,.bin .neq (.t 86) (.c (.int .i64 2)),some (83,false)⟩,
 ⟨some 88,.pick (.t 83) (.c (.bool true)) (.t 87),none⟩,
 ⟨some 89,.mv false (.t 88),none⟩,
 ⟨some 90,.faddr 1 (.t 3),some (89,false)⟩,
 ⟨some 91,.load false 1 (.t 90) .any,some (89,false)⟩,
 ⟨some 92,.iaddr 4 (.t 91) (.c (.int .i64 1)),some (89,false)⟩,
 ⟨some 93,.load true 4 (.t 92) .any,some (89,false)⟩,
 ⟨some 94,.build [(.str []),(.int .i64 0),(.int .i64 0),(.int .i64 0)] [(0,1,(.c (.str [97]))),(1,1,(.c (.int .i64 2))),(2,1,(.c (.int .i64 3))),(3,1,(.c (.int .i64 9)))],some (89,false)⟩,
 ⟨some 95,.eqs true [.s,.i,.i,.i] (.t 93) (.t 94),some (89,false)⟩,
 ⟨some 96,.pick (.t 89) (.c (.bool true)) (.t 95),none⟩,
 ⟨some 97,.mv false (.t 96),none⟩,
 ⟨some 98,.faddr 2 (.t 3),some (97,false)⟩,
 ⟨some 99,.load false 1 (.t 98) .any,some (97,false)⟩,
 ⟨some 100,.len false (.t 99),some (97,false)⟩,
 ⟨some 101,.bin .neq (.t 100) (.c (.int .i64 1)),some (97,false)⟩,
 ⟨some 102,.pick (.t 97) (.c (.bool true)) (.t 101),none⟩,
 ⟨some 103,.mv false (.t 102),none⟩,
 ⟨some 104,.faddr 2 (.t 3),some (103,false)⟩,
 ⟨some 105,.load false 1 (.t 104) .any,some (103,false)⟩,
 ⟨some 106,.iaddr 2 (.t 105) (.c (.int .i64 0)),some (103,false)⟩,
 ⟨some 107,.faddr 1 (.t 106),some (103,false)⟩,
 ⟨some 108,.load false 1 (.t 107) .any,some (103,false)⟩,
 ⟨some 109,.len false (.t 108),some (103,false)⟩,
 ⟨some 110,.bin .neq (.t 109) (.c (.int .i64 1)),some (103,false)⟩,
 ⟨some 111,.pick (.t 103) (.c (.bool true)) (.t 110),none⟩]
abbrev zz22_r4:List AI:=[
 ⟨some 0,.mv true (.c (.bool false)),none⟩]
abbrev zz22_r5:List AI:=[
 ⟨some 113,.load true 3 (.t 3) .any,none⟩,
 ⟨some 114,.call (.c (.fn f_zz83)) [(.t 113),(.c (.str [97])),(.c (.int .i64 0))] 0,none⟩,
 ⟨some 112,.mv false (.t 114),none⟩,
 ⟨some 115,.ext (.t 112) 0,none⟩,
 ⟨some 116,.ext (.t 112) 1,none⟩,
 ⟨some 5,.alloc [(.str []),(.int .i64 0),(.int .i64 0),(.int .i64 0)],none⟩,
 ⟨none,.store 4 (.t 5) (.t 115) .any,none⟩,
 ⟨some 6,.mv true (.t 116),none⟩]
abbrev zz22_r6:List AI:=[
 ⟨some 118,.load true 3 (.t 3) .any,none⟩,
 ⟨some 119,.call (.c (.fn f_zz83)) [(.t 118),(.c (.str [97])),(.c (.int .i64 3))] 0,none⟩,
 ⟨some 117,.mv false (.t 119),none⟩,
 ⟨some 120,.ext (.t 117) 0,none⟩,
 ⟨some 121,.ext (.t 117) 1,none⟩,
 ⟨some 7,.alloc [(.str []),(.int .i64 0),(.int .i64 0),(.int .i64 0)],none⟩,
 ⟨none,.store 4 (.t 7) (.t 120) .any,none⟩,
 ⟨some 8,.mv true (.t 121),none⟩]
abbrev zz22_r7:List AI:=[
 ⟨some 123,.load true 3 (.t 3) .any,none⟩,
 ⟨some 124,.call (.c (.fn f_zz84)) [(.t 123),(.c (.str [98]))] 0,none⟩,
 ⟨some 122,.mv false (.t 124),none⟩,
 ⟨some 125,.ext (.t 122) 0,none⟩,
 ⟨some 126,.ext (.t 122) 1,none⟩,
 ⟨some 9,.mv true (.t 125),none⟩,
 ⟨some 10,.mv true (.t 126),none⟩]
abbrev zz22_r8:List AI:=[
 ⟨some 128,.load true 3 (.t 3) (.site 3),none⟩,
 ⟨some 11,.alloc [(.int .i64 0),.nilS,.nilS],none⟩,
 ⟨some 129,.call (.c (.fn f_zz50)) [(.c (.str [98])),(.c (.int .i64 1)),(.c (.int .i64 10))] 2,none⟩,
 ⟨some 130,.call (.c (.fn f_zz95)) [(.t 128),(.t 129)] 2,none⟩,
 ⟨some 127,.mv false (.t 130),none⟩,
 ⟨some 131,.ext (.t 127) 0,none⟩,
 ⟨some 132,.ext (.t 127) 1,none⟩,
 ⟨none,.store 3 (.t 11) (.t 131) (.site 11),none⟩,
 ⟨some 12,.mv true (.t 132),none⟩]
abbrev zz22_r9:List AI:=[
 ⟨some 134,.load true 3 (.t 3) (.site 3),none⟩,
 ⟨some 13,.alloc [(.int .i64 0),.nilS,.nilS],none⟩,
 ⟨some 135,.call (.c (.fn f_zz50)) [(.c (.str [98])),(.c (.int .i64 1)),(.c (.int .i64 5))] 2,none⟩,
 ⟨some 136,.call (.c (.fn f_zz95)) [(.t 134),(.t 135)] 2,none⟩,
 ⟨some 133,.mv false (.t 136),none⟩,
 ⟨some 137,.ext (.t 133) 0,none⟩,
 ⟨some 138,.ext (.t 133) 1,none⟩,
 ⟨none,.store 3 (.t 13) (.t 137) (.site 13),none⟩,
 ⟨some 14,.mv true (.t 138),none⟩]
abbrev zz22_r10:List AI:=[
 ⟨some 140,.load true 3 (.t 3) (.site 3),none⟩,
 ⟨some 142,.build [(.int .i64 0),(.int .i64 0),(.int .i64 0),(.int .i64 0),(.int .i64 0),(.int .i64 0),(.str [])] [(0,1,(.c (.int .i64 5))),(3,1,(.c (.int .i64 1))),(4,1,(.c (.int .i64 20)))],none⟩,
 ⟨some 141,.call (.c (.fn f_zz50)) [(.c (.str [98])),(.c (.int .i64 1)),(.c (.int .i64 9))] 2,none⟩,
 ⟨some 143,.mkslice 7 2 (.agg [(.int .i64 0),(.int .i64 0),(.int .i64 0),(.int .i64 0),(.int .i64 0),(.int .i64 0),(.str [])]) [(0,(.t 141)),(1,(.t 142))],none⟩,
 ⟨some 144,.call (.c (.fn f_zz38)) [(.t 140),(.t 143)] 2,none⟩,
 ⟨some 139,.mv false (.t 144),none⟩,
 ⟨some 145,.ext (.t 139) 0,none⟩,
 ⟨some 146,.ext (.t 139) 1,none⟩,
 ⟨none,.store 3 (.t 3) (.t 145) (.site 3),none⟩,
 ⟨some 15,.mv true (.t 146),none⟩]
abbrev zz22_r11:List AI:=[
 ⟨some 148,.load true 3 (.t 3) .any,none⟩,
 ⟨some 149,.build [(.int .i64 0),(.int .i64 0),(.int .i64 0),(.int .i64 0),(.int .i64 0),(.int .i64 0),(.str [])] [(0,1,(.c (.int .i64 5))),(3,1,(.c (.int .i64 2))),(4,1,(.c (.int .i64 20)))],none⟩,
 ⟨some 150,.call (.c (.fn f_zz95)) [(.t 148),(.t 149)] 0,none⟩,
 ⟨some 147,.mv false (.t 150),none⟩,
 ⟨some 151,.ext (.t 147) 0,none⟩,
 ⟨some 152,.ext (.t 147) 1,none⟩,
 ⟨some 16,.alloc [(.int .i64 0),.nilS,.nilS],none⟩,
 ⟨none,.store 3 (.t 16) (.t 151) .any,none⟩,
 ⟨some 17,.mv true (.t 152),none⟩]
abbrev zz22_r12:List AI:=[
 ⟨some 154,.load true 3 (.t 3) .any,none⟩,
 ⟨some 155,.build [(.int .i64 0),(.int .i64 0),(.int .i64 0),(.int .i64 0),(.int .i64 0),(.int .i64 0),(.str [])] [(0,1,(.c (.int .i64 5))),(3,1,(.c (.int .i64 1))),(4,1,(.c (.int .i64 20)))],none⟩,
 ⟨some 156,.call (.c (.fn f_zz95)) [(.t 154),(.t 155)] 0,none⟩,
 ⟨some 153,.mv false (.t 156),none⟩,
 ⟨some 157,.ext (.t 153) 0,none⟩,
 ⟨some 158,.ext (.t 153) 1,none⟩,
 ⟨some 18,.alloc [(.int .i64 0),.nilS,.nilS],none⟩,
 ⟨none,.store 3 (.t 18) (.t 157) .any,none⟩,
 ⟨some 19,.mv true (.t 158),none⟩]
abbrev zz22_r13:List AI:=[
 ⟨some 159,.mv false (.t 6),none⟩,
 ⟨some 160,.bin .neq (.t 159) (.c (.int .i64 0)),none⟩,
 ⟨some 161,.mv false (.t 160),none⟩,
 ⟨some 162,.faddr 2 (.t 5),some (161,false)⟩,
 ⟨some 163,.load false 1 (.t 162) .any,some (161,false)⟩,
 ⟨some 164,.bin .neq (.t 163) (.c (.int .i64 3)),some (161,false)⟩,
 ⟨some 165,.pick (.t 161) (.c (.bool true)) (.t 164),none⟩,
 ⟨some 166,.mv false (.t 165),none⟩,
 ⟨some 167,.mv false (.t 8),some (166,false)⟩,
 ⟨some 168,.bin .neq (.t 167) (.c (.int .i64 8)),some (166,false)⟩,
 ⟨some 169,.pick (.t 166) (.c (.bool true)) (.t 168),none⟩,
 ⟨some 170,.mv false (.t 169),none⟩,
 ⟨some 171,.mv false (.t 10),some (170,false)⟩,
 ⟨some 172,.bin .neq (.t 171) (.c (.int .i64 0)),some (170,false)⟩,
 ⟨some 173,.pick (.t 170) (.c (.bool true)) (.t 172),none⟩,
 ⟨some 174,.mv false (.t 173),none⟩,
 ⟨some 175,.mv false (.t 9),some (174,false)⟩,
 ⟨some 176,.len false (.t 175),some (174,false)⟩,
 ⟨some 177,.bin .neq (.t 176) (.c (.int .i64 0)),some (174,false)⟩,
 ⟨some 178,.pick (.t 174) (.c (.bool true)) (.t 177),none⟩,
 ⟨some 179,.mv false (.t 178),none⟩,
 ⟨some 180,.mv false (.t 12),some (179,false)⟩,
 ⟨some 181,.bin .neq (.t 180) (.c (.int .i64 4)),some (179,false)⟩,
 ⟨some 182,.pick (.t 179) (.c (.bool true)) (.t 181),none⟩,
 ⟨some 183,.mv false (.t 182),none⟩,
 ⟨some 184,.mv false (.t 14),some (183,false)⟩,
 ⟨some 185,.bin .neq (.t 184) (.c (.int .i64 18)),some (183,false)⟩,
 ⟨some 186,.pick (.t 183) (.c (.bool true)) (.t 185),none⟩,
 ⟨some 187,.mv false (.t 186),none⟩,
 ⟨some 188,.mv false (.t 15),some (187,false)⟩,
 ⟨some 189,.not (.t 188),some (187,false)⟩,
 ⟨some 190,.pick (.t 187) (.c (.bool true)) (.t 189),none⟩,
 ⟨some 191,.mv false (.t 190),none⟩,
 ⟨some 192,.faddr 1 (.t 3),some (191,false)⟩,
 ⟨some 193,.load false 1 (.t 192) .any,some (191,false)⟩,
 ⟨some 194,.len false (.t 193),some (191,false)⟩,
 ⟨some 195,.bin .neq (.t 194) (.c (.int .i64 3)),some (191,false)⟩,
 ⟨some 196,.pick (.t 191) (.c (.bool true)) (.t 195),none⟩,
 ⟨some 197,.mv false (.t 196),none⟩,
 ⟨some 198,.faddr 1 (.t 3),some (197,false)⟩,
 ⟨some 199,.load false 1 (.t 198) .any,some (197,false)⟩,
 ⟨some 200,.iaddr 4 (.t 199) (.c (.int .i64 0)),some (197,false)⟩,
 ⟨some 201,.faddr 3 (.t 200),some (197,false)⟩,
 ⟨some 202,.load false 1 (.t 201) .any,some (197,false)⟩,
 ⟨some 203,.bin .neq (.t 202) (.c (.int .i64 20)),some (197,false)⟩,
 ⟨some 204,.pick (.t 197) (.c (.bool true)) (.t 203),none⟩,
 ⟨some 205,.mv false (.t 204),none⟩,
 ⟨some 206,.faddr 1 (.t 3),some (205,false)⟩,
 ⟨some 207,.load false 1 (.t 206) .any,some (205,false)⟩,
 ⟨some 208,.iaddr 4 (.t 207) (.c (.int .i64 2)),some (205,false)⟩,
 ⟨some 209,.faddr 3 (.t 208),some (205,false)⟩,
 ⟨some 210,.load false 1 (.t 209) .any,some (205,false)⟩,
 ⟨some 211,.bin .neq (.t 210) (.c (.int .i64 20)),some (205,false)⟩,
 ⟨some 212,.pick (.t 205) (.c (.bool true)) (.t 211),none⟩,
 ⟨some 213,.mv false (.t 212),none⟩,
 ⟨some 214,.faddr 2 (.t 3),some (213,false)⟩,
 ⟨some 215,.load false 1 (.t 214) .any,some (213,false)⟩,
 ⟨some 216,.iaddr 2 (.t 215) (.c (.int .i64 0)),some (213,false)⟩,
 ⟨some 217,.faddr 1 (.t 216),some (213,false)⟩,
 ⟨some 218,.load false 1 (.t 217) .any,some (213,false)⟩,
 ⟨some 219,.iaddr 4 (.t 218) (.c (.int .i64 0)),some (213,false)⟩,
 ⟨some 220,.faddr 3 (.t 219),some (213,false)⟩,
 ⟨some 221,.load false 1 (.t 220) .any,some (213,false)⟩,
 ⟨some 222,.bin .neq (.t 221) (.c (.int .i64 20)),some (213,false)⟩,
 ⟨some 223,.pick (.t 213) (.c (.bool true)) (.t 222),none⟩,
 ⟨some 224,.mv false (.t 223),none⟩,
 ⟨some 225,.mv false (.t 17),some (224,false)⟩,
 ⟨some 226,.bin .neq (.t 225) (.c (.int .i64 8)),some (224,false)⟩,
 ⟨some 227,.pick (.t 224) (.c (.bool true)) (.t 226),none⟩,
 ⟨some 228,.mv false (.t 227),none⟩,
 ⟨some 229,.mv false (.t 19),some (228,false)⟩,
 ⟨some 230,.bin .neq (.t 229) (.c (.int .i64 3)),some (228,false)⟩,
 ⟨some 231,.pick (.t 228) (.c (.bool true)) (.t 230),none⟩]
abbrev zz22_r14:List AI:=[
 ⟨some 0,.mv true (.c (.bool false)),none⟩]
abbrev zz22_r15:List AI:=[
 ⟨some 233,.load true 3 (.t 3) .any,none⟩,
 ⟨some 234,.build [(.int .i64 0),(.int .i64 0),(.int .i64 0),(.int .i64 0),(.int .i64 0),(.int .i64 0),(.str [])] [(0,1,(.c (.int .i64 4))),(3,1,(.c (.int .i64 1)))],none⟩,
 ⟨some 235,.mkslice 7 1 (.agg [(.int .i64 0),(.int .i64 0),(.int .i64 0),(.int .i64 0),(.int .i64 0),(.int .i64 0),(.str [])]) [(0,(.t 234))],none⟩,
 ⟨some 236,.call (.c (.fn f_zz38)) [(.t 233),(.t 235)] 0,none⟩,
 ⟨some 232,.mv false (.t 236),none⟩,
 ⟨some 237,.ext (.t 232) 0,none⟩,
 ⟨some 238,.ext (.t 232) 1,none⟩,
 ⟨none,.store 3 (.t 3) (.t 237) .any,none⟩,
 ⟨some 15,.mv true (.t 238),none⟩]
abbrev zz22_r16:List AI:=[
 ⟨some 239,.mv false (.t 15),none⟩,
 ⟨some 240,.not (.t 239),none⟩,
 ⟨some 241,.mv false (.t 240),none⟩,
 ⟨some 242,.faddr 1 (.t 3),some (241,false)⟩,
 ⟨some 243,.load false 1 (.t 242) .any,some (241,false)⟩,
 ⟨some 244,.len false (.t 243),some (241,false)⟩,
 ⟨some 245,.bin .neq (.t 244) (.c (.int .i64 1)),some (241,false)⟩,
 ⟨some 246,.pick (.t 241) (.c (.bool true)) (.t 245),none⟩,
 ⟨some 247,.mv false (.t 246),none⟩,
 ⟨some 248,.faddr 2 (.t 3),some (247,false)⟩,
 ⟨some 249,.load false 1 (.t 248) .any,some (247,false)⟩,
 ⟨some 250,.iaddr 2 (.t 249) (.c (.int .i64 0)),some (247,false)⟩,
 ⟨some 251,.faddr 1 (.t 250),some (247,false)⟩,
 ⟨some 252,.load false 1 (.t 251) .any,some (247,false)⟩,
 ⟨some 253,.len false (.t 252),some (247,false)⟩,
 ⟨some 254,.bin .neq (.t 253) (.c (.int .i64 0)),some (247,false)⟩,
 ⟨some 255,.pick (.t 247) (.c (.bool true)) (.t 254),none⟩]
abbrev zz22_r17:List AI:=[
 ⟨some 0,.mv true (.c (.bool false)),none⟩]
abbrev zz22_r18:List AI:=[
 ⟨some 257,.load true 3 (.t 3) .any,none⟩,
 ⟨some 258,.mkslice 1 1 (.str []) [(0,(.c (.str [120])))],none⟩,
 ⟨some 259,.call (.c (.fn f_zz62)) [(.t 257),(.t 258)] 0,none⟩,
 ⟨some 256,.mv false (.t 259),none⟩,
 ⟨some 260,.ext (.t 256) 0,none⟩,
 ⟨some 261,.ext (.t 256) 1,none⟩,
 ⟨some 20,.alloc [.nilS],none⟩,
 ⟨none,.store 1 (.t 20) (.t 260) .any,none⟩,
 ⟨some 21,.mv true (.t 261),none⟩]
abbrev zz22_r19:List AI:=[
 ⟨some 263,.build [(.int .i64 0),.nilS,.nilS] [],none⟩,
 ⟨some 264,.load true 1 (.t 20) .any,none⟩,
 ⟨some 265,.mkslice 1 1 (.str []) [(0,(.c (.str [120])))],none⟩,
 ⟨some 266,.call (.c (.fn f_zz63)) [(.t 263),(.t 264),(.t 265)] 0,none⟩,
 ⟨some 262,.mv false (.t 266),none⟩,
 ⟨some 267,.ext (.t 262) 0,none⟩,
 ⟨some 268,.ext (.t 262) 1,none⟩,
 ⟨some 269,.ext (.t 262) 2,none⟩,
 ⟨some 22,.alloc [(.int .i64 0),.nilS,.nilS],none⟩,
 ⟨none,.store 3 (.t 22) (.t 267) .any,none⟩,
 ⟨some 23,.mv true (.t 268),none⟩,
 ⟨some 24,.mv true (.t 269),none⟩]
abbrev zz22_r20:List AI:=[
 ⟨some 271,.build [(.int .i64 0),.nilS,.nilS] [],none⟩,
 ⟨some 272,.load true 1 (.t 20) .any,none⟩,
 ⟨some 273,.mkslice 1 1 (.str []) [(0,(.c (.str [])))],none⟩,
 ⟨some 274,.call (.c (.fn f_zz63)) [(.t 271),(.t 272),(.t 273)] 0,none⟩,
 ⟨some 270,.mv false (.t 274),none⟩,
 ⟨some 275,.ext (.t 270) 0,none⟩,
 ⟨some 276,.ext (.t 270) 1,none⟩,
 ⟨some 277,.ext (.t 270) 2,none⟩,
 ⟨some 25,.alloc [(.int .i64 0),.nilS,.nilS],none⟩,
 ⟨none,.store 3 (.t 25) (.t 275) .any,none⟩,
 ⟨some 26,.mv true (.t 276),none⟩,
 ⟨some 27,.mv true (.t 277),none⟩]
abbrev zz22_r21:List AI:=[
 ⟨some 279,.build [(.int .i64 0),.nilS,.nilS] [],none⟩,
 ⟨some 280,.load true 1 (.t 20) .any,none⟩,
 ⟨some 281,.mkslice 1 1 (.str []) [(0,(.c (.str [121])))],none⟩,
 ⟨some 282,.call (.c (.fn f_zz63)) [(.t 279),(.t 280),(.t 281)] 0,none⟩,
 ⟨some 278,.mv false (.t 282),none⟩,
 ⟨some 283,.ext (.t 278) 0,none⟩,
 ⟨some 284,.ext (.t 278) 1,none⟩,
 ⟨some 285,.ext (.t 278) 2,none⟩,
 ⟨some 28,.alloc [(.int .i64 0),.nilS,.nilS],none⟩,
 ⟨none,.store 3 (.t 28) (.t 283) .any,none⟩,
 ⟨some 29,.mv true (.t 284),none⟩,
 ⟨some 30,.mv true (.t 285),none⟩]
abbrev zz22_r22:List AI:=[
 ⟨some 286,.mv false (.t 21),none⟩,
 ⟨some 287,.bin .eql (.t 286) (.c (.int .i64 0)),none⟩,
 ⟨some 288,.mv false (.t 287),none⟩,
 ⟨some 289,.faddr 0 (.t 20),some (288,true)⟩,
 ⟨some 290,.load false 1 (.t 289) .any,some (288,true)⟩,
 ⟨some 291,.len false (.t 290),some (288,true)⟩,
 ⟨some 292,.bin .eql (.t 291) (.c (.int .i64 1)),some (288,true)⟩,
 ⟨some 293,.pick (.t 288) (.t 292) (.c (.bool false)),none⟩,
 ⟨some 294,.mv false (.t 293),none⟩,
 ⟨some 295,.faddr 0 (.t 20),some (294,true)⟩,
 ⟨some 296,.load false 1 (.t 295) .any,some (294,true)⟩,
 ⟨some 297,.iaddr 4 (.t 296) (.c (.int .i64 0)),some (294,true)⟩,
 ⟨some 298,.faddr 3 (.t 297),some (294,true)⟩,
 ⟨some 299,.load false 1 (.t 298) .any,some (294,true)⟩,
 ⟨some 300,.bin .eql (.t 299) (.c (.str [25])),some (294,true)⟩,
 ⟨some 301,.pick (.t 294) (.t 300) (.c (.bool false)),none⟩,
 ⟨some 302,.mv false (.t 301),none⟩,
 ⟨some 303,.mv false (.t 24),some (302,true)⟩,
 ⟨some 304,.bin .eql (.t 303) (.c (.int .i64 0)),some (302,true)⟩,
 ⟨some 305,.pick (.t 302) (.t 304) (.c (.bool false)),none⟩,
 ⟨some 306,.mv false (.t 305),none⟩,
 ⟨some 307,.mv false (.t 23),some (306,true)⟩,
 ⟨some 308,.bin .eql (.t 307) (.c (.int .i64 1)),some (306,true)⟩,
 ⟨some 309,.pick (.t 306) (.t 308) (.c (.bool false)),none⟩,
 ⟨some 310,.mv false (.t 309),none⟩,
 ⟨some 311,.faddr 1 (.t 22),some (310,true)⟩,
 ⟨some 312,.load false 1 (.t 311) .any,some (310,true)⟩,
 ⟨some 313,.faddr 1 (.t 3),some (310,true)⟩,
 ⟨some 314,.load false 1 (.t 313) .any,some (310,true)⟩,
 ⟨some 315,.call (.c (.fn f_zz19)) [(.t 312),(.t 314)] 0,some (310,true)⟩,
 ⟨some 316,.pick (.t 310) (.t 315) (.c (.bool false)),none⟩,
 ⟨some 317,.mv false (.t 316),none⟩,
 ⟨some 318,.mv false (.t 27),some (317,true)⟩,
 ⟨some 319,.bin .eql (.t 318) (.c (.int .i64 0)),some (317,true)⟩,
 ⟨some 320,.pick (.t 317) (.t 319) (.c (.bool false)),none⟩,
 ⟨some 321,.mv false (.t 320),none⟩,
 ⟨some 322,.mv false (.t 26),some (321,true)⟩,
 ⟨some 323,.bin .eql (.t 322) (.c (.int .i64 0)),some (321,true)⟩,
 ⟨some 324,.pick (.t 321) (.t 323) (.c (.bool false)),none⟩,
 ⟨some 325,.mv false (.t 324),none⟩,
 ⟨some 326,.faddr 1 (.t 25),some (325,true)⟩,
 ⟨some 327,.load false 1 (.t 326) .any,some (325,true)⟩,
 ⟨some 328,.len false (.t 327),some (325,true)⟩,
 ⟨some 329,.bin .eql (.t 328) (.c (.int .i64 0)),some (325,true)⟩,
 ⟨some 330,.pick (.t 325) (.t 329) (.c (.bool false)),none⟩,
 ⟨some 331,.mv false (.t 330),none⟩,
 ⟨some 332,.mv false (.t 30),some (331,true)⟩,
 ⟨some 333,.bin .eql (.t 332) (.c (.int .i64 0)),some (331,true)⟩,
 ⟨some 334,.pick (.t 331) (.t 333) (.c (.bool false)),none⟩,
 ⟨some 335,.mv false (.t 334),none⟩,
 ⟨some 336,.mv false (.t 29),some (335,true)⟩,
 ⟨some 337,.bin .eql (.t 336) (.c (.int .i64 1)),some (335,true)⟩,
 ⟨some 338,.pick (.t 335) (.t 337) (.c (.bool false)),none⟩,
 ⟨some 339,.mv false (.t 338),none⟩,
 ⟨some 340,.faddr 1 (.t 28),some (339,true)⟩,
 ⟨some 341,.load false 1 (.t 340) .any,some (339,true)⟩,
 ⟨some 342,.iaddr 4 (.t 341) (.c (.int .i64 0)),some (339,true)⟩,
 ⟨some 343,.faddr 0 (.t 342),some (339,true)⟩,
 ⟨some 344,.load false 1 (.t 343) .any,some (339,true)⟩,
 ⟨some 345,.bin .eql (.t 344) (.c (.str [96])),some (339,true)⟩,
 ⟨some 346,.pick (.t 339) (.t 345) (.c (.bool false)),none⟩,
 ⟨some 0,.mv true (.t 346),none⟩]
abbrev zz22_c:ACode:=.seq (.reg false zz22_r0) (.seq (.reg false zz22_r1) (.seq (.reg true zz22_r2) (.seq (.seq (.reg false zz22_r3) (.cond (.t 111) (.seq (.reg false zz22_r4) (.ret)) (.skip))) (.seq (.reg false zz22_r5) (.seq (.reg false zz22_r6) (.seq (.reg false zz22_r7) (.seq (.reg true zz22_r8) (.seq (.reg true zz22_r9) (.seq (.reg true zz22_r10) (.seq (.reg false zz22_r11) (.seq (.reg false zz22_r12) (.seq (.seq (.reg false zz22_r13) (.cond (.t 231) (.seq (.reg false zz22_r14) (.ret)) (.skip))) (.seq (.reg false zz22_r15) (.seq (.seq (.reg false zz22_r16) (.cond (.t 255) (.seq (.reg false zz22_r17) (.ret)) (.skip))) (.seq (.reg false zz22_r18) (.seq (.reg false zz22_r19) (.seq (.reg false zz22_r20) (.seq (.reg false zz22_r21) (.seq (.reg false zz22_r22) (.ret))))))))))))))))))))
def zz22_F:AFunc:=⟨347,[.tmp 0],zz22_c⟩
theorem zz22_cp:compile Tryz.prog [] f_zz22=some zz22_F:=by kernel_rfl
abbrev zz95_r0:List AI:=[
 ⟨some 2,.box 3 (.t 0),none⟩,
 ⟨some 3,.box 7 (.t 1),none⟩,
 ⟨some 4,.alloc [(.int .i64 0),.nilS,.nilS],none⟩,
 ⟨some 5,.mv true (.c (.int .i64 0)),none⟩]
abbrev zz95_r1:List AI:=[
 ⟨some 9,.load true 3 (.t 2) .any,none⟩,
 ⟨some 10,.call (.c (.fn f_zz74)) [(.t 9)] 0,none⟩,
 ⟨some 6,.mv true (.t 10),none⟩]
abbrev zz95_r2:List AI:=[
 ⟨some 11,.mv false (.t 6),none⟩,
 ⟨some 12,.bin .neq (.t 11) (.c (.int .i64 0)),none⟩]
abbrev zz95_r3:List AI:=[
 ⟨some 13,.load true 3 (.t 2) .any,none⟩,
 ⟨some 14,.mv false (.t 6),none⟩,
 ⟨none,.store 3 (.t 4) (.t 13) .any,none⟩,
 ⟨some 5,.mv true (.t 14),none⟩]
abbrev zz95_r4:List AI:=[
 ⟨some 17,.faddr 0 (.t 3),none⟩,
 ⟨some 18,.load false 1 (.t 17) (.site 3),none⟩,
 ⟨some 16,.call (.c (.fn f_zz31)) [] 1,none⟩,
 ⟨some 19,.gd (.mlook [.i] .nilF true) [(.t 16),(.t 18)],none⟩,
 ⟨some 15,.mv false (.t 19),none⟩,
 ⟨some 20,.ext (.t 15) 0,none⟩,
 ⟨some 21,.ext (.t 15) 1,none⟩,
 ⟨some 7,.mv true (.t 20),none⟩,
 ⟨some 8,.mv true (.t 21),none⟩]
abbrev zz95_r5:List AI:=[
 ⟨some 22,.mv false (.t 8),none⟩]
abbrev zz95_r6:List AI:=[
 ⟨some 23,.mv false (.t 7),none⟩,
 ⟨some 24,.load true 3 (.t 2) .any,none⟩,
 ⟨some 25,.load true 7 (.t 3) .any,none⟩,
 ⟨some 26,.call (.t 23) [(.t 24),(.t 25)] 0,none⟩,
 ⟨some 27,.ext (.t 26) 0,none⟩,
 ⟨some 28,.ext (.t 26) 1,none⟩,
 ⟨none,.store 3 (.t 4) (.t 27) .any,none⟩,
 ⟨some 5,.mv true (.t 28),none⟩]
abbrev zz95_r7:List AI:=[
 ⟨some 29,.load true 3 (.t 2) .any,none⟩,
 ⟨none,.store 3 (.t 4) (.t 29) .any,none⟩,
 ⟨some 5,.mv true (.c (.int .i64 1)),none⟩]
abbrev zz95_c:ACode:=.seq (.reg false zz95_r0) (.seq (.seq (.reg false zz95_r1) (.seq (.reg false zz95_r2) (.cond (.t 12) (.seq (.reg false zz95_r3) (.ret)) (.skip)))) (.seq (.seq (.reg true zz95_r4) (.seq (.reg false zz95_r5) (.cond (.t 22) (.seq (.reg false zz95_r6) (.ret)) (.skip)))) (.seq (.reg false zz95_r7) (.ret))))
def zz95_F:AFunc:=⟨30,[.cell 4 true 3,.tmp 5],zz95_c⟩
theorem zz95_cp:compile Tryz.prog [] f_zz95=some zz95_F:=by kernel_rfl
-- loop 0: [2, 3, 4, 7, 8]
-- loop 1: [2, 3, 4, 9, 10]
-- loop 2: [2, 3, 4, 11, 12]
abbrev zz59_r0:List AI:=[
 ⟨some 2,.box 3 (.t 0),none⟩,
 ⟨some 3,.box 7 (.t 1),none⟩,
 ⟨some 4,.alloc [(.int .i64 0),.nilS,.nilS,(.int .i64 0),(.int .i64 0)],none⟩]
abbrev zz59_r1:List AI:=[
 ⟨some 13,.load true 3 (.t 2) .any,none⟩,
 ⟨some 14,.call (.c (.fn f_zz34)) [(.t 13)] 0,none⟩,
 ⟨some 5,.mv true (.t 14),none⟩]
abbrev zz59_r2:List AI:=[
 ⟨some 15,.mv false (.t 5),none⟩,
 ⟨some 16,.bin .neq (.t 15) (.c (.int .i64 0)),none⟩]
abbrev zz59_r3:List AI:=[
 ⟨some 17,.load true 3 (.t 2) .any,none⟩,
 ⟨some 18,.mv false (.t 5),none⟩,
 ⟨some 19,.build [(.int .i64 0),.nilS,.nilS,(.int .i64 0),(.int .i64 0)] [(0,3,(.t 17)),(4,1,(.t 18))],none⟩,
 ⟨none,.store 5 (.t 4) (.t 19) .any,none⟩]
abbrev zz59_r4:List AI:=[
 ⟨some 20,.load true 3 (.t 2) (.site 2),none⟩,
 ⟨some 22,.faddr 3 (.t 3),none⟩,
 ⟨some 23,.load false 1 (.t 22) (.site 3),none⟩,
 ⟨some 21,.call (.c (.fn f_zz52)) [(.t 20)] 2,none⟩,
 ⟨some 24,.call (.c (.fn f_zz40)) [(.t 21),(.t 23)] 2,none⟩,
 ⟨some 6,.mv true (.t 24),none⟩]
abbrev zz59_r5:List AI:=[
 ⟨some 25,.faddr 0 (.t 3),none⟩,
 ⟨some 26,.load false 1 (.t 25) .any,none⟩]
abbrev zz59_r6:List AI:=[
 ⟨some 28,.bin .eql (.t 26) (.c (.int .i64 1)),none⟩,
 ⟨some 27,.mv true (.t 28),none⟩]
abbrev zz59_r7:List AI:=[
 ⟨some 29,.faddr 1 (.t 3),none⟩,
 ⟨some 30,.load false 1 (.t 29) .any,none⟩,
 ⟨some 31,.faddr 0 (.t 2),none⟩,
 ⟨some 32,.load false 1 (.t 31) .any,none⟩,
 ⟨some 33,.bin .lss (.t 30) (.t 32),none⟩]
abbrev zz59_r8:List AI:=[
 ⟨some 34,.load true 3 (.t 2) .any,none⟩,
 ⟨some 35,.build [(.int .i64 0),.nilS,.nilS,(.int .i64 0),(.int .i64 0)] [(0,3,(.t 34)),(4,1,(.c (.int .i64 15)))],none⟩,
 ⟨none,.store 5 (.t 4) (.t 35) .any,none⟩]
abbrev zz59_r9:List AI:=[
 ⟨some 36,.faddr 1 (.t 3),none⟩,
 ⟨some 37,.load false 1 (.t 36) .any,none⟩,
 ⟨some 38,.bin .gtr (.t 37) (.c (.int .i64 1000000)),none⟩]
abbrev zz59_r10:List AI:=[
 ⟨some 39,.load true 3 (.t 2) .any,none⟩,
 ⟨some 40,.build [(.int .i64 0),.nilS,.nilS,(.int .i64 0),(.int .i64 0)] [(0,3,(.t 39)),(4,1,(.c (.int .i64 3)))],none⟩,
 ⟨none,.store 5 (.t 4) (.t 40) .any,none⟩]
abbrev zz59_r11:List AI:=[
 ⟨some 41,.faddr 1 (.t 3),none⟩,
 ⟨some 42,.load false 1 (.t 41) .any,none⟩,
 ⟨some 43,.faddr 0 (.t 2),none⟩,
 ⟨none,.store 1 (.t 43) (.t 42) .any,none⟩]
abbrev zz59_r12:List AI:=[
 ⟨some 44,.load true 3 (.t 2) .any,none⟩,
 ⟨some 45,.faddr 1 (.t 3),none⟩,
 ⟨some 46,.load false 1 (.t 45) .any,none⟩,
 ⟨some 47,.call (.c (.fn f_zz36)) [(.t 44),(.t 46),(.c (.int .i64 (-1)))] 0,none⟩,
 ⟨some 48,.build [(.int .i64 0),.nilS,.nilS,(.int .i64 0),(.int .i64 0)] [(0,3,(.t 47))],none⟩,
 ⟨none,.store 5 (.t 4) (.t 48) .any,none⟩]
abbrev zz59_b0:ACode:=.seq (.seq (.reg false zz59_r7) (.cond (.t 33) (.seq (.reg false zz59_r8) (.ret)) (.skip))) (.seq (.seq (.reg false zz59_r9) (.cond (.t 38) (.seq (.reg false zz59_r10) (.ret)) (.skip))) (.seq (.reg false zz59_r11) (.seq (.reg false zz59_r12) (.ret))))
abbrev zz59_r13:List AI:=[
 ⟨some 50,.bin .eql (.t 26) (.c (.int .i64 2)),none⟩,
 ⟨some 49,.mv true (.t 50),none⟩]
abbrev zz59_r14:List AI:=[
 ⟨some 51,.load true 3 (.t 2) .any,none⟩,
 ⟨some 52,.load true 7 (.t 3) .any,none⟩,
 ⟨some 53,.call (.c (.fn f_zz53)) [(.t 51),(.t 52)] 0,none⟩,
 ⟨none,.store 5 (.t 4) (.t 53) .any,none⟩]
abbrev zz59_r15:List AI:=[
 ⟨some 55,.bin .eql (.t 26) (.c (.int .i64 3)),none⟩,
 ⟨some 54,.mv true (.t 55),none⟩]
abbrev zz59_r16:List AI:=[
 ⟨some 56,.faddr 0 (.t 2),none⟩,
 ⟨some 57,.load false 1 (.t 56) .any,none⟩,
 ⟨some 58,.faddr 2 (.t 2),none⟩,
 ⟨some 59,.load false 1 (.t 58) .any,none⟩,
 ⟨some 60,.build [(.int .i64 0),.nilS,.nilS] [(0,1,(.t 57)),(2,1,(.t 59))],none⟩,
 ⟨some 7,.alloc [(.int .i64 0),.nilS,.nilS],none⟩,
 ⟨none,.store 3 (.t 7) (.t 60) .any,none⟩]
abbrev zz59_r17:List AI:=[
 ⟨some 8,.mv true (.c (.int .i64 0)),none⟩]
abbrev zz59_r18:List AI:=[
 ⟨some 61,.mv false (.t 8),none⟩,
 ⟨some 62,.faddr 1 (.t 2),none⟩,
 ⟨some 63,.load false 1 (.t 62) .any,none⟩,
 ⟨some 64,.len false (.t 63),none⟩,
 ⟨some 65,.bin .lss (.t 61) (.t 64),none⟩]
abbrev zz59_r19:List AI:=[
 ⟨some 68,.faddr 1 (.t 2),none⟩,
 ⟨some 69,.load false 1 (.t 68) (.site 2),none⟩,
 ⟨some 70,.mv false (.t 8),none⟩,
 ⟨some 71,.iaddr 4 (.t 69) (.t 70),none⟩,
 ⟨some 72,.faddr 0 (.t 71),none⟩,
 ⟨some 73,.load false 1 (.t 72) .foreign,none⟩,
 ⟨some 74,.faddr 6 (.t 3),none⟩,
 ⟨some 75,.load false 1 (.t 74) (.site 3),none⟩,
 ⟨some 76,.bin .neq (.t 73) (.t 75),none⟩,
 ⟨some 77,.mv false (.t 76),none⟩,
 ⟨some 78,.faddr 1 (.t 2),some (77,false)⟩,
 ⟨some 79,.load false 1 (.t 78) (.site 2),some (77,false)⟩,
 ⟨some 80,.mv false (.t 8),some (77,false)⟩,
 ⟨some 81,.iaddr 4 (.t 79) (.t 80),some (77,false)⟩,
 ⟨some 82,.faddr 1 (.t 81),some (77,false)⟩,
 ⟨some 83,.load false 1 (.t 82) .foreign,some (77,false)⟩,
 ⟨some 84,.faddr 2 (.t 3),some (77,false)⟩,
 ⟨some 85,.load false 1 (.t 84) (.site 3),some (77,false)⟩,
 ⟨some 86,.bin .neq (.t 83) (.t 85),some (77,false)⟩,
 ⟨some 87,.pick (.t 77) (.c (.bool true)) (.t 86),none⟩]
abbrev zz59_r20:List AI:=[
 ⟨some 88,.faddr 1 (.t 7),none⟩,
 ⟨some 89,.load false 1 (.t 88) (.site 7),none⟩,
 ⟨some 90,.faddr 1 (.t 2),none⟩,
 ⟨some 91,.load false 1 (.t 90) (.site 2),none⟩,
 ⟨some 92,.mv false (.t 8),none⟩,
 ⟨some 93,.iaddr 4 (.t 91) (.t 92),none⟩,
 ⟨some 94,.load true 4 (.t 93) .foreign,none⟩,
 ⟨some 95,.mkslice 4 1 (.agg [(.str []),(.int .i64 0),(.int .i64 0),(.int .i64 0)]) [(0,(.t 94))],none⟩,
 ⟨some 96,.appG 4 40 [(.str []),(.int .i64 0),(.int .i64 0),(.int .i64 0)] (.t 89) (.t 95),none⟩,
 ⟨some 97,.faddr 1 (.t 7),none⟩,
 ⟨none,.store 1 (.t 97) (.t 96) (.site 7),none⟩]
abbrev zz59_r21:List AI:=[
 ⟨some 66,.mv false (.t 8),none⟩,
 ⟨some 67,.bin .add (.t 66) (.c (.int .i64 1)),none⟩,
 ⟨some 8,.mv true (.t 67),none⟩]
abbrev zz59_l0:ACode:=.seq (.seq (.reg false zz59_r18) (.cond (.t 65) (.skip) (.exit 1))) (.seq (.block 2 (.seq (.reg true zz59_r19) (.cond (.t 87) (.reg true zz59_r20) (.skip)))) (.reg false zz59_r21))
abbrev zz59_r22:List AI:=[
 ⟨some 98,.faddr 1 (.t 7),none⟩,
 ⟨some 99,.load false 1 (.t 98) .any,none⟩,
 ⟨some 100,.len false (.t 99),none⟩,
 ⟨some 101,.faddr 1 (.t 2),none⟩,
 ⟨some 102,.load false 1 (.t 101) .any,none⟩,
 ⟨some 103,.len false (.t 102),none⟩,
 ⟨some 104,.bin .eql (.t 100) (.t 103),none⟩]
abbrev zz59_r23:List AI:=[
 ⟨some 105,.load true 3 (.t 2) .any,none⟩,
 ⟨some 106,.build [(.int .i64 0),.nilS,.nilS,(.int .i64 0),(.int .i64 0)] [(0,3,(.t 105)),(4,1,(.c (.int .i64 8)))],none⟩,
 ⟨none,.store 5 (.t 4) (.t 106) .any,none⟩]
abbrev zz59_r24:List AI:=[
 ⟨some 107,.load true 3 (.t 7) .any,none⟩,
 ⟨some 108,.build [(.int .i64 0),.nilS,.nilS,(.int .i64 0),(.int .i64 0)] [(0,3,(.t 107))],none⟩,
 ⟨none,.store 5 (.t 4) (.t 108) .any,none⟩]
abbrev zz59_b1:ACode:=.seq (.reg false zz59_r16) (.seq (.seq (.reg false zz59_r17) (.block 1 (.loop zz59_l0))) (.seq (.seq (.reg false zz59_r22) (.cond (.t 104) (.seq (.reg false zz59_r23) (.ret)) (.skip))) (.seq (.reg false zz59_r24) (.ret))))
abbrev zz59_r25:List AI:=[
 ⟨some 110,.bin .eql (.t 26) (.c (.int .i64 4)),none⟩,
 ⟨some 109,.mv true (.t 110),none⟩]
abbrev zz59_r26:List AI:=[
 ⟨some 111,.mv false (.t 6),none⟩,
 ⟨some 112,.bin .lss (.t 111) (.c (.int .i64 0)),none⟩]
abbrev zz59_r27:List AI:=[
 ⟨some 113,.load true 3 (.t 2) .any,none⟩,
 ⟨some 114,.build [(.int .i64 0),.nilS,.nilS,(.int .i64 0),(.int .i64 0)] [(0,3,(.t 113)),(4,1,(.c (.int .i64 8)))],none⟩,
 ⟨none,.store 5 (.t 4) (.t 114) .any,none⟩]
abbrev zz59_r28:List AI:=[
 ⟨some 115,.load true 3 (.t 2) .any,none⟩,
 ⟨some 116,.faddr 3 (.t 3),none⟩,
 ⟨some 117,.load false 1 (.t 116) .any,none⟩,
 ⟨some 118,.call (.c (.fn f_zz36)) [(.t 115),(.c (.int .i64 0)),(.t 117)] 0,none⟩,
 ⟨some 119,.build [(.int .i64 0),.nilS,.nilS,(.int .i64 0),(.int .i64 0)] [(0,3,(.t 118))],none⟩,
 ⟨none,.store 5 (.t 4) (.t 119) .any,none⟩]
abbrev zz59_b2:ACode:=.seq (.seq (.reg false zz59_r26) (.cond (.t 112) (.seq (.reg false zz59_r27) (.ret)) (.skip))) (.seq (.reg false zz59_r28) (.ret))
abbrev zz59_r29:List AI:=[
 ⟨some 121,.bin .eql (.t 26) (.c (.int .i64 5)),none⟩,
 ⟨some 120,.mv true (.t 121),none⟩]
abbrev zz59_r30:List AI:=[
 ⟨some 122,.mv false (.t 6),none⟩,
 ⟨some 123,.bin .lss (.t 122) (.c (.int .i64 0)),none⟩]
abbrev zz59_r31:List AI:=[
 ⟨some 124,.load true 3 (.t 2) .any,none⟩,
 ⟨some 125,.build [(.int .i64 0),.nilS,.nilS,(.int .i64 0),(.int .i64 0)] [(0,3,(.t 124)),(4,1,(.c (.int .i64 8)))],none⟩,
 ⟨none,.store 5 (.t 4) (.t 125) .any,none⟩]
abbrev zz59_r32:List AI:=[
 ⟨some 126,.faddr 4 (.t 3),none⟩,
 ⟨some 127,.load false 1 (.t 126) .any,none⟩,
 ⟨some 128,.mv false (.t 6),none⟩,
 ⟨some 129,.bin .leq (.t 127) (.t 128),none⟩,
 ⟨some 130,.mv false (.t 129),none⟩,
 ⟨some 131,.faddr 4 (.t 3),some (130,false)⟩,
 ⟨some 132,.load false 1 (.t 131) .any,some (130,false)⟩,
 ⟨some 133,.bin .gtr (.t 132) (.c (.int .i64 1000000)),some (130,false)⟩,
 ⟨some 134,.pick (.t 130) (.c (.bool true)) (.t 133),none⟩]
abbrev zz59_r33:List AI:=[
 ⟨some 135,.load true 3 (.t 2) .any,none⟩,
 ⟨some 136,.build [(.int .i64 0),.nilS,.nilS,(.int .i64 0),(.int .i64 0)] [(0,3,(.t 135)),(4,1,(.c (.int .i64 3)))],none⟩,
 ⟨none,.store 5 (.t 4) (.t 136) .any,none⟩]
abbrev zz59_r34:List AI:=[
 ⟨some 137,.faddr 0 (.t 2),none⟩,
 ⟨some 138,.load false 1 (.t 137) (.site 2),none⟩,
 ⟨some 139,.faddr 1 (.t 2),none⟩,
 ⟨some 140,.load false 1 (.t 139) (.site 2),none⟩,
 ⟨some 141,.faddr 3 (.t 3),none⟩,
 ⟨some 142,.load false 1 (.t 141) (.site 3),none⟩,
 ⟨some 143,.faddr 4 (.t 3),none⟩,
 ⟨some 144,.load false 1 (.t 143) (.site 3),none⟩,
 ⟨some 9,.alloc [(.int .i64 0),.nilS,.nilS],none⟩,
 ⟨some 145,.call (.c (.fn f_zz30)) [(.t 140),(.t 142),(.t 144)] 2,none⟩,
 ⟨some 146,.build [(.int .i64 0),.nilS,.nilS] [(0,1,(.t 138)),(1,1,(.t 145))],none⟩,
 ⟨none,.store 3 (.t 9) (.t 146) (.site 9),none⟩]
abbrev zz59_r35:List AI:=[
 ⟨some 10,.mv true (.c (.int .i64 0)),none⟩]
abbrev zz59_r36:List AI:=[
 ⟨some 147,.mv false (.t 10),none⟩,
 ⟨some 148,.faddr 2 (.t 2),none⟩,
 ⟨some 149,.load false 1 (.t 148) .any,none⟩,
 ⟨some 150,.len false (.t 149),none⟩,
 ⟨some 151,.bin .lss (.t 147) (.t 150),none⟩]
abbrev zz59_r37:List AI:=[
 ⟨some 154,.faddr 2 (.t 9),none⟩,
 ⟨some 155,.load false 1 (.t 154) (.site 9),none⟩,
 ⟨some 156,.faddr 2 (.t 2),none⟩,
 ⟨some 157,.load false 1 (.t 156) (.site 2),none⟩,
 ⟨some 158,.mv false (.t 10),none⟩,
 ⟨some 159,.iaddr 2 (.t 157) (.t 158),none⟩,
 ⟨some 160,.faddr 0 (.t 159),none⟩,
 ⟨some 161,.load false 1 (.t 160) .foreign,none⟩,
 ⟨some 162,.faddr 2 (.t 2),none⟩,
 ⟨some 163,.load false 1 (.t 162) (.site 2),none⟩,
 ⟨some 164,.mv false (.t 10),none⟩,
 ⟨some 165,.iaddr 2 (.t 163) (.t 164),none⟩,
 ⟨some 166,.faddr 1 (.t 165),none⟩,
 ⟨some 167,.load false 1 (.t 166) .foreign,none⟩,
 ⟨some 168,.faddr 3 (.t 3),none⟩,
 ⟨some 169,.load false 1 (.t 168) (.site 3),none⟩,
 ⟨some 170,.faddr 4 (.t 3),none⟩,
 ⟨some 171,.load false 1 (.t 170) (.site 3),none⟩,
 ⟨some 172,.call (.c (.fn f_zz30)) [(.t 167),(.t 169),(.t 171)] 1,none⟩,
 ⟨some 173,.build [(.int .i64 0),.nilS] [(0,1,(.t 161)),(1,1,(.t 172))],none⟩,
 ⟨some 174,.mkslice 2 1 (.agg [(.int .i64 0),.nilS]) [(0,(.t 173))],none⟩,
 ⟨some 175,.appG 2 32 [(.int .i64 0),.nilS] (.t 155) (.t 174),none⟩,
 ⟨some 176,.faddr 2 (.t 9),none⟩,
 ⟨none,.store 1 (.t 176) (.t 175) (.site 9),none⟩]
abbrev zz59_r38:List AI:=[
 ⟨some 152,.mv false (.t 10),none⟩,
 ⟨some 153,.bin .add (.t 152) (.c (.int .i64 1)),none⟩,
 ⟨some 10,.mv true (.t 153),none⟩]
abbrev zz59_l1:ACode:=.seq (.seq (.reg false zz59_r36) (.cond (.t 151) (.skip) (.exit 3))) (.seq (.block 4 (.reg true zz59_r37)) (.reg false zz59_r38))
abbrev zz59_r39:List AI:=[
 ⟨some 177,.load true 3 (.t 9) .any,none⟩,
 ⟨some 178,.build [(.int .i64 0),.nilS,.nilS,(.int .i64 0),(.int .i64 0)] [(0,3,(.t 177))],none⟩,
 ⟨none,.store 5 (.t 4) (.t 178) .any,none⟩]
abbrev zz59_b3:ACode:=.seq (.seq (.reg false zz59_r30) (.cond (.t 123) (.seq (.reg false zz59_r31) (.ret)) (.skip))) (.seq (.seq (.reg false zz59_r32) (.cond (.t 134) (.seq (.reg false zz59_r33) (.ret)) (.skip))) (.seq (.reg true zz59_r34) (.seq (.seq (.reg false zz59_r35) (.block 3 (.loop zz59_l1))) (.seq (.reg false zz59_r39) (.ret)))))
abbrev zz59_r40:List AI:=[
 ⟨some 180,.bin .eql (.t 26) (.c (.int .i64 6)),none⟩,
 ⟨some 179,.mv true (.t 180),none⟩]
abbrev zz59_r41:List AI:=[
 ⟨some 181,.load true 3 (.t 2) .any,none⟩,
 ⟨some 182,.faddr 5 (.t 3),none⟩,
 ⟨some 183,.load false 1 (.t 182) .any,none⟩,
 ⟨some 184,.call (.c (.fn f_zz42)) [(.t 181),(.t 183)] 0,none⟩,
 ⟨none,.store 5 (.t 4) (.t 184) .any,none⟩]
abbrev zz59_r42:List AI:=[
 ⟨some 186,.bin .eql (.t 26) (.c (.int .i64 7)),none⟩,
 ⟨some 185,.mv true (.t 186),none⟩]
abbrev zz59_r43:List AI:=[
 ⟨some 187,.faddr 0 (.t 2),none⟩,
 ⟨some 188,.load false 1 (.t 187) .any,none⟩,
 ⟨some 189,.faddr 1 (.t 2),none⟩,
 ⟨some 190,.load false 1 (.t 189) .any,none⟩,
 ⟨some 191,.build [(.int .i64 0),.nilS,.nilS] [(0,1,(.t 188)),(1,1,(.t 190))],none⟩,
 ⟨some 11,.alloc [(.int .i64 0),.nilS,.nilS],none⟩,
 ⟨none,.store 3 (.t 11) (.t 191) .any,none⟩]
abbrev zz59_r44:List AI:=[
 ⟨some 12,.mv true (.c (.int .i64 0)),none⟩]
abbrev zz59_r45:List AI:=[
 ⟨some 192,.mv false (.t 12),none⟩,
 ⟨some 193,.faddr 2 (.t 2),none⟩,
 ⟨some 194,.load false 1 (.t 193) .any,none⟩,
 ⟨some 195,.len false (.t 194),none⟩,
 ⟨some 196,.bin .lss (.t 192) (.t 195),none⟩]
abbrev zz59_r46:List AI:=[
 ⟨some 199,.faddr 2 (.t 2),none⟩,
 ⟨some 200,.load false 1 (.t 199) (.site 2),none⟩,
 ⟨some 201,.mv false (.t 12),none⟩,
 ⟨some 202,.iaddr 2 (.t 200) (.t 201),none⟩,
 ⟨some 203,.faddr 0 (.t 202),none⟩,
 ⟨some 204,.load false 1 (.t 203) .foreign,none⟩,
 ⟨some 205,.faddr 5 (.t 3),none⟩,
 ⟨some 206,.load false 1 (.t 205) (.site 3),none⟩,
 ⟨some 207,.bin .neq (.t 204) (.t 206),none⟩]
abbrev zz59_r47:List AI:=[
 ⟨some 208,.faddr 2 (.t 11),none⟩,
 ⟨some 209,.load false 1 (.t 208) (.site 11),none⟩,
 ⟨some 210,.faddr 2 (.t 2),none⟩,
 ⟨some 211,.load false 1 (.t 210) (.site 2),none⟩,
 ⟨some 212,.mv false (.t 12),none⟩,
 ⟨some 213,.iaddr 2 (.t 211) (.t 212),none⟩,
 ⟨some 214,.load true 2 (.t 213) .foreign,none⟩,
 ⟨some 215,.mkslice 2 1 (.agg [(.int .i64 0),.nilS]) [(0,(.t 214))],none⟩,
 ⟨some 216,.appG 2 32 [(.int .i64 0),.nilS] (.t 209) (.t 215),none⟩,
 ⟨some 217,.faddr 2 (.t 11),none⟩,
 ⟨none,.store 1 (.t 217) (.t 216) (.site 11),none⟩]
abbrev zz59_r48:List AI:=[
 ⟨some 197,.mv false (.t 12),none⟩,
 ⟨some 198,.bin .add (.t 197) (.c (.int .i64 1)),none⟩,
 ⟨some 12,.mv true (.t 198),none⟩]
abbrev zz59_l2:ACode:=.seq (.seq (.reg false zz59_r45) (.cond (.t 196) (.skip) (.exit 5))) (.seq (.block 6 (.seq (.reg true zz59_r46) (.cond (.t 207) (.reg true zz59_r47) (.skip)))) (.reg false zz59_r48))
abbrev zz59_r49:List AI:=[
 ⟨some 218,.faddr 2 (.t 11),none⟩,
 ⟨some 219,.load false 1 (.t 218) .any,none⟩,
 ⟨some 220,.len false (.t 219),none⟩,
 ⟨some 221,.faddr 2 (.t 2),none⟩,
 ⟨some 222,.load false 1 (.t 221) .any,none⟩,
 ⟨some 223,.len false (.t 222),none⟩,
 ⟨some 224,.bin .eql (.t 220) (.t 223),none⟩]
abbrev zz59_r50:List AI:=[
 ⟨some 225,.load true 3 (.t 2) .any,none⟩,
 ⟨some 226,.build [(.int .i64 0),.nilS,.nilS,(.int .i64 0),(.int .i64 0)] [(0,3,(.t 225)),(4,1,(.c (.int .i64 8)))],none⟩,
 ⟨none,.store 5 (.t 4) (.t 226) .any,none⟩]
abbrev zz59_r51:List AI:=[
 ⟨some 227,.load true 3 (.t 11) .any,none⟩,
 ⟨some 228,.build [(.int .i64 0),.nilS,.nilS,(.int .i64 0),(.int .i64 0)] [(0,3,(.t 227))],none⟩,
 ⟨none,.store 5 (.t 4) (.t 228) .any,none⟩]
abbrev zz59_b4:ACode:=.seq (.reg false zz59_r43) (.seq (.seq (.reg false zz59_r44) (.block 5 (.loop zz59_l2))) (.seq (.seq (.reg false zz59_r49) (.cond (.t 224) (.seq (.reg false zz59_r50) (.ret)) (.skip))) (.seq (.reg false zz59_r51) (.ret))))
abbrev zz59_b5:ACode:=.seq (.reg false zz59_r42) (.cond (.t 185) (zz59_b4) (.skip))
abbrev zz59_b6:ACode:=.seq (.reg false zz59_r40) (.cond (.t 179) (.seq (.reg false zz59_r41) (.ret)) (zz59_b5))
abbrev zz59_b7:ACode:=.seq (.reg false zz59_r29) (.cond (.t 120) (zz59_b3) (zz59_b6))
abbrev zz59_b8:ACode:=.seq (.reg false zz59_r25) (.cond (.t 109) (zz59_b2) (zz59_b7))
abbrev zz59_b9:ACode:=.seq (.reg false zz59_r15) (.cond (.t 54) (zz59_b1) (zz59_b8))
abbrev zz59_b10:ACode:=.seq (.reg false zz59_r13) (.cond (.t 49) (.seq (.reg false zz59_r14) (.ret)) (zz59_b9))
abbrev zz59_r52:List AI:=[
 ⟨some 229,.load true 3 (.t 2) .any,none⟩,
 ⟨some 230,.build [(.int .i64 0),.nilS,.nilS,(.int .i64 0),(.int .i64 0)] [(0,3,(.t 229)),(4,1,(.c (.int .i64 1)))],none⟩,
 ⟨none,.store 5 (.t 4) (.t 230) .any,none⟩]
abbrev zz59_c:ACode:=.seq (.reg false zz59_r0) (.seq (.reg false zz59_r1) (.seq (.seq (.reg false zz59_r2) (.cond (.t 16) (.seq (.reg false zz59_r3) (.ret)) (.skip))) (.seq (.reg true zz59_r4) (.seq (.seq (.reg false zz59_r5) (.block 0 (.seq (.reg false zz59_r6) (.cond (.t 27) (zz59_b0) (zz59_b10))))) (.seq (.reg false zz59_r52) (.ret))))))
def zz59_F:AFunc:=⟨231,[.cell 4 true 5],zz59_c⟩
theorem zz59_cp:compile Tryz.prog [96,175,216] f_zz59=some zz59_F:=by kernel_rfl
-- loop 0: [4, 5, 6, 7, 21]
abbrev zz83_r0:List AI:=[
 ⟨some 3,.box 3 (.t 0),none⟩,
 ⟨some 4,.gn (.box 1) [(.t 1)],none⟩,
 ⟨some 5,.gn (.box 1) [(.t 2)],none⟩,
 ⟨some 6,.gn (.alloc [(.str []),(.int .i64 0),(.int .i64 0),(.int .i64 0)]) [],none⟩,
 ⟨some 7,.gn (.alloc [(.int .i64 0)]) [],none⟩]
abbrev zz83_r1:List AI:=[
 ⟨some 11,.load true 3 (.t 3) .any,none⟩,
 ⟨some 12,.call (.c (.fn f_zz74)) [(.t 11)] 0,none⟩,
 ⟨some 8,.mv true (.t 12),none⟩]
abbrev zz83_r2:List AI:=[
 ⟨some 13,.mv false (.t 8),none⟩,
 ⟨some 14,.bin .neq (.t 13) (.c (.int .i64 0)),none⟩]
abbrev zz83_r3:List AI:=[
 ⟨some 15,.build [(.str []),(.int .i64 0),(.int .i64 0),(.int .i64 0)] [],none⟩,
 ⟨some 16,.mv false (.t 8),none⟩,
 ⟨none,.store 4 (.t 6) (.t 15) .any,none⟩,
 ⟨none,.store 1 (.t 7) (.t 16) .any,none⟩]
abbrev zz83_r4:List AI:=[
 ⟨some 17,.faddr 1 (.t 3),none⟩,
 ⟨some 18,.load false 1 (.t 17) .any,none⟩,
 ⟨some 19,.call (.c (.fn f_zz3)) [(.t 18)] 0,none⟩]
abbrev zz83_r5:List AI:=[
 ⟨some 10,.gn (.alloc [(.str []),(.int .i64 0),(.int .i64 0),(.int .i64 0)]) [],none⟩,
 ⟨none,.store 4 (.t 10) (.t 21) .any,none⟩]
abbrev zz83_r6:List AI:=[
 ⟨some 22,.faddr 0 (.t 10),none⟩,
 ⟨some 23,.load false 1 (.t 22) .any,none⟩,
 ⟨some 24,.load false 1 (.t 4) .any,none⟩,
 ⟨some 25,.bin .eql (.t 23) (.t 24),none⟩,
 ⟨some 26,.mv false (.t 25),none⟩,
 ⟨some 27,.load false 1 (.t 5) .any,some (26,true)⟩,
 ⟨some 28,.bin .eql (.t 27) (.c (.int .i64 0)),some (26,true)⟩,
 ⟨some 29,.mv false (.t 28),some (26,true)⟩,
 ⟨some 30,.faddr 1 (.t 10),some (29,false)⟩,
 ⟨some 31,.load false 1 (.t 30) .any,some (29,false)⟩,
 ⟨some 32,.load false 1 (.t 5) .any,some (29,false)⟩,
 ⟨some 33,.bin .eql (.t 31) (.t 32),some (29,false)⟩,
 ⟨some 34,.pick (.t 29) (.c (.bool true)) (.t 33),some (26,true)⟩,
 ⟨some 35,.pick (.t 26) (.t 34) (.c (.bool false)),none⟩]
abbrev zz83_r7:List AI:=[
 ⟨some 36,.load true 4 (.t 10) .any,none⟩,
 ⟨none,.store 4 (.t 6) (.t 36) .any,none⟩,
 ⟨none,.store 1 (.t 7) (.c (.int .i64 0)) .any,none⟩]
abbrev catalog_Find_y0a:ACode:=.reg false zz83_r5
abbrev catalog_Find_y0b:ACode:=.block 1 (.seq (.reg false zz83_r6) (.cond (.t 35) (.seq (.reg false zz83_r7) (.ret)) (.skip)))
abbrev zz83_r8:List AI:=[
 ⟨some 37,.build [(.str []),(.int .i64 0),(.int .i64 0),(.int .i64 0)] [],none⟩,
 ⟨none,.store 4 (.t 6) (.t 37) .any,none⟩,
 ⟨none,.store 1 (.t 7) (.c (.int .i64 8)) .any,none⟩]
abbrev zz83_c:ACode:=.seq (.reg false zz83_r0) (.seq (.seq (.reg false zz83_r1) (.seq (.reg false zz83_r2) (.cond (.t 14) (.seq (.reg false zz83_r3) (.ret)) (.skip)))) (.seq (.seq (.reg false zz83_r4) (.block 0 (.rangeF (.t 19) [20,21] catalog_Find_y0a catalog_Find_y0b))) (.seq (.reg false zz83_r8) (.ret))))
def zz83_F:AFunc:=⟨38,[.cell 6 true 4,.cell 7 false 1],zz83_c⟩
theorem zz83_cp:compile Tryz.prog [4,5,6,7,10] f_zz83=some zz83_F:=by kernel_rfl
abbrev zz84_r0:List AI:=[
 ⟨some 2,.box 3 (.t 0),none⟩,
 ⟨some 3,.gn (.box 1) [(.t 1)],none⟩,
 ⟨some 4,.mv true (.c .nilS),none⟩,
 ⟨some 5,.mv true (.c (.int .i64 0)),none⟩]
abbrev zz84_r1:List AI:=[
 ⟨some 7,.load true 3 (.t 2) .any,none⟩,
 ⟨some 8,.call (.c (.fn f_zz74)) [(.t 7)] 0,none⟩,
 ⟨some 6,.mv true (.t 8),none⟩]
abbrev zz84_r2:List AI:=[
 ⟨some 9,.mv false (.t 6),none⟩,
 ⟨some 10,.bin .neq (.t 9) (.c (.int .i64 0)),none⟩]
abbrev zz84_r3:List AI:=[
 ⟨some 11,.mv false (.t 6),none⟩,
 ⟨some 4,.mv true (.c .nilS),none⟩,
 ⟨some 5,.mv true (.t 11),none⟩]
abbrev zz84_r4:List AI:=[
 ⟨some 12,.faddr 1 (.t 2),none⟩,
 ⟨some 13,.load false 1 (.t 12) (.site 2),none⟩,
 ⟨some 14,.gd (.clo f_zz64) [(.t 3)],none⟩,
 ⟨some 15,.call (.c (.fn f_zz87)) [(.t 14)] 4,none⟩,
 ⟨some 16,.call (.c (.fn f_zz16)) [(.t 13),(.t 15)] 4,none⟩,
 ⟨some 4,.mv true (.t 16),none⟩,
 ⟨some 5,.mv true (.c (.int .i64 0)),none⟩]
abbrev zz84_c:ACode:=.seq (.reg false zz84_r0) (.seq (.seq (.reg false zz84_r1) (.seq (.reg false zz84_r2) (.cond (.t 10) (.seq (.reg false zz84_r3) (.ret)) (.skip)))) (.seq (.reg true zz84_r4) (.ret)))
def zz84_F:AFunc:=⟨17,[.tmp 4,.tmp 5],zz84_c⟩
theorem zz84_cp:compile Tryz.prog [3,14] f_zz84=some zz84_F:=by kernel_rfl
-- loop 0: [1, 30, 31, 32]
abbrev zz74_r0:List AI:=[
 ⟨some 1,.box 3 (.t 0),none⟩,
 ⟨some 2,.mv true (.c (.int .i64 0)),none⟩]
abbrev zz74_r1:List AI:=[
 ⟨some 9,.faddr 0 (.t 1),none⟩,
 ⟨some 10,.load false 1 (.t 9) .any,none⟩,
 ⟨some 11,.call (.c (.fn f_zz73)) [(.t 10),(.c (.int .i64 1000000))] 0,none⟩,
 ⟨some 12,.not (.t 11),none⟩]
abbrev zz74_r2:List AI:=[
 ⟨some 2,.mv true (.c (.int .i64 3)),none⟩]
abbrev zz74_r3:List AI:=[
 ⟨some 13,.faddr 1 (.t 1),none⟩,
 ⟨some 14,.load false 1 (.t 13) .any,none⟩,
 ⟨some 15,.len false (.t 14),none⟩,
 ⟨some 16,.bin .gtr (.t 15) (.c (.int .i64 200)),none⟩,
 ⟨some 17,.mv false (.t 16),none⟩,
 ⟨some 18,.faddr 2 (.t 1),some (17,false)⟩,
 ⟨some 19,.load false 1 (.t 18) .any,some (17,false)⟩,
 ⟨some 20,.len false (.t 19),some (17,false)⟩,
 ⟨some 21,.bin .gtr (.t 20) (.c (.int .i64 10)),some (17,false)⟩,
 ⟨some 22,.pick (.t 17) (.c (.bool true)) (.t 21),none⟩]
abbrev zz74_r4:List AI:=[
 ⟨some 2,.mv true (.c (.int .i64 2)),none⟩]
abbrev zz74_r5:List AI:=[
 ⟨some 23,.faddr 1 (.t 1),none⟩,
 ⟨some 24,.load false 1 (.t 23) .any,none⟩,
 ⟨some 25,.call (.c (.fn f_zz68)) [(.t 24)] 0,none⟩,
 ⟨some 3,.mv true (.t 25),none⟩]
abbrev zz74_r6:List AI:=[
 ⟨some 26,.mv false (.t 3),none⟩,
 ⟨some 27,.bin .neq (.t 26) (.c (.int .i64 0)),none⟩]
abbrev zz74_r7:List AI:=[
 ⟨some 28,.mv false (.t 3),none⟩,
 ⟨some 2,.mv true (.t 28),none⟩]
abbrev zz74_r8:List AI:=[
 ⟨some 29,.faddr 2 (.t 1),none⟩,
 ⟨some 30,.load false 1 (.t 29) .any,none⟩,
 ⟨some 31,.len false (.t 30),none⟩,
 ⟨some 32,.mv false (.c (.int .i64 0)),none⟩]
abbrev zz74_r9:List AI:=[
 ⟨some 33,.bin .lss (.t 32) (.t 31),none⟩]
abbrev zz74_r10:List AI:=[
 ⟨some 34,.mv false (.t 32),none⟩,
 ⟨some 35,.iaddr 2 (.t 30) (.t 32),none⟩,
 ⟨some 36,.load true 2 (.t 35) .any,none⟩,
 ⟨some 5,.alloc [(.int .i64 0),.nilS],none⟩,
 ⟨some 4,.mv true (.t 34),none⟩,
 ⟨none,.store 2 (.t 5) (.t 36) .any,none⟩]
abbrev zz74_r11:List AI:=[
 ⟨some 37,.faddr 1 (.t 5),none⟩,
 ⟨some 38,.load false 1 (.t 37) .any,none⟩,
 ⟨some 39,.call (.c (.fn f_zz68)) [(.t 38)] 0,none⟩,
 ⟨some 6,.mv true (.t 39),none⟩]
abbrev zz74_r12:List AI:=[
 ⟨some 40,.mv false (.t 6),none⟩,
 ⟨some 41,.bin .neq (.t 40) (.c (.int .i64 0)),none⟩]
abbrev zz74_r13:List AI:=[
 ⟨some 42,.mv false (.t 6),none⟩,
 ⟨some 2,.mv true (.t 42),none⟩]
abbrev zz74_r14:List AI:=[
 ⟨some 43,.faddr 0 (.t 5),none⟩,
 ⟨some 44,.load false 1 (.t 43) (.site 5),none⟩,
 ⟨some 45,.call (.c (.fn f_zz73)) [(.t 44),(.c (.int .i64 1099511627776))] 1,none⟩,
 ⟨some 46,.not (.t 45),none⟩,
 ⟨some 47,.mv false (.t 46),none⟩,
 ⟨some 48,.mv false (.t 4),some (47,false)⟩,
 ⟨some 49,.bin .gtr (.t 48) (.c (.int .i64 0)),some (47,false)⟩,
 ⟨some 50,.mv false (.t 49),some (47,false)⟩,
 ⟨some 51,.faddr 0 (.t 5),some (50,true)⟩,
 ⟨some 52,.load false 1 (.t 51) (.site 5),some (50,true)⟩,
 ⟨some 53,.faddr 2 (.t 1),some (50,true)⟩,
 ⟨some 54,.load false 1 (.t 53) (.site 1),some (50,true)⟩,
 ⟨some 55,.mv false (.t 4),some (50,true)⟩,
 ⟨some 56,.bin .sub (.t 55) (.c (.int .i64 1)),some (50,true)⟩,
 ⟨some 57,.iaddr 2 (.t 54) (.t 56),some (50,true)⟩,
 ⟨some 58,.faddr 0 (.t 57),some (50,true)⟩,
 ⟨some 59,.load false 1 (.t 58) .foreign,some (50,true)⟩,
 ⟨some 60,.bin .leq (.t 52) (.t 59),some (50,true)⟩,
 ⟨some 61,.pick (.t 50) (.t 60) (.c (.bool false)),some (47,false)⟩,
 ⟨some 62,.pick (.t 47) (.c (.bool true)) (.t 61),none⟩]
abbrev zz74_r15:List AI:=[
 ⟨some 2,.mv true (.c (.int .i64 1)),none⟩]
abbrev zz74_r16:List AI:=[
 ⟨some 63,.bin .add (.t 32) (.c (.int .i64 1)),none⟩,
 ⟨some 32,.mv false (.t 63),none⟩]
abbrev zz74_l0:ACode:=.seq (.reg false zz74_r9) (.seq (.cond (.t 33) (.skip) (.exit 0)) (.seq (.block 1 (.seq (.reg false zz74_r10) (.seq (.seq (.reg false zz74_r11) (.seq (.reg false zz74_r12) (.cond (.t 41) (.seq (.reg false zz74_r13) (.ret)) (.skip)))) (.seq (.reg true zz74_r14) (.cond (.t 62) (.seq (.reg false zz74_r15) (.ret)) (.skip)))))) (.reg false zz74_r16)))
abbrev zz74_r17:List AI:=[
 ⟨some 64,.load true 3 (.t 1) .any,none⟩,
 ⟨some 65,.mkfunc f_zz54 [(.t 1)],none⟩,
 ⟨some 66,.call (.c (.fn f_zz86)) [(.t 64),(.t 65)] 0,none⟩,
 ⟨some 67,.not (.t 66),none⟩]
abbrev zz74_r18:List AI:=[
 ⟨some 2,.mv true (.c (.int .i64 18)),none⟩]
abbrev zz74_r19:List AI:=[
 ⟨some 68,.gn .mkM [],none⟩,
 ⟨some 7,.alloc [.nilM],none⟩,
 ⟨none,.store 1 (.t 7) (.t 68) .any,none⟩]
abbrev zz74_r20:List AI:=[
 ⟨some 69,.mkfunc f_zz55 [(.t 7)],none⟩,
 ⟨some 8,.mv true (.t 69),none⟩]
abbrev zz74_r21:List AI:=[
 ⟨some 70,.load true 3 (.t 1) .any,none⟩,
 ⟨some 71,.mv false (.t 8),none⟩,
 ⟨some 72,.call (.c (.fn f_zz86)) [(.t 70),(.t 71)] 0,none⟩,
 ⟨some 73,.not (.t 72),none⟩]
abbrev zz74_r22:List AI:=[
 ⟨some 2,.mv true (.c (.int .i64 4)),none⟩]
abbrev zz74_r23:List AI:=[
 ⟨some 2,.mv true (.c (.int .i64 0)),none⟩]
abbrev zz74_c:ACode:=.seq (.reg false zz74_r0) (.seq (.seq (.reg false zz74_r1) (.cond (.t 12) (.seq (.reg false zz74_r2) (.ret)) (.skip))) (.seq (.seq (.reg false zz74_r3) (.cond (.t 22) (.seq (.reg false zz74_r4) (.ret)) (.skip))) (.seq (.seq (.reg false zz74_r5) (.seq (.reg false zz74_r6) (.cond (.t 27) (.seq (.reg false zz74_r7) (.ret)) (.skip)))) (.seq (.seq (.reg false zz74_r8) (.block 0 (.loop zz74_l0))) (.seq (.seq (.reg false zz74_r17) (.cond (.t 67) (.seq (.reg false zz74_r18) (.ret)) (.skip))) (.seq (.reg false zz74_r19) (.seq (.reg false zz74_r20) (.seq (.seq (.reg false zz74_r21) (.cond (.t 73) (.seq (.reg false zz74_r22) (.ret)) (.skip))) (.seq (.reg false zz74_r23) (.ret))))))))))
def zz74_F:AFunc:=⟨74,[.tmp 2],zz74_c⟩
theorem zz74_cp:compile Tryz.prog [] f_zz74=some zz74_F:=by kernel_rfl
-- loop 0: [1, 4]
-- loop 1: [1, 5, 6]
-- loop 2: [5, 7]
abbrev zz34_r0:List AI:=[
 ⟨some 1,.box 3 (.t 0),none⟩,
 ⟨some 2,.mv true (.c (.int .i64 0)),none⟩]
abbrev zz34_r1:List AI:=[
 ⟨some 8,.faddr 0 (.t 1),none⟩,
 ⟨some 9,.load false 1 (.t 8) .any,none⟩,
 ⟨some 10,.bin .lss (.t 9) (.c (.int .i64 0)),none⟩,
 ⟨some 11,.mv false (.t 10),none⟩,
 ⟨some 12,.faddr 0 (.t 1),some (11,false)⟩,
 ⟨some 13,.load false 1 (.t 12) .any,some (11,false)⟩,
 ⟨some 14,.bin .gtr (.t 13) (.c (.int .i64 1000000)),some (11,false)⟩,
 ⟨some 15,.pick (.t 11) (.c (.bool true)) (.t 14),none⟩]
abbrev zz34_r2:List AI:=[
 ⟨some 2,.mv true (.c (.int .i64 3)),none⟩]
abbrev zz34_r3:List AI:=[
 ⟨some 16,.faddr 1 (.t 1),none⟩,
 ⟨some 17,.load false 1 (.t 16) .any,none⟩,
 ⟨some 18,.len false (.t 17),none⟩,
 ⟨some 19,.bin .gtr (.t 18) (.c (.int .i64 200)),none⟩,
 ⟨some 20,.mv false (.t 19),none⟩,
 ⟨some 21,.faddr 2 (.t 1),some (20,false)⟩,
 ⟨some 22,.load false 1 (.t 21) .any,some (20,false)⟩,
 ⟨some 23,.len false (.t 22),some (20,false)⟩,
 ⟨some 24,.bin .gtr (.t 23) (.c (.int .i64 10)),some (20,false)⟩,
 ⟨some 25,.pick (.t 20) (.c (.bool true)) (.t 24),none⟩]
abbrev zz34_r4:List AI:=[
 ⟨some 2,.mv true (.c (.int .i64 2)),none⟩]
abbrev zz34_r5:List AI:=[
 ⟨some 26,.faddr 1 (.t 1),none⟩,
 ⟨some 27,.load false 1 (.t 26) .any,none⟩,
 ⟨some 28,.call (.c (.fn f_zz29)) [(.t 27)] 0,none⟩,
 ⟨some 3,.mv true (.t 28),none⟩]
abbrev zz34_r6:List AI:=[
 ⟨some 29,.mv false (.t 3),none⟩,
 ⟨some 30,.bin .neq (.t 29) (.c (.int .i64 0)),none⟩]
abbrev zz34_r7:List AI:=[
 ⟨some 31,.mv false (.t 3),none⟩,
 ⟨some 2,.mv true (.t 31),none⟩]
abbrev zz34_r8:List AI:=[
 ⟨some 4,.mv true (.c (.int .i64 0)),none⟩]
abbrev zz34_r9:List AI:=[
 ⟨some 32,.mv false (.t 4),none⟩,
 ⟨some 33,.faddr 2 (.t 1),none⟩,
 ⟨some 34,.load false 1 (.t 33) .any,none⟩,
 ⟨some 35,.len false (.t 34),none⟩,
 ⟨some 36,.bin .lss (.t 32) (.t 35),none⟩]
abbrev zz34_r10:List AI:=[
 ⟨some 39,.faddr 2 (.t 1),none⟩,
 ⟨some 40,.load false 1 (.t 39) .any,none⟩,
 ⟨some 41,.mv false (.t 4),none⟩,
 ⟨some 42,.iaddr 2 (.t 40) (.t 41),none⟩,
 ⟨some 43,.faddr 1 (.t 42),none⟩,
 ⟨some 44,.load false 1 (.t 43) .any,none⟩,
 ⟨some 45,.call (.c (.fn f_zz29)) [(.t 44)] 0,none⟩,
 ⟨some 3,.mv true (.t 45),none⟩]
abbrev zz34_r11:List AI:=[
 ⟨some 46,.mv false (.t 3),none⟩,
 ⟨some 47,.bin .neq (.t 46) (.c (.int .i64 0)),none⟩]
abbrev zz34_r12:List AI:=[
 ⟨some 48,.mv false (.t 3),none⟩,
 ⟨some 2,.mv true (.t 48),none⟩]
abbrev zz34_r13:List AI:=[
 ⟨some 49,.faddr 2 (.t 1),none⟩,
 ⟨some 50,.load false 1 (.t 49) (.site 1),none⟩,
 ⟨some 51,.mv false (.t 4),none⟩,
 ⟨some 52,.iaddr 2 (.t 50) (.t 51),none⟩,
 ⟨some 53,.faddr 0 (.t 52),none⟩,
 ⟨some 54,.load false 1 (.t 53) .foreign,none⟩,
 ⟨some 55,.bin .lss (.t 54) (.c (.int .i64 0)),none⟩,
 ⟨some 56,.mv false (.t 55),none⟩,
 ⟨some 57,.faddr 2 (.t 1),some (56,false)⟩,
 ⟨some 58,.load false 1 (.t 57) (.site 1),some (56,false)⟩,
 ⟨some 59,.mv false (.t 4),some (56,false)⟩,
 ⟨some 60,.iaddr 2 (.t 58) (.t 59),some (56,false)⟩,
 ⟨some 61,.faddr 0 (.t 60),some (56,false)⟩,
 ⟨some 62,.load false 1 (.t 61) .foreign,some (56,false)⟩,
 ⟨some 63,.bin .gtr (.t 62) (.c (.int .i64 1099511627776)),some (56,false)⟩,
 ⟨some 64,.pick (.t 56) (.c (.bool true)) (.t 63),none⟩,
 ⟨some 65,.mv false (.t 64),none⟩,
 ⟨some 66,.mv false (.t 4),some (65,false)⟩,
 ⟨some 67,.bin .gtr (.t 66) (.c (.int .i64 0)),some (65,false)⟩,
 ⟨some 68,.mv false (.t 67),some (65,false)⟩,
 ⟨some 69,.faddr 2 (.t 1),some (68,true)⟩,
 ⟨some 70,.load false 1 (.t 69) (.site 1),some (68,true)⟩,
 ⟨some 71,.mv false (.t 4),some (68,true)⟩,
 ⟨some 72,.iaddr 2 (.t 70) (.t 71),some (68,true)⟩,
 ⟨some 73,.faddr 0 (.t 72),some (68,true)⟩,
 ⟨some 74,.load false 1 (.t 73) .foreign,some (68,true)⟩,
 ⟨some 75,.faddr 2 (.t 1),some (68,true)⟩,
 ⟨some 76,.load false 1 (.t 75) (.site 1),some (68,true)⟩,
 ⟨some 77,.mv false (.t 4),some (68,true)⟩,
 ⟨some 78,.bin .sub (.t 77) (.c (.int .i64 1)),some (68,true)⟩,
 ⟨some 79,.iaddr 2 (.t 76) (.t 78),some (68,true)⟩,
 ⟨some 80,.faddr 0 (.t 79),some (68,true)⟩,
 ⟨some 81,.load false 1 (.t 80) .foreign,some (68,true)⟩,
 ⟨some 82,.bin .leq (.t 74) (.t 81),some (68,true)⟩,
 ⟨some 83,.pick (.t 68) (.t 82) (.c (.bool false)),some (65,false)⟩,
 ⟨some 84,.pick (.t 65) (.c (.bool true)) (.t 83),none⟩]
abbrev zz34_r14:List AI:=[
 ⟨some 2,.mv true (.c (.int .i64 1)),none⟩]
abbrev zz34_r15:List AI:=[
 ⟨some 37,.mv false (.t 4),none⟩,
 ⟨some 38,.bin .add (.t 37) (.c (.int .i64 1)),none⟩,
 ⟨some 4,.mv true (.t 38),none⟩]
abbrev zz34_l0:ACode:=.seq (.seq (.reg false zz34_r9) (.cond (.t 36) (.skip) (.exit 0))) (.seq (.block 1 (.seq (.reg false zz34_r10) (.seq (.seq (.reg false zz34_r11) (.cond (.t 47) (.seq (.reg false zz34_r12) (.ret)) (.skip))) (.seq (.reg true zz34_r13) (.cond (.t 84) (.seq (.reg false zz34_r14) (.ret)) (.skip)))))) (.reg false zz34_r15))
abbrev zz34_r16:List AI:=[
 ⟨some 85,.load true 3 (.t 1) .any,none⟩,
 ⟨some 86,.call (.c (.fn f_zz52)) [(.t 85)] 0,none⟩,
 ⟨some 5,.mv true (.t 86),none⟩]
abbrev zz34_r17:List AI:=[
 ⟨some 6,.mv true (.c (.int .i64 0)),none⟩]
abbrev zz34_r18:List AI:=[
 ⟨some 87,.mv false (.t 6),none⟩,
 ⟨some 88,.mv false (.t 5),none⟩,
 ⟨some 89,.len false (.t 88),none⟩,
 ⟨some 90,.bin .lss (.t 87) (.t 89),none⟩]
abbrev zz34_r19:List AI:=[
 ⟨some 93,.mv false (.t 5),none⟩,
 ⟨some 94,.mv false (.t 6),none⟩,
 ⟨some 95,.iaddr 4 (.t 93) (.t 94),none⟩,
 ⟨some 96,.faddr 3 (.t 95),none⟩,
 ⟨some 97,.load false 1 (.t 96) .foreign,none⟩,
 ⟨some 98,.faddr 0 (.t 1),none⟩,
 ⟨some 99,.load false 1 (.t 98) (.site 1),none⟩,
 ⟨some 100,.bin .lss (.t 97) (.t 99),none⟩]
abbrev zz34_r20:List AI:=[
 ⟨some 2,.mv true (.c (.int .i64 18)),none⟩]
abbrev zz34_r21:List AI:=[
 ⟨some 91,.mv false (.t 6),none⟩,
 ⟨some 92,.bin .add (.t 91) (.c (.int .i64 1)),none⟩,
 ⟨some 6,.mv true (.t 92),none⟩]
abbrev zz34_l1:ACode:=.seq (.seq (.reg false zz34_r18) (.cond (.t 90) (.skip) (.exit 2))) (.seq (.block 3 (.seq (.reg true zz34_r19) (.cond (.t 100) (.seq (.reg false zz34_r20) (.ret)) (.skip)))) (.reg false zz34_r21))
abbrev zz34_r22:List AI:=[
 ⟨some 7,.mv true (.c (.int .i64 0)),none⟩]
abbrev zz34_r23:List AI:=[
 ⟨some 101,.mv false (.t 7),none⟩,
 ⟨some 102,.mv false (.t 5),none⟩,
 ⟨some 103,.len false (.t 102),none⟩,
 ⟨some 104,.bin .lss (.t 101) (.t 103),none⟩]
abbrev zz34_r24:List AI:=[
 ⟨some 107,.mv false (.t 5),none⟩,
 ⟨some 108,.mv false (.t 5),none⟩,
 ⟨some 109,.mv false (.t 7),none⟩,
 ⟨some 110,.iaddr 4 (.t 108) (.t 109),none⟩,
 ⟨some 111,.faddr 2 (.t 110),none⟩,
 ⟨some 112,.load false 1 (.t 111) .foreign,none⟩,
 ⟨some 114,.mv false (.t 5),none⟩,
 ⟨some 115,.mv false (.t 7),none⟩,
 ⟨some 116,.iaddr 4 (.t 114) (.t 115),none⟩,
 ⟨some 117,.faddr 3 (.t 116),none⟩,
 ⟨some 118,.load false 1 (.t 117) .foreign,none⟩,
 ⟨some 113,.call (.c (.fn f_zz40)) [(.t 107),(.t 112)] 1,none⟩,
 ⟨some 119,.bin .neq (.t 113) (.t 118),none⟩]
abbrev zz34_r25:List AI:=[
 ⟨some 2,.mv true (.c (.int .i64 4)),none⟩]
abbrev zz34_r26:List AI:=[
 ⟨some 105,.mv false (.t 7),none⟩,
 ⟨some 106,.bin .add (.t 105) (.c (.int .i64 1)),none⟩,
 ⟨some 7,.mv true (.t 106),none⟩]
abbrev zz34_l2:ACode:=.seq (.seq (.reg false zz34_r23) (.cond (.t 104) (.skip) (.exit 4))) (.seq (.block 5 (.seq (.reg true zz34_r24) (.cond (.t 119) (.seq (.reg false zz34_r25) (.ret)) (.skip)))) (.reg false zz34_r26))
abbrev zz34_r27:List AI:=[
 ⟨some 2,.mv true (.c (.int .i64 0)),none⟩]
abbrev zz34_c:ACode:=.seq (.reg false zz34_r0) (.seq (.seq (.reg false zz34_r1) (.cond (.t 15) (.seq (.reg false zz34_r2) (.ret)) (.skip))) (.seq (.seq (.reg false zz34_r3) (.cond (.t 25) (.seq (.reg false zz34_r4) (.ret)) (.skip))) (.seq (.reg false zz34_r5) (.seq (.seq (.reg false zz34_r6) (.cond (.t 30) (.seq (.reg false zz34_r7) (.ret)) (.skip))) (.seq (.seq (.reg false zz34_r8) (.block 0 (.loop zz34_l0))) (.seq (.reg false zz34_r16) (.seq (.seq (.reg false zz34_r17) (.block 2 (.loop zz34_l1))) (.seq (.seq (.reg false zz34_r22) (.block 4 (.loop zz34_l2))) (.seq (.reg false zz34_r27) (.ret))))))))))
def zz34_F:AFunc:=⟨120,[.tmp 2],zz34_c⟩
theorem zz34_cp:compile Tryz.prog [] f_zz34=some zz34_F:=by kernel_rfl
-- loop 0: [2, 3, 6]
abbrev zz41_r0:List AI:=[
 ⟨some 2,.box 3 (.t 0),none⟩,
 ⟨some 3,.box 3 (.t 1),none⟩,
 ⟨some 4,.mv true (.c (.bool false)),none⟩]
abbrev zz41_r1:List AI:=[
 ⟨some 7,.faddr 1 (.t 2),none⟩,
 ⟨some 8,.load false 1 (.t 7) .any,none⟩,
 ⟨some 9,.faddr 1 (.t 3),none⟩,
 ⟨some 10,.load false 1 (.t 9) .any,none⟩,
 ⟨some 11,.call (.c (.fn f_zz19)) [(.t 8),(.t 10)] 0,none⟩,
 ⟨some 5,.mv true (.t 11),none⟩]
abbrev zz41_r2:List AI:=[
 ⟨some 12,.mv false (.t 5),none⟩,
 ⟨some 13,.not (.t 12),none⟩,
 ⟨some 14,.mv false (.t 13),none⟩,
 ⟨some 15,.faddr 0 (.t 2),some (14,false)⟩,
 ⟨some 16,.load false 1 (.t 15) .any,some (14,false)⟩,
 ⟨some 17,.faddr 0 (.t 3),some (14,false)⟩,
 ⟨some 18,.load false 1 (.t 17) .any,some (14,false)⟩,
 ⟨some 19,.bin .neq (.t 16) (.t 18),some (14,false)⟩,
 ⟨some 20,.pick (.t 14) (.c (.bool true)) (.t 19),none⟩,
 ⟨some 21,.mv false (.t 20),none⟩,
 ⟨some 22,.faddr 2 (.t 2),some (21,false)⟩,
 ⟨some 23,.load false 1 (.t 22) .any,some (21,false)⟩,
 ⟨some 24,.len false (.t 23),some (21,false)⟩,
 ⟨some 25,.faddr 2 (.t 3),some (21,false)⟩,
 ⟨some 26,.load false 1 (.t 25) .any,some (21,false)⟩,
 ⟨some 27,.len false (.t 26),some (21,false)⟩,
 ⟨some 28,.bin .neq (.t 24) (.t 27),some (21,false)⟩,
 ⟨some 29,.pick (.t 21) (.c (.bool true)) (.t 28),none⟩]
abbrev zz41_r3:List AI:=[
 ⟨some 4,.mv true (.c (.bool false)),none⟩]
abbrev zz41_r4:List AI:=[
 ⟨some 6,.mv true (.c (.int .i64 0)),none⟩]
abbrev zz41_r5:List AI:=[
 ⟨some 30,.mv false (.t 6),none⟩,
 ⟨some 31,.faddr 2 (.t 2),none⟩,
 ⟨some 32,.load false 1 (.t 31) .any,none⟩,
 ⟨some 33,.len false (.t 32),none⟩,
 ⟨some 34,.bin .lss (.t 30) (.t 33),none⟩]
abbrev zz41_r6:List AI:=[
 ⟨some 37,.faddr 2 (.t 2),none⟩,
 ⟨some 38,.load false 1 (.t 37) (.site 2),none⟩,
 ⟨some 39,.mv false (.t 6),none⟩,
 ⟨some 40,.iaddr 2 (.t 38) (.t 39),none⟩,
 ⟨some 41,.faddr 1 (.t 40),none⟩,
 ⟨some 42,.load false 1 (.t 41) .foreign,none⟩,
 ⟨some 43,.faddr 2 (.t 3),none⟩,
 ⟨some 44,.load false 1 (.t 43) (.site 3),none⟩,
 ⟨some 45,.mv false (.t 6),none⟩,
 ⟨some 46,.iaddr 2 (.t 44) (.t 45),none⟩,
 ⟨some 47,.faddr 1 (.t 46),none⟩,
 ⟨some 48,.load false 1 (.t 47) .foreign,none⟩,
 ⟨some 49,.call (.c (.fn f_zz19)) [(.t 42),(.t 48)] 1,none⟩,
 ⟨some 5,.mv true (.t 49),none⟩]
abbrev zz41_r7:List AI:=[
 ⟨some 50,.mv false (.t 5),none⟩,
 ⟨some 51,.not (.t 50),none⟩,
 ⟨some 52,.mv false (.t 51),none⟩,
 ⟨some 53,.faddr 2 (.t 2),some (52,false)⟩,
 ⟨some 54,.load false 1 (.t 53) (.site 2),some (52,false)⟩,
 ⟨some 55,.mv false (.t 6),some (52,false)⟩,
 ⟨some 56,.iaddr 2 (.t 54) (.t 55),some (52,false)⟩,
 ⟨some 57,.faddr 0 (.t 56),some (52,false)⟩,
 ⟨some 58,.load false 1 (.t 57) .foreign,some (52,false)⟩,
 ⟨some 59,.faddr 2 (.t 3),some (52,false)⟩,
 ⟨some 60,.load false 1 (.t 59) (.site 3),some (52,false)⟩,
 ⟨some 61,.mv false (.t 6),some (52,false)⟩,
 ⟨some 62,.iaddr 2 (.t 60) (.t 61),some (52,false)⟩,
 ⟨some 63,.faddr 0 (.t 62),some (52,false)⟩,
 ⟨some 64,.load false 1 (.t 63) .foreign,some (52,false)⟩,
 ⟨some 65,.bin .neq (.t 58) (.t 64),some (52,false)⟩,
 ⟨some 66,.pick (.t 52) (.c (.bool true)) (.t 65),none⟩]
abbrev zz41_r8:List AI:=[
 ⟨some 4,.mv true (.c (.bool false)),none⟩]
abbrev zz41_r9:List AI:=[
 ⟨some 35,.mv false (.t 6),none⟩,
 ⟨some 36,.bin .add (.t 35) (.c (.int .i64 1)),none⟩,
 ⟨some 6,.mv true (.t 36),none⟩]
abbrev zz41_l0:ACode:=.seq (.seq (.reg false zz41_r5) (.cond (.t 34) (.skip) (.exit 0))) (.seq (.block 1 (.seq (.reg true zz41_r6) (.seq (.reg true zz41_r7) (.cond (.t 66) (.seq (.reg false zz41_r8) (.ret)) (.skip))))) (.reg false zz41_r9))
abbrev zz41_r10:List AI:=[
 ⟨some 4,.mv true (.c (.bool true)),none⟩]
abbrev zz41_c:ACode:=.seq (.reg false zz41_r0) (.seq (.reg false zz41_r1) (.seq (.seq (.reg false zz41_r2) (.cond (.t 29) (.seq (.reg false zz41_r3) (.ret)) (.skip))) (.seq (.seq (.reg false zz41_r4) (.block 0 (.loop zz41_l0))) (.seq (.reg false zz41_r10) (.ret)))))
def zz41_F:AFunc:=⟨67,[.tmp 4],zz41_c⟩
theorem zz41_cp:compile Tryz.prog [] f_zz41=some zz41_F:=by kernel_rfl
-- loop 0: [0, 1, 5]
abbrev zz19_r0:List AI:=[
 ⟨some 4,.mv true (.c (.bool false)),none⟩]
abbrev zz19_r1:List AI:=[
 ⟨some 6,.mv false (.t 0),none⟩,
 ⟨some 7,.len false (.t 6),none⟩,
 ⟨some 8,.mv false (.t 1),none⟩,
 ⟨some 9,.len false (.t 8),none⟩,
 ⟨some 10,.bin .neq (.t 7) (.t 9),none⟩]
abbrev zz19_r2:List AI:=[
 ⟨some 4,.mv true (.c (.bool false)),none⟩]
abbrev zz19_r3:List AI:=[
 ⟨some 5,.mv true (.c (.int .i64 0)),none⟩]
abbrev zz19_r4:List AI:=[
 ⟨some 11,.mv false (.t 5),none⟩,
 ⟨some 12,.mv false (.t 0),none⟩,
 ⟨some 13,.len false (.t 12),none⟩,
 ⟨some 14,.bin .lss (.t 11) (.t 13),none⟩]
abbrev zz19_r5:List AI:=[
 ⟨some 17,.mv false (.t 0),none⟩,
 ⟨some 18,.mv false (.t 5),none⟩,
 ⟨some 19,.iaddr 4 (.t 17) (.t 18),none⟩,
 ⟨some 20,.load true 4 (.t 19) .foreign,none⟩,
 ⟨some 21,.mv false (.t 1),none⟩,
 ⟨some 22,.mv false (.t 5),none⟩,
 ⟨some 23,.iaddr 4 (.t 21) (.t 22),none⟩,
 ⟨some 24,.load true 4 (.t 23) .foreign,none⟩,
 ⟨some 25,.eqs true [.s,.i,.i,.i] (.t 20) (.t 24),none⟩]
abbrev zz19_r6:List AI:=[
 ⟨some 4,.mv true (.c (.bool false)),none⟩]
abbrev zz19_r7:List AI:=[
 ⟨some 15,.mv false (.t 5),none⟩,
 ⟨some 16,.bin .add (.t 15) (.c (.int .i64 1)),none⟩,
 ⟨some 5,.mv true (.t 16),none⟩]
abbrev zz19_l0:ACode:=.seq (.seq (.reg false zz19_r4) (.cond (.t 14) (.skip) (.exit 0))) (.seq (.block 1 (.seq (.reg true zz19_r5) (.cond (.t 25) (.seq (.reg false zz19_r6) (.ret)) (.skip)))) (.reg false zz19_r7))
abbrev zz19_r8:List AI:=[
 ⟨some 4,.mv true (.c (.bool true)),none⟩]
abbrev zz19_c:ACode:=.seq (.reg false zz19_r0) (.seq (.seq (.reg false zz19_r1) (.cond (.t 10) (.seq (.reg false zz19_r2) (.ret)) (.skip))) (.seq (.seq (.reg false zz19_r3) (.block 0 (.loop zz19_l0))) (.seq (.reg false zz19_r8) (.ret))))
def zz19_F:AFunc:=⟨26,[.tmp 4],zz19_c⟩
theorem zz19_cp:compile Tryz.prog [] f_zz19=some zz19_F:=by kernel_rfl
-- loop 0: [1, 3, 4]
abbrev zz52_r0:List AI:=[
 ⟨some 1,.box 3 (.t 0),none⟩,
 ⟨some 2,.mv true (.c .nilS),none⟩]
abbrev zz52_r1:List AI:=[
 ⟨some 5,.mkslice 4 0 (.agg [(.str []),(.int .i64 0),(.int .i64 0),(.int .i64 0)]) [],none⟩,
 ⟨some 6,.faddr 1 (.t 1),none⟩,
 ⟨some 7,.load false 1 (.t 6) .any,none⟩,
 ⟨some 8,.append 4 40 (.t 5) (.t 7),none⟩,
 ⟨some 3,.mv true (.t 8),none⟩]
abbrev zz52_r2:List AI:=[
 ⟨some 4,.mv true (.c (.int .i64 0)),none⟩]
abbrev zz52_r3:List AI:=[
 ⟨some 9,.mv false (.t 4),none⟩,
 ⟨some 10,.faddr 2 (.t 1),none⟩,
 ⟨some 11,.load false 1 (.t 10) .any,none⟩,
 ⟨some 12,.len false (.t 11),none⟩,
 ⟨some 13,.bin .lss (.t 9) (.t 12),none⟩]
abbrev zz52_r4:List AI:=[
 ⟨some 16,.mv true (.t 3),none⟩,
 ⟨some 17,.faddr 2 (.t 1),none⟩,
 ⟨some 18,.load false 1 (.t 17) .any,none⟩,
 ⟨some 19,.mv false (.t 4),none⟩,
 ⟨some 20,.iaddr 2 (.t 18) (.t 19),none⟩,
 ⟨some 21,.faddr 1 (.t 20),none⟩,
 ⟨some 22,.load false 1 (.t 21) .any,none⟩,
 ⟨some 23,.append 4 40 (.t 16) (.t 22),none⟩,
 ⟨some 3,.mv true (.t 23),none⟩]
abbrev zz52_r5:List AI:=[
 ⟨some 14,.mv false (.t 4),none⟩,
 ⟨some 15,.bin .add (.t 14) (.c (.int .i64 1)),none⟩,
 ⟨some 4,.mv true (.t 15),none⟩]
abbrev zz52_l0:ACode:=.seq (.seq (.reg false zz52_r3) (.cond (.t 13) (.skip) (.exit 0))) (.seq (.block 1 (.reg false zz52_r4)) (.reg false zz52_r5))
abbrev zz52_r6:List AI:=[
 ⟨some 24,.mv false (.t 3),none⟩,
 ⟨some 2,.mv true (.t 24),none⟩]
abbrev zz52_c:ACode:=.seq (.reg false zz52_r0) (.seq (.reg false zz52_r1) (.seq (.seq (.reg false zz52_r2) (.block 0 (.loop zz52_l0))) (.seq (.reg false zz52_r6) (.ret))))
def zz52_F:AFunc:=⟨25,[.tmp 2],zz52_c⟩
theorem zz52_cp:compile Tryz.prog [] f_zz52=some zz52_F:=by kernel_rfl
-- loop 0: [1, 4, 7, 24, 25, 26]
abbrev zz62_r0:List AI:=[
 ⟨some 2,.box 3 (.t 0),none⟩,
 ⟨some 4,.alloc [.nilS],none⟩,
 ⟨some 5,.mv true (.c (.int .i64 0)),none⟩]
abbrev zz62_r1:List AI:=[
 ⟨some 10,.load true 3 (.t 2) .any,none⟩,
 ⟨some 11,.call (.c (.fn f_zz74)) [(.t 10)] 0,none⟩,
 ⟨some 6,.mv true (.t 11),none⟩]
abbrev zz62_r2:List AI:=[
 ⟨some 12,.mv false (.t 6),none⟩,
 ⟨some 13,.bin .neq (.t 12) (.c (.int .i64 0)),none⟩]
abbrev zz62_r3:List AI:=[
 ⟨some 14,.build [.nilS] [],none⟩,
 ⟨some 15,.mv false (.t 6),none⟩,
 ⟨none,.store 1 (.t 4) (.t 14) .any,none⟩,
 ⟨some 5,.mv true (.t 15),none⟩]
abbrev zz62_r4:List AI:=[
 ⟨some 16,.mv false (.t 1),none⟩,
 ⟨some 17,.len false (.t 16),none⟩,
 ⟨some 18,.faddr 1 (.t 2),none⟩,
 ⟨some 19,.load false 1 (.t 18) .any,none⟩,
 ⟨some 20,.len false (.t 19),none⟩,
 ⟨some 21,.bin .neq (.t 17) (.t 20),none⟩]
abbrev zz62_r5:List AI:=[
 ⟨some 22,.build [.nilS] [],none⟩,
 ⟨none,.store 1 (.t 4) (.t 22) .any,none⟩,
 ⟨some 5,.mv true (.c (.int .i64 1)),none⟩]
abbrev zz62_r6:List AI:=[
 ⟨some 7,.alloc [.nilS],none⟩]
abbrev zz62_r7:List AI:=[
 ⟨some 23,.faddr 1 (.t 2),none⟩,
 ⟨some 24,.load false 1 (.t 23) .any,none⟩,
 ⟨some 25,.len false (.t 24),none⟩,
 ⟨some 26,.mv false (.c (.int .i64 0)),none⟩]
abbrev zz62_r8:List AI:=[
 ⟨some 27,.bin .lss (.t 26) (.t 25),none⟩]
abbrev zz62_r9:List AI:=[
 ⟨some 28,.mv false (.t 26),none⟩,
 ⟨some 29,.iaddr 4 (.t 24) (.t 26),none⟩,
 ⟨some 30,.load true 4 (.t 29) .any,none⟩,
 ⟨some 9,.alloc [(.str []),(.int .i64 0),(.int .i64 0),(.int .i64 0)],none⟩,
 ⟨some 8,.mv true (.t 28),none⟩,
 ⟨none,.store 4 (.t 9) (.t 30) .any,none⟩]
abbrev zz62_r10:List AI:=[
 ⟨some 31,.mv false (.t 1),none⟩,
 ⟨some 32,.mv false (.t 8),none⟩,
 ⟨some 33,.iaddr 1 (.t 31) (.t 32),none⟩,
 ⟨some 34,.load false 1 (.t 33) .foreign,none⟩,
 ⟨some 35,.len true (.t 34),none⟩,
 ⟨some 36,.faddr 0 (.t 9),none⟩,
 ⟨some 37,.load false 1 (.t 36) (.site 9),none⟩,
 ⟨some 38,.len true (.t 37),none⟩,
 ⟨some 39,.bin .neq (.t 35) (.t 38),none⟩]
abbrev zz62_r11:List AI:=[
 ⟨some 40,.build [.nilS] [],none⟩,
 ⟨none,.store 1 (.t 4) (.t 40) .any,none⟩,
 ⟨some 5,.mv true (.c (.int .i64 1)),none⟩]
abbrev zz62_r12:List AI:=[
 ⟨some 41,.faddr 0 (.t 7),none⟩,
 ⟨some 42,.load false 1 (.t 41) (.site 7),none⟩,
 ⟨some 43,.faddr 1 (.t 9),none⟩,
 ⟨some 44,.load false 1 (.t 43) (.site 9),none⟩,
 ⟨some 45,.faddr 2 (.t 9),none⟩,
 ⟨some 46,.load false 1 (.t 45) (.site 9),none⟩,
 ⟨some 47,.faddr 3 (.t 9),none⟩,
 ⟨some 48,.load false 1 (.t 47) (.site 9),none⟩,
 ⟨some 49,.faddr 0 (.t 9),none⟩,
 ⟨some 50,.load false 1 (.t 49) (.site 9),none⟩,
 ⟨some 51,.mv false (.t 1),none⟩,
 ⟨some 52,.mv false (.t 8),none⟩,
 ⟨some 53,.iaddr 1 (.t 51) (.t 52),none⟩,
 ⟨some 54,.load false 1 (.t 53) .foreign,none⟩,
 ⟨some 55,.call (.c (.fn f_zz102)) [(.t 50),(.t 54)] 1,none⟩,
 ⟨some 56,.build [(.int .i64 0),(.int .i64 0),(.int .i64 0),(.str [])] [(0,1,(.t 44)),(1,1,(.t 46)),(2,1,(.t 48)),(3,1,(.t 55))],none⟩,
 ⟨some 57,.mkslice 4 1 (.agg [(.int .i64 0),(.int .i64 0),(.int .i64 0),(.str [])]) [(0,(.t 56))],none⟩,
 ⟨some 58,.appG 4 40 [(.int .i64 0),(.int .i64 0),(.int .i64 0),(.str [])] (.t 42) (.t 57),none⟩,
 ⟨some 59,.faddr 0 (.t 7),none⟩,
 ⟨none,.store 1 (.t 59) (.t 58) (.site 7),none⟩]
abbrev zz62_r13:List AI:=[
 ⟨some 60,.bin .add (.t 26) (.c (.int .i64 1)),none⟩,
 ⟨some 26,.mv false (.t 60),none⟩]
abbrev zz62_l0:ACode:=.seq (.reg false zz62_r8) (.seq (.cond (.t 27) (.skip) (.exit 0)) (.seq (.block 1 (.seq (.reg false zz62_r9) (.seq (.seq (.reg true zz62_r10) (.cond (.t 39) (.seq (.reg false zz62_r11) (.ret)) (.skip))) (.reg true zz62_r12)))) (.reg false zz62_r13)))
abbrev zz62_r14:List AI:=[
 ⟨some 61,.load true 1 (.t 7) .any,none⟩,
 ⟨none,.store 1 (.t 4) (.t 61) .any,none⟩,
 ⟨some 5,.mv true (.c (.int .i64 0)),none⟩]
abbrev zz62_c:ACode:=.seq (.reg false zz62_r0) (.seq (.seq (.reg false zz62_r1) (.seq (.reg false zz62_r2) (.cond (.t 13) (.seq (.reg false zz62_r3) (.ret)) (.skip)))) (.seq (.seq (.reg false zz62_r4) (.cond (.t 21) (.seq (.reg false zz62_r5) (.ret)) (.skip))) (.seq (.reg false zz62_r6) (.seq (.seq (.reg false zz62_r7) (.block 0 (.loop zz62_l0))) (.seq (.reg false zz62_r14) (.ret))))))
def zz62_F:AFunc:=⟨62,[.cell 4 true 1,.tmp 5],zz62_c⟩
theorem zz62_cp:compile Tryz.prog [58] f_zz62=some zz62_F:=by kernel_rfl
-- loop 0: [2, 3, 6, 10, 36, 37, 38]
abbrev zz63_r0:List AI:=[
 ⟨some 3,.box 3 (.t 0),none⟩,
 ⟨some 4,.box 1 (.t 1),none⟩,
 ⟨some 6,.alloc [(.int .i64 0),.nilS,.nilS],none⟩,
 ⟨some 7,.mv true (.c (.int .i64 0)),none⟩,
 ⟨some 8,.mv true (.c (.int .i64 0)),none⟩]
abbrev zz63_r1:List AI:=[
 ⟨some 17,.load true 3 (.t 3) .any,none⟩,
 ⟨some 18,.call (.c (.fn f_zz74)) [(.t 17)] 0,none⟩,
 ⟨some 9,.mv true (.t 18),none⟩]
abbrev zz63_r2:List AI:=[
 ⟨some 19,.mv false (.t 9),none⟩,
 ⟨some 20,.bin .neq (.t 19) (.c (.int .i64 0)),none⟩]
abbrev zz63_r3:List AI:=[
 ⟨some 21,.load true 3 (.t 3) .any,none⟩,
 ⟨some 22,.mv false (.t 9),none⟩,
 ⟨none,.store 3 (.t 6) (.t 21) .any,none⟩,
 ⟨some 7,.mv true (.c (.int .i64 0)),none⟩,
 ⟨some 8,.mv true (.t 22),none⟩]
abbrev zz63_r4:List AI:=[
 ⟨some 23,.faddr 0 (.t 4),none⟩,
 ⟨some 24,.load false 1 (.t 23) .any,none⟩,
 ⟨some 25,.len false (.t 24),none⟩,
 ⟨some 26,.bin .gtr (.t 25) (.c (.int .i64 200)),none⟩]
abbrev zz63_r5:List AI:=[
 ⟨some 27,.load true 3 (.t 3) .any,none⟩,
 ⟨none,.store 3 (.t 6) (.t 27) .any,none⟩,
 ⟨some 7,.mv true (.c (.int .i64 0)),none⟩,
 ⟨some 8,.mv true (.c (.int .i64 2)),none⟩]
abbrev zz63_r6:List AI:=[
 ⟨some 28,.mv false (.t 2),none⟩,
 ⟨some 29,.len false (.t 28),none⟩,
 ⟨some 30,.faddr 0 (.t 4),none⟩,
 ⟨some 31,.load false 1 (.t 30) .any,none⟩,
 ⟨some 32,.len false (.t 31),none⟩,
 ⟨some 33,.bin .neq (.t 29) (.t 32),none⟩]
abbrev zz63_r7:List AI:=[
 ⟨some 34,.load true 3 (.t 3) .any,none⟩,
 ⟨none,.store 3 (.t 6) (.t 34) .any,none⟩,
 ⟨some 7,.mv true (.c (.int .i64 0)),none⟩,
 ⟨some 8,.mv true (.c (.int .i64 1)),none⟩]
abbrev zz63_r8:List AI:=[
 ⟨some 10,.mv true (.c (.int .i64 0)),none⟩]
abbrev zz63_r9:List AI:=[
 ⟨some 35,.faddr 0 (.t 4),none⟩,
 ⟨some 36,.load false 1 (.t 35) .any,none⟩,
 ⟨some 37,.len false (.t 36),none⟩,
 ⟨some 38,.mv false (.c (.int .i64 0)),none⟩]
abbrev zz63_r10:List AI:=[
 ⟨some 39,.bin .lss (.t 38) (.t 37),none⟩]
abbrev zz63_r11:List AI:=[
 ⟨some 40,.mv false (.t 38),none⟩,
 ⟨some 41,.iaddr 4 (.t 36) (.t 38),none⟩,
 ⟨some 42,.load true 4 (.t 41) .any,none⟩,
 ⟨some 12,.alloc [(.int .i64 0),(.int .i64 0),(.int .i64 0),(.str [])],none⟩,
 ⟨some 11,.mv true (.t 40),none⟩,
 ⟨none,.store 4 (.t 12) (.t 42) .any,none⟩]
abbrev zz63_r12:List AI:=[
 ⟨some 43,.mv false (.t 2),none⟩,
 ⟨some 44,.mv false (.t 11),none⟩,
 ⟨some 45,.iaddr 1 (.t 43) (.t 44),none⟩,
 ⟨some 46,.load false 1 (.t 45) .foreign,none⟩,
 ⟨some 47,.len true (.t 46),none⟩,
 ⟨some 48,.faddr 3 (.t 12),none⟩,
 ⟨some 49,.load false 1 (.t 48) (.site 12),none⟩,
 ⟨some 50,.len true (.t 49),none⟩,
 ⟨some 51,.bin .neq (.t 47) (.t 50),none⟩]
abbrev zz63_r13:List AI:=[
 ⟨some 52,.faddr 3 (.t 12),none⟩,
 ⟨some 53,.load false 1 (.t 52) (.site 12),none⟩,
 ⟨some 54,.mv false (.t 2),none⟩,
 ⟨some 55,.mv false (.t 11),none⟩,
 ⟨some 56,.iaddr 1 (.t 54) (.t 55),none⟩,
 ⟨some 57,.load false 1 (.t 56) .foreign,none⟩,
 ⟨some 59,.faddr 0 (.t 12),none⟩,
 ⟨some 60,.load false 1 (.t 59) (.site 12),none⟩,
 ⟨some 61,.faddr 1 (.t 12),none⟩,
 ⟨some 62,.load false 1 (.t 61) (.site 12),none⟩,
 ⟨some 63,.faddr 2 (.t 12),none⟩,
 ⟨some 64,.load false 1 (.t 63) (.site 12),none⟩,
 ⟨some 13,.alloc [(.str []),(.int .i64 0),(.int .i64 0),(.int .i64 0)],none⟩,
 ⟨some 58,.call (.c (.fn f_zz102)) [(.t 53),(.t 57)] 1,none⟩,
 ⟨some 65,.build [(.str []),(.int .i64 0),(.int .i64 0),(.int .i64 0)] [(0,1,(.t 58)),(1,1,(.t 60)),(2,1,(.t 62)),(3,1,(.t 64))],none⟩,
 ⟨none,.store 4 (.t 13) (.t 65) (.site 13),none⟩]
abbrev zz63_r14:List AI:=[
 ⟨some 66,.load true 3 (.t 3) .any,none⟩,
 ⟨some 67,.faddr 2 (.t 13),none⟩,
 ⟨some 68,.load false 1 (.t 67) .any,none⟩,
 ⟨some 69,.call (.c (.fn f_zz69)) [(.t 66),(.t 68)] 0,none⟩,
 ⟨some 14,.mv true (.t 69),none⟩]
abbrev zz63_r15:List AI:=[
 ⟨some 71,.faddr 1 (.t 3),none⟩,
 ⟨some 72,.load false 1 (.t 71) .any,none⟩,
 ⟨some 73,.load true 4 (.t 13) .any,none⟩,
 ⟨some 74,.call (.c (.fn f_zz0)) [(.t 72),(.t 73),(.c (.fn f_zz76))] 0,none⟩,
 ⟨some 70,.mv false (.t 74),none⟩,
 ⟨some 75,.ext (.t 70) 0,none⟩,
 ⟨some 76,.ext (.t 70) 1,none⟩,
 ⟨some 15,.mv true (.t 75),none⟩,
 ⟨some 16,.mv true (.t 76),none⟩]
abbrev zz63_r16:List AI:=[
 ⟨some 77,.load true 4 (.t 13) .any,none⟩,
 ⟨some 78,.call (.c (.fn f_zz78)) [(.t 77)] 0,none⟩,
 ⟨some 79,.not (.t 78),none⟩,
 ⟨some 80,.mv false (.t 79),none⟩,
 ⟨some 81,.faddr 3 (.t 13),some (80,false)⟩,
 ⟨some 82,.load false 1 (.t 81) .any,some (80,false)⟩,
 ⟨some 83,.faddr 0 (.t 3),some (80,false)⟩,
 ⟨some 84,.load false 1 (.t 83) .any,some (80,false)⟩,
 ⟨some 85,.bin .lss (.t 82) (.t 84),some (80,false)⟩,
 ⟨some 86,.pick (.t 80) (.c (.bool true)) (.t 85),none⟩,
 ⟨some 87,.mv false (.t 86),none⟩,
 ⟨some 88,.mv false (.t 16),some (87,false)⟩,
 ⟨some 89,.pick (.t 87) (.c (.bool true)) (.t 88),none⟩,
 ⟨some 90,.mv false (.t 89),none⟩,
 ⟨some 91,.mv false (.t 14),some (90,false)⟩,
 ⟨some 92,.bin .geq (.t 91) (.c (.int .i64 0)),some (90,false)⟩,
 ⟨some 93,.mv false (.t 92),some (90,false)⟩,
 ⟨some 94,.mv false (.t 14),some (93,true)⟩,
 ⟨some 95,.faddr 3 (.t 13),some (93,true)⟩,
 ⟨some 96,.load false 1 (.t 95) .any,some (93,true)⟩,
 ⟨some 97,.bin .neq (.t 94) (.t 96),some (93,true)⟩,
 ⟨some 98,.pick (.t 93) (.t 97) (.c (.bool false)),some (90,false)⟩,
 ⟨some 99,.pick (.t 90) (.c (.bool true)) (.t 98),none⟩,
 ⟨some 100,.mv false (.t 99),none⟩,
 ⟨some 101,.faddr 1 (.t 3),some (100,false)⟩,
 ⟨some 102,.load false 1 (.t 101) .any,some (100,false)⟩,
 ⟨some 103,.len false (.t 102),some (100,false)⟩,
 ⟨some 104,.bin .eql (.t 103) (.c (.int .i64 200)),some (100,false)⟩,
 ⟨some 105,.pick (.t 100) (.c (.bool true)) (.t 104),none⟩]
abbrev zz63_r17:List AI:=[
 ⟨some 106,.load true 3 (.t 3) .any,none⟩,
 ⟨some 107,.load true 4 (.t 13) .any,none⟩,
 ⟨some 108,.call (.c (.fn f_zz75)) [(.t 106),(.t 107)] 0,none⟩,
 ⟨none,.store 3 (.t 3) (.t 108) .any,none⟩]
abbrev zz63_r18:List AI:=[
 ⟨some 109,.mv false (.t 10),none⟩,
 ⟨some 110,.bin .add (.t 109) (.c (.int .i64 1)),none⟩,
 ⟨some 10,.mv true (.t 110),none⟩]
abbrev zz63_r19:List AI:=[
 ⟨some 111,.bin .add (.t 38) (.c (.int .i64 1)),none⟩,
 ⟨some 38,.mv false (.t 111),none⟩]
abbrev zz63_l0:ACode:=.seq (.reg false zz63_r10) (.seq (.cond (.t 39) (.skip) (.exit 0)) (.seq (.block 1 (.seq (.reg false zz63_r11) (.seq (.seq (.reg true zz63_r12) (.cond (.t 51) (.exit 1) (.skip))) (.seq (.reg true zz63_r13) (.seq (.reg false zz63_r14) (.seq (.reg false zz63_r15) (.seq (.seq (.reg false zz63_r16) (.cond (.t 105) (.exit 1) (.skip))) (.seq (.reg false zz63_r17) (.reg false zz63_r18))))))))) (.reg false zz63_r19)))
abbrev zz63_r20:List AI:=[
 ⟨some 112,.load true 3 (.t 3) .any,none⟩,
 ⟨some 113,.mv false (.t 10),none⟩,
 ⟨none,.store 3 (.t 6) (.t 112) .any,none⟩,
 ⟨some 7,.mv true (.t 113),none⟩,
 ⟨some 8,.mv true (.c (.int .i64 0)),none⟩]
abbrev zz63_c:ACode:=.seq (.reg false zz63_r0) (.seq (.seq (.reg false zz63_r1) (.seq (.reg false zz63_r2) (.cond (.t 20) (.seq (.reg false zz63_r3) (.ret)) (.skip)))) (.seq (.seq (.reg false zz63_r4) (.cond (.t 26) (.seq (.reg false zz63_r5) (.ret)) (.skip))) (.seq (.seq (.reg false zz63_r6) (.cond (.t 33) (.seq (.reg false zz63_r7) (.ret)) (.skip))) (.seq (.reg false zz63_r8) (.seq (.seq (.reg false zz63_r9) (.block 0 (.loop zz63_l0))) (.seq (.reg false zz63_r20) (.ret)))))))
def zz63_F:AFunc:=⟨114,[.cell 6 true 3,.tmp 7,.tmp 8],zz63_c⟩
theorem zz63_cp:compile Tryz.prog [] f_zz63=some zz63_F:=by kernel_rfl
abbrev zz102_r0:List AI:=[
 ⟨some 2,.gn (.box 1) [(.t 0)],none⟩,
 ⟨some 3,.gn (.box 1) [(.t 1)],none⟩,
 ⟨some 4,.mv true (.c (.str [])),none⟩]
abbrev zz102_r1:List AI:=[
 ⟨some 5,.load false 1 (.t 2) .any,none⟩,
 ⟨some 6,.len true (.t 5),none⟩,
 ⟨some 7,.load false 1 (.t 3) .any,none⟩,
 ⟨some 8,.len true (.t 7),none⟩,
 ⟨some 9,.bin .lss (.t 6) (.t 8),none⟩]
abbrev zz102_r2:List AI:=[
 ⟨some 10,.load false 1 (.t 3) .any,none⟩,
 ⟨some 11,.load false 1 (.t 2) .any,none⟩,
 ⟨none,.store 1 (.t 2) (.t 10) .any,none⟩,
 ⟨none,.store 1 (.t 3) (.t 11) .any,none⟩]
abbrev zz102_r3:List AI:=[
 ⟨some 12,.load false 1 (.t 2) .any,none⟩,
 ⟨some 13,.len true (.t 12),none⟩,
 ⟨some 14,.gd (.clo f_zz99) [(.t 3),(.t 2)],none⟩,
 ⟨some 15,.call (.c (.fn f_zz100)) [(.t 13),(.t 14)] 0,none⟩,
 ⟨some 4,.mv true (.t 15),none⟩]
abbrev zz102_c:ACode:=.seq (.reg false zz102_r0) (.seq (.seq (.reg false zz102_r1) (.cond (.t 9) (.reg false zz102_r2) (.skip))) (.seq (.reg false zz102_r3) (.ret)))
def zz102_F:AFunc:=⟨16,[.tmp 4],zz102_c⟩
theorem zz102_cp:compile Tryz.prog [2,3,14] f_zz102=some zz102_F:=by kernel_rfl
-- loop 0: [1, 2, 4, 6]
abbrev zz38_r0:List AI:=[
 ⟨some 2,.box 3 (.t 0),none⟩,
 ⟨some 4,.alloc [(.int .i64 0),.nilS,.nilS],none⟩,
 ⟨some 5,.mv true (.c (.bool false)),none⟩]
abbrev zz38_r1:List AI:=[
 ⟨some 6,.mv true (.c (.int .i64 0)),none⟩]
abbrev zz38_r2:List AI:=[
 ⟨some 9,.mv false (.t 6),none⟩,
 ⟨some 10,.mv false (.t 1),none⟩,
 ⟨some 11,.len false (.t 10),none⟩,
 ⟨some 12,.bin .lss (.t 9) (.t 11),none⟩]
abbrev zz38_r3:List AI:=[
 ⟨some 16,.load true 3 (.t 2) (.site 2),none⟩,
 ⟨some 17,.mv false (.t 1),none⟩,
 ⟨some 18,.mv false (.t 6),none⟩,
 ⟨some 19,.iaddr 7 (.t 17) (.t 18),none⟩,
 ⟨some 20,.load true 7 (.t 19) .foreign,none⟩,
 ⟨some 7,.alloc [(.int .i64 0),.nilS,.nilS],none⟩,
 ⟨some 21,.call (.c (.fn f_zz95)) [(.t 16),(.t 20)] 1,none⟩,
 ⟨some 15,.mv false (.t 21),none⟩,
 ⟨some 22,.ext (.t 15) 0,none⟩,
 ⟨some 23,.ext (.t 15) 1,none⟩,
 ⟨none,.store 3 (.t 7) (.t 22) (.site 7),none⟩,
 ⟨some 8,.mv true (.t 23),none⟩]
abbrev zz38_r4:List AI:=[
 ⟨some 24,.mv false (.t 8),none⟩,
 ⟨some 25,.bin .neq (.t 24) (.c (.int .i64 0)),none⟩]
abbrev zz38_r5:List AI:=[
 ⟨some 26,.load true 3 (.t 2) .any,none⟩,
 ⟨none,.store 3 (.t 4) (.t 26) .any,none⟩,
 ⟨some 5,.mv true (.c (.bool false)),none⟩]
abbrev zz38_r6:List AI:=[
 ⟨some 27,.load true 3 (.t 7) .any,none⟩,
 ⟨none,.store 3 (.t 2) (.t 27) .any,none⟩]
abbrev zz38_r7:List AI:=[
 ⟨some 13,.mv false (.t 6),none⟩,
 ⟨some 14,.bin .add (.t 13) (.c (.int .i64 1)),none⟩,
 ⟨some 6,.mv true (.t 14),none⟩]
abbrev zz38_l0:ACode:=.seq (.seq (.reg false zz38_r2) (.cond (.t 12) (.skip) (.exit 0))) (.seq (.block 1 (.seq (.reg true zz38_r3) (.seq (.seq (.reg false zz38_r4) (.cond (.t 25) (.seq (.reg false zz38_r5) (.ret)) (.skip))) (.reg false zz38_r6)))) (.reg false zz38_r7))
abbrev zz38_r8:List AI:=[
 ⟨some 28,.load true 3 (.t 2) .any,none⟩,
 ⟨none,.store 3 (.t 4) (.t 28) .any,none⟩,
 ⟨some 5,.mv true (.c (.bool true)),none⟩]
abbrev zz38_c:ACode:=.seq (.reg false zz38_r0) (.seq (.seq (.reg false zz38_r1) (.block 0 (.loop zz38_l0))) (.seq (.reg false zz38_r8) (.ret)))
def zz38_F:AFunc:=⟨29,[.cell 4 true 3,.tmp 5],zz38_c⟩
theorem zz38_cp:compile Tryz.prog [] f_zz38=some zz38_F:=by kernel_rfl
abbrev zz50_r0:List AI:=[
 ⟨some 6,.alloc [(.int .i64 0),(.int .i64 0),(.int .i64 0),(.int .i64 0),(.int .i64 0),(.int .i64 0),(.str [])],none⟩]
abbrev zz50_r1:List AI:=[
 ⟨some 7,.mv false (.t 0),none⟩,
 ⟨some 8,.mv false (.t 1),none⟩,
 ⟨some 9,.mv false (.t 2),none⟩,
 ⟨some 10,.build [(.int .i64 0),(.int .i64 0),(.int .i64 0),(.int .i64 0),(.int .i64 0),(.int .i64 0),(.str [])] [(0,1,(.c (.int .i64 2))),(6,1,(.t 7)),(3,1,(.t 8)),(4,1,(.t 9))],none⟩,
 ⟨none,.store 7 (.t 6) (.t 10) .any,none⟩]
abbrev zz50_c:ACode:=.seq (.reg false zz50_r0) (.seq (.reg false zz50_r1) (.ret))
def zz50_F:AFunc:=⟨11,[.cell 6 true 7],zz50_c⟩
theorem zz50_cp:compile Tryz.prog [] f_zz50=some zz50_F:=by kernel_rfl
abbrev zz31_r0:List AI:=[
 ⟨some 0,.mv true (.c .nilM),none⟩]
abbrev zz31_r1:List AI:=[
 ⟨some 1,.gn .mkM [],none⟩,
 ⟨none,.gd (.mset [.i]) [(.t 1),(.c (.int .i64 1)),(.c (.fn f_zz89))],none⟩,
 ⟨none,.gd (.mset [.i]) [(.t 1),(.c (.int .i64 2)),(.c (.fn f_zz92))],none⟩,
 ⟨none,.gd (.mset [.i]) [(.t 1),(.c (.int .i64 3)),(.c (.fn f_zz85))],none⟩,
 ⟨none,.gd (.mset [.i]) [(.t 1),(.c (.int .i64 4)),(.c (.fn f_zz67))],none⟩,
 ⟨none,.gd (.mset [.i]) [(.t 1),(.c (.int .i64 5)),(.c (.fn f_zz66))],none⟩,
 ⟨none,.gd (.mset [.i]) [(.t 1),(.c (.int .i64 6)),(.c (.fn f_zz88))],none⟩,
 ⟨none,.gd (.mset [.i]) [(.t 1),(.c (.int .i64 7)),(.c (.fn f_zz72))],none⟩,
 ⟨some 2,.mv false (.t 1),none⟩,
 ⟨some 0,.mv true (.t 2),none⟩]
abbrev zz31_c:ACode:=.seq (.reg false zz31_r0) (.seq (.reg false zz31_r1) (.ret))
def zz31_F:AFunc:=⟨3,[.tmp 0],zz31_c⟩
theorem zz31_cp:compile Tryz.prog [] f_zz31=some zz31_F:=by kernel_rfl
-- loop 0: [0, 1, 5]
abbrev zz40_r0:List AI:=[
 ⟨some 4,.mv true (.c (.int .i64 0)),none⟩]
abbrev zz40_r1:List AI:=[
 ⟨some 5,.mv true (.c (.int .i64 0)),none⟩]
abbrev zz40_r2:List AI:=[
 ⟨some 6,.mv false (.t 5),none⟩,
 ⟨some 7,.mv false (.t 0),none⟩,
 ⟨some 8,.len false (.t 7),none⟩,
 ⟨some 9,.bin .lss (.t 6) (.t 8),none⟩]
abbrev zz40_r3:List AI:=[
 ⟨some 12,.mv false (.t 0),none⟩,
 ⟨some 13,.mv false (.t 5),none⟩,
 ⟨some 14,.iaddr 4 (.t 12) (.t 13),none⟩,
 ⟨some 15,.faddr 2 (.t 14),none⟩,
 ⟨some 16,.load false 1 (.t 15) .any,none⟩,
 ⟨some 17,.mv false (.t 1),none⟩,
 ⟨some 18,.bin .eql (.t 16) (.t 17),none⟩]
abbrev zz40_r4:List AI:=[
 ⟨some 19,.mv false (.t 0),none⟩,
 ⟨some 20,.mv false (.t 5),none⟩,
 ⟨some 21,.iaddr 4 (.t 19) (.t 20),none⟩,
 ⟨some 22,.faddr 3 (.t 21),none⟩,
 ⟨some 23,.load false 1 (.t 22) .any,none⟩,
 ⟨some 4,.mv true (.t 23),none⟩]
abbrev zz40_r5:List AI:=[
 ⟨some 10,.mv false (.t 5),none⟩,
 ⟨some 11,.bin .add (.t 10) (.c (.int .i64 1)),none⟩,
 ⟨some 5,.mv true (.t 11),none⟩]
abbrev zz40_l0:ACode:=.seq (.seq (.reg false zz40_r2) (.cond (.t 9) (.skip) (.exit 0))) (.seq (.block 1 (.seq (.reg false zz40_r3) (.cond (.t 18) (.seq (.reg false zz40_r4) (.ret)) (.skip)))) (.reg false zz40_r5))
abbrev zz40_r6:List AI:=[
 ⟨some 4,.mv true (.c (.int .i64 (-1))),none⟩]
abbrev zz40_c:ACode:=.seq (.reg false zz40_r0) (.seq (.seq (.reg false zz40_r1) (.block 0 (.loop zz40_l0))) (.seq (.reg false zz40_r6) (.ret)))
def zz40_F:AFunc:=⟨24,[.tmp 4],zz40_c⟩
theorem zz40_cp:compile Tryz.prog [] f_zz40=some zz40_F:=by kernel_rfl
-- loop 0: [1, 2, 3, 6, 7, 8]
abbrev zz36_r0:List AI:=[
 ⟨some 3,.box 3 (.t 0),none⟩,
 ⟨some 6,.alloc [(.int .i64 0),.nilS,.nilS],none⟩]
abbrev zz36_r1:List AI:=[
 ⟨some 9,.faddr 0 (.t 3),none⟩,
 ⟨some 10,.load false 1 (.t 9) (.site 3),none⟩,
 ⟨some 11,.faddr 1 (.t 3),none⟩,
 ⟨some 12,.load false 1 (.t 11) (.site 3),none⟩,
 ⟨some 13,.mv false (.t 1),none⟩,
 ⟨some 14,.mv false (.t 2),none⟩,
 ⟨some 7,.alloc [(.int .i64 0),.nilS,.nilS],none⟩,
 ⟨some 15,.call (.c (.fn f_zz43)) [(.t 12),(.t 13),(.t 14)] 2,none⟩,
 ⟨some 16,.build [(.int .i64 0),.nilS,.nilS] [(0,1,(.t 10)),(1,1,(.t 15))],none⟩,
 ⟨none,.store 3 (.t 7) (.t 16) (.site 7),none⟩]
abbrev zz36_r2:List AI:=[
 ⟨some 8,.mv true (.c (.int .i64 0)),none⟩]
abbrev zz36_r3:List AI:=[
 ⟨some 17,.mv false (.t 8),none⟩,
 ⟨some 18,.faddr 2 (.t 3),none⟩,
 ⟨some 19,.load false 1 (.t 18) .any,none⟩,
 ⟨some 20,.len false (.t 19),none⟩,
 ⟨some 21,.bin .lss (.t 17) (.t 20),none⟩]
abbrev zz36_r4:List AI:=[
 ⟨some 24,.faddr 2 (.t 7),none⟩,
 ⟨some 25,.load false 1 (.t 24) (.site 7),none⟩,
 ⟨some 26,.faddr 2 (.t 3),none⟩,
 ⟨some 27,.load false 1 (.t 26) (.site 3),none⟩,
 ⟨some 28,.mv false (.t 8),none⟩,
 ⟨some 29,.iaddr 2 (.t 27) (.t 28),none⟩,
 ⟨some 30,.faddr 0 (.t 29),none⟩,
 ⟨some 31,.load false 1 (.t 30) .foreign,none⟩,
 ⟨some 32,.faddr 2 (.t 3),none⟩,
 ⟨some 33,.load false 1 (.t 32) (.site 3),none⟩,
 ⟨some 34,.mv false (.t 8),none⟩,
 ⟨some 35,.iaddr 2 (.t 33) (.t 34),none⟩,
 ⟨some 36,.faddr 1 (.t 35),none⟩,
 ⟨some 37,.load false 1 (.t 36) .foreign,none⟩,
 ⟨some 38,.mv false (.t 1),none⟩,
 ⟨some 39,.mv false (.t 2),none⟩,
 ⟨some 40,.call (.c (.fn f_zz43)) [(.t 37),(.t 38),(.t 39)] 1,none⟩,
 ⟨some 41,.build [(.int .i64 0),.nilS] [(0,1,(.t 31)),(1,1,(.t 40))],none⟩,
 ⟨some 42,.mkslice 2 1 (.agg [(.int .i64 0),.nilS]) [(0,(.t 41))],none⟩,
 ⟨some 43,.appG 2 32 [(.int .i64 0),.nilS] (.t 25) (.t 42),none⟩,
 ⟨some 44,.faddr 2 (.t 7),none⟩,
 ⟨none,.store 1 (.t 44) (.t 43) (.site 7),none⟩]
abbrev zz36_r5:List AI:=[
 ⟨some 22,.mv false (.t 8),none⟩,
 ⟨some 23,.bin .add (.t 22) (.c (.int .i64 1)),none⟩,
 ⟨some 8,.mv true (.t 23),none⟩]
abbrev zz36_l0:ACode:=.seq (.seq (.reg false zz36_r3) (.cond (.t 21) (.skip) (.exit 0))) (.seq (.block 1 (.reg true zz36_r4)) (.reg false zz36_r5))
abbrev zz36_r6:List AI:=[
 ⟨some 45,.load true 3 (.t 7) .any,none⟩,
 ⟨none,.store 3 (.t 6) (.t 45) .any,none⟩]
abbrev zz36_c:ACode:=.seq (.reg false zz36_r0) (.seq (.reg true zz36_r1) (.seq (.seq (.reg false zz36_r2) (.block 0 (.loop zz36_l0))) (.seq (.reg false zz36_r6) (.ret))))
def zz36_F:AFunc:=⟨46,[.cell 6 true 3],zz36_c⟩
theorem zz36_cp:compile Tryz.prog [43] f_zz36=some zz36_F:=by kernel_rfl
-- loop 0: [2, 3, 4, 5, 7, 9]
abbrev zz53_r0:List AI:=[
 ⟨some 2,.box 3 (.t 0),none⟩,
 ⟨some 3,.box 7 (.t 1),none⟩,
 ⟨some 4,.alloc [(.int .i64 0),.nilS,.nilS,(.int .i64 0),(.int .i64 0)],none⟩]
abbrev zz53_r1:List AI:=[
 ⟨some 10,.faddr 6 (.t 3),none⟩,
 ⟨some 11,.load false 1 (.t 10) .any,none⟩,
 ⟨some 12,.faddr 3 (.t 3),none⟩,
 ⟨some 13,.load false 1 (.t 12) .any,none⟩,
 ⟨some 14,.faddr 4 (.t 3),none⟩,
 ⟨some 15,.load false 1 (.t 14) .any,none⟩,
 ⟨some 16,.build [(.str []),(.int .i64 0),(.int .i64 0),(.int .i64 0)] [(0,1,(.t 11)),(1,1,(.c (.int .i64 1))),(2,1,(.t 13)),(3,1,(.t 15))],none⟩,
 ⟨some 5,.alloc [(.str []),(.int .i64 0),(.int .i64 0),(.int .i64 0)],none⟩,
 ⟨none,.store 4 (.t 5) (.t 16) .any,none⟩]
abbrev zz53_r2:List AI:=[
 ⟨some 17,.load true 4 (.t 5) .any,none⟩,
 ⟨some 18,.call (.c (.fn f_zz35)) [(.t 17)] 0,none⟩,
 ⟨some 6,.mv true (.t 18),none⟩]
abbrev zz53_r3:List AI:=[
 ⟨some 19,.mv false (.t 6),none⟩,
 ⟨some 20,.not (.t 19),none⟩]
abbrev zz53_r4:List AI:=[
 ⟨some 21,.load true 3 (.t 2) .any,none⟩,
 ⟨some 22,.build [(.int .i64 0),.nilS,.nilS,(.int .i64 0),(.int .i64 0)] [(0,3,(.t 21)),(4,1,(.c (.int .i64 1)))],none⟩,
 ⟨none,.store 5 (.t 4) (.t 22) .any,none⟩]
abbrev zz53_r5:List AI:=[
 ⟨some 23,.faddr 4 (.t 3),none⟩,
 ⟨some 24,.load false 1 (.t 23) .any,none⟩,
 ⟨some 25,.faddr 0 (.t 2),none⟩,
 ⟨some 26,.load false 1 (.t 25) .any,none⟩,
 ⟨some 27,.bin .lss (.t 24) (.t 26),none⟩]
abbrev zz53_r6:List AI:=[
 ⟨some 28,.load true 3 (.t 2) .any,none⟩,
 ⟨some 29,.build [(.int .i64 0),.nilS,.nilS,(.int .i64 0),(.int .i64 0)] [(0,3,(.t 28)),(4,1,(.c (.int .i64 18)))],none⟩,
 ⟨none,.store 5 (.t 4) (.t 29) .any,none⟩]
abbrev zz53_r7:List AI:=[
 ⟨some 30,.load true 3 (.t 2) .any,none⟩,
 ⟨some 31,.call (.c (.fn f_zz52)) [(.t 30)] 0,none⟩,
 ⟨some 7,.mv true (.t 31),none⟩]
abbrev zz53_r8:List AI:=[
 ⟨some 32,.mv false (.t 7),none⟩,
 ⟨some 33,.faddr 3 (.t 3),none⟩,
 ⟨some 34,.load false 1 (.t 33) .any,none⟩,
 ⟨some 35,.call (.c (.fn f_zz40)) [(.t 32),(.t 34)] 0,none⟩,
 ⟨some 8,.mv true (.t 35),none⟩]
abbrev zz53_r9:List AI:=[
 ⟨some 36,.mv false (.t 8),none⟩,
 ⟨some 37,.bin .geq (.t 36) (.c (.int .i64 0)),none⟩,
 ⟨some 38,.mv false (.t 37),none⟩,
 ⟨some 39,.mv false (.t 8),some (38,true)⟩,
 ⟨some 40,.faddr 4 (.t 3),some (38,true)⟩,
 ⟨some 41,.load false 1 (.t 40) .any,some (38,true)⟩,
 ⟨some 42,.bin .neq (.t 39) (.t 41),some (38,true)⟩,
 ⟨some 43,.pick (.t 38) (.t 42) (.c (.bool false)),none⟩]
abbrev zz53_r10:List AI:=[
 ⟨some 44,.load true 3 (.t 2) .any,none⟩,
 ⟨some 45,.build [(.int .i64 0),.nilS,.nilS,(.int .i64 0),(.int .i64 0)] [(0,3,(.t 44)),(4,1,(.c (.int .i64 4)))],none⟩,
 ⟨none,.store 5 (.t 4) (.t 45) .any,none⟩]
abbrev zz53_r11:List AI:=[
 ⟨some 46,.faddr 1 (.t 2),none⟩,
 ⟨some 47,.load false 1 (.t 46) .any,none⟩,
 ⟨some 48,.len false (.t 47),none⟩,
 ⟨some 49,.bin .geq (.t 48) (.c (.int .i64 200)),none⟩]
abbrev zz53_r12:List AI:=[
 ⟨some 50,.load true 3 (.t 2) .any,none⟩,
 ⟨some 51,.build [(.int .i64 0),.nilS,.nilS,(.int .i64 0),(.int .i64 0)] [(0,3,(.t 50)),(4,1,(.c (.int .i64 13)))],none⟩,
 ⟨none,.store 5 (.t 4) (.t 51) .any,none⟩]
abbrev zz53_r13:List AI:=[
 ⟨some 9,.mv true (.c (.int .i64 0)),none⟩]
abbrev zz53_r14:List AI:=[
 ⟨some 52,.mv false (.t 9),none⟩,
 ⟨some 53,.mv false (.t 7),none⟩,
 ⟨some 54,.len false (.t 53),none⟩,
 ⟨some 55,.bin .lss (.t 52) (.t 54),none⟩]
abbrev zz53_r15:List AI:=[
 ⟨some 58,.mv false (.t 7),none⟩,
 ⟨some 59,.mv false (.t 9),none⟩,
 ⟨some 60,.iaddr 4 (.t 58) (.t 59),none⟩,
 ⟨some 61,.faddr 0 (.t 60),none⟩,
 ⟨some 62,.load false 1 (.t 61) .foreign,none⟩,
 ⟨some 63,.faddr 6 (.t 3),none⟩,
 ⟨some 64,.load false 1 (.t 63) (.site 3),none⟩,
 ⟨some 65,.bin .eql (.t 62) (.t 64),none⟩,
 ⟨some 66,.mv false (.t 65),none⟩,
 ⟨some 67,.mv false (.t 7),some (66,true)⟩,
 ⟨some 68,.mv false (.t 9),some (66,true)⟩,
 ⟨some 69,.iaddr 4 (.t 67) (.t 68),some (66,true)⟩,
 ⟨some 70,.faddr 1 (.t 69),some (66,true)⟩,
 ⟨some 71,.load false 1 (.t 70) .foreign,some (66,true)⟩,
 ⟨some 72,.faddr 1 (.t 5),some (66,true)⟩,
 ⟨some 73,.load false 1 (.t 72) (.site 5),some (66,true)⟩,
 ⟨some 74,.bin .geq (.t 71) (.t 73),some (66,true)⟩,
 ⟨some 75,.pick (.t 66) (.t 74) (.c (.bool false)),none⟩]
abbrev zz53_r16:List AI:=[
 ⟨some 76,.mv false (.t 7),none⟩,
 ⟨some 77,.mv false (.t 9),none⟩,
 ⟨some 78,.iaddr 4 (.t 76) (.t 77),none⟩,
 ⟨some 79,.faddr 1 (.t 78),none⟩,
 ⟨some 80,.load false 1 (.t 79) .any,none⟩,
 ⟨some 81,.bin .add (.t 80) (.c (.int .i64 1)),none⟩,
 ⟨some 82,.faddr 1 (.t 5),none⟩,
 ⟨none,.store 1 (.t 82) (.t 81) .any,none⟩]
abbrev zz53_r17:List AI:=[
 ⟨some 56,.mv false (.t 9),none⟩,
 ⟨some 57,.bin .add (.t 56) (.c (.int .i64 1)),none⟩,
 ⟨some 9,.mv true (.t 57),none⟩]
abbrev zz53_l0:ACode:=.seq (.seq (.reg false zz53_r14) (.cond (.t 55) (.skip) (.exit 0))) (.seq (.block 1 (.seq (.reg true zz53_r15) (.cond (.t 75) (.reg false zz53_r16) (.skip)))) (.reg false zz53_r17))
abbrev zz53_r18:List AI:=[
 ⟨some 83,.faddr 1 (.t 5),none⟩,
 ⟨some 84,.load false 1 (.t 83) .any,none⟩,
 ⟨some 85,.bin .gtr (.t 84) (.c (.int .i64 1099511627776)),none⟩]
abbrev zz53_r19:List AI:=[
 ⟨some 86,.load true 3 (.t 2) .any,none⟩,
 ⟨some 87,.build [(.int .i64 0),.nilS,.nilS,(.int .i64 0),(.int .i64 0)] [(0,3,(.t 86)),(4,1,(.c (.int .i64 3)))],none⟩,
 ⟨none,.store 5 (.t 4) (.t 87) .any,none⟩]
abbrev zz53_r20:List AI:=[
 ⟨some 88,.faddr 0 (.t 2),none⟩,
 ⟨some 89,.load false 1 (.t 88) (.site 2),none⟩,
 ⟨some 90,.faddr 1 (.t 2),none⟩,
 ⟨some 91,.load false 1 (.t 90) (.site 2),none⟩,
 ⟨some 92,.load true 4 (.t 5) (.site 5),none⟩,
 ⟨some 94,.faddr 2 (.t 2),none⟩,
 ⟨some 95,.load false 1 (.t 94) (.site 2),none⟩,
 ⟨some 93,.call (.c (.fn f_zz44)) [(.t 91),(.t 92)] 2,none⟩,
 ⟨some 96,.build [(.int .i64 0),.nilS,.nilS] [(0,1,(.t 89)),(1,1,(.t 93)),(2,1,(.t 95))],none⟩,
 ⟨some 97,.build [(.int .i64 0),.nilS,.nilS,(.int .i64 0),(.int .i64 0)] [(0,3,(.t 96))],none⟩,
 ⟨none,.store 5 (.t 4) (.t 97) (.site 4),none⟩]
abbrev zz53_c:ACode:=.seq (.reg false zz53_r0) (.seq (.reg false zz53_r1) (.seq (.reg false zz53_r2) (.seq (.seq (.reg false zz53_r3) (.cond (.t 20) (.seq (.reg false zz53_r4) (.ret)) (.skip))) (.seq (.seq (.reg false zz53_r5) (.cond (.t 27) (.seq (.reg false zz53_r6) (.ret)) (.skip))) (.seq (.reg false zz53_r7) (.seq (.reg false zz53_r8) (.seq (.seq (.reg false zz53_r9) (.cond (.t 43) (.seq (.reg false zz53_r10) (.ret)) (.skip))) (.seq (.seq (.reg false zz53_r11) (.cond (.t 49) (.seq (.reg false zz53_r12) (.ret)) (.skip))) (.seq (.seq (.reg false zz53_r13) (.block 0 (.loop zz53_l0))) (.seq (.seq (.reg false zz53_r18) (.cond (.t 85) (.seq (.reg false zz53_r19) (.ret)) (.skip))) (.seq (.reg true zz53_r20) (.ret))))))))))))
def zz53_F:AFunc:=⟨98,[.cell 4 true 5],zz53_c⟩
theorem zz53_cp:compile Tryz.prog [] f_zz53=some zz53_F:=by kernel_rfl
-- loop 0: [0, 1, 2, 7, 8]
abbrev zz30_r0:List AI:=[
 ⟨some 6,.mv true (.c .nilS),none⟩]
abbrev zz30_r1:List AI:=[
 ⟨some 7,.mv true (.c .nilS),none⟩]
abbrev zz30_r2:List AI:=[
 ⟨some 8,.mv true (.c (.int .i64 0)),none⟩]
abbrev zz30_r3:List AI:=[
 ⟨some 10,.mv false (.t 8),none⟩,
 ⟨some 11,.mv false (.t 0),none⟩,
 ⟨some 12,.len false (.t 11),none⟩,
 ⟨some 13,.bin .lss (.t 10) (.t 12),none⟩]
abbrev zz30_r4:List AI:=[
 ⟨some 16,.mv false (.t 0),none⟩,
 ⟨some 17,.mv false (.t 8),none⟩,
 ⟨some 18,.iaddr 4 (.t 16) (.t 17),none⟩,
 ⟨some 19,.load true 4 (.t 18) .any,none⟩,
 ⟨some 9,.alloc [(.str []),(.int .i64 0),(.int .i64 0),(.int .i64 0)],none⟩,
 ⟨none,.store 4 (.t 9) (.t 19) .any,none⟩]
abbrev zz30_r5:List AI:=[
 ⟨some 20,.faddr 2 (.t 9),none⟩,
 ⟨some 21,.load false 1 (.t 20) .any,none⟩,
 ⟨some 22,.mv false (.t 1),none⟩,
 ⟨some 23,.bin .eql (.t 21) (.t 22),none⟩]
abbrev zz30_r6:List AI:=[
 ⟨some 24,.mv false (.t 2),none⟩,
 ⟨some 25,.faddr 3 (.t 9),none⟩,
 ⟨none,.store 1 (.t 25) (.t 24) .any,none⟩]
abbrev zz30_r7:List AI:=[
 ⟨some 26,.mv true (.t 7),none⟩,
 ⟨some 27,.load true 4 (.t 9) .any,none⟩,
 ⟨some 28,.mkslice 4 1 (.agg [(.str []),(.int .i64 0),(.int .i64 0),(.int .i64 0)]) [(0,(.t 27))],none⟩,
 ⟨some 29,.append 4 40 (.t 26) (.t 28),none⟩,
 ⟨some 7,.mv true (.t 29),none⟩]
abbrev zz30_r8:List AI:=[
 ⟨some 14,.mv false (.t 8),none⟩,
 ⟨some 15,.bin .add (.t 14) (.c (.int .i64 1)),none⟩,
 ⟨some 8,.mv true (.t 15),none⟩]
abbrev zz30_l0:ACode:=.seq (.seq (.reg false zz30_r3) (.cond (.t 13) (.skip) (.exit 0))) (.seq (.block 1 (.seq (.reg false zz30_r4) (.seq (.seq (.reg false zz30_r5) (.cond (.t 23) (.reg false zz30_r6) (.skip))) (.reg false zz30_r7)))) (.reg false zz30_r8))
abbrev zz30_r9:List AI:=[
 ⟨some 30,.mv false (.t 7),none⟩,
 ⟨some 6,.mv true (.t 30),none⟩]
abbrev zz30_c:ACode:=.seq (.reg false zz30_r0) (.seq (.reg false zz30_r1) (.seq (.seq (.reg false zz30_r2) (.block 0 (.loop zz30_l0))) (.seq (.reg false zz30_r9) (.ret))))
def zz30_F:AFunc:=⟨31,[.tmp 6],zz30_c⟩
theorem zz30_cp:compile Tryz.prog [] f_zz30=some zz30_F:=by kernel_rfl
-- loop 0: [1, 2, 4, 5, 6, 7]
abbrev zz42_r0:List AI:=[
 ⟨some 2,.box 3 (.t 0),none⟩,
 ⟨some 4,.alloc [(.int .i64 0),.nilS,.nilS,(.int .i64 0),(.int .i64 0)],none⟩]
abbrev zz42_r1:List AI:=[
 ⟨some 8,.mv false (.t 1),none⟩,
 ⟨some 9,.bin .lss (.t 8) (.c (.int .i64 0)),none⟩,
 ⟨some 10,.mv false (.t 9),none⟩,
 ⟨some 11,.mv false (.t 1),some (10,false)⟩,
 ⟨some 12,.bin .gtr (.t 11) (.c (.int .i64 1099511627776)),some (10,false)⟩,
 ⟨some 13,.pick (.t 10) (.c (.bool true)) (.t 12),none⟩]
abbrev zz42_r2:List AI:=[
 ⟨some 14,.load true 3 (.t 2) .any,none⟩,
 ⟨some 15,.build [(.int .i64 0),.nilS,.nilS,(.int .i64 0),(.int .i64 0)] [(0,3,(.t 14)),(4,1,(.c (.int .i64 1)))],none⟩,
 ⟨none,.store 5 (.t 4) (.t 15) .any,none⟩]
abbrev zz42_r3:List AI:=[
 ⟨some 5,.mv true (.c .nilS),none⟩]
abbrev zz42_r4:List AI:=[
 ⟨some 6,.mv true (.c (.bool false)),none⟩]
abbrev zz42_r5:List AI:=[
 ⟨some 7,.mv true (.c (.int .i64 0)),none⟩]
abbrev zz42_r6:List AI:=[
 ⟨some 16,.mv false (.t 7),none⟩,
 ⟨some 17,.faddr 2 (.t 2),none⟩,
 ⟨some 18,.load false 1 (.t 17) .any,none⟩,
 ⟨some 19,.len false (.t 18),none⟩,
 ⟨some 20,.bin .lss (.t 16) (.t 19),none⟩]
abbrev zz42_r7:List AI:=[
 ⟨some 23,.faddr 2 (.t 2),none⟩,
 ⟨some 24,.load false 1 (.t 23) .any,none⟩,
 ⟨some 25,.mv false (.t 7),none⟩,
 ⟨some 26,.iaddr 2 (.t 24) (.t 25),none⟩,
 ⟨some 27,.faddr 0 (.t 26),none⟩,
 ⟨some 28,.load false 1 (.t 27) .any,none⟩,
 ⟨some 29,.mv false (.t 1),none⟩,
 ⟨some 30,.bin .eql (.t 28) (.t 29),none⟩]
abbrev zz42_r8:List AI:=[
 ⟨some 31,.load true 3 (.t 2) .any,none⟩,
 ⟨some 32,.build [(.int .i64 0),.nilS,.nilS,(.int .i64 0),(.int .i64 0)] [(0,3,(.t 31)),(4,1,(.c (.int .i64 9)))],none⟩,
 ⟨none,.store 5 (.t 4) (.t 32) .any,none⟩]
abbrev zz42_r9:List AI:=[
 ⟨some 33,.mv false (.t 6),none⟩,
 ⟨some 34,.not (.t 33),none⟩,
 ⟨some 35,.mv false (.t 34),none⟩,
 ⟨some 36,.faddr 2 (.t 2),some (35,true)⟩,
 ⟨some 37,.load false 1 (.t 36) .any,some (35,true)⟩,
 ⟨some 38,.mv false (.t 7),some (35,true)⟩,
 ⟨some 39,.iaddr 2 (.t 37) (.t 38),some (35,true)⟩,
 ⟨some 40,.faddr 0 (.t 39),some (35,true)⟩,
 ⟨some 41,.load false 1 (.t 40) .any,some (35,true)⟩,
 ⟨some 42,.mv false (.t 1),some (35,true)⟩,
 ⟨some 43,.bin .gtr (.t 41) (.t 42),some (35,true)⟩,
 ⟨some 44,.pick (.t 35) (.t 43) (.c (.bool false)),none⟩]
abbrev zz42_r10:List AI:=[
 ⟨some 45,.mv true (.t 5),none⟩,
 ⟨some 46,.mv false (.t 1),none⟩,
 ⟨some 47,.faddr 1 (.t 2),none⟩,
 ⟨some 48,.load false 1 (.t 47) .any,none⟩,
 ⟨some 49,.build [(.int .i64 0),.nilS] [(0,1,(.t 46)),(1,1,(.t 48))],none⟩,
 ⟨some 50,.mkslice 2 1 (.agg [(.int .i64 0),.nilS]) [(0,(.t 49))],none⟩,
 ⟨some 51,.append 2 32 (.t 45) (.t 50),none⟩,
 ⟨some 5,.mv true (.t 51),none⟩]
abbrev zz42_r11:List AI:=[
 ⟨some 6,.mv true (.c (.bool true)),none⟩]
abbrev zz42_r12:List AI:=[
 ⟨some 52,.mv true (.t 5),none⟩,
 ⟨some 53,.faddr 2 (.t 2),none⟩,
 ⟨some 54,.load false 1 (.t 53) .any,none⟩,
 ⟨some 55,.mv false (.t 7),none⟩,
 ⟨some 56,.iaddr 2 (.t 54) (.t 55),none⟩,
 ⟨some 57,.load true 2 (.t 56) .any,none⟩,
 ⟨some 58,.mkslice 2 1 (.agg [(.int .i64 0),.nilS]) [(0,(.t 57))],none⟩,
 ⟨some 59,.append 2 32 (.t 52) (.t 58),none⟩,
 ⟨some 5,.mv true (.t 59),none⟩]
abbrev zz42_r13:List AI:=[
 ⟨some 21,.mv false (.t 7),none⟩,
 ⟨some 22,.bin .add (.t 21) (.c (.int .i64 1)),none⟩,
 ⟨some 7,.mv true (.t 22),none⟩]
abbrev zz42_l0:ACode:=.seq (.seq (.reg false zz42_r6) (.cond (.t 20) (.skip) (.exit 0))) (.seq (.block 1 (.seq (.seq (.reg false zz42_r7) (.cond (.t 30) (.seq (.reg false zz42_r8) (.ret)) (.skip))) (.seq (.seq (.reg false zz42_r9) (.cond (.t 44) (.seq (.reg false zz42_r10) (.reg false zz42_r11)) (.skip))) (.reg false zz42_r12)))) (.reg false zz42_r13))
abbrev zz42_r14:List AI:=[
 ⟨some 60,.mv false (.t 6),none⟩,
 ⟨some 61,.not (.t 60),none⟩]
abbrev zz42_r15:List AI:=[
 ⟨some 62,.mv true (.t 5),none⟩,
 ⟨some 63,.mv false (.t 1),none⟩,
 ⟨some 64,.faddr 1 (.t 2),none⟩,
 ⟨some 65,.load false 1 (.t 64) .any,none⟩,
 ⟨some 66,.build [(.int .i64 0),.nilS] [(0,1,(.t 63)),(1,1,(.t 65))],none⟩,
 ⟨some 67,.mkslice 2 1 (.agg [(.int .i64 0),.nilS]) [(0,(.t 66))],none⟩,
 ⟨some 68,.append 2 32 (.t 62) (.t 67),none⟩,
 ⟨some 5,.mv true (.t 68),none⟩]
abbrev zz42_r16:List AI:=[
 ⟨some 69,.faddr 2 (.t 2),none⟩,
 ⟨some 70,.load false 1 (.t 69) .any,none⟩,
 ⟨some 71,.len false (.t 70),none⟩,
 ⟨some 72,.bin .geq (.t 71) (.c (.int .i64 10)),none⟩]
abbrev zz42_r17:List AI:=[
 ⟨some 73,.load true 3 (.t 2) .any,none⟩,
 ⟨some 74,.build [(.int .i64 0),.nilS,.nilS,(.int .i64 0),(.int .i64 0)] [(0,3,(.t 73)),(4,1,(.c (.int .i64 13)))],none⟩,
 ⟨none,.store 5 (.t 4) (.t 74) .any,none⟩]
abbrev zz42_r18:List AI:=[
 ⟨some 75,.faddr 0 (.t 2),none⟩,
 ⟨some 76,.load false 1 (.t 75) .any,none⟩,
 ⟨some 77,.faddr 1 (.t 2),none⟩,
 ⟨some 78,.load false 1 (.t 77) .any,none⟩,
 ⟨some 79,.mv false (.t 5),none⟩,
 ⟨some 80,.build [(.int .i64 0),.nilS,.nilS] [(0,1,(.t 76)),(1,1,(.t 78)),(2,1,(.t 79))],none⟩,
 ⟨some 81,.build [(.int .i64 0),.nilS,.nilS,(.int .i64 0),(.int .i64 0)] [(0,3,(.t 80))],none⟩,
 ⟨none,.store 5 (.t 4) (.t 81) .any,none⟩]
abbrev zz42_c:ACode:=.seq (.reg false zz42_r0) (.seq (.seq (.reg false zz42_r1) (.cond (.t 13) (.seq (.reg false zz42_r2) (.ret)) (.skip))) (.seq (.reg false zz42_r3) (.seq (.reg false zz42_r4) (.seq (.seq (.reg false zz42_r5) (.block 0 (.loop zz42_l0))) (.seq (.seq (.reg false zz42_r14) (.cond (.t 61) (.reg false zz42_r15) (.skip))) (.seq (.seq (.reg false zz42_r16) (.cond (.t 72) (.seq (.reg false zz42_r17) (.ret)) (.skip))) (.seq (.reg false zz42_r18) (.ret))))))))
def zz42_F:AFunc:=⟨82,[.cell 4 true 5],zz42_c⟩
theorem zz42_cp:compile Tryz.prog [] f_zz42=some zz42_F:=by kernel_rfl
abbrev zz3_r0:List AI:=[
 ⟨some 1,.gn (.box 1) [(.t 0)],none⟩,
 ⟨some 2,.mv true (.c .nilF),none⟩]
abbrev zz3_r1:List AI:=[
 ⟨some 3,.gd (.clo f_zz2) [(.t 1)],none⟩,
 ⟨some 2,.mv true (.t 3),none⟩]
abbrev zz3_c:ACode:=.seq (.reg false zz3_r0) (.seq (.reg false zz3_r1) (.ret))
def zz3_F:AFunc:=⟨4,[.tmp 2],zz3_c⟩
theorem zz3_cp:compile Tryz.prog [1,3] f_zz3=some zz3_F:=by kernel_rfl
-- loop 0: [1, 5, 10, 11, 12]
abbrev zz16_r0:List AI:=[
 ⟨some 4,.mv true (.c .nilS),none⟩]
abbrev zz16_r1:List AI:=[
 ⟨some 5,.mv true (.c .nilS),none⟩]
abbrev zz16_r2:List AI:=[
 ⟨some 10,.mv false (.t 0),none⟩,
 ⟨some 11,.len false (.t 10),none⟩,
 ⟨some 12,.mv false (.c (.int .i64 0)),none⟩]
abbrev zz16_r3:List AI:=[
 ⟨some 13,.bin .lss (.t 12) (.t 11),none⟩]
abbrev zz16_r4:List AI:=[
 ⟨some 14,.iaddr 4 (.t 10) (.t 12),none⟩,
 ⟨some 15,.load true 4 (.t 14) .any,none⟩,
 ⟨some 7,.alloc [(.str []),(.int .i64 0),(.int .i64 0),(.int .i64 0)],none⟩,
 ⟨none,.store 4 (.t 7) (.t 15) .any,none⟩]
abbrev zz16_r5:List AI:=[
 ⟨some 17,.mv false (.t 1),none⟩,
 ⟨some 18,.load true 4 (.t 7) .any,none⟩,
 ⟨some 19,.call (.t 17) [(.t 18)] 0,none⟩,
 ⟨some 16,.mv false (.t 19),none⟩,
 ⟨some 20,.ext (.t 16) 0,none⟩,
 ⟨some 21,.ext (.t 16) 1,none⟩,
 ⟨some 8,.alloc [(.str []),(.int .i64 0),(.int .i64 0),(.int .i64 0)],none⟩,
 ⟨none,.store 4 (.t 8) (.t 20) .any,none⟩,
 ⟨some 9,.mv true (.t 21),none⟩]
abbrev zz16_r6:List AI:=[
 ⟨some 22,.mv false (.t 9),none⟩]
abbrev zz16_r7:List AI:=[
 ⟨some 23,.mv true (.t 5),none⟩,
 ⟨some 24,.load true 4 (.t 8) .any,none⟩,
 ⟨some 25,.mkslice 4 1 (.agg [(.str []),(.int .i64 0),(.int .i64 0),(.int .i64 0)]) [(0,(.t 24))],none⟩,
 ⟨some 26,.append 4 40 (.t 23) (.t 25),none⟩,
 ⟨some 5,.mv true (.t 26),none⟩]
abbrev zz16_r8:List AI:=[
 ⟨some 27,.bin .add (.t 12) (.c (.int .i64 1)),none⟩,
 ⟨some 12,.mv false (.t 27),none⟩]
abbrev zz16_l0:ACode:=.seq (.reg false zz16_r3) (.seq (.cond (.t 13) (.skip) (.exit 0)) (.seq (.block 1 (.seq (.reg false zz16_r4) (.seq (.reg false zz16_r5) (.seq (.reg false zz16_r6) (.cond (.t 22) (.reg false zz16_r7) (.skip)))))) (.reg false zz16_r8)))
abbrev zz16_r9:List AI:=[
 ⟨some 28,.mv false (.t 5),none⟩,
 ⟨some 4,.mv true (.t 28),none⟩]
abbrev zz16_c:ACode:=.seq (.reg false zz16_r0) (.seq (.reg false zz16_r1) (.seq (.seq (.reg false zz16_r2) (.block 0 (.loop zz16_l0))) (.seq (.reg false zz16_r9) (.ret))))
def zz16_F:AFunc:=⟨29,[.tmp 4],zz16_c⟩
theorem zz16_cp:compile Tryz.prog [] f_zz16=some zz16_F:=by kernel_rfl
abbrev zz87_r0:List AI:=[
 ⟨some 1,.gn (.box 1) [(.t 0)],none⟩,
 ⟨some 2,.mv true (.c .nilF),none⟩]
abbrev zz87_r1:List AI:=[
 ⟨some 3,.gd (.clo f_zz70) [(.t 1)],none⟩,
 ⟨some 2,.mv true (.t 3),none⟩]
abbrev zz87_c:ACode:=.seq (.reg false zz87_r0) (.seq (.reg false zz87_r1) (.ret))
def zz87_F:AFunc:=⟨4,[.tmp 2],zz87_c⟩
theorem zz87_cp:compile Tryz.prog [1,3] f_zz87=some zz87_F:=by kernel_rfl
abbrev zz64_r0:List AI:=[
 ⟨some 2,.box 4 (.t 0),none⟩,
 ⟨some 3,.mv true (.c (.bool false)),none⟩]
abbrev zz64_r1:List AI:=[
 ⟨some 4,.faddr 0 (.t 2),none⟩,
 ⟨some 5,.load false 1 (.t 4) .any,none⟩,
 ⟨some 6,.load false 1 (.t 1) .any,none⟩,
 ⟨some 7,.call (.c (.fn f_zz45)) [(.t 5),(.t 6)] 0,none⟩,
 ⟨some 3,.mv true (.t 7),none⟩]
abbrev zz64_c:ACode:=.seq (.reg false zz64_r0) (.seq (.reg false zz64_r1) (.ret))
def zz64_F:AFunc:=⟨8,[.tmp 3],zz64_c⟩
theorem zz64_cp:compile Tryz.prog [] f_zz64=some zz64_F:=by kernel_rfl
abbrev zz45_r0:List AI:=[
 ⟨some 4,.mv true (.c (.bool false)),none⟩]
abbrev zz45_r1:List AI:=[
 ⟨some 5,.mv false (.t 0),none⟩,
 ⟨some 6,.mv false (.t 1),none⟩,
 ⟨some 7,.call (.c (.fn f_zz13)) [(.t 5),(.t 6)] 0,none⟩,
 ⟨some 4,.mv true (.t 7),none⟩]
abbrev zz45_c:ACode:=.seq (.reg false zz45_r0) (.seq (.reg false zz45_r1) (.ret))
def zz45_F:AFunc:=⟨8,[.tmp 4],zz45_c⟩
theorem zz45_cp:compile Tryz.prog [] f_zz45=some zz45_F:=by kernel_rfl
abbrev zz73_r0:List AI:=[
 ⟨some 4,.mv true (.c (.bool false)),none⟩]
abbrev zz73_r1:List AI:=[
 ⟨some 5,.mv false (.t 0),none⟩,
 ⟨some 6,.bin .geq (.t 5) (.c (.int .i64 0)),none⟩,
 ⟨some 7,.mv false (.t 6),none⟩,
 ⟨some 8,.mv false (.t 0),some (7,true)⟩,
 ⟨some 9,.mv false (.t 1),some (7,true)⟩,
 ⟨some 10,.bin .leq (.t 8) (.t 9),some (7,true)⟩,
 ⟨some 11,.pick (.t 7) (.t 10) (.c (.bool false)),none⟩,
 ⟨some 4,.mv true (.t 11),none⟩]
abbrev zz73_c:ACode:=.seq (.reg false zz73_r0) (.seq (.reg false zz73_r1) (.ret))
def zz73_F:AFunc:=⟨12,[.tmp 4],zz73_c⟩
theorem zz73_cp:compile Tryz.prog [] f_zz73=some zz73_F:=by kernel_rfl
-- loop 0: [0, 8, 9, 10]
abbrev zz68_r0:List AI:=[
 ⟨some 2,.mv true (.c (.int .i64 0)),none⟩]
abbrev zz68_r1:List AI:=[
 ⟨some 5,.mv false (.t 0),none⟩,
 ⟨some 6,.len false (.t 5),none⟩,
 ⟨some 7,.bin .gtr (.t 6) (.c (.int .i64 200)),none⟩]
abbrev zz68_r2:List AI:=[
 ⟨some 2,.mv true (.c (.int .i64 2)),none⟩]
abbrev zz68_r3:List AI:=[
 ⟨some 8,.mv false (.t 0),none⟩,
 ⟨some 9,.len false (.t 8),none⟩,
 ⟨some 10,.mv false (.c (.int .i64 0)),none⟩]
abbrev zz68_r4:List AI:=[
 ⟨some 11,.bin .lss (.t 10) (.t 9),none⟩]
abbrev zz68_r5:List AI:=[
 ⟨some 12,.mv false (.t 10),none⟩,
 ⟨some 13,.iaddr 4 (.t 8) (.t 10),none⟩,
 ⟨some 14,.load true 4 (.t 13) .any,none⟩,
 ⟨some 4,.alloc [(.str []),(.int .i64 0),(.int .i64 0),(.int .i64 0)],none⟩,
 ⟨some 3,.mv true (.t 12),none⟩,
 ⟨none,.store 4 (.t 4) (.t 14) .any,none⟩]
abbrev zz68_r6:List AI:=[
 ⟨some 15,.load true 4 (.t 4) (.site 4),none⟩,
 ⟨some 16,.call (.c (.fn f_zz78)) [(.t 15)] 1,none⟩,
 ⟨some 17,.not (.t 16),none⟩,
 ⟨some 18,.mv false (.t 17),none⟩,
 ⟨some 19,.mv false (.t 3),some (18,false)⟩,
 ⟨some 20,.bin .gtr (.t 19) (.c (.int .i64 0)),some (18,false)⟩,
 ⟨some 21,.mv false (.t 20),some (18,false)⟩,
 ⟨some 22,.mv false (.t 0),some (21,true)⟩,
 ⟨some 23,.mv false (.t 3),some (21,true)⟩,
 ⟨some 24,.bin .sub (.t 23) (.c (.int .i64 1)),some (21,true)⟩,
 ⟨some 25,.iaddr 4 (.t 22) (.t 24),some (21,true)⟩,
 ⟨some 26,.load true 4 (.t 25) .foreign,some (21,true)⟩,
 ⟨some 27,.load true 4 (.t 4) (.site 4),some (21,true)⟩,
 ⟨some 28,.call (.c (.fn f_zz76)) [(.t 26),(.t 27)] 1,some (21,true)⟩,
 ⟨some 29,.bin .geq (.t 28) (.c (.int .i64 0)),some (21,true)⟩,
 ⟨some 30,.pick (.t 21) (.t 29) (.c (.bool false)),some (18,false)⟩,
 ⟨some 31,.pick (.t 18) (.c (.bool true)) (.t 30),none⟩]
abbrev zz68_r7:List AI:=[
 ⟨some 2,.mv true (.c (.int .i64 1)),none⟩]
abbrev zz68_r8:List AI:=[
 ⟨some 32,.bin .add (.t 10) (.c (.int .i64 1)),none⟩,
 ⟨some 10,.mv false (.t 32),none⟩]
abbrev zz68_l0:ACode:=.seq (.reg false zz68_r4) (.seq (.cond (.t 11) (.skip) (.exit 0)) (.seq (.block 1 (.seq (.reg false zz68_r5) (.seq (.reg true zz68_r6) (.cond (.t 31) (.seq (.reg false zz68_r7) (.ret)) (.skip))))) (.reg false zz68_r8)))
abbrev zz68_r9:List AI:=[
 ⟨some 2,.mv true (.c (.int .i64 0)),none⟩]
abbrev zz68_c:ACode:=.seq (.reg false zz68_r0) (.seq (.seq (.reg false zz68_r1) (.cond (.t 7) (.seq (.reg false zz68_r2) (.ret)) (.skip))) (.seq (.seq (.reg false zz68_r3) (.block 0 (.loop zz68_l0))) (.seq (.reg false zz68_r9) (.ret))))
def zz68_F:AFunc:=⟨33,[.tmp 2],zz68_c⟩
theorem zz68_cp:compile Tryz.prog [] f_zz68=some zz68_F:=by kernel_rfl
-- loop 0: [1, 2, 12, 13, 14]
-- loop 1: [1, 24, 25, 26, 31, 32, 33]
-- loop 2: [1, 24, 25, 26]
abbrev zz86_r0:List AI:=[
 ⟨some 2,.box 3 (.t 0),none⟩,
 ⟨some 4,.mv true (.c (.bool false)),none⟩]
abbrev zz86_r1:List AI:=[
 ⟨some 11,.faddr 1 (.t 2),none⟩,
 ⟨some 12,.load false 1 (.t 11) .any,none⟩,
 ⟨some 13,.len false (.t 12),none⟩,
 ⟨some 14,.mv false (.c (.int .i64 0)),none⟩]
abbrev zz86_r2:List AI:=[
 ⟨some 15,.bin .lss (.t 14) (.t 13),none⟩]
abbrev zz86_r3:List AI:=[
 ⟨some 16,.iaddr 4 (.t 12) (.t 14),none⟩,
 ⟨some 17,.load true 4 (.t 16) .any,none⟩,
 ⟨some 6,.alloc [(.str []),(.int .i64 0),(.int .i64 0),(.int .i64 0)],none⟩,
 ⟨none,.store 4 (.t 6) (.t 17) .any,none⟩]
abbrev zz86_r4:List AI:=[
 ⟨some 18,.mv false (.t 1),none⟩,
 ⟨some 19,.load true 4 (.t 6) .any,none⟩,
 ⟨some 20,.call (.t 18) [(.t 19)] 0,none⟩,
 ⟨some 21,.not (.t 20),none⟩]
abbrev zz86_r5:List AI:=[
 ⟨some 4,.mv true (.c (.bool false)),none⟩]
abbrev zz86_r6:List AI:=[
 ⟨some 22,.bin .add (.t 14) (.c (.int .i64 1)),none⟩,
 ⟨some 14,.mv false (.t 22),none⟩]
abbrev zz86_l0:ACode:=.seq (.reg false zz86_r2) (.seq (.cond (.t 15) (.skip) (.exit 0)) (.seq (.block 1 (.seq (.reg false zz86_r3) (.seq (.reg false zz86_r4) (.cond (.t 21) (.seq (.reg false zz86_r5) (.ret)) (.skip))))) (.reg false zz86_r6)))
abbrev zz86_r7:List AI:=[
 ⟨some 23,.faddr 2 (.t 2),none⟩,
 ⟨some 24,.load false 1 (.t 23) .any,none⟩,
 ⟨some 25,.len false (.t 24),none⟩,
 ⟨some 26,.mv false (.c (.int .i64 0)),none⟩]
abbrev zz86_r8:List AI:=[
 ⟨some 27,.bin .lss (.t 26) (.t 25),none⟩]
abbrev zz86_r9:List AI:=[
 ⟨some 28,.iaddr 2 (.t 24) (.t 26),none⟩,
 ⟨some 29,.load true 2 (.t 28) .any,none⟩,
 ⟨some 8,.alloc [(.int .i64 0),.nilS],none⟩,
 ⟨none,.store 2 (.t 8) (.t 29) .any,none⟩]
abbrev zz86_r10:List AI:=[
 ⟨some 30,.faddr 1 (.t 8),none⟩,
 ⟨some 31,.load false 1 (.t 30) .any,none⟩,
 ⟨some 32,.len false (.t 31),none⟩,
 ⟨some 33,.mv false (.c (.int .i64 0)),none⟩]
abbrev zz86_r11:List AI:=[
 ⟨some 34,.bin .lss (.t 33) (.t 32),none⟩]
abbrev zz86_r12:List AI:=[
 ⟨some 35,.iaddr 4 (.t 31) (.t 33),none⟩,
 ⟨some 36,.load true 4 (.t 35) .any,none⟩,
 ⟨some 10,.alloc [(.str []),(.int .i64 0),(.int .i64 0),(.int .i64 0)],none⟩,
 ⟨none,.store 4 (.t 10) (.t 36) .any,none⟩]
abbrev zz86_r13:List AI:=[
 ⟨some 37,.mv false (.t 1),none⟩,
 ⟨some 38,.load true 4 (.t 10) .any,none⟩,
 ⟨some 39,.call (.t 37) [(.t 38)] 0,none⟩,
 ⟨some 40,.not (.t 39),none⟩]
abbrev zz86_r14:List AI:=[
 ⟨some 4,.mv true (.c (.bool false)),none⟩]
abbrev zz86_r15:List AI:=[
 ⟨some 41,.bin .add (.t 33) (.c (.int .i64 1)),none⟩,
 ⟨some 33,.mv false (.t 41),none⟩]
abbrev zz86_l1:ACode:=.seq (.reg false zz86_r11) (.seq (.cond (.t 34) (.skip) (.exit 4)) (.seq (.block 5 (.seq (.reg false zz86_r12) (.seq (.reg false zz86_r13) (.cond (.t 40) (.seq (.reg false zz86_r14) (.ret)) (.skip))))) (.reg false zz86_r15)))
abbrev zz86_r16:List AI:=[
 ⟨some 42,.bin .add (.t 26) (.c (.int .i64 1)),none⟩,
 ⟨some 26,.mv false (.t 42),none⟩]
abbrev zz86_l2:ACode:=.seq (.reg false zz86_r8) (.seq (.cond (.t 27) (.skip) (.exit 2)) (.seq (.block 3 (.seq (.reg false zz86_r9) (.seq (.reg false zz86_r10) (.block 4 (.loop zz86_l1))))) (.reg false zz86_r16)))
abbrev zz86_r17:List AI:=[
 ⟨some 4,.mv true (.c (.bool true)),none⟩]
abbrev zz86_c:ACode:=.seq (.reg false zz86_r0) (.seq (.seq (.reg false zz86_r1) (.block 0 (.loop zz86_l0))) (.seq (.seq (.reg false zz86_r7) (.block 2 (.loop zz86_l2))) (.seq (.reg false zz86_r17) (.ret))))
def zz86_F:AFunc:=⟨43,[.tmp 4],zz86_c⟩
theorem zz86_cp:compile Tryz.prog [] f_zz86=some zz86_F:=by kernel_rfl
abbrev zz54_r0:List AI:=[
 ⟨some 2,.box 4 (.t 0),none⟩,
 ⟨some 3,.mv true (.c (.bool false)),none⟩]
abbrev zz54_r1:List AI:=[
 ⟨some 4,.faddr 3 (.t 2),none⟩,
 ⟨some 5,.load false 1 (.t 4) .any,none⟩,
 ⟨some 6,.faddr 0 (.t 1),none⟩,
 ⟨some 7,.load false 1 (.t 6) .any,none⟩,
 ⟨some 8,.bin .geq (.t 5) (.t 7),none⟩,
 ⟨some 3,.mv true (.t 8),none⟩]
abbrev zz54_c:ACode:=.seq (.reg false zz54_r0) (.seq (.reg false zz54_r1) (.ret))
def zz54_F:AFunc:=⟨9,[.tmp 3],zz54_c⟩
theorem zz54_cp:compile Tryz.prog [] f_zz54=some zz54_F:=by kernel_rfl
abbrev zz55_r0:List AI:=[
 ⟨some 2,.box 4 (.t 0),none⟩,
 ⟨some 3,.mv true (.c (.bool false)),none⟩]
abbrev zz55_r1:List AI:=[
 ⟨some 7,.load false 1 (.t 1) .any,none⟩,
 ⟨some 8,.faddr 2 (.t 2),none⟩,
 ⟨some 9,.load false 1 (.t 8) .any,none⟩,
 ⟨some 10,.gd (.mlook [.i] (.int .i64 0) true) [(.t 7),(.t 9)],none⟩,
 ⟨some 6,.mv false (.t 10),none⟩,
 ⟨some 11,.ext (.t 6) 0,none⟩,
 ⟨some 12,.ext (.t 6) 1,none⟩,
 ⟨some 4,.mv true (.t 11),none⟩,
 ⟨some 5,.mv true (.t 12),none⟩]
abbrev zz55_r2:List AI:=[
 ⟨some 13,.load false 1 (.t 1) .any,none⟩,
 ⟨some 14,.faddr 2 (.t 2),none⟩,
 ⟨some 15,.load false 1 (.t 14) .any,none⟩,
 ⟨some 16,.faddr 3 (.t 2),none⟩,
 ⟨some 17,.load false 1 (.t 16) .any,none⟩,
 ⟨none,.gd (.mset [.i]) [(.t 13),(.t 15),(.t 17)],none⟩]
abbrev zz55_r3:List AI:=[
 ⟨some 18,.mv false (.t 5),none⟩,
 ⟨some 19,.not (.t 18),none⟩,
 ⟨some 20,.mv false (.t 19),none⟩,
 ⟨some 21,.mv false (.t 4),some (20,false)⟩,
 ⟨some 22,.faddr 3 (.t 2),some (20,false)⟩,
 ⟨some 23,.load false 1 (.t 22) .any,some (20,false)⟩,
 ⟨some 24,.bin .eql (.t 21) (.t 23),some (20,false)⟩,
 ⟨some 25,.pick (.t 20) (.c (.bool true)) (.t 24),none⟩,
 ⟨some 3,.mv true (.t 25),none⟩]
abbrev zz55_c:ACode:=.seq (.reg false zz55_r0) (.seq (.reg false zz55_r1) (.seq (.reg false zz55_r2) (.seq (.reg false zz55_r3) (.ret))))
def zz55_F:AFunc:=⟨26,[.tmp 3],zz55_c⟩
theorem zz55_cp:compile Tryz.prog [] f_zz55=some zz55_F:=by kernel_rfl
-- loop 0: [0, 3]
abbrev zz29_r0:List AI:=[
 ⟨some 2,.mv true (.c (.int .i64 0)),none⟩]
abbrev zz29_r1:List AI:=[
 ⟨some 6,.mv false (.t 0),none⟩,
 ⟨some 7,.len false (.t 6),none⟩,
 ⟨some 8,.bin .gtr (.t 7) (.c (.int .i64 200)),none⟩]
abbrev zz29_r2:List AI:=[
 ⟨some 2,.mv true (.c (.int .i64 2)),none⟩]
abbrev zz29_r3:List AI:=[
 ⟨some 3,.mv true (.c (.int .i64 0)),none⟩]
abbrev zz29_r4:List AI:=[
 ⟨some 9,.mv false (.t 3),none⟩,
 ⟨some 10,.mv false (.t 0),none⟩,
 ⟨some 11,.len false (.t 10),none⟩,
 ⟨some 12,.bin .lss (.t 9) (.t 11),none⟩]
abbrev zz29_r5:List AI:=[
 ⟨some 15,.mv false (.t 0),none⟩,
 ⟨some 16,.mv false (.t 3),none⟩,
 ⟨some 17,.iaddr 4 (.t 15) (.t 16),none⟩,
 ⟨some 18,.load true 4 (.t 17) .any,none⟩,
 ⟨some 19,.call (.c (.fn f_zz35)) [(.t 18)] 0,none⟩,
 ⟨some 4,.mv true (.t 19),none⟩]
abbrev zz29_r6:List AI:=[
 ⟨some 20,.mv false (.t 3),none⟩,
 ⟨some 21,.bin .eql (.t 20) (.c (.int .i64 0)),none⟩,
 ⟨some 22,.mv false (.t 21),none⟩,
 ⟨some 23,.mv false (.t 0),some (22,false)⟩,
 ⟨some 24,.mv false (.t 3),some (22,false)⟩,
 ⟨some 25,.bin .sub (.t 24) (.c (.int .i64 1)),some (22,false)⟩,
 ⟨some 26,.iaddr 4 (.t 23) (.t 25),some (22,false)⟩,
 ⟨some 27,.load true 4 (.t 26) .foreign,some (22,false)⟩,
 ⟨some 28,.mv false (.t 0),some (22,false)⟩,
 ⟨some 29,.mv false (.t 3),some (22,false)⟩,
 ⟨some 30,.iaddr 4 (.t 28) (.t 29),some (22,false)⟩,
 ⟨some 31,.load true 4 (.t 30) .foreign,some (22,false)⟩,
 ⟨some 32,.call (.c (.fn f_zz28)) [(.t 27),(.t 31)] 1,some (22,false)⟩,
 ⟨some 33,.pick (.t 22) (.c (.bool true)) (.t 32),none⟩,
 ⟨some 5,.mv true (.t 33),none⟩]
abbrev zz29_r7:List AI:=[
 ⟨some 34,.mv false (.t 4),none⟩,
 ⟨some 35,.not (.t 34),none⟩,
 ⟨some 36,.mv false (.t 35),none⟩,
 ⟨some 37,.mv false (.t 5),some (36,false)⟩,
 ⟨some 38,.not (.t 37),some (36,false)⟩,
 ⟨some 39,.pick (.t 36) (.c (.bool true)) (.t 38),none⟩]
abbrev zz29_r8:List AI:=[
 ⟨some 2,.mv true (.c (.int .i64 1)),none⟩]
abbrev zz29_r9:List AI:=[
 ⟨some 13,.mv false (.t 3),none⟩,
 ⟨some 14,.bin .add (.t 13) (.c (.int .i64 1)),none⟩,
 ⟨some 3,.mv true (.t 14),none⟩]
abbrev zz29_l0:ACode:=.seq (.seq (.reg false zz29_r4) (.cond (.t 12) (.skip) (.exit 0))) (.seq (.block 1 (.seq (.reg false zz29_r5) (.seq (.reg true zz29_r6) (.seq (.reg false zz29_r7) (.cond (.t 39) (.seq (.reg false zz29_r8) (.ret)) (.skip)))))) (.reg false zz29_r9))
abbrev zz29_r10:List AI:=[
 ⟨some 2,.mv true (.c (.int .i64 0)),none⟩]
abbrev zz29_c:ACode:=.seq (.reg false zz29_r0) (.seq (.seq (.reg false zz29_r1) (.cond (.t 8) (.seq (.reg false zz29_r2) (.ret)) (.skip))) (.seq (.seq (.reg false zz29_r3) (.block 0 (.loop zz29_l0))) (.seq (.reg false zz29_r10) (.ret))))
def zz29_F:AFunc:=⟨40,[.tmp 2],zz29_c⟩
theorem zz29_cp:compile Tryz.prog [] f_zz29=some zz29_F:=by kernel_rfl
abbrev zz69_r0:List AI:=[
 ⟨some 2,.box 3 (.t 0),none⟩,
 ⟨some 3,.box 1 (.t 1),none⟩,
 ⟨some 4,.mv true (.c (.int .i64 0)),none⟩]
abbrev zz69_r1:List AI:=[
 ⟨some 5,.alloc [(.int .i64 0)],none⟩,
 ⟨none,.store 1 (.t 5) (.c (.int .i64 (-1))) .any,none⟩]
abbrev zz69_r2:List AI:=[
 ⟨some 6,.load true 3 (.t 2) .any,none⟩,
 ⟨some 7,.mkfunc f_zz48 [(.t 3),(.t 5)],none⟩,
 ⟨some 8,.call (.c (.fn f_zz86)) [(.t 6),(.t 7)] 0,none⟩]
abbrev zz69_r3:List AI:=[
 ⟨some 9,.load false 1 (.t 5) .any,none⟩,
 ⟨some 4,.mv true (.t 9),none⟩]
abbrev zz69_c:ACode:=.seq (.reg false zz69_r0) (.seq (.reg false zz69_r1) (.seq (.reg false zz69_r2) (.seq (.reg false zz69_r3) (.ret))))
def zz69_F:AFunc:=⟨10,[.tmp 4],zz69_c⟩
theorem zz69_cp:compile Tryz.prog [] f_zz69=some zz69_F:=by kernel_rfl
-- loop 0: [0, 2, 4, 8, 9, 10]
abbrev zz0_r0:List AI:=[
 ⟨some 4,.box 4 (.t 1),none⟩,
 ⟨some 6,.mv true (.c (.int .i64 0)),none⟩,
 ⟨some 7,.mv true (.c (.bool false)),none⟩]
abbrev zz0_r1:List AI:=[
 ⟨some 12,.mv false (.t 0),none⟩,
 ⟨some 13,.len false (.t 12),none⟩,
 ⟨some 8,.mv true (.t 13),none⟩]
abbrev zz0_r2:List AI:=[
 ⟨some 14,.mv false (.t 8),none⟩,
 ⟨some 9,.mv true (.c (.int .i64 0)),none⟩,
 ⟨some 10,.mv true (.t 14),none⟩]
abbrev zz0_r3:List AI:=[
 ⟨some 15,.mv false (.t 9),none⟩,
 ⟨some 16,.mv false (.t 10),none⟩,
 ⟨some 17,.bin .lss (.t 15) (.t 16),none⟩]
abbrev zz0_r4:List AI:=[
 ⟨some 18,.mv false (.t 9),none⟩,
 ⟨some 19,.mv false (.t 10),none⟩,
 ⟨some 20,.bin .add (.t 18) (.t 19),none⟩,
 ⟨some 21,.conv .u64 (.t 20),none⟩,
 ⟨some 22,.bin .shr (.t 21) (.c (.int .u64 1)),none⟩,
 ⟨some 23,.conv .i64 (.t 22),none⟩,
 ⟨some 11,.mv true (.t 23),none⟩]
abbrev zz0_r5:List AI:=[
 ⟨some 24,.mv false (.t 2),none⟩,
 ⟨some 25,.mv false (.t 0),none⟩,
 ⟨some 26,.mv false (.t 11),none⟩,
 ⟨some 27,.iaddr 4 (.t 25) (.t 26),none⟩,
 ⟨some 28,.load true 4 (.t 27) .foreign,none⟩,
 ⟨some 29,.load true 4 (.t 4) (.site 4),none⟩,
 ⟨some 30,.call (.t 24) [(.t 28),(.t 29)] 3,none⟩,
 ⟨some 31,.bin .lss (.t 30) (.c (.int .i64 0)),none⟩]
abbrev zz0_r6:List AI:=[
 ⟨some 32,.mv false (.t 11),none⟩,
 ⟨some 33,.bin .add (.t 32) (.c (.int .i64 1)),none⟩,
 ⟨some 9,.mv true (.t 33),none⟩]
abbrev zz0_r7:List AI:=[
 ⟨some 34,.mv false (.t 11),none⟩,
 ⟨some 10,.mv true (.t 34),none⟩]
abbrev zz0_l0:ACode:=.seq (.seq (.reg false zz0_r3) (.cond (.t 17) (.skip) (.exit 0))) (.block 1 (.seq (.reg false zz0_r4) (.seq (.reg true zz0_r5) (.cond (.t 31) (.reg false zz0_r6) (.reg false zz0_r7)))))
abbrev zz0_r8:List AI:=[
 ⟨some 35,.mv false (.t 9),none⟩,
 ⟨some 36,.mv false (.t 9),none⟩,
 ⟨some 37,.mv false (.t 8),none⟩,
 ⟨some 38,.bin .lss (.t 36) (.t 37),none⟩,
 ⟨some 39,.mv false (.t 38),none⟩,
 ⟨some 40,.mv false (.t 2),some (39,true)⟩,
 ⟨some 41,.mv false (.t 0),some (39,true)⟩,
 ⟨some 42,.mv false (.t 9),some (39,true)⟩,
 ⟨some 43,.iaddr 4 (.t 41) (.t 42),some (39,true)⟩,
 ⟨some 44,.load true 4 (.t 43) .foreign,some (39,true)⟩,
 ⟨some 45,.load true 4 (.t 4) (.site 4),some (39,true)⟩,
 ⟨some 46,.call (.t 40) [(.t 44),(.t 45)] 3,some (39,true)⟩,
 ⟨some 47,.bin .eql (.t 46) (.c (.int .i64 0)),some (39,true)⟩,
 ⟨some 48,.pick (.t 39) (.t 47) (.c (.bool false)),none⟩,
 ⟨some 6,.mv true (.t 35),none⟩,
 ⟨some 7,.mv true (.t 48),none⟩]
abbrev zz0_c:ACode:=.seq (.reg false zz0_r0) (.seq (.reg false zz0_r1) (.seq (.reg false zz0_r2) (.seq (.block 0 (.loop zz0_l0)) (.seq (.reg true zz0_r8) (.ret)))))
def zz0_F:AFunc:=⟨49,[.tmp 6,.tmp 7],zz0_c⟩
theorem zz0_cp:compile Tryz.prog [] f_zz0=some zz0_F:=by kernel_rfl
abbrev zz76_r0:List AI:=[
 ⟨some 2,.box 4 (.t 0),none⟩,
 ⟨some 3,.box 4 (.t 1),none⟩,
 ⟨some 4,.mv true (.c (.int .i64 0)),none⟩]
abbrev zz76_r1:List AI:=[
 ⟨some 5,.faddr 0 (.t 2),none⟩,
 ⟨some 6,.load false 1 (.t 5) (.site 2),none⟩,
 ⟨some 7,.faddr 0 (.t 3),none⟩,
 ⟨some 8,.load false 1 (.t 7) (.site 3),none⟩,
 ⟨some 10,.faddr 1 (.t 2),none⟩,
 ⟨some 11,.load false 1 (.t 10) (.site 2),none⟩,
 ⟨some 12,.faddr 1 (.t 3),none⟩,
 ⟨some 13,.load false 1 (.t 12) (.site 3),none⟩,
 ⟨some 9,.call (.c (.fn f_zz32)) [(.t 6),(.t 8)] 2,none⟩,
 ⟨some 14,.call (.c (.fn f_zz58)) [(.t 11),(.t 13)] 2,none⟩,
 ⟨some 15,.mkslice 1 2 (.int .i64 0) [(0,(.t 9)),(1,(.t 14))],none⟩,
 ⟨some 16,.call (.c (.fn f_zz96)) [(.t 15)] 2,none⟩,
 ⟨some 4,.mv true (.t 16),none⟩]
abbrev zz76_c:ACode:=.seq (.reg false zz76_r0) (.seq (.reg true zz76_r1) (.ret))
def zz76_F:AFunc:=⟨17,[.tmp 4],zz76_c⟩
theorem zz76_cp:compile Tryz.prog [] f_zz76=some zz76_F:=by kernel_rfl
abbrev zz78_r0:List AI:=[
 ⟨some 1,.box 4 (.t 0),none⟩,
 ⟨some 2,.mv true (.c (.bool false)),none⟩]
abbrev zz78_r1:List AI:=[
 ⟨some 3,.faddr 0 (.t 1),none⟩,
 ⟨some 4,.load false 1 (.t 3) .any,none⟩,
 ⟨some 5,.bin .neq (.t 4) (.c (.str [])),none⟩,
 ⟨some 6,.mv false (.t 5),none⟩,
 ⟨some 7,.faddr 0 (.t 1),some (6,true)⟩,
 ⟨some 8,.load false 1 (.t 7) .any,some (6,true)⟩,
 ⟨some 9,.len true (.t 8),some (6,true)⟩,
 ⟨some 10,.bin .leq (.t 9) (.c (.int .i64 64)),some (6,true)⟩,
 ⟨some 11,.pick (.t 6) (.t 10) (.c (.bool false)),none⟩,
 ⟨some 12,.mv false (.t 11),none⟩,
 ⟨some 13,.faddr 1 (.t 1),some (12,true)⟩,
 ⟨some 14,.load false 1 (.t 13) .any,some (12,true)⟩,
 ⟨some 15,.bin .geq (.t 14) (.c (.int .i64 1)),some (12,true)⟩,
 ⟨some 16,.pick (.t 12) (.t 15) (.c (.bool false)),none⟩,
 ⟨some 17,.mv false (.t 16),none⟩,
 ⟨some 18,.faddr 1 (.t 1),some (17,true)⟩,
 ⟨some 19,.load false 1 (.t 18) .any,some (17,true)⟩,
 ⟨some 20,.bin .leq (.t 19) (.c (.int .i64 1099511627776)),some (17,true)⟩,
 ⟨some 21,.pick (.t 17) (.t 20) (.c (.bool false)),none⟩,
 ⟨some 22,.mv false (.t 21),none⟩,
 ⟨some 23,.faddr 2 (.t 1),some (22,true)⟩,
 ⟨some 24,.load false 1 (.t 23) .any,some (22,true)⟩,
 ⟨some 25,.call (.c (.fn f_zz73)) [(.t 24),(.c (.int .i64 1099511627776))] 0,some (22,true)⟩,
 ⟨some 26,.pick (.t 22) (.t 25) (.c (.bool false)),none⟩,
 ⟨some 27,.mv false (.t 26),none⟩,
 ⟨some 28,.faddr 3 (.t 1),some (27,true)⟩,
 ⟨some 29,.load false 1 (.t 28) .any,some (27,true)⟩,
 ⟨some 30,.call (.c (.fn f_zz73)) [(.t 29),(.c (.int .i64 1000000))] 0,some (27,true)⟩,
 ⟨some 31,.pick (.t 27) (.t 30) (.c (.bool false)),none⟩,
 ⟨some 2,.mv true (.t 31),none⟩]
abbrev zz78_c:ACode:=.seq (.reg false zz78_r0) (.seq (.reg false zz78_r1) (.ret))
def zz78_F:AFunc:=⟨32,[.tmp 2],zz78_c⟩
theorem zz78_cp:compile Tryz.prog [] f_zz78=some zz78_F:=by kernel_rfl
abbrev zz75_r0:List AI:=[
 ⟨some 2,.box 3 (.t 0),none⟩,
 ⟨some 3,.box 4 (.t 1),none⟩,
 ⟨some 4,.alloc [(.int .i64 0),.nilS,.nilS],none⟩]
abbrev zz75_r1:List AI:=[
 ⟨some 8,.faddr 1 (.t 2),none⟩,
 ⟨some 9,.load false 1 (.t 8) .any,none⟩,
 ⟨some 10,.load true 4 (.t 3) .any,none⟩,
 ⟨some 11,.call (.c (.fn f_zz0)) [(.t 9),(.t 10),(.c (.fn f_zz76))] 0,none⟩,
 ⟨some 7,.mv false (.t 11),none⟩,
 ⟨some 12,.ext (.t 7) 0,none⟩,
 ⟨some 13,.ext (.t 7) 1,none⟩,
 ⟨some 5,.mv true (.t 12),none⟩,
 ⟨some 6,.mv true (.t 13),none⟩]
abbrev zz75_r2:List AI:=[
 ⟨some 14,.faddr 1 (.t 2),none⟩,
 ⟨some 15,.load false 1 (.t 14) (.site 2),none⟩,
 ⟨some 17,.mv false (.t 5),none⟩,
 ⟨some 18,.load true 4 (.t 3) (.site 3),none⟩,
 ⟨some 19,.mkslice 4 1 (.agg [(.str []),(.int .i64 0),(.int .i64 0),(.int .i64 0)]) [(0,(.t 18))],none⟩,
 ⟨some 16,.call (.c (.fn f_zz8)) [(.t 15)] 2,none⟩,
 ⟨some 20,.call (.c (.fn f_zz6)) [(.t 16),(.t 17),(.t 19)] 2,none⟩,
 ⟨some 21,.faddr 1 (.t 2),none⟩,
 ⟨none,.store 1 (.t 21) (.t 20) (.site 2),none⟩]
abbrev zz75_r3:List AI:=[
 ⟨some 22,.load true 3 (.t 2) .any,none⟩,
 ⟨none,.store 3 (.t 4) (.t 22) .any,none⟩]
abbrev zz75_c:ACode:=.seq (.reg false zz75_r0) (.seq (.reg false zz75_r1) (.seq (.reg true zz75_r2) (.seq (.reg false zz75_r3) (.ret))))
def zz75_F:AFunc:=⟨23,[.cell 4 true 3],zz75_c⟩
theorem zz75_cp:compile Tryz.prog [] f_zz75=some zz75_F:=by kernel_rfl
-- loop 0: [1, 5, 9, 10]
abbrev zz100_r0:List AI:=[
 ⟨some 4,.mv true (.c (.str [])),none⟩]
abbrev zz100_r1:List AI:=[
 ⟨some 7,.mv false (.t 0),none⟩,
 ⟨some 8,.gn (.mkSl 1 1 [(.int .u8 0)]) [(.t 7),(.t 7)],none⟩,
 ⟨some 5,.mv true (.t 8),none⟩]
abbrev zz100_r2:List AI:=[
 ⟨some 9,.mv false (.t 0),none⟩,
 ⟨some 10,.mv false (.c (.int .i64 0)),none⟩]
abbrev zz100_r3:List AI:=[
 ⟨some 11,.bin .lss (.t 10) (.t 9),none⟩]
abbrev zz100_r4:List AI:=[
 ⟨some 12,.mv false (.t 10),none⟩,
 ⟨some 6,.mv true (.t 12),none⟩]
abbrev zz100_r5:List AI:=[
 ⟨some 13,.mv false (.t 5),none⟩,
 ⟨some 14,.mv false (.t 6),none⟩,
 ⟨some 15,.mv false (.t 1),none⟩,
 ⟨some 16,.mv false (.t 6),none⟩,
 ⟨some 17,.call (.t 15) [(.t 16)] 0,none⟩,
 ⟨some 18,.iaddr 1 (.t 13) (.t 14),none⟩,
 ⟨none,.store 1 (.t 18) (.t 17) .any,none⟩]
abbrev zz100_r6:List AI:=[
 ⟨some 19,.bin .add (.t 10) (.c (.int .i64 1)),none⟩,
 ⟨some 10,.mv false (.t 19),none⟩]
abbrev zz100_l0:ACode:=.seq (.reg false zz100_r3) (.seq (.cond (.t 11) (.skip) (.exit 0)) (.seq (.block 1 (.seq (.reg false zz100_r4) (.reg false zz100_r5))) (.reg false zz100_r6)))
abbrev zz100_r7:List AI:=[
 ⟨some 20,.mv false (.t 5),none⟩,
 ⟨some 21,.gd .b2s [(.t 20)],none⟩,
 ⟨some 4,.mv true (.t 21),none⟩]
abbrev zz100_c:ACode:=.seq (.reg false zz100_r0) (.seq (.reg false zz100_r1) (.seq (.seq (.reg false zz100_r2) (.block 0 (.loop zz100_l0))) (.seq (.reg false zz100_r7) (.ret))))
def zz100_F:AFunc:=⟨22,[.tmp 4],zz100_c⟩
theorem zz100_cp:compile Tryz.prog [21] f_zz100=some zz100_F:=by kernel_rfl
abbrev zz99_r0:List AI:=[
 ⟨some 4,.mv true (.c (.int .u8 0)),none⟩]
abbrev zz99_r1:List AI:=[
 ⟨some 5,.mv false (.t 0),none⟩,
 ⟨some 6,.load false 1 (.t 1) .any,none⟩,
 ⟨some 7,.len true (.t 6),none⟩,
 ⟨some 8,.bin .lss (.t 5) (.t 7),none⟩]
abbrev zz99_r2:List AI:=[
 ⟨some 9,.load false 1 (.t 2) .foreign,none⟩,
 ⟨some 10,.mv false (.t 0),none⟩,
 ⟨some 11,.idxS (.t 9) (.t 10),none⟩,
 ⟨some 12,.load false 1 (.t 1) .foreign,none⟩,
 ⟨some 13,.mv false (.t 0),none⟩,
 ⟨some 14,.idxS (.t 12) (.t 13),none⟩,
 ⟨some 15,.bin .xor (.t 11) (.t 14),none⟩,
 ⟨some 4,.mv true (.t 15),none⟩]
abbrev zz99_r3:List AI:=[
 ⟨some 16,.load false 1 (.t 2) .any,none⟩,
 ⟨some 17,.mv false (.t 0),none⟩,
 ⟨some 18,.idxS (.t 16) (.t 17),none⟩,
 ⟨some 4,.mv true (.t 18),none⟩]
abbrev zz99_c:ACode:=.seq (.reg false zz99_r0) (.seq (.seq (.reg false zz99_r1) (.cond (.t 8) (.seq (.reg true zz99_r2) (.ret)) (.skip))) (.seq (.reg false zz99_r3) (.ret)))
def zz99_F:AFunc:=⟨19,[.tmp 4],zz99_c⟩
theorem zz99_cp:compile Tryz.prog [] f_zz99=some zz99_F:=by kernel_rfl
abbrev zz89_r0:List AI:=[
 ⟨some 2,.box 3 (.t 0),none⟩,
 ⟨some 3,.gn (.box 7) [(.t 1)],none⟩,
 ⟨some 4,.alloc [(.int .i64 0),.nilS,.nilS],none⟩,
 ⟨some 5,.mv true (.c (.int .i64 0)),none⟩]
abbrev zz89_r1:List AI:=[
 ⟨some 6,.faddr 1 (.t 3),none⟩,
 ⟨some 7,.load false 1 (.t 6) .any,none⟩,
 ⟨some 8,.faddr 0 (.t 2),none⟩,
 ⟨some 9,.load false 1 (.t 8) .any,none⟩,
 ⟨some 10,.bin .lss (.t 7) (.t 9),none⟩]
abbrev zz89_r2:List AI:=[
 ⟨some 11,.load true 3 (.t 2) .any,none⟩,
 ⟨none,.store 3 (.t 4) (.t 11) .any,none⟩,
 ⟨some 5,.mv true (.c (.int .i64 15)),none⟩]
abbrev zz89_r3:List AI:=[
 ⟨some 12,.faddr 1 (.t 3),none⟩,
 ⟨some 13,.load false 1 (.t 12) .any,none⟩,
 ⟨some 14,.bin .gtr (.t 13) (.c (.int .i64 1000000)),none⟩]
abbrev zz89_r4:List AI:=[
 ⟨some 15,.load true 3 (.t 2) .any,none⟩,
 ⟨none,.store 3 (.t 4) (.t 15) .any,none⟩,
 ⟨some 5,.mv true (.c (.int .i64 3)),none⟩]
abbrev zz89_r5:List AI:=[
 ⟨some 16,.faddr 1 (.t 3),none⟩,
 ⟨some 17,.load false 1 (.t 16) .any,none⟩,
 ⟨some 18,.faddr 0 (.t 2),none⟩,
 ⟨none,.store 1 (.t 18) (.t 17) .any,none⟩]
abbrev zz89_r6:List AI:=[
 ⟨some 19,.load true 3 (.t 2) (.site 2),none⟩,
 ⟨some 20,.gd (.clo f_zz71) [(.t 3)],none⟩,
 ⟨some 21,.call (.c (.fn f_zz87)) [(.t 20)] 4,none⟩,
 ⟨some 22,.call (.c (.fn f_zz79)) [(.t 19),(.t 21)] 4,none⟩,
 ⟨none,.store 3 (.t 4) (.t 22) (.site 4),none⟩,
 ⟨some 5,.mv true (.c (.int .i64 0)),none⟩]
abbrev zz89_c:ACode:=.seq (.reg false zz89_r0) (.seq (.seq (.reg false zz89_r1) (.cond (.t 10) (.seq (.reg false zz89_r2) (.ret)) (.skip))) (.seq (.seq (.reg false zz89_r3) (.cond (.t 14) (.seq (.reg false zz89_r4) (.ret)) (.skip))) (.seq (.reg false zz89_r5) (.seq (.reg true zz89_r6) (.ret)))))
def zz89_F:AFunc:=⟨23,[.cell 4 true 3,.tmp 5],zz89_c⟩
theorem zz89_cp:compile Tryz.prog [3,20] f_zz89=some zz89_F:=by kernel_rfl
abbrev zz92_r0:List AI:=[
 ⟨some 2,.box 3 (.t 0),none⟩,
 ⟨some 3,.box 7 (.t 1),none⟩,
 ⟨some 4,.alloc [(.int .i64 0),.nilS,.nilS],none⟩,
 ⟨some 5,.mv true (.c (.int .i64 0)),none⟩]
abbrev zz92_r1:List AI:=[
 ⟨some 8,.faddr 6 (.t 3),none⟩,
 ⟨some 9,.load false 1 (.t 8) .any,none⟩,
 ⟨some 10,.faddr 3 (.t 3),none⟩,
 ⟨some 11,.load false 1 (.t 10) .any,none⟩,
 ⟨some 12,.faddr 4 (.t 3),none⟩,
 ⟨some 13,.load false 1 (.t 12) .any,none⟩,
 ⟨some 14,.build [(.str []),(.int .i64 0),(.int .i64 0),(.int .i64 0)] [(0,1,(.t 9)),(1,1,(.c (.int .i64 1))),(2,1,(.t 11)),(3,1,(.t 13))],none⟩,
 ⟨some 6,.alloc [(.str []),(.int .i64 0),(.int .i64 0),(.int .i64 0)],none⟩,
 ⟨none,.store 4 (.t 6) (.t 14) .any,none⟩]
abbrev zz92_r2:List AI:=[
 ⟨some 15,.load true 3 (.t 2) .any,none⟩,
 ⟨some 16,.faddr 3 (.t 3),none⟩,
 ⟨some 17,.load false 1 (.t 16) .any,none⟩,
 ⟨some 18,.call (.c (.fn f_zz69)) [(.t 15),(.t 17)] 0,none⟩,
 ⟨some 7,.mv true (.t 18),none⟩]
abbrev zz92_r3:List AI:=[
 ⟨some 20,.load true 4 (.t 6) .any,none⟩,
 ⟨some 21,.call (.c (.fn f_zz78)) [(.t 20)] 0,none⟩,
 ⟨some 22,.not (.t 21),none⟩,
 ⟨some 19,.mv true (.t 22),none⟩]
abbrev zz92_r4:List AI:=[
 ⟨some 23,.load true 3 (.t 2) .any,none⟩,
 ⟨none,.store 3 (.t 4) (.t 23) .any,none⟩,
 ⟨some 5,.mv true (.c (.int .i64 1)),none⟩]
abbrev zz92_r5:List AI:=[
 ⟨some 25,.faddr 4 (.t 3),none⟩,
 ⟨some 26,.load false 1 (.t 25) .any,none⟩,
 ⟨some 27,.faddr 0 (.t 2),none⟩,
 ⟨some 28,.load false 1 (.t 27) .any,none⟩,
 ⟨some 29,.bin .lss (.t 26) (.t 28),none⟩,
 ⟨some 24,.mv true (.t 29),none⟩]
abbrev zz92_r6:List AI:=[
 ⟨some 30,.load true 3 (.t 2) .any,none⟩,
 ⟨none,.store 3 (.t 4) (.t 30) .any,none⟩,
 ⟨some 5,.mv true (.c (.int .i64 18)),none⟩]
abbrev zz92_r7:List AI:=[
 ⟨some 32,.mv false (.t 7),none⟩,
 ⟨some 33,.bin .geq (.t 32) (.c (.int .i64 0)),none⟩,
 ⟨some 34,.mv false (.t 33),none⟩,
 ⟨some 35,.mv false (.t 7),some (34,true)⟩,
 ⟨some 36,.faddr 4 (.t 3),some (34,true)⟩,
 ⟨some 37,.load false 1 (.t 36) .any,some (34,true)⟩,
 ⟨some 38,.bin .neq (.t 35) (.t 37),some (34,true)⟩,
 ⟨some 39,.pick (.t 34) (.t 38) (.c (.bool false)),none⟩,
 ⟨some 31,.mv true (.t 39),none⟩]
abbrev zz92_r8:List AI:=[
 ⟨some 40,.load true 3 (.t 2) .any,none⟩,
 ⟨none,.store 3 (.t 4) (.t 40) .any,none⟩,
 ⟨some 5,.mv true (.c (.int .i64 4)),none⟩]
abbrev zz92_r9:List AI:=[
 ⟨some 42,.faddr 1 (.t 2),none⟩,
 ⟨some 43,.load false 1 (.t 42) .any,none⟩,
 ⟨some 44,.len false (.t 43),none⟩,
 ⟨some 45,.bin .eql (.t 44) (.c (.int .i64 200)),none⟩,
 ⟨some 41,.mv true (.t 45),none⟩]
abbrev zz92_r10:List AI:=[
 ⟨some 46,.load true 3 (.t 2) .any,none⟩,
 ⟨none,.store 3 (.t 4) (.t 46) .any,none⟩,
 ⟨some 5,.mv true (.c (.int .i64 13)),none⟩]
abbrev zz92_b0:ACode:=.seq (.reg false zz92_r9) (.cond (.t 41) (.seq (.reg false zz92_r10) (.ret)) (.skip))
abbrev zz92_b1:ACode:=.seq (.reg false zz92_r7) (.cond (.t 31) (.seq (.reg false zz92_r8) (.ret)) (zz92_b0))
abbrev zz92_b2:ACode:=.seq (.reg false zz92_r5) (.cond (.t 24) (.seq (.reg false zz92_r6) (.ret)) (zz92_b1))
abbrev zz92_r11:List AI:=[
 ⟨some 47,.load true 3 (.t 2) .any,none⟩,
 ⟨some 48,.mkfunc f_zz77 [(.t 3),(.t 6)],none⟩,
 ⟨some 49,.call (.c (.fn f_zz86)) [(.t 47),(.t 48)] 0,none⟩]
abbrev zz92_r12:List AI:=[
 ⟨some 50,.faddr 1 (.t 6),none⟩,
 ⟨some 51,.load false 1 (.t 50) .any,none⟩,
 ⟨some 52,.bin .gtr (.t 51) (.c (.int .i64 1099511627776)),none⟩]
abbrev zz92_r13:List AI:=[
 ⟨some 53,.load true 3 (.t 2) .any,none⟩,
 ⟨none,.store 3 (.t 4) (.t 53) .any,none⟩,
 ⟨some 5,.mv true (.c (.int .i64 3)),none⟩]
abbrev zz92_r14:List AI:=[
 ⟨some 54,.load true 3 (.t 2) .any,none⟩,
 ⟨some 55,.load true 4 (.t 6) .any,none⟩,
 ⟨some 56,.call (.c (.fn f_zz75)) [(.t 54),(.t 55)] 0,none⟩,
 ⟨none,.store 3 (.t 4) (.t 56) .any,none⟩,
 ⟨some 5,.mv true (.c (.int .i64 0)),none⟩]
abbrev zz92_c:ACode:=.seq (.reg false zz92_r0) (.seq (.reg false zz92_r1) (.seq (.reg false zz92_r2) (.seq (.block 0 (.seq (.reg false zz92_r3) (.cond (.t 19) (.seq (.reg false zz92_r4) (.ret)) (zz92_b2)))) (.seq (.reg false zz92_r11) (.seq (.seq (.reg false zz92_r12) (.cond (.t 52) (.seq (.reg false zz92_r13) (.ret)) (.skip))) (.seq (.reg false zz92_r14) (.ret)))))))
def zz92_F:AFunc:=⟨57,[.cell 4 true 3,.tmp 5],zz92_c⟩
theorem zz92_cp:compile Tryz.prog [] f_zz92=some zz92_F:=by kernel_rfl
abbrev zz85_r0:List AI:=[
 ⟨some 2,.box 3 (.t 0),none⟩,
 ⟨some 3,.box 7 (.t 1),none⟩,
 ⟨some 4,.alloc [(.int .i64 0),.nilS,.nilS],none⟩,
 ⟨some 5,.mv true (.c (.int .i64 0)),none⟩]
abbrev zz85_r1:List AI:=[
 ⟨some 9,.faddr 1 (.t 2),none⟩,
 ⟨some 10,.load false 1 (.t 9) .any,none⟩,
 ⟨some 11,.faddr 6 (.t 3),none⟩,
 ⟨some 12,.load false 1 (.t 11) .any,none⟩,
 ⟨some 13,.faddr 2 (.t 3),none⟩,
 ⟨some 14,.load false 1 (.t 13) .any,none⟩,
 ⟨some 15,.build [(.str []),(.int .i64 0),(.int .i64 0),(.int .i64 0)] [(0,1,(.t 12)),(1,1,(.t 14))],none⟩,
 ⟨some 16,.call (.c (.fn f_zz0)) [(.t 10),(.t 15),(.c (.fn f_zz76))] 0,none⟩,
 ⟨some 8,.mv false (.t 16),none⟩,
 ⟨some 17,.ext (.t 8) 0,none⟩,
 ⟨some 18,.ext (.t 8) 1,none⟩,
 ⟨some 6,.mv true (.t 17),none⟩,
 ⟨some 7,.mv true (.t 18),none⟩]
abbrev zz85_r2:List AI:=[
 ⟨some 19,.mv false (.t 7),none⟩,
 ⟨some 20,.not (.t 19),none⟩]
abbrev zz85_r3:List AI:=[
 ⟨some 21,.load true 3 (.t 2) .any,none⟩,
 ⟨none,.store 3 (.t 4) (.t 21) .any,none⟩,
 ⟨some 5,.mv true (.c (.int .i64 8)),none⟩]
abbrev zz85_r4:List AI:=[
 ⟨some 22,.faddr 1 (.t 2),none⟩,
 ⟨some 23,.load false 1 (.t 22) .any,none⟩,
 ⟨some 24,.call (.c (.fn f_zz8)) [(.t 23)] 0,none⟩,
 ⟨some 25,.mv false (.t 6),none⟩,
 ⟨some 26,.mv false (.t 6),none⟩,
 ⟨some 27,.bin .add (.t 26) (.c (.int .i64 1)),none⟩,
 ⟨some 28,.call (.c (.fn f_zz5)) [(.t 24),(.t 25),(.t 27)] 0,none⟩,
 ⟨some 29,.faddr 1 (.t 2),none⟩,
 ⟨none,.store 1 (.t 29) (.t 28) .any,none⟩]
abbrev zz85_r5:List AI:=[
 ⟨some 30,.load true 3 (.t 2) .any,none⟩,
 ⟨none,.store 3 (.t 4) (.t 30) .any,none⟩,
 ⟨some 5,.mv true (.c (.int .i64 0)),none⟩]
abbrev zz85_c:ACode:=.seq (.reg false zz85_r0) (.seq (.reg false zz85_r1) (.seq (.seq (.reg false zz85_r2) (.cond (.t 20) (.seq (.reg false zz85_r3) (.ret)) (.skip))) (.seq (.reg false zz85_r4) (.seq (.reg false zz85_r5) (.ret)))))
def zz85_F:AFunc:=⟨31,[.cell 4 true 3,.tmp 5],zz85_c⟩
theorem zz85_cp:compile Tryz.prog [] f_zz85=some zz85_F:=by kernel_rfl
abbrev zz67_r0:List AI:=[
 ⟨some 2,.box 3 (.t 0),none⟩,
 ⟨some 3,.gn (.box 7) [(.t 1)],none⟩,
 ⟨some 4,.alloc [(.int .i64 0),.nilS,.nilS],none⟩,
 ⟨some 5,.mv true (.c (.int .i64 0)),none⟩]
abbrev zz67_r1:List AI:=[
 ⟨some 6,.load true 3 (.t 2) .any,none⟩,
 ⟨some 7,.faddr 3 (.t 3),none⟩,
 ⟨some 8,.load false 1 (.t 7) .any,none⟩,
 ⟨some 9,.call (.c (.fn f_zz69)) [(.t 6),(.t 8)] 0,none⟩,
 ⟨some 10,.bin .lss (.t 9) (.c (.int .i64 0)),none⟩]
abbrev zz67_r2:List AI:=[
 ⟨some 11,.load true 3 (.t 2) .any,none⟩,
 ⟨none,.store 3 (.t 4) (.t 11) .any,none⟩,
 ⟨some 5,.mv true (.c (.int .i64 8)),none⟩]
abbrev zz67_r3:List AI:=[
 ⟨some 12,.load true 3 (.t 2) (.site 2),none⟩,
 ⟨some 13,.gd (.clo f_zz47) [(.t 3)],none⟩,
 ⟨some 14,.call (.c (.fn f_zz87)) [(.t 13)] 4,none⟩,
 ⟨some 15,.call (.c (.fn f_zz79)) [(.t 12),(.t 14)] 4,none⟩,
 ⟨none,.store 3 (.t 4) (.t 15) (.site 4),none⟩,
 ⟨some 5,.mv true (.c (.int .i64 0)),none⟩]
abbrev zz67_c:ACode:=.seq (.reg false zz67_r0) (.seq (.seq (.reg false zz67_r1) (.cond (.t 10) (.seq (.reg false zz67_r2) (.ret)) (.skip))) (.seq (.reg true zz67_r3) (.ret)))
def zz67_F:AFunc:=⟨16,[.cell 4 true 3,.tmp 5],zz67_c⟩
theorem zz67_cp:compile Tryz.prog [3,13] f_zz67=some zz67_F:=by kernel_rfl
abbrev zz66_r0:List AI:=[
 ⟨some 2,.box 3 (.t 0),none⟩,
 ⟨some 3,.gn (.box 7) [(.t 1)],none⟩,
 ⟨some 4,.alloc [(.int .i64 0),.nilS,.nilS],none⟩,
 ⟨some 5,.mv true (.c (.int .i64 0)),none⟩]
abbrev zz66_r1:List AI:=[
 ⟨some 7,.load true 3 (.t 2) .any,none⟩,
 ⟨some 8,.faddr 3 (.t 3),none⟩,
 ⟨some 9,.load false 1 (.t 8) .any,none⟩,
 ⟨some 10,.call (.c (.fn f_zz69)) [(.t 7),(.t 9)] 0,none⟩,
 ⟨some 6,.mv true (.t 10),none⟩]
abbrev zz66_r2:List AI:=[
 ⟨some 11,.mv false (.t 6),none⟩,
 ⟨some 12,.bin .lss (.t 11) (.c (.int .i64 0)),none⟩]
abbrev zz66_r3:List AI:=[
 ⟨some 13,.load true 3 (.t 2) .any,none⟩,
 ⟨none,.store 3 (.t 4) (.t 13) .any,none⟩,
 ⟨some 5,.mv true (.c (.int .i64 8)),none⟩]
abbrev zz66_r4:List AI:=[
 ⟨some 14,.faddr 4 (.t 3),none⟩,
 ⟨some 15,.load false 1 (.t 14) .any,none⟩,
 ⟨some 16,.mv false (.t 6),none⟩,
 ⟨some 17,.bin .leq (.t 15) (.t 16),none⟩,
 ⟨some 18,.mv false (.t 17),none⟩,
 ⟨some 19,.faddr 4 (.t 3),some (18,false)⟩,
 ⟨some 20,.load false 1 (.t 19) .any,some (18,false)⟩,
 ⟨some 21,.bin .gtr (.t 20) (.c (.int .i64 1000000)),some (18,false)⟩,
 ⟨some 22,.pick (.t 18) (.c (.bool true)) (.t 21),none⟩]
abbrev zz66_r5:List AI:=[
 ⟨some 23,.load true 3 (.t 2) .any,none⟩,
 ⟨none,.store 3 (.t 4) (.t 23) .any,none⟩,
 ⟨some 5,.mv true (.c (.int .i64 3)),none⟩]
abbrev zz66_r6:List AI:=[
 ⟨some 24,.load true 3 (.t 2) .any,none⟩,
 ⟨some 25,.gd (.clo f_zz46) [(.t 3)],none⟩,
 ⟨some 26,.call (.c (.fn f_zz79)) [(.t 24),(.t 25)] 0,none⟩,
 ⟨none,.store 3 (.t 4) (.t 26) .any,none⟩,
 ⟨some 5,.mv true (.c (.int .i64 0)),none⟩]
abbrev zz66_c:ACode:=.seq (.reg false zz66_r0) (.seq (.reg false zz66_r1) (.seq (.seq (.reg false zz66_r2) (.cond (.t 12) (.seq (.reg false zz66_r3) (.ret)) (.skip))) (.seq (.seq (.reg false zz66_r4) (.cond (.t 22) (.seq (.reg false zz66_r5) (.ret)) (.skip))) (.seq (.reg false zz66_r6) (.ret)))))
def zz66_F:AFunc:=⟨27,[.cell 4 true 3,.tmp 5],zz66_c⟩
theorem zz66_cp:compile Tryz.prog [3,25] f_zz66=some zz66_F:=by kernel_rfl
abbrev zz88_r0:List AI:=[
 ⟨some 2,.box 3 (.t 0),none⟩,
 ⟨some 3,.box 7 (.t 1),none⟩,
 ⟨some 4,.alloc [(.int .i64 0),.nilS,.nilS],none⟩,
 ⟨some 5,.mv true (.c (.int .i64 0)),none⟩]
abbrev zz88_r1:List AI:=[
 ⟨some 9,.load true 3 (.t 2) .any,none⟩,
 ⟨some 10,.faddr 5 (.t 3),none⟩,
 ⟨some 11,.load false 1 (.t 10) .any,none⟩,
 ⟨some 12,.call (.c (.fn f_zz56)) [(.t 9),(.t 11)] 0,none⟩,
 ⟨some 8,.mv false (.t 12),none⟩,
 ⟨some 13,.ext (.t 8) 0,none⟩,
 ⟨some 14,.ext (.t 8) 1,none⟩,
 ⟨some 6,.mv true (.t 13),none⟩,
 ⟨some 7,.mv true (.t 14),none⟩]
abbrev zz88_r2:List AI:=[
 ⟨some 16,.faddr 5 (.t 3),none⟩,
 ⟨some 17,.load false 1 (.t 16) .any,none⟩,
 ⟨some 18,.call (.c (.fn f_zz73)) [(.t 17),(.c (.int .i64 1099511627776))] 0,none⟩,
 ⟨some 19,.not (.t 18),none⟩,
 ⟨some 15,.mv true (.t 19),none⟩]
abbrev zz88_r3:List AI:=[
 ⟨some 20,.load true 3 (.t 2) .any,none⟩,
 ⟨none,.store 3 (.t 4) (.t 20) .any,none⟩,
 ⟨some 5,.mv true (.c (.int .i64 1)),none⟩]
abbrev zz88_r4:List AI:=[
 ⟨some 22,.mv false (.t 7),none⟩,
 ⟨some 21,.mv true (.t 22),none⟩]
abbrev zz88_r5:List AI:=[
 ⟨some 23,.load true 3 (.t 2) .any,none⟩,
 ⟨none,.store 3 (.t 4) (.t 23) .any,none⟩,
 ⟨some 5,.mv true (.c (.int .i64 9)),none⟩]
abbrev zz88_r6:List AI:=[
 ⟨some 25,.faddr 2 (.t 2),none⟩,
 ⟨some 26,.load false 1 (.t 25) .any,none⟩,
 ⟨some 27,.len false (.t 26),none⟩,
 ⟨some 28,.bin .eql (.t 27) (.c (.int .i64 10)),none⟩,
 ⟨some 24,.mv true (.t 28),none⟩]
abbrev zz88_r7:List AI:=[
 ⟨some 29,.load true 3 (.t 2) .any,none⟩,
 ⟨none,.store 3 (.t 4) (.t 29) .any,none⟩,
 ⟨some 5,.mv true (.c (.int .i64 13)),none⟩]
abbrev zz88_b0:ACode:=.seq (.reg false zz88_r6) (.cond (.t 24) (.seq (.reg false zz88_r7) (.ret)) (.skip))
abbrev zz88_b1:ACode:=.seq (.reg false zz88_r4) (.cond (.t 21) (.seq (.reg false zz88_r5) (.ret)) (zz88_b0))
abbrev zz88_r8:List AI:=[
 ⟨some 30,.faddr 2 (.t 2),none⟩,
 ⟨some 31,.load false 1 (.t 30) (.site 2),none⟩,
 ⟨some 33,.mv false (.t 6),none⟩,
 ⟨some 34,.faddr 5 (.t 3),none⟩,
 ⟨some 35,.load false 1 (.t 34) (.site 3),none⟩,
 ⟨some 36,.faddr 1 (.t 2),none⟩,
 ⟨some 37,.load false 1 (.t 36) (.site 2),none⟩,
 ⟨some 32,.call (.c (.fn f_zz11)) [(.t 31)] 2,none⟩,
 ⟨some 38,.call (.c (.fn f_zz8)) [(.t 37)] 2,none⟩,
 ⟨some 39,.build [(.int .i64 0),.nilS] [(0,1,(.t 35)),(1,1,(.t 38))],none⟩,
 ⟨some 40,.mkslice 2 1 (.agg [(.int .i64 0),.nilS]) [(0,(.t 39))],none⟩,
 ⟨some 41,.call (.c (.fn f_zz10)) [(.t 32),(.t 33),(.t 40)] 2,none⟩,
 ⟨some 42,.faddr 2 (.t 2),none⟩,
 ⟨none,.store 1 (.t 42) (.t 41) (.site 2),none⟩]
abbrev zz88_r9:List AI:=[
 ⟨some 43,.load true 3 (.t 2) .any,none⟩,
 ⟨none,.store 3 (.t 4) (.t 43) .any,none⟩,
 ⟨some 5,.mv true (.c (.int .i64 0)),none⟩]
abbrev zz88_c:ACode:=.seq (.reg false zz88_r0) (.seq (.reg false zz88_r1) (.seq (.block 0 (.seq (.reg false zz88_r2) (.cond (.t 15) (.seq (.reg false zz88_r3) (.ret)) (zz88_b1)))) (.seq (.reg true zz88_r8) (.seq (.reg false zz88_r9) (.ret)))))
def zz88_F:AFunc:=⟨44,[.cell 4 true 3,.tmp 5],zz88_c⟩
theorem zz88_cp:compile Tryz.prog [] f_zz88=some zz88_F:=by kernel_rfl
abbrev zz72_r0:List AI:=[
 ⟨some 2,.box 3 (.t 0),none⟩,
 ⟨some 3,.box 7 (.t 1),none⟩,
 ⟨some 4,.alloc [(.int .i64 0),.nilS,.nilS],none⟩,
 ⟨some 5,.mv true (.c (.int .i64 0)),none⟩]
abbrev zz72_r1:List AI:=[
 ⟨some 9,.load true 3 (.t 2) .any,none⟩,
 ⟨some 10,.faddr 5 (.t 3),none⟩,
 ⟨some 11,.load false 1 (.t 10) .any,none⟩,
 ⟨some 12,.call (.c (.fn f_zz56)) [(.t 9),(.t 11)] 0,none⟩,
 ⟨some 8,.mv false (.t 12),none⟩,
 ⟨some 13,.ext (.t 8) 0,none⟩,
 ⟨some 14,.ext (.t 8) 1,none⟩,
 ⟨some 6,.mv true (.t 13),none⟩,
 ⟨some 7,.mv true (.t 14),none⟩]
abbrev zz72_r2:List AI:=[
 ⟨some 15,.mv false (.t 7),none⟩,
 ⟨some 16,.not (.t 15),none⟩]
abbrev zz72_r3:List AI:=[
 ⟨some 17,.load true 3 (.t 2) .any,none⟩,
 ⟨none,.store 3 (.t 4) (.t 17) .any,none⟩,
 ⟨some 5,.mv true (.c (.int .i64 8)),none⟩]
abbrev zz72_r4:List AI:=[
 ⟨some 18,.faddr 2 (.t 2),none⟩,
 ⟨some 19,.load false 1 (.t 18) .any,none⟩,
 ⟨some 20,.call (.c (.fn f_zz11)) [(.t 19)] 0,none⟩,
 ⟨some 21,.mv false (.t 6),none⟩,
 ⟨some 22,.mv false (.t 6),none⟩,
 ⟨some 23,.bin .add (.t 22) (.c (.int .i64 1)),none⟩,
 ⟨some 24,.call (.c (.fn f_zz9)) [(.t 20),(.t 21),(.t 23)] 0,none⟩,
 ⟨some 25,.faddr 2 (.t 2),none⟩,
 ⟨none,.store 1 (.t 25) (.t 24) .any,none⟩]
abbrev zz72_r5:List AI:=[
 ⟨some 26,.load true 3 (.t 2) .any,none⟩,
 ⟨none,.store 3 (.t 4) (.t 26) .any,none⟩,
 ⟨some 5,.mv true (.c (.int .i64 0)),none⟩]
abbrev zz72_c:ACode:=.seq (.reg false zz72_r0) (.seq (.reg false zz72_r1) (.seq (.seq (.reg false zz72_r2) (.cond (.t 16) (.seq (.reg false zz72_r3) (.ret)) (.skip))) (.seq (.reg false zz72_r4) (.seq (.reg false zz72_r5) (.ret)))))
def zz72_F:AFunc:=⟨27,[.cell 4 true 3,.tmp 5],zz72_c⟩
theorem zz72_cp:compile Tryz.prog [] f_zz72=some zz72_F:=by kernel_rfl
-- loop 0: [0, 1, 2, 7, 8]
abbrev zz43_r0:List AI:=[
 ⟨some 6,.mv true (.c .nilS),none⟩]
abbrev zz43_r1:List AI:=[
 ⟨some 7,.mv true (.c .nilS),none⟩]
abbrev zz43_r2:List AI:=[
 ⟨some 8,.mv true (.c (.int .i64 0)),none⟩]
abbrev zz43_r3:List AI:=[
 ⟨some 9,.mv false (.t 8),none⟩,
 ⟨some 10,.mv false (.t 0),none⟩,
 ⟨some 11,.len false (.t 10),none⟩,
 ⟨some 12,.bin .lss (.t 9) (.t 11),none⟩]
abbrev zz43_r4:List AI:=[
 ⟨some 15,.mv false (.t 0),none⟩,
 ⟨some 16,.mv false (.t 8),none⟩,
 ⟨some 17,.iaddr 4 (.t 15) (.t 16),none⟩,
 ⟨some 18,.faddr 3 (.t 17),none⟩,
 ⟨some 19,.load false 1 (.t 18) .any,none⟩,
 ⟨some 20,.mv false (.t 1),none⟩,
 ⟨some 21,.bin .geq (.t 19) (.t 20),none⟩,
 ⟨some 22,.mv false (.t 21),none⟩,
 ⟨some 23,.mv false (.t 0),some (22,true)⟩,
 ⟨some 24,.mv false (.t 8),some (22,true)⟩,
 ⟨some 25,.iaddr 4 (.t 23) (.t 24),some (22,true)⟩,
 ⟨some 26,.faddr 2 (.t 25),some (22,true)⟩,
 ⟨some 27,.load false 1 (.t 26) .any,some (22,true)⟩,
 ⟨some 28,.mv false (.t 2),some (22,true)⟩,
 ⟨some 29,.bin .neq (.t 27) (.t 28),some (22,true)⟩,
 ⟨some 30,.pick (.t 22) (.t 29) (.c (.bool false)),none⟩]
abbrev zz43_r5:List AI:=[
 ⟨some 31,.mv true (.t 7),none⟩,
 ⟨some 32,.mv false (.t 0),none⟩,
 ⟨some 33,.mv false (.t 8),none⟩,
 ⟨some 34,.iaddr 4 (.t 32) (.t 33),none⟩,
 ⟨some 35,.load true 4 (.t 34) .any,none⟩,
 ⟨some 36,.mkslice 4 1 (.agg [(.str []),(.int .i64 0),(.int .i64 0),(.int .i64 0)]) [(0,(.t 35))],none⟩,
 ⟨some 37,.append 4 40 (.t 31) (.t 36),none⟩,
 ⟨some 7,.mv true (.t 37),none⟩]
abbrev zz43_r6:List AI:=[
 ⟨some 13,.mv false (.t 8),none⟩,
 ⟨some 14,.bin .add (.t 13) (.c (.int .i64 1)),none⟩,
 ⟨some 8,.mv true (.t 14),none⟩]
abbrev zz43_l0:ACode:=.seq (.seq (.reg false zz43_r3) (.cond (.t 12) (.skip) (.exit 0))) (.seq (.block 1 (.seq (.reg false zz43_r4) (.cond (.t 30) (.reg false zz43_r5) (.skip)))) (.reg false zz43_r6))
abbrev zz43_r7:List AI:=[
 ⟨some 38,.mv false (.t 7),none⟩,
 ⟨some 6,.mv true (.t 38),none⟩]
abbrev zz43_c:ACode:=.seq (.reg false zz43_r0) (.seq (.reg false zz43_r1) (.seq (.seq (.reg false zz43_r2) (.block 0 (.loop zz43_l0))) (.seq (.reg false zz43_r7) (.ret))))
def zz43_F:AFunc:=⟨39,[.tmp 6],zz43_c⟩
theorem zz43_cp:compile Tryz.prog [] f_zz43=some zz43_F:=by kernel_rfl
abbrev zz35_r0:List AI:=[
 ⟨some 1,.box 4 (.t 0),none⟩,
 ⟨some 2,.mv true (.c (.bool false)),none⟩]
abbrev zz35_r1:List AI:=[
 ⟨some 3,.faddr 0 (.t 1),none⟩,
 ⟨some 4,.load false 1 (.t 3) .any,none⟩,
 ⟨some 5,.len true (.t 4),none⟩,
 ⟨some 6,.bin .geq (.t 5) (.c (.int .i64 1)),none⟩,
 ⟨some 7,.mv false (.t 6),none⟩,
 ⟨some 8,.faddr 0 (.t 1),some (7,true)⟩,
 ⟨some 9,.load false 1 (.t 8) .any,some (7,true)⟩,
 ⟨some 10,.len true (.t 9),some (7,true)⟩,
 ⟨some 11,.bin .leq (.t 10) (.c (.int .i64 64)),some (7,true)⟩,
 ⟨some 12,.pick (.t 7) (.t 11) (.c (.bool false)),none⟩,
 ⟨some 13,.mv false (.t 12),none⟩,
 ⟨some 14,.faddr 1 (.t 1),some (13,true)⟩,
 ⟨some 15,.load false 1 (.t 14) .any,some (13,true)⟩,
 ⟨some 16,.bin .geq (.t 15) (.c (.int .i64 1)),some (13,true)⟩,
 ⟨some 17,.pick (.t 13) (.t 16) (.c (.bool false)),none⟩,
 ⟨some 18,.mv false (.t 17),none⟩,
 ⟨some 19,.faddr 1 (.t 1),some (18,true)⟩,
 ⟨some 20,.load false 1 (.t 19) .any,some (18,true)⟩,
 ⟨some 21,.bin .leq (.t 20) (.c (.int .i64 1099511627776)),some (18,true)⟩,
 ⟨some 22,.pick (.t 18) (.t 21) (.c (.bool false)),none⟩,
 ⟨some 23,.mv false (.t 22),none⟩,
 ⟨some 24,.faddr 2 (.t 1),some (23,true)⟩,
 ⟨some 25,.load false 1 (.t 24) .any,some (23,true)⟩,
 ⟨some 26,.bin .geq (.t 25) (.c (.int .i64 0)),some (23,true)⟩,
 ⟨some 27,.pick (.t 23) (.t 26) (.c (.bool false)),none⟩,
 ⟨some 28,.mv false (.t 27),none⟩,
 ⟨some 29,.faddr 2 (.t 1),some (28,true)⟩,
 ⟨some 30,.load false 1 (.t 29) .any,some (28,true)⟩,
 ⟨some 31,.bin .leq (.t 30) (.c (.int .i64 1099511627776)),some (28,true)⟩,
 ⟨some 32,.pick (.t 28) (.t 31) (.c (.bool false)),none⟩,
 ⟨some 33,.mv false (.t 32),none⟩,
 ⟨some 34,.faddr 3 (.t 1),some (33,true)⟩,
 ⟨some 35,.load false 1 (.t 34) .any,some (33,true)⟩,
 ⟨some 36,.bin .geq (.t 35) (.c (.int .i64 0)),some (33,true)⟩,
 ⟨some 37,.pick (.t 33) (.t 36) (.c (.bool false)),none⟩,
 ⟨some 38,.mv false (.t 37),none⟩,
 ⟨some 39,.faddr 3 (.t 1),some (38,true)⟩,
 ⟨some 40,.load false 1 (.t 39) .any,some (38,true)⟩,
 ⟨some 41,.bin .leq (.t 40) (.c (.int .i64 1000000)),some (38,true)⟩,
 ⟨some 42,.pick (.t 38) (.t 41) (.c (.bool false)),none⟩,
 ⟨some 2,.mv true (.t 42),none⟩]
abbrev zz35_c:ACode:=.seq (.reg false zz35_r0) (.seq (.reg false zz35_r1) (.ret))
def zz35_F:AFunc:=⟨43,[.tmp 2],zz35_c⟩
theorem zz35_cp:compile Tryz.prog [] f_zz35=some zz35_F:=by kernel_rfl
-- loop 0: [0, 3, 5, 6, 7]
abbrev zz44_r0:List AI:=[
 ⟨some 3,.box 4 (.t 1),none⟩,
 ⟨some 4,.mv true (.c .nilS),none⟩]
abbrev zz44_r1:List AI:=[
 ⟨some 5,.mv true (.c .nilS),none⟩]
abbrev zz44_r2:List AI:=[
 ⟨some 6,.mv true (.c (.bool false)),none⟩]
abbrev zz44_r3:List AI:=[
 ⟨some 7,.mv true (.c (.int .i64 0)),none⟩]
abbrev zz44_r4:List AI:=[
 ⟨some 9,.mv false (.t 7),none⟩,
 ⟨some 10,.mv false (.t 0),none⟩,
 ⟨some 11,.len false (.t 10),none⟩,
 ⟨some 12,.bin .lss (.t 9) (.t 11),none⟩]
abbrev zz44_r5:List AI:=[
 ⟨some 15,.load true 4 (.t 3) (.site 3),none⟩,
 ⟨some 16,.mv false (.t 0),none⟩,
 ⟨some 17,.mv false (.t 7),none⟩,
 ⟨some 18,.iaddr 4 (.t 16) (.t 17),none⟩,
 ⟨some 19,.load true 4 (.t 18) .foreign,none⟩,
 ⟨some 20,.call (.c (.fn f_zz28)) [(.t 15),(.t 19)] 1,none⟩,
 ⟨some 8,.mv true (.t 20),none⟩]
abbrev zz44_r6:List AI:=[
 ⟨some 21,.mv false (.t 6),none⟩,
 ⟨some 22,.not (.t 21),none⟩,
 ⟨some 23,.mv false (.t 22),none⟩,
 ⟨some 24,.mv false (.t 8),some (23,true)⟩,
 ⟨some 25,.pick (.t 23) (.t 24) (.c (.bool false)),none⟩]
abbrev zz44_r7:List AI:=[
 ⟨some 26,.mv true (.t 5),none⟩,
 ⟨some 27,.load true 4 (.t 3) .any,none⟩,
 ⟨some 28,.mkslice 4 1 (.agg [(.str []),(.int .i64 0),(.int .i64 0),(.int .i64 0)]) [(0,(.t 27))],none⟩,
 ⟨some 29,.append 4 40 (.t 26) (.t 28),none⟩,
 ⟨some 5,.mv true (.t 29),none⟩]
abbrev zz44_r8:List AI:=[
 ⟨some 6,.mv true (.c (.bool true)),none⟩]
abbrev zz44_r9:List AI:=[
 ⟨some 30,.mv true (.t 5),none⟩,
 ⟨some 31,.mv false (.t 0),none⟩,
 ⟨some 32,.mv false (.t 7),none⟩,
 ⟨some 33,.iaddr 4 (.t 31) (.t 32),none⟩,
 ⟨some 34,.load true 4 (.t 33) .any,none⟩,
 ⟨some 35,.mkslice 4 1 (.agg [(.str []),(.int .i64 0),(.int .i64 0),(.int .i64 0)]) [(0,(.t 34))],none⟩,
 ⟨some 36,.append 4 40 (.t 30) (.t 35),none⟩,
 ⟨some 5,.mv true (.t 36),none⟩]
abbrev zz44_r10:List AI:=[
 ⟨some 13,.mv false (.t 7),none⟩,
 ⟨some 14,.bin .add (.t 13) (.c (.int .i64 1)),none⟩,
 ⟨some 7,.mv true (.t 14),none⟩]
abbrev zz44_l0:ACode:=.seq (.seq (.reg false zz44_r4) (.cond (.t 12) (.skip) (.exit 0))) (.seq (.block 1 (.seq (.reg true zz44_r5) (.seq (.seq (.reg false zz44_r6) (.cond (.t 25) (.seq (.reg false zz44_r7) (.reg false zz44_r8)) (.skip))) (.reg false zz44_r9)))) (.reg false zz44_r10))
abbrev zz44_r11:List AI:=[
 ⟨some 37,.mv false (.t 6),none⟩,
 ⟨some 38,.not (.t 37),none⟩]
abbrev zz44_r12:List AI:=[
 ⟨some 39,.mv true (.t 5),none⟩,
 ⟨some 40,.load true 4 (.t 3) .any,none⟩,
 ⟨some 41,.mkslice 4 1 (.agg [(.str []),(.int .i64 0),(.int .i64 0),(.int .i64 0)]) [(0,(.t 40))],none⟩,
 ⟨some 42,.append 4 40 (.t 39) (.t 41),none⟩,
 ⟨some 5,.mv true (.t 42),none⟩]
abbrev zz44_r13:List AI:=[
 ⟨some 43,.mv false (.t 5),none⟩,
 ⟨some 4,.mv true (.t 43),none⟩]
abbrev zz44_c:ACode:=.seq (.reg false zz44_r0) (.seq (.reg false zz44_r1) (.seq (.reg false zz44_r2) (.seq (.seq (.reg false zz44_r3) (.block 0 (.loop zz44_l0))) (.seq (.seq (.reg false zz44_r11) (.cond (.t 38) (.reg false zz44_r12) (.skip))) (.seq (.reg false zz44_r13) (.ret))))))
def zz44_F:AFunc:=⟨44,[.tmp 4],zz44_c⟩
theorem zz44_cp:compile Tryz.prog [] f_zz44=some zz44_F:=by kernel_rfl
-- loop 0: [0, 1, 3]
abbrev zz2_r0:List AI:=[
 ⟨some 4,.load false 1 (.t 1) .any,none⟩,
 ⟨some 5,.len false (.t 4),none⟩,
 ⟨some 6,.bin .sub (.t 5) (.c (.int .i64 1)),none⟩,
 ⟨some 3,.mv true (.t 6),none⟩]
abbrev zz2_r1:List AI:=[
 ⟨some 7,.mv false (.t 3),none⟩,
 ⟨some 8,.bin .geq (.t 7) (.c (.int .i64 0)),none⟩]
abbrev zz2_r2:List AI:=[
 ⟨some 11,.mv false (.t 0),none⟩,
 ⟨some 12,.mv false (.t 3),none⟩,
 ⟨some 13,.load false 1 (.t 1) .any,none⟩,
 ⟨some 14,.mv false (.t 3),none⟩,
 ⟨some 15,.iaddr 4 (.t 13) (.t 14),none⟩,
 ⟨some 16,.load true 4 (.t 15) .any,none⟩,
 ⟨some 17,.call (.t 11) [(.t 12),(.t 16)] 0,none⟩,
 ⟨some 18,.not (.t 17),none⟩]
abbrev zz2_r3:List AI:=[
 ⟨some 9,.mv false (.t 3),none⟩,
 ⟨some 10,.bin .sub (.t 9) (.c (.int .i64 1)),none⟩,
 ⟨some 3,.mv true (.t 10),none⟩]
abbrev zz2_l0:ACode:=.seq (.seq (.reg false zz2_r1) (.cond (.t 8) (.skip) (.exit 0))) (.seq (.block 1 (.seq (.reg false zz2_r2) (.cond (.t 18) (.ret) (.skip)))) (.reg false zz2_r3))
abbrev zz2_c:ACode:=.seq (.reg false zz2_r0) (.block 0 (.loop zz2_l0))
def zz2_F:AFunc:=⟨19,[],zz2_c⟩
theorem zz2_cp:compile Tryz.prog [] f_zz2=some zz2_F:=by kernel_rfl
abbrev zz70_r0:List AI:=[
 ⟨some 2,.box 4 (.t 0),none⟩,
 ⟨some 3,.alloc [(.str []),(.int .i64 0),(.int .i64 0),(.int .i64 0)],none⟩,
 ⟨some 4,.mv true (.c (.bool false)),none⟩]
abbrev zz70_r1:List AI:=[
 ⟨some 5,.load true 4 (.t 2) (.site 2),none⟩,
 ⟨some 6,.load false 1 (.t 1) .foreign,none⟩,
 ⟨some 7,.load true 4 (.t 2) (.site 2),none⟩,
 ⟨some 8,.call (.t 6) [(.t 7)] 3,none⟩,
 ⟨none,.store 4 (.t 3) (.t 5) (.site 3),none⟩,
 ⟨some 4,.mv true (.t 8),none⟩]
abbrev zz70_c:ACode:=.seq (.reg false zz70_r0) (.seq (.reg true zz70_r1) (.ret))
def zz70_F:AFunc:=⟨9,[.cell 3 true 4,.tmp 4],zz70_c⟩
theorem zz70_cp:compile Tryz.prog [] f_zz70=some zz70_F:=by kernel_rfl
abbrev zz13_r0:List AI:=[
 ⟨some 4,.mv true (.c (.bool false)),none⟩]
abbrev zz13_r1:List AI:=[
 ⟨some 5,.mv false (.t 0),none⟩,
 ⟨some 6,.len true (.t 5),none⟩,
 ⟨some 7,.mv false (.t 1),none⟩,
 ⟨some 8,.len true (.t 7),none⟩,
 ⟨some 9,.bin .geq (.t 6) (.t 8),none⟩,
 ⟨some 10,.mv false (.t 9),none⟩,
 ⟨some 11,.mv false (.t 0),some (10,true)⟩,
 ⟨some 12,.mv false (.t 1),some (10,true)⟩,
 ⟨some 13,.len true (.t 12),some (10,true)⟩,
 ⟨some 14,.slS (.t 11) none (some (.t 13)),some (10,true)⟩,
 ⟨some 15,.mv false (.t 1),some (10,true)⟩,
 ⟨some 16,.bin .eql (.t 14) (.t 15),some (10,true)⟩,
 ⟨some 17,.pick (.t 10) (.t 16) (.c (.bool false)),none⟩,
 ⟨some 4,.mv true (.t 17),none⟩]
abbrev zz13_c:ACode:=.seq (.reg false zz13_r0) (.seq (.reg false zz13_r1) (.ret))
def zz13_F:AFunc:=⟨18,[.tmp 4],zz13_c⟩
theorem zz13_cp:compile Tryz.prog [] f_zz13=some zz13_F:=by kernel_rfl
abbrev zz28_r0:List AI:=[
 ⟨some 2,.box 4 (.t 0),none⟩,
 ⟨some 3,.box 4 (.t 1),none⟩,
 ⟨some 4,.mv true (.c (.bool false)),none⟩]
abbrev zz28_r1:List AI:=[
 ⟨some 5,.faddr 0 (.t 2),none⟩,
 ⟨some 6,.load false 1 (.t 5) .any,none⟩,
 ⟨some 7,.faddr 0 (.t 3),none⟩,
 ⟨some 8,.load false 1 (.t 7) .any,none⟩,
 ⟨some 9,.bin .lss (.t 6) (.t 8),none⟩,
 ⟨some 10,.mv false (.t 9),none⟩,
 ⟨some 11,.faddr 0 (.t 2),some (10,false)⟩,
 ⟨some 12,.load false 1 (.t 11) .any,some (10,false)⟩,
 ⟨some 13,.faddr 0 (.t 3),some (10,false)⟩,
 ⟨some 14,.load false 1 (.t 13) .any,some (10,false)⟩,
 ⟨some 15,.bin .eql (.t 12) (.t 14),some (10,false)⟩,
 ⟨some 16,.mv false (.t 15),some (10,false)⟩,
 ⟨some 17,.faddr 1 (.t 2),some (16,true)⟩,
 ⟨some 18,.load false 1 (.t 17) .any,some (16,true)⟩,
 ⟨some 19,.faddr 1 (.t 3),some (16,true)⟩,
 ⟨some 20,.load false 1 (.t 19) .any,some (16,true)⟩,
 ⟨some 21,.bin .lss (.t 18) (.t 20),some (16,true)⟩,
 ⟨some 22,.pick (.t 16) (.t 21) (.c (.bool false)),some (10,false)⟩,
 ⟨some 23,.pick (.t 10) (.c (.bool true)) (.t 22),none⟩,
 ⟨some 4,.mv true (.t 23),none⟩]
abbrev zz28_c:ACode:=.seq (.reg false zz28_r0) (.seq (.reg false zz28_r1) (.ret))
def zz28_F:AFunc:=⟨24,[.tmp 4],zz28_c⟩
theorem zz28_cp:compile Tryz.prog [] f_zz28=some zz28_F:=by kernel_rfl
abbrev zz48_r0:List AI:=[
 ⟨some 3,.box 4 (.t 0),none⟩,
 ⟨some 4,.mv true (.c (.bool false)),none⟩]
abbrev zz48_r1:List AI:=[
 ⟨some 5,.faddr 2 (.t 3),none⟩,
 ⟨some 6,.load false 1 (.t 5) .any,none⟩,
 ⟨some 7,.load false 1 (.t 1) .any,none⟩,
 ⟨some 8,.bin .eql (.t 6) (.t 7),none⟩]
abbrev zz48_r2:List AI:=[
 ⟨some 9,.faddr 3 (.t 3),none⟩,
 ⟨some 10,.load false 1 (.t 9) .any,none⟩,
 ⟨none,.store 1 (.t 2) (.t 10) .any,none⟩]
abbrev zz48_r3:List AI:=[
 ⟨some 11,.load false 1 (.t 2) .any,none⟩,
 ⟨some 12,.bin .lss (.t 11) (.c (.int .i64 0)),none⟩,
 ⟨some 4,.mv true (.t 12),none⟩]
abbrev zz48_c:ACode:=.seq (.reg false zz48_r0) (.seq (.seq (.reg false zz48_r1) (.cond (.t 8) (.reg false zz48_r2) (.skip))) (.seq (.reg false zz48_r3) (.ret)))
def zz48_F:AFunc:=⟨13,[.tmp 4],zz48_c⟩
theorem zz48_cp:compile Tryz.prog [] f_zz48=some zz48_F:=by kernel_rfl
-- loop 0: [3, 6, 7, 8]
abbrev zz96_r0:List AI:=[
 ⟨some 2,.mv true (.c (.int .i64 0)),none⟩]
abbrev zz96_r1:List AI:=[
 ⟨some 3,.mv true (.c (.int .i64 0)),none⟩]
abbrev zz96_r2:List AI:=[
 ⟨some 6,.mv false (.t 0),none⟩,
 ⟨some 7,.len false (.t 6),none⟩,
 ⟨some 8,.mv false (.c (.int .i64 0)),none⟩]
abbrev zz96_r3:List AI:=[
 ⟨some 9,.bin .lss (.t 8) (.t 7),none⟩]
abbrev zz96_r4:List AI:=[
 ⟨some 10,.iaddr 1 (.t 6) (.t 8),none⟩,
 ⟨some 11,.load false 1 (.t 10) .any,none⟩,
 ⟨some 5,.mv true (.t 11),none⟩]
abbrev zz96_r5:List AI:=[
 ⟨some 12,.mv false (.t 5),none⟩,
 ⟨some 13,.mv false (.t 3),none⟩,
 ⟨some 14,.bin .neq (.t 12) (.t 13),none⟩]
abbrev zz96_r6:List AI:=[
 ⟨some 15,.mv false (.t 5),none⟩,
 ⟨some 2,.mv true (.t 15),none⟩]
abbrev zz96_r7:List AI:=[
 ⟨some 16,.bin .add (.t 8) (.c (.int .i64 1)),none⟩,
 ⟨some 8,.mv false (.t 16),none⟩]
abbrev zz96_l0:ACode:=.seq (.reg false zz96_r3) (.seq (.cond (.t 9) (.skip) (.exit 0)) (.seq (.block 1 (.seq (.reg false zz96_r4) (.seq (.reg false zz96_r5) (.cond (.t 14) (.seq (.reg false zz96_r6) (.ret)) (.skip))))) (.reg false zz96_r7)))
abbrev zz96_r8:List AI:=[
 ⟨some 17,.mv false (.t 3),none⟩,
 ⟨some 2,.mv true (.t 17),none⟩]
abbrev zz96_c:ACode:=.seq (.reg false zz96_r0) (.seq (.reg false zz96_r1) (.seq (.seq (.reg false zz96_r2) (.block 0 (.loop zz96_l0))) (.seq (.reg false zz96_r8) (.ret))))
def zz96_F:AFunc:=⟨18,[.tmp 2],zz96_c⟩
theorem zz96_cp:compile Tryz.prog [] f_zz96=some zz96_F:=by kernel_rfl
abbrev zz32_r0:List AI:=[
 ⟨some 4,.mv true (.c (.int .i64 0)),none⟩]
abbrev zz32_r1:List AI:=[
 ⟨some 7,.mv false (.t 0),none⟩,
 ⟨some 8,.call (.c (.fn f_zz49)) [(.t 7)] 0,none⟩,
 ⟨some 5,.mv true (.t 8),none⟩]
abbrev zz32_r2:List AI:=[
 ⟨some 9,.mv false (.t 1),none⟩,
 ⟨some 10,.call (.c (.fn f_zz49)) [(.t 9)] 0,none⟩,
 ⟨some 6,.mv true (.t 10),none⟩]
abbrev zz32_r3:List AI:=[
 ⟨some 11,.mv false (.t 5),none⟩]
abbrev zz32_r4:List AI:=[
 ⟨some 12,.mv false (.t 6),none⟩]
abbrev zz32_r5:List AI:=[
 ⟨some 4,.mv true (.c (.int .i64 0)),none⟩]
abbrev zz32_r6:List AI:=[
 ⟨some 4,.mv true (.c (.int .i64 (-1))),none⟩]
abbrev zz32_b0:ACode:=.seq (.seq (.reg false zz32_r4) (.cond (.t 12) (.seq (.reg false zz32_r5) (.ret)) (.skip))) (.seq (.reg false zz32_r6) (.ret))
abbrev zz32_r7:List AI:=[
 ⟨some 13,.mv false (.t 6),none⟩]
abbrev zz32_r8:List AI:=[
 ⟨some 4,.mv true (.c (.int .i64 1)),none⟩]
abbrev zz32_r9:List AI:=[
 ⟨some 14,.mv false (.t 0),none⟩,
 ⟨some 15,.mv false (.t 1),none⟩,
 ⟨some 16,.bin .lss (.t 14) (.t 15),none⟩]
abbrev zz32_r10:List AI:=[
 ⟨some 4,.mv true (.c (.int .i64 (-1))),none⟩]
abbrev zz32_r11:List AI:=[
 ⟨some 17,.mv false (.t 0),none⟩,
 ⟨some 18,.mv false (.t 1),none⟩,
 ⟨some 19,.bin .gtr (.t 17) (.t 18),none⟩]
abbrev zz32_r12:List AI:=[
 ⟨some 4,.mv true (.c (.int .i64 1)),none⟩]
abbrev zz32_r13:List AI:=[
 ⟨some 4,.mv true (.c (.int .i64 0)),none⟩]
abbrev zz32_c:ACode:=.seq (.reg false zz32_r0) (.seq (.reg false zz32_r1) (.seq (.reg false zz32_r2) (.seq (.seq (.reg false zz32_r3) (.cond (.t 11) (zz32_b0) (.skip))) (.seq (.seq (.reg false zz32_r7) (.cond (.t 13) (.seq (.reg false zz32_r8) (.ret)) (.skip))) (.seq (.seq (.reg false zz32_r9) (.cond (.t 16) (.seq (.reg false zz32_r10) (.ret)) (.skip))) (.seq (.seq (.reg false zz32_r11) (.cond (.t 19) (.seq (.reg false zz32_r12) (.ret)) (.skip))) (.seq (.reg false zz32_r13) (.ret))))))))
def zz32_F:AFunc:=⟨20,[.tmp 4],zz32_c⟩
theorem zz32_cp:compile Tryz.prog [] f_zz32=some zz32_F:=by kernel_rfl
abbrev zz58_r0:List AI:=[
 ⟨some 4,.mv true (.c (.int .i64 0)),none⟩]
abbrev zz58_r1:List AI:=[
 ⟨some 7,.mv false (.t 0),none⟩,
 ⟨some 8,.call (.c (.fn f_zz80)) [(.t 7)] 0,none⟩,
 ⟨some 5,.mv true (.t 8),none⟩]
abbrev zz58_r2:List AI:=[
 ⟨some 9,.mv false (.t 1),none⟩,
 ⟨some 10,.call (.c (.fn f_zz80)) [(.t 9)] 0,none⟩,
 ⟨some 6,.mv true (.t 10),none⟩]
abbrev zz58_r3:List AI:=[
 ⟨some 11,.mv false (.t 5),none⟩]
abbrev zz58_r4:List AI:=[
 ⟨some 12,.mv false (.t 6),none⟩]
abbrev zz58_r5:List AI:=[
 ⟨some 4,.mv true (.c (.int .i64 0)),none⟩]
abbrev zz58_r6:List AI:=[
 ⟨some 4,.mv true (.c (.int .i64 (-1))),none⟩]
abbrev zz58_b0:ACode:=.seq (.seq (.reg false zz58_r4) (.cond (.t 12) (.seq (.reg false zz58_r5) (.ret)) (.skip))) (.seq (.reg false zz58_r6) (.ret))
abbrev zz58_r7:List AI:=[
 ⟨some 13,.mv false (.t 6),none⟩]
abbrev zz58_r8:List AI:=[
 ⟨some 4,.mv true (.c (.int .i64 1)),none⟩]
abbrev zz58_r9:List AI:=[
 ⟨some 14,.mv false (.t 0),none⟩,
 ⟨some 15,.mv false (.t 1),none⟩,
 ⟨some 16,.bin .lss (.t 14) (.t 15),none⟩]
abbrev zz58_r10:List AI:=[
 ⟨some 4,.mv true (.c (.int .i64 (-1))),none⟩]
abbrev zz58_r11:List AI:=[
 ⟨some 17,.mv false (.t 0),none⟩,
 ⟨some 18,.mv false (.t 1),none⟩,
 ⟨some 19,.bin .gtr (.t 17) (.t 18),none⟩]
abbrev zz58_r12:List AI:=[
 ⟨some 4,.mv true (.c (.int .i64 1)),none⟩]
abbrev zz58_r13:List AI:=[
 ⟨some 4,.mv true (.c (.int .i64 0)),none⟩]
abbrev zz58_c:ACode:=.seq (.reg false zz58_r0) (.seq (.reg false zz58_r1) (.seq (.reg false zz58_r2) (.seq (.seq (.reg false zz58_r3) (.cond (.t 11) (zz58_b0) (.skip))) (.seq (.seq (.reg false zz58_r7) (.cond (.t 13) (.seq (.reg false zz58_r8) (.ret)) (.skip))) (.seq (.seq (.reg false zz58_r9) (.cond (.t 16) (.seq (.reg false zz58_r10) (.ret)) (.skip))) (.seq (.seq (.reg false zz58_r11) (.cond (.t 19) (.seq (.reg false zz58_r12) (.ret)) (.skip))) (.seq (.reg false zz58_r13) (.ret))))))))
def zz58_F:AFunc:=⟨20,[.tmp 4],zz58_c⟩
theorem zz58_cp:compile Tryz.prog [] f_zz58=some zz58_F:=by kernel_rfl
abbrev zz6_r0:List AI:=[
 ⟨some 6,.mv true (.c .nilS),none⟩]
abbrev zz6_r1:List AI:=[
 ⟨some 10,.mv false (.t 0),none⟩,
 ⟨some 11,.mv false (.t 1),none⟩,
 ⟨some 12,.sl 4 (.t 10) (some (.t 11)) none,none⟩]
abbrev zz6_r2:List AI:=[
 ⟨some 13,.mv false (.t 2),none⟩,
 ⟨some 14,.len false (.t 13),none⟩,
 ⟨some 7,.mv true (.t 14),none⟩]
abbrev zz6_r3:List AI:=[
 ⟨some 15,.mv false (.t 7),none⟩,
 ⟨some 16,.bin .eql (.t 15) (.c (.int .i64 0)),none⟩]
abbrev zz6_r4:List AI:=[
 ⟨some 17,.mv false (.t 0),none⟩,
 ⟨some 6,.mv true (.t 17),none⟩]
abbrev zz6_r5:List AI:=[
 ⟨some 18,.mv false (.t 0),none⟩,
 ⟨some 19,.len false (.t 18),none⟩,
 ⟨some 8,.mv true (.t 19),none⟩]
abbrev zz6_r6:List AI:=[
 ⟨some 20,.mv false (.t 1),none⟩,
 ⟨some 21,.mv false (.t 8),none⟩,
 ⟨some 22,.bin .eql (.t 20) (.t 21),none⟩]
abbrev zz6_r7:List AI:=[
 ⟨some 23,.mv true (.t 0),none⟩,
 ⟨some 24,.mv false (.t 2),none⟩,
 ⟨some 25,.appG 4 40 [(.str []),(.int .i64 0),(.int .i64 0),(.int .i64 0)] (.t 23) (.t 24),none⟩,
 ⟨some 6,.mv true (.t 25),none⟩]
abbrev zz6_r8:List AI:=[
 ⟨some 26,.mv false (.t 8),none⟩,
 ⟨some 27,.mv false (.t 7),none⟩,
 ⟨some 28,.bin .add (.t 26) (.t 27),none⟩,
 ⟨some 29,.mv false (.t 0),none⟩,
 ⟨some 30,.cap (.t 29),none⟩,
 ⟨some 31,.bin .gtr (.t 28) (.t 30),none⟩]
abbrev zz6_r9:List AI:=[
 ⟨some 32,.mv false (.t 0),none⟩,
 ⟨some 33,.mv false (.t 1),none⟩,
 ⟨some 34,.sl 4 (.t 32) none (some (.t 33)),none⟩,
 ⟨some 35,.mv false (.t 8),none⟩,
 ⟨some 36,.mv false (.t 7),none⟩,
 ⟨some 37,.bin .add (.t 35) (.t 36),none⟩,
 ⟨some 38,.mv false (.t 1),none⟩,
 ⟨some 39,.bin .sub (.t 37) (.t 38),none⟩,
 ⟨some 40,.appZ 4 40 [(.str []),(.int .i64 0),(.int .i64 0),(.int .i64 0)] (.t 34) (.t 39),none⟩,
 ⟨some 9,.mv true (.t 40),none⟩]
abbrev zz6_r10:List AI:=[
 ⟨some 41,.mv false (.t 9),none⟩,
 ⟨some 42,.mv false (.t 1),none⟩,
 ⟨some 43,.sl 4 (.t 41) (some (.t 42)) none,none⟩,
 ⟨some 44,.mv false (.t 2),none⟩,
 ⟨some 45,.copy 4 (.t 43) (.t 44),none⟩]
abbrev zz6_r11:List AI:=[
 ⟨some 46,.mv false (.t 9),none⟩,
 ⟨some 47,.mv false (.t 1),none⟩,
 ⟨some 48,.mv false (.t 7),none⟩,
 ⟨some 49,.bin .add (.t 47) (.t 48),none⟩,
 ⟨some 50,.sl 4 (.t 46) (some (.t 49)) none,none⟩,
 ⟨some 51,.mv false (.t 0),none⟩,
 ⟨some 52,.mv false (.t 1),none⟩,
 ⟨some 53,.sl 4 (.t 51) (some (.t 52)) none,none⟩,
 ⟨some 54,.copy 4 (.t 50) (.t 53),none⟩]
abbrev zz6_r12:List AI:=[
 ⟨some 55,.mv false (.t 9),none⟩,
 ⟨some 6,.mv true (.t 55),none⟩]
abbrev zz6_b0:ACode:=.seq (.reg false zz6_r9) (.seq (.reg false zz6_r10) (.seq (.reg true zz6_r11) (.seq (.reg false zz6_r12) (.ret))))
abbrev zz6_r13:List AI:=[
 ⟨some 56,.mv false (.t 0),none⟩,
 ⟨some 57,.mv false (.t 8),none⟩,
 ⟨some 58,.mv false (.t 7),none⟩,
 ⟨some 59,.bin .add (.t 57) (.t 58),none⟩,
 ⟨some 60,.sl 4 (.t 56) none (some (.t 59)),none⟩,
 ⟨some 0,.mv true (.t 60),none⟩]
abbrev zz6_r14:List AI:=[
 ⟨some 61,.mv false (.t 2),none⟩,
 ⟨some 62,.mv false (.t 0),none⟩,
 ⟨some 63,.mv false (.t 1),none⟩,
 ⟨some 64,.mv false (.t 7),none⟩,
 ⟨some 65,.bin .add (.t 63) (.t 64),none⟩,
 ⟨some 66,.sl 4 (.t 62) (some (.t 65)) none,none⟩,
 ⟨some 67,.call (.c (.fn f_zz15)) [(.t 61),(.t 66)] 0,none⟩,
 ⟨some 68,.not (.t 67),none⟩]
abbrev zz6_r15:List AI:=[
 ⟨some 69,.mv false (.t 0),none⟩,
 ⟨some 70,.mv false (.t 1),none⟩,
 ⟨some 71,.mv false (.t 7),none⟩,
 ⟨some 72,.bin .add (.t 70) (.t 71),none⟩,
 ⟨some 73,.sl 4 (.t 69) (some (.t 72)) none,none⟩,
 ⟨some 74,.mv false (.t 0),none⟩,
 ⟨some 75,.mv false (.t 1),none⟩,
 ⟨some 76,.sl 4 (.t 74) (some (.t 75)) none,none⟩,
 ⟨some 77,.copy 4 (.t 73) (.t 76),none⟩]
abbrev zz6_r16:List AI:=[
 ⟨some 78,.mv false (.t 0),none⟩,
 ⟨some 79,.mv false (.t 1),none⟩,
 ⟨some 80,.sl 4 (.t 78) (some (.t 79)) none,none⟩,
 ⟨some 81,.mv false (.t 2),none⟩,
 ⟨some 82,.copy 4 (.t 80) (.t 81),none⟩]
abbrev zz6_r17:List AI:=[
 ⟨some 83,.mv false (.t 0),none⟩,
 ⟨some 6,.mv true (.t 83),none⟩]
abbrev zz6_b1:ACode:=.seq (.reg true zz6_r15) (.seq (.reg false zz6_r16) (.seq (.reg false zz6_r17) (.ret)))
abbrev zz6_r18:List AI:=[
 ⟨some 84,.mv false (.t 0),none⟩,
 ⟨some 85,.mv false (.t 8),none⟩,
 ⟨some 86,.sl 4 (.t 84) (some (.t 85)) none,none⟩,
 ⟨some 87,.mv false (.t 2),none⟩,
 ⟨some 88,.copy 4 (.t 86) (.t 87),none⟩]
abbrev zz6_r19:List AI:=[
 ⟨some 89,.mv false (.t 0),none⟩,
 ⟨some 90,.mv false (.t 1),none⟩,
 ⟨some 91,.sl 4 (.t 89) (some (.t 90)) none,none⟩,
 ⟨some 92,.mv false (.t 7),none⟩,
 ⟨some 93,.call (.c (.fn f_zz12)) [(.t 91),(.t 92)] 0,none⟩]
abbrev zz6_r20:List AI:=[
 ⟨some 94,.mv false (.t 0),none⟩,
 ⟨some 6,.mv true (.t 94),none⟩]
abbrev zz6_c:ACode:=.seq (.reg false zz6_r0) (.seq (.reg false zz6_r1) (.seq (.reg false zz6_r2) (.seq (.seq (.reg false zz6_r3) (.cond (.t 16) (.seq (.reg false zz6_r4) (.ret)) (.skip))) (.seq (.reg false zz6_r5) (.seq (.seq (.reg false zz6_r6) (.cond (.t 22) (.seq (.reg false zz6_r7) (.ret)) (.skip))) (.seq (.seq (.reg false zz6_r8) (.cond (.t 31) (zz6_b0) (.skip))) (.seq (.reg false zz6_r13) (.seq (.seq (.reg false zz6_r14) (.cond (.t 68) (zz6_b1) (.skip))) (.seq (.reg false zz6_r18) (.seq (.reg false zz6_r19) (.seq (.reg false zz6_r20) (.ret))))))))))))
def zz6_F:AFunc:=⟨95,[.tmp 6],zz6_c⟩
theorem zz6_cp:compile Tryz.prog [25] f_zz6=some zz6_F:=by kernel_rfl
abbrev zz8_r0:List AI:=[
 ⟨some 2,.mv true (.c .nilS),none⟩]
abbrev zz8_r1:List AI:=[
 ⟨some 3,.mv false (.t 0),none⟩,
 ⟨some 4,.isnil false (.t 3),none⟩]
abbrev zz8_r2:List AI:=[
 ⟨some 2,.mv true (.c .nilS),none⟩]
abbrev zz8_r3:List AI:=[
 ⟨some 5,.mkG 4 0 (.agg [(.str []),(.int .i64 0),(.int .i64 0),(.int .i64 0)]) [],none⟩,
 ⟨some 6,.mv false (.t 0),none⟩,
 ⟨some 7,.appG 4 40 [(.str []),(.int .i64 0),(.int .i64 0),(.int .i64 0)] (.t 5) (.t 6),none⟩,
 ⟨some 2,.mv true (.t 7),none⟩]
abbrev zz8_c:ACode:=.seq (.reg false zz8_r0) (.seq (.seq (.reg false zz8_r1) (.cond (.t 4) (.seq (.reg false zz8_r2) (.ret)) (.skip))) (.seq (.reg false zz8_r3) (.ret)))
def zz8_F:AFunc:=⟨8,[.tmp 2],zz8_c⟩
theorem zz8_cp:compile Tryz.prog [5,7] f_zz8=some zz8_F:=by kernel_rfl
abbrev zz4_r0:List AI:=[
 ⟨some 2,.mv true (.c .nilS),none⟩]
abbrev zz4_r1:List AI:=[
 ⟨some 3,.mv false (.t 0),none⟩,
 ⟨some 4,.isnil false (.t 3),none⟩]
abbrev zz4_r2:List AI:=[
 ⟨some 2,.mv true (.c .nilS),none⟩]
abbrev zz4_r3:List AI:=[
 ⟨some 5,.mkslice 4 0 (.agg [(.str []),(.int .i64 0),(.int .i64 0),(.int .i64 0)]) [],none⟩,
 ⟨some 6,.mv false (.t 0),none⟩,
 ⟨some 7,.append 4 40 (.t 5) (.t 6),none⟩,
 ⟨some 2,.mv true (.t 7),none⟩]
abbrev zz4_c:ACode:=.seq (.reg false zz4_r0) (.seq (.seq (.reg false zz4_r1) (.cond (.t 4) (.seq (.reg false zz4_r2) (.ret)) (.skip))) (.seq (.reg false zz4_r3) (.ret)))
def zz4_F:AFunc:=⟨8,[.tmp 2],zz4_c⟩
theorem zz4_cp:compile Tryz.prog [999] f_zz8=some zz4_F:=by kernel_rfl
abbrev zz79_r0:List AI:=[
 ⟨some 2,.box 3 (.t 0),none⟩,
 ⟨some 3,.gn (.box 1) [(.t 1)],none⟩,
 ⟨some 4,.alloc [(.int .i64 0),.nilS,.nilS],none⟩]
abbrev zz79_r1:List AI:=[
 ⟨some 5,.faddr 1 (.t 2),none⟩,
 ⟨some 6,.load false 1 (.t 5) .any,none⟩,
 ⟨some 7,.load false 1 (.t 3) .any,none⟩,
 ⟨some 8,.call (.c (.fn f_zz16)) [(.t 6),(.t 7)] 0,none⟩,
 ⟨some 9,.faddr 1 (.t 2),none⟩,
 ⟨none,.store 1 (.t 9) (.t 8) .any,none⟩]
abbrev zz79_r2:List AI:=[
 ⟨some 10,.faddr 2 (.t 2),none⟩,
 ⟨some 11,.load false 1 (.t 10) .any,none⟩,
 ⟨some 12,.gd (.clo f_zz57) [(.t 3)],none⟩,
 ⟨some 13,.call (.c (.fn f_zz18)) [(.t 11),(.t 12)] 0,none⟩,
 ⟨some 14,.faddr 2 (.t 2),none⟩,
 ⟨none,.store 1 (.t 14) (.t 13) .any,none⟩]
abbrev zz79_r3:List AI:=[
 ⟨some 15,.load true 3 (.t 2) .any,none⟩,
 ⟨none,.store 3 (.t 4) (.t 15) .any,none⟩]
abbrev zz79_c:ACode:=.seq (.reg false zz79_r0) (.seq (.reg false zz79_r1) (.seq (.reg false zz79_r2) (.seq (.reg false zz79_r3) (.ret))))
def zz79_F:AFunc:=⟨16,[.cell 4 true 3],zz79_c⟩
theorem zz79_cp:compile Tryz.prog [3,12] f_zz79=some zz79_F:=by kernel_rfl
abbrev zz71_r0:List AI:=[
 ⟨some 2,.box 4 (.t 0),none⟩,
 ⟨some 3,.mv true (.c (.bool false)),none⟩]
abbrev zz71_r1:List AI:=[
 ⟨some 4,.faddr 3 (.t 2),none⟩,
 ⟨some 5,.load false 1 (.t 4) .any,none⟩,
 ⟨some 6,.faddr 1 (.t 1),none⟩,
 ⟨some 7,.load false 1 (.t 6) .any,none⟩,
 ⟨some 8,.bin .geq (.t 5) (.t 7),none⟩,
 ⟨some 3,.mv true (.t 8),none⟩]
abbrev zz71_c:ACode:=.seq (.reg false zz71_r0) (.seq (.reg false zz71_r1) (.ret))
def zz71_F:AFunc:=⟨9,[.tmp 3],zz71_c⟩
theorem zz71_cp:compile Tryz.prog [] f_zz71=some zz71_F:=by kernel_rfl
abbrev zz77_r0:List AI:=[
 ⟨some 3,.box 4 (.t 0),none⟩,
 ⟨some 4,.mv true (.c (.bool false)),none⟩]
abbrev zz77_r1:List AI:=[
 ⟨some 5,.faddr 0 (.t 3),none⟩,
 ⟨some 6,.load false 1 (.t 5) .any,none⟩,
 ⟨some 7,.faddr 6 (.t 1),none⟩,
 ⟨some 8,.load false 1 (.t 7) .any,none⟩,
 ⟨some 9,.bin .eql (.t 6) (.t 8),none⟩]
abbrev zz77_r2:List AI:=[
 ⟨some 10,.faddr 1 (.t 2),none⟩,
 ⟨some 11,.load false 1 (.t 10) .any,none⟩,
 ⟨some 12,.faddr 1 (.t 3),none⟩,
 ⟨some 13,.load false 1 (.t 12) .any,none⟩,
 ⟨some 14,.bin .add (.t 13) (.c (.int .i64 1)),none⟩,
 ⟨some 15,.mx (.t 11) (.t 14),none⟩,
 ⟨some 16,.faddr 1 (.t 2),none⟩,
 ⟨none,.store 1 (.t 16) (.t 15) .any,none⟩]
abbrev zz77_r3:List AI:=[
 ⟨some 4,.mv true (.c (.bool true)),none⟩]
abbrev zz77_c:ACode:=.seq (.reg false zz77_r0) (.seq (.seq (.reg false zz77_r1) (.cond (.t 9) (.reg false zz77_r2) (.skip))) (.seq (.reg false zz77_r3) (.ret)))
def zz77_F:AFunc:=⟨17,[.tmp 4],zz77_c⟩
theorem zz77_cp:compile Tryz.prog [] f_zz77=some zz77_F:=by kernel_rfl
abbrev zz5_r0:List AI:=[
 ⟨some 6,.mv true (.c .nilS),none⟩]
abbrev zz5_r1:List AI:=[
 ⟨some 8,.mv false (.t 0),none⟩,
 ⟨some 9,.mv false (.t 1),none⟩,
 ⟨some 10,.mv false (.t 2),none⟩,
 ⟨some 11,.mv false (.t 0),none⟩,
 ⟨some 12,.len false (.t 11),none⟩,
 ⟨some 13,.sl3 4 (.t 8) (some (.t 9)) (.t 10) (.t 12),none⟩]
abbrev zz5_r2:List AI:=[
 ⟨some 14,.mv false (.t 1),none⟩,
 ⟨some 15,.mv false (.t 2),none⟩,
 ⟨some 16,.bin .eql (.t 14) (.t 15),none⟩]
abbrev zz5_r3:List AI:=[
 ⟨some 17,.mv false (.t 0),none⟩,
 ⟨some 6,.mv true (.t 17),none⟩]
abbrev zz5_r4:List AI:=[
 ⟨some 18,.mv false (.t 0),none⟩,
 ⟨some 19,.len false (.t 18),none⟩,
 ⟨some 7,.mv true (.t 19),none⟩]
abbrev zz5_r5:List AI:=[
 ⟨some 20,.mv false (.t 0),none⟩,
 ⟨some 21,.mv false (.t 1),none⟩,
 ⟨some 22,.sl 4 (.t 20) none (some (.t 21)),none⟩,
 ⟨some 23,.mv false (.t 0),none⟩,
 ⟨some 24,.mv false (.t 2),none⟩,
 ⟨some 25,.sl 4 (.t 23) (some (.t 24)) none,none⟩,
 ⟨some 26,.appG 4 40 [(.str []),(.int .i64 0),(.int .i64 0),(.int .i64 0)] (.t 22) (.t 25),none⟩,
 ⟨some 0,.mv true (.t 26),none⟩]
abbrev zz5_r6:List AI:=[
 ⟨some 27,.mv false (.t 0),none⟩,
 ⟨some 28,.mv false (.t 0),none⟩,
 ⟨some 29,.len false (.t 28),none⟩,
 ⟨some 30,.mv false (.t 7),none⟩,
 ⟨some 31,.sl 4 (.t 27) (some (.t 29)) (some (.t 30)),none⟩,
 ⟨none,.gd (.clr 4 [(.str []),(.int .i64 0),(.int .i64 0),(.int .i64 0)]) [(.t 31)],none⟩]
abbrev zz5_r7:List AI:=[
 ⟨some 32,.mv false (.t 0),none⟩,
 ⟨some 6,.mv true (.t 32),none⟩]
abbrev zz5_c:ACode:=.seq (.reg false zz5_r0) (.seq (.reg false zz5_r1) (.seq (.seq (.reg false zz5_r2) (.cond (.t 16) (.seq (.reg false zz5_r3) (.ret)) (.skip))) (.seq (.reg false zz5_r4) (.seq (.reg true zz5_r5) (.seq (.reg false zz5_r6) (.seq (.reg false zz5_r7) (.ret)))))))
def zz5_F:AFunc:=⟨33,[.tmp 6],zz5_c⟩
theorem zz5_cp:compile Tryz.prog [26] f_zz5=some zz5_F:=by kernel_rfl
abbrev zz47_r0:List AI:=[
 ⟨some 2,.box 4 (.t 0),none⟩,
 ⟨some 3,.mv true (.c (.bool false)),none⟩]
abbrev zz47_r1:List AI:=[
 ⟨some 4,.faddr 2 (.t 2),none⟩,
 ⟨some 5,.load false 1 (.t 4) .any,none⟩,
 ⟨some 6,.faddr 3 (.t 1),none⟩,
 ⟨some 7,.load false 1 (.t 6) .any,none⟩,
 ⟨some 8,.bin .neq (.t 5) (.t 7),none⟩,
 ⟨some 3,.mv true (.t 8),none⟩]
abbrev zz47_c:ACode:=.seq (.reg false zz47_r0) (.seq (.reg false zz47_r1) (.ret))
def zz47_F:AFunc:=⟨9,[.tmp 3],zz47_c⟩
theorem zz47_cp:compile Tryz.prog [] f_zz47=some zz47_F:=by kernel_rfl
abbrev zz46_r0:List AI:=[
 ⟨some 2,.box 4 (.t 0),none⟩,
 ⟨some 3,.alloc [(.str []),(.int .i64 0),(.int .i64 0),(.int .i64 0)],none⟩,
 ⟨some 4,.mv true (.c (.bool false)),none⟩]
abbrev zz46_r1:List AI:=[
 ⟨some 5,.faddr 2 (.t 2),none⟩,
 ⟨some 6,.load false 1 (.t 5) .any,none⟩,
 ⟨some 7,.faddr 3 (.t 1),none⟩,
 ⟨some 8,.load false 1 (.t 7) .any,none⟩,
 ⟨some 9,.bin .eql (.t 6) (.t 8),none⟩]
abbrev zz46_r2:List AI:=[
 ⟨some 10,.faddr 4 (.t 1),none⟩,
 ⟨some 11,.load false 1 (.t 10) .any,none⟩,
 ⟨some 12,.faddr 3 (.t 2),none⟩,
 ⟨none,.store 1 (.t 12) (.t 11) .any,none⟩]
abbrev zz46_r3:List AI:=[
 ⟨some 13,.load true 4 (.t 2) .any,none⟩,
 ⟨none,.store 4 (.t 3) (.t 13) .any,none⟩,
 ⟨some 4,.mv true (.c (.bool true)),none⟩]
abbrev zz46_c:ACode:=.seq (.reg false zz46_r0) (.seq (.seq (.reg false zz46_r1) (.cond (.t 9) (.reg false zz46_r2) (.skip))) (.seq (.reg false zz46_r3) (.ret)))
def zz46_F:AFunc:=⟨14,[.cell 3 true 4,.tmp 4],zz46_c⟩
theorem zz46_cp:compile Tryz.prog [] f_zz46=some zz46_F:=by kernel_rfl
abbrev zz56_r0:List AI:=[
 ⟨some 2,.box 3 (.t 0),none⟩,
 ⟨some 4,.mv true (.c (.int .i64 0)),none⟩,
 ⟨some 5,.mv true (.c (.bool false)),none⟩]
abbrev zz56_r1:List AI:=[
 ⟨some 6,.faddr 2 (.t 2),none⟩,
 ⟨some 7,.load false 1 (.t 6) .any,none⟩,
 ⟨some 8,.mv false (.t 1),none⟩,
 ⟨some 9,.call (.c (.fn f_zz1)) [(.t 7),(.t 8),(.c (.fn f_zz37))] 0,none⟩,
 ⟨some 10,.ext (.t 9) 0,none⟩,
 ⟨some 11,.ext (.t 9) 1,none⟩,
 ⟨some 4,.mv true (.t 10),none⟩,
 ⟨some 5,.mv true (.t 11),none⟩]
abbrev zz56_c:ACode:=.seq (.reg false zz56_r0) (.seq (.reg false zz56_r1) (.ret))
def zz56_F:AFunc:=⟨12,[.tmp 4,.tmp 5],zz56_c⟩
theorem zz56_cp:compile Tryz.prog [] f_zz56=some zz56_F:=by kernel_rfl
abbrev zz10_r0:List AI:=[
 ⟨some 6,.mv true (.c .nilS),none⟩]
abbrev zz10_r1:List AI:=[
 ⟨some 10,.mv false (.t 0),none⟩,
 ⟨some 11,.mv false (.t 1),none⟩,
 ⟨some 12,.sl 2 (.t 10) (some (.t 11)) none,none⟩]
abbrev zz10_r2:List AI:=[
 ⟨some 13,.mv false (.t 2),none⟩,
 ⟨some 14,.len false (.t 13),none⟩,
 ⟨some 7,.mv true (.t 14),none⟩]
abbrev zz10_r3:List AI:=[
 ⟨some 15,.mv false (.t 7),none⟩,
 ⟨some 16,.bin .eql (.t 15) (.c (.int .i64 0)),none⟩]
abbrev zz10_r4:List AI:=[
 ⟨some 17,.mv false (.t 0),none⟩,
 ⟨some 6,.mv true (.t 17),none⟩]
abbrev zz10_r5:List AI:=[
 ⟨some 18,.mv false (.t 0),none⟩,
 ⟨some 19,.len false (.t 18),none⟩,
 ⟨some 8,.mv true (.t 19),none⟩]
abbrev zz10_r6:List AI:=[
 ⟨some 20,.mv false (.t 1),none⟩,
 ⟨some 21,.mv false (.t 8),none⟩,
 ⟨some 22,.bin .eql (.t 20) (.t 21),none⟩]
abbrev zz10_r7:List AI:=[
 ⟨some 23,.mv true (.t 0),none⟩,
 ⟨some 24,.mv false (.t 2),none⟩,
 ⟨some 25,.appG 2 32 [(.int .i64 0),.nilS] (.t 23) (.t 24),none⟩,
 ⟨some 6,.mv true (.t 25),none⟩]
abbrev zz10_r8:List AI:=[
 ⟨some 26,.mv false (.t 8),none⟩,
 ⟨some 27,.mv false (.t 7),none⟩,
 ⟨some 28,.bin .add (.t 26) (.t 27),none⟩,
 ⟨some 29,.mv false (.t 0),none⟩,
 ⟨some 30,.cap (.t 29),none⟩,
 ⟨some 31,.bin .gtr (.t 28) (.t 30),none⟩]
abbrev zz10_r9:List AI:=[
 ⟨some 32,.mv false (.t 0),none⟩,
 ⟨some 33,.mv false (.t 1),none⟩,
 ⟨some 34,.sl 2 (.t 32) none (some (.t 33)),none⟩,
 ⟨some 35,.mv false (.t 8),none⟩,
 ⟨some 36,.mv false (.t 7),none⟩,
 ⟨some 37,.bin .add (.t 35) (.t 36),none⟩,
 ⟨some 38,.mv false (.t 1),none⟩,
 ⟨some 39,.bin .sub (.t 37) (.t 38),none⟩,
 ⟨some 40,.appZ 2 32 [(.int .i64 0),.nilS] (.t 34) (.t 39),none⟩,
 ⟨some 9,.mv true (.t 40),none⟩]
abbrev zz10_r10:List AI:=[
 ⟨some 41,.mv false (.t 9),none⟩,
 ⟨some 42,.mv false (.t 1),none⟩,
 ⟨some 43,.sl 2 (.t 41) (some (.t 42)) none,none⟩,
 ⟨some 44,.mv false (.t 2),none⟩,
 ⟨some 45,.copy 2 (.t 43) (.t 44),none⟩]
abbrev zz10_r11:List AI:=[
 ⟨some 46,.mv false (.t 9),none⟩,
 ⟨some 47,.mv false (.t 1),none⟩,
 ⟨some 48,.mv false (.t 7),none⟩,
 ⟨some 49,.bin .add (.t 47) (.t 48),none⟩,
 ⟨some 50,.sl 2 (.t 46) (some (.t 49)) none,none⟩,
 ⟨some 51,.mv false (.t 0),none⟩,
 ⟨some 52,.mv false (.t 1),none⟩,
 ⟨some 53,.sl 2 (.t 51) (some (.t 52)) none,none⟩,
 ⟨some 54,.copy 2 (.t 50) (.t 53),none⟩]
abbrev zz10_r12:List AI:=[
 ⟨some 55,.mv false (.t 9),none⟩,
 ⟨some 6,.mv true (.t 55),none⟩]
abbrev zz10_b0:ACode:=.seq (.reg false zz10_r9) (.seq (.reg false zz10_r10) (.seq (.reg true zz10_r11) (.seq (.reg false zz10_r12) (.ret))))
abbrev zz10_r13:List AI:=[
 ⟨some 56,.mv false (.t 0),none⟩,
 ⟨some 57,.mv false (.t 8),none⟩,
 ⟨some 58,.mv false (.t 7),none⟩,
 ⟨some 59,.bin .add (.t 57) (.t 58),none⟩,
 ⟨some 60,.sl 2 (.t 56) none (some (.t 59)),none⟩,
 ⟨some 0,.mv true (.t 60),none⟩]
abbrev zz10_r14:List AI:=[
 ⟨some 61,.mv false (.t 2),none⟩,
 ⟨some 62,.mv false (.t 0),none⟩,
 ⟨some 63,.mv false (.t 1),none⟩,
 ⟨some 64,.mv false (.t 7),none⟩,
 ⟨some 65,.bin .add (.t 63) (.t 64),none⟩,
 ⟨some 66,.sl 2 (.t 62) (some (.t 65)) none,none⟩,
 ⟨some 67,.call (.c (.fn f_zz17)) [(.t 61),(.t 66)] 0,none⟩,
 ⟨some 68,.not (.t 67),none⟩]
abbrev zz10_r15:List AI:=[
 ⟨some 69,.mv false (.t 0),none⟩,
 ⟨some 70,.mv false (.t 1),none⟩,
 ⟨some 71,.mv false (.t 7),none⟩,
 ⟨some 72,.bin .add (.t 70) (.t 71),none⟩,
 ⟨some 73,.sl 2 (.t 69) (some (.t 72)) none,none⟩,
 ⟨some 74,.mv false (.t 0),none⟩,
 ⟨some 75,.mv false (.t 1),none⟩,
 ⟨some 76,.sl 2 (.t 74) (some (.t 75)) none,none⟩,
 ⟨some 77,.copy 2 (.t 73) (.t 76),none⟩]
abbrev zz10_r16:List AI:=[
 ⟨some 78,.mv false (.t 0),none⟩,
 ⟨some 79,.mv false (.t 1),none⟩,
 ⟨some 80,.sl 2 (.t 78) (some (.t 79)) none,none⟩,
 ⟨some 81,.mv false (.t 2),none⟩,
 ⟨some 82,.copy 2 (.t 80) (.t 81),none⟩]
abbrev zz10_r17:List AI:=[
 ⟨some 83,.mv false (.t 0),none⟩,
 ⟨some 6,.mv true (.t 83),none⟩]
abbrev zz10_b1:ACode:=.seq (.reg true zz10_r15) (.seq (.reg false zz10_r16) (.seq (.reg false zz10_r17) (.ret)))
abbrev zz10_r18:List AI:=[
 ⟨some 84,.mv false (.t 0),none⟩,
 ⟨some 85,.mv false (.t 8),none⟩,
 ⟨some 86,.sl 2 (.t 84) (some (.t 85)) none,none⟩,
 ⟨some 87,.mv false (.t 2),none⟩,
 ⟨some 88,.copy 2 (.t 86) (.t 87),none⟩]
abbrev zz10_r19:List AI:=[
 ⟨some 89,.mv false (.t 0),none⟩,
 ⟨some 90,.mv false (.t 1),none⟩,
 ⟨some 91,.sl 2 (.t 89) (some (.t 90)) none,none⟩,
 ⟨some 92,.mv false (.t 7),none⟩,
 ⟨some 93,.call (.c (.fn f_zz14)) [(.t 91),(.t 92)] 0,none⟩]
abbrev zz10_r20:List AI:=[
 ⟨some 94,.mv false (.t 0),none⟩,
 ⟨some 6,.mv true (.t 94),none⟩]
abbrev zz10_c:ACode:=.seq (.reg false zz10_r0) (.seq (.reg false zz10_r1) (.seq (.reg false zz10_r2) (.seq (.seq (.reg false zz10_r3) (.cond (.t 16) (.seq (.reg false zz10_r4) (.ret)) (.skip))) (.seq (.reg false zz10_r5) (.seq (.seq (.reg false zz10_r6) (.cond (.t 22) (.seq (.reg false zz10_r7) (.ret)) (.skip))) (.seq (.seq (.reg false zz10_r8) (.cond (.t 31) (zz10_b0) (.skip))) (.seq (.reg false zz10_r13) (.seq (.seq (.reg false zz10_r14) (.cond (.t 68) (zz10_b1) (.skip))) (.seq (.reg false zz10_r18) (.seq (.reg false zz10_r19) (.seq (.reg false zz10_r20) (.ret))))))))))))
def zz10_F:AFunc:=⟨95,[.tmp 6],zz10_c⟩
theorem zz10_cp:compile Tryz.prog [25] f_zz10=some zz10_F:=by kernel_rfl
abbrev zz11_r0:List AI:=[
 ⟨some 2,.mv true (.c .nilS),none⟩]
abbrev zz11_r1:List AI:=[
 ⟨some 3,.mv false (.t 0),none⟩,
 ⟨some 4,.isnil false (.t 3),none⟩]
abbrev zz11_r2:List AI:=[
 ⟨some 2,.mv true (.c .nilS),none⟩]
abbrev zz11_r3:List AI:=[
 ⟨some 5,.mkG 2 0 (.agg [(.int .i64 0),.nilS]) [],none⟩,
 ⟨some 6,.mv false (.t 0),none⟩,
 ⟨some 7,.appG 2 32 [(.int .i64 0),.nilS] (.t 5) (.t 6),none⟩,
 ⟨some 2,.mv true (.t 7),none⟩]
abbrev zz11_c:ACode:=.seq (.reg false zz11_r0) (.seq (.seq (.reg false zz11_r1) (.cond (.t 4) (.seq (.reg false zz11_r2) (.ret)) (.skip))) (.seq (.reg false zz11_r3) (.ret)))
def zz11_F:AFunc:=⟨8,[.tmp 2],zz11_c⟩
theorem zz11_cp:compile Tryz.prog [5,7] f_zz11=some zz11_F:=by kernel_rfl
abbrev zz9_r0:List AI:=[
 ⟨some 6,.mv true (.c .nilS),none⟩]
abbrev zz9_r1:List AI:=[
 ⟨some 8,.mv false (.t 0),none⟩,
 ⟨some 9,.mv false (.t 1),none⟩,
 ⟨some 10,.mv false (.t 2),none⟩,
 ⟨some 11,.mv false (.t 0),none⟩,
 ⟨some 12,.len false (.t 11),none⟩,
 ⟨some 13,.sl3 2 (.t 8) (some (.t 9)) (.t 10) (.t 12),none⟩]
abbrev zz9_r2:List AI:=[
 ⟨some 14,.mv false (.t 1),none⟩,
 ⟨some 15,.mv false (.t 2),none⟩,
 ⟨some 16,.bin .eql (.t 14) (.t 15),none⟩]
abbrev zz9_r3:List AI:=[
 ⟨some 17,.mv false (.t 0),none⟩,
 ⟨some 6,.mv true (.t 17),none⟩]
abbrev zz9_r4:List AI:=[
 ⟨some 18,.mv false (.t 0),none⟩,
 ⟨some 19,.len false (.t 18),none⟩,
 ⟨some 7,.mv true (.t 19),none⟩]
abbrev zz9_r5:List AI:=[
 ⟨some 20,.mv false (.t 0),none⟩,
 ⟨some 21,.mv false (.t 1),none⟩,
 ⟨some 22,.sl 2 (.t 20) none (some (.t 21)),none⟩,
 ⟨some 23,.mv false (.t 0),none⟩,
 ⟨some 24,.mv false (.t 2),none⟩,
 ⟨some 25,.sl 2 (.t 23) (some (.t 24)) none,none⟩,
 ⟨some 26,.appG 2 32 [(.int .i64 0),.nilS] (.t 22) (.t 25),none⟩,
 ⟨some 0,.mv true (.t 26),none⟩]
abbrev zz9_r6:List AI:=[
 ⟨some 27,.mv false (.t 0),none⟩,
 ⟨some 28,.mv false (.t 0),none⟩,
 ⟨some 29,.len false (.t 28),none⟩,
 ⟨some 30,.mv false (.t 7),none⟩,
 ⟨some 31,.sl 2 (.t 27) (some (.t 29)) (some (.t 30)),none⟩,
 ⟨none,.gd (.clr 2 [(.int .i64 0),.nilS]) [(.t 31)],none⟩]
abbrev zz9_r7:List AI:=[
 ⟨some 32,.mv false (.t 0),none⟩,
 ⟨some 6,.mv true (.t 32),none⟩]
abbrev zz9_c:ACode:=.seq (.reg false zz9_r0) (.seq (.reg false zz9_r1) (.seq (.seq (.reg false zz9_r2) (.cond (.t 16) (.seq (.reg false zz9_r3) (.ret)) (.skip))) (.seq (.reg false zz9_r4) (.seq (.reg true zz9_r5) (.seq (.reg false zz9_r6) (.seq (.reg false zz9_r7) (.ret)))))))
def zz9_F:AFunc:=⟨33,[.tmp 6],zz9_c⟩
theorem zz9_cp:compile Tryz.prog [26] f_zz9=some zz9_F:=by kernel_rfl
abbrev zz49_r0:List AI:=[
 ⟨some 2,.mv true (.c (.bool false)),none⟩]
abbrev zz49_r1:List AI:=[
 ⟨some 3,.mv false (.t 0),none⟩,
 ⟨some 4,.mv false (.t 0),none⟩,
 ⟨some 5,.bin .neq (.t 3) (.t 4),none⟩,
 ⟨some 2,.mv true (.t 5),none⟩]
abbrev zz49_c:ACode:=.seq (.reg false zz49_r0) (.seq (.reg false zz49_r1) (.ret))
def zz49_F:AFunc:=⟨6,[.tmp 2],zz49_c⟩
theorem zz49_cp:compile Tryz.prog [] f_zz49=some zz49_F:=by kernel_rfl
abbrev zz80_r0:List AI:=[
 ⟨some 2,.mv true (.c (.bool false)),none⟩]
abbrev zz80_r1:List AI:=[
 ⟨some 3,.mv false (.t 0),none⟩,
 ⟨some 4,.mv false (.t 0),none⟩,
 ⟨some 5,.bin .neq (.t 3) (.t 4),none⟩,
 ⟨some 2,.mv true (.t 5),none⟩]
abbrev zz80_c:ACode:=.seq (.reg false zz80_r0) (.seq (.reg false zz80_r1) (.ret))
def zz80_F:AFunc:=⟨6,[.tmp 2],zz80_c⟩
theorem zz80_cp:compile Tryz.prog [] f_zz80=some zz80_F:=by kernel_rfl
-- loop 0: [1, 5, 10, 11, 12]
abbrev zz18_r0:List AI:=[
 ⟨some 4,.mv true (.c .nilS),none⟩]
abbrev zz18_r1:List AI:=[
 ⟨some 5,.mv true (.c .nilS),none⟩]
abbrev zz18_r2:List AI:=[
 ⟨some 10,.mv false (.t 0),none⟩,
 ⟨some 11,.len false (.t 10),none⟩,
 ⟨some 12,.mv false (.c (.int .i64 0)),none⟩]
abbrev zz18_r3:List AI:=[
 ⟨some 13,.bin .lss (.t 12) (.t 11),none⟩]
abbrev zz18_r4:List AI:=[
 ⟨some 14,.iaddr 2 (.t 10) (.t 12),none⟩,
 ⟨some 15,.load true 2 (.t 14) .any,none⟩,
 ⟨some 7,.alloc [(.int .i64 0),.nilS],none⟩,
 ⟨none,.store 2 (.t 7) (.t 15) .any,none⟩]
abbrev zz18_r5:List AI:=[
 ⟨some 17,.mv false (.t 1),none⟩,
 ⟨some 18,.load true 2 (.t 7) .any,none⟩,
 ⟨some 19,.call (.t 17) [(.t 18)] 0,none⟩,
 ⟨some 16,.mv false (.t 19),none⟩,
 ⟨some 20,.ext (.t 16) 0,none⟩,
 ⟨some 21,.ext (.t 16) 1,none⟩,
 ⟨some 8,.alloc [(.int .i64 0),.nilS],none⟩,
 ⟨none,.store 2 (.t 8) (.t 20) .any,none⟩,
 ⟨some 9,.mv true (.t 21),none⟩]
abbrev zz18_r6:List AI:=[
 ⟨some 22,.mv false (.t 9),none⟩]
abbrev zz18_r7:List AI:=[
 ⟨some 23,.mv true (.t 5),none⟩,
 ⟨some 24,.load true 2 (.t 8) .any,none⟩,
 ⟨some 25,.mkslice 2 1 (.agg [(.int .i64 0),.nilS]) [(0,(.t 24))],none⟩,
 ⟨some 26,.append 2 32 (.t 23) (.t 25),none⟩,
 ⟨some 5,.mv true (.t 26),none⟩]
abbrev zz18_r8:List AI:=[
 ⟨some 27,.bin .add (.t 12) (.c (.int .i64 1)),none⟩,
 ⟨some 12,.mv false (.t 27),none⟩]
abbrev zz18_l0:ACode:=.seq (.reg false zz18_r3) (.seq (.cond (.t 13) (.skip) (.exit 0)) (.seq (.block 1 (.seq (.reg false zz18_r4) (.seq (.reg false zz18_r5) (.seq (.reg false zz18_r6) (.cond (.t 22) (.reg false zz18_r7) (.skip)))))) (.reg false zz18_r8)))
abbrev zz18_r9:List AI:=[
 ⟨some 28,.mv false (.t 5),none⟩,
 ⟨some 4,.mv true (.t 28),none⟩]
abbrev zz18_c:ACode:=.seq (.reg false zz18_r0) (.seq (.reg false zz18_r1) (.seq (.seq (.reg false zz18_r2) (.block 0 (.loop zz18_l0))) (.seq (.reg false zz18_r9) (.ret))))
def zz18_F:AFunc:=⟨29,[.tmp 4],zz18_c⟩
theorem zz18_cp:compile Tryz.prog [] f_zz18=some zz18_F:=by kernel_rfl
abbrev zz57_r0:List AI:=[
 ⟨some 2,.box 2 (.t 0),none⟩,
 ⟨some 3,.alloc [(.int .i64 0),.nilS],none⟩,
 ⟨some 4,.mv true (.c (.bool false)),none⟩]
abbrev zz57_r1:List AI:=[
 ⟨some 5,.faddr 1 (.t 2),none⟩,
 ⟨some 6,.load false 1 (.t 5) .any,none⟩,
 ⟨some 7,.load false 1 (.t 1) .any,none⟩,
 ⟨some 8,.call (.c (.fn f_zz16)) [(.t 6),(.t 7)] 0,none⟩,
 ⟨some 9,.faddr 1 (.t 2),none⟩,
 ⟨none,.store 1 (.t 9) (.t 8) .any,none⟩]
abbrev zz57_r2:List AI:=[
 ⟨some 10,.load true 2 (.t 2) .any,none⟩,
 ⟨none,.store 2 (.t 3) (.t 10) .any,none⟩,
 ⟨some 4,.mv true (.c (.bool true)),none⟩]
abbrev zz57_c:ACode:=.seq (.reg false zz57_r0) (.seq (.reg false zz57_r1) (.seq (.reg false zz57_r2) (.ret)))
def zz57_F:AFunc:=⟨11,[.cell 3 true 2,.tmp 4],zz57_c⟩
theorem zz57_cp:compile Tryz.prog [] f_zz57=some zz57_F:=by kernel_rfl
-- loop 0: [0, 1, 2, 8, 9, 10]
abbrev zz1_r0:List AI:=[
 ⟨some 6,.mv true (.c (.int .i64 0)),none⟩,
 ⟨some 7,.mv true (.c (.bool false)),none⟩]
abbrev zz1_r1:List AI:=[
 ⟨some 12,.mv false (.t 0),none⟩,
 ⟨some 13,.len false (.t 12),none⟩,
 ⟨some 8,.mv true (.t 13),none⟩]
abbrev zz1_r2:List AI:=[
 ⟨some 14,.mv false (.t 8),none⟩,
 ⟨some 9,.mv true (.c (.int .i64 0)),none⟩,
 ⟨some 10,.mv true (.t 14),none⟩]
abbrev zz1_r3:List AI:=[
 ⟨some 15,.mv false (.t 9),none⟩,
 ⟨some 16,.mv false (.t 10),none⟩,
 ⟨some 17,.bin .lss (.t 15) (.t 16),none⟩]
abbrev zz1_r4:List AI:=[
 ⟨some 18,.mv false (.t 9),none⟩,
 ⟨some 19,.mv false (.t 10),none⟩,
 ⟨some 20,.bin .add (.t 18) (.t 19),none⟩,
 ⟨some 21,.conv .u64 (.t 20),none⟩,
 ⟨some 22,.bin .shr (.t 21) (.c (.int .u64 1)),none⟩,
 ⟨some 23,.conv .i64 (.t 22),none⟩,
 ⟨some 11,.mv true (.t 23),none⟩]
abbrev zz1_r5:List AI:=[
 ⟨some 24,.mv false (.t 2),none⟩,
 ⟨some 25,.mv false (.t 0),none⟩,
 ⟨some 26,.mv false (.t 11),none⟩,
 ⟨some 27,.iaddr 2 (.t 25) (.t 26),none⟩,
 ⟨some 28,.load true 2 (.t 27) .any,none⟩,
 ⟨some 29,.mv false (.t 1),none⟩,
 ⟨some 30,.call (.t 24) [(.t 28),(.t 29)] 0,none⟩,
 ⟨some 31,.bin .lss (.t 30) (.c (.int .i64 0)),none⟩]
abbrev zz1_r6:List AI:=[
 ⟨some 32,.mv false (.t 11),none⟩,
 ⟨some 33,.bin .add (.t 32) (.c (.int .i64 1)),none⟩,
 ⟨some 9,.mv true (.t 33),none⟩]
abbrev zz1_r7:List AI:=[
 ⟨some 34,.mv false (.t 11),none⟩,
 ⟨some 10,.mv true (.t 34),none⟩]
abbrev zz1_l0:ACode:=.seq (.seq (.reg false zz1_r3) (.cond (.t 17) (.skip) (.exit 0))) (.block 1 (.seq (.reg false zz1_r4) (.seq (.reg false zz1_r5) (.cond (.t 31) (.reg false zz1_r6) (.reg false zz1_r7)))))
abbrev zz1_r8:List AI:=[
 ⟨some 35,.mv false (.t 9),none⟩,
 ⟨some 36,.mv false (.t 9),none⟩,
 ⟨some 37,.mv false (.t 8),none⟩,
 ⟨some 38,.bin .lss (.t 36) (.t 37),none⟩,
 ⟨some 39,.mv false (.t 38),none⟩,
 ⟨some 40,.mv false (.t 2),some (39,true)⟩,
 ⟨some 41,.mv false (.t 0),some (39,true)⟩,
 ⟨some 42,.mv false (.t 9),some (39,true)⟩,
 ⟨some 43,.iaddr 2 (.t 41) (.t 42),some (39,true)⟩,
 ⟨some 44,.load true 2 (.t 43) .any,some (39,true)⟩,
 ⟨some 45,.mv false (.t 1),some (39,true)⟩,
 ⟨some 46,.call (.t 40) [(.t 44),(.t 45)] 0,some (39,true)⟩,
 ⟨some 47,.bin .eql (.t 46) (.c (.int .i64 0)),some (39,true)⟩,
 ⟨some 48,.pick (.t 39) (.t 47) (.c (.bool false)),none⟩,
 ⟨some 6,.mv true (.t 35),none⟩,
 ⟨some 7,.mv true (.t 48),none⟩]
abbrev zz1_c:ACode:=.seq (.reg false zz1_r0) (.seq (.reg false zz1_r1) (.seq (.reg false zz1_r2) (.seq (.block 0 (.loop zz1_l0)) (.seq (.reg false zz1_r8) (.ret)))))
def zz1_F:AFunc:=⟨49,[.tmp 6,.tmp 7],zz1_c⟩
theorem zz1_cp:compile Tryz.prog [] f_zz1=some zz1_F:=by kernel_rfl
abbrev zz37_r0:List AI:=[
 ⟨some 2,.box 2 (.t 0),none⟩,
 ⟨some 4,.mv true (.c (.int .i64 0)),none⟩]
abbrev zz37_r1:List AI:=[
 ⟨some 5,.faddr 0 (.t 2),none⟩,
 ⟨some 6,.load false 1 (.t 5) .any,none⟩,
 ⟨some 7,.mv false (.t 1),none⟩,
 ⟨some 8,.call (.c (.fn f_zz58)) [(.t 6),(.t 7)] 0,none⟩,
 ⟨some 4,.mv true (.t 8),none⟩]
abbrev zz37_c:ACode:=.seq (.reg false zz37_r0) (.seq (.reg false zz37_r1) (.ret))
def zz37_F:AFunc:=⟨9,[.tmp 4],zz37_c⟩
theorem zz37_cp:compile Tryz.prog [] f_zz37=some zz37_F:=by kernel_rfl
-- loop 0: [1, 2, 3, 7]
abbrev zz7_r0:List AI:=[
 ⟨some 3,.box 7 (.t 0),none⟩,
 ⟨some 6,.mv true (.c (.bool false)),none⟩]
abbrev zz7_r1:List AI:=[
 ⟨some 17,.faddr 6 (.t 3),none⟩,
 ⟨some 18,.load false 1 (.t 17) .any,none⟩,
 ⟨some 19,.len true (.t 18),none⟩,
 ⟨some 20,.bin .gtr (.t 19) (.c (.int .i64 300)),none⟩,
 ⟨some 21,.mv false (.t 20),none⟩,
 ⟨some 22,.mv false (.t 1),some (21,false)⟩,
 ⟨some 23,.len true (.t 22),some (21,false)⟩,
 ⟨some 24,.bin .gtr (.t 23) (.c (.int .i64 300)),some (21,false)⟩,
 ⟨some 25,.pick (.t 21) (.c (.bool true)) (.t 24),none⟩,
 ⟨some 26,.mv false (.t 25),none⟩,
 ⟨some 27,.mv false (.t 2),some (26,false)⟩,
 ⟨some 28,.len false (.t 27),some (26,false)⟩,
 ⟨some 29,.bin .gtr (.t 28) (.c (.int .i64 20)),some (26,false)⟩,
 ⟨some 30,.pick (.t 26) (.c (.bool true)) (.t 29),none⟩]
abbrev zz7_r2:List AI:=[
 ⟨some 31,.call (.c (.fn f_zz22)) [] 0,none⟩,
 ⟨some 6,.mv true (.t 31),none⟩]
abbrev zz7_r3:List AI:=[
 ⟨some 7,.mv true (.c (.int .i64 0)),none⟩]
abbrev zz7_r4:List AI:=[
 ⟨some 32,.mv false (.t 7),none⟩,
 ⟨some 33,.mv false (.t 2),none⟩,
 ⟨some 34,.len false (.t 33),none⟩,
 ⟨some 35,.bin .lss (.t 32) (.t 34),none⟩]
abbrev zz7_r5:List AI:=[
 ⟨some 38,.mv false (.t 2),none⟩,
 ⟨some 39,.mv false (.t 7),none⟩,
 ⟨some 40,.iaddr 1 (.t 38) (.t 39),none⟩,
 ⟨some 41,.load false 1 (.t 40) .any,none⟩,
 ⟨some 42,.len true (.t 41),none⟩,
 ⟨some 43,.bin .gtr (.t 42) (.c (.int .i64 300)),none⟩]
abbrev zz7_r6:List AI:=[
 ⟨some 44,.call (.c (.fn f_zz22)) [] 0,none⟩,
 ⟨some 6,.mv true (.t 44),none⟩]
abbrev zz7_r7:List AI:=[
 ⟨some 36,.mv false (.t 7),none⟩,
 ⟨some 37,.bin .add (.t 36) (.c (.int .i64 1)),none⟩,
 ⟨some 7,.mv true (.t 37),none⟩]
abbrev zz7_l0:ACode:=.seq (.seq (.reg false zz7_r4) (.cond (.t 35) (.skip) (.exit 0))) (.seq (.block 1 (.seq (.reg false zz7_r5) (.cond (.t 43) (.seq (.reg false zz7_r6) (.ret)) (.skip)))) (.reg false zz7_r7))
abbrev zz7_r8:List AI:=[
 ⟨some 46,.mv false (.t 1),none⟩,
 ⟨some 47,.call (.c (.fn f_zz60)) [(.t 46)] 0,none⟩,
 ⟨some 45,.mv false (.t 47),none⟩,
 ⟨some 48,.ext (.t 45) 0,none⟩,
 ⟨some 49,.ext (.t 45) 1,none⟩,
 ⟨some 8,.alloc [(.int .i64 0),(.int .i64 0),(.int .i64 0),(.int .i64 0),(.int .i64 0),(.int .i64 0),(.str [])],none⟩,
 ⟨none,.store 7 (.t 8) (.t 48) .any,none⟩,
 ⟨some 9,.mv true (.t 49),none⟩]
abbrev zz7_r9:List AI:=[
 ⟨some 50,.mv false (.t 1),none⟩,
 ⟨some 51,.call (.c (.fn f_zz25)) [(.t 50)] 0,none⟩,
 ⟨some 10,.alloc [(.int .i64 0),(.int .i64 0),(.int .i64 0),(.int .i64 0),(.int .i64 0),(.int .i64 0),(.str []),(.int .i64 0)],none⟩,
 ⟨none,.store 8 (.t 10) (.t 51) .any,none⟩]
abbrev zz7_r10:List AI:=[
 ⟨some 53,.load true 7 (.t 3) .any,none⟩,
 ⟨some 54,.call (.c (.fn f_zz61)) [(.t 53)] 0,none⟩,
 ⟨some 55,.call (.c (.fn f_zz60)) [(.t 54)] 0,none⟩,
 ⟨some 52,.mv false (.t 55),none⟩,
 ⟨some 56,.ext (.t 52) 0,none⟩,
 ⟨some 57,.ext (.t 52) 1,none⟩,
 ⟨some 11,.alloc [(.int .i64 0),(.int .i64 0),(.int .i64 0),(.int .i64 0),(.int .i64 0),(.int .i64 0),(.str [])],none⟩,
 ⟨none,.store 7 (.t 11) (.t 56) .any,none⟩,
 ⟨some 12,.mv true (.t 57),none⟩]
abbrev zz7_r11:List AI:=[
 ⟨some 59,.mv false (.t 2),none⟩,
 ⟨some 60,.call (.c (.fn f_zz65)) [(.t 59)] 0,none⟩,
 ⟨some 58,.mv false (.t 60),none⟩,
 ⟨some 61,.ext (.t 58) 0,none⟩,
 ⟨some 62,.ext (.t 58) 1,none⟩,
 ⟨some 63,.ext (.t 58) 2,none⟩,
 ⟨some 13,.alloc [(.int .i64 0),.nilS,.nilS],none⟩,
 ⟨none,.store 3 (.t 13) (.t 61) .any,none⟩,
 ⟨some 14,.mv true (.t 62),none⟩,
 ⟨some 15,.mv true (.t 63),none⟩]
abbrev zz7_r12:List AI:=[
 ⟨some 64,.mv false (.t 2),none⟩,
 ⟨some 65,.call (.c (.fn f_zz27)) [(.t 64)] 0,none⟩,
 ⟨some 16,.alloc [(.int .i64 0),.nilS,.nilS,(.int .i64 0),(.int .i64 0)],none⟩,
 ⟨none,.store 5 (.t 16) (.t 65) .any,none⟩]
abbrev zz7_r13:List AI:=[
 ⟨some 66,.call (.c (.fn f_zz22)) [] 2,none⟩,
 ⟨some 67,.mv false (.t 66),none⟩,
 ⟨some 68,.load true 7 (.t 3) (.site 3),some (67,true)⟩,
 ⟨some 70,.load true 7 (.t 3) (.site 3),some (67,true)⟩,
 ⟨some 69,.call (.c (.fn f_zz61)) [(.t 68)] 2,some (67,true)⟩,
 ⟨some 71,.call (.c (.fn f_zz26)) [(.t 70)] 2,some (67,true)⟩,
 ⟨some 72,.bin .eql (.t 69) (.t 71),some (67,true)⟩,
 ⟨some 73,.pick (.t 67) (.t 72) (.c (.bool false)),none⟩,
 ⟨some 74,.mv false (.t 73),none⟩,
 ⟨some 75,.load true 7 (.t 8) (.site 8),some (74,true)⟩,
 ⟨some 76,.faddr 0 (.t 10),some (74,true)⟩,
 ⟨some 77,.load true 7 (.t 76) (.site 10),some (74,true)⟩,
 ⟨some 78,.eqs false [.i,.i,.i,.i,.i,.i,.s] (.t 75) (.t 77),some (74,true)⟩,
 ⟨some 79,.pick (.t 74) (.t 78) (.c (.bool false)),none⟩,
 ⟨some 80,.mv false (.t 79),none⟩,
 ⟨some 81,.mv false (.t 9),some (80,true)⟩,
 ⟨some 82,.faddr 7 (.t 10),some (80,true)⟩,
 ⟨some 83,.load false 1 (.t 82) (.site 10),some (80,true)⟩,
 ⟨some 84,.bin .eql (.t 81) (.t 83),some (80,true)⟩,
 ⟨some 85,.pick (.t 80) (.t 84) (.c (.bool false)),none⟩,
 ⟨some 86,.mv false (.t 85),none⟩,
 ⟨some 87,.load true 7 (.t 11) (.site 11),some (86,true)⟩,
 ⟨some 88,.load true 7 (.t 3) (.site 3),some (86,true)⟩,
 ⟨some 89,.eqs false [.i,.i,.i,.i,.i,.i,.s] (.t 87) (.t 88),some (86,true)⟩,
 ⟨some 90,.pick (.t 86) (.t 89) (.c (.bool false)),none⟩,
 ⟨some 91,.mv false (.t 90),none⟩,
 ⟨some 92,.mv false (.t 12),some (91,true)⟩,
 ⟨some 93,.bin .eql (.t 92) (.c (.int .i64 0)),some (91,true)⟩,
 ⟨some 94,.pick (.t 91) (.t 93) (.c (.bool false)),none⟩,
 ⟨some 95,.mv false (.t 94),none⟩,
 ⟨some 96,.mv false (.t 14),some (95,true)⟩,
 ⟨some 97,.faddr 3 (.t 16),some (95,true)⟩,
 ⟨some 98,.load false 1 (.t 97) (.site 16),some (95,true)⟩,
 ⟨some 99,.bin .eql (.t 96) (.t 98),some (95,true)⟩,
 ⟨some 100,.pick (.t 95) (.t 99) (.c (.bool false)),none⟩,
 ⟨some 101,.mv false (.t 100),none⟩,
 ⟨some 102,.mv false (.t 15),some (101,true)⟩,
 ⟨some 103,.faddr 4 (.t 16),some (101,true)⟩,
 ⟨some 104,.load false 1 (.t 103) (.site 16),some (101,true)⟩,
 ⟨some 105,.bin .eql (.t 102) (.t 104),some (101,true)⟩,
 ⟨some 106,.pick (.t 101) (.t 105) (.c (.bool false)),none⟩,
 ⟨some 107,.mv false (.t 106),none⟩,
 ⟨some 108,.load true 3 (.t 13) (.site 13),some (107,true)⟩,
 ⟨some 109,.faddr 0 (.t 16),some (107,true)⟩,
 ⟨some 110,.load true 3 (.t 109) (.site 16),some (107,true)⟩,
 ⟨some 111,.call (.c (.fn f_zz41)) [(.t 108),(.t 110)] 2,some (107,true)⟩,
 ⟨some 112,.pick (.t 107) (.t 111) (.c (.bool false)),none⟩,
 ⟨some 6,.mv true (.t 112),none⟩]
abbrev zz7_c:ACode:=.seq (.reg false zz7_r0) (.seq (.seq (.reg false zz7_r1) (.cond (.t 30) (.seq (.reg false zz7_r2) (.ret)) (.skip))) (.seq (.seq (.reg false zz7_r3) (.block 0 (.loop zz7_l0))) (.seq (.reg false zz7_r8) (.seq (.reg false zz7_r9) (.seq (.reg false zz7_r10) (.seq (.reg false zz7_r11) (.seq (.reg false zz7_r12) (.seq (.reg true zz7_r13) (.ret)))))))))
def zz7_F:AFunc:=⟨113,[.tmp 6],zz7_c⟩
theorem zz7_cp:compile Tryz.prog [] f_zz7=some zz7_F:=by kernel_rfl
abbrev zz60_r0:List AI:=[
 ⟨some 2,.alloc [(.int .i64 0),(.int .i64 0),(.int .i64 0),(.int .i64 0),(.int .i64 0),(.int .i64 0),(.str [])],none⟩,
 ⟨some 3,.mv true (.c (.int .i64 0)),none⟩]
abbrev zz60_r1:List AI:=[
 ⟨some 10,.mv false (.t 0),none⟩,
 ⟨some 11,.s2b (.t 10),none⟩,
 ⟨some 12,.call (.c (.fn f_zz90)) [(.t 11)] 0,none⟩,
 ⟨some 9,.mv false (.t 12),none⟩,
 ⟨some 13,.ext (.t 9) 0,none⟩,
 ⟨some 14,.ext (.t 9) 1,none⟩,
 ⟨some 15,.ext (.t 9) 2,none⟩,
 ⟨some 4,.mv true (.t 13),none⟩,
 ⟨some 5,.mv true (.t 14),none⟩,
 ⟨some 6,.mv true (.t 15),none⟩]
abbrev zz60_r2:List AI:=[
 ⟨some 16,.mv false (.t 6),none⟩,
 ⟨some 17,.bin .neq (.t 16) (.c (.int .i64 0)),none⟩,
 ⟨some 18,.mv false (.t 17),none⟩,
 ⟨some 19,.mv false (.t 4),some (18,false)⟩,
 ⟨some 20,.len false (.t 19),some (18,false)⟩,
 ⟨some 21,.bin .neq (.t 20) (.c (.int .i64 6)),some (18,false)⟩,
 ⟨some 22,.pick (.t 18) (.c (.bool true)) (.t 21),none⟩]
abbrev zz60_r3:List AI:=[
 ⟨some 23,.build [(.int .i64 0),(.int .i64 0),(.int .i64 0),(.int .i64 0),(.int .i64 0),(.int .i64 0),(.str [])] [],none⟩,
 ⟨none,.store 7 (.t 2) (.t 23) .any,none⟩,
 ⟨some 3,.mv true (.c (.int .i64 11)),none⟩]
abbrev zz60_r4:List AI:=[
 ⟨some 25,.mv false (.t 0),none⟩,
 ⟨some 26,.mv false (.t 5),none⟩,
 ⟨some 27,.slS (.t 25) (some (.t 26)) none,none⟩,
 ⟨some 28,.s2b (.t 27),none⟩,
 ⟨some 29,.call (.c (.fn f_zz81)) [(.t 28)] 0,none⟩,
 ⟨some 24,.mv false (.t 29),none⟩,
 ⟨some 30,.ext (.t 24) 0,none⟩,
 ⟨some 31,.ext (.t 24) 1,none⟩,
 ⟨some 32,.ext (.t 24) 2,none⟩,
 ⟨some 7,.mv true (.t 30),none⟩,
 ⟨some 8,.mv true (.t 31),none⟩,
 ⟨some 6,.mv true (.t 32),none⟩]
abbrev zz60_r5:List AI:=[
 ⟨some 33,.mv false (.t 6),none⟩,
 ⟨some 34,.bin .neq (.t 33) (.c (.int .i64 0)),none⟩,
 ⟨some 35,.mv false (.t 34),none⟩,
 ⟨some 36,.mv false (.t 5),some (35,false)⟩,
 ⟨some 37,.mv false (.t 8),some (35,false)⟩,
 ⟨some 38,.bin .add (.t 36) (.t 37),some (35,false)⟩,
 ⟨some 39,.mv false (.t 0),some (35,false)⟩,
 ⟨some 40,.len true (.t 39),some (35,false)⟩,
 ⟨some 41,.bin .neq (.t 38) (.t 40),some (35,false)⟩,
 ⟨some 42,.pick (.t 35) (.c (.bool true)) (.t 41),none⟩]
abbrev zz60_r6:List AI:=[
 ⟨some 43,.build [(.int .i64 0),(.int .i64 0),(.int .i64 0),(.int .i64 0),(.int .i64 0),(.int .i64 0),(.str [])] [],none⟩,
 ⟨none,.store 7 (.t 2) (.t 43) .any,none⟩,
 ⟨some 3,.mv true (.c (.int .i64 11)),none⟩]
abbrev zz60_r7:List AI:=[
 ⟨some 44,.mv false (.t 4),none⟩,
 ⟨some 45,.iaddr 1 (.t 44) (.c (.int .i64 0)),none⟩,
 ⟨some 46,.load false 1 (.t 45) .foreign,none⟩,
 ⟨some 47,.mv false (.t 4),none⟩,
 ⟨some 48,.iaddr 1 (.t 47) (.c (.int .i64 1)),none⟩,
 ⟨some 49,.load false 1 (.t 48) .foreign,none⟩,
 ⟨some 50,.mv false (.t 4),none⟩,
 ⟨some 51,.iaddr 1 (.t 50) (.c (.int .i64 2)),none⟩,
 ⟨some 52,.load false 1 (.t 51) .foreign,none⟩,
 ⟨some 53,.mv false (.t 4),none⟩,
 ⟨some 54,.iaddr 1 (.t 53) (.c (.int .i64 3)),none⟩,
 ⟨some 55,.load false 1 (.t 54) .foreign,none⟩,
 ⟨some 56,.mv false (.t 4),none⟩,
 ⟨some 57,.iaddr 1 (.t 56) (.c (.int .i64 4)),none⟩,
 ⟨some 58,.load false 1 (.t 57) .foreign,none⟩,
 ⟨some 59,.mv false (.t 4),none⟩,
 ⟨some 60,.iaddr 1 (.t 59) (.c (.int .i64 5)),none⟩,
 ⟨some 61,.load false 1 (.t 60) .foreign,none⟩,
 ⟨some 62,.mv false (.t 7),none⟩,
 ⟨some 63,.build [(.int .i64 0),(.int .i64 0),(.int .i64 0),(.int .i64 0),(.int .i64 0),(.int .i64 0),(.str [])] [(0,1,(.t 46)),(1,1,(.t 49)),(2,1,(.t 52)),(3,1,(.t 55)),(4,1,(.t 58)),(5,1,(.t 61)),(6,1,(.t 62))],none⟩,
 ⟨none,.store 7 (.t 2) (.t 63) (.site 2),none⟩,
 ⟨some 3,.mv true (.c (.int .i64 0)),none⟩]
abbrev zz60_c:ACode:=.seq (.reg false zz60_r0) (.seq (.reg false zz60_r1) (.seq (.seq (.reg false zz60_r2) (.cond (.t 22) (.seq (.reg false zz60_r3) (.ret)) (.skip))) (.seq (.reg false zz60_r4) (.seq (.seq (.reg false zz60_r5) (.cond (.t 42) (.seq (.reg false zz60_r6) (.ret)) (.skip))) (.seq (.reg true zz60_r7) (.ret))))))
def zz60_F:AFunc:=⟨64,[.cell 2 true 7,.tmp 3],zz60_c⟩
theorem zz60_cp:compile Tryz.prog [] f_zz60=some zz60_F:=by kernel_rfl
abbrev zz25_r0:List AI:=[
 ⟨some 2,.alloc [(.int .i64 0),(.int .i64 0),(.int .i64 0),(.int .i64 0),(.int .i64 0),(.int .i64 0),(.str []),(.int .i64 0)],none⟩]
abbrev zz25_r1:List AI:=[
 ⟨some 11,.build [(.int .i64 0),(.int .i64 0),(.int .i64 0),(.int .i64 0),(.int .i64 0),(.int .i64 0),(.str []),(.int .i64 0)] [(7,1,(.c (.int .i64 11)))],none⟩,
 ⟨some 3,.alloc [(.int .i64 0),(.int .i64 0),(.int .i64 0),(.int .i64 0),(.int .i64 0),(.int .i64 0),(.str []),(.int .i64 0)],none⟩,
 ⟨none,.store 8 (.t 3) (.t 11) .any,none⟩]
abbrev zz25_r2:List AI:=[
 ⟨some 13,.mv false (.t 0),none⟩,
 ⟨some 14,.s2b (.t 13),none⟩,
 ⟨some 15,.call (.c (.fn f_zz21)) [(.t 14)] 0,none⟩,
 ⟨some 12,.mv false (.t 15),none⟩,
 ⟨some 16,.ext (.t 12) 0,none⟩,
 ⟨some 17,.ext (.t 12) 1,none⟩,
 ⟨some 18,.ext (.t 12) 2,none⟩,
 ⟨some 4,.mv true (.t 16),none⟩,
 ⟨some 5,.mv true (.t 17),none⟩,
 ⟨some 6,.mv true (.t 18),none⟩]
abbrev zz25_r3:List AI:=[
 ⟨some 19,.mv false (.t 6),none⟩,
 ⟨some 20,.bin .neq (.t 19) (.c (.int .i64 0)),none⟩,
 ⟨some 21,.mv false (.t 20),none⟩,
 ⟨some 22,.mv false (.t 4),some (21,false)⟩,
 ⟨some 23,.len false (.t 22),some (21,false)⟩,
 ⟨some 24,.bin .neq (.t 23) (.c (.int .i64 6)),some (21,false)⟩,
 ⟨some 25,.pick (.t 21) (.c (.bool true)) (.t 24),none⟩]
abbrev zz25_r4:List AI:=[
 ⟨some 26,.load true 8 (.t 3) .any,none⟩,
 ⟨none,.store 8 (.t 2) (.t 26) .any,none⟩]
abbrev zz25_r5:List AI:=[
 ⟨some 28,.mv false (.t 0),none⟩,
 ⟨some 29,.mv false (.t 5),none⟩,
 ⟨some 30,.slS (.t 28) (some (.t 29)) none,none⟩,
 ⟨some 31,.s2b (.t 30),none⟩,
 ⟨some 32,.call (.c (.fn f_zz20)) [(.t 31)] 0,none⟩,
 ⟨some 27,.mv false (.t 32),none⟩,
 ⟨some 33,.ext (.t 27) 0,none⟩,
 ⟨some 34,.ext (.t 27) 1,none⟩,
 ⟨some 35,.ext (.t 27) 2,none⟩,
 ⟨some 7,.mv true (.t 33),none⟩,
 ⟨some 8,.mv true (.t 34),none⟩,
 ⟨some 9,.mv true (.t 35),none⟩]
abbrev zz25_r6:List AI:=[
 ⟨some 36,.mv false (.t 9),none⟩,
 ⟨some 37,.bin .neq (.t 36) (.c (.int .i64 0)),none⟩]
abbrev zz25_r7:List AI:=[
 ⟨some 38,.load true 8 (.t 3) .any,none⟩,
 ⟨none,.store 8 (.t 2) (.t 38) .any,none⟩]
abbrev zz25_r8:List AI:=[
 ⟨some 39,.mv false (.t 4),none⟩,
 ⟨some 40,.iaddr 1 (.t 39) (.c (.int .i64 0)),none⟩,
 ⟨some 41,.load false 1 (.t 40) .foreign,none⟩,
 ⟨some 42,.mv false (.t 4),none⟩,
 ⟨some 43,.iaddr 1 (.t 42) (.c (.int .i64 1)),none⟩,
 ⟨some 44,.load false 1 (.t 43) .foreign,none⟩,
 ⟨some 45,.mv false (.t 4),none⟩,
 ⟨some 46,.iaddr 1 (.t 45) (.c (.int .i64 2)),none⟩,
 ⟨some 47,.load false 1 (.t 46) .foreign,none⟩,
 ⟨some 48,.mv false (.t 4),none⟩,
 ⟨some 49,.iaddr 1 (.t 48) (.c (.int .i64 3)),none⟩,
 ⟨some 50,.load false 1 (.t 49) .foreign,none⟩,
 ⟨some 51,.mv false (.t 4),none⟩,
 ⟨some 52,.iaddr 1 (.t 51) (.c (.int .i64 4)),none⟩,
 ⟨some 53,.load false 1 (.t 52) .foreign,none⟩,
 ⟨some 54,.mv false (.t 4),none⟩,
 ⟨some 55,.iaddr 1 (.t 54) (.c (.int .i64 5)),none⟩,
 ⟨some 56,.load false 1 (.t 55) .foreign,none⟩,
 ⟨some 57,.mv false (.t 7),none⟩,
 ⟨some 58,.build [(.int .i64 0),(.int .i64 0),(.int .i64 0),(.int .i64 0),(.int .i64 0),(.int .i64 0),(.str [])] [(0,1,(.t 41)),(1,1,(.t 44)),(2,1,(.t 47)),(3,1,(.t 50)),(4,1,(.t 53)),(5,1,(.t 56)),(6,1,(.t 57))],none⟩,
 ⟨some 10,.alloc [(.int .i64 0),(.int .i64 0),(.int .i64 0),(.int .i64 0),(.int .i64 0),(.int .i64 0),(.str [])],none⟩,
 ⟨none,.store 7 (.t 10) (.t 58) (.site 10),none⟩]
abbrev zz25_r9:List AI:=[
 ⟨some 59,.load true 7 (.t 10) .any,none⟩,
 ⟨some 60,.call (.c (.fn f_zz26)) [(.t 59)] 0,none⟩,
 ⟨some 61,.mv false (.t 0),none⟩,
 ⟨some 62,.bin .neq (.t 60) (.t 61),none⟩]
abbrev zz25_r10:List AI:=[
 ⟨some 63,.load true 8 (.t 3) .any,none⟩,
 ⟨none,.store 8 (.t 2) (.t 63) .any,none⟩]
abbrev zz25_r11:List AI:=[
 ⟨some 64,.load true 7 (.t 10) .any,none⟩,
 ⟨some 65,.build [(.int .i64 0),(.int .i64 0),(.int .i64 0),(.int .i64 0),(.int .i64 0),(.int .i64 0),(.str []),(.int .i64 0)] [(0,7,(.t 64))],none⟩,
 ⟨none,.store 8 (.t 2) (.t 65) .any,none⟩]
abbrev zz25_c:ACode:=.seq (.reg false zz25_r0) (.seq (.reg false zz25_r1) (.seq (.reg false zz25_r2) (.seq (.seq (.reg false zz25_r3) (.cond (.t 25) (.seq (.reg false zz25_r4) (.ret)) (.skip))) (.seq (.reg false zz25_r5) (.seq (.seq (.reg false zz25_r6) (.cond (.t 37) (.seq (.reg false zz25_r7) (.ret)) (.skip))) (.seq (.reg true zz25_r8) (.seq (.seq (.reg false zz25_r9) (.cond (.t 62) (.seq (.reg false zz25_r10) (.ret)) (.skip))) (.seq (.reg false zz25_r11) (.ret)))))))))
def zz25_F:AFunc:=⟨66,[.cell 2 true 8],zz25_c⟩
theorem zz25_cp:compile Tryz.prog [] f_zz25=some zz25_F:=by kernel_rfl
abbrev zz61_r0:List AI:=[
 ⟨some 1,.box 7 (.t 0),none⟩,
 ⟨some 2,.mv true (.c (.str [])),none⟩]
abbrev zz61_r1:List AI:=[
 ⟨some 3,.faddr 0 (.t 1),none⟩,
 ⟨some 4,.load false 1 (.t 3) (.site 1),none⟩,
 ⟨some 5,.faddr 1 (.t 1),none⟩,
 ⟨some 6,.load false 1 (.t 5) (.site 1),none⟩,
 ⟨some 7,.faddr 2 (.t 1),none⟩,
 ⟨some 8,.load false 1 (.t 7) (.site 1),none⟩,
 ⟨some 9,.faddr 3 (.t 1),none⟩,
 ⟨some 10,.load false 1 (.t 9) (.site 1),none⟩,
 ⟨some 11,.faddr 4 (.t 1),none⟩,
 ⟨some 12,.load false 1 (.t 11) (.site 1),none⟩,
 ⟨some 13,.faddr 5 (.t 1),none⟩,
 ⟨some 14,.load false 1 (.t 13) (.site 1),none⟩,
 ⟨some 15,.mkslice 1 6 (.int .i64 0) [(0,(.t 4)),(1,(.t 6)),(2,(.t 8)),(3,(.t 10)),(4,(.t 12)),(5,(.t 14))],none⟩,
 ⟨some 18,.faddr 6 (.t 1),none⟩,
 ⟨some 19,.load false 1 (.t 18) (.site 1),none⟩,
 ⟨some 16,.call (.c (.fn f_zz98)) [(.t 15)] 2,none⟩,
 ⟨some 17,.b2s (.t 16),none⟩,
 ⟨some 20,.call (.c (.fn f_zz97)) [(.t 19)] 2,none⟩,
 ⟨some 21,.b2s (.t 20),none⟩,
 ⟨some 22,.bin .add (.t 17) (.t 21),none⟩,
 ⟨some 2,.mv true (.t 22),none⟩]
abbrev zz61_c:ACode:=.seq (.reg false zz61_r0) (.seq (.reg true zz61_r1) (.ret))
def zz61_F:AFunc:=⟨23,[.tmp 2],zz61_c⟩
theorem zz61_cp:compile Tryz.prog [] f_zz61=some zz61_F:=by kernel_rfl
-- loop 0: [0, 2, 5, 10, 11, 12]
abbrev zz65_r0:List AI:=[
 ⟨some 2,.alloc [(.int .i64 0),.nilS,.nilS],none⟩,
 ⟨some 3,.mv true (.c (.int .i64 0)),none⟩,
 ⟨some 4,.mv true (.c (.int .i64 0)),none⟩]
abbrev zz65_r1:List AI:=[
 ⟨some 5,.alloc [(.int .i64 0),.nilS,.nilS],none⟩]
abbrev zz65_r2:List AI:=[
 ⟨some 10,.mv false (.t 0),none⟩,
 ⟨some 11,.len false (.t 10),none⟩,
 ⟨some 12,.mv false (.c (.int .i64 0)),none⟩]
abbrev zz65_r3:List AI:=[
 ⟨some 13,.bin .lss (.t 12) (.t 11),none⟩]
abbrev zz65_r4:List AI:=[
 ⟨some 14,.mv false (.t 12),none⟩,
 ⟨some 15,.iaddr 1 (.t 10) (.t 12),none⟩,
 ⟨some 16,.load false 1 (.t 15) .any,none⟩,
 ⟨some 6,.mv true (.t 14),none⟩,
 ⟨some 7,.mv true (.t 16),none⟩]
abbrev zz65_r5:List AI:=[
 ⟨some 18,.mv false (.t 7),none⟩,
 ⟨some 19,.call (.c (.fn f_zz60)) [(.t 18)] 0,none⟩,
 ⟨some 17,.mv false (.t 19),none⟩,
 ⟨some 20,.ext (.t 17) 0,none⟩,
 ⟨some 21,.ext (.t 17) 1,none⟩,
 ⟨some 8,.alloc [(.int .i64 0),(.int .i64 0),(.int .i64 0),(.int .i64 0),(.int .i64 0),(.int .i64 0),(.str [])],none⟩,
 ⟨none,.store 7 (.t 8) (.t 20) .any,none⟩,
 ⟨some 9,.mv true (.t 21),none⟩]
abbrev zz65_r6:List AI:=[
 ⟨some 22,.mv false (.t 9),none⟩,
 ⟨some 23,.bin .eql (.t 22) (.c (.int .i64 0)),none⟩]
abbrev zz65_r7:List AI:=[
 ⟨some 25,.load true 3 (.t 5) .any,none⟩,
 ⟨some 26,.load true 7 (.t 8) .any,none⟩,
 ⟨some 27,.call (.c (.fn f_zz95)) [(.t 25),(.t 26)] 0,none⟩,
 ⟨some 24,.mv false (.t 27),none⟩,
 ⟨some 28,.ext (.t 24) 0,none⟩,
 ⟨some 29,.ext (.t 24) 1,none⟩,
 ⟨none,.store 3 (.t 5) (.t 28) .any,none⟩,
 ⟨some 9,.mv true (.t 29),none⟩]
abbrev zz65_r8:List AI:=[
 ⟨some 30,.mv false (.t 9),none⟩,
 ⟨some 31,.bin .neq (.t 30) (.c (.int .i64 0)),none⟩]
abbrev zz65_r9:List AI:=[
 ⟨some 32,.load true 3 (.t 5) .any,none⟩,
 ⟨some 33,.mv false (.t 6),none⟩,
 ⟨some 34,.mv false (.t 9),none⟩,
 ⟨none,.store 3 (.t 2) (.t 32) .any,none⟩,
 ⟨some 3,.mv true (.t 33),none⟩,
 ⟨some 4,.mv true (.t 34),none⟩]
abbrev zz65_r10:List AI:=[
 ⟨some 35,.bin .add (.t 12) (.c (.int .i64 1)),none⟩,
 ⟨some 12,.mv false (.t 35),none⟩]
abbrev zz65_l0:ACode:=.seq (.reg false zz65_r3) (.seq (.cond (.t 13) (.skip) (.exit 0)) (.seq (.block 1 (.seq (.reg false zz65_r4) (.seq (.reg false zz65_r5) (.seq (.seq (.reg false zz65_r6) (.cond (.t 23) (.reg false zz65_r7) (.skip))) (.seq (.reg false zz65_r8) (.cond (.t 31) (.seq (.reg false zz65_r9) (.ret)) (.skip))))))) (.reg false zz65_r10)))
abbrev zz65_r11:List AI:=[
 ⟨some 36,.load true 3 (.t 5) .any,none⟩,
 ⟨some 37,.mv false (.t 0),none⟩,
 ⟨some 38,.len false (.t 37),none⟩,
 ⟨none,.store 3 (.t 2) (.t 36) .any,none⟩,
 ⟨some 3,.mv true (.t 38),none⟩,
 ⟨some 4,.mv true (.c (.int .i64 0)),none⟩]
abbrev zz65_c:ACode:=.seq (.reg false zz65_r0) (.seq (.reg false zz65_r1) (.seq (.seq (.reg false zz65_r2) (.block 0 (.loop zz65_l0))) (.seq (.reg false zz65_r11) (.ret))))
def zz65_F:AFunc:=⟨39,[.cell 2 true 3,.tmp 3,.tmp 4],zz65_c⟩
theorem zz65_cp:compile Tryz.prog [] f_zz65=some zz65_F:=by kernel_rfl
-- loop 0: [0, 2, 3, 4]
abbrev zz27_r0:List AI:=[
 ⟨some 2,.alloc [(.int .i64 0),.nilS,.nilS,(.int .i64 0),(.int .i64 0)],none⟩]
abbrev zz27_r1:List AI:=[
 ⟨some 3,.alloc [(.int .i64 0),.nilS,.nilS],none⟩]
abbrev zz27_r2:List AI:=[
 ⟨some 4,.mv true (.c (.int .i64 0)),none⟩]
abbrev zz27_r3:List AI:=[
 ⟨some 7,.mv false (.t 4),none⟩,
 ⟨some 8,.mv false (.t 0),none⟩,
 ⟨some 9,.len false (.t 8),none⟩,
 ⟨some 10,.bin .lss (.t 7) (.t 9),none⟩]
abbrev zz27_r4:List AI:=[
 ⟨some 13,.mv false (.t 0),none⟩,
 ⟨some 14,.mv false (.t 4),none⟩,
 ⟨some 15,.iaddr 1 (.t 13) (.t 14),none⟩,
 ⟨some 16,.load false 1 (.t 15) .any,none⟩,
 ⟨some 17,.call (.c (.fn f_zz25)) [(.t 16)] 0,none⟩,
 ⟨some 5,.alloc [(.int .i64 0),(.int .i64 0),(.int .i64 0),(.int .i64 0),(.int .i64 0),(.int .i64 0),(.str []),(.int .i64 0)],none⟩,
 ⟨none,.store 8 (.t 5) (.t 17) .any,none⟩]
abbrev zz27_r5:List AI:=[
 ⟨some 18,.faddr 7 (.t 5),none⟩,
 ⟨some 19,.load false 1 (.t 18) .any,none⟩,
 ⟨some 20,.bin .neq (.t 19) (.c (.int .i64 0)),none⟩]
abbrev zz27_r6:List AI:=[
 ⟨some 21,.load true 3 (.t 3) .any,none⟩,
 ⟨some 22,.mv false (.t 4),none⟩,
 ⟨some 23,.faddr 7 (.t 5),none⟩,
 ⟨some 24,.load false 1 (.t 23) .any,none⟩,
 ⟨some 25,.build [(.int .i64 0),.nilS,.nilS,(.int .i64 0),(.int .i64 0)] [(0,3,(.t 21)),(3,1,(.t 22)),(4,1,(.t 24))],none⟩,
 ⟨none,.store 5 (.t 2) (.t 25) .any,none⟩]
abbrev zz27_r7:List AI:=[
 ⟨some 26,.load true 3 (.t 3) .any,none⟩,
 ⟨some 27,.faddr 0 (.t 5),none⟩,
 ⟨some 28,.load true 7 (.t 27) .any,none⟩,
 ⟨some 29,.call (.c (.fn f_zz59)) [(.t 26),(.t 28)] 0,none⟩,
 ⟨some 6,.alloc [(.int .i64 0),.nilS,.nilS,(.int .i64 0),(.int .i64 0)],none⟩,
 ⟨none,.store 5 (.t 6) (.t 29) .any,none⟩]
abbrev zz27_r8:List AI:=[
 ⟨some 30,.faddr 4 (.t 6),none⟩,
 ⟨some 31,.load false 1 (.t 30) .any,none⟩,
 ⟨some 32,.bin .neq (.t 31) (.c (.int .i64 0)),none⟩]
abbrev zz27_r9:List AI:=[
 ⟨some 33,.load true 3 (.t 3) .any,none⟩,
 ⟨some 34,.mv false (.t 4),none⟩,
 ⟨some 35,.faddr 4 (.t 6),none⟩,
 ⟨some 36,.load false 1 (.t 35) .any,none⟩,
 ⟨some 37,.build [(.int .i64 0),.nilS,.nilS,(.int .i64 0),(.int .i64 0)] [(0,3,(.t 33)),(3,1,(.t 34)),(4,1,(.t 36))],none⟩,
 ⟨none,.store 5 (.t 2) (.t 37) .any,none⟩]
abbrev zz27_r10:List AI:=[
 ⟨some 38,.faddr 0 (.t 6),none⟩,
 ⟨some 39,.load true 3 (.t 38) .any,none⟩,
 ⟨none,.store 3 (.t 3) (.t 39) .any,none⟩]
abbrev zz27_r11:List AI:=[
 ⟨some 11,.mv false (.t 4),none⟩,
 ⟨some 12,.bin .add (.t 11) (.c (.int .i64 1)),none⟩,
 ⟨some 4,.mv true (.t 12),none⟩]
abbrev zz27_l0:ACode:=.seq (.seq (.reg false zz27_r3) (.cond (.t 10) (.skip) (.exit 0))) (.seq (.block 1 (.seq (.reg false zz27_r4) (.seq (.seq (.reg false zz27_r5) (.cond (.t 20) (.seq (.reg false zz27_r6) (.ret)) (.skip))) (.seq (.reg false zz27_r7) (.seq (.seq (.reg false zz27_r8) (.cond (.t 32) (.seq (.reg false zz27_r9) (.ret)) (.skip))) (.reg false zz27_r10)))))) (.reg false zz27_r11))
abbrev zz27_r12:List AI:=[
 ⟨some 40,.load true 3 (.t 3) .any,none⟩,
 ⟨some 41,.mv false (.t 0),none⟩,
 ⟨some 42,.len false (.t 41),none⟩,
 ⟨some 43,.build [(.int .i64 0),.nilS,.nilS,(.int .i64 0),(.int .i64 0)] [(0,3,(.t 40)),(3,1,(.t 42))],none⟩,
 ⟨none,.store 5 (.t 2) (.t 43) .any,none⟩]
abbrev zz27_c:ACode:=.seq (.reg false zz27_r0) (.seq (.reg false zz27_r1) (.seq (.seq (.reg false zz27_r2) (.block 0 (.loop zz27_l0))) (.seq (.reg false zz27_r12) (.ret))))
def zz27_F:AFunc:=⟨44,[.cell 2 true 5],zz27_c⟩
theorem zz27_cp:compile Tryz.prog [] f_zz27=some zz27_F:=by kernel_rfl
abbrev zz26_r0:List AI:=[
 ⟨some 1,.box 7 (.t 0),none⟩,
 ⟨some 2,.mv true (.c (.str [])),none⟩]
abbrev zz26_r1:List AI:=[
 ⟨some 3,.faddr 0 (.t 1),none⟩,
 ⟨some 4,.load false 1 (.t 3) (.site 1),none⟩,
 ⟨some 5,.faddr 1 (.t 1),none⟩,
 ⟨some 6,.load false 1 (.t 5) (.site 1),none⟩,
 ⟨some 7,.faddr 2 (.t 1),none⟩,
 ⟨some 8,.load false 1 (.t 7) (.site 1),none⟩,
 ⟨some 9,.faddr 3 (.t 1),none⟩,
 ⟨some 10,.load false 1 (.t 9) (.site 1),none⟩,
 ⟨some 11,.faddr 4 (.t 1),none⟩,
 ⟨some 12,.load false 1 (.t 11) (.site 1),none⟩,
 ⟨some 13,.faddr 5 (.t 1),none⟩,
 ⟨some 14,.load false 1 (.t 13) (.site 1),none⟩,
 ⟨some 15,.mkslice 1 6 (.int .i64 0) [(0,(.t 4)),(1,(.t 6)),(2,(.t 8)),(3,(.t 10)),(4,(.t 12)),(5,(.t 14))],none⟩,
 ⟨some 18,.faddr 6 (.t 1),none⟩,
 ⟨some 19,.load false 1 (.t 18) (.site 1),none⟩,
 ⟨some 16,.call (.c (.fn f_zz39)) [(.t 15)] 2,none⟩,
 ⟨some 17,.b2s (.t 16),none⟩,
 ⟨some 20,.call (.c (.fn f_zz33)) [(.t 19)] 2,none⟩,
 ⟨some 21,.b2s (.t 20),none⟩,
 ⟨some 22,.bin .add (.t 17) (.t 21),none⟩,
 ⟨some 2,.mv true (.t 22),none⟩]
abbrev zz26_c:ACode:=.seq (.reg false zz26_r0) (.seq (.reg true zz26_r1) (.ret))
def zz26_F:AFunc:=⟨23,[.tmp 2],zz26_c⟩
theorem zz26_cp:compile Tryz.prog [] f_zz26=some zz26_F:=by kernel_rfl
abbrev zz90_r0:List AI:=[
 ⟨some 2,.mv true (.c .nilS),none⟩,
 ⟨some 3,.mv true (.c (.int .i64 0)),none⟩,
 ⟨some 4,.mv true (.c (.int .i64 0)),none⟩]
abbrev zz90_r1:List AI:=[
 ⟨some 5,.mv false (.t 0),none⟩,
 ⟨some 6,.call (.c (.fn f_zz91)) [(.t 5),(.c (.int .i64 1)),(.c (.fn f_zz93))] 0,none⟩,
 ⟨some 7,.ext (.t 6) 0,none⟩,
 ⟨some 8,.ext (.t 6) 1,none⟩,
 ⟨some 9,.ext (.t 6) 2,none⟩,
 ⟨some 2,.mv true (.t 7),none⟩,
 ⟨some 3,.mv true (.t 8),none⟩,
 ⟨some 4,.mv true (.t 9),none⟩]
abbrev zz90_c:ACode:=.seq (.reg false zz90_r0) (.seq (.reg false zz90_r1) (.ret))
def zz90_F:AFunc:=⟨10,[.tmp 2,.tmp 3,.tmp 4],zz90_c⟩
theorem zz90_cp:compile Tryz.prog [] f_zz90=some zz90_F:=by kernel_rfl
abbrev zz81_r0:List AI:=[
 ⟨some 2,.mv true (.c (.str [])),none⟩,
 ⟨some 3,.mv true (.c (.int .i64 0)),none⟩,
 ⟨some 4,.mv true (.c (.int .i64 0)),none⟩]
abbrev zz81_r1:List AI:=[
 ⟨some 9,.mv false (.t 0),none⟩,
 ⟨some 10,.call (.c (.fn f_zz94)) [(.t 9),(.c (.int .i64 1))] 0,none⟩,
 ⟨some 8,.mv false (.t 10),none⟩,
 ⟨some 11,.ext (.t 8) 0,none⟩,
 ⟨some 12,.ext (.t 8) 1,none⟩,
 ⟨some 13,.ext (.t 8) 2,none⟩,
 ⟨some 5,.mv true (.t 11),none⟩,
 ⟨some 6,.mv true (.t 12),none⟩,
 ⟨some 7,.mv true (.t 13),none⟩]
abbrev zz81_r2:List AI:=[
 ⟨some 14,.mv false (.t 7),none⟩,
 ⟨some 15,.bin .neq (.t 14) (.c (.int .i64 0)),none⟩]
abbrev zz81_r3:List AI:=[
 ⟨some 16,.mv false (.t 7),none⟩,
 ⟨some 2,.mv true (.c (.str [])),none⟩,
 ⟨some 3,.mv true (.c (.int .i64 0)),none⟩,
 ⟨some 4,.mv true (.t 16),none⟩]
abbrev zz81_r4:List AI:=[
 ⟨some 17,.mv false (.t 0),none⟩,
 ⟨some 18,.mv false (.t 6),none⟩,
 ⟨some 19,.mv false (.t 6),none⟩,
 ⟨some 20,.mv false (.t 5),none⟩,
 ⟨some 21,.bin .add (.t 19) (.t 20),none⟩,
 ⟨some 22,.sl 1 (.t 17) (some (.t 18)) (some (.t 21)),none⟩,
 ⟨some 23,.b2s (.t 22),none⟩,
 ⟨some 24,.mv false (.t 6),none⟩,
 ⟨some 25,.mv false (.t 5),none⟩,
 ⟨some 26,.bin .add (.t 24) (.t 25),none⟩,
 ⟨some 2,.mv true (.t 23),none⟩,
 ⟨some 3,.mv true (.t 26),none⟩,
 ⟨some 4,.mv true (.c (.int .i64 0)),none⟩]
abbrev zz81_c:ACode:=.seq (.reg false zz81_r0) (.seq (.reg false zz81_r1) (.seq (.seq (.reg false zz81_r2) (.cond (.t 15) (.seq (.reg false zz81_r3) (.ret)) (.skip))) (.seq (.reg false zz81_r4) (.ret))))
def zz81_F:AFunc:=⟨27,[.tmp 2,.tmp 3,.tmp 4],zz81_c⟩
theorem zz81_cp:compile Tryz.prog [] f_zz81=some zz81_F:=by kernel_rfl
-- loop 0: [0, 5, 6, 8, 9]
abbrev zz21_r0:List AI:=[
 ⟨some 2,.mv true (.c .nilS),none⟩,
 ⟨some 3,.mv true (.c (.int .i64 0)),none⟩,
 ⟨some 4,.mv true (.c (.int .i64 0)),none⟩]
abbrev zz21_r1:List AI:=[
 ⟨some 14,.mv false (.t 0),none⟩,
 ⟨some 15,.call (.c (.fn f_zz24)) [(.t 14),(.c (.int .i64 1))] 0,none⟩,
 ⟨some 13,.mv false (.t 15),none⟩,
 ⟨some 16,.ext (.t 13) 0,none⟩,
 ⟨some 17,.ext (.t 13) 1,none⟩,
 ⟨some 18,.ext (.t 13) 2,none⟩,
 ⟨some 5,.mv true (.t 16),none⟩,
 ⟨some 6,.mv true (.t 17),none⟩,
 ⟨some 7,.mv true (.t 18),none⟩]
abbrev zz21_r2:List AI:=[
 ⟨some 19,.mv false (.t 7),none⟩,
 ⟨some 20,.bin .neq (.t 19) (.c (.int .i64 0)),none⟩]
abbrev zz21_r3:List AI:=[
 ⟨some 21,.mv false (.t 7),none⟩,
 ⟨some 2,.mv true (.c .nilS),none⟩,
 ⟨some 3,.mv true (.c (.int .i64 0)),none⟩,
 ⟨some 4,.mv true (.t 21),none⟩]
abbrev zz21_r4:List AI:=[
 ⟨some 8,.mv true (.c .nilS),none⟩]
abbrev zz21_r5:List AI:=[
 ⟨some 9,.mv true (.c (.int .i64 0)),none⟩]
abbrev zz21_r6:List AI:=[
 ⟨some 22,.mv false (.t 9),none⟩,
 ⟨some 23,.mv false (.t 5),none⟩,
 ⟨some 24,.bin .lss (.t 22) (.t 23),none⟩]
abbrev zz21_r7:List AI:=[
 ⟨some 28,.mv false (.t 0),none⟩,
 ⟨some 29,.mv false (.t 6),none⟩,
 ⟨some 30,.sl 1 (.t 28) (some (.t 29)) none,none⟩,
 ⟨some 31,.call (.c (.fn f_zz23)) [(.t 30)] 0,none⟩,
 ⟨some 27,.mv false (.t 31),none⟩,
 ⟨some 32,.ext (.t 27) 0,none⟩,
 ⟨some 33,.ext (.t 27) 1,none⟩,
 ⟨some 34,.ext (.t 27) 2,none⟩,
 ⟨some 10,.mv true (.t 32),none⟩,
 ⟨some 11,.mv true (.t 33),none⟩,
 ⟨some 12,.mv true (.t 34),none⟩]
abbrev zz21_r8:List AI:=[
 ⟨some 35,.mv false (.t 12),none⟩,
 ⟨some 36,.bin .neq (.t 35) (.c (.int .i64 0)),none⟩]
abbrev zz21_r9:List AI:=[
 ⟨some 37,.mv false (.t 12),none⟩,
 ⟨some 2,.mv true (.c .nilS),none⟩,
 ⟨some 3,.mv true (.c (.int .i64 0)),none⟩,
 ⟨some 4,.mv true (.t 37),none⟩]
abbrev zz21_r10:List AI:=[
 ⟨some 38,.mv true (.t 8),none⟩,
 ⟨some 39,.mv false (.t 10),none⟩,
 ⟨some 40,.mkslice 1 1 (.int .i64 0) [(0,(.t 39))],none⟩,
 ⟨some 41,.append 1 8 (.t 38) (.t 40),none⟩,
 ⟨some 8,.mv true (.t 41),none⟩]
abbrev zz21_r11:List AI:=[
 ⟨some 42,.mv false (.t 6),none⟩,
 ⟨some 43,.mv false (.t 11),none⟩,
 ⟨some 44,.bin .add (.t 42) (.t 43),none⟩,
 ⟨some 6,.mv true (.t 44),none⟩]
abbrev zz21_r12:List AI:=[
 ⟨some 25,.mv false (.t 9),none⟩,
 ⟨some 26,.bin .add (.t 25) (.c (.int .i64 1)),none⟩,
 ⟨some 9,.mv true (.t 26),none⟩]
abbrev zz21_l0:ACode:=.seq (.seq (.reg false zz21_r6) (.cond (.t 24) (.skip) (.exit 0))) (.seq (.block 1 (.seq (.reg false zz21_r7) (.seq (.seq (.reg false zz21_r8) (.cond (.t 36) (.seq (.reg false zz21_r9) (.ret)) (.skip))) (.seq (.reg false zz21_r10) (.reg false zz21_r11))))) (.reg false zz21_r12))
abbrev zz21_r13:List AI:=[
 ⟨some 45,.mv false (.t 8),none⟩,
 ⟨some 46,.mv false (.t 6),none⟩,
 ⟨some 2,.mv true (.t 45),none⟩,
 ⟨some 3,.mv true (.t 46),none⟩,
 ⟨some 4,.mv true (.c (.int .i64 0)),none⟩]
abbrev zz21_c:ACode:=.seq (.reg false zz21_r0) (.seq (.reg false zz21_r1) (.seq (.seq (.reg false zz21_r2) (.cond (.t 20) (.seq (.reg false zz21_r3) (.ret)) (.skip))) (.seq (.reg false zz21_r4) (.seq (.seq (.reg false zz21_r5) (.block 0 (.loop zz21_l0))) (.seq (.reg false zz21_r13) (.ret))))))
def zz21_F:AFunc:=⟨47,[.tmp 2,.tmp 3,.tmp 4],zz21_c⟩
theorem zz21_cp:compile Tryz.prog [] f_zz21=some zz21_F:=by kernel_rfl
abbrev zz20_r0:List AI:=[
 ⟨some 2,.mv true (.c (.str [])),none⟩,
 ⟨some 3,.mv true (.c (.int .i64 0)),none⟩,
 ⟨some 4,.mv true (.c (.int .i64 0)),none⟩]
abbrev zz20_r1:List AI:=[
 ⟨some 9,.mv false (.t 0),none⟩,
 ⟨some 10,.call (.c (.fn f_zz23)) [(.t 9)] 0,none⟩,
 ⟨some 8,.mv false (.t 10),none⟩,
 ⟨some 11,.ext (.t 8) 0,none⟩,
 ⟨some 12,.ext (.t 8) 1,none⟩,
 ⟨some 13,.ext (.t 8) 2,none⟩,
 ⟨some 5,.mv true (.t 11),none⟩,
 ⟨some 6,.mv true (.t 12),none⟩,
 ⟨some 7,.mv true (.t 13),none⟩]
abbrev zz20_r2:List AI:=[
 ⟨some 14,.mv false (.t 7),none⟩,
 ⟨some 15,.bin .neq (.t 14) (.c (.int .i64 0)),none⟩]
abbrev zz20_r3:List AI:=[
 ⟨some 16,.mv false (.t 7),none⟩,
 ⟨some 2,.mv true (.c (.str [])),none⟩,
 ⟨some 3,.mv true (.c (.int .i64 0)),none⟩,
 ⟨some 4,.mv true (.t 16),none⟩]
abbrev zz20_r4:List AI:=[
 ⟨some 17,.mv false (.t 5),none⟩,
 ⟨some 18,.bin .lss (.t 17) (.c (.int .i64 0)),none⟩]
abbrev zz20_r5:List AI:=[
 ⟨some 2,.mv true (.c (.str [])),none⟩,
 ⟨some 3,.mv true (.c (.int .i64 0)),none⟩,
 ⟨some 4,.mv true (.c (.int .i64 11)),none⟩]
abbrev zz20_r6:List AI:=[
 ⟨some 19,.mv false (.t 5),none⟩,
 ⟨some 20,.mv false (.t 0),none⟩,
 ⟨some 21,.len false (.t 20),none⟩,
 ⟨some 22,.mv false (.t 6),none⟩,
 ⟨some 23,.bin .sub (.t 21) (.t 22),none⟩,
 ⟨some 24,.bin .gtr (.t 19) (.t 23),none⟩]
abbrev zz20_r7:List AI:=[
 ⟨some 2,.mv true (.c (.str [])),none⟩,
 ⟨some 3,.mv true (.c (.int .i64 0)),none⟩,
 ⟨some 4,.mv true (.c (.int .i64 10)),none⟩]
abbrev zz20_r8:List AI:=[
 ⟨some 25,.mv false (.t 0),none⟩,
 ⟨some 26,.mv false (.t 6),none⟩,
 ⟨some 27,.mv false (.t 6),none⟩,
 ⟨some 28,.mv false (.t 5),none⟩,
 ⟨some 29,.bin .add (.t 27) (.t 28),none⟩,
 ⟨some 30,.sl 1 (.t 25) (some (.t 26)) (some (.t 29)),none⟩,
 ⟨some 31,.b2s (.t 30),none⟩,
 ⟨some 32,.mv false (.t 6),none⟩,
 ⟨some 33,.mv false (.t 5),none⟩,
 ⟨some 34,.bin .add (.t 32) (.t 33),none⟩,
 ⟨some 2,.mv true (.t 31),none⟩,
 ⟨some 3,.mv true (.t 34),none⟩,
 ⟨some 4,.mv true (.c (.int .i64 0)),none⟩]
abbrev zz20_c:ACode:=.seq (.reg false zz20_r0) (.seq (.reg false zz20_r1) (.seq (.seq (.reg false zz20_r2) (.cond (.t 15) (.seq (.reg false zz20_r3) (.ret)) (.skip))) (.seq (.seq (.reg false zz20_r4) (.cond (.t 18) (.seq (.reg false zz20_r5) (.ret)) (.skip))) (.seq (.seq (.reg false zz20_r6) (.cond (.t 24) (.seq (.reg false zz20_r7) (.ret)) (.skip))) (.seq (.reg false zz20_r8) (.ret))))))
def zz20_F:AFunc:=⟨35,[.tmp 2,.tmp 3,.tmp 4],zz20_c⟩
theorem zz20_cp:compile Tryz.prog [] f_zz20=some zz20_F:=by kernel_rfl
abbrev zz98_r0:List AI:=[
 ⟨some 2,.mv true (.c .nilS),none⟩]
abbrev zz98_r1:List AI:=[
 ⟨some 3,.mv false (.t 0),none⟩,
 ⟨some 4,.call (.c (.fn f_zz82)) [(.t 3),(.c (.fn f_zz101))] 0,none⟩,
 ⟨some 2,.mv true (.t 4),none⟩]
abbrev zz98_c:ACode:=.seq (.reg false zz98_r0) (.seq (.reg false zz98_r1) (.ret))
def zz98_F:AFunc:=⟨5,[.tmp 2],zz98_c⟩
theorem zz98_cp:compile Tryz.prog [] f_zz98=some zz98_F:=by kernel_rfl
abbrev zz97_r0:List AI:=[
 ⟨some 2,.mv true (.c .nilS),none⟩]
abbrev zz97_r1:List AI:=[
 ⟨some 3,.mv false (.t 0),none⟩,
 ⟨some 4,.len true (.t 3),none⟩,
 ⟨some 5,.call (.c (.fn f_zz101)) [(.t 4)] 0,none⟩,
 ⟨some 6,.mv false (.t 0),none⟩,
 ⟨some 7,.appG 1 1 [(.int .u8 0)] (.t 5) (.t 6),none⟩,
 ⟨some 2,.mv true (.t 7),none⟩]
abbrev zz97_c:ACode:=.seq (.reg false zz97_r0) (.seq (.reg false zz97_r1) (.ret))
def zz97_F:AFunc:=⟨8,[.tmp 2],zz97_c⟩
theorem zz97_cp:compile Tryz.prog [7] f_zz97=some zz97_F:=by kernel_rfl
-- loop 0: [0, 3, 4]
abbrev zz39_r0:List AI:=[
 ⟨some 2,.mv true (.c .nilS),none⟩]
abbrev zz39_r1:List AI:=[
 ⟨some 5,.mv false (.t 0),none⟩,
 ⟨some 6,.len false (.t 5),none⟩,
 ⟨some 7,.call (.c (.fn f_zz51)) [(.t 6)] 0,none⟩,
 ⟨some 3,.mv true (.t 7),none⟩]
abbrev zz39_r2:List AI:=[
 ⟨some 4,.mv true (.c (.int .i64 0)),none⟩]
abbrev zz39_r3:List AI:=[
 ⟨some 8,.mv false (.t 4),none⟩,
 ⟨some 9,.mv false (.t 0),none⟩,
 ⟨some 10,.len false (.t 9),none⟩,
 ⟨some 11,.bin .lss (.t 8) (.t 10),none⟩]
abbrev zz39_r4:List AI:=[
 ⟨some 14,.mv true (.t 3),none⟩,
 ⟨some 15,.mv false (.t 0),none⟩,
 ⟨some 16,.mv false (.t 4),none⟩,
 ⟨some 17,.iaddr 1 (.t 15) (.t 16),none⟩,
 ⟨some 18,.load false 1 (.t 17) .any,none⟩,
 ⟨some 19,.call (.c (.fn f_zz51)) [(.t 18)] 0,none⟩,
 ⟨some 20,.appG 1 1 [(.int .u8 0)] (.t 14) (.t 19),none⟩,
 ⟨some 3,.mv true (.t 20),none⟩]
abbrev zz39_r5:List AI:=[
 ⟨some 12,.mv false (.t 4),none⟩,
 ⟨some 13,.bin .add (.t 12) (.c (.int .i64 1)),none⟩,
 ⟨some 4,.mv true (.t 13),none⟩]
abbrev zz39_l0:ACode:=.seq (.seq (.reg false zz39_r3) (.cond (.t 11) (.skip) (.exit 0))) (.seq (.block 1 (.reg false zz39_r4)) (.reg false zz39_r5))
abbrev zz39_r6:List AI:=[
 ⟨some 21,.mv false (.t 3),none⟩,
 ⟨some 2,.mv true (.t 21),none⟩]
abbrev zz39_c:ACode:=.seq (.reg false zz39_r0) (.seq (.reg false zz39_r1) (.seq (.seq (.reg false zz39_r2) (.block 0 (.loop zz39_l0))) (.seq (.reg false zz39_r6) (.ret))))
def zz39_F:AFunc:=⟨22,[.tmp 2],zz39_c⟩
theorem zz39_cp:compile Tryz.prog [20] f_zz39=some zz39_F:=by kernel_rfl
abbrev zz33_r0:List AI:=[
 ⟨some 2,.mv true (.c .nilS),none⟩]
abbrev zz33_r1:List AI:=[
 ⟨some 3,.mv false (.t 0),none⟩,
 ⟨some 4,.len true (.t 3),none⟩,
 ⟨some 5,.call (.c (.fn f_zz51)) [(.t 4)] 0,none⟩,
 ⟨some 6,.mv false (.t 0),none⟩,
 ⟨some 7,.appG 1 1 [(.int .u8 0)] (.t 5) (.t 6),none⟩,
 ⟨some 2,.mv true (.t 7),none⟩]
abbrev zz33_c:ACode:=.seq (.reg false zz33_r0) (.seq (.reg false zz33_r1) (.ret))
def zz33_F:AFunc:=⟨8,[.tmp 2],zz33_c⟩
theorem zz33_cp:compile Tryz.prog [7] f_zz33=some zz33_F:=by kernel_rfl
-- loop 0: [0, 2, 10, 12, 26, 27]
abbrev zz91_r0:List AI:=[
 ⟨some 6,.mv true (.c .nilS),none⟩,
 ⟨some 7,.mv true (.c (.int .i64 0)),none⟩,
 ⟨some 8,.mv true (.c (.int .i64 0)),none⟩]
abbrev zz91_r1:List AI:=[
 ⟨some 17,.mv false (.t 0),none⟩,
 ⟨some 18,.mv false (.t 1),none⟩,
 ⟨some 19,.call (.c (.fn f_zz94)) [(.t 17),(.t 18)] 0,none⟩,
 ⟨some 16,.mv false (.t 19),none⟩,
 ⟨some 20,.ext (.t 16) 0,none⟩,
 ⟨some 21,.ext (.t 16) 1,none⟩,
 ⟨some 22,.ext (.t 16) 2,none⟩,
 ⟨some 9,.mv true (.t 20),none⟩,
 ⟨some 10,.mv true (.t 21),none⟩,
 ⟨some 11,.mv true (.t 22),none⟩]
abbrev zz91_r2:List AI:=[
 ⟨some 23,.mv false (.t 11),none⟩,
 ⟨some 24,.bin .neq (.t 23) (.c (.int .i64 0)),none⟩]
abbrev zz91_r3:List AI:=[
 ⟨some 25,.mv false (.t 11),none⟩,
 ⟨some 6,.mv true (.c .nilS),none⟩,
 ⟨some 7,.mv true (.c (.int .i64 0)),none⟩,
 ⟨some 8,.mv true (.t 25),none⟩]
abbrev zz91_r4:List AI:=[
 ⟨some 12,.mv true (.c .nilS),none⟩]
abbrev zz91_r5:List AI:=[
 ⟨some 26,.mv false (.t 9),none⟩,
 ⟨some 27,.mv false (.c (.int .i64 0)),none⟩]
abbrev zz91_r6:List AI:=[
 ⟨some 28,.bin .lss (.t 27) (.t 26),none⟩]
abbrev zz91_r7:List AI:=[
 ⟨some 30,.mv false (.t 2),none⟩,
 ⟨some 31,.mv false (.t 0),none⟩,
 ⟨some 32,.mv false (.t 10),none⟩,
 ⟨some 33,.sl 1 (.t 31) (some (.t 32)) none,none⟩,
 ⟨some 34,.call (.t 30) [(.t 33)] 0,none⟩,
 ⟨some 29,.mv false (.t 34),none⟩,
 ⟨some 35,.ext (.t 29) 0,none⟩,
 ⟨some 36,.ext (.t 29) 1,none⟩,
 ⟨some 37,.ext (.t 29) 2,none⟩,
 ⟨some 13,.mv true (.t 35),none⟩,
 ⟨some 14,.mv true (.t 36),none⟩,
 ⟨some 15,.mv true (.t 37),none⟩]
abbrev zz91_r8:List AI:=[
 ⟨some 38,.mv false (.t 15),none⟩,
 ⟨some 39,.bin .neq (.t 38) (.c (.int .i64 0)),none⟩]
abbrev zz91_r9:List AI:=[
 ⟨some 40,.mv false (.t 15),none⟩,
 ⟨some 6,.mv true (.c .nilS),none⟩,
 ⟨some 7,.mv true (.c (.int .i64 0)),none⟩,
 ⟨some 8,.mv true (.t 40),none⟩]
abbrev zz91_r10:List AI:=[
 ⟨some 41,.mv true (.t 12),none⟩,
 ⟨some 42,.mv false (.t 13),none⟩,
 ⟨some 43,.mkslice 1 1 (.int .i64 0) [(0,(.t 42))],none⟩,
 ⟨some 44,.append 1 8 (.t 41) (.t 43),none⟩,
 ⟨some 45,.mv false (.t 10),none⟩,
 ⟨some 46,.mv false (.t 14),none⟩,
 ⟨some 47,.bin .add (.t 45) (.t 46),none⟩,
 ⟨some 12,.mv true (.t 44),none⟩,
 ⟨some 10,.mv true (.t 47),none⟩]
abbrev zz91_r11:List AI:=[
 ⟨some 48,.bin .add (.t 27) (.c (.int .i64 1)),none⟩,
 ⟨some 27,.mv false (.t 48),none⟩]
abbrev zz91_l0:ACode:=.seq (.reg false zz91_r6) (.seq (.cond (.t 28) (.skip) (.exit 0)) (.seq (.block 1 (.seq (.reg false zz91_r7) (.seq (.seq (.reg false zz91_r8) (.cond (.t 39) (.seq (.reg false zz91_r9) (.ret)) (.skip))) (.reg false zz91_r10)))) (.reg false zz91_r11)))
abbrev zz91_r12:List AI:=[
 ⟨some 49,.mv false (.t 12),none⟩,
 ⟨some 50,.mv false (.t 10),none⟩,
 ⟨some 6,.mv true (.t 49),none⟩,
 ⟨some 7,.mv true (.t 50),none⟩,
 ⟨some 8,.mv true (.c (.int .i64 0)),none⟩]
abbrev zz91_c:ACode:=.seq (.reg false zz91_r0) (.seq (.reg false zz91_r1) (.seq (.seq (.reg false zz91_r2) (.cond (.t 24) (.seq (.reg false zz91_r3) (.ret)) (.skip))) (.seq (.reg false zz91_r4) (.seq (.seq (.reg false zz91_r5) (.block 0 (.loop zz91_l0))) (.seq (.reg false zz91_r12) (.ret))))))
def zz91_F:AFunc:=⟨51,[.tmp 6,.tmp 7,.tmp 8],zz91_c⟩
theorem zz91_cp:compile Tryz.prog [] f_zz91=some zz91_F:=by kernel_rfl
-- loop 0: [5, 6, 9, 10, 11]
abbrev zz93_r0:List AI:=[
 ⟨some 2,.mv true (.c (.int .i64 0)),none⟩,
 ⟨some 3,.mv true (.c (.int .i64 0)),none⟩,
 ⟨some 4,.mv true (.c (.int .i64 0)),none⟩]
abbrev zz93_r1:List AI:=[
 ⟨some 5,.mv true (.c (.int .u64 0)),none⟩]
abbrev zz93_r2:List AI:=[
 ⟨some 6,.mv true (.c (.int .i64 0)),none⟩]
abbrev zz93_r3:List AI:=[
 ⟨some 9,.mv false (.t 0),none⟩,
 ⟨some 10,.len false (.t 9),none⟩,
 ⟨some 11,.mv false (.c (.int .i64 0)),none⟩]
abbrev zz93_r4:List AI:=[
 ⟨some 12,.bin .lss (.t 11) (.t 10),none⟩]
abbrev zz93_r5:List AI:=[
 ⟨some 13,.mv false (.t 11),none⟩,
 ⟨some 14,.iaddr 1 (.t 9) (.t 11),none⟩,
 ⟨some 15,.load false 1 (.t 14) .any,none⟩,
 ⟨some 7,.mv true (.t 13),none⟩,
 ⟨some 8,.mv true (.t 15),none⟩]
abbrev zz93_r6:List AI:=[
 ⟨some 25,.mv false (.t 7),none⟩,
 ⟨some 26,.bin .eql (.t 25) (.c (.int .i64 9)),none⟩,
 ⟨some 27,.mv false (.t 26),none⟩,
 ⟨some 28,.mv false (.t 8),some (27,true)⟩,
 ⟨some 29,.bin .gtr (.t 28) (.c (.int .u8 1)),some (27,true)⟩,
 ⟨some 30,.pick (.t 27) (.t 29) (.c (.bool false)),none⟩,
 ⟨some 24,.mv true (.t 30),none⟩]
abbrev zz93_r7:List AI:=[
 ⟨some 31,.mv false (.t 7),none⟩,
 ⟨some 32,.bin .gtr (.t 31) (.c (.int .i64 0)),none⟩,
 ⟨some 33,.mv false (.t 32),none⟩,
 ⟨some 34,.mv false (.t 8),some (33,true)⟩,
 ⟨some 35,.bin .eql (.t 34) (.c (.int .u8 0)),some (33,true)⟩,
 ⟨some 36,.pick (.t 33) (.t 35) (.c (.bool false)),none⟩,
 ⟨some 24,.mv true (.t 36),none⟩]
abbrev zz93_r8:List AI:=[
 ⟨some 2,.mv true (.c (.int .i64 0)),none⟩,
 ⟨some 3,.mv true (.c (.int .i64 0)),none⟩,
 ⟨some 4,.mv true (.c (.int .i64 11)),none⟩]
abbrev zz93_r9:List AI:=[
 ⟨some 16,.mv false (.t 5),none⟩,
 ⟨some 17,.mv false (.t 8),none⟩,
 ⟨some 18,.bin .and (.t 17) (.c (.int .u8 127)),none⟩,
 ⟨some 19,.conv .u64 (.t 18),none⟩,
 ⟨some 20,.mv false (.t 7),none⟩,
 ⟨some 21,.bin .mul (.c (.int .i64 7)) (.t 20),none⟩,
 ⟨some 22,.bin .shl (.t 19) (.t 21),none⟩,
 ⟨some 23,.bin .or (.t 16) (.t 22),none⟩,
 ⟨some 5,.mv true (.t 23),none⟩]
abbrev zz93_r10:List AI:=[
 ⟨some 37,.mv false (.t 8),none⟩,
 ⟨some 38,.bin .lss (.t 37) (.c (.int .u8 128)),none⟩]
abbrev zz93_r11:List AI:=[
 ⟨some 39,.mv false (.t 7),none⟩,
 ⟨some 40,.bin .add (.t 39) (.c (.int .i64 1)),none⟩,
 ⟨some 6,.mv true (.t 40),none⟩]
abbrev zz93_r12:List AI:=[
 ⟨some 41,.bin .add (.t 11) (.c (.int .i64 1)),none⟩,
 ⟨some 11,.mv false (.t 41),none⟩]
abbrev zz93_l0:ACode:=.seq (.reg false zz93_r4) (.seq (.cond (.t 12) (.skip) (.exit 0)) (.seq (.block 1 (.seq (.reg false zz93_r5) (.seq (.block 2 (.seq (.seq (.reg false zz93_r6) (.cond (.t 24) (.skip) (.reg false zz93_r7))) (.cond (.t 24) (.seq (.reg false zz93_r8) (.ret)) (.reg false zz93_r9)))) (.seq (.reg false zz93_r10) (.cond (.t 38) (.seq (.reg false zz93_r11) (.exit 0)) (.skip)))))) (.reg false zz93_r12)))
abbrev zz93_r13:List AI:=[
 ⟨some 42,.mv false (.t 6),none⟩,
 ⟨some 43,.bin .eql (.t 42) (.c (.int .i64 0)),none⟩]
abbrev zz93_r14:List AI:=[
 ⟨some 2,.mv true (.c (.int .i64 0)),none⟩,
 ⟨some 3,.mv true (.c (.int .i64 0)),none⟩,
 ⟨some 4,.mv true (.c (.int .i64 10)),none⟩]
abbrev zz93_r15:List AI:=[
 ⟨some 44,.mv false (.t 5),none⟩,
 ⟨some 45,.bin .shr (.t 44) (.c (.int .u64 1)),none⟩,
 ⟨some 46,.conv .i64 (.t 45),none⟩,
 ⟨some 47,.mv false (.t 5),none⟩,
 ⟨some 48,.bin .and (.t 47) (.c (.int .u64 1)),none⟩,
 ⟨some 49,.conv .i64 (.t 48),none⟩,
 ⟨some 50,.neg (.t 49),none⟩,
 ⟨some 51,.bin .xor (.t 46) (.t 50),none⟩,
 ⟨some 52,.mv false (.t 6),none⟩,
 ⟨some 2,.mv true (.t 51),none⟩,
 ⟨some 3,.mv true (.t 52),none⟩,
 ⟨some 4,.mv true (.c (.int .i64 0)),none⟩]
abbrev zz93_c:ACode:=.seq (.reg false zz93_r0) (.scope (.seq (.reg false zz93_r1) (.seq (.reg false zz93_r2) (.seq (.skip) (.seq (.seq (.reg false zz93_r3) (.block 0 (.loop zz93_l0))) (.seq (.seq (.reg false zz93_r13) (.cond (.t 43) (.seq (.reg false zz93_r14) (.ret)) (.skip))) (.seq (.reg false zz93_r15) (.ret))))))))
def zz93_F:AFunc:=⟨53,[.tmp 2,.tmp 3,.tmp 4],zz93_c⟩
theorem zz93_cp:compile Tryz.prog [] f_zz93=some zz93_F:=by kernel_rfl
abbrev zz94_r0:List AI:=[
 ⟨some 4,.mv true (.c (.int .i64 0)),none⟩,
 ⟨some 5,.mv true (.c (.int .i64 0)),none⟩,
 ⟨some 6,.mv true (.c (.int .i64 0)),none⟩]
abbrev zz94_r1:List AI:=[
 ⟨some 11,.mv false (.t 0),none⟩,
 ⟨some 12,.call (.c (.fn f_zz93)) [(.t 11)] 0,none⟩,
 ⟨some 10,.mv false (.t 12),none⟩,
 ⟨some 13,.ext (.t 10) 0,none⟩,
 ⟨some 14,.ext (.t 10) 1,none⟩,
 ⟨some 15,.ext (.t 10) 2,none⟩,
 ⟨some 7,.mv true (.t 13),none⟩,
 ⟨some 8,.mv true (.t 14),none⟩,
 ⟨some 9,.mv true (.t 15),none⟩]
abbrev zz94_r2:List AI:=[
 ⟨some 17,.mv false (.t 9),none⟩,
 ⟨some 18,.bin .neq (.t 17) (.c (.int .i64 0)),none⟩,
 ⟨some 16,.mv true (.t 18),none⟩]
abbrev zz94_r3:List AI:=[
 ⟨some 19,.mv false (.t 9),none⟩,
 ⟨some 4,.mv true (.c (.int .i64 0)),none⟩,
 ⟨some 5,.mv true (.c (.int .i64 0)),none⟩,
 ⟨some 6,.mv true (.t 19),none⟩]
abbrev zz94_r4:List AI:=[
 ⟨some 21,.mv false (.t 7),none⟩,
 ⟨some 22,.bin .lss (.t 21) (.c (.int .i64 0)),none⟩,
 ⟨some 20,.mv true (.t 22),none⟩]
abbrev zz94_r5:List AI:=[
 ⟨some 4,.mv true (.c (.int .i64 0)),none⟩,
 ⟨some 5,.mv true (.c (.int .i64 0)),none⟩,
 ⟨some 6,.mv true (.c (.int .i64 11)),none⟩]
abbrev zz94_r6:List AI:=[
 ⟨some 24,.mv false (.t 7),none⟩,
 ⟨some 25,.mv false (.t 0),none⟩,
 ⟨some 26,.len false (.t 25),none⟩,
 ⟨some 27,.mv false (.t 8),none⟩,
 ⟨some 28,.bin .sub (.t 26) (.t 27),none⟩,
 ⟨some 29,.mv false (.t 1),none⟩,
 ⟨some 30,.bin .quo (.t 28) (.t 29),none⟩,
 ⟨some 31,.bin .gtr (.t 24) (.t 30),none⟩,
 ⟨some 23,.mv true (.t 31),none⟩]
abbrev zz94_r7:List AI:=[
 ⟨some 4,.mv true (.c (.int .i64 0)),none⟩,
 ⟨some 5,.mv true (.c (.int .i64 0)),none⟩,
 ⟨some 6,.mv true (.c (.int .i64 10)),none⟩]
abbrev zz94_b0:ACode:=.seq (.reg false zz94_r6) (.cond (.t 23) (.seq (.reg false zz94_r7) (.ret)) (.skip))
abbrev zz94_b1:ACode:=.seq (.reg false zz94_r4) (.cond (.t 20) (.seq (.reg false zz94_r5) (.ret)) (zz94_b0))
abbrev zz94_r8:List AI:=[
 ⟨some 32,.mv false (.t 7),none⟩,
 ⟨some 33,.mv false (.t 8),none⟩,
 ⟨some 4,.mv true (.t 32),none⟩,
 ⟨some 5,.mv true (.t 33),none⟩,
 ⟨some 6,.mv true (.c (.int .i64 0)),none⟩]
abbrev zz94_c:ACode:=.seq (.reg false zz94_r0) (.seq (.reg false zz94_r1) (.seq (.block 0 (.seq (.reg false zz94_r2) (.cond (.t 16) (.seq (.reg false zz94_r3) (.ret)) (zz94_b1)))) (.seq (.reg false zz94_r8) (.ret))))
def zz94_F:AFunc:=⟨34,[.tmp 4,.tmp 5,.tmp 6],zz94_c⟩
theorem zz94_cp:compile Tryz.prog [] f_zz94=some zz94_F:=by kernel_rfl
abbrev zz24_r0:List AI:=[
 ⟨some 4,.mv true (.c (.int .i64 0)),none⟩,
 ⟨some 5,.mv true (.c (.int .i64 0)),none⟩,
 ⟨some 6,.mv true (.c (.int .i64 0)),none⟩]
abbrev zz24_r1:List AI:=[
 ⟨some 11,.mv false (.t 0),none⟩,
 ⟨some 12,.call (.c (.fn f_zz23)) [(.t 11)] 0,none⟩,
 ⟨some 10,.mv false (.t 12),none⟩,
 ⟨some 13,.ext (.t 10) 0,none⟩,
 ⟨some 14,.ext (.t 10) 1,none⟩,
 ⟨some 15,.ext (.t 10) 2,none⟩,
 ⟨some 7,.mv true (.t 13),none⟩,
 ⟨some 8,.mv true (.t 14),none⟩,
 ⟨some 9,.mv true (.t 15),none⟩]
abbrev zz24_r2:List AI:=[
 ⟨some 16,.mv false (.t 9),none⟩,
 ⟨some 17,.bin .neq (.t 16) (.c (.int .i64 0)),none⟩]
abbrev zz24_r3:List AI:=[
 ⟨some 18,.mv false (.t 9),none⟩,
 ⟨some 4,.mv true (.c (.int .i64 0)),none⟩,
 ⟨some 5,.mv true (.c (.int .i64 0)),none⟩,
 ⟨some 6,.mv true (.t 18),none⟩]
abbrev zz24_r4:List AI:=[
 ⟨some 19,.mv false (.t 7),none⟩,
 ⟨some 20,.bin .lss (.t 19) (.c (.int .i64 0)),none⟩]
abbrev zz24_r5:List AI:=[
 ⟨some 4,.mv true (.c (.int .i64 0)),none⟩,
 ⟨some 5,.mv true (.c (.int .i64 0)),none⟩,
 ⟨some 6,.mv true (.c (.int .i64 11)),none⟩]
abbrev zz24_r6:List AI:=[
 ⟨some 21,.mv false (.t 7),none⟩,
 ⟨some 22,.mv false (.t 0),none⟩,
 ⟨some 23,.len false (.t 22),none⟩,
 ⟨some 24,.mv false (.t 8),none⟩,
 ⟨some 25,.bin .sub (.t 23) (.t 24),none⟩,
 ⟨some 26,.mv false (.t 1),none⟩,
 ⟨some 27,.bin .quo (.t 25) (.t 26),none⟩,
 ⟨some 28,.bin .gtr (.t 21) (.t 27),none⟩]
abbrev zz24_r7:List AI:=[
 ⟨some 4,.mv true (.c (.int .i64 0)),none⟩,
 ⟨some 5,.mv true (.c (.int .i64 0)),none⟩,
 ⟨some 6,.mv true (.c (.int .i64 10)),none⟩]
abbrev zz24_r8:List AI:=[
 ⟨some 29,.mv false (.t 7),none⟩,
 ⟨some 30,.mv false (.t 8),none⟩,
 ⟨some 4,.mv true (.t 29),none⟩,
 ⟨some 5,.mv true (.t 30),none⟩,
 ⟨some 6,.mv true (.c (.int .i64 0)),none⟩]
abbrev zz24_c:ACode:=.seq (.reg false zz24_r0) (.seq (.reg false zz24_r1) (.seq (.seq (.reg false zz24_r2) (.cond (.t 17) (.seq (.reg false zz24_r3) (.ret)) (.skip))) (.seq (.seq (.reg false zz24_r4) (.cond (.t 20) (.seq (.reg false zz24_r5) (.ret)) (.skip))) (.seq (.seq (.reg false zz24_r6) (.cond (.t 28) (.seq (.reg false zz24_r7) (.ret)) (.skip))) (.seq (.reg false zz24_r8) (.ret))))))
def zz24_F:AFunc:=⟨31,[.tmp 4,.tmp 5,.tmp 6],zz24_c⟩
theorem zz24_cp:compile Tryz.prog [] f_zz24=some zz24_F:=by kernel_rfl
-- loop 0: [0, 5]
-- loop 1: [0, 5, 6, 7]
abbrev zz23_r0:List AI:=[
 ⟨some 2,.mv true (.c (.int .i64 0)),none⟩,
 ⟨some 3,.mv true (.c (.int .i64 0)),none⟩,
 ⟨some 4,.mv true (.c (.int .i64 0)),none⟩]
abbrev zz23_r1:List AI:=[
 ⟨some 5,.mv true (.c (.int .i64 0)),none⟩]
abbrev zz23_r2:List AI:=[
 ⟨some 8,.mv false (.t 5),none⟩,
 ⟨some 9,.mv false (.t 0),none⟩,
 ⟨some 10,.len false (.t 9),none⟩,
 ⟨some 11,.bin .lss (.t 8) (.t 10),none⟩,
 ⟨some 12,.mv false (.t 11),none⟩,
 ⟨some 13,.mv false (.t 5),some (12,true)⟩,
 ⟨some 14,.bin .lss (.t 13) (.c (.int .i64 10)),some (12,true)⟩,
 ⟨some 15,.pick (.t 12) (.t 14) (.c (.bool false)),none⟩,
 ⟨some 16,.mv false (.t 15),none⟩,
 ⟨some 17,.mv false (.t 0),some (16,true)⟩,
 ⟨some 18,.mv false (.t 5),some (16,true)⟩,
 ⟨some 19,.iaddr 1 (.t 17) (.t 18),some (16,true)⟩,
 ⟨some 20,.load false 1 (.t 19) .any,some (16,true)⟩,
 ⟨some 21,.bin .geq (.t 20) (.c (.int .u8 128)),some (16,true)⟩,
 ⟨some 22,.pick (.t 16) (.t 21) (.c (.bool false)),none⟩]
abbrev zz23_r3:List AI:=[
 ⟨some 23,.mv false (.t 5),none⟩,
 ⟨some 24,.bin .add (.t 23) (.c (.int .i64 1)),none⟩,
 ⟨some 5,.mv true (.t 24),none⟩]
abbrev zz23_l0:ACode:=.seq (.seq (.reg false zz23_r2) (.cond (.t 22) (.skip) (.exit 0))) (.block 1 (.reg false zz23_r3))
abbrev zz23_r4:List AI:=[
 ⟨some 25,.mv false (.t 5),none⟩,
 ⟨some 26,.bin .eql (.t 25) (.c (.int .i64 10)),none⟩]
abbrev zz23_r5:List AI:=[
 ⟨some 2,.mv true (.c (.int .i64 0)),none⟩,
 ⟨some 3,.mv true (.c (.int .i64 0)),none⟩,
 ⟨some 4,.mv true (.c (.int .i64 11)),none⟩]
abbrev zz23_r6:List AI:=[
 ⟨some 27,.mv false (.t 5),none⟩,
 ⟨some 28,.mv false (.t 0),none⟩,
 ⟨some 29,.len false (.t 28),none⟩,
 ⟨some 30,.bin .eql (.t 27) (.t 29),none⟩]
abbrev zz23_r7:List AI:=[
 ⟨some 2,.mv true (.c (.int .i64 0)),none⟩,
 ⟨some 3,.mv true (.c (.int .i64 0)),none⟩,
 ⟨some 4,.mv true (.c (.int .i64 10)),none⟩]
abbrev zz23_r8:List AI:=[
 ⟨some 31,.mv false (.t 5),none⟩,
 ⟨some 32,.bin .eql (.t 31) (.c (.int .i64 9)),none⟩,
 ⟨some 33,.mv false (.t 32),none⟩,
 ⟨some 34,.mv false (.t 0),some (33,true)⟩,
 ⟨some 35,.mv false (.t 5),some (33,true)⟩,
 ⟨some 36,.iaddr 1 (.t 34) (.t 35),some (33,true)⟩,
 ⟨some 37,.load false 1 (.t 36) .any,some (33,true)⟩,
 ⟨some 38,.bin .gtr (.t 37) (.c (.int .u8 1)),some (33,true)⟩,
 ⟨some 39,.pick (.t 33) (.t 38) (.c (.bool false)),none⟩,
 ⟨some 40,.mv false (.t 39),none⟩,
 ⟨some 41,.mv false (.t 5),some (40,false)⟩,
 ⟨some 42,.bin .gtr (.t 41) (.c (.int .i64 0)),some (40,false)⟩,
 ⟨some 43,.mv false (.t 42),some (40,false)⟩,
 ⟨some 44,.mv false (.t 0),some (43,true)⟩,
 ⟨some 45,.mv false (.t 5),some (43,true)⟩,
 ⟨some 46,.iaddr 1 (.t 44) (.t 45),some (43,true)⟩,
 ⟨some 47,.load false 1 (.t 46) .any,some (43,true)⟩,
 ⟨some 48,.bin .eql (.t 47) (.c (.int .u8 0)),some (43,true)⟩,
 ⟨some 49,.pick (.t 43) (.t 48) (.c (.bool false)),some (40,false)⟩,
 ⟨some 50,.pick (.t 40) (.c (.bool true)) (.t 49),none⟩]
abbrev zz23_r9:List AI:=[
 ⟨some 2,.mv true (.c (.int .i64 0)),none⟩,
 ⟨some 3,.mv true (.c (.int .i64 0)),none⟩,
 ⟨some 4,.mv true (.c (.int .i64 11)),none⟩]
abbrev zz23_r10:List AI:=[
 ⟨some 6,.mv true (.c (.int .u64 0)),none⟩]
abbrev zz23_r11:List AI:=[
 ⟨some 51,.mv false (.t 5),none⟩,
 ⟨some 7,.mv true (.t 51),none⟩]
abbrev zz23_r12:List AI:=[
 ⟨some 52,.mv false (.t 7),none⟩,
 ⟨some 53,.bin .geq (.t 52) (.c (.int .i64 0)),none⟩]
abbrev zz23_r13:List AI:=[
 ⟨some 56,.mv false (.t 6),none⟩,
 ⟨some 57,.bin .mul (.t 56) (.c (.int .u64 128)),none⟩,
 ⟨some 58,.mv false (.t 0),none⟩,
 ⟨some 59,.mv false (.t 7),none⟩,
 ⟨some 60,.iaddr 1 (.t 58) (.t 59),none⟩,
 ⟨some 61,.load false 1 (.t 60) .any,none⟩,
 ⟨some 62,.bin .rem (.t 61) (.c (.int .u8 128)),none⟩,
 ⟨some 63,.conv .u64 (.t 62),none⟩,
 ⟨some 64,.bin .add (.t 57) (.t 63),none⟩,
 ⟨some 6,.mv true (.t 64),none⟩]
abbrev zz23_r14:List AI:=[
 ⟨some 54,.mv false (.t 7),none⟩,
 ⟨some 55,.bin .sub (.t 54) (.c (.int .i64 1)),none⟩,
 ⟨some 7,.mv true (.t 55),none⟩]
abbrev zz23_l1:ACode:=.seq (.seq (.reg false zz23_r12) (.cond (.t 53) (.skip) (.exit 2))) (.seq (.block 3 (.reg false zz23_r13)) (.reg false zz23_r14))
abbrev zz23_r15:List AI:=[
 ⟨some 65,.mv false (.t 6),none⟩,
 ⟨some 66,.bin .rem (.t 65) (.c (.int .u64 2)),none⟩,
 ⟨some 67,.bin .eql (.t 66) (.c (.int .u64 1)),none⟩]
abbrev zz23_r16:List AI:=[
 ⟨some 68,.mv false (.t 6),none⟩,
 ⟨some 69,.bin .quo (.t 68) (.c (.int .u64 2)),none⟩,
 ⟨some 70,.conv .i64 (.t 69),none⟩,
 ⟨some 71,.bin .sub (.c (.int .i64 (-1))) (.t 70),none⟩,
 ⟨some 72,.mv false (.t 5),none⟩,
 ⟨some 73,.bin .add (.t 72) (.c (.int .i64 1)),none⟩,
 ⟨some 2,.mv true (.t 71),none⟩,
 ⟨some 3,.mv true (.t 73),none⟩,
 ⟨some 4,.mv true (.c (.int .i64 0)),none⟩]
abbrev zz23_r17:List AI:=[
 ⟨some 74,.mv false (.t 6),none⟩,
 ⟨some 75,.bin .quo (.t 74) (.c (.int .u64 2)),none⟩,
 ⟨some 76,.conv .i64 (.t 75),none⟩,
 ⟨some 77,.mv false (.t 5),none⟩,
 ⟨some 78,.bin .add (.t 77) (.c (.int .i64 1)),none⟩,
 ⟨some 2,.mv true (.t 76),none⟩,
 ⟨some 3,.mv true (.t 78),none⟩,
 ⟨some 4,.mv true (.c (.int .i64 0)),none⟩]
abbrev zz23_c:ACode:=.seq (.reg false zz23_r0) (.seq (.reg false zz23_r1) (.seq (.block 0 (.loop zz23_l0)) (.seq (.seq (.reg false zz23_r4) (.cond (.t 26) (.seq (.reg false zz23_r5) (.ret)) (.skip))) (.seq (.seq (.reg false zz23_r6) (.cond (.t 30) (.seq (.reg false zz23_r7) (.ret)) (.skip))) (.seq (.seq (.reg false zz23_r8) (.cond (.t 50) (.seq (.reg false zz23_r9) (.ret)) (.skip))) (.seq (.reg false zz23_r10) (.seq (.seq (.reg false zz23_r11) (.block 2 (.loop zz23_l1))) (.seq (.seq (.reg false zz23_r15) (.cond (.t 67) (.seq (.reg false zz23_r16) (.ret)) (.skip))) (.seq (.reg false zz23_r17) (.ret))))))))))
def zz23_F:AFunc:=⟨79,[.tmp 2,.tmp 3,.tmp 4],zz23_c⟩
theorem zz23_cp:compile Tryz.prog [] f_zz23=some zz23_F:=by kernel_rfl
-- loop 0: [1, 5, 11, 12, 13]
abbrev zz82_r0:List AI:=[
 ⟨some 4,.mv true (.c .nilS),none⟩]
abbrev zz82_r1:List AI:=[
 ⟨some 8,.mv false (.t 0),none⟩,
 ⟨some 9,.len false (.t 8),none⟩,
 ⟨some 10,.call (.c (.fn f_zz101)) [(.t 9)] 0,none⟩,
 ⟨some 5,.mv true (.t 10),none⟩]
abbrev zz82_r2:List AI:=[
 ⟨some 11,.mv false (.t 0),none⟩,
 ⟨some 12,.len false (.t 11),none⟩,
 ⟨some 13,.mv false (.c (.int .i64 0)),none⟩]
abbrev zz82_r3:List AI:=[
 ⟨some 14,.bin .lss (.t 13) (.t 12),none⟩]
abbrev zz82_r4:List AI:=[
 ⟨some 15,.iaddr 1 (.t 11) (.t 13),none⟩,
 ⟨some 16,.load false 1 (.t 15) .any,none⟩,
 ⟨some 7,.mv true (.t 16),none⟩]
abbrev zz82_r5:List AI:=[
 ⟨some 17,.mv true (.t 5),none⟩,
 ⟨some 18,.mv false (.t 1),none⟩,
 ⟨some 19,.mv false (.t 7),none⟩,
 ⟨some 20,.call (.t 18) [(.t 19)] 0,none⟩,
 ⟨some 21,.appG 1 1 [(.int .u8 0)] (.t 17) (.t 20),none⟩,
 ⟨some 5,.mv true (.t 21),none⟩]
abbrev zz82_r6:List AI:=[
 ⟨some 22,.bin .add (.t 13) (.c (.int .i64 1)),none⟩,
 ⟨some 13,.mv false (.t 22),none⟩]
abbrev zz82_l0:ACode:=.seq (.reg false zz82_r3) (.seq (.cond (.t 14) (.skip) (.exit 0)) (.seq (.block 1 (.seq (.reg false zz82_r4) (.reg false zz82_r5))) (.reg false zz82_r6)))
abbrev zz82_r7:List AI:=[
 ⟨some 23,.mv false (.t 5),none⟩,
 ⟨some 4,.mv true (.t 23),none⟩]
abbrev zz82_c:ACode:=.seq (.reg false zz82_r0) (.seq (.reg false zz82_r1) (.seq (.seq (.reg false zz82_r2) (.block 0 (.loop zz82_l0))) (.seq (.reg false zz82_r7) (.ret))))
def zz82_F:AFunc:=⟨24,[.tmp 4],zz82_c⟩
theorem zz82_cp:compile Tryz.prog [21] f_zz82=some zz82_F:=by kernel_rfl
-- loop 0: [3, 4]
abbrev zz101_r0:List AI:=[
 ⟨some 2,.mv true (.c .nilS),none⟩]
abbrev zz101_r1:List AI:=[
 ⟨some 5,.mv false (.t 0),none⟩,
 ⟨some 6,.conv .u64 (.t 5),none⟩,
 ⟨some 7,.bin .shl (.t 6) (.c (.int .u64 1)),none⟩,
 ⟨some 8,.mv false (.t 0),none⟩,
 ⟨some 9,.bin .shr (.t 8) (.c (.int .u64 63)),none⟩,
 ⟨some 10,.conv .u64 (.t 9),none⟩,
 ⟨some 11,.bin .xor (.t 7) (.t 10),none⟩,
 ⟨some 3,.mv true (.t 11),none⟩]
abbrev zz101_r2:List AI:=[
 ⟨some 4,.mv true (.c .nilS),none⟩]
abbrev zz101_r3:List AI:=[
 ⟨some 12,.mv false (.t 3),none⟩,
 ⟨some 13,.bin .gtr (.t 12) (.c (.int .u64 127)),none⟩]
abbrev zz101_r4:List AI:=[
 ⟨some 16,.mv true (.t 4),none⟩,
 ⟨some 17,.mv false (.t 3),none⟩,
 ⟨some 18,.conv .u8 (.t 17),none⟩,
 ⟨some 19,.bin .or (.t 18) (.c (.int .u8 128)),none⟩,
 ⟨some 20,.mkslice 1 1 (.int .u8 0) [(0,(.t 19))],none⟩,
 ⟨some 21,.appG 1 1 [(.int .u8 0)] (.t 16) (.t 20),none⟩,
 ⟨some 4,.mv true (.t 21),none⟩]
abbrev zz101_r5:List AI:=[
 ⟨some 14,.mv false (.t 3),none⟩,
 ⟨some 15,.bin .shr (.t 14) (.c (.int .u64 7)),none⟩,
 ⟨some 3,.mv true (.t 15),none⟩]
abbrev zz101_l0:ACode:=.seq (.seq (.reg false zz101_r3) (.cond (.t 13) (.skip) (.exit 0))) (.seq (.block 1 (.reg false zz101_r4)) (.reg false zz101_r5))
abbrev zz101_r6:List AI:=[
 ⟨some 22,.mv true (.t 4),none⟩,
 ⟨some 23,.mv false (.t 3),none⟩,
 ⟨some 24,.conv .u8 (.t 23),none⟩,
 ⟨some 25,.mkslice 1 1 (.int .u8 0) [(0,(.t 24))],none⟩,
 ⟨some 26,.appG 1 1 [(.int .u8 0)] (.t 22) (.t 25),none⟩,
 ⟨some 2,.mv true (.t 26),none⟩]
abbrev zz101_c:ACode:=.seq (.reg false zz101_r0) (.seq (.reg false zz101_r1) (.seq (.reg false zz101_r2) (.seq (.block 0 (.loop zz101_l0)) (.seq (.reg false zz101_r6) (.ret)))))
def zz101_F:AFunc:=⟨27,[.tmp 2],zz101_c⟩
theorem zz101_cp:compile Tryz.prog [21,26] f_zz101=some zz101_F:=by kernel_rfl
-- loop 0: [3, 4]
abbrev zz51_r0:List AI:=[
 ⟨some 2,.mv true (.c .nilS),none⟩]
abbrev zz51_r1:List AI:=[
 ⟨some 5,.mv false (.t 0),none⟩,
 ⟨some 6,.conv .u64 (.t 5),none⟩,
 ⟨some 7,.bin .mul (.t 6) (.c (.int .u64 2)),none⟩,
 ⟨some 3,.mv true (.t 7),none⟩]
abbrev zz51_r2:List AI:=[
 ⟨some 8,.mv false (.t 0),none⟩,
 ⟨some 9,.bin .lss (.t 8) (.c (.int .i64 0)),none⟩]
abbrev zz51_r3:List AI:=[
 ⟨some 10,.mv false (.t 0),none⟩,
 ⟨some 11,.bin .sub (.c (.int .i64 (-1))) (.t 10),none⟩,
 ⟨some 12,.conv .u64 (.t 11),none⟩,
 ⟨some 13,.bin .mul (.t 12) (.c (.int .u64 2)),none⟩,
 ⟨some 14,.bin .add (.t 13) (.c (.int .u64 1)),none⟩,
 ⟨some 3,.mv true (.t 14),none⟩]
abbrev zz51_r4:List AI:=[
 ⟨some 4,.mv true (.c .nilS),none⟩]
abbrev zz51_r5:List AI:=[
 ⟨some 15,.mv false (.t 3),none⟩,
 ⟨some 16,.bin .geq (.t 15) (.c (.int .u64 128)),none⟩]
abbrev zz51_r6:List AI:=[
 ⟨some 17,.mv true (.t 4),none⟩,
 ⟨some 18,.mv false (.t 3),none⟩,
 ⟨some 19,.bin .rem (.t 18) (.c (.int .u64 128)),none⟩,
 ⟨some 20,.conv .u8 (.t 19),none⟩,
 ⟨some 21,.bin .add (.t 20) (.c (.int .u8 128)),none⟩,
 ⟨some 22,.mkslice 1 1 (.int .u8 0) [(0,(.t 21))],none⟩,
 ⟨some 23,.appG 1 1 [(.int .u8 0)] (.t 17) (.t 22),none⟩,
 ⟨some 4,.mv true (.t 23),none⟩]
abbrev zz51_r7:List AI:=[
 ⟨some 24,.mv false (.t 3),none⟩,
 ⟨some 25,.bin .quo (.t 24) (.c (.int .u64 128)),none⟩,
 ⟨some 3,.mv true (.t 25),none⟩]
abbrev zz51_l0:ACode:=.seq (.seq (.reg false zz51_r5) (.cond (.t 16) (.skip) (.exit 0))) (.block 1 (.seq (.reg false zz51_r6) (.reg false zz51_r7)))
abbrev zz51_r8:List AI:=[
 ⟨some 26,.mv true (.t 4),none⟩,
 ⟨some 27,.mv false (.t 3),none⟩,
 ⟨some 28,.conv .u8 (.t 27),none⟩,
 ⟨some 29,.mkslice 1 1 (.int .u8 0) [(0,(.t 28))],none⟩,
 ⟨some 30,.appG 1 1 [(.int .u8 0)] (.t 26) (.t 29),none⟩,
 ⟨some 2,.mv true (.t 30),none⟩]
abbrev zz51_c:ACode:=.seq (.reg false zz51_r0) (.seq (.reg false zz51_r1) (.seq (.seq (.reg false zz51_r2) (.cond (.t 9) (.reg false zz51_r3) (.skip))) (.seq (.reg false zz51_r4) (.seq (.block 0 (.loop zz51_l0)) (.seq (.reg false zz51_r8) (.ret))))))
def zz51_F:AFunc:=⟨31,[.tmp 2],zz51_c⟩
theorem zz51_cp:compile Tryz.prog [23,30] f_zz51=some zz51_F:=by kernel_rfl
theorem fol:Tryz.prog.follows .mixedOrders=true:=by kernel_rfl
end
end Go.Proofs.YtgoleoihpgmcbaaGreat
