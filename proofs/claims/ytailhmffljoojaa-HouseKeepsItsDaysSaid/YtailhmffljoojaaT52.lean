/-
 The functions' code in the evaluator's form,printed by a program of ours from the loaded program,and checked against it.
 Conditions: none.
-/
import Derived.Test.YtailhmffljoojaaProg
import Derived.KernelRfl
import Derived.Test.YtailhmffljoojaaEZ
namespace Go.Proofs.Ytailhmffljoojaa
open Go Go.E2
noncomputable section
abbrev f_zz10:FuncId:=3
abbrev f_zz17:FuncId:=5
abbrev f_zz18:FuncId:=6
abbrev f_zz13:FuncId:=7
abbrev f_zz47:FuncId:=8
abbrev f_zz62:FuncId:=12
abbrev f_zz51:FuncId:=13
abbrev f_zz58:FuncId:=14
abbrev f_zz22:FuncId:=15
abbrev f_zz25:FuncId:=16
abbrev f_zz24:FuncId:=17
abbrev f_zz11:FuncId:=18
abbrev f_zz59:FuncId:=19
abbrev f_zz36:FuncId:=20
abbrev f_zz35:FuncId:=21
abbrev f_zz26:FuncId:=22
abbrev f_zz28:FuncId:=23
abbrev f_zz20:FuncId:=24
abbrev f_zz48:FuncId:=25
abbrev f_zz54:FuncId:=33
abbrev f_zz60:FuncId:=34
abbrev f_zz39:FuncId:=35
abbrev f_zz52:FuncId:=36
abbrev f_zz27:FuncId:=37
abbrev f_zz31:FuncId:=38
abbrev f_zz16:FuncId:=39
abbrev f_zz21:FuncId:=40
abbrev f_zz56:FuncId:=41
abbrev f_zz40:FuncId:=42
abbrev f_zz53:FuncId:=43
abbrev f_zz29:FuncId:=44
abbrev f_zz30:FuncId:=48
abbrev f_zz44:FuncId:=51
abbrev f_zz33:FuncId:=52
abbrev f_zz57:FuncId:=53
abbrev f_zz45:FuncId:=54
abbrev f_zz42:FuncId:=55
abbrev f_zz41:FuncId:=56
abbrev f_zz15:FuncId:=58
abbrev f_zz19:FuncId:=59
abbrev f_zz4:FuncId:=60
abbrev f_zz12:FuncId:=61
abbrev f_zz61:FuncId:=63
abbrev f_zz34:FuncId:=66
abbrev f_zz46:FuncId:=67
abbrev f_zz23:FuncId:=68
abbrev f_zz55:FuncId:=69
abbrev f_zz32:FuncId:=70
abbrev f_zz9:FuncId:=73
abbrev f_zz49:FuncId:=74
abbrev f_zz50:FuncId:=76
abbrev f_zz63:FuncId:=77
abbrev f_zz14:FuncId:=78
abbrev f_zz43:FuncId:=79
abbrev f_zz3:FuncId:=81
abbrev f_zz8:FuncId:=82
abbrev f_zz2:FuncId:=83
abbrev f_zz6:FuncId:=84
abbrev f_zz5:FuncId:=85
abbrev f_zz0:FuncId:=86
abbrev f_zz1:FuncId:=87
abbrev f_zz7:FuncId:=88
abbrev f_zz37:FuncId:=89
abbrev f_zz38:FuncId:=90
abbrev zz62_r0:List AI:=[
 ⟨some 2,.mv true (.c .nilP),none⟩]
abbrev zz62_r1:List AI:=[
 ⟨some 3,.mv false (.t 0),none⟩,
 ⟨some 4,.bin .lss (.t 3) (.c (.int .i64 1)),none⟩,
 ⟨some 5,.mv false (.t 4),none⟩,
 ⟨some 6,.mv false (.t 0),some (5,false)⟩,
 ⟨some 7,.bin .gtr (.t 6) (.c (.int .i64 65536)),some (5,false)⟩,
 ⟨some 8,.pick (.t 5) (.c (.bool true)) (.t 7),none⟩]
abbrev zz62_r2:List AI:=[
 ⟨some 2,.mv true (.c .nilP),none⟩]
abbrev zz62_r3:List AI:=[
 ⟨some 9,.mv false (.t 0),none⟩,
 ⟨some 10,.gn (.mkSl 65 65 (zr 64 (.int .u8 0)++[(.bool false)])) [(.t 9),(.t 9)],none⟩,
 ⟨some 11,.gn .mkM [],none⟩,
 ⟨some 12,.build [.nilS,.nilM,(.int .i64 0),(.int .i64 0),(.bool false)] [(0,1,(.t 10)),(1,1,(.t 11)),(3,1,(.c (.int .i64 (-1))))],none⟩,
 ⟨some 13,.gn (.box 5) [(.t 12)],none⟩,
 ⟨some 2,.mv true (.t 13),none⟩]
abbrev zz62_c:ACode:=.seq (.reg false zz62_r0) (.seq (.seq (.reg false zz62_r1) (.cond (.t 8) (.seq (.reg false zz62_r2) (.ret)) (.skip))) (.seq (.reg false zz62_r3) (.ret)))
def zz62_F:AFunc:=⟨14,[.tmp 2],zz62_c⟩
theorem zz62_cp:zi Try.prog [13] f_zz62=some zz62_F:=by kernel_rfl
abbrev zz44_r0:List AI:=[
 ⟨some 2,.mv true (.c (.int .i64 0)),none⟩]
abbrev zz44_r1:List AI:=[
 ⟨some 3,.mv false (.t 0),none⟩,
 ⟨some 4,.nilck (.t 3),none⟩,
 ⟨some 5,.faddr 0 (.t 4),none⟩,
 ⟨some 6,.load false 1 (.t 5) .any,none⟩,
 ⟨some 7,.len false (.t 6),none⟩,
 ⟨some 2,.mv true (.t 7),none⟩]
abbrev zz44_c:ACode:=.seq (.reg false zz44_r0) (.seq (.reg false zz44_r1) (.ret))
def zz44_F:AFunc:=⟨8,[.tmp 2],zz44_c⟩
theorem zz44_cp:zi Try.prog [] f_zz44=some zz44_F:=by kernel_rfl
abbrev zz34_r0:List AI:=[
 ⟨some 4,.mv true (.c (.int .i64 0)),none⟩]
abbrev zz34_r1:List AI:=[
 ⟨some 6,.mv false (.t 0),none⟩,
 ⟨some 7,.nilck (.t 6),none⟩,
 ⟨some 8,.faddr 4 (.t 7),none⟩,
 ⟨some 9,.load false 1 (.t 8) .any,none⟩,
 ⟨some 5,.mv true (.t 9),none⟩]
abbrev zz34_r2:List AI:=[
 ⟨some 4,.mv true (.c (.int .i64 12)),none⟩]
abbrev zz34_r3:List AI:=[
 ⟨some 11,.mv false (.t 1),none⟩,
 ⟨some 12,.bin .lss (.t 11) (.c (.int .i64 0)),none⟩,
 ⟨some 13,.mv false (.t 12),none⟩,
 ⟨some 14,.mv false (.t 1),some (13,false)⟩,
 ⟨some 15,.mv false (.t 0),some (13,false)⟩,
 ⟨some 16,.nilck (.t 15),some (13,false)⟩,
 ⟨some 17,.faddr 0 (.t 16),some (13,false)⟩,
 ⟨some 18,.load false 1 (.t 17) .any,some (13,false)⟩,
 ⟨some 19,.len false (.t 18),some (13,false)⟩,
 ⟨some 20,.bin .geq (.t 14) (.t 19),some (13,false)⟩,
 ⟨some 21,.pick (.t 13) (.c (.bool true)) (.t 20),none⟩,
 ⟨some 10,.mv true (.t 21),none⟩]
abbrev zz34_r4:List AI:=[
 ⟨some 4,.mv true (.c (.int .i64 1)),none⟩]
abbrev zz34_b0:ACode:=.seq (.reg false zz34_r3) (.cond (.t 10) (.seq (.reg false zz34_r4) (.ret)) (.skip))
abbrev zz34_r5:List AI:=[
 ⟨some 4,.mv true (.c (.int .i64 0)),none⟩]
abbrev zz34_c:ACode:=.seq (.reg false zz34_r0) (.seq (.block 0 (.seq (.reg false zz34_r1) (.cond (.t 5) (.seq (.reg false zz34_r2) (.ret)) (zz34_b0)))) (.seq (.reg false zz34_r5) (.ret)))
def zz34_F:AFunc:=⟨22,[.tmp 4],zz34_c⟩
theorem zz34_cp:zi Try.prog [] f_zz34=some zz34_F:=by kernel_rfl
abbrev zz46_r0:List AI:=[
 ⟨some 2,.mv true (.c (.int .i64 0)),none⟩]
abbrev zz46_r1:List AI:=[
 ⟨some 4,.mv false (.t 0),none⟩,
 ⟨some 5,.nilck (.t 4),none⟩,
 ⟨some 6,.faddr 3 (.t 5),none⟩,
 ⟨some 7,.load false 1 (.t 6) .any,none⟩,
 ⟨some 8,.bin .eql (.t 7) (.c (.int .i64 0)),none⟩,
 ⟨some 3,.mv true (.t 8),none⟩]
abbrev zz46_r2:List AI:=[
 ⟨some 9,.mv false (.t 0),none⟩,
 ⟨some 10,.nilck (.t 9),none⟩,
 ⟨some 11,.faddr 4 (.t 10),none⟩,
 ⟨none,.store 1 (.t 11) (.c (.bool true)) .any,none⟩]
abbrev zz46_r3:List AI:=[
 ⟨some 2,.mv true (.c (.int .i64 12)),none⟩]
abbrev zz46_b0:ACode:=.seq (.reg false zz46_r2) (.seq (.reg false zz46_r3) (.ret))
abbrev zz46_r4:List AI:=[
 ⟨some 13,.mv false (.t 0),none⟩,
 ⟨some 14,.nilck (.t 13),none⟩,
 ⟨some 15,.faddr 3 (.t 14),none⟩,
 ⟨some 16,.load false 1 (.t 15) .any,none⟩,
 ⟨some 17,.bin .gtr (.t 16) (.c (.int .i64 0)),none⟩,
 ⟨some 12,.mv true (.t 17),none⟩]
abbrev zz46_r5:List AI:=[
 ⟨some 18,.mv false (.t 0),none⟩,
 ⟨some 19,.nilck (.t 18),none⟩,
 ⟨some 20,.faddr 3 (.t 19),none⟩,
 ⟨some 21,.load false 1 (.t 20) .any,none⟩,
 ⟨some 22,.bin .sub (.t 21) (.c (.int .i64 1)),none⟩,
 ⟨some 23,.nilck (.t 18),none⟩,
 ⟨some 24,.faddr 3 (.t 23),none⟩,
 ⟨none,.store 1 (.t 24) (.t 22) .any,none⟩]
abbrev zz46_b1:ACode:=.seq (.reg false zz46_r4) (.cond (.t 12) (.reg false zz46_r5) (.skip))
abbrev zz46_r6:List AI:=[
 ⟨some 25,.mv false (.t 0),none⟩,
 ⟨some 26,.nilck (.t 25),none⟩,
 ⟨some 27,.faddr 2 (.t 26),none⟩,
 ⟨some 28,.load false 1 (.t 27) .any,none⟩,
 ⟨some 29,.bin .add (.t 28) (.c (.int .i64 1)),none⟩,
 ⟨some 30,.nilck (.t 25),none⟩,
 ⟨some 31,.faddr 2 (.t 30),none⟩,
 ⟨none,.store 1 (.t 31) (.t 29) .any,none⟩]
abbrev zz46_r7:List AI:=[
 ⟨some 2,.mv true (.c (.int .i64 0)),none⟩]
abbrev zz46_c:ACode:=.seq (.reg false zz46_r0) (.seq (.block 0 (.seq (.reg false zz46_r1) (.cond (.t 3) (zz46_b0) (zz46_b1)))) (.seq (.reg false zz46_r6) (.seq (.reg false zz46_r7) (.ret))))
def zz46_F:AFunc:=⟨32,[.tmp 2],zz46_c⟩
theorem zz46_cp:zi Try.prog [] f_zz46=some zz46_F:=by kernel_rfl
-- loop 0: [0, 19]
abbrev zz45_r0:List AI:=[
 ⟨some 2,.mv true (.c (.int .i64 0)),none⟩]
abbrev zz45_r1:List AI:=[
 ⟨some 6,.mv false (.t 0),none⟩,
 ⟨some 7,.call (.c (.fn f_zz34)) [(.t 6),(.c (.int .i64 0))] 0,none⟩,
 ⟨some 3,.mv true (.t 7),none⟩]
abbrev zz45_r2:List AI:=[
 ⟨some 8,.mv false (.t 3),none⟩,
 ⟨some 9,.bin .eql (.t 8) (.c (.int .i64 0)),none⟩]
abbrev zz45_r3:List AI:=[
 ⟨some 10,.mv false (.t 0),none⟩,
 ⟨some 11,.call (.c (.fn f_zz46)) [(.t 10)] 0,none⟩,
 ⟨some 3,.mv true (.t 11),none⟩]
abbrev zz45_r4:List AI:=[
 ⟨some 12,.mv false (.t 3),none⟩,
 ⟨some 13,.bin .neq (.t 12) (.c (.int .i64 0)),none⟩]
abbrev zz45_r5:List AI:=[
 ⟨some 14,.mv false (.t 3),none⟩,
 ⟨some 2,.mv true (.t 14),none⟩]
abbrev zz45_r6:List AI:=[
 ⟨some 15,.mv false (.t 0),none⟩,
 ⟨some 16,.nilck (.t 15),none⟩,
 ⟨some 17,.faddr 1 (.t 16),none⟩,
 ⟨some 18,.load false 1 (.t 17) .any,none⟩,
 ⟨some 19,.gn .rng [(.t 18)],none⟩]
abbrev zz45_r7:List AI:=[
 ⟨some 20,.gn .nxt [(.t 19)],none⟩,
 ⟨some 21,.ext (.t 20) 0,none⟩]
abbrev zz45_r8:List AI:=[
 ⟨some 22,.gd .entry [(.t 19)],none⟩,
 ⟨some 23,.ext (.t 22) 0,none⟩,
 ⟨some 24,.ext (.t 22) 1,none⟩,
 ⟨some 4,.mv true (.t 23),none⟩,
 ⟨some 5,.mv true (.t 24),none⟩]
abbrev zz45_r9:List AI:=[
 ⟨some 25,.mv false (.t 0),none⟩,
 ⟨some 26,.nilck (.t 25),none⟩,
 ⟨some 27,.faddr 0 (.t 26),none⟩,
 ⟨some 28,.load false 1 (.t 27) .foreign,none⟩,
 ⟨some 29,.mv false (.t 4),none⟩,
 ⟨some 30,.mv false (.t 5),none⟩,
 ⟨some 31,.mv false (.t 5),none⟩,
 ⟨some 32,.len false (.t 31),none⟩,
 ⟨some 33,.bin .sub (.t 32) (.c (.int .i64 1)),none⟩,
 ⟨some 34,.iaddr 64 (.t 30) (.t 33),none⟩,
 ⟨some 35,.load true 64 (.t 34) .foreign,none⟩,
 ⟨some 36,.build (zr 64 (.int .u8 0)++[(.bool false)]) [(0,64,(.t 35))],none⟩,
 ⟨some 37,.iaddr 65 (.t 28) (.t 29),none⟩,
 ⟨none,.store 65 (.t 37) (.t 36) .gp,none⟩]
abbrev zz45_r10:List AI:=[
 ⟨some 38,.mv false (.t 0),none⟩,
 ⟨some 39,.nilck (.t 38),none⟩,
 ⟨some 40,.faddr 1 (.t 39),none⟩,
 ⟨some 41,.load false 1 (.t 40) .any,none⟩,
 ⟨some 42,.mv false (.t 4),none⟩,
 ⟨none,.gd (.mdel [.i]) [(.t 41),(.t 42)],none⟩]
abbrev zz45_l0:ACode:=.seq (.reg false zz45_r7) (.seq (.cond (.t 21) (.skip) (.exit 0)) (.block 1 (.seq (.reg false zz45_r8) (.seq (.reg true zz45_r9) (.reg false zz45_r10)))))
abbrev zz45_r11:List AI:=[
 ⟨some 2,.mv true (.c (.int .i64 0)),none⟩]
abbrev zz45_c:ACode:=.seq (.reg false zz45_r0) (.seq (.reg false zz45_r1) (.seq (.seq (.reg false zz45_r2) (.cond (.t 9) (.reg false zz45_r3) (.skip))) (.seq (.seq (.reg false zz45_r4) (.cond (.t 13) (.seq (.reg false zz45_r5) (.ret)) (.skip))) (.seq (.seq (.reg false zz45_r6) (.block 0 (.loop zz45_l0))) (.seq (.reg false zz45_r11) (.ret))))))
def zz45_F:AFunc:=⟨43,[.tmp 2],zz45_c⟩
theorem zz45_cp:zi Try.prog [] f_zz45=some zz45_F:=by kernel_rfl
abbrev zz43_r0:List AI:=[
 ⟨some 4,.alloc (zr 64 (.int .u8 0)),none⟩,
 ⟨some 5,.mv true (.c (.int .i64 0)),none⟩]
abbrev zz43_r1:List AI:=[
 ⟨some 8,.mv false (.t 0),none⟩,
 ⟨some 9,.mv false (.t 1),none⟩,
 ⟨some 10,.call (.c (.fn f_zz34)) [(.t 8),(.t 9)] 0,none⟩,
 ⟨some 6,.mv true (.t 10),none⟩]
abbrev zz43_r2:List AI:=[
 ⟨some 11,.mv false (.t 6),none⟩,
 ⟨some 12,.bin .neq (.t 11) (.c (.int .i64 0)),none⟩]
abbrev zz43_r3:List AI:=[
 ⟨some 13,.build (zr 64 (.int .u8 0)) [],none⟩,
 ⟨some 14,.mv false (.t 6),none⟩,
 ⟨none,.store 64 (.t 4) (.t 13) .any,none⟩,
 ⟨some 5,.mv true (.t 14),none⟩]
abbrev zz43_r4:List AI:=[
 ⟨some 15,.mv false (.t 0),none⟩,
 ⟨some 16,.nilck (.t 15),none⟩,
 ⟨some 17,.faddr 1 (.t 16),none⟩,
 ⟨some 18,.load false 1 (.t 17) .any,none⟩,
 ⟨some 19,.mv false (.t 1),none⟩,
 ⟨some 20,.gd (.mlook [.i] .nilS false) [(.t 18),(.t 19)],none⟩,
 ⟨some 7,.mv true (.t 20),none⟩]
abbrev zz43_r5:List AI:=[
 ⟨some 21,.mv false (.t 7),none⟩,
 ⟨some 22,.len false (.t 21),none⟩,
 ⟨some 23,.bin .gtr (.t 22) (.c (.int .i64 0)),none⟩]
abbrev zz43_r6:List AI:=[
 ⟨some 24,.mv false (.t 7),none⟩,
 ⟨some 25,.mv false (.t 7),none⟩,
 ⟨some 26,.len false (.t 25),none⟩,
 ⟨some 27,.bin .sub (.t 26) (.c (.int .i64 1)),none⟩,
 ⟨some 28,.iaddr 64 (.t 24) (.t 27),none⟩,
 ⟨some 29,.load true 64 (.t 28) .any,none⟩,
 ⟨none,.store 64 (.t 4) (.t 29) .any,none⟩,
 ⟨some 5,.mv true (.c (.int .i64 0)),none⟩]
abbrev zz43_r7:List AI:=[
 ⟨some 30,.mv false (.t 0),none⟩,
 ⟨some 31,.nilck (.t 30),none⟩,
 ⟨some 32,.faddr 0 (.t 31),none⟩,
 ⟨some 33,.load false 1 (.t 32) .any,none⟩,
 ⟨some 34,.mv false (.t 1),none⟩,
 ⟨some 35,.iaddr 65 (.t 33) (.t 34),none⟩,
 ⟨some 36,.faddr 64 (.t 35),none⟩,
 ⟨some 37,.load false 1 (.t 36) .any,none⟩]
abbrev zz43_r8:List AI:=[
 ⟨some 38,.build (zr 64 (.int .u8 0)) [],none⟩,
 ⟨none,.store 64 (.t 4) (.t 38) .any,none⟩,
 ⟨some 5,.mv true (.c (.int .i64 14)),none⟩]
abbrev zz43_r9:List AI:=[
 ⟨some 39,.mv false (.t 0),none⟩,
 ⟨some 40,.nilck (.t 39),none⟩,
 ⟨some 41,.faddr 0 (.t 40),none⟩,
 ⟨some 42,.load false 1 (.t 41) .any,none⟩,
 ⟨some 43,.mv false (.t 1),none⟩,
 ⟨some 44,.iaddr 65 (.t 42) (.t 43),none⟩,
 ⟨some 45,.faddr 0 (.t 44),none⟩,
 ⟨some 46,.load true 64 (.t 45) .any,none⟩,
 ⟨none,.store 64 (.t 4) (.t 46) .any,none⟩,
 ⟨some 5,.mv true (.c (.int .i64 0)),none⟩]
abbrev zz43_c:ACode:=.seq (.reg false zz43_r0) (.seq (.seq (.reg false zz43_r1) (.seq (.reg false zz43_r2) (.cond (.t 12) (.seq (.reg false zz43_r3) (.ret)) (.skip)))) (.seq (.seq (.reg false zz43_r4) (.seq (.reg false zz43_r5) (.cond (.t 23) (.seq (.reg false zz43_r6) (.ret)) (.skip)))) (.seq (.seq (.reg false zz43_r7) (.cond (.t 37) (.seq (.reg false zz43_r8) (.ret)) (.skip))) (.seq (.reg false zz43_r9) (.ret)))))
def zz43_F:AFunc:=⟨47,[.cell 4 true 64,.tmp 5],zz43_c⟩
theorem zz43_cp:zi Try.prog [] f_zz43=some zz43_F:=by kernel_rfl
abbrev zz33_r0:List AI:=[
 ⟨some 5,.box 64 (.t 2),none⟩,
 ⟨some 6,.mv true (.c (.int .i64 0)),none⟩]
abbrev zz33_r1:List AI:=[
 ⟨some 8,.mv false (.t 0),none⟩,
 ⟨some 9,.mv false (.t 1),none⟩,
 ⟨some 10,.call (.c (.fn f_zz34)) [(.t 8),(.t 9)] 0,none⟩,
 ⟨some 7,.mv true (.t 10),none⟩]
abbrev zz33_r2:List AI:=[
 ⟨some 11,.mv false (.t 7),none⟩,
 ⟨some 12,.bin .eql (.t 11) (.c (.int .i64 0)),none⟩]
abbrev zz33_r3:List AI:=[
 ⟨some 13,.mv false (.t 0),none⟩,
 ⟨some 14,.call (.c (.fn f_zz46)) [(.t 13)] 0,none⟩,
 ⟨some 7,.mv true (.t 14),none⟩]
abbrev zz33_r4:List AI:=[
 ⟨some 15,.mv false (.t 7),none⟩,
 ⟨some 16,.bin .eql (.t 15) (.c (.int .i64 0)),none⟩]
abbrev zz33_r5:List AI:=[
 ⟨some 17,.mv false (.t 0),none⟩,
 ⟨some 18,.nilck (.t 17),none⟩,
 ⟨some 19,.faddr 1 (.t 18),none⟩,
 ⟨some 20,.load false 1 (.t 19) .foreign,none⟩,
 ⟨some 21,.mv false (.t 1),none⟩,
 ⟨some 22,.mv false (.t 0),none⟩,
 ⟨some 23,.nilck (.t 22),none⟩,
 ⟨some 24,.faddr 1 (.t 23),none⟩,
 ⟨some 25,.load false 1 (.t 24) .foreign,none⟩,
 ⟨some 26,.mv false (.t 1),none⟩,
 ⟨some 27,.gd (.mlook [.i] .nilS false) [(.t 25),(.t 26)],none⟩,
 ⟨some 28,.load true 64 (.t 5) (.site 5),none⟩,
 ⟨some 29,.mkslice 64 1 (.agg (zr 64 (.int .u8 0))) [(0,(.t 28))],none⟩,
 ⟨some 30,.kp [(.ld false 1 (.t 19))] (.appG 64 64 (zr 64 (.int .u8 0)) (.t 27) (.t 29)),none⟩,
 ⟨none,.gd (.mset [.i]) [(.t 20),(.t 21),(.t 30)],none⟩]
abbrev zz33_r6:List AI:=[
 ⟨some 31,.mv false (.t 7),none⟩,
 ⟨some 6,.mv true (.t 31),none⟩]
abbrev zz33_c:ACode:=.seq (.reg false zz33_r0) (.seq (.reg false zz33_r1) (.seq (.seq (.reg false zz33_r2) (.cond (.t 12) (.reg false zz33_r3) (.skip))) (.seq (.seq (.reg false zz33_r4) (.cond (.t 16) (.reg true zz33_r5) (.skip))) (.seq (.reg false zz33_r6) (.ret)))))
def zz33_F:AFunc:=⟨32,[.tmp 6],zz33_c⟩
theorem zz33_cp:zi Try.prog [30] f_zz33=some zz33_F:=by kernel_rfl
-- loop 0: [0, 1, 31, 32]
abbrev zz54_r0:List AI:=[
 ⟨some 6,.mv true (.c (.int .i64 0)),none⟩]
abbrev zz54_r1:List AI:=[
 ⟨some 9,.mv false (.t 2),none⟩,
 ⟨some 10,.bin .lss (.t 9) (.c (.int .i64 1)),none⟩,
 ⟨some 11,.mv false (.t 10),none⟩,
 ⟨some 12,.mv false (.t 1),some (11,false)⟩,
 ⟨some 13,.bin .lss (.t 12) (.c (.int .i64 0)),some (11,false)⟩,
 ⟨some 14,.pick (.t 11) (.c (.bool true)) (.t 13),none⟩,
 ⟨some 15,.mv false (.t 14),none⟩,
 ⟨some 16,.mv false (.t 1),some (15,false)⟩,
 ⟨some 17,.mv false (.t 0),some (15,false)⟩,
 ⟨some 18,.call (.c (.fn f_zz44)) [(.t 17)] 0,some (15,false)⟩,
 ⟨some 19,.bin .gtr (.t 16) (.t 18),some (15,false)⟩,
 ⟨some 20,.pick (.t 15) (.c (.bool true)) (.t 19),none⟩,
 ⟨some 21,.mv false (.t 20),none⟩,
 ⟨some 22,.mv false (.t 2),some (21,false)⟩,
 ⟨some 23,.mv false (.t 0),some (21,false)⟩,
 ⟨some 24,.call (.c (.fn f_zz44)) [(.t 23)] 0,some (21,false)⟩,
 ⟨some 25,.mv false (.t 1),some (21,false)⟩,
 ⟨some 26,.bin .sub (.t 24) (.t 25),some (21,false)⟩,
 ⟨some 27,.bin .quo (.t 26) (.c (.int .i64 2)),some (21,false)⟩,
 ⟨some 28,.bin .gtr (.t 22) (.t 27),some (21,false)⟩,
 ⟨some 29,.pick (.t 21) (.c (.bool true)) (.t 28),none⟩]
abbrev zz54_r2:List AI:=[
 ⟨some 6,.mv true (.c (.int .i64 1)),none⟩]
abbrev zz54_r3:List AI:=[
 ⟨some 30,.mv false (.t 2),none⟩,
 ⟨some 31,.bin .mul (.c (.int .i64 2)) (.t 30),none⟩,
 ⟨some 32,.mv false (.c (.int .i64 0)),none⟩]
abbrev zz54_r4:List AI:=[
 ⟨some 33,.bin .lss (.t 32) (.t 31),none⟩]
abbrev zz54_r5:List AI:=[
 ⟨some 34,.mv false (.t 32),none⟩,
 ⟨some 7,.mv true (.t 34),none⟩]
abbrev zz54_r6:List AI:=[
 ⟨some 35,.mv false (.t 0),none⟩,
 ⟨some 36,.mv false (.t 1),none⟩,
 ⟨some 37,.mv false (.t 7),none⟩,
 ⟨some 38,.bin .add (.t 36) (.t 37),none⟩,
 ⟨some 39,.call (.c (.fn f_zz57)) [(.c (.int .u32 1)),(.c (.str []))] 0,none⟩,
 ⟨some 40,.call (.c (.fn f_zz33)) [(.t 35),(.t 38),(.t 39)] 0,none⟩,
 ⟨some 8,.mv true (.t 40),none⟩]
abbrev zz54_r7:List AI:=[
 ⟨some 41,.mv false (.t 8),none⟩,
 ⟨some 42,.bin .neq (.t 41) (.c (.int .i64 0)),none⟩]
abbrev zz54_r8:List AI:=[
 ⟨some 43,.mv false (.t 8),none⟩,
 ⟨some 6,.mv true (.t 43),none⟩]
abbrev zz54_r9:List AI:=[
 ⟨some 44,.bin .add (.t 32) (.c (.int .i64 1)),none⟩,
 ⟨some 32,.mv false (.t 44),none⟩]
abbrev zz54_l0:ACode:=.seq (.reg false zz54_r4) (.seq (.cond (.t 33) (.skip) (.exit 0)) (.seq (.block 1 (.seq (.reg false zz54_r5) (.seq (.reg false zz54_r6) (.seq (.reg false zz54_r7) (.cond (.t 42) (.seq (.reg false zz54_r8) (.ret)) (.skip)))))) (.reg false zz54_r9)))
abbrev zz54_r10:List AI:=[
 ⟨some 45,.mv false (.t 0),none⟩,
 ⟨some 46,.call (.c (.fn f_zz45)) [(.t 45)] 0,none⟩,
 ⟨some 6,.mv true (.t 46),none⟩]
abbrev zz54_c:ACode:=.seq (.reg false zz54_r0) (.seq (.seq (.reg false zz54_r1) (.cond (.t 29) (.seq (.reg false zz54_r2) (.ret)) (.skip))) (.seq (.seq (.reg false zz54_r3) (.block 0 (.loop zz54_l0))) (.seq (.reg false zz54_r10) (.ret))))
def zz54_F:AFunc:=⟨47,[.tmp 6],zz54_c⟩
theorem zz54_cp:zi Try.prog [] f_zz54=some zz54_F:=by kernel_rfl
-- loop 0: [0, 1, 9, 10, 42, 43]
abbrev zz60_r0:List AI:=[
 ⟨some 6,.mv true (.c .nilP),none⟩,
 ⟨some 7,.mv true (.c .nilS),none⟩,
 ⟨some 8,.mv true (.c (.int .i64 0)),none⟩]
abbrev zz60_r1:List AI:=[
 ⟨some 15,.mv false (.t 2),none⟩,
 ⟨some 16,.bin .lss (.t 15) (.c (.int .i64 1)),none⟩,
 ⟨some 17,.mv false (.t 16),none⟩,
 ⟨some 18,.mv false (.t 1),some (17,false)⟩,
 ⟨some 19,.bin .lss (.t 18) (.c (.int .i64 0)),some (17,false)⟩,
 ⟨some 20,.pick (.t 17) (.c (.bool true)) (.t 19),none⟩,
 ⟨some 21,.mv false (.t 20),none⟩,
 ⟨some 22,.mv false (.t 1),some (21,false)⟩,
 ⟨some 23,.mv false (.t 0),some (21,false)⟩,
 ⟨some 24,.call (.c (.fn f_zz44)) [(.t 23)] 0,some (21,false)⟩,
 ⟨some 25,.bin .gtr (.t 22) (.t 24),some (21,false)⟩,
 ⟨some 26,.pick (.t 21) (.c (.bool true)) (.t 25),none⟩,
 ⟨some 27,.mv false (.t 26),none⟩,
 ⟨some 28,.mv false (.t 2),some (27,false)⟩,
 ⟨some 29,.mv false (.t 0),some (27,false)⟩,
 ⟨some 30,.call (.c (.fn f_zz44)) [(.t 29)] 0,some (27,false)⟩,
 ⟨some 31,.mv false (.t 1),some (27,false)⟩,
 ⟨some 32,.bin .sub (.t 30) (.t 31),some (27,false)⟩,
 ⟨some 33,.bin .quo (.t 32) (.c (.int .i64 2)),some (27,false)⟩,
 ⟨some 34,.bin .gtr (.t 28) (.t 33),some (27,false)⟩,
 ⟨some 35,.pick (.t 27) (.c (.bool true)) (.t 34),none⟩]
abbrev zz60_r2:List AI:=[
 ⟨some 6,.mv true (.c .nilP),none⟩,
 ⟨some 7,.mv true (.c .nilS),none⟩,
 ⟨some 8,.mv true (.c (.int .i64 1)),none⟩]
abbrev zz60_r3:List AI:=[
 ⟨some 36,.mv false (.t 0),none⟩,
 ⟨some 37,.mv false (.t 1),none⟩,
 ⟨some 38,.mv false (.t 2),none⟩,
 ⟨some 39,.build [.nilP,(.int .i64 0),(.int .i64 0)] [(0,1,(.t 36)),(1,1,(.t 37)),(2,1,(.t 38))],none⟩,
 ⟨some 40,.build [.nilP,(.int .i64 0),(.int .i64 0)] [(0,3,(.t 39))],none⟩,
 ⟨some 41,.gn (.box 3) [(.t 40)],none⟩,
 ⟨some 9,.mv true (.t 41),none⟩]
abbrev zz60_r4:List AI:=[
 ⟨some 10,.mv true (.c .nilS),none⟩]
abbrev zz60_r5:List AI:=[
 ⟨some 42,.mv false (.t 2),none⟩,
 ⟨some 43,.mv false (.c (.int .i64 0)),none⟩]
abbrev zz60_r6:List AI:=[
 ⟨some 44,.bin .lss (.t 43) (.t 42),none⟩]
abbrev zz60_r7:List AI:=[
 ⟨some 45,.mv false (.t 43),none⟩,
 ⟨some 11,.mv true (.t 45),none⟩]
abbrev zz60_r8:List AI:=[
 ⟨some 47,.mv false (.t 9),none⟩,
 ⟨some 48,.nilck (.t 47),none⟩,
 ⟨some 49,.faddr 0 (.t 48),none⟩,
 ⟨some 50,.load true 3 (.t 49) .any,none⟩,
 ⟨some 51,.mv false (.t 11),none⟩,
 ⟨some 52,.call (.c (.fn f_zz42)) [(.t 50),(.t 51)] 0,none⟩,
 ⟨some 46,.mv false (.t 52),none⟩,
 ⟨some 53,.ext (.t 46) 0,none⟩,
 ⟨some 54,.ext (.t 46) 1,none⟩,
 ⟨some 55,.ext (.t 46) 2,none⟩,
 ⟨some 12,.alloc (zr 64 (.int .u8 0)++[(.int .i64 0),(.bool false)]),none⟩,
 ⟨some 13,.alloc (zr 64 (.int .u8 0)++[(.int .i64 0),(.bool false)]),none⟩,
 ⟨none,.store 66 (.t 12) (.t 53) .any,none⟩,
 ⟨none,.store 66 (.t 13) (.t 54) .any,none⟩,
 ⟨some 14,.mv true (.t 55),none⟩]
abbrev zz60_r9:List AI:=[
 ⟨some 56,.mv false (.t 14),none⟩,
 ⟨some 57,.bin .neq (.t 56) (.c (.int .i64 0)),none⟩]
abbrev zz60_r10:List AI:=[
 ⟨some 58,.mv false (.t 14),none⟩,
 ⟨some 6,.mv true (.c .nilP),none⟩,
 ⟨some 7,.mv true (.c .nilS),none⟩,
 ⟨some 8,.mv true (.t 58),none⟩]
abbrev zz60_r11:List AI:=[
 ⟨some 59,.faddr 65 (.t 12),none⟩,
 ⟨some 60,.load false 1 (.t 59) .any,none⟩]
abbrev zz60_r12:List AI:=[
 ⟨some 61,.mv false (.t 9),none⟩,
 ⟨some 62,.nilck (.t 61),none⟩,
 ⟨some 63,.faddr 0 (.t 62),none⟩,
 ⟨some 64,.load true 3 (.t 63) .foreign,none⟩,
 ⟨some 65,.load true 66 (.t 12) (.site 12),none⟩,
 ⟨some 66,.load true 66 (.t 13) (.site 13),none⟩,
 ⟨some 67,.call (.c (.fn f_zz41)) [(.t 64),(.t 65),(.t 66)] 2,none⟩,
 ⟨some 14,.mv true (.t 67),none⟩]
abbrev zz60_r13:List AI:=[
 ⟨some 68,.mv true (.t 10),none⟩,
 ⟨some 69,.mv false (.t 11),none⟩,
 ⟨some 70,.mkslice 1 1 (.int .i64 0) [(0,(.t 69))],none⟩,
 ⟨some 71,.append 1 8 (.t 68) (.t 70),none⟩,
 ⟨some 10,.mv true (.t 71),none⟩]
abbrev zz60_r14:List AI:=[
 ⟨some 72,.mv false (.t 0),none⟩,
 ⟨some 73,.mv false (.t 1),none⟩,
 ⟨some 74,.mv false (.t 11),none⟩,
 ⟨some 75,.bin .mul (.c (.int .i64 2)) (.t 74),none⟩,
 ⟨some 76,.bin .add (.t 73) (.t 75),none⟩,
 ⟨some 77,.call (.c (.fn f_zz54)) [(.t 72),(.t 76),(.c (.int .i64 1))] 0,none⟩,
 ⟨some 14,.mv true (.t 77),none⟩]
abbrev zz60_r15:List AI:=[
 ⟨some 78,.mv false (.t 14),none⟩,
 ⟨some 79,.bin .neq (.t 78) (.c (.int .i64 0)),none⟩]
abbrev zz60_r16:List AI:=[
 ⟨some 80,.mv false (.t 14),none⟩,
 ⟨some 6,.mv true (.c .nilP),none⟩,
 ⟨some 7,.mv true (.c .nilS),none⟩,
 ⟨some 8,.mv true (.t 80),none⟩]
abbrev zz60_r17:List AI:=[
 ⟨some 81,.bin .add (.t 43) (.c (.int .i64 1)),none⟩,
 ⟨some 43,.mv false (.t 81),none⟩]
abbrev zz60_l0:ACode:=.seq (.reg false zz60_r6) (.seq (.cond (.t 44) (.skip) (.exit 0)) (.seq (.block 1 (.seq (.reg false zz60_r7) (.seq (.reg false zz60_r8) (.seq (.seq (.reg false zz60_r9) (.cond (.t 57) (.seq (.reg false zz60_r10) (.ret)) (.skip))) (.seq (.seq (.reg false zz60_r11) (.cond (.t 60) (.reg true zz60_r12) (.seq (.reg false zz60_r13) (.reg false zz60_r14)))) (.seq (.reg false zz60_r15) (.cond (.t 79) (.seq (.reg false zz60_r16) (.ret)) (.skip)))))))) (.reg false zz60_r17)))
abbrev zz60_r18:List AI:=[
 ⟨some 82,.mv false (.t 9),none⟩,
 ⟨some 83,.mv false (.t 10),none⟩,
 ⟨some 6,.mv true (.t 82),none⟩,
 ⟨some 7,.mv true (.t 83),none⟩,
 ⟨some 8,.mv true (.c (.int .i64 0)),none⟩]
abbrev zz60_c:ACode:=.seq (.reg false zz60_r0) (.seq (.seq (.reg false zz60_r1) (.cond (.t 35) (.seq (.reg false zz60_r2) (.ret)) (.skip))) (.seq (.reg false zz60_r3) (.seq (.reg false zz60_r4) (.seq (.seq (.reg false zz60_r5) (.block 0 (.loop zz60_l0))) (.seq (.reg false zz60_r18) (.ret))))))
def zz60_F:AFunc:=⟨84,[.tmp 6,.tmp 7,.tmp 8],zz60_c⟩
theorem zz60_cp:zi Try.prog [41,67] f_zz60=some zz60_F:=by kernel_rfl
abbrev zz40_r0:List AI:=[
 ⟨some 6,.mv true (.c (.int .i64 0)),none⟩]
abbrev zz40_r1:List AI:=[
 ⟨some 7,.mv false (.t 1),none⟩,
 ⟨some 8,.bin .lss (.t 7) (.c (.int .i64 0)),none⟩,
 ⟨some 9,.mv false (.t 8),none⟩,
 ⟨some 10,.mv false (.t 1),some (9,false)⟩,
 ⟨some 11,.mv false (.t 0),some (9,false)⟩,
 ⟨some 12,.nilck (.t 11),some (9,false)⟩,
 ⟨some 13,.faddr 0 (.t 12),some (9,false)⟩,
 ⟨some 14,.faddr 2 (.t 13),some (9,false)⟩,
 ⟨some 15,.load false 1 (.t 14) .any,some (9,false)⟩,
 ⟨some 16,.bin .geq (.t 10) (.t 15),some (9,false)⟩,
 ⟨some 17,.pick (.t 9) (.c (.bool true)) (.t 16),none⟩,
 ⟨some 18,.mv false (.t 17),none⟩,
 ⟨some 19,.mv false (.t 2),some (18,false)⟩,
 ⟨some 20,.len true (.t 19),some (18,false)⟩,
 ⟨some 21,.bin .lss (.t 20) (.c (.int .i64 1)),some (18,false)⟩,
 ⟨some 22,.pick (.t 18) (.c (.bool true)) (.t 21),none⟩,
 ⟨some 23,.mv false (.t 22),none⟩,
 ⟨some 24,.mv false (.t 2),some (23,false)⟩,
 ⟨some 25,.len true (.t 24),some (23,false)⟩,
 ⟨some 26,.bin .gtr (.t 25) (.c (.int .i64 55)),some (23,false)⟩,
 ⟨some 27,.pick (.t 23) (.c (.bool true)) (.t 26),none⟩]
abbrev zz40_r2:List AI:=[
 ⟨some 6,.mv true (.c (.int .i64 1)),none⟩]
abbrev zz40_r3:List AI:=[
 ⟨some 28,.mv false (.t 0),none⟩,
 ⟨some 29,.mv false (.t 1),none⟩,
 ⟨some 30,.mv false (.t 2),none⟩,
 ⟨some 31,.call (.c (.fn f_zz19)) [(.t 28),(.t 29),(.t 30)] 0,none⟩,
 ⟨some 6,.mv true (.t 31),none⟩]
abbrev zz40_c:ACode:=.seq (.reg false zz40_r0) (.seq (.seq (.reg false zz40_r1) (.cond (.t 27) (.seq (.reg false zz40_r2) (.ret)) (.skip))) (.seq (.reg false zz40_r3) (.ret)))
def zz40_F:AFunc:=⟨32,[.tmp 6],zz40_c⟩
theorem zz40_cp:zi Try.prog [] f_zz40=some zz40_F:=by kernel_rfl
abbrev zz31_r0:List AI:=[
 ⟨some 4,.mv true (.c (.int .i64 0)),none⟩]
abbrev zz31_r1:List AI:=[
 ⟨some 5,.mv false (.t 1),none⟩,
 ⟨some 6,.bin .lss (.t 5) (.c (.int .i64 0)),none⟩,
 ⟨some 7,.mv false (.t 6),none⟩,
 ⟨some 8,.mv false (.t 1),some (7,false)⟩,
 ⟨some 9,.mv false (.t 0),some (7,false)⟩,
 ⟨some 10,.nilck (.t 9),some (7,false)⟩,
 ⟨some 11,.faddr 0 (.t 10),some (7,false)⟩,
 ⟨some 12,.faddr 2 (.t 11),some (7,false)⟩,
 ⟨some 13,.load false 1 (.t 12) .any,some (7,false)⟩,
 ⟨some 14,.bin .geq (.t 8) (.t 13),some (7,false)⟩,
 ⟨some 15,.pick (.t 7) (.c (.bool true)) (.t 14),none⟩]
abbrev zz31_r2:List AI:=[
 ⟨some 4,.mv true (.c (.int .i64 1)),none⟩]
abbrev zz31_r3:List AI:=[
 ⟨some 16,.mv false (.t 0),none⟩,
 ⟨some 17,.mv false (.t 1),none⟩,
 ⟨some 18,.call (.c (.fn f_zz19)) [(.t 16),(.t 17),(.c (.str []))] 0,none⟩,
 ⟨some 4,.mv true (.t 18),none⟩]
abbrev zz31_c:ACode:=.seq (.reg false zz31_r0) (.seq (.seq (.reg false zz31_r1) (.cond (.t 15) (.seq (.reg false zz31_r2) (.ret)) (.skip))) (.seq (.reg false zz31_r3) (.ret)))
def zz31_F:AFunc:=⟨19,[.tmp 4],zz31_c⟩
theorem zz31_cp:zi Try.prog [] f_zz31=some zz31_F:=by kernel_rfl
abbrev zz39_r0:List AI:=[
 ⟨some 4,.mv true (.c (.str [])),none⟩,
 ⟨some 5,.mv true (.c (.int .i64 0)),none⟩]
abbrev zz39_r1:List AI:=[
 ⟨some 11,.mv false (.t 1),none⟩,
 ⟨some 12,.bin .lss (.t 11) (.c (.int .i64 0)),none⟩,
 ⟨some 13,.mv false (.t 12),none⟩,
 ⟨some 14,.mv false (.t 1),some (13,false)⟩,
 ⟨some 15,.mv false (.t 0),some (13,false)⟩,
 ⟨some 16,.nilck (.t 15),some (13,false)⟩,
 ⟨some 17,.faddr 0 (.t 16),some (13,false)⟩,
 ⟨some 18,.faddr 2 (.t 17),some (13,false)⟩,
 ⟨some 19,.load false 1 (.t 18) .any,some (13,false)⟩,
 ⟨some 20,.bin .geq (.t 14) (.t 19),some (13,false)⟩,
 ⟨some 21,.pick (.t 13) (.c (.bool true)) (.t 20),none⟩]
abbrev zz39_r2:List AI:=[
 ⟨some 4,.mv true (.c (.str [])),none⟩,
 ⟨some 5,.mv true (.c (.int .i64 1)),none⟩]
abbrev zz39_r3:List AI:=[
 ⟨some 23,.mv false (.t 0),none⟩,
 ⟨some 24,.nilck (.t 23),none⟩,
 ⟨some 25,.faddr 0 (.t 24),none⟩,
 ⟨some 26,.load true 3 (.t 25) .any,none⟩,
 ⟨some 27,.mv false (.t 1),none⟩,
 ⟨some 28,.call (.c (.fn f_zz42)) [(.t 26),(.t 27)] 0,none⟩,
 ⟨some 22,.mv false (.t 28),none⟩,
 ⟨some 29,.ext (.t 22) 0,none⟩,
 ⟨some 30,.ext (.t 22) 1,none⟩,
 ⟨some 31,.ext (.t 22) 2,none⟩,
 ⟨some 6,.gn (.alloc (zr 64 (.int .u8 0)++[(.int .i64 0),(.bool false)])) [],none⟩,
 ⟨some 7,.alloc (zr 64 (.int .u8 0)++[(.int .i64 0),(.bool false)]),none⟩,
 ⟨none,.store 66 (.t 6) (.t 29) .any,none⟩,
 ⟨none,.store 66 (.t 7) (.t 30) .any,none⟩,
 ⟨some 8,.mv true (.t 31),none⟩]
abbrev zz39_r4:List AI:=[
 ⟨some 33,.mv false (.t 8),none⟩,
 ⟨some 34,.bin .neq (.t 33) (.c (.int .i64 0)),none⟩,
 ⟨some 32,.mv true (.t 34),none⟩]
abbrev zz39_r5:List AI:=[
 ⟨some 35,.mv false (.t 8),none⟩,
 ⟨some 4,.mv true (.c (.str [])),none⟩,
 ⟨some 5,.mv true (.t 35),none⟩]
abbrev zz39_r6:List AI:=[
 ⟨some 37,.faddr 65 (.t 6),none⟩,
 ⟨some 38,.load false 1 (.t 37) .any,none⟩,
 ⟨some 39,.not (.t 38),none⟩,
 ⟨some 36,.mv true (.t 39),none⟩]
abbrev zz39_r7:List AI:=[
 ⟨some 4,.mv true (.c (.str [])),none⟩,
 ⟨some 5,.mv true (.c (.int .i64 14)),none⟩]
abbrev zz39_r8:List AI:=[
 ⟨some 41,.faddr 0 (.t 6),none⟩,
 ⟨some 42,.iaddrA 64 1 (.t 41) (.c (.int .i64 36)),none⟩,
 ⟨some 43,.load false 1 (.t 42) .any,none⟩,
 ⟨some 44,.bin .eql (.t 43) (.c (.int .u8 0)),none⟩,
 ⟨some 40,.mv true (.t 44),none⟩]
abbrev zz39_r9:List AI:=[
 ⟨some 4,.mv true (.c (.str [])),none⟩,
 ⟨some 5,.mv true (.c (.int .i64 8)),none⟩]
abbrev zz39_b0:ACode:=.seq (.reg false zz39_r8) (.cond (.t 40) (.seq (.reg false zz39_r9) (.ret)) (.skip))
abbrev zz39_b1:ACode:=.seq (.reg false zz39_r6) (.cond (.t 36) (.seq (.reg false zz39_r7) (.ret)) (zz39_b0))
abbrev zz39_r10:List AI:=[
 ⟨some 45,.faddr 0 (.t 6),none⟩,
 ⟨some 46,.iaddrA 64 1 (.t 45) (.c (.int .i64 36)),none⟩,
 ⟨some 47,.load false 1 (.t 46) .any,none⟩,
 ⟨some 48,.conv .i64 (.t 47),none⟩,
 ⟨some 9,.mv true (.t 48),none⟩]
abbrev zz39_r11:List AI:=[
 ⟨some 49,.mkG 1 0 (.int .u8 0) [],none⟩,
 ⟨some 50,.faddr 0 (.t 6),none⟩,
 ⟨some 51,.mv false (.t 9),none⟩,
 ⟨some 52,.mn (.t 51) (.c (.int .i64 28)),none⟩,
 ⟨some 53,.bin .add (.c (.int .i64 4)) (.t 52),none⟩,
 ⟨some 54,.gd (.arrS 1 64 true true false) [(.t 50),(.c (.int .i64 4)),(.t 53)],none⟩,
 ⟨some 55,.appG 1 1 [(.int .u8 0)] (.t 49) (.t 54),none⟩,
 ⟨some 10,.mv true (.t 55),none⟩]
abbrev zz39_r12:List AI:=[
 ⟨some 56,.mv false (.t 9),none⟩,
 ⟨some 57,.bin .gtr (.t 56) (.c (.int .i64 28)),none⟩]
abbrev zz39_r13:List AI:=[
 ⟨some 58,.mv true (.t 10),none⟩,
 ⟨some 59,.faddr 0 (.t 6),none⟩,
 ⟨some 60,.mv false (.t 9),none⟩,
 ⟨some 61,.bin .add (.c (.int .i64 37)) (.t 60),none⟩,
 ⟨some 62,.bin .sub (.t 61) (.c (.int .i64 28)),none⟩,
 ⟨some 63,.gd (.arrS 1 64 true true false) [(.t 59),(.c (.int .i64 37)),(.t 62)],none⟩,
 ⟨some 64,.appG 1 1 [(.int .u8 0)] (.t 58) (.t 63),none⟩,
 ⟨some 10,.mv true (.t 64),none⟩]
abbrev zz39_r14:List AI:=[
 ⟨some 65,.mv false (.t 10),none⟩,
 ⟨some 66,.gd .b2s [(.t 65)],none⟩,
 ⟨some 4,.mv true (.t 66),none⟩,
 ⟨some 5,.mv true (.c (.int .i64 0)),none⟩]
abbrev zz39_c:ACode:=.seq (.reg false zz39_r0) (.seq (.seq (.reg false zz39_r1) (.cond (.t 21) (.seq (.reg false zz39_r2) (.ret)) (.skip))) (.seq (.reg false zz39_r3) (.seq (.block 0 (.seq (.reg false zz39_r4) (.cond (.t 32) (.seq (.reg false zz39_r5) (.ret)) (zz39_b1)))) (.seq (.reg false zz39_r10) (.seq (.reg false zz39_r11) (.seq (.seq (.reg false zz39_r12) (.cond (.t 57) (.reg false zz39_r13) (.skip))) (.seq (.reg false zz39_r14) (.ret))))))))
def zz39_F:AFunc:=⟨67,[.tmp 4,.tmp 5],zz39_c⟩
theorem zz39_cp:zi Try.prog [6,49,55,64,66] f_zz39=some zz39_F:=by kernel_rfl
-- loop 0: [0, 1, 4, 5, 9, 10]
abbrev zz57_r0:List AI:=[
 ⟨some 4,.alloc (zr 64 (.int .u8 0)),none⟩]
abbrev zz57_r1:List AI:=[
 ⟨some 5,.gn (.alloc (zr 64 (.int .u8 0))) [],none⟩]
abbrev zz57_r2:List AI:=[
 ⟨some 9,.build [(.int .i64 0),(.int .i64 0)] [(0,1,(.c (.int .i64 0))),(1,1,(.c (.int .i64 32)))],none⟩,
 ⟨some 10,.mv false (.c (.int .i64 0)),none⟩]
abbrev zz57_r3:List AI:=[
 ⟨some 11,.bin .lss (.t 10) (.c (.int .i64 2)),none⟩]
abbrev zz57_r4:List AI:=[
 ⟨some 12,.idxA false 2 1 (.t 9) (.t 10),none⟩,
 ⟨some 7,.mv true (.t 12),none⟩]
abbrev zz57_r5:List AI:=[
 ⟨some 13,.mv false (.t 7),none⟩,
 ⟨some 14,.mv false (.t 7),none⟩,
 ⟨some 15,.bin .add (.t 14) (.c (.int .i64 1)),none⟩,
 ⟨some 16,.mv false (.t 7),none⟩,
 ⟨some 17,.bin .add (.t 16) (.c (.int .i64 2)),none⟩,
 ⟨some 18,.mv false (.t 7),none⟩,
 ⟨some 19,.bin .add (.t 18) (.c (.int .i64 3)),none⟩,
 ⟨some 20,.mv false (.t 0),none⟩,
 ⟨some 21,.bin .shr (.t 20) (.c (.int .u64 24)),none⟩,
 ⟨some 22,.conv .u8 (.t 21),none⟩,
 ⟨some 23,.mv false (.t 0),none⟩,
 ⟨some 24,.bin .shr (.t 23) (.c (.int .u64 16)),none⟩,
 ⟨some 25,.conv .u8 (.t 24),none⟩,
 ⟨some 26,.mv false (.t 0),none⟩,
 ⟨some 27,.bin .shr (.t 26) (.c (.int .u64 8)),none⟩,
 ⟨some 28,.conv .u8 (.t 27),none⟩,
 ⟨some 29,.mv false (.t 0),none⟩,
 ⟨some 30,.conv .u8 (.t 29),none⟩,
 ⟨some 31,.iaddrA 64 1 (.t 5) (.t 13),none⟩,
 ⟨none,.store 1 (.t 31) (.t 22) .any,none⟩,
 ⟨some 32,.iaddrA 64 1 (.t 5) (.t 15),none⟩,
 ⟨none,.store 1 (.t 32) (.t 25) .any,none⟩,
 ⟨some 33,.iaddrA 64 1 (.t 5) (.t 17),none⟩,
 ⟨none,.store 1 (.t 33) (.t 28) .any,none⟩,
 ⟨some 34,.iaddrA 64 1 (.t 5) (.t 19),none⟩,
 ⟨none,.store 1 (.t 34) (.t 30) .any,none⟩]
abbrev zz57_r6:List AI:=[
 ⟨some 35,.bin .add (.t 10) (.c (.int .i64 1)),none⟩,
 ⟨some 10,.mv false (.t 35),none⟩]
abbrev zz57_l0:ACode:=.seq (.reg false zz57_r3) (.seq (.cond (.t 11) (.skip) (.exit 0)) (.seq (.block 1 (.seq (.reg false zz57_r4) (.reg false zz57_r5))) (.reg false zz57_r6)))
abbrev zz57_r7:List AI:=[
 ⟨some 36,.mv false (.t 1),none⟩,
 ⟨some 37,.len true (.t 36),none⟩,
 ⟨some 38,.conv .u8 (.t 37),none⟩,
 ⟨some 39,.iaddrA 64 1 (.t 5) (.c (.int .i64 36)),none⟩,
 ⟨none,.store 1 (.t 39) (.t 38) .any,none⟩]
abbrev zz57_r8:List AI:=[
 ⟨some 40,.gd (.arrS 1 64 true true false) [(.t 5),(.c (.int .i64 4)),(.c (.int .i64 32))],none⟩,
 ⟨some 41,.mv false (.t 1),none⟩,
 ⟨some 42,.gd .copyS [(.t 40),(.t 41)],none⟩,
 ⟨some 8,.mv true (.t 42),none⟩]
abbrev zz57_r9:List AI:=[
 ⟨some 43,.gd (.arrS 1 64 true false false) [(.t 5),(.c (.int .i64 37))],none⟩,
 ⟨some 44,.mv false (.t 1),none⟩,
 ⟨some 45,.mv false (.t 8),none⟩,
 ⟨some 46,.slS (.t 44) (some (.t 45)) none,none⟩,
 ⟨some 47,.gd .copyS [(.t 43),(.t 46)],none⟩]
abbrev zz57_r10:List AI:=[
 ⟨some 48,.load true 64 (.t 5) .any,none⟩,
 ⟨none,.store 64 (.t 4) (.t 48) .any,none⟩]
abbrev zz57_c:ACode:=.seq (.reg false zz57_r0) (.seq (.reg false zz57_r1) (.seq (.seq (.reg false zz57_r2) (.block 0 (.loop zz57_l0))) (.seq (.reg false zz57_r7) (.seq (.reg false zz57_r8) (.seq (.reg true zz57_r9) (.seq (.reg false zz57_r10) (.ret)))))))
def zz57_F:AFunc:=⟨49,[.cell 4 true 64],zz57_c⟩
theorem zz57_cp:zi Try.prog [5] f_zz57=some zz57_F:=by kernel_rfl
-- loop 0: [4, 5, 6, 7, 13, 14]
abbrev zz42_r0:List AI:=[
 ⟨some 2,.box 3 (.t 0),none⟩,
 ⟨some 4,.gn (.alloc (zr 64 (.int .u8 0)++[(.int .i64 0),(.bool false)])) [],none⟩,
 ⟨some 5,.gn (.alloc (zr 64 (.int .u8 0)++[(.int .i64 0),(.bool false)])) [],none⟩,
 ⟨some 6,.gn (.alloc [(.int .i64 0)]) [],none⟩]
abbrev zz42_r1:List AI:=[
 ⟨some 7,.gn (.alloc [.nilS]) [],none⟩]
abbrev zz42_r2:List AI:=[
 ⟨some 10,.load true 3 (.t 2) .any,none⟩,
 ⟨some 11,.mv false (.t 1),none⟩,
 ⟨some 12,.call (.c (.fn f_zz23)) [(.t 10),(.t 11)] 0,none⟩]
abbrev zz42_r3:List AI:=[
 ⟨some 8,.alloc (zr 64 (.int .u8 0)++[(.int .i64 0),(.bool false)]),none⟩,
 ⟨none,.store 66 (.t 8) (.t 13) .any,none⟩]
abbrev zz42_r4:List AI:=[
 ⟨some 9,.mv true (.t 14),none⟩]
abbrev zz42_r5:List AI:=[
 ⟨some 15,.mv false (.t 9),none⟩,
 ⟨some 16,.bin .neq (.t 15) (.c (.int .i64 0)),none⟩]
abbrev zz42_r6:List AI:=[
 ⟨some 17,.build (zr 64 (.int .u8 0)++[(.int .i64 0),(.bool false)]) [],none⟩,
 ⟨some 18,.build (zr 64 (.int .u8 0)++[(.int .i64 0),(.bool false)]) [],none⟩,
 ⟨some 19,.mv false (.t 9),none⟩,
 ⟨none,.store 66 (.t 4) (.t 17) .any,none⟩,
 ⟨none,.store 66 (.t 5) (.t 18) .any,none⟩,
 ⟨none,.store 1 (.t 6) (.t 19) .any,none⟩]
abbrev zz42_r7:List AI:=[
 ⟨some 20,.load false 1 (.t 7) .any,none⟩,
 ⟨some 21,.load true 66 (.t 8) .any,none⟩,
 ⟨some 22,.mkslice 66 1 (.agg (zr 64 (.int .u8 0)++[(.int .i64 0),(.bool false)])) [(0,(.t 21))],none⟩,
 ⟨some 23,.appG 66 80 (zr 64 (.int .u8 0)++[(.int .i64 0),(.bool false)]) (.t 20) (.t 22),none⟩,
 ⟨none,.store 1 (.t 7) (.t 23) .any,none⟩]
abbrev za3:ACode:=.seq (.reg false zz42_r3) (.reg false zz42_r4)
abbrev za4:ACode:=.block 1 (.seq (.seq (.reg false zz42_r5) (.cond (.t 16) (.seq (.reg false zz42_r6) (.ret)) (.skip))) (.reg false zz42_r7))
abbrev zz42_r8:List AI:=[
 ⟨some 24,.load false 1 (.t 7) .foreign,none⟩,
 ⟨some 25,.iaddr 66 (.t 24) (.c (.int .i64 1)),none⟩,
 ⟨some 26,.faddr 65 (.t 25),none⟩,
 ⟨some 27,.load false 1 (.t 26) .foreign,none⟩,
 ⟨some 28,.mv false (.t 27),none⟩,
 ⟨some 29,.load false 1 (.t 7) .foreign,some (28,true)⟩,
 ⟨some 30,.iaddr 66 (.t 29) (.c (.int .i64 0)),some (28,true)⟩,
 ⟨some 31,.faddr 65 (.t 30),some (28,true)⟩,
 ⟨some 32,.load false 1 (.t 31) .foreign,some (28,true)⟩,
 ⟨some 33,.not (.t 32),some (28,true)⟩,
 ⟨some 34,.mv false (.t 33),some (28,true)⟩,
 ⟨some 35,.load false 1 (.t 7) .foreign,some (34,false)⟩,
 ⟨some 36,.iaddr 66 (.t 35) (.c (.int .i64 1)),some (34,false)⟩,
 ⟨some 37,.faddr 0 (.t 36),some (34,false)⟩,
 ⟨some 38,.load true 64 (.t 37) .foreign,some (34,false)⟩,
 ⟨some 40,.load false 1 (.t 7) .foreign,some (34,false)⟩,
 ⟨some 41,.iaddr 66 (.t 40) (.c (.int .i64 0)),some (34,false)⟩,
 ⟨some 42,.faddr 0 (.t 41),some (34,false)⟩,
 ⟨some 43,.load true 64 (.t 42) .foreign,some (34,false)⟩,
 ⟨some 39,.call (.c (.fn f_zz55)) [(.t 38),(.c (.int .i64 0))] 1,some (34,false)⟩,
 ⟨some 44,.call (.c (.fn f_zz55)) [(.t 43),(.c (.int .i64 0))] 1,some (34,false)⟩,
 ⟨some 45,.bin .gtr (.t 39) (.t 44),some (34,false)⟩,
 ⟨some 46,.pick (.t 34) (.c (.bool true)) (.t 45),some (28,true)⟩,
 ⟨some 47,.pick (.t 28) (.t 46) (.c (.bool false)),none⟩]
abbrev zz42_r9:List AI:=[
 ⟨some 48,.load false 1 (.t 7) .foreign,none⟩,
 ⟨some 49,.iaddr 66 (.t 48) (.c (.int .i64 1)),none⟩,
 ⟨some 50,.load true 66 (.t 49) .foreign,none⟩,
 ⟨some 51,.load false 1 (.t 7) .foreign,none⟩,
 ⟨some 52,.iaddr 66 (.t 51) (.c (.int .i64 0)),none⟩,
 ⟨some 53,.load true 66 (.t 52) .foreign,none⟩,
 ⟨none,.kp [(.ld false 1 (.t 7)),(.ld true 66 (.t 52))] (.store 66 (.t 4) (.t 50) .gp),none⟩,
 ⟨none,.store 66 (.t 5) (.t 53) .gp,none⟩,
 ⟨none,.store 1 (.t 6) (.c (.int .i64 0)) .gp,none⟩]
abbrev zz42_r10:List AI:=[
 ⟨some 54,.load false 1 (.t 7) .foreign,none⟩,
 ⟨some 55,.iaddr 66 (.t 54) (.c (.int .i64 0)),none⟩,
 ⟨some 56,.load true 66 (.t 55) .foreign,none⟩,
 ⟨some 57,.load false 1 (.t 7) .foreign,none⟩,
 ⟨some 58,.iaddr 66 (.t 57) (.c (.int .i64 1)),none⟩,
 ⟨some 59,.load true 66 (.t 58) .foreign,none⟩,
 ⟨none,.kp [(.ld false 1 (.t 7)),(.ld true 66 (.t 58))] (.store 66 (.t 4) (.t 56) .gp),none⟩,
 ⟨none,.store 66 (.t 5) (.t 59) .gp,none⟩,
 ⟨none,.store 1 (.t 6) (.c (.int .i64 0)) .gp,none⟩]
abbrev zz42_c:ACode:=.seq (.reg false zz42_r0) (.seq (.reg false zz42_r1) (.seq (.seq (.reg false zz42_r2) (.block 0 (.rangeF (.t 12) [13,14] za3 za4))) (.seq (.seq (.reg true zz42_r8) (.cond (.t 47) (.seq (.reg true zz42_r9) (.ret)) (.skip))) (.seq (.reg true zz42_r10) (.ret)))))
def zz42_F:AFunc:=⟨60,[.cell 4 true 66,.cell 5 true 66,.cell 6 false 1],zz42_c⟩
theorem zz42_cp:zi Try.prog [4,5,6,7,23] f_zz42=some zz42_F:=by kernel_rfl
abbrev zz41_r0:List AI:=[
 ⟨some 3,.box 3 (.t 0),none⟩,
 ⟨some 4,.box 66 (.t 1),none⟩,
 ⟨some 5,.box 66 (.t 2),none⟩,
 ⟨some 6,.mv true (.c (.int .i64 0)),none⟩]
abbrev zz41_r1:List AI:=[
 ⟨some 7,.faddr 65 (.t 4),none⟩,
 ⟨some 8,.load false 1 (.t 7) .any,none⟩,
 ⟨some 9,.not (.t 8),none⟩,
 ⟨some 10,.mv false (.t 9),none⟩,
 ⟨some 11,.faddr 65 (.t 5),some (10,false)⟩,
 ⟨some 12,.load false 1 (.t 11) .any,some (10,false)⟩,
 ⟨some 13,.mv false (.t 12),some (10,false)⟩,
 ⟨some 14,.faddr 0 (.t 5),some (13,true)⟩,
 ⟨some 15,.load true 64 (.t 14) .any,some (13,true)⟩,
 ⟨some 16,.faddr 0 (.t 4),some (13,true)⟩,
 ⟨some 17,.load true 64 (.t 16) .any,some (13,true)⟩,
 ⟨some 18,.eqs false (kr 64 .i) (.t 15) (.t 17),some (13,true)⟩,
 ⟨some 19,.pick (.t 13) (.t 18) (.c (.bool false)),some (10,false)⟩,
 ⟨some 20,.pick (.t 10) (.c (.bool true)) (.t 19),none⟩]
abbrev zz41_r2:List AI:=[
 ⟨some 6,.mv true (.c (.int .i64 0)),none⟩]
abbrev zz41_r3:List AI:=[
 ⟨some 21,.load true 3 (.t 3) .any,none⟩,
 ⟨some 22,.faddr 64 (.t 5),none⟩,
 ⟨some 23,.load false 1 (.t 22) .any,none⟩,
 ⟨some 24,.faddr 0 (.t 4),none⟩,
 ⟨some 25,.load true 64 (.t 24) .any,none⟩,
 ⟨some 26,.call (.c (.fn f_zz32)) [(.t 21),(.t 23),(.t 25)] 0,none⟩,
 ⟨some 6,.mv true (.t 26),none⟩]
abbrev zz41_c:ACode:=.seq (.reg false zz41_r0) (.seq (.seq (.reg false zz41_r1) (.cond (.t 20) (.seq (.reg false zz41_r2) (.ret)) (.skip))) (.seq (.reg false zz41_r3) (.ret)))
def zz41_F:AFunc:=⟨27,[.tmp 6],zz41_c⟩
theorem zz41_cp:zi Try.prog [] f_zz41=some zz41_F:=by kernel_rfl
abbrev zz19_r0:List AI:=[
 ⟨some 6,.mv true (.c (.int .i64 0)),none⟩]
abbrev zz19_r1:List AI:=[
 ⟨some 15,.mv false (.t 0),none⟩,
 ⟨some 16,.nilck (.t 15),none⟩,
 ⟨some 17,.faddr 0 (.t 16),none⟩,
 ⟨some 18,.load true 3 (.t 17) .any,none⟩,
 ⟨some 19,.mv false (.t 1),none⟩,
 ⟨some 20,.call (.c (.fn f_zz42)) [(.t 18),(.t 19)] 0,none⟩,
 ⟨some 14,.mv false (.t 20),none⟩,
 ⟨some 21,.ext (.t 14) 0,none⟩,
 ⟨some 22,.ext (.t 14) 1,none⟩,
 ⟨some 23,.ext (.t 14) 2,none⟩,
 ⟨some 7,.alloc (zr 64 (.int .u8 0)++[(.int .i64 0),(.bool false)]),none⟩,
 ⟨some 8,.alloc (zr 64 (.int .u8 0)++[(.int .i64 0),(.bool false)]),none⟩,
 ⟨none,.store 66 (.t 7) (.t 21) .any,none⟩,
 ⟨none,.store 66 (.t 8) (.t 22) .any,none⟩,
 ⟨some 9,.mv true (.t 23),none⟩]
abbrev zz19_r2:List AI:=[
 ⟨some 24,.mv false (.t 9),none⟩,
 ⟨some 25,.bin .neq (.t 24) (.c (.int .i64 0)),none⟩]
abbrev zz19_r3:List AI:=[
 ⟨some 26,.mv false (.t 9),none⟩,
 ⟨some 6,.mv true (.t 26),none⟩]
abbrev zz19_r4:List AI:=[
 ⟨some 27,.mv false (.t 0),none⟩,
 ⟨some 28,.nilck (.t 27),none⟩,
 ⟨some 29,.faddr 0 (.t 28),none⟩,
 ⟨some 30,.load true 3 (.t 29) .foreign,none⟩,
 ⟨some 31,.load true 66 (.t 7) (.site 7),none⟩,
 ⟨some 32,.load true 66 (.t 8) (.site 8),none⟩,
 ⟨some 33,.call (.c (.fn f_zz41)) [(.t 30),(.t 31),(.t 32)] 2,none⟩,
 ⟨some 10,.mv true (.t 33),none⟩]
abbrev zz19_r5:List AI:=[
 ⟨some 34,.mv false (.t 10),none⟩,
 ⟨some 35,.bin .neq (.t 34) (.c (.int .i64 0)),none⟩]
abbrev zz19_r6:List AI:=[
 ⟨some 36,.mv false (.t 10),none⟩,
 ⟨some 6,.mv true (.t 36),none⟩]
abbrev zz19_r7:List AI:=[
 ⟨some 11,.mv true (.c (.int .u32 0)),none⟩]
abbrev zz19_r8:List AI:=[
 ⟨some 37,.faddr 65 (.t 7),none⟩,
 ⟨some 38,.load false 1 (.t 37) .any,none⟩]
abbrev zz19_r9:List AI:=[
 ⟨some 39,.faddr 0 (.t 7),none⟩,
 ⟨some 40,.load true 64 (.t 39) .any,none⟩,
 ⟨some 41,.call (.c (.fn f_zz55)) [(.t 40),(.c (.int .i64 0))] 0,none⟩,
 ⟨some 11,.mv true (.t 41),none⟩]
abbrev zz19_r10:List AI:=[
 ⟨some 42,.mv false (.t 11),none⟩,
 ⟨some 43,.bin .add (.t 42) (.c (.int .u32 1)),none⟩,
 ⟨some 44,.mv false (.t 2),none⟩,
 ⟨some 45,.call (.c (.fn f_zz57)) [(.t 43),(.t 44)] 0,none⟩,
 ⟨some 12,.alloc (zr 64 (.int .u8 0)),none⟩,
 ⟨none,.store 64 (.t 12) (.t 45) .any,none⟩]
abbrev zz19_r11:List AI:=[
 ⟨some 46,.mv false (.t 0),none⟩,
 ⟨some 47,.nilck (.t 46),none⟩,
 ⟨some 48,.faddr 0 (.t 47),none⟩,
 ⟨some 49,.load true 3 (.t 48) .foreign,none⟩,
 ⟨some 50,.mv false (.t 0),none⟩,
 ⟨some 51,.nilck (.t 50),none⟩,
 ⟨some 52,.faddr 0 (.t 51),none⟩,
 ⟨some 53,.faddr 1 (.t 52),none⟩,
 ⟨some 54,.load false 1 (.t 53) .foreign,none⟩,
 ⟨some 55,.mv false (.t 1),none⟩,
 ⟨some 56,.bin .mul (.c (.int .i64 2)) (.t 55),none⟩,
 ⟨some 57,.bin .add (.t 54) (.t 56),none⟩,
 ⟨some 58,.bin .add (.t 57) (.c (.int .i64 1)),none⟩,
 ⟨some 59,.load true 64 (.t 12) (.site 12),none⟩,
 ⟨some 60,.call (.c (.fn f_zz32)) [(.t 49),(.t 58),(.t 59)] 2,none⟩,
 ⟨some 13,.mv true (.t 60),none⟩]
abbrev zz19_r12:List AI:=[
 ⟨some 61,.mv false (.t 13),none⟩,
 ⟨some 62,.bin .neq (.t 61) (.c (.int .i64 0)),none⟩]
abbrev zz19_r13:List AI:=[
 ⟨some 63,.mv false (.t 13),none⟩,
 ⟨some 6,.mv true (.t 63),none⟩]
abbrev zz19_r14:List AI:=[
 ⟨some 64,.mv false (.t 0),none⟩,
 ⟨some 65,.nilck (.t 64),none⟩,
 ⟨some 66,.faddr 0 (.t 65),none⟩,
 ⟨some 67,.load true 3 (.t 66) .foreign,none⟩,
 ⟨some 68,.mv false (.t 0),none⟩,
 ⟨some 69,.nilck (.t 68),none⟩,
 ⟨some 70,.faddr 0 (.t 69),none⟩,
 ⟨some 71,.faddr 1 (.t 70),none⟩,
 ⟨some 72,.load false 1 (.t 71) .foreign,none⟩,
 ⟨some 73,.mv false (.t 1),none⟩,
 ⟨some 74,.bin .mul (.c (.int .i64 2)) (.t 73),none⟩,
 ⟨some 75,.bin .add (.t 72) (.t 74),none⟩,
 ⟨some 76,.load true 64 (.t 12) (.site 12),none⟩,
 ⟨some 77,.call (.c (.fn f_zz32)) [(.t 67),(.t 75),(.t 76)] 2,none⟩,
 ⟨some 6,.mv true (.t 77),none⟩]
abbrev zz19_c:ACode:=.seq (.reg false zz19_r0) (.seq (.reg false zz19_r1) (.seq (.seq (.reg false zz19_r2) (.cond (.t 25) (.seq (.reg false zz19_r3) (.ret)) (.skip))) (.seq (.seq (.reg true zz19_r4) (.seq (.reg false zz19_r5) (.cond (.t 35) (.seq (.reg false zz19_r6) (.ret)) (.skip)))) (.seq (.reg false zz19_r7) (.seq (.seq (.reg false zz19_r8) (.cond (.t 38) (.reg false zz19_r9) (.skip))) (.seq (.reg false zz19_r10) (.seq (.seq (.reg true zz19_r11) (.seq (.reg false zz19_r12) (.cond (.t 62) (.seq (.reg false zz19_r13) (.ret)) (.skip)))) (.seq (.reg true zz19_r14) (.ret)))))))))
def zz19_F:AFunc:=⟨78,[.tmp 6],zz19_c⟩
theorem zz19_cp:zi Try.prog [33,60,77] f_zz19=some zz19_F:=by kernel_rfl
abbrev zz23_r0:List AI:=[
 ⟨some 2,.gn (.box 3) [(.t 0)],none⟩,
 ⟨some 3,.gn (.box 1) [(.t 1)],none⟩,
 ⟨some 4,.mv true (.c .nilF),none⟩]
abbrev zz23_r1:List AI:=[
 ⟨some 5,.gd (.clo f_zz14) [(.t 2),(.t 3)],none⟩,
 ⟨some 4,.mv true (.t 5),none⟩]
abbrev zz23_c:ACode:=.seq (.reg false zz23_r0) (.seq (.reg false zz23_r1) (.ret))
def zz23_F:AFunc:=⟨6,[.tmp 4],zz23_c⟩
theorem zz23_cp:zi Try.prog [2,3,5] f_zz23=some zz23_F:=by kernel_rfl
abbrev zz55_r0:List AI:=[
 ⟨some 2,.box 64 (.t 0),none⟩,
 ⟨some 4,.mv true (.c (.int .u32 0)),none⟩]
abbrev zz55_r1:List AI:=[
 ⟨some 5,.mv false (.t 1),none⟩,
 ⟨some 6,.iaddrA 64 1 (.t 2) (.t 5),none⟩,
 ⟨some 7,.load false 1 (.t 6) (.site 2),none⟩,
 ⟨some 8,.conv .u32 (.t 7),none⟩,
 ⟨some 9,.bin .shl (.t 8) (.c (.int .u64 24)),none⟩,
 ⟨some 10,.mv false (.t 1),none⟩,
 ⟨some 11,.bin .add (.t 10) (.c (.int .i64 1)),none⟩,
 ⟨some 12,.iaddrA 64 1 (.t 2) (.t 11),none⟩,
 ⟨some 13,.load false 1 (.t 12) (.site 2),none⟩,
 ⟨some 14,.conv .u32 (.t 13),none⟩,
 ⟨some 15,.bin .shl (.t 14) (.c (.int .u64 16)),none⟩,
 ⟨some 16,.bin .or (.t 9) (.t 15),none⟩,
 ⟨some 17,.mv false (.t 1),none⟩,
 ⟨some 18,.bin .add (.t 17) (.c (.int .i64 2)),none⟩,
 ⟨some 19,.iaddrA 64 1 (.t 2) (.t 18),none⟩,
 ⟨some 20,.load false 1 (.t 19) (.site 2),none⟩,
 ⟨some 21,.conv .u32 (.t 20),none⟩,
 ⟨some 22,.bin .shl (.t 21) (.c (.int .u64 8)),none⟩,
 ⟨some 23,.bin .or (.t 16) (.t 22),none⟩,
 ⟨some 24,.mv false (.t 1),none⟩,
 ⟨some 25,.bin .add (.t 24) (.c (.int .i64 3)),none⟩,
 ⟨some 26,.iaddrA 64 1 (.t 2) (.t 25),none⟩,
 ⟨some 27,.load false 1 (.t 26) (.site 2),none⟩,
 ⟨some 28,.conv .u32 (.t 27),none⟩,
 ⟨some 29,.bin .or (.t 23) (.t 28),none⟩,
 ⟨some 4,.mv true (.t 29),none⟩]
abbrev zz55_c:ACode:=.seq (.reg false zz55_r0) (.seq (.reg true zz55_r1) (.ret))
def zz55_F:AFunc:=⟨30,[.tmp 4],zz55_c⟩
theorem zz55_cp:zi Try.prog [] f_zz55=some zz55_F:=by kernel_rfl
abbrev zz32_r0:List AI:=[
 ⟨some 3,.box 3 (.t 0),none⟩,
 ⟨some 5,.box 64 (.t 2),none⟩,
 ⟨some 6,.mv true (.c (.int .i64 0)),none⟩]
abbrev zz32_r1:List AI:=[
 ⟨some 8,.faddr 0 (.t 3),none⟩,
 ⟨some 9,.load false 1 (.t 8) .any,none⟩,
 ⟨some 10,.mv false (.t 1),none⟩,
 ⟨some 11,.load true 64 (.t 5) .any,none⟩,
 ⟨some 12,.call (.c (.fn f_zz33)) [(.t 9),(.t 10),(.t 11)] 0,none⟩,
 ⟨some 7,.mv true (.t 12),none⟩]
abbrev zz32_r2:List AI:=[
 ⟨some 13,.mv false (.t 7),none⟩,
 ⟨some 14,.bin .neq (.t 13) (.c (.int .i64 0)),none⟩]
abbrev zz32_r3:List AI:=[
 ⟨some 15,.mv false (.t 7),none⟩,
 ⟨some 6,.mv true (.t 15),none⟩]
abbrev zz32_r4:List AI:=[
 ⟨some 16,.faddr 0 (.t 3),none⟩,
 ⟨some 17,.load false 1 (.t 16) .any,none⟩,
 ⟨some 18,.call (.c (.fn f_zz45)) [(.t 17)] 0,none⟩,
 ⟨some 6,.mv true (.t 18),none⟩]
abbrev zz32_c:ACode:=.seq (.reg false zz32_r0) (.seq (.seq (.reg false zz32_r1) (.seq (.reg false zz32_r2) (.cond (.t 14) (.seq (.reg false zz32_r3) (.ret)) (.skip)))) (.seq (.reg false zz32_r4) (.ret)))
def zz32_F:AFunc:=⟨19,[.tmp 6],zz32_c⟩
theorem zz32_cp:zi Try.prog [] f_zz32=some zz32_F:=by kernel_rfl
-- loop 0: [0, 1, 2, 9]
abbrev zz14_r0:List AI:=[
 ⟨some 9,.mv false (.c (.int .i64 0)),none⟩]
abbrev zz14_r1:List AI:=[
 ⟨some 10,.bin .lss (.t 9) (.c (.int .i64 2)),none⟩]
abbrev zz14_r2:List AI:=[
 ⟨some 11,.mv false (.t 9),none⟩,
 ⟨some 4,.mv true (.t 11),none⟩]
abbrev zz14_r3:List AI:=[
 ⟨some 12,.faddr 1 (.t 1),none⟩,
 ⟨some 13,.load false 1 (.t 12) .any,none⟩,
 ⟨some 14,.load false 1 (.t 2) .any,none⟩,
 ⟨some 15,.bin .mul (.c (.int .i64 2)) (.t 14),none⟩,
 ⟨some 16,.bin .add (.t 13) (.t 15),none⟩,
 ⟨some 17,.mv false (.t 4),none⟩,
 ⟨some 18,.bin .add (.t 16) (.t 17),none⟩,
 ⟨some 5,.mv true (.t 18),none⟩]
abbrev zz14_r4:List AI:=[
 ⟨some 20,.faddr 0 (.t 1),none⟩,
 ⟨some 21,.load false 1 (.t 20) .any,none⟩,
 ⟨some 22,.mv false (.t 5),none⟩,
 ⟨some 23,.call (.c (.fn f_zz43)) [(.t 21),(.t 22)] 0,none⟩,
 ⟨some 19,.mv false (.t 23),none⟩,
 ⟨some 24,.ext (.t 19) 0,none⟩,
 ⟨some 25,.ext (.t 19) 1,none⟩,
 ⟨some 6,.alloc (zr 64 (.int .u8 0)),none⟩,
 ⟨none,.store 64 (.t 6) (.t 24) .any,none⟩,
 ⟨some 7,.mv true (.t 25),none⟩]
abbrev zz14_r5:List AI:=[
 ⟨some 26,.load true 64 (.t 6) .any,none⟩,
 ⟨some 27,.mv false (.t 5),none⟩,
 ⟨some 28,.build (zr 64 (.int .u8 0)++[(.int .i64 0),(.bool false)]) [(0,64,(.t 26)),(64,1,(.t 27))],none⟩,
 ⟨some 8,.alloc (zr 64 (.int .u8 0)++[(.int .i64 0),(.bool false)]),none⟩,
 ⟨none,.store 66 (.t 8) (.t 28) .any,none⟩]
abbrev zz14_r6:List AI:=[
 ⟨some 29,.mv false (.t 7),none⟩,
 ⟨some 30,.bin .eql (.t 29) (.c (.int .i64 0)),none⟩]
abbrev zz14_r7:List AI:=[
 ⟨some 31,.load true 64 (.t 6) (.site 6),none⟩,
 ⟨some 33,.load true 64 (.t 6) (.site 6),none⟩,
 ⟨some 32,.call (.c (.fn f_zz55)) [(.t 31),(.c (.int .i64 0))] 2,none⟩,
 ⟨some 34,.call (.c (.fn f_zz55)) [(.t 33),(.c (.int .i64 32))] 2,none⟩,
 ⟨some 35,.bin .eql (.t 32) (.t 34),none⟩,
 ⟨some 36,.mv false (.t 35),none⟩,
 ⟨some 37,.load true 64 (.t 6) (.site 6),some (36,true)⟩,
 ⟨some 38,.call (.c (.fn f_zz55)) [(.t 37),(.c (.int .i64 0))] 2,some (36,true)⟩,
 ⟨some 39,.bin .geq (.t 38) (.c (.int .u32 1)),some (36,true)⟩,
 ⟨some 40,.pick (.t 36) (.t 39) (.c (.bool false)),none⟩,
 ⟨some 41,.mv false (.t 40),none⟩,
 ⟨some 42,.iaddrA 64 1 (.t 6) (.c (.int .i64 36)),some (41,true)⟩,
 ⟨some 43,.load false 1 (.t 42) (.site 6),some (41,true)⟩,
 ⟨some 44,.bin .leq (.t 43) (.c (.int .u8 55)),some (41,true)⟩,
 ⟨some 45,.pick (.t 41) (.t 44) (.c (.bool false)),none⟩,
 ⟨some 46,.faddr 65 (.t 8),none⟩,
 ⟨none,.store 1 (.t 46) (.t 45) (.site 8),none⟩]
abbrev zz14_r8:List AI:=[
 ⟨some 47,.mv false (.t 7),none⟩,
 ⟨some 48,.bin .eql (.t 47) (.c (.int .i64 14)),none⟩]
abbrev zz14_r9:List AI:=[
 ⟨some 7,.mv true (.c (.int .i64 0)),none⟩]
abbrev zz14_r10:List AI:=[
 ⟨some 49,.mv false (.t 0),none⟩,
 ⟨some 50,.load true 66 (.t 8) .any,none⟩,
 ⟨some 51,.mv false (.t 7),none⟩,
 ⟨some 52,.call (.t 49) [(.t 50),(.t 51)] 0,none⟩,
 ⟨some 53,.not (.t 52),none⟩]
abbrev zz14_r11:List AI:=[
 ⟨some 54,.bin .add (.t 9) (.c (.int .i64 1)),none⟩,
 ⟨some 9,.mv false (.t 54),none⟩]
abbrev zz14_l0:ACode:=.seq (.reg false zz14_r1) (.seq (.cond (.t 10) (.skip) (.exit 0)) (.seq (.block 1 (.seq (.reg false zz14_r2) (.seq (.reg false zz14_r3) (.seq (.reg false zz14_r4) (.seq (.reg false zz14_r5) (.seq (.seq (.reg false zz14_r6) (.cond (.t 30) (.reg true zz14_r7) (.skip))) (.seq (.seq (.reg false zz14_r8) (.cond (.t 48) (.reg false zz14_r9) (.skip))) (.seq (.reg false zz14_r10) (.cond (.t 53) (.ret) (.skip)))))))))) (.reg false zz14_r11)))
abbrev zz14_c:ACode:=.seq (.reg false zz14_r0) (.block 0 (.loop zz14_l0))
def zz14_F:AFunc:=⟨55,[],zz14_c⟩
theorem zz14_cp:zi Try.prog [] f_zz14=some zz14_F:=by kernel_rfl
-- loop 0: [3, 4]
abbrev zz63_r0:List AI:=[
 ⟨some 2,.mv true (.c .nilS),none⟩]
abbrev zz63_r1:List AI:=[
 ⟨some 5,.mv false (.t 0),none⟩,
 ⟨some 6,.conv .u64 (.t 5),none⟩,
 ⟨some 7,.bin .shl (.t 6) (.c (.int .u64 1)),none⟩,
 ⟨some 8,.mv false (.t 0),none⟩,
 ⟨some 9,.bin .shr (.t 8) (.c (.int .u64 63)),none⟩,
 ⟨some 10,.conv .u64 (.t 9),none⟩,
 ⟨some 11,.bin .xor (.t 7) (.t 10),none⟩,
 ⟨some 3,.mv true (.t 11),none⟩]
abbrev zz63_r2:List AI:=[
 ⟨some 4,.mv true (.c .nilS),none⟩]
abbrev zz63_r3:List AI:=[
 ⟨some 12,.mv false (.t 3),none⟩,
 ⟨some 13,.bin .gtr (.t 12) (.c (.int .u64 127)),none⟩]
abbrev zz63_r4:List AI:=[
 ⟨some 16,.mv true (.t 4),none⟩,
 ⟨some 17,.mv false (.t 3),none⟩,
 ⟨some 18,.conv .u8 (.t 17),none⟩,
 ⟨some 19,.bin .or (.t 18) (.c (.int .u8 128)),none⟩,
 ⟨some 20,.mkslice 1 1 (.int .u8 0) [(0,(.t 19))],none⟩,
 ⟨some 21,.appG 1 1 [(.int .u8 0)] (.t 16) (.t 20),none⟩,
 ⟨some 4,.mv true (.t 21),none⟩]
abbrev zz63_r5:List AI:=[
 ⟨some 14,.mv false (.t 3),none⟩,
 ⟨some 15,.bin .shr (.t 14) (.c (.int .u64 7)),none⟩,
 ⟨some 3,.mv true (.t 15),none⟩]
abbrev zz63_l0:ACode:=.seq (.seq (.reg false zz63_r3) (.cond (.t 13) (.skip) (.exit 0))) (.seq (.block 1 (.reg false zz63_r4)) (.reg false zz63_r5))
abbrev zz63_r6:List AI:=[
 ⟨some 22,.mv true (.t 4),none⟩,
 ⟨some 23,.mv false (.t 3),none⟩,
 ⟨some 24,.conv .u8 (.t 23),none⟩,
 ⟨some 25,.mkslice 1 1 (.int .u8 0) [(0,(.t 24))],none⟩,
 ⟨some 26,.appG 1 1 [(.int .u8 0)] (.t 22) (.t 25),none⟩,
 ⟨some 2,.mv true (.t 26),none⟩]
abbrev zz63_c:ACode:=.seq (.reg false zz63_r0) (.seq (.reg false zz63_r1) (.seq (.reg false zz63_r2) (.seq (.block 0 (.loop zz63_l0)) (.seq (.reg false zz63_r6) (.ret)))))
def zz63_F:AFunc:=⟨27,[.tmp 2],zz63_c⟩
theorem zz63_cp:zi Try.prog [21,26] f_zz63=some zz63_F:=by kernel_rfl
-- loop 0: [1, 5, 11, 12, 13]
abbrev zz50_r0:List AI:=[
 ⟨some 4,.mv true (.c .nilS),none⟩]
abbrev zz50_r1:List AI:=[
 ⟨some 8,.mv false (.t 0),none⟩,
 ⟨some 9,.len false (.t 8),none⟩,
 ⟨some 10,.call (.c (.fn f_zz63)) [(.t 9)] 0,none⟩,
 ⟨some 5,.mv true (.t 10),none⟩]
abbrev zz50_r2:List AI:=[
 ⟨some 11,.mv false (.t 0),none⟩,
 ⟨some 12,.len false (.t 11),none⟩,
 ⟨some 13,.mv false (.c (.int .i64 0)),none⟩]
abbrev zz50_r3:List AI:=[
 ⟨some 14,.bin .lss (.t 13) (.t 12),none⟩]
abbrev zz50_r4:List AI:=[
 ⟨some 15,.iaddr 1 (.t 11) (.t 13),none⟩,
 ⟨some 16,.load false 1 (.t 15) .any,none⟩,
 ⟨some 7,.mv true (.t 16),none⟩]
abbrev zz50_r5:List AI:=[
 ⟨some 17,.mv true (.t 5),none⟩,
 ⟨some 18,.mv false (.t 1),none⟩,
 ⟨some 19,.mv false (.t 7),none⟩,
 ⟨some 20,.call (.t 18) [(.t 19)] 0,none⟩,
 ⟨some 21,.appG 1 1 [(.int .u8 0)] (.t 17) (.t 20),none⟩,
 ⟨some 5,.mv true (.t 21),none⟩]
abbrev zz50_r6:List AI:=[
 ⟨some 22,.bin .add (.t 13) (.c (.int .i64 1)),none⟩,
 ⟨some 13,.mv false (.t 22),none⟩]
abbrev zz50_l0:ACode:=.seq (.reg false zz50_r3) (.seq (.cond (.t 14) (.skip) (.exit 0)) (.seq (.block 1 (.seq (.reg false zz50_r4) (.reg false zz50_r5))) (.reg false zz50_r6)))
abbrev zz50_r7:List AI:=[
 ⟨some 23,.mv false (.t 5),none⟩,
 ⟨some 4,.mv true (.t 23),none⟩]
abbrev zz50_c:ACode:=.seq (.reg false zz50_r0) (.seq (.reg false zz50_r1) (.seq (.seq (.reg false zz50_r2) (.block 0 (.loop zz50_l0))) (.seq (.reg false zz50_r7) (.ret))))
def zz50_F:AFunc:=⟨24,[.tmp 4],zz50_c⟩
theorem zz50_cp:zi Try.prog [21] f_zz50=some zz50_F:=by kernel_rfl
abbrev zz61_r0:List AI:=[
 ⟨some 2,.mv true (.c .nilS),none⟩]
abbrev zz61_r1:List AI:=[
 ⟨some 3,.mv false (.t 0),none⟩,
 ⟨some 4,.call (.c (.fn f_zz50)) [(.t 3),(.c (.fn f_zz63))] 0,none⟩,
 ⟨some 2,.mv true (.t 4),none⟩]
abbrev zz61_c:ACode:=.seq (.reg false zz61_r0) (.seq (.reg false zz61_r1) (.ret))
def zz61_F:AFunc:=⟨5,[.tmp 2],zz61_c⟩
theorem zz61_cp:zi Try.prog [] f_zz61=some zz61_F:=by kernel_rfl
theorem fol:Try.prog.follows .mixedOrders=true:=by kernel_rfl
end
end Go.Proofs.Ytailhmffljoojaa
