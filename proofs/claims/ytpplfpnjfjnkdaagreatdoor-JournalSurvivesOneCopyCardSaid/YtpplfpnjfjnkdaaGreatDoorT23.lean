/-
 The functions' code in the evaluator's form,printed by a program of ours from the loaded program,and checked against it.
 Conditions: none.
-/
import Derived.Test.YtpplfpnjfjnkdaaGreatDoorProg
import Derived.KernelRfl
import Derived.Test.YtpplfpnjfjnkdaaGreatDoorEZ
namespace Go.Proofs.YtpplfpnjfjnkdaaGreatDoor
open Go Go.E2
noncomputable section
abbrev aI (d:Nat) (o:AOp):AI:=⟨some d,o,none⟩
abbrev aM (d s:Nat):AI:=⟨some d,.mv false (.t s),none⟩
abbrev aN (d s:Nat):AI:=⟨some d,.mv true (.t s),none⟩
abbrev aS (o:AOp):AI:=⟨none,o,none⟩
abbrev aT (d g:Nat) (o:AOp):AI:=⟨some d,o,some (g,true)⟩
abbrev aF (d g:Nat) (o:AOp):AI:=⟨some d,o,some (g,false)⟩
abbrev f_zz0:FuncId:=4
abbrev f_zz90:FuncId:=6
abbrev f_zz68:FuncId:=10
abbrev f_zz79:FuncId:=12
abbrev f_zz70:FuncId:=14
abbrev f_zz33:FuncId:=16
abbrev f_zz53:FuncId:=17
abbrev f_zz15:FuncId:=18
abbrev f_zz16:FuncId:=19
abbrev f_zz8:FuncId:=20
abbrev f_zz7:FuncId:=21
abbrev f_zz75:FuncId:=22
abbrev f_zz65:FuncId:=23
abbrev f_zz66:FuncId:=24
abbrev f_zz22:FuncId:=25
abbrev f_zz14:FuncId:=26
abbrev f_zz49:FuncId:=27
abbrev f_zz60:FuncId:=30
abbrev f_zz69:FuncId:=31
abbrev f_zz80:FuncId:=33
abbrev f_zz21:FuncId:=34
abbrev f_zz73:FuncId:=35
abbrev f_zz29:FuncId:=36
abbrev f_zz24:FuncId:=37
abbrev f_zz50:FuncId:=41
abbrev f_zz44:FuncId:=43
abbrev f_zz32:FuncId:=44
abbrev f_zz23:FuncId:=48
abbrev f_zz46:FuncId:=49
abbrev f_zz58:FuncId:=50
abbrev f_zz2:FuncId:=51
abbrev f_zz84:FuncId:=52
abbrev f_zz28:FuncId:=53
abbrev f_zz37:FuncId:=54
abbrev f_zz3:FuncId:=55
abbrev f_zz5:FuncId:=56
abbrev f_zz42:FuncId:=57
abbrev f_zz47:FuncId:=58
abbrev f_zz1:FuncId:=59
abbrev f_zz56:FuncId:=60
abbrev f_zz67:FuncId:=71
abbrev f_zz64:FuncId:=72
abbrev f_zz31:FuncId:=73
abbrev f_zz12:FuncId:=74
abbrev f_zz72:FuncId:=75
abbrev f_zz52:FuncId:=76
abbrev f_zz25:FuncId:=77
abbrev f_zz45:FuncId:=78
abbrev f_zz13:FuncId:=79
abbrev f_zz36:FuncId:=80
abbrev f_zz26:FuncId:=81
abbrev f_zz82:FuncId:=82
abbrev f_zz83:FuncId:=83
abbrev f_zz18:FuncId:=84
abbrev f_zz10:FuncId:=85
abbrev f_zz6:FuncId:=86
abbrev f_zz19:FuncId:=87
abbrev f_zz59:FuncId:=92
abbrev f_zz43:FuncId:=96
abbrev f_zz87:FuncId:=97
abbrev f_zz30:FuncId:=98
abbrev f_zz11:FuncId:=99
abbrev f_zz78:FuncId:=100
abbrev f_zz63:FuncId:=101
abbrev f_zz27:FuncId:=102
abbrev f_zz20:FuncId:=107
abbrev f_zz51:FuncId:=108
abbrev f_zz81:FuncId:=109
abbrev f_zz86:FuncId:=110
abbrev f_zz57:FuncId:=111
abbrev f_zz85:FuncId:=112
abbrev f_zz71:FuncId:=113
abbrev f_zz9:FuncId:=114
abbrev f_zz4:FuncId:=115
abbrev f_zz35:FuncId:=116
abbrev f_zz40:FuncId:=117
abbrev f_zz39:FuncId:=118
abbrev f_zz54:FuncId:=119
abbrev f_zz74:FuncId:=121
abbrev f_zz93:FuncId:=122
abbrev f_zz92:FuncId:=123
abbrev f_zz55:FuncId:=126
abbrev f_zz38:FuncId:=127
abbrev f_zz88:FuncId:=128
abbrev f_zz61:FuncId:=129
abbrev f_zz89:FuncId:=130
abbrev f_zz62:FuncId:=131
abbrev f_zz34:FuncId:=143
abbrev f_zz41:FuncId:=144
abbrev f_zz48:FuncId:=145
abbrev f_zz76:FuncId:=146
abbrev f_zz77:FuncId:=152
abbrev f_zz91:FuncId:=153
abbrev f_zz17:FuncId:=155
abbrev zz90_r0:List AI:=[
 aI 2 (.mv true (.c .nilP))]
abbrev zz90_r1:List AI:=[
 aM 3 0,
 aI 4 (.bin .lss (.t 3) (.c (.int .i64 1))),
 aM 5 4,
 aF 6 5 (.mv false (.t 0)),
 aF 7 5 (.bin .gtr (.t 6) (.c (.int .i64 65536))),
 aI 8 (.pick (.t 5) (.c (.bool true)) (.t 7))]
abbrev zz90_r2:List AI:=[
 aI 2 (.mv true (.c .nilP))]
abbrev zz90_r3:List AI:=[
 aM 9 0,
 aI 10 (.gn (.mkSl 65 65 (zr 64 (.int .u8 0)++[(.bool false)])) [(.t 9),(.t 9)]),
 aI 11 (.gn .mkM []),
 aI 12 (.build [.nilS,.nilM,(.int .i64 0),(.int .i64 0),(.bool false)] [(0,1,(.t 10)),(1,1,(.t 11)),(3,1,(.c (.int .i64 (-1))))]),
 aI 13 (.gn (.box 5) [(.t 12)]),
 aN 2 13]
abbrev zz90_c:ACode:=.seq (.reg false zz90_r0) (.seq (.seq (.reg false zz90_r1) (.cond (.t 8) (.seq (.reg false zz90_r2) (.ret)) (.skip))) (.seq (.reg false zz90_r3) (.ret)))
def zz90_F:AFunc:=⟨14,[.tmp 2],zz90_c⟩
theorem zz90_cp:ze Tryz.prog [13] f_zz90=some zz90_F:=by kernel_rfl
-- loop 0: [0, 19]
abbrev zz68_r0:List AI:=[
 aI 2 (.mv true (.c (.int .i64 0)))]
abbrev zz68_r1:List AI:=[
 aM 6 0,
 aI 7 (.call (.c (.fn f_zz60)) [(.t 6),(.c (.int .i64 0))] 0),
 aN 3 7]
abbrev zz68_r2:List AI:=[
 aM 8 3,
 aI 9 (.bin .eql (.t 8) (.c (.int .i64 0)))]
abbrev zz68_r3:List AI:=[
 aM 10 0,
 aI 11 (.call (.c (.fn f_zz69)) [(.t 10)] 0),
 aN 3 11]
abbrev zz68_r4:List AI:=[
 aM 12 3,
 aI 13 (.bin .neq (.t 12) (.c (.int .i64 0)))]
abbrev zz68_r5:List AI:=[
 aM 14 3,
 aN 2 14]
abbrev zz68_r6:List AI:=[
 aM 15 0,
 aI 16 (.nilck (.t 15)),
 aI 17 (.faddr 1 (.t 16)),
 aI 18 (.load false 1 (.t 17) .any),
 aI 19 (.gn .rng [(.t 18)])]
abbrev zz68_r7:List AI:=[
 aI 20 (.gn .nxt [(.t 19)]),
 aI 21 (.ext (.t 20) 0)]
abbrev zz68_r8:List AI:=[
 aI 22 (.gd .entry [(.t 19)]),
 aI 23 (.ext (.t 22) 0),
 aI 24 (.ext (.t 22) 1),
 aN 4 23,
 aN 5 24]
abbrev zz68_r9:List AI:=[
 aM 25 0,
 aI 26 (.nilck (.t 25)),
 aI 27 (.faddr 0 (.t 26)),
 aI 28 (.load false 1 (.t 27) .foreign),
 aM 29 4,
 aM 30 5,
 aM 31 5,
 aI 32 (.len false (.t 31)),
 aI 33 (.bin .sub (.t 32) (.c (.int .i64 1))),
 aI 34 (.iaddr 64 (.t 30) (.t 33)),
 aI 35 (.load true 64 (.t 34) .foreign),
 aI 36 (.build (zr 64 (.int .u8 0)++[(.bool false)]) [(0,64,(.t 35))]),
 aI 37 (.iaddr 65 (.t 28) (.t 29)),
 aS (.store 65 (.t 37) (.t 36) .gp)]
abbrev zz68_r10:List AI:=[
 aM 38 0,
 aI 39 (.nilck (.t 38)),
 aI 40 (.faddr 1 (.t 39)),
 aI 41 (.load false 1 (.t 40) .any),
 aM 42 4,
 aS (.gd (.mdel [.i]) [(.t 41),(.t 42)])]
abbrev zz68_l0:ACode:=.seq (.reg false zz68_r7) (.seq (.cond (.t 21) (.skip) (.exit 0)) (.block 1 (.seq (.reg false zz68_r8) (.seq (.reg true zz68_r9) (.reg false zz68_r10)))))
abbrev zz68_r11:List AI:=[
 aI 2 (.mv true (.c (.int .i64 0)))]
abbrev zz68_c:ACode:=.seq (.reg false zz68_r0) (.seq (.reg false zz68_r1) (.seq (.seq (.reg false zz68_r2) (.cond (.t 9) (.reg false zz68_r3) (.skip))) (.seq (.seq (.reg false zz68_r4) (.cond (.t 13) (.seq (.reg false zz68_r5) (.ret)) (.skip))) (.seq (.seq (.reg false zz68_r6) (.block 0 (.loop zz68_l0))) (.seq (.reg false zz68_r11) (.ret))))))
def zz68_F:AFunc:=⟨43,[.tmp 2],zz68_c⟩
theorem zz68_cp:ze Tryz.prog [] f_zz68=some zz68_F:=by kernel_rfl
abbrev zz75_r0:List AI:=[
 aI 4 (.mv true (.c (.int .i64 0)))]
abbrev zz75_r1:List AI:=[
 aM 6 0,
 aM 7 1,
 aI 8 (.call (.c (.fn f_zz60)) [(.t 6),(.t 7)] 0),
 aN 5 8]
abbrev zz75_r2:List AI:=[
 aM 9 5,
 aI 10 (.bin .eql (.t 9) (.c (.int .i64 0)))]
abbrev zz75_r3:List AI:=[
 aM 11 0,
 aI 12 (.nilck (.t 11)),
 aI 13 (.faddr 0 (.t 12)),
 aI 14 (.load false 1 (.t 13) .any),
 aM 15 1,
 aI 16 (.build (zr 64 (.int .u8 0)++[(.bool false)]) [(64,1,(.c (.bool true)))]),
 aI 17 (.iaddr 65 (.t 14) (.t 15)),
 aS (.store 65 (.t 17) (.t 16) .any)]
abbrev zz75_r4:List AI:=[
 aM 18 5,
 aN 4 18]
abbrev zz75_c:ACode:=.seq (.reg false zz75_r0) (.seq (.reg false zz75_r1) (.seq (.seq (.reg false zz75_r2) (.cond (.t 10) (.reg false zz75_r3) (.skip))) (.seq (.reg false zz75_r4) (.ret))))
def zz75_F:AFunc:=⟨19,[.tmp 4],zz75_c⟩
theorem zz75_cp:ze Tryz.prog [] f_zz75=some zz75_F:=by kernel_rfl
abbrev zz65_r0:List AI:=[
 aI 6 (.mv true (.c (.int .i64 0)))]
abbrev zz65_r1:List AI:=[
 aM 9 0,
 aM 10 1,
 aI 11 (.call (.c (.fn f_zz60)) [(.t 9),(.t 10)] 0),
 aN 7 11]
abbrev zz65_r2:List AI:=[
 aM 12 7,
 aI 13 (.bin .neq (.t 12) (.c (.int .i64 0)))]
abbrev zz65_r3:List AI:=[
 aM 14 7,
 aN 6 14]
abbrev zz65_r4:List AI:=[
 aM 15 2,
 aI 16 (.bin .lss (.t 15) (.c (.int .i64 0))),
 aM 17 16,
 aF 18 17 (.mv false (.t 2)),
 aF 19 17 (.bin .geq (.t 18) (.c (.int .i64 512))),
 aI 20 (.pick (.t 17) (.c (.bool true)) (.t 19))]
abbrev zz65_r5:List AI:=[
 aI 6 (.mv true (.c (.int .i64 1)))]
abbrev zz65_r6:List AI:=[
 aM 21 0,
 aI 22 (.nilck (.t 21)),
 aI 23 (.faddr 0 (.t 22)),
 aI 24 (.load false 1 (.t 23) .any),
 aM 25 1,
 aI 26 (.iaddr 65 (.t 24) (.t 25)),
 aI 27 (.load true 65 (.t 26) .any),
 aI 8 (.alloc (zr 64 (.int .u8 0)++[(.bool false)])),
 aS (.store 65 (.t 8) (.t 27) .any)]
abbrev zz65_r7:List AI:=[
 aI 28 (.load true 65 (.t 8) .any),
 aI 29 (.build (zr 64 (.int .u8 0)++[(.bool false)]) [(64,1,(.c (.bool true)))]),
 aI 30 (.eqs true (kr 64 .i++[.b]) (.t 28) (.t 29))]
abbrev zz65_r8:List AI:=[
 aM 31 0,
 aI 32 (.nilck (.t 31)),
 aI 33 (.faddr 0 (.t 32)),
 aI 34 (.load false 1 (.t 33) .foreign),
 aM 35 1,
 aM 36 2,
 aI 37 (.bin .quo (.t 36) (.c (.int .i64 8))),
 aI 38 (.iaddr 65 (.t 34) (.t 35)),
 aI 39 (.faddr 0 (.t 38)),
 aI 40 (.iaddrA 64 1 (.t 39) (.t 37)),
 aI 41 (.load false 1 (.t 40) .foreign),
 aM 42 2,
 aI 43 (.bin .rem (.t 42) (.c (.int .i64 8))),
 aI 44 (.bin .shl (.c (.int .u8 1)) (.t 43)),
 aI 45 (.bin .xor (.t 41) (.t 44)),
 aI 46 (.iaddr 65 (.t 34) (.t 35)),
 aI 47 (.faddr 0 (.t 46)),
 aI 48 (.iaddrA 64 1 (.t 47) (.t 37)),
 aS (.store 1 (.t 48) (.t 45) .gp)]
abbrev zz65_r9:List AI:=[
 aI 6 (.mv true (.c (.int .i64 0)))]
abbrev zz65_c:ACode:=.seq (.reg false zz65_r0) (.seq (.seq (.reg false zz65_r1) (.seq (.reg false zz65_r2) (.cond (.t 13) (.seq (.reg false zz65_r3) (.ret)) (.skip)))) (.seq (.seq (.reg false zz65_r4) (.cond (.t 20) (.seq (.reg false zz65_r5) (.ret)) (.skip))) (.seq (.seq (.reg false zz65_r6) (.seq (.reg false zz65_r7) (.cond (.t 30) (.reg true zz65_r8) (.skip)))) (.seq (.reg false zz65_r9) (.ret)))))
def zz65_F:AFunc:=⟨49,[.tmp 6],zz65_c⟩
theorem zz65_cp:ze Tryz.prog [] f_zz65=some zz65_F:=by kernel_rfl
abbrev zz66_r0:List AI:=[
 aI 4 (.alloc (zr 64 (.int .u8 0))),
 aI 5 (.mv true (.c (.int .i64 0)))]
abbrev zz66_r1:List AI:=[
 aM 8 0,
 aM 9 1,
 aI 10 (.call (.c (.fn f_zz60)) [(.t 8),(.t 9)] 0),
 aN 6 10]
abbrev zz66_r2:List AI:=[
 aM 11 6,
 aI 12 (.bin .neq (.t 11) (.c (.int .i64 0)))]
abbrev zz66_r3:List AI:=[
 aI 13 (.build (zr 64 (.int .u8 0)) []),
 aM 14 6,
 aS (.store 64 (.t 4) (.t 13) .any),
 aN 5 14]
abbrev zz66_r4:List AI:=[
 aM 15 0,
 aI 16 (.nilck (.t 15)),
 aI 17 (.faddr 1 (.t 16)),
 aI 18 (.load false 1 (.t 17) .any),
 aM 19 1,
 aI 20 (.gd (.mlook [.i] .nilS false) [(.t 18),(.t 19)]),
 aN 7 20]
abbrev zz66_r5:List AI:=[
 aM 21 7,
 aI 22 (.len false (.t 21)),
 aI 23 (.bin .gtr (.t 22) (.c (.int .i64 0)))]
abbrev zz66_r6:List AI:=[
 aM 24 7,
 aM 25 7,
 aI 26 (.len false (.t 25)),
 aI 27 (.bin .sub (.t 26) (.c (.int .i64 1))),
 aI 28 (.iaddr 64 (.t 24) (.t 27)),
 aI 29 (.load true 64 (.t 28) .any),
 aS (.store 64 (.t 4) (.t 29) .any),
 aI 5 (.mv true (.c (.int .i64 0)))]
abbrev zz66_r7:List AI:=[
 aM 30 0,
 aI 31 (.nilck (.t 30)),
 aI 32 (.faddr 0 (.t 31)),
 aI 33 (.load false 1 (.t 32) .any),
 aM 34 1,
 aI 35 (.iaddr 65 (.t 33) (.t 34)),
 aI 36 (.faddr 64 (.t 35)),
 aI 37 (.load false 1 (.t 36) .any)]
abbrev zz66_r8:List AI:=[
 aI 38 (.build (zr 64 (.int .u8 0)) []),
 aS (.store 64 (.t 4) (.t 38) .any),
 aI 5 (.mv true (.c (.int .i64 14)))]
abbrev zz66_r9:List AI:=[
 aM 39 0,
 aI 40 (.nilck (.t 39)),
 aI 41 (.faddr 0 (.t 40)),
 aI 42 (.load false 1 (.t 41) .any),
 aM 43 1,
 aI 44 (.iaddr 65 (.t 42) (.t 43)),
 aI 45 (.faddr 0 (.t 44)),
 aI 46 (.load true 64 (.t 45) .any),
 aS (.store 64 (.t 4) (.t 46) .any),
 aI 5 (.mv true (.c (.int .i64 0)))]
abbrev zz66_c:ACode:=.seq (.reg false zz66_r0) (.seq (.seq (.reg false zz66_r1) (.seq (.reg false zz66_r2) (.cond (.t 12) (.seq (.reg false zz66_r3) (.ret)) (.skip)))) (.seq (.seq (.reg false zz66_r4) (.seq (.reg false zz66_r5) (.cond (.t 23) (.seq (.reg false zz66_r6) (.ret)) (.skip)))) (.seq (.seq (.reg false zz66_r7) (.cond (.t 37) (.seq (.reg false zz66_r8) (.ret)) (.skip))) (.seq (.reg false zz66_r9) (.ret)))))
def zz66_F:AFunc:=⟨47,[.cell 4 true 64,.tmp 5],zz66_c⟩
theorem zz66_cp:ze Tryz.prog [] f_zz66=some zz66_F:=by kernel_rfl
abbrev zz60_r0:List AI:=[
 aI 4 (.mv true (.c (.int .i64 0)))]
abbrev zz60_r1:List AI:=[
 aM 6 0,
 aI 7 (.nilck (.t 6)),
 aI 8 (.faddr 4 (.t 7)),
 aI 9 (.load false 1 (.t 8) .any),
 aN 5 9]
abbrev zz60_r2:List AI:=[
 aI 4 (.mv true (.c (.int .i64 12)))]
abbrev zz60_r3:List AI:=[
 aM 11 1,
 aI 12 (.bin .lss (.t 11) (.c (.int .i64 0))),
 aM 13 12,
 aF 14 13 (.mv false (.t 1)),
 aF 15 13 (.mv false (.t 0)),
 aF 16 13 (.nilck (.t 15)),
 aF 17 13 (.faddr 0 (.t 16)),
 aF 18 13 (.load false 1 (.t 17) .any),
 aF 19 13 (.len false (.t 18)),
 aF 20 13 (.bin .geq (.t 14) (.t 19)),
 aI 21 (.pick (.t 13) (.c (.bool true)) (.t 20)),
 aN 10 21]
abbrev zz60_r4:List AI:=[
 aI 4 (.mv true (.c (.int .i64 1)))]
abbrev zz60_b0:ACode:=.seq (.reg false zz60_r3) (.cond (.t 10) (.seq (.reg false zz60_r4) (.ret)) (.skip))
abbrev zz60_r5:List AI:=[
 aI 4 (.mv true (.c (.int .i64 0)))]
abbrev zz60_c:ACode:=.seq (.reg false zz60_r0) (.seq (.block 0 (.seq (.reg false zz60_r1) (.cond (.t 5) (.seq (.reg false zz60_r2) (.ret)) (zz60_b0)))) (.seq (.reg false zz60_r5) (.ret)))
def zz60_F:AFunc:=⟨22,[.tmp 4],zz60_c⟩
theorem zz60_cp:ze Tryz.prog [] f_zz60=some zz60_F:=by kernel_rfl
abbrev zz69_r0:List AI:=[
 aI 2 (.mv true (.c (.int .i64 0)))]
abbrev zz69_r1:List AI:=[
 aM 4 0,
 aI 5 (.nilck (.t 4)),
 aI 6 (.faddr 3 (.t 5)),
 aI 7 (.load false 1 (.t 6) .any),
 aI 8 (.bin .eql (.t 7) (.c (.int .i64 0))),
 aN 3 8]
abbrev zz69_r2:List AI:=[
 aM 9 0,
 aI 10 (.nilck (.t 9)),
 aI 11 (.faddr 4 (.t 10)),
 aS (.store 1 (.t 11) (.c (.bool true)) .any)]
abbrev zz69_r3:List AI:=[
 aI 2 (.mv true (.c (.int .i64 12)))]
abbrev zz69_b0:ACode:=.seq (.reg false zz69_r2) (.seq (.reg false zz69_r3) (.ret))
abbrev zz69_r4:List AI:=[
 aM 13 0,
 aI 14 (.nilck (.t 13)),
 aI 15 (.faddr 3 (.t 14)),
 aI 16 (.load false 1 (.t 15) .any),
 aI 17 (.bin .gtr (.t 16) (.c (.int .i64 0))),
 aN 12 17]
abbrev zz69_r5:List AI:=[
 aM 18 0,
 aI 19 (.nilck (.t 18)),
 aI 20 (.faddr 3 (.t 19)),
 aI 21 (.load false 1 (.t 20) .any),
 aI 22 (.bin .sub (.t 21) (.c (.int .i64 1))),
 aI 23 (.nilck (.t 18)),
 aI 24 (.faddr 3 (.t 23)),
 aS (.store 1 (.t 24) (.t 22) .any)]
abbrev zz69_b1:ACode:=.seq (.reg false zz69_r4) (.cond (.t 12) (.reg false zz69_r5) (.skip))
abbrev zz69_r6:List AI:=[
 aM 25 0,
 aI 26 (.nilck (.t 25)),
 aI 27 (.faddr 2 (.t 26)),
 aI 28 (.load false 1 (.t 27) .any),
 aI 29 (.bin .add (.t 28) (.c (.int .i64 1))),
 aI 30 (.nilck (.t 25)),
 aI 31 (.faddr 2 (.t 30)),
 aS (.store 1 (.t 31) (.t 29) .any)]
abbrev zz69_r7:List AI:=[
 aI 2 (.mv true (.c (.int .i64 0)))]
abbrev zz69_c:ACode:=.seq (.reg false zz69_r0) (.seq (.block 0 (.seq (.reg false zz69_r1) (.cond (.t 3) (zz69_b0) (zz69_b1)))) (.seq (.reg false zz69_r6) (.seq (.reg false zz69_r7) (.ret))))
def zz69_F:AFunc:=⟨32,[.tmp 2],zz69_c⟩
theorem zz69_cp:ze Tryz.prog [] f_zz69=some zz69_F:=by kernel_rfl
-- loop 0: [0, 1, 5, 25, 26, 27]
abbrev zz58_r0:List AI:=[
 aI 4 (.mv true (.c .nilP))]
abbrev zz58_r1:List AI:=[
 aM 9 0,
 aI 10 (.nilck (.t 9)),
 aI 11 (.faddr 0 (.t 10)),
 aI 12 (.load false 1 (.t 11) .any),
 aI 13 (.len false (.t 12)),
 aI 14 (.call (.c (.fn f_zz90)) [(.t 13)] 0),
 aN 5 14]
abbrev zz58_r2:List AI:=[
 aM 15 5,
 aI 16 (.nilck (.t 15)),
 aI 17 (.faddr 0 (.t 16)),
 aI 18 (.load false 1 (.t 17) .foreign),
 aM 19 0,
 aI 20 (.nilck (.t 19)),
 aI 21 (.faddr 0 (.t 20)),
 aI 22 (.load false 1 (.t 21) .foreign),
 aI 23 (.copy 65 (.t 18) (.t 22))]
abbrev zz58_r3:List AI:=[
 aM 24 0,
 aI 25 (.call (.c (.fn f_zz43)) [(.t 24)] 0),
 aI 26 (.len false (.t 25)),
 aI 27 (.mv false (.c (.int .i64 0)))]
abbrev zz58_r4:List AI:=[
 aI 28 (.bin .lss (.t 27) (.t 26))]
abbrev zz58_r5:List AI:=[
 aM 29 27,
 aI 30 (.iaddr 1 (.t 25) (.t 27)),
 aI 31 (.load false 1 (.t 30) .any),
 aN 6 29,
 aN 7 31]
abbrev zz58_r6:List AI:=[
 aI 8 (.mv true (.c (.int .i64 0)))]
abbrev zz58_r7:List AI:=[
 aM 32 1,
 aI 33 (.len false (.t 32)),
 aI 34 (.bin .gtr (.t 33) (.c (.int .i64 0)))]
abbrev zz58_r8:List AI:=[
 aM 35 1,
 aM 36 6,
 aM 37 1,
 aI 38 (.len false (.t 37)),
 aI 39 (.bin .rem (.t 36) (.t 38)),
 aI 40 (.iaddr 1 (.t 35) (.t 39)),
 aI 41 (.load false 1 (.t 40) .any),
 aN 8 41]
abbrev zz58_r9:List AI:=[
 aM 42 5,
 aI 43 (.nilck (.t 42)),
 aI 44 (.faddr 0 (.t 43)),
 aI 45 (.load false 1 (.t 44) .foreign),
 aM 46 7,
 aM 47 0,
 aI 48 (.nilck (.t 47)),
 aI 49 (.faddr 0 (.t 48)),
 aI 50 (.load false 1 (.t 49) .foreign),
 aM 51 7,
 aI 52 (.iaddr 65 (.t 50) (.t 51)),
 aI 53 (.load true 65 (.t 52) .foreign),
 aM 54 0,
 aI 55 (.nilck (.t 54)),
 aI 56 (.faddr 1 (.t 55)),
 aI 57 (.load false 1 (.t 56) .foreign),
 aM 58 7,
 aI 59 (.gd (.mlook [.i] .nilS false) [(.t 57),(.t 58)]),
 aM 60 8,
 aI 61 (.call (.c (.fn f_zz87)) [(.t 53),(.t 59),(.t 60)] 1),
 aI 62 (.iaddr 65 (.t 45) (.t 46)),
 aS (.store 65 (.t 62) (.t 61) .gp)]
abbrev zz58_r10:List AI:=[
 aI 63 (.bin .add (.t 27) (.c (.int .i64 1))),
 aM 27 63]
abbrev zz58_l0:ACode:=.seq (.reg false zz58_r4) (.seq (.cond (.t 28) (.skip) (.exit 0)) (.seq (.block 1 (.seq (.reg false zz58_r5) (.seq (.reg false zz58_r6) (.seq (.seq (.reg false zz58_r7) (.cond (.t 34) (.reg false zz58_r8) (.skip))) (.reg true zz58_r9))))) (.reg false zz58_r10)))
abbrev zz58_r11:List AI:=[
 aM 64 5,
 aN 4 64]
abbrev zz58_c:ACode:=.seq (.reg false zz58_r0) (.seq (.reg false zz58_r1) (.seq (.reg true zz58_r2) (.seq (.seq (.reg false zz58_r3) (.block 0 (.loop zz58_l0))) (.seq (.reg false zz58_r11) (.ret)))))
def zz58_F:AFunc:=⟨65,[.tmp 4],zz58_c⟩
theorem zz58_cp:ze Tryz.prog [] f_zz58=some zz58_F:=by kernel_rfl
-- loop 0: [1, 3, 4]
abbrev zz47_r0:List AI:=[
 aI 1 (.box 16 (.t 0)),
 aI 2 (.mv true (.c (.str [])))]
abbrev zz47_r1:List AI:=[
 aI 3 (.mv true (.c .nilS))]
abbrev zz47_r2:List AI:=[
 aI 4 (.mv true (.c (.int .i64 0)))]
abbrev zz47_r3:List AI:=[
 aM 5 4,
 aI 6 (.bin .lss (.t 5) (.c (.int .i64 16)))]
abbrev zz47_r4:List AI:=[
 aN 9 3,
 aM 10 4,
 aI 11 (.iaddrA 16 1 (.t 1) (.t 10)),
 aI 12 (.load false 1 (.t 11) .any),
 aI 13 (.mkslice 1 1 (.int .u8 0) [(0,(.t 12))]),
 aI 14 (.append 1 1 (.t 9) (.t 13)),
 aN 3 14]
abbrev zz47_r5:List AI:=[
 aM 7 4,
 aI 8 (.bin .add (.t 7) (.c (.int .i64 1))),
 aN 4 8]
abbrev zz47_l0:ACode:=.seq (.seq (.reg false zz47_r3) (.cond (.t 6) (.skip) (.exit 0))) (.seq (.block 1 (.reg false zz47_r4)) (.reg false zz47_r5))
abbrev zz47_r6:List AI:=[
 aM 15 3,
 aI 16 (.b2s (.t 15)),
 aN 2 16]
abbrev zz47_c:ACode:=.seq (.reg false zz47_r0) (.seq (.reg false zz47_r1) (.seq (.seq (.reg false zz47_r2) (.block 0 (.loop zz47_l0))) (.seq (.reg false zz47_r6) (.ret))))
def zz47_F:AFunc:=⟨17,[.tmp 2],zz47_c⟩
theorem zz47_cp:ze Tryz.prog [] f_zz47=some zz47_F:=by kernel_rfl
abbrev zz67_r0:List AI:=[
 aI 2 (.mv true (.c (.int .i64 0)))]
abbrev zz67_r1:List AI:=[
 aM 3 0,
 aI 4 (.nilck (.t 3)),
 aI 5 (.faddr 0 (.t 4)),
 aI 6 (.load false 1 (.t 5) .any),
 aI 7 (.len false (.t 6)),
 aN 2 7]
abbrev zz67_c:ACode:=.seq (.reg false zz67_r0) (.seq (.reg false zz67_r1) (.ret))
def zz67_F:AFunc:=⟨8,[.tmp 2],zz67_c⟩
theorem zz67_cp:ze Tryz.prog [] f_zz67=some zz67_F:=by kernel_rfl
abbrev zz64_r0:List AI:=[
 aI 2 (.mv true (.c (.bool false)))]
abbrev zz64_r1:List AI:=[
 aM 3 0,
 aI 4 (.nilck (.t 3)),
 aI 5 (.faddr 4 (.t 4)),
 aI 6 (.load false 1 (.t 5) .any),
 aN 2 6]
abbrev zz64_c:ACode:=.seq (.reg false zz64_r0) (.seq (.reg false zz64_r1) (.ret))
def zz64_F:AFunc:=⟨7,[.tmp 2],zz64_c⟩
theorem zz64_cp:ze Tryz.prog [] f_zz64=some zz64_F:=by kernel_rfl
abbrev zz59_r0:List AI:=[
 aI 5 (.box 64 (.t 2)),
 aI 6 (.mv true (.c (.int .i64 0)))]
abbrev zz59_r1:List AI:=[
 aM 8 0,
 aM 9 1,
 aI 10 (.call (.c (.fn f_zz60)) [(.t 8),(.t 9)] 0),
 aN 7 10]
abbrev zz59_r2:List AI:=[
 aM 11 7,
 aI 12 (.bin .eql (.t 11) (.c (.int .i64 0)))]
abbrev zz59_r3:List AI:=[
 aM 13 0,
 aI 14 (.call (.c (.fn f_zz69)) [(.t 13)] 0),
 aN 7 14]
abbrev zz59_r4:List AI:=[
 aM 15 7,
 aI 16 (.bin .eql (.t 15) (.c (.int .i64 0)))]
abbrev zz59_r5:List AI:=[
 aM 17 0,
 aI 18 (.nilck (.t 17)),
 aI 19 (.faddr 1 (.t 18)),
 aI 20 (.load false 1 (.t 19) .foreign),
 aM 21 1,
 aM 22 0,
 aI 23 (.nilck (.t 22)),
 aI 24 (.faddr 1 (.t 23)),
 aI 25 (.load false 1 (.t 24) .foreign),
 aM 26 1,
 aI 27 (.gd (.mlook [.i] .nilS false) [(.t 25),(.t 26)]),
 aI 28 (.load true 64 (.t 5) (.site 5)),
 aI 29 (.mkslice 64 1 (.agg (zr 64 (.int .u8 0))) [(0,(.t 28))]),
 aI 30 (.kp [(.ld false 1 (.t 19))] (.appG 64 64 (zr 64 (.int .u8 0)) (.t 27) (.t 29))),
 aS (.gd (.mset [.i]) [(.t 20),(.t 21),(.t 30)])]
abbrev zz59_r6:List AI:=[
 aM 31 7,
 aN 6 31]
abbrev zz59_c:ACode:=.seq (.reg false zz59_r0) (.seq (.reg false zz59_r1) (.seq (.seq (.reg false zz59_r2) (.cond (.t 12) (.reg false zz59_r3) (.skip))) (.seq (.seq (.reg false zz59_r4) (.cond (.t 16) (.reg true zz59_r5) (.skip))) (.seq (.reg false zz59_r6) (.ret)))))
def zz59_F:AFunc:=⟨32,[.tmp 6],zz59_c⟩
theorem zz59_cp:ze Tryz.prog [30] f_zz59=some zz59_F:=by kernel_rfl
-- loop 0: [3, 9]
abbrev zz43_r0:List AI:=[
 aI 2 (.mv true (.c .nilS))]
abbrev zz43_r1:List AI:=[
 aI 3 (.mv true (.c .nilS))]
abbrev zz43_r2:List AI:=[
 aM 5 0,
 aI 6 (.nilck (.t 5)),
 aI 7 (.faddr 1 (.t 6)),
 aI 8 (.load false 1 (.t 7) .any),
 aI 9 (.gn .rng [(.t 8)])]
abbrev zz43_r3:List AI:=[
 aI 10 (.gn .nxt [(.t 9)]),
 aI 11 (.ext (.t 10) 0)]
abbrev zz43_r4:List AI:=[
 aI 12 (.gd .entry [(.t 9)]),
 aI 13 (.ext (.t 12) 0),
 aN 4 13]
abbrev zz43_r5:List AI:=[
 aN 14 3,
 aM 15 4,
 aI 16 (.mkslice 1 1 (.int .i64 0) [(0,(.t 15))]),
 aI 17 (.appG 1 8 [(.int .i64 0)] (.t 14) (.t 16)),
 aN 3 17]
abbrev zz43_l0:ACode:=.seq (.reg false zz43_r3) (.seq (.cond (.t 11) (.skip) (.exit 0)) (.block 1 (.seq (.reg false zz43_r4) (.reg false zz43_r5))))
abbrev zz43_r6:List AI:=[
 aM 18 3,
 aI 19 (.call (.c (.fn f_zz35)) [(.t 18)] 0)]
abbrev zz43_r7:List AI:=[
 aM 20 3,
 aN 2 20]
abbrev zz43_c:ACode:=.seq (.reg false zz43_r0) (.seq (.reg false zz43_r1) (.seq (.seq (.reg false zz43_r2) (.block 0 (.loop zz43_l0))) (.seq (.reg false zz43_r6) (.seq (.reg false zz43_r7) (.ret)))))
def zz43_F:AFunc:=⟨21,[.tmp 2],zz43_c⟩
theorem zz43_cp:ze Tryz.prog [17] f_zz43=some zz43_F:=by kernel_rfl
abbrev zz87_r0:List AI:=[
 aI 3 (.box 65 (.t 0)),
 aI 6 (.alloc (zr 64 (.int .u8 0)++[(.bool false)]))]
abbrev zz87_r1:List AI:=[
 aM 11 1,
 aI 12 (.len false (.t 11)),
 aN 7 12]
abbrev zz87_r2:List AI:=[
 aM 13 2,
 aM 14 7,
 aI 15 (.bin .add (.t 14) (.c (.int .i64 3))),
 aI 16 (.bin .rem (.t 13) (.t 15)),
 aM 17 7,
 aI 18 (.bin .add (.t 16) (.t 17)),
 aI 19 (.bin .add (.t 18) (.c (.int .i64 3))),
 aM 20 7,
 aI 21 (.bin .add (.t 20) (.c (.int .i64 3))),
 aI 22 (.bin .rem (.t 19) (.t 21)),
 aN 8 22]
abbrev zz87_r3:List AI:=[
 aM 24 8,
 aI 25 (.bin .eql (.t 24) (.c (.int .i64 0))),
 aN 23 25]
abbrev zz87_r4:List AI:=[
 aI 26 (.load true 65 (.t 3) .any),
 aS (.store 65 (.t 6) (.t 26) .any)]
abbrev zz87_r5:List AI:=[
 aM 28 8,
 aM 29 7,
 aI 30 (.bin .leq (.t 28) (.t 29)),
 aN 27 30]
abbrev zz87_r6:List AI:=[
 aM 31 1,
 aM 32 8,
 aI 33 (.bin .sub (.t 32) (.c (.int .i64 1))),
 aI 34 (.iaddr 64 (.t 31) (.t 33)),
 aI 35 (.load true 64 (.t 34) .any),
 aI 36 (.build (zr 64 (.int .u8 0)++[(.bool false)]) [(0,64,(.t 35))]),
 aS (.store 65 (.t 6) (.t 36) .any)]
abbrev zz87_r7:List AI:=[
 aM 38 8,
 aM 39 7,
 aI 40 (.bin .add (.t 39) (.c (.int .i64 1))),
 aI 41 (.bin .eql (.t 38) (.t 40)),
 aN 37 41]
abbrev zz87_r8:List AI:=[
 aI 42 (.build (zr 64 (.int .u8 0)++[(.bool false)]) [(64,1,(.c (.bool true)))]),
 aS (.store 65 (.t 6) (.t 42) .any)]
abbrev zz87_b0:ACode:=.seq (.reg false zz87_r7) (.cond (.t 37) (.seq (.reg false zz87_r8) (.ret)) (.skip))
abbrev zz87_b1:ACode:=.seq (.reg false zz87_r5) (.cond (.t 27) (.seq (.reg false zz87_r6) (.ret)) (zz87_b0))
abbrev zz87_r9:List AI:=[
 aI 43 (.faddr 0 (.t 3)),
 aI 44 (.load true 64 (.t 43) (.site 3)),
 aM 45 1,
 aM 46 7,
 aI 47 (.bin .sub (.t 46) (.c (.int .i64 1))),
 aI 48 (.iaddr 64 (.t 45) (.t 47)),
 aI 49 (.load true 64 (.t 48) .foreign),
 aI 9 (.gn (.alloc (zr 64 (.int .u8 0))) []),
 aI 10 (.gn (.alloc (zr 64 (.int .u8 0))) []),
 aS (.store 64 (.t 9) (.t 44) .gp),
 aS (.store 64 (.t 10) (.t 49) .gp)]
abbrev zz87_r10:List AI:=[
 aM 50 7,
 aI 51 (.bin .gtr (.t 50) (.c (.int .i64 1)))]
abbrev zz87_r11:List AI:=[
 aM 52 1,
 aM 53 7,
 aI 54 (.bin .sub (.t 53) (.c (.int .i64 2))),
 aI 55 (.iaddr 64 (.t 52) (.t 54)),
 aI 56 (.load true 64 (.t 55) .any),
 aS (.store 64 (.t 9) (.t 56) .any)]
abbrev zz87_r12:List AI:=[
 aI 57 (.load true 64 (.t 9) .any),
 aI 58 (.load true 64 (.t 10) .any),
 aI 59 (.eqs false (kr 64 .i) (.t 57) (.t 58))]
abbrev zz87_r13:List AI:=[
 aI 60 (.load true 64 (.t 10) .any),
 aI 61 (.build (zr 64 (.int .u8 0)++[(.bool false)]) [(0,64,(.t 60))]),
 aS (.store 65 (.t 6) (.t 61) .any)]
abbrev zz87_r14:List AI:=[
 aI 62 (.gd (.arrS 1 64 true false false) [(.t 10),(.c (.int .i64 32))]),
 aI 63 (.gd (.arrS 1 64 true false false) [(.t 9),(.c (.int .i64 32))]),
 aI 64 (.copy 1 (.t 62) (.t 63))]
abbrev zz87_r15:List AI:=[
 aI 65 (.load true 64 (.t 10) .any),
 aI 66 (.build (zr 64 (.int .u8 0)++[(.bool false)]) [(0,64,(.t 65))]),
 aS (.store 65 (.t 6) (.t 66) .any)]
abbrev zz87_c:ACode:=.seq (.reg false zz87_r0) (.seq (.reg false zz87_r1) (.seq (.seq (.reg false zz87_r2) (.block 0 (.seq (.reg false zz87_r3) (.cond (.t 23) (.seq (.reg false zz87_r4) (.ret)) (zz87_b1))))) (.seq (.reg true zz87_r9) (.seq (.seq (.reg false zz87_r10) (.cond (.t 51) (.reg false zz87_r11) (.skip))) (.seq (.seq (.reg false zz87_r12) (.cond (.t 59) (.seq (.reg false zz87_r13) (.ret)) (.skip))) (.seq (.reg true zz87_r14) (.seq (.reg false zz87_r15) (.ret))))))))
def zz87_F:AFunc:=⟨67,[.cell 6 true 65],zz87_c⟩
theorem zz87_cp:ze Tryz.prog [9,10] f_zz87=some zz87_F:=by kernel_rfl
abbrev zz63_r0:List AI:=[
 aI 4 (.alloc (zr 16 (.int .u8 0)))]
abbrev zz63_r1:List AI:=[
 aM 5 0,
 aM 6 1,
 aI 7 (.call (.c (.fn f_zz39)) [(.t 5),(.t 6)] 0),
 aI 8 (.call (.c (.fn f_zz40)) [(.t 7)] 0),
 aS (.store 16 (.t 4) (.t 8) .any)]
abbrev zz63_c:ACode:=.seq (.reg false zz63_r0) (.seq (.reg false zz63_r1) (.ret))
def zz63_F:AFunc:=⟨9,[.cell 4 true 16],zz63_c⟩
theorem zz63_cp:ze Tryz.prog [] f_zz63=some zz63_F:=by kernel_rfl
-- loop 0: [3, 6, 7, 8]
abbrev zz86_r0:List AI:=[
 aI 2 (.mv true (.c (.int .i64 0)))]
abbrev zz86_r1:List AI:=[
 aI 3 (.mv true (.c (.int .i64 0)))]
abbrev zz86_r2:List AI:=[
 aM 6 0,
 aI 7 (.len false (.t 6)),
 aI 8 (.mv false (.c (.int .i64 0)))]
abbrev zz86_r3:List AI:=[
 aI 9 (.bin .lss (.t 8) (.t 7))]
abbrev zz86_r4:List AI:=[
 aI 10 (.iaddr 1 (.t 6) (.t 8)),
 aI 11 (.load false 1 (.t 10) .any),
 aN 5 11]
abbrev zz86_r5:List AI:=[
 aM 12 5,
 aM 13 3,
 aI 14 (.bin .neq (.t 12) (.t 13))]
abbrev zz86_r6:List AI:=[
 aM 15 5,
 aN 2 15]
abbrev zz86_r7:List AI:=[
 aI 16 (.bin .add (.t 8) (.c (.int .i64 1))),
 aM 8 16]
abbrev zz86_l0:ACode:=.seq (.reg false zz86_r3) (.seq (.cond (.t 9) (.skip) (.exit 0)) (.seq (.block 1 (.seq (.reg false zz86_r4) (.seq (.reg false zz86_r5) (.cond (.t 14) (.seq (.reg false zz86_r6) (.ret)) (.skip))))) (.reg false zz86_r7)))
abbrev zz86_r8:List AI:=[
 aM 17 3,
 aN 2 17]
abbrev zz86_c:ACode:=.seq (.reg false zz86_r0) (.seq (.reg false zz86_r1) (.seq (.seq (.reg false zz86_r2) (.block 0 (.loop zz86_l0))) (.seq (.reg false zz86_r8) (.ret))))
def zz86_F:AFunc:=⟨18,[.tmp 2],zz86_c⟩
theorem zz86_cp:ze Tryz.prog [] f_zz86=some zz86_F:=by kernel_rfl
abbrev zz57_r0:List AI:=[
 aI 4 (.mv true (.c (.int .i64 0)))]
abbrev zz57_r1:List AI:=[
 aM 7 0,
 aI 8 (.call (.c (.fn f_zz74)) [(.t 7)] 0),
 aN 5 8]
abbrev zz57_r2:List AI:=[
 aM 9 1,
 aI 10 (.call (.c (.fn f_zz74)) [(.t 9)] 0),
 aN 6 10]
abbrev zz57_r3:List AI:=[
 aM 11 5]
abbrev zz57_r4:List AI:=[
 aM 12 6]
abbrev zz57_r5:List AI:=[
 aI 4 (.mv true (.c (.int .i64 0)))]
abbrev zz57_r6:List AI:=[
 aI 4 (.mv true (.c (.int .i64 (-1))))]
abbrev zz57_b0:ACode:=.seq (.seq (.reg false zz57_r4) (.cond (.t 12) (.seq (.reg false zz57_r5) (.ret)) (.skip))) (.seq (.reg false zz57_r6) (.ret))
abbrev zz57_r7:List AI:=[
 aM 13 6]
abbrev zz57_r8:List AI:=[
 aI 4 (.mv true (.c (.int .i64 1)))]
abbrev zz57_r9:List AI:=[
 aM 14 0,
 aM 15 1,
 aI 16 (.bin .lss (.t 14) (.t 15))]
abbrev zz57_r10:List AI:=[
 aI 4 (.mv true (.c (.int .i64 (-1))))]
abbrev zz57_r11:List AI:=[
 aM 17 0,
 aM 18 1,
 aI 19 (.bin .gtr (.t 17) (.t 18))]
abbrev zz57_r12:List AI:=[
 aI 4 (.mv true (.c (.int .i64 1)))]
abbrev zz57_r13:List AI:=[
 aI 4 (.mv true (.c (.int .i64 0)))]
abbrev zz57_c:ACode:=.seq (.reg false zz57_r0) (.seq (.reg false zz57_r1) (.seq (.reg false zz57_r2) (.seq (.seq (.reg false zz57_r3) (.cond (.t 11) (zz57_b0) (.skip))) (.seq (.seq (.reg false zz57_r7) (.cond (.t 13) (.seq (.reg false zz57_r8) (.ret)) (.skip))) (.seq (.seq (.reg false zz57_r9) (.cond (.t 16) (.seq (.reg false zz57_r10) (.ret)) (.skip))) (.seq (.seq (.reg false zz57_r11) (.cond (.t 19) (.seq (.reg false zz57_r12) (.ret)) (.skip))) (.seq (.reg false zz57_r13) (.ret))))))))
def zz57_F:AFunc:=⟨20,[.tmp 4],zz57_c⟩
theorem zz57_cp:ze Tryz.prog [] f_zz57=some zz57_F:=by kernel_rfl
-- loop 0: [2, 3, 4, 5]
abbrev zz40_r0:List AI:=[
 aI 2 (.alloc (zr 16 (.int .u8 0)))]
abbrev zz40_r1:List AI:=[
 aM 6 0,
 aI 7 (.call (.c (.fn f_zz55)) [(.t 6)] 0),
 aI 3 (.alloc (zr 32 (.int .u8 0))),
 aS (.store 32 (.t 3) (.t 7) .any)]
abbrev zz40_r2:List AI:=[
 aI 8 (.build (zr 16 (.int .u8 0)) []),
 aI 4 (.alloc (zr 16 (.int .u8 0))),
 aS (.store 16 (.t 4) (.t 8) .any)]
abbrev zz40_r3:List AI:=[
 aI 5 (.mv true (.c (.int .i64 0)))]
abbrev zz40_r4:List AI:=[
 aM 9 5,
 aI 10 (.bin .lss (.t 9) (.c (.int .i64 16)))]
abbrev zz40_r5:List AI:=[
 aM 13 5,
 aM 14 5,
 aI 15 (.iaddrA 32 1 (.t 3) (.t 14)),
 aI 16 (.load false 1 (.t 15) .any),
 aI 17 (.iaddrA 16 1 (.t 4) (.t 13)),
 aS (.store 1 (.t 17) (.t 16) .any)]
abbrev zz40_r6:List AI:=[
 aM 11 5,
 aI 12 (.bin .add (.t 11) (.c (.int .i64 1))),
 aN 5 12]
abbrev zz40_l0:ACode:=.seq (.seq (.reg false zz40_r4) (.cond (.t 10) (.skip) (.exit 0))) (.seq (.block 1 (.reg false zz40_r5)) (.reg false zz40_r6))
abbrev zz40_r7:List AI:=[
 aI 18 (.load true 16 (.t 4) .any),
 aS (.store 16 (.t 2) (.t 18) .any)]
abbrev zz40_c:ACode:=.seq (.reg false zz40_r0) (.seq (.reg false zz40_r1) (.seq (.reg false zz40_r2) (.seq (.seq (.reg false zz40_r3) (.block 0 (.loop zz40_l0))) (.seq (.reg false zz40_r7) (.ret)))))
def zz40_F:AFunc:=⟨19,[.cell 2 true 16],zz40_c⟩
theorem zz40_cp:ze Tryz.prog [] f_zz40=some zz40_F:=by kernel_rfl
-- loop 0: [1, 5, 6]
abbrev zz39_r0:List AI:=[
 aI 4 (.mv true (.c .nilS))]
abbrev zz39_r1:List AI:=[
 aM 7 0,
 aI 8 (.conv .u8 (.t 7)),
 aI 9 (.mkslice 1 1 (.int .u8 0) [(0,(.t 8))]),
 aN 5 9]
abbrev zz39_r2:List AI:=[
 aI 6 (.mv true (.c (.int .i64 0)))]
abbrev zz39_r3:List AI:=[
 aM 10 6,
 aM 11 1,
 aI 12 (.len false (.t 11)),
 aI 13 (.bin .lss (.t 10) (.t 12))]
abbrev zz39_r4:List AI:=[
 aN 16 5,
 aM 17 1,
 aM 18 6,
 aI 19 (.iaddr 1 (.t 17) (.t 18)),
 aI 20 (.load false 1 (.t 19) .any),
 aI 21 (.call (.c (.fn f_zz38)) [(.t 20)] 0),
 aI 22 (.append 1 1 (.t 16) (.t 21)),
 aN 5 22]
abbrev zz39_r5:List AI:=[
 aM 14 6,
 aI 15 (.bin .add (.t 14) (.c (.int .i64 1))),
 aN 6 15]
abbrev zz39_l0:ACode:=.seq (.seq (.reg false zz39_r3) (.cond (.t 13) (.skip) (.exit 0))) (.seq (.block 1 (.reg false zz39_r4)) (.reg false zz39_r5))
abbrev zz39_r6:List AI:=[
 aM 23 5,
 aN 4 23]
abbrev zz39_c:ACode:=.seq (.reg false zz39_r0) (.seq (.reg false zz39_r1) (.seq (.seq (.reg false zz39_r2) (.block 0 (.loop zz39_l0))) (.seq (.reg false zz39_r6) (.ret))))
def zz39_F:AFunc:=⟨24,[.tmp 4],zz39_c⟩
theorem zz39_cp:ze Tryz.prog [] f_zz39=some zz39_F:=by kernel_rfl
-- loop 0: [3, 4]
abbrev zz54_r0:List AI:=[
 aI 2 (.mv true (.c .nilS))]
abbrev zz54_r1:List AI:=[
 aM 5 0,
 aI 6 (.conv .u64 (.t 5)),
 aI 7 (.bin .mul (.t 6) (.c (.int .u64 2))),
 aN 3 7]
abbrev zz54_r2:List AI:=[
 aM 8 0,
 aI 9 (.bin .lss (.t 8) (.c (.int .i64 0)))]
abbrev zz54_r3:List AI:=[
 aM 10 0,
 aI 11 (.bin .sub (.c (.int .i64 (-1))) (.t 10)),
 aI 12 (.conv .u64 (.t 11)),
 aI 13 (.bin .mul (.t 12) (.c (.int .u64 2))),
 aI 14 (.bin .add (.t 13) (.c (.int .u64 1))),
 aN 3 14]
abbrev zz54_r4:List AI:=[
 aI 4 (.mv true (.c .nilS))]
abbrev zz54_r5:List AI:=[
 aM 15 3,
 aI 16 (.bin .geq (.t 15) (.c (.int .u64 128)))]
abbrev zz54_r6:List AI:=[
 aN 17 4,
 aM 18 3,
 aI 19 (.bin .rem (.t 18) (.c (.int .u64 128))),
 aI 20 (.conv .u8 (.t 19)),
 aI 21 (.bin .add (.t 20) (.c (.int .u8 128))),
 aI 22 (.mkslice 1 1 (.int .u8 0) [(0,(.t 21))]),
 aI 23 (.appG 1 1 [(.int .u8 0)] (.t 17) (.t 22)),
 aN 4 23]
abbrev zz54_r7:List AI:=[
 aM 24 3,
 aI 25 (.bin .quo (.t 24) (.c (.int .u64 128))),
 aN 3 25]
abbrev zz54_l0:ACode:=.seq (.seq (.reg false zz54_r5) (.cond (.t 16) (.skip) (.exit 0))) (.block 1 (.seq (.reg false zz54_r6) (.reg false zz54_r7)))
abbrev zz54_r8:List AI:=[
 aN 26 4,
 aM 27 3,
 aI 28 (.conv .u8 (.t 27)),
 aI 29 (.mkslice 1 1 (.int .u8 0) [(0,(.t 28))]),
 aI 30 (.appG 1 1 [(.int .u8 0)] (.t 26) (.t 29)),
 aN 2 30]
abbrev zz54_c:ACode:=.seq (.reg false zz54_r0) (.seq (.reg false zz54_r1) (.seq (.seq (.reg false zz54_r2) (.cond (.t 9) (.reg false zz54_r3) (.skip))) (.seq (.reg false zz54_r4) (.seq (.block 0 (.loop zz54_l0)) (.seq (.reg false zz54_r8) (.ret))))))
def zz54_F:AFunc:=⟨31,[.tmp 2],zz54_c⟩
theorem zz54_cp:ze Tryz.prog [23,30] f_zz54=some zz54_F:=by kernel_rfl
abbrev zz74_r0:List AI:=[
 aI 2 (.mv true (.c (.bool false)))]
abbrev zz74_r1:List AI:=[
 aM 3 0,
 aM 4 0,
 aI 5 (.bin .neq (.t 3) (.t 4)),
 aN 2 5]
abbrev zz74_c:ACode:=.seq (.reg false zz74_r0) (.seq (.reg false zz74_r1) (.ret))
def zz74_F:AFunc:=⟨6,[.tmp 2],zz74_c⟩
theorem zz74_cp:ze Tryz.prog [] f_zz74=some zz74_F:=by kernel_rfl
-- loop 0: [4, 5, 15, 16, 17]
abbrev zz93_r0:List AI:=[
 aI 4 (.alloc (zr 16 (.int .u8 0)))]
abbrev zz93_r1:List AI:=[
 aM 10 0,
 aI 11 (.conv .u8 (.t 10)),
 aI 12 (.mkslice 1 1 (.int .u8 0) [(0,(.t 11))]),
 aI 13 (.b2s (.t 12)),
 aI 5 (.alloc (zr 8 (.int .u32 0)++zr 64 (.int .u8 0)++[(.int .u64 0)])),
 aI 9 (.call (.c (.fn f_zz88)) [] 2),
 aI 14 (.call (.c (.fn f_zz61)) [(.t 9),(.t 13)] 2),
 aS (.store 73 (.t 5) (.t 14) (.site 5))]
abbrev zz93_r2:List AI:=[
 aM 15 1,
 aI 16 (.len false (.t 15)),
 aI 17 (.mv false (.c (.int .i64 0)))]
abbrev zz93_r3:List AI:=[
 aI 18 (.bin .lss (.t 17) (.t 16))]
abbrev zz93_r4:List AI:=[
 aI 19 (.iaddr 1 (.t 15) (.t 17)),
 aI 20 (.load false 1 (.t 19) .any),
 aN 7 20]
abbrev zz93_r5:List AI:=[
 aI 21 (.load true 73 (.t 5) (.site 5)),
 aM 22 7,
 aI 23 (.call (.c (.fn f_zz89)) [(.t 22)] 2),
 aI 24 (.b2s (.t 23)),
 aI 25 (.call (.c (.fn f_zz61)) [(.t 21),(.t 24)] 2),
 aS (.store 73 (.t 5) (.t 25) (.site 5))]
abbrev zz93_r6:List AI:=[
 aI 26 (.bin .add (.t 17) (.c (.int .i64 1))),
 aM 17 26]
abbrev zz93_l0:ACode:=.seq (.reg false zz93_r3) (.seq (.cond (.t 18) (.skip) (.exit 0)) (.seq (.block 1 (.seq (.reg false zz93_r4) (.reg true zz93_r5))) (.reg false zz93_r6)))
abbrev zz93_r7:List AI:=[
 aI 27 (.load true 73 (.t 5) .any),
 aI 28 (.call (.c (.fn f_zz62)) [(.t 27)] 0),
 aI 8 (.gn (.alloc (zr 32 (.int .u8 0))) []),
 aS (.store 32 (.t 8) (.t 28) .any)]
abbrev zz93_r8:List AI:=[
 aI 29 (.gd (.arrS 1 32 false true false) [(.t 8),(.c (.int .i64 16))]),
 aI 30 (.gd (.s2a 16) [(.t 29)]),
 aI 31 (.load true 16 (.t 30) .any),
 aS (.store 16 (.t 4) (.t 31) .any)]
abbrev zz93_c:ACode:=.seq (.reg false zz93_r0) (.seq (.reg true zz93_r1) (.seq (.seq (.reg false zz93_r2) (.block 0 (.loop zz93_l0))) (.seq (.reg false zz93_r7) (.seq (.reg false zz93_r8) (.ret)))))
def zz93_F:AFunc:=⟨32,[.cell 4 true 16],zz93_c⟩
theorem zz93_cp:ze Tryz.prog [8] f_zz93=some zz93_F:=by kernel_rfl
-- loop 0: [3, 4]
abbrev zz92_r0:List AI:=[
 aI 2 (.mv true (.c .nilS))]
abbrev zz92_r1:List AI:=[
 aM 5 0,
 aI 6 (.conv .u64 (.t 5)),
 aI 7 (.bin .shl (.t 6) (.c (.int .u64 1))),
 aM 8 0,
 aI 9 (.bin .shr (.t 8) (.c (.int .u64 63))),
 aI 10 (.conv .u64 (.t 9)),
 aI 11 (.bin .xor (.t 7) (.t 10)),
 aN 3 11]
abbrev zz92_r2:List AI:=[
 aI 4 (.mv true (.c .nilS))]
abbrev zz92_r3:List AI:=[
 aM 12 3,
 aI 13 (.bin .gtr (.t 12) (.c (.int .u64 127)))]
abbrev zz92_r4:List AI:=[
 aN 16 4,
 aM 17 3,
 aI 18 (.conv .u8 (.t 17)),
 aI 19 (.bin .or (.t 18) (.c (.int .u8 128))),
 aI 20 (.mkslice 1 1 (.int .u8 0) [(0,(.t 19))]),
 aI 21 (.appG 1 1 [(.int .u8 0)] (.t 16) (.t 20)),
 aN 4 21]
abbrev zz92_r5:List AI:=[
 aM 14 3,
 aI 15 (.bin .shr (.t 14) (.c (.int .u64 7))),
 aN 3 15]
abbrev zz92_l0:ACode:=.seq (.seq (.reg false zz92_r3) (.cond (.t 13) (.skip) (.exit 0))) (.seq (.block 1 (.reg false zz92_r4)) (.reg false zz92_r5))
abbrev zz92_r6:List AI:=[
 aN 22 4,
 aM 23 3,
 aI 24 (.conv .u8 (.t 23)),
 aI 25 (.mkslice 1 1 (.int .u8 0) [(0,(.t 24))]),
 aI 26 (.appG 1 1 [(.int .u8 0)] (.t 22) (.t 25)),
 aN 2 26]
abbrev zz92_c:ACode:=.seq (.reg false zz92_r0) (.seq (.reg false zz92_r1) (.seq (.reg false zz92_r2) (.seq (.block 0 (.loop zz92_l0)) (.seq (.reg false zz92_r6) (.ret)))))
def zz92_F:AFunc:=⟨27,[.tmp 2],zz92_c⟩
theorem zz92_cp:ze Tryz.prog [21,26] f_zz92=some zz92_F:=by kernel_rfl
-- loop 0: [2, 3, 4, 5, 6, 7, 8]
-- loop 1: [2, 3, 4, 5, 7, 11]
-- loop 2: [2, 3, 4, 5]
-- loop 3: [2, 3, 12, 13]
abbrev zz55_r0:List AI:=[
 aI 2 (.alloc (zr 32 (.int .u8 0)))]
abbrev zz55_r1:List AI:=[
 aI 14 (.build (zr 8 (.int .u32 0)) [(0,1,(.c (.int .u32 1779033703))),(1,1,(.c (.int .u32 3144134277))),(2,1,(.c (.int .u32 1013904242))),(3,1,(.c (.int .u32 2773480762))),(4,1,(.c (.int .u32 1359893119))),(5,1,(.c (.int .u32 2600822924))),(6,1,(.c (.int .u32 528734635))),(7,1,(.c (.int .u32 1541459225)))]),
 aI 3 (.alloc (zr 8 (.int .u32 0))),
 aS (.store 8 (.t 3) (.t 14) .any)]
abbrev zz55_r2:List AI:=[
 aM 15 0,
 aI 16 (.call (.c (.fn f_zz34)) [(.t 15)] 0),
 aN 4 16]
abbrev zz55_r3:List AI:=[
 aI 5 (.mv true (.c (.int .i64 0)))]
abbrev zz55_r4:List AI:=[
 aM 17 5,
 aM 18 4,
 aI 19 (.len false (.t 18)),
 aI 20 (.bin .lss (.t 17) (.t 19))]
abbrev zz55_r5:List AI:=[
 aM 23 4,
 aM 24 5,
 aM 25 5,
 aI 26 (.bin .add (.t 25) (.c (.int .i64 64))),
 aI 27 (.sl 1 (.t 23) (some (.t 24)) (some (.t 26))),
 aI 28 (.call (.c (.fn f_zz41)) [(.t 27)] 0),
 aI 6 (.alloc (zr 64 (.int .u32 0))),
 aS (.store 64 (.t 6) (.t 28) .any)]
abbrev zz55_r6:List AI:=[
 aI 29 (.load true 8 (.t 3) .any),
 aI 7 (.alloc (zr 8 (.int .u32 0))),
 aS (.store 8 (.t 7) (.t 29) .any)]
abbrev zz55_r7:List AI:=[
 aI 8 (.mv true (.c (.int .i64 0)))]
abbrev zz55_r8:List AI:=[
 aM 30 8,
 aI 31 (.bin .lss (.t 30) (.c (.int .i64 64)))]
abbrev zz55_r9:List AI:=[
 aI 34 (.iaddrA 8 1 (.t 7) (.c (.int .i64 7))),
 aI 35 (.load false 1 (.t 34) (.site 7)),
 aI 36 (.iaddrA 8 1 (.t 7) (.c (.int .i64 4))),
 aI 37 (.load false 1 (.t 36) (.site 7)),
 aI 39 (.iaddrA 8 1 (.t 7) (.c (.int .i64 4))),
 aI 40 (.load false 1 (.t 39) (.site 7)),
 aI 43 (.iaddrA 8 1 (.t 7) (.c (.int .i64 4))),
 aI 44 (.load false 1 (.t 43) (.site 7)),
 aI 48 (.iaddrA 8 1 (.t 7) (.c (.int .i64 4))),
 aI 49 (.load false 1 (.t 48) (.site 7)),
 aI 50 (.iaddrA 8 1 (.t 7) (.c (.int .i64 5))),
 aI 51 (.load false 1 (.t 50) (.site 7)),
 aI 52 (.bin .and (.t 49) (.t 51)),
 aI 53 (.iaddrA 8 1 (.t 7) (.c (.int .i64 4))),
 aI 54 (.load false 1 (.t 53) (.site 7)),
 aI 55 (.bin .xor (.t 54) (.c (.int .u32 4294967295))),
 aI 56 (.iaddrA 8 1 (.t 7) (.c (.int .i64 6))),
 aI 57 (.load false 1 (.t 56) (.site 7)),
 aI 58 (.bin .and (.t 55) (.t 57)),
 aI 59 (.bin .xor (.t 52) (.t 58)),
 aM 61 8,
 aI 62 (.iaddrA 64 1 (.g 0) (.t 61)),
 aI 63 (.load false 1 (.t 62) .foreign),
 aM 65 8,
 aI 66 (.iaddrA 64 1 (.t 6) (.t 65)),
 aI 67 (.load false 1 (.t 66) (.site 6)),
 aI 38 (.call (.c (.fn f_zz48)) [(.t 37),(.c (.int .i64 6))] 1),
 aI 41 (.call (.c (.fn f_zz48)) [(.t 40),(.c (.int .i64 11))] 1),
 aI 42 (.bin .xor (.t 38) (.t 41)),
 aI 45 (.call (.c (.fn f_zz48)) [(.t 44),(.c (.int .i64 25))] 1),
 aI 46 (.bin .xor (.t 42) (.t 45)),
 aI 47 (.bin .add (.t 35) (.t 46)),
 aI 60 (.bin .add (.t 47) (.t 59)),
 aI 64 (.bin .add (.t 60) (.t 63)),
 aI 68 (.bin .add (.t 64) (.t 67)),
 aN 9 68]
abbrev zz55_r10:List AI:=[
 aI 69 (.iaddrA 8 1 (.t 7) (.c (.int .i64 0))),
 aI 70 (.load false 1 (.t 69) (.site 7)),
 aI 72 (.iaddrA 8 1 (.t 7) (.c (.int .i64 0))),
 aI 73 (.load false 1 (.t 72) (.site 7)),
 aI 76 (.iaddrA 8 1 (.t 7) (.c (.int .i64 0))),
 aI 77 (.load false 1 (.t 76) (.site 7)),
 aI 80 (.iaddrA 8 1 (.t 7) (.c (.int .i64 0))),
 aI 81 (.load false 1 (.t 80) (.site 7)),
 aI 82 (.iaddrA 8 1 (.t 7) (.c (.int .i64 1))),
 aI 83 (.load false 1 (.t 82) (.site 7)),
 aI 84 (.bin .and (.t 81) (.t 83)),
 aI 85 (.iaddrA 8 1 (.t 7) (.c (.int .i64 0))),
 aI 86 (.load false 1 (.t 85) (.site 7)),
 aI 87 (.iaddrA 8 1 (.t 7) (.c (.int .i64 2))),
 aI 88 (.load false 1 (.t 87) (.site 7)),
 aI 89 (.bin .and (.t 86) (.t 88)),
 aI 90 (.bin .xor (.t 84) (.t 89)),
 aI 91 (.iaddrA 8 1 (.t 7) (.c (.int .i64 1))),
 aI 92 (.load false 1 (.t 91) (.site 7)),
 aI 93 (.iaddrA 8 1 (.t 7) (.c (.int .i64 2))),
 aI 94 (.load false 1 (.t 93) (.site 7)),
 aI 95 (.bin .and (.t 92) (.t 94)),
 aI 96 (.bin .xor (.t 90) (.t 95)),
 aI 71 (.call (.c (.fn f_zz48)) [(.t 70),(.c (.int .i64 2))] 2),
 aI 74 (.call (.c (.fn f_zz48)) [(.t 73),(.c (.int .i64 13))] 2),
 aI 75 (.bin .xor (.t 71) (.t 74)),
 aI 78 (.call (.c (.fn f_zz48)) [(.t 77),(.c (.int .i64 22))] 2),
 aI 79 (.bin .xor (.t 75) (.t 78)),
 aI 97 (.bin .add (.t 79) (.t 96)),
 aN 10 97]
abbrev zz55_r11:List AI:=[
 aM 98 9,
 aM 99 10,
 aI 100 (.bin .add (.t 98) (.t 99)),
 aI 101 (.iaddrA 8 1 (.t 7) (.c (.int .i64 0))),
 aI 102 (.load false 1 (.t 101) .any),
 aI 103 (.iaddrA 8 1 (.t 7) (.c (.int .i64 1))),
 aI 104 (.load false 1 (.t 103) .any),
 aI 105 (.iaddrA 8 1 (.t 7) (.c (.int .i64 2))),
 aI 106 (.load false 1 (.t 105) .any),
 aI 107 (.iaddrA 8 1 (.t 7) (.c (.int .i64 3))),
 aI 108 (.load false 1 (.t 107) .any),
 aM 109 9,
 aI 110 (.bin .add (.t 108) (.t 109)),
 aI 111 (.iaddrA 8 1 (.t 7) (.c (.int .i64 4))),
 aI 112 (.load false 1 (.t 111) .any),
 aI 113 (.iaddrA 8 1 (.t 7) (.c (.int .i64 5))),
 aI 114 (.load false 1 (.t 113) .any),
 aI 115 (.iaddrA 8 1 (.t 7) (.c (.int .i64 6))),
 aI 116 (.load false 1 (.t 115) .any),
 aI 117 (.build (zr 8 (.int .u32 0)) [(0,1,(.t 100)),(1,1,(.t 102)),(2,1,(.t 104)),(3,1,(.t 106)),(4,1,(.t 110)),(5,1,(.t 112)),(6,1,(.t 114)),(7,1,(.t 116))]),
 aS (.store 8 (.t 7) (.t 117) .any)]
abbrev zz55_r12:List AI:=[
 aM 32 8,
 aI 33 (.bin .add (.t 32) (.c (.int .i64 1))),
 aN 8 33]
abbrev zz55_l0:ACode:=.seq (.seq (.reg false zz55_r8) (.cond (.t 31) (.skip) (.exit 2))) (.seq (.block 3 (.seq (.reg true zz55_r9) (.seq (.reg true zz55_r10) (.reg false zz55_r11)))) (.reg false zz55_r12))
abbrev zz55_r13:List AI:=[
 aI 11 (.mv true (.c (.int .i64 0)))]
abbrev zz55_r14:List AI:=[
 aM 118 11,
 aI 119 (.bin .lss (.t 118) (.c (.int .i64 8)))]
abbrev zz55_r15:List AI:=[
 aM 122 11,
 aM 123 11,
 aI 124 (.iaddrA 8 1 (.t 3) (.t 123)),
 aI 125 (.load false 1 (.t 124) (.site 3)),
 aM 126 11,
 aI 127 (.iaddrA 8 1 (.t 7) (.t 126)),
 aI 128 (.load false 1 (.t 127) (.site 7)),
 aI 129 (.bin .add (.t 125) (.t 128)),
 aI 130 (.iaddrA 8 1 (.t 3) (.t 122)),
 aS (.store 1 (.t 130) (.t 129) (.site 3))]
abbrev zz55_r16:List AI:=[
 aM 120 11,
 aI 121 (.bin .add (.t 120) (.c (.int .i64 1))),
 aN 11 121]
abbrev zz55_l1:ACode:=.seq (.seq (.reg false zz55_r14) (.cond (.t 119) (.skip) (.exit 4))) (.seq (.block 5 (.reg true zz55_r15)) (.reg false zz55_r16))
abbrev zz55_r17:List AI:=[
 aM 21 5,
 aI 22 (.bin .add (.t 21) (.c (.int .i64 64))),
 aN 5 22]
abbrev zz55_l2:ACode:=.seq (.seq (.reg false zz55_r4) (.cond (.t 20) (.skip) (.exit 0))) (.seq (.block 1 (.seq (.reg false zz55_r5) (.seq (.reg false zz55_r6) (.seq (.seq (.reg false zz55_r7) (.block 2 (.loop zz55_l0))) (.seq (.reg false zz55_r13) (.block 4 (.loop zz55_l1))))))) (.reg false zz55_r17))
abbrev zz55_r18:List AI:=[
 aI 12 (.alloc (zr 32 (.int .u8 0)))]
abbrev zz55_r19:List AI:=[
 aI 13 (.mv true (.c (.int .i64 0)))]
abbrev zz55_r20:List AI:=[
 aM 131 13,
 aI 132 (.bin .lss (.t 131) (.c (.int .i64 32)))]
abbrev zz55_r21:List AI:=[
 aM 135 13,
 aM 136 13,
 aI 137 (.bin .quo (.t 136) (.c (.int .i64 4))),
 aI 138 (.iaddrA 8 1 (.t 3) (.t 137)),
 aI 139 (.load false 1 (.t 138) .any),
 aM 140 13,
 aI 141 (.bin .rem (.t 140) (.c (.int .i64 4))),
 aI 142 (.bin .mul (.c (.int .i64 8)) (.t 141)),
 aI 143 (.bin .sub (.c (.int .i64 24)) (.t 142)),
 aI 144 (.bin .shr (.t 139) (.t 143)),
 aI 145 (.conv .u8 (.t 144)),
 aI 146 (.iaddrA 32 1 (.t 12) (.t 135)),
 aS (.store 1 (.t 146) (.t 145) .any)]
abbrev zz55_r22:List AI:=[
 aM 133 13,
 aI 134 (.bin .add (.t 133) (.c (.int .i64 1))),
 aN 13 134]
abbrev zz55_l3:ACode:=.seq (.seq (.reg false zz55_r20) (.cond (.t 132) (.skip) (.exit 6))) (.seq (.block 7 (.reg false zz55_r21)) (.reg false zz55_r22))
abbrev zz55_r23:List AI:=[
 aI 147 (.load true 32 (.t 12) .any),
 aS (.store 32 (.t 2) (.t 147) .any)]
abbrev zz55_c:ACode:=.seq (.reg false zz55_r0) (.seq (.reg false zz55_r1) (.seq (.reg false zz55_r2) (.seq (.seq (.reg false zz55_r3) (.block 0 (.loop zz55_l2))) (.seq (.reg false zz55_r18) (.seq (.seq (.reg false zz55_r19) (.block 6 (.loop zz55_l3))) (.seq (.reg false zz55_r23) (.ret)))))))
def zz55_F:AFunc:=⟨148,[.cell 2 true 32],zz55_c⟩
theorem zz55_cp:ze Tryz.prog [] f_zz55=some zz55_F:=by kernel_rfl
abbrev zz38_r0:List AI:=[
 aI 2 (.mv true (.c .nilS))]
abbrev zz38_r1:List AI:=[
 aM 3 0,
 aI 4 (.len true (.t 3)),
 aI 5 (.call (.c (.fn f_zz54)) [(.t 4)] 0),
 aM 6 0,
 aI 7 (.appG 1 1 [(.int .u8 0)] (.t 5) (.t 6)),
 aN 2 7]
abbrev zz38_c:ACode:=.seq (.reg false zz38_r0) (.seq (.reg false zz38_r1) (.ret))
def zz38_F:AFunc:=⟨8,[.tmp 2],zz38_c⟩
theorem zz38_cp:ze Tryz.prog [7] f_zz38=some zz38_F:=by kernel_rfl
abbrev zz88_r0:List AI:=[
 aI 0 (.alloc (zr 8 (.int .u32 0)++zr 64 (.int .u8 0)++[(.int .u64 0)]))]
abbrev zz88_r1:List AI:=[
 aI 1 (.build (zr 8 (.int .u32 0)) [(0,1,(.c (.int .u32 1779033703))),(1,1,(.c (.int .u32 3144134277))),(2,1,(.c (.int .u32 1013904242))),(3,1,(.c (.int .u32 2773480762))),(4,1,(.c (.int .u32 1359893119))),(5,1,(.c (.int .u32 2600822924))),(6,1,(.c (.int .u32 528734635))),(7,1,(.c (.int .u32 1541459225)))]),
 aI 2 (.build (zr 8 (.int .u32 0)++zr 64 (.int .u8 0)++[(.int .u64 0)]) [(0,8,(.t 1))]),
 aS (.store 73 (.t 0) (.t 2) .any)]
abbrev zz88_c:ACode:=.seq (.reg false zz88_r0) (.seq (.reg false zz88_r1) (.ret))
def zz88_F:AFunc:=⟨3,[.cell 0 true 73],zz88_c⟩
theorem zz88_cp:ze Tryz.prog [] f_zz88=some zz88_F:=by kernel_rfl
-- loop 0: [1, 2, 4]
abbrev zz61_r0:List AI:=[
 aI 2 (.gn (.box 73) [(.t 0)]),
 aI 4 (.alloc (zr 8 (.int .u32 0)++zr 64 (.int .u8 0)++[(.int .u64 0)]))]
abbrev zz61_r1:List AI:=[
 aM 7 1,
 aI 8 (.bin .neq (.t 7) (.c (.str [])))]
abbrev zz61_r2:List AI:=[
 aI 9 (.faddr 72 (.t 2)),
 aI 10 (.load false 1 (.t 9) .any),
 aI 11 (.bin .rem (.t 10) (.c (.int .u64 64))),
 aI 12 (.conv .i64 (.t 11)),
 aN 5 12]
abbrev zz61_r3:List AI:=[
 aI 13 (.faddr 8 (.t 2)),
 aM 14 5,
 aI 15 (.gd (.arrS 1 64 true false false) [(.t 13),(.t 14)]),
 aM 16 1,
 aI 17 (.gd .copyS [(.t 15),(.t 16)]),
 aN 6 17]
abbrev zz61_r4:List AI:=[
 aM 18 1,
 aM 19 6,
 aI 20 (.slS (.t 18) (some (.t 19)) none),
 aN 1 20]
abbrev zz61_r5:List AI:=[
 aI 21 (.faddr 72 (.t 2)),
 aI 22 (.load false 1 (.t 21) .any),
 aM 23 6,
 aI 24 (.conv .u64 (.t 23)),
 aI 25 (.bin .add (.t 22) (.t 24)),
 aI 26 (.faddr 72 (.t 2)),
 aS (.store 1 (.t 26) (.t 25) .any)]
abbrev zz61_r6:List AI:=[
 aM 27 5,
 aM 28 6,
 aI 29 (.bin .add (.t 27) (.t 28)),
 aI 30 (.bin .eql (.t 29) (.c (.int .i64 64)))]
abbrev zz61_r7:List AI:=[
 aI 31 (.faddr 0 (.t 2)),
 aI 32 (.load true 8 (.t 31) .foreign),
 aI 33 (.faddr 8 (.t 2)),
 aI 34 (.gd (.arrS 1 64 false false false) [(.t 33)]),
 aI 35 (.call (.c (.fn f_zz76)) [(.t 32),(.t 34)] 1),
 aI 36 (.faddr 0 (.t 2)),
 aS (.store 8 (.t 36) (.t 35) .gp)]
abbrev zz61_l0:ACode:=.seq (.seq (.reg false zz61_r1) (.cond (.t 8) (.skip) (.exit 0))) (.block 1 (.seq (.reg false zz61_r2) (.seq (.reg false zz61_r3) (.seq (.reg false zz61_r4) (.seq (.reg false zz61_r5) (.seq (.reg false zz61_r6) (.cond (.t 30) (.reg true zz61_r7) (.skip))))))))
abbrev zz61_r8:List AI:=[
 aI 37 (.load true 73 (.t 2) .any),
 aS (.store 73 (.t 4) (.t 37) .any)]
abbrev zz61_c:ACode:=.seq (.reg false zz61_r0) (.seq (.block 0 (.loop zz61_l0)) (.seq (.reg false zz61_r8) (.ret)))
def zz61_F:AFunc:=⟨38,[.cell 4 true 73],zz61_c⟩
theorem zz61_cp:ze Tryz.prog [2] f_zz61=some zz61_F:=by kernel_rfl
abbrev zz89_r0:List AI:=[
 aI 2 (.mv true (.c .nilS))]
abbrev zz89_r1:List AI:=[
 aM 3 0,
 aI 4 (.len true (.t 3)),
 aI 5 (.call (.c (.fn f_zz92)) [(.t 4)] 0),
 aM 6 0,
 aI 7 (.appG 1 1 [(.int .u8 0)] (.t 5) (.t 6)),
 aN 2 7]
abbrev zz89_c:ACode:=.seq (.reg false zz89_r0) (.seq (.reg false zz89_r1) (.ret))
def zz89_F:AFunc:=⟨8,[.tmp 2],zz89_c⟩
theorem zz89_cp:ze Tryz.prog [7] f_zz89=some zz89_F:=by kernel_rfl
-- loop 0: [1, 2, 3, 4]
-- loop 1: [1, 2, 3, 4, 23]
-- loop 2: [1, 2, 6, 40]
abbrev zz62_r0:List AI:=[
 aI 1 (.box 73 (.t 0)),
 aI 2 (.alloc (zr 32 (.int .u8 0)))]
abbrev zz62_r1:List AI:=[
 aI 8 (.faddr 72 (.t 1)),
 aI 9 (.load false 1 (.t 8) .any),
 aI 10 (.bin .mul (.c (.int .u64 8)) (.t 9)),
 aN 3 10]
abbrev zz62_r2:List AI:=[
 aI 11 (.mkslice 1 1 (.int .u8 0) [(0,(.c (.int .u8 128)))]),
 aN 4 11]
abbrev zz62_r3:List AI:=[
 aI 12 (.faddr 72 (.t 1)),
 aI 13 (.load false 1 (.t 12) .any),
 aI 14 (.conv .i64 (.t 13)),
 aM 15 4,
 aI 16 (.len false (.t 15)),
 aI 17 (.bin .add (.t 14) (.t 16)),
 aI 18 (.bin .rem (.t 17) (.c (.int .i64 64))),
 aI 19 (.bin .neq (.t 18) (.c (.int .i64 56)))]
abbrev zz62_r4:List AI:=[
 aN 20 4,
 aI 21 (.mkslice 1 1 (.int .u8 0) [(0,(.c (.int .u8 0)))]),
 aI 22 (.append 1 1 (.t 20) (.t 21)),
 aN 4 22]
abbrev zz62_l0:ACode:=.seq (.seq (.reg false zz62_r3) (.cond (.t 19) (.skip) (.exit 0))) (.block 1 (.reg false zz62_r4))
abbrev zz62_r5:List AI:=[
 aI 23 (.mv false (.c (.int .i64 0)))]
abbrev zz62_r6:List AI:=[
 aI 24 (.bin .lss (.t 23) (.c (.int .i64 8)))]
abbrev zz62_r7:List AI:=[
 aM 25 23,
 aN 5 25]
abbrev zz62_r8:List AI:=[
 aN 26 4,
 aM 27 3,
 aM 28 5,
 aI 29 (.bin .mul (.c (.int .i64 8)) (.t 28)),
 aI 30 (.bin .sub (.c (.int .i64 56)) (.t 29)),
 aI 31 (.bin .shr (.t 27) (.t 30)),
 aI 32 (.conv .u8 (.t 31)),
 aI 33 (.mkslice 1 1 (.int .u8 0) [(0,(.t 32))]),
 aI 34 (.append 1 1 (.t 26) (.t 33)),
 aN 4 34]
abbrev zz62_r9:List AI:=[
 aI 35 (.bin .add (.t 23) (.c (.int .i64 1))),
 aM 23 35]
abbrev zz62_l1:ACode:=.seq (.reg false zz62_r6) (.seq (.cond (.t 24) (.skip) (.exit 2)) (.seq (.block 3 (.seq (.reg false zz62_r7) (.reg false zz62_r8))) (.reg false zz62_r9)))
abbrev zz62_r10:List AI:=[
 aI 36 (.load true 73 (.t 1) .any),
 aM 37 4,
 aI 38 (.b2s (.t 37)),
 aI 39 (.call (.c (.fn f_zz61)) [(.t 36),(.t 38)] 0),
 aS (.store 73 (.t 1) (.t 39) .any)]
abbrev zz62_r11:List AI:=[
 aI 6 (.alloc (zr 32 (.int .u8 0)))]
abbrev zz62_r12:List AI:=[
 aI 40 (.mv false (.c (.int .i64 0)))]
abbrev zz62_r13:List AI:=[
 aI 41 (.bin .lss (.t 40) (.c (.int .i64 32)))]
abbrev zz62_r14:List AI:=[
 aM 42 40,
 aN 7 42]
abbrev zz62_r15:List AI:=[
 aM 43 7,
 aM 44 7,
 aI 45 (.bin .quo (.t 44) (.c (.int .i64 4))),
 aI 46 (.faddr 0 (.t 1)),
 aI 47 (.iaddrA 8 1 (.t 46) (.t 45)),
 aI 48 (.load false 1 (.t 47) .any),
 aM 49 7,
 aI 50 (.bin .rem (.t 49) (.c (.int .i64 4))),
 aI 51 (.bin .mul (.c (.int .i64 8)) (.t 50)),
 aI 52 (.bin .sub (.c (.int .i64 24)) (.t 51)),
 aI 53 (.bin .shr (.t 48) (.t 52)),
 aI 54 (.conv .u8 (.t 53)),
 aI 55 (.iaddrA 32 1 (.t 6) (.t 43)),
 aS (.store 1 (.t 55) (.t 54) .any)]
abbrev zz62_r16:List AI:=[
 aI 56 (.bin .add (.t 40) (.c (.int .i64 1))),
 aM 40 56]
abbrev zz62_l2:ACode:=.seq (.reg false zz62_r13) (.seq (.cond (.t 41) (.skip) (.exit 4)) (.seq (.block 5 (.seq (.reg false zz62_r14) (.reg false zz62_r15))) (.reg false zz62_r16)))
abbrev zz62_r17:List AI:=[
 aI 57 (.load true 32 (.t 6) .any),
 aS (.store 32 (.t 2) (.t 57) .any)]
abbrev zz62_c:ACode:=.seq (.reg false zz62_r0) (.seq (.reg false zz62_r1) (.seq (.reg false zz62_r2) (.seq (.block 0 (.loop zz62_l0)) (.seq (.seq (.reg false zz62_r5) (.block 2 (.loop zz62_l1))) (.seq (.reg false zz62_r10) (.seq (.reg false zz62_r11) (.seq (.seq (.reg false zz62_r12) (.block 4 (.loop zz62_l2))) (.seq (.reg false zz62_r17) (.ret)))))))))
def zz62_F:AFunc:=⟨58,[.cell 2 true 32],zz62_c⟩
theorem zz62_cp:ze Tryz.prog [] f_zz62=some zz62_F:=by kernel_rfl
-- loop 0: [0, 3]
-- loop 1: [3, 4, 5]
abbrev zz34_r0:List AI:=[
 aI 2 (.mv true (.c .nilS))]
abbrev zz34_r1:List AI:=[
 aI 6 (.mkslice 1 0 (.int .u8 0) []),
 aM 7 0,
 aI 8 (.append 1 1 (.t 6) (.t 7)),
 aN 3 8]
abbrev zz34_r2:List AI:=[
 aN 9 3,
 aI 10 (.mkslice 1 1 (.int .u8 0) [(0,(.c (.int .u8 128)))]),
 aI 11 (.append 1 1 (.t 9) (.t 10)),
 aN 3 11]
abbrev zz34_r3:List AI:=[
 aM 12 3,
 aI 13 (.len false (.t 12)),
 aI 14 (.bin .rem (.t 13) (.c (.int .i64 64))),
 aI 15 (.bin .neq (.t 14) (.c (.int .i64 56)))]
abbrev zz34_r4:List AI:=[
 aN 16 3,
 aI 17 (.mkslice 1 1 (.int .u8 0) [(0,(.c (.int .u8 0)))]),
 aI 18 (.append 1 1 (.t 16) (.t 17)),
 aN 3 18]
abbrev zz34_l0:ACode:=.seq (.seq (.reg false zz34_r3) (.cond (.t 15) (.skip) (.exit 0))) (.block 1 (.reg false zz34_r4))
abbrev zz34_r5:List AI:=[
 aM 19 0,
 aI 20 (.len false (.t 19)),
 aI 21 (.conv .u64 (.t 20)),
 aI 22 (.bin .mul (.c (.int .u64 8)) (.t 21)),
 aN 4 22]
abbrev zz34_r6:List AI:=[
 aI 5 (.mv true (.c (.int .i64 0)))]
abbrev zz34_r7:List AI:=[
 aM 23 5,
 aI 24 (.bin .lss (.t 23) (.c (.int .i64 8)))]
abbrev zz34_r8:List AI:=[
 aN 27 3,
 aM 28 4,
 aM 29 5,
 aI 30 (.bin .mul (.c (.int .i64 8)) (.t 29)),
 aI 31 (.bin .sub (.c (.int .i64 56)) (.t 30)),
 aI 32 (.bin .shr (.t 28) (.t 31)),
 aI 33 (.conv .u8 (.t 32)),
 aI 34 (.mkslice 1 1 (.int .u8 0) [(0,(.t 33))]),
 aI 35 (.append 1 1 (.t 27) (.t 34)),
 aN 3 35]
abbrev zz34_r9:List AI:=[
 aM 25 5,
 aI 26 (.bin .add (.t 25) (.c (.int .i64 1))),
 aN 5 26]
abbrev zz34_l1:ACode:=.seq (.seq (.reg false zz34_r7) (.cond (.t 24) (.skip) (.exit 2))) (.seq (.block 3 (.reg false zz34_r8)) (.reg false zz34_r9))
abbrev zz34_r10:List AI:=[
 aM 36 3,
 aN 2 36]
abbrev zz34_c:ACode:=.seq (.reg false zz34_r0) (.seq (.reg false zz34_r1) (.seq (.reg false zz34_r2) (.seq (.block 0 (.loop zz34_l0)) (.seq (.reg false zz34_r5) (.seq (.seq (.reg false zz34_r6) (.block 2 (.loop zz34_l1))) (.seq (.reg false zz34_r10) (.ret)))))))
def zz34_F:AFunc:=⟨37,[.tmp 2],zz34_c⟩
theorem zz34_cp:ze Tryz.prog [] f_zz34=some zz34_F:=by kernel_rfl
-- loop 0: [0, 2, 3, 4]
-- loop 1: [2, 3, 5]
abbrev zz41_r0:List AI:=[
 aI 2 (.alloc (zr 64 (.int .u32 0)))]
abbrev zz41_r1:List AI:=[
 aI 3 (.alloc (zr 64 (.int .u32 0)))]
abbrev zz41_r2:List AI:=[
 aI 4 (.mv true (.c (.int .i64 0)))]
abbrev zz41_r3:List AI:=[
 aM 8 4,
 aI 9 (.bin .lss (.t 8) (.c (.int .i64 16)))]
abbrev zz41_r4:List AI:=[
 aM 12 4,
 aM 13 0,
 aM 14 4,
 aI 15 (.bin .mul (.c (.int .i64 4)) (.t 14)),
 aI 16 (.iaddr 1 (.t 13) (.t 15)),
 aI 17 (.load false 1 (.t 16) .foreign),
 aI 18 (.conv .u32 (.t 17)),
 aI 19 (.bin .shl (.t 18) (.c (.int .u64 24))),
 aM 20 0,
 aM 21 4,
 aI 22 (.bin .mul (.c (.int .i64 4)) (.t 21)),
 aI 23 (.bin .add (.t 22) (.c (.int .i64 1))),
 aI 24 (.iaddr 1 (.t 20) (.t 23)),
 aI 25 (.load false 1 (.t 24) .foreign),
 aI 26 (.conv .u32 (.t 25)),
 aI 27 (.bin .shl (.t 26) (.c (.int .u64 16))),
 aI 28 (.bin .or (.t 19) (.t 27)),
 aM 29 0,
 aM 30 4,
 aI 31 (.bin .mul (.c (.int .i64 4)) (.t 30)),
 aI 32 (.bin .add (.t 31) (.c (.int .i64 2))),
 aI 33 (.iaddr 1 (.t 29) (.t 32)),
 aI 34 (.load false 1 (.t 33) .foreign),
 aI 35 (.conv .u32 (.t 34)),
 aI 36 (.bin .shl (.t 35) (.c (.int .u64 8))),
 aI 37 (.bin .or (.t 28) (.t 36)),
 aM 38 0,
 aM 39 4,
 aI 40 (.bin .mul (.c (.int .i64 4)) (.t 39)),
 aI 41 (.bin .add (.t 40) (.c (.int .i64 3))),
 aI 42 (.iaddr 1 (.t 38) (.t 41)),
 aI 43 (.load false 1 (.t 42) .foreign),
 aI 44 (.conv .u32 (.t 43)),
 aI 45 (.bin .or (.t 37) (.t 44)),
 aI 46 (.iaddrA 64 1 (.t 3) (.t 12)),
 aS (.store 1 (.t 46) (.t 45) (.site 3))]
abbrev zz41_r5:List AI:=[
 aM 10 4,
 aI 11 (.bin .add (.t 10) (.c (.int .i64 1))),
 aN 4 11]
abbrev zz41_l0:ACode:=.seq (.seq (.reg false zz41_r3) (.cond (.t 9) (.skip) (.exit 0))) (.seq (.block 1 (.reg true zz41_r4)) (.reg false zz41_r5))
abbrev zz41_r6:List AI:=[
 aI 5 (.mv true (.c (.int .i64 16)))]
abbrev zz41_r7:List AI:=[
 aM 47 5,
 aI 48 (.bin .lss (.t 47) (.c (.int .i64 64)))]
abbrev zz41_r8:List AI:=[
 aM 51 5,
 aI 52 (.bin .sub (.t 51) (.c (.int .i64 15))),
 aI 53 (.iaddrA 64 1 (.t 3) (.t 52)),
 aI 54 (.load false 1 (.t 53) (.site 3)),
 aM 56 5,
 aI 57 (.bin .sub (.t 56) (.c (.int .i64 15))),
 aI 58 (.iaddrA 64 1 (.t 3) (.t 57)),
 aI 59 (.load false 1 (.t 58) (.site 3)),
 aM 62 5,
 aI 63 (.bin .sub (.t 62) (.c (.int .i64 15))),
 aI 64 (.iaddrA 64 1 (.t 3) (.t 63)),
 aI 65 (.load false 1 (.t 64) (.site 3)),
 aI 66 (.bin .shr (.t 65) (.c (.int .u64 3))),
 aI 55 (.call (.c (.fn f_zz48)) [(.t 54),(.c (.int .i64 7))] 2),
 aI 60 (.call (.c (.fn f_zz48)) [(.t 59),(.c (.int .i64 18))] 2),
 aI 61 (.bin .xor (.t 55) (.t 60)),
 aI 67 (.bin .xor (.t 61) (.t 66)),
 aN 6 67]
abbrev zz41_r9:List AI:=[
 aM 68 5,
 aI 69 (.bin .sub (.t 68) (.c (.int .i64 2))),
 aI 70 (.iaddrA 64 1 (.t 3) (.t 69)),
 aI 71 (.load false 1 (.t 70) (.site 3)),
 aM 73 5,
 aI 74 (.bin .sub (.t 73) (.c (.int .i64 2))),
 aI 75 (.iaddrA 64 1 (.t 3) (.t 74)),
 aI 76 (.load false 1 (.t 75) (.site 3)),
 aM 79 5,
 aI 80 (.bin .sub (.t 79) (.c (.int .i64 2))),
 aI 81 (.iaddrA 64 1 (.t 3) (.t 80)),
 aI 82 (.load false 1 (.t 81) (.site 3)),
 aI 83 (.bin .shr (.t 82) (.c (.int .u64 10))),
 aI 72 (.call (.c (.fn f_zz48)) [(.t 71),(.c (.int .i64 17))] 2),
 aI 77 (.call (.c (.fn f_zz48)) [(.t 76),(.c (.int .i64 19))] 2),
 aI 78 (.bin .xor (.t 72) (.t 77)),
 aI 84 (.bin .xor (.t 78) (.t 83)),
 aN 7 84]
abbrev zz41_r10:List AI:=[
 aM 85 5,
 aM 86 5,
 aI 87 (.bin .sub (.t 86) (.c (.int .i64 16))),
 aI 88 (.iaddrA 64 1 (.t 3) (.t 87)),
 aI 89 (.load false 1 (.t 88) (.site 3)),
 aM 90 6,
 aI 91 (.bin .add (.t 89) (.t 90)),
 aM 92 5,
 aI 93 (.bin .sub (.t 92) (.c (.int .i64 7))),
 aI 94 (.iaddrA 64 1 (.t 3) (.t 93)),
 aI 95 (.load false 1 (.t 94) (.site 3)),
 aI 96 (.bin .add (.t 91) (.t 95)),
 aM 97 7,
 aI 98 (.bin .add (.t 96) (.t 97)),
 aI 99 (.iaddrA 64 1 (.t 3) (.t 85)),
 aS (.store 1 (.t 99) (.t 98) (.site 3))]
abbrev zz41_r11:List AI:=[
 aM 49 5,
 aI 50 (.bin .add (.t 49) (.c (.int .i64 1))),
 aN 5 50]
abbrev zz41_l1:ACode:=.seq (.seq (.reg false zz41_r7) (.cond (.t 48) (.skip) (.exit 2))) (.seq (.block 3 (.seq (.reg true zz41_r8) (.seq (.reg true zz41_r9) (.reg true zz41_r10)))) (.reg false zz41_r11))
abbrev zz41_r12:List AI:=[
 aI 100 (.load true 64 (.t 3) .any),
 aS (.store 64 (.t 2) (.t 100) .any)]
abbrev zz41_c:ACode:=.seq (.reg false zz41_r0) (.seq (.reg false zz41_r1) (.seq (.seq (.reg false zz41_r2) (.block 0 (.loop zz41_l0))) (.seq (.seq (.reg false zz41_r6) (.block 2 (.loop zz41_l1))) (.seq (.reg false zz41_r12) (.ret)))))
def zz41_F:AFunc:=⟨101,[.cell 2 true 64],zz41_c⟩
theorem zz41_cp:ze Tryz.prog [] f_zz41=some zz41_F:=by kernel_rfl
abbrev zz48_r0:List AI:=[
 aI 4 (.mv true (.c (.int .u32 0)))]
abbrev zz48_r1:List AI:=[
 aM 5 0,
 aM 6 1,
 aI 7 (.bin .shr (.t 5) (.t 6)),
 aM 8 0,
 aM 9 1,
 aI 10 (.bin .sub (.c (.int .i64 32)) (.t 9)),
 aI 11 (.bin .shl (.t 8) (.t 10)),
 aI 12 (.bin .or (.t 7) (.t 11)),
 aN 4 12]
abbrev zz48_c:ACode:=.seq (.reg false zz48_r0) (.seq (.reg true zz48_r1) (.ret))
def zz48_F:AFunc:=⟨13,[.tmp 4],zz48_c⟩
theorem zz48_cp:ze Tryz.prog [] f_zz48=some zz48_F:=by kernel_rfl
-- loop 0: [2, 4, 5, 6, 7, 21, 22]
-- loop 1: [2, 4, 6, 7, 94]
abbrev zz76_r0:List AI:=[
 aI 2 (.gn (.box 8) [(.t 0)]),
 aI 4 (.alloc (zr 8 (.int .u32 0)))]
abbrev zz76_r1:List AI:=[
 aM 13 1,
 aI 14 (.call (.c (.fn f_zz77)) [(.t 13)] 0),
 aI 5 (.alloc (zr 64 (.int .u32 0))),
 aS (.store 64 (.t 5) (.t 14) .any)]
abbrev zz76_r2:List AI:=[
 aI 15 (.gd (.arrS 1 8 false true false) [(.t 2),(.c (.int .i64 4))]),
 aI 16 (.gd (.s2a 4) [(.t 15)]),
 aI 17 (.load true 4 (.t 16) .foreign),
 aI 18 (.gd (.arrS 1 8 true false false) [(.t 2),(.c (.int .i64 4))]),
 aI 19 (.gd (.s2a 4) [(.t 18)]),
 aI 20 (.load true 4 (.t 19) .foreign),
 aI 6 (.alloc [(.int .u32 0),(.int .u32 0),(.int .u32 0),(.int .u32 0)]),
 aI 7 (.alloc [(.int .u32 0),(.int .u32 0),(.int .u32 0),(.int .u32 0)]),
 aS (.store 4 (.t 6) (.t 17) (.site 6)),
 aS (.store 4 (.t 7) (.t 20) (.site 7))]
abbrev zz76_r3:List AI:=[
 aI 21 (.load true 64 (.g 1) .any),
 aI 22 (.mv false (.c (.int .i64 0)))]
abbrev zz76_r4:List AI:=[
 aI 23 (.bin .lss (.t 22) (.c (.int .i64 64)))]
abbrev zz76_r5:List AI:=[
 aM 24 22,
 aI 25 (.idxA false 64 1 (.t 21) (.t 22)),
 aN 8 24,
 aN 9 25]
abbrev zz76_r6:List AI:=[
 aI 26 (.iaddrA 4 1 (.t 7) (.c (.int .i64 3))),
 aI 27 (.load false 1 (.t 26) (.site 7)),
 aI 28 (.iaddrA 4 1 (.t 7) (.c (.int .i64 0))),
 aI 29 (.load false 1 (.t 28) (.site 7)),
 aI 32 (.iaddrA 4 1 (.t 7) (.c (.int .i64 0))),
 aI 33 (.load false 1 (.t 32) (.site 7)),
 aI 34 (.iaddrA 4 1 (.t 7) (.c (.int .i64 1))),
 aI 35 (.load false 1 (.t 34) (.site 7)),
 aI 36 (.bin .and (.t 33) (.t 35)),
 aI 37 (.iaddrA 4 1 (.t 7) (.c (.int .i64 0))),
 aI 38 (.load false 1 (.t 37) (.site 7)),
 aI 39 (.bin .xor (.c (.int .u32 4294967295)) (.t 38)),
 aI 40 (.iaddrA 4 1 (.t 7) (.c (.int .i64 2))),
 aI 41 (.load false 1 (.t 40) (.site 7)),
 aI 42 (.bin .and (.t 39) (.t 41)),
 aI 43 (.bin .xor (.t 36) (.t 42)),
 aM 45 9,
 aM 47 8,
 aI 48 (.iaddrA 64 1 (.t 5) (.t 47)),
 aI 49 (.load false 1 (.t 48) (.site 5)),
 aI 30 (.call (.c (.fn f_zz91)) [(.t 29),(.c (.int .i64 6)),(.c (.int .i64 11)),(.c (.int .i64 25))] 2),
 aI 31 (.bin .add (.t 27) (.t 30)),
 aI 44 (.bin .add (.t 31) (.t 43)),
 aI 46 (.bin .add (.t 44) (.t 45)),
 aI 50 (.bin .add (.t 46) (.t 49)),
 aN 10 50]
abbrev zz76_r7:List AI:=[
 aI 51 (.iaddrA 4 1 (.t 6) (.c (.int .i64 0))),
 aI 52 (.load false 1 (.t 51) (.site 6)),
 aI 54 (.iaddrA 4 1 (.t 6) (.c (.int .i64 0))),
 aI 55 (.load false 1 (.t 54) (.site 6)),
 aI 56 (.iaddrA 4 1 (.t 6) (.c (.int .i64 1))),
 aI 57 (.load false 1 (.t 56) (.site 6)),
 aI 58 (.bin .and (.t 55) (.t 57)),
 aI 59 (.iaddrA 4 1 (.t 6) (.c (.int .i64 0))),
 aI 60 (.load false 1 (.t 59) (.site 6)),
 aI 61 (.iaddrA 4 1 (.t 6) (.c (.int .i64 2))),
 aI 62 (.load false 1 (.t 61) (.site 6)),
 aI 63 (.bin .and (.t 60) (.t 62)),
 aI 64 (.bin .xor (.t 58) (.t 63)),
 aI 65 (.iaddrA 4 1 (.t 6) (.c (.int .i64 1))),
 aI 66 (.load false 1 (.t 65) (.site 6)),
 aI 67 (.iaddrA 4 1 (.t 6) (.c (.int .i64 2))),
 aI 68 (.load false 1 (.t 67) (.site 6)),
 aI 69 (.bin .and (.t 66) (.t 68)),
 aI 70 (.bin .xor (.t 64) (.t 69)),
 aI 53 (.call (.c (.fn f_zz91)) [(.t 52),(.c (.int .i64 2)),(.c (.int .i64 13)),(.c (.int .i64 22))] 2),
 aI 71 (.bin .add (.t 53) (.t 70)),
 aN 11 71]
abbrev zz76_r8:List AI:=[
 aI 72 (.iaddrA 4 1 (.t 6) (.c (.int .i64 3))),
 aI 73 (.load false 1 (.t 72) .any),
 aM 74 10,
 aI 75 (.bin .add (.t 73) (.t 74)),
 aI 76 (.iaddrA 4 1 (.t 7) (.c (.int .i64 0))),
 aI 77 (.load false 1 (.t 76) .any),
 aI 78 (.iaddrA 4 1 (.t 7) (.c (.int .i64 1))),
 aI 79 (.load false 1 (.t 78) .any),
 aI 80 (.iaddrA 4 1 (.t 7) (.c (.int .i64 2))),
 aI 81 (.load false 1 (.t 80) .any),
 aI 82 (.build [(.int .u32 0),(.int .u32 0),(.int .u32 0),(.int .u32 0)] [(0,1,(.t 75)),(1,1,(.t 77)),(2,1,(.t 79)),(3,1,(.t 81))]),
 aS (.store 4 (.t 7) (.t 82) .any)]
abbrev zz76_r9:List AI:=[
 aM 83 10,
 aM 84 11,
 aI 85 (.bin .add (.t 83) (.t 84)),
 aI 86 (.iaddrA 4 1 (.t 6) (.c (.int .i64 0))),
 aI 87 (.load false 1 (.t 86) .any),
 aI 88 (.iaddrA 4 1 (.t 6) (.c (.int .i64 1))),
 aI 89 (.load false 1 (.t 88) .any),
 aI 90 (.iaddrA 4 1 (.t 6) (.c (.int .i64 2))),
 aI 91 (.load false 1 (.t 90) .any),
 aI 92 (.build [(.int .u32 0),(.int .u32 0),(.int .u32 0),(.int .u32 0)] [(0,1,(.t 85)),(1,1,(.t 87)),(2,1,(.t 89)),(3,1,(.t 91))]),
 aS (.store 4 (.t 6) (.t 92) .any)]
abbrev zz76_r10:List AI:=[
 aI 93 (.bin .add (.t 22) (.c (.int .i64 1))),
 aM 22 93]
abbrev zz76_l0:ACode:=.seq (.reg false zz76_r4) (.seq (.cond (.t 23) (.skip) (.exit 0)) (.seq (.block 1 (.seq (.reg false zz76_r5) (.seq (.reg true zz76_r6) (.seq (.reg true zz76_r7) (.seq (.reg false zz76_r8) (.reg false zz76_r9)))))) (.reg false zz76_r10)))
abbrev zz76_r11:List AI:=[
 aI 94 (.mv false (.c (.int .i64 0)))]
abbrev zz76_r12:List AI:=[
 aI 95 (.bin .lss (.t 94) (.c (.int .i64 4)))]
abbrev zz76_r13:List AI:=[
 aM 96 94,
 aN 12 96]
abbrev zz76_r14:List AI:=[
 aM 97 12,
 aI 98 (.iaddrA 8 1 (.t 2) (.t 97)),
 aI 99 (.load false 1 (.t 98) .foreign),
 aM 100 12,
 aI 101 (.iaddrA 4 1 (.t 6) (.t 100)),
 aI 102 (.load false 1 (.t 101) (.site 6)),
 aI 103 (.bin .add (.t 99) (.t 102)),
 aI 104 (.iaddrA 8 1 (.t 2) (.t 97)),
 aS (.store 1 (.t 104) (.t 103) .gp)]
abbrev zz76_r15:List AI:=[
 aM 105 12,
 aI 106 (.bin .add (.t 105) (.c (.int .i64 4))),
 aI 107 (.iaddrA 8 1 (.t 2) (.t 106)),
 aI 108 (.load false 1 (.t 107) .foreign),
 aM 109 12,
 aI 110 (.iaddrA 4 1 (.t 7) (.t 109)),
 aI 111 (.load false 1 (.t 110) (.site 7)),
 aI 112 (.bin .add (.t 108) (.t 111)),
 aI 113 (.iaddrA 8 1 (.t 2) (.t 106)),
 aS (.store 1 (.t 113) (.t 112) .gp)]
abbrev zz76_r16:List AI:=[
 aI 114 (.bin .add (.t 94) (.c (.int .i64 1))),
 aM 94 114]
abbrev zz76_l1:ACode:=.seq (.reg false zz76_r12) (.seq (.cond (.t 95) (.skip) (.exit 2)) (.seq (.block 3 (.seq (.reg false zz76_r13) (.seq (.reg true zz76_r14) (.reg true zz76_r15)))) (.reg false zz76_r16)))
abbrev zz76_r17:List AI:=[
 aI 115 (.load true 8 (.t 2) .any),
 aS (.store 8 (.t 4) (.t 115) .any)]
abbrev zz76_c:ACode:=.seq (.reg false zz76_r0) (.seq (.reg false zz76_r1) (.seq (.reg true zz76_r2) (.seq (.seq (.reg false zz76_r3) (.block 0 (.loop zz76_l0))) (.seq (.seq (.reg false zz76_r11) (.block 2 (.loop zz76_l1))) (.seq (.reg false zz76_r17) (.ret))))))
def zz76_F:AFunc:=⟨116,[.cell 4 true 8],zz76_c⟩
theorem zz76_cp:ze Tryz.prog [2] f_zz76=some zz76_F:=by kernel_rfl
-- loop 0: [0, 2, 3, 4, 11, 22, 23, 24]
-- loop 1: [0, 2, 3, 11]
abbrev zz77_r0:List AI:=[
 aI 2 (.alloc (zr 64 (.int .u32 0)))]
abbrev zz77_r1:List AI:=[
 aI 3 (.alloc (zr 64 (.int .u32 0)))]
abbrev zz77_r2:List AI:=[
 aI 11 (.mv false (.c (.int .i64 0)))]
abbrev zz77_r3:List AI:=[
 aI 12 (.bin .lss (.t 11) (.c (.int .i64 64)))]
abbrev zz77_r4:List AI:=[
 aM 13 11,
 aN 4 13]
abbrev zz77_r5:List AI:=[
 aM 14 4,
 aI 15 (.bin .lss (.t 14) (.c (.int .i64 16)))]
abbrev zz77_r6:List AI:=[
 aM 16 0,
 aM 17 4,
 aI 18 (.bin .mul (.c (.int .i64 4)) (.t 17)),
 aM 19 4,
 aI 20 (.bin .mul (.c (.int .i64 4)) (.t 19)),
 aI 21 (.bin .add (.t 20) (.c (.int .i64 4))),
 aI 22 (.sl 1 (.t 16) (some (.t 18)) (some (.t 21))),
 aI 23 (.len false (.t 22)),
 aI 24 (.mv false (.c (.int .i64 0)))]
abbrev zz77_r7:List AI:=[
 aI 25 (.bin .lss (.t 24) (.t 23))]
abbrev zz77_r8:List AI:=[
 aI 26 (.iaddr 1 (.t 22) (.t 24)),
 aI 27 (.load false 1 (.t 26) .any),
 aN 6 27]
abbrev zz77_r9:List AI:=[
 aM 28 4,
 aM 29 4,
 aI 30 (.iaddrA 64 1 (.t 3) (.t 29)),
 aI 31 (.load false 1 (.t 30) .any),
 aI 32 (.bin .shl (.t 31) (.c (.int .u64 8))),
 aM 33 6,
 aI 34 (.conv .u32 (.t 33)),
 aI 35 (.bin .or (.t 32) (.t 34)),
 aI 36 (.iaddrA 64 1 (.t 3) (.t 28)),
 aS (.store 1 (.t 36) (.t 35) .any)]
abbrev zz77_r10:List AI:=[
 aI 37 (.bin .add (.t 24) (.c (.int .i64 1))),
 aM 24 37]
abbrev zz77_l0:ACode:=.seq (.reg false zz77_r7) (.seq (.cond (.t 25) (.skip) (.exit 2)) (.seq (.block 3 (.seq (.reg false zz77_r8) (.reg false zz77_r9))) (.reg false zz77_r10)))
abbrev zz77_b0:ACode:=.seq (.seq (.reg false zz77_r6) (.block 2 (.loop zz77_l0))) (.exit 1)
abbrev zz77_r11:List AI:=[
 aM 38 4,
 aI 39 (.bin .sub (.t 38) (.c (.int .i64 15))),
 aI 40 (.iaddrA 64 1 (.t 3) (.t 39)),
 aI 41 (.load false 1 (.t 40) (.site 3)),
 aM 42 4,
 aI 43 (.bin .sub (.t 42) (.c (.int .i64 2))),
 aI 44 (.iaddrA 64 1 (.t 3) (.t 43)),
 aI 45 (.load false 1 (.t 44) (.site 3)),
 aN 7 41,
 aN 8 45]
abbrev zz77_r12:List AI:=[
 aM 46 7,
 aI 47 (.call (.c (.fn f_zz17)) [(.t 46),(.c (.int .i64 (-7)))] 0),
 aM 48 7,
 aI 49 (.call (.c (.fn f_zz17)) [(.t 48),(.c (.int .i64 (-18)))] 0),
 aI 50 (.bin .xor (.t 47) (.t 49)),
 aM 51 7,
 aI 52 (.bin .shr (.t 51) (.c (.int .u64 3))),
 aI 53 (.bin .xor (.t 50) (.t 52)),
 aN 9 53]
abbrev zz77_r13:List AI:=[
 aM 54 8,
 aI 55 (.call (.c (.fn f_zz17)) [(.t 54),(.c (.int .i64 (-17)))] 0),
 aM 56 8,
 aI 57 (.call (.c (.fn f_zz17)) [(.t 56),(.c (.int .i64 (-19)))] 0),
 aI 58 (.bin .xor (.t 55) (.t 57)),
 aM 59 8,
 aI 60 (.bin .shr (.t 59) (.c (.int .u64 10))),
 aI 61 (.bin .xor (.t 58) (.t 60)),
 aN 10 61]
abbrev zz77_r14:List AI:=[
 aM 62 4,
 aM 63 4,
 aI 64 (.bin .sub (.t 63) (.c (.int .i64 16))),
 aI 65 (.iaddrA 64 1 (.t 3) (.t 64)),
 aI 66 (.load false 1 (.t 65) (.site 3)),
 aM 67 9,
 aI 68 (.bin .add (.t 66) (.t 67)),
 aM 69 4,
 aI 70 (.bin .sub (.t 69) (.c (.int .i64 7))),
 aI 71 (.iaddrA 64 1 (.t 3) (.t 70)),
 aI 72 (.load false 1 (.t 71) (.site 3)),
 aI 73 (.bin .add (.t 68) (.t 72)),
 aM 74 10,
 aI 75 (.bin .add (.t 73) (.t 74)),
 aI 76 (.iaddrA 64 1 (.t 3) (.t 62)),
 aS (.store 1 (.t 76) (.t 75) (.site 3))]
abbrev zz77_r15:List AI:=[
 aI 77 (.bin .add (.t 11) (.c (.int .i64 1))),
 aM 11 77]
abbrev zz77_l1:ACode:=.seq (.reg false zz77_r3) (.seq (.cond (.t 12) (.skip) (.exit 0)) (.seq (.block 1 (.seq (.reg false zz77_r4) (.seq (.seq (.reg false zz77_r5) (.cond (.t 15) (zz77_b0) (.skip))) (.seq (.reg true zz77_r11) (.seq (.reg false zz77_r12) (.seq (.reg false zz77_r13) (.reg true zz77_r14))))))) (.reg false zz77_r15)))
abbrev zz77_r16:List AI:=[
 aI 78 (.load true 64 (.t 3) .any),
 aS (.store 64 (.t 2) (.t 78) .any)]
abbrev zz77_c:ACode:=.seq (.reg false zz77_r0) (.seq (.reg false zz77_r1) (.seq (.seq (.reg false zz77_r2) (.block 0 (.loop zz77_l1))) (.seq (.reg false zz77_r16) (.ret))))
def zz77_F:AFunc:=⟨79,[.cell 2 true 64],zz77_c⟩
theorem zz77_cp:ze Tryz.prog [] f_zz77=some zz77_F:=by kernel_rfl
abbrev zz91_r0:List AI:=[
 aI 8 (.mv true (.c (.int .u32 0)))]
abbrev zz91_r1:List AI:=[
 aM 9 0,
 aM 10 1,
 aI 11 (.neg (.t 10)),
 aI 12 (.call (.c (.fn f_zz17)) [(.t 9),(.t 11)] 0),
 aM 13 0,
 aM 14 2,
 aI 15 (.neg (.t 14)),
 aI 16 (.call (.c (.fn f_zz17)) [(.t 13),(.t 15)] 0),
 aI 17 (.bin .xor (.t 12) (.t 16)),
 aM 18 0,
 aM 19 3,
 aI 20 (.neg (.t 19)),
 aI 21 (.call (.c (.fn f_zz17)) [(.t 18),(.t 20)] 0),
 aI 22 (.bin .xor (.t 17) (.t 21)),
 aN 8 22]
abbrev zz91_c:ACode:=.seq (.reg false zz91_r0) (.seq (.reg false zz91_r1) (.ret))
def zz91_F:AFunc:=⟨23,[.tmp 8],zz91_c⟩
theorem zz91_cp:ze Tryz.prog [] f_zz91=some zz91_F:=by kernel_rfl
abbrev zz17_r0:List AI:=[
 aI 4 (.mv true (.c (.int .u32 0)))]
abbrev zz17_r1:List AI:=[
 aM 6 1,
 aI 7 (.conv .u64 (.t 6)),
 aI 8 (.bin .and (.t 7) (.c (.int .u64 31))),
 aN 5 8]
abbrev zz17_r2:List AI:=[
 aM 9 0,
 aM 10 5,
 aI 11 (.bin .shl (.t 9) (.t 10)),
 aM 12 0,
 aM 13 5,
 aI 14 (.bin .sub (.c (.int .u64 32)) (.t 13)),
 aI 15 (.bin .shr (.t 12) (.t 14)),
 aI 16 (.bin .or (.t 11) (.t 15)),
 aN 4 16]
abbrev zz17_c:ACode:=.seq (.reg false zz17_r0) (.seq (.reg false zz17_r1) (.seq (.reg false zz17_r2) (.ret)))
def zz17_F:AFunc:=⟨17,[.tmp 4],zz17_c⟩
theorem zz17_cp:ze Tryz.prog [] f_zz17=some zz17_F:=by kernel_rfl
theorem fol:Tryz.prog.follows .mixedOrders=true:=by kernel_rfl
end
end Go.Proofs.YtpplfpnjfjnkdaaGreatDoor
