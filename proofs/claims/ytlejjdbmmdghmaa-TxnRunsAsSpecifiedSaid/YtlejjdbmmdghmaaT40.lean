/-
 The functions' code in the evaluator's form,printed by a program of ours from the loaded program,and checked against it.
 Conditions: none.
-/
import Derived.Test.YtlejjdbmmdghmaaProg
import Derived.KernelRfl
import Derived.Test.YtlejjdbmmdghmaaEZ
namespace Go.Proofs.Ytlejjdbmmdghmaa
open Go Go.E2
noncomputable section
abbrev aI (d:Nat) (o:AOp):AI:=⟨some d,o,none⟩
abbrev aM (d s:Nat):AI:=⟨some d,.mv false (.t s),none⟩
abbrev aN (d s:Nat):AI:=⟨some d,.mv true (.t s),none⟩
abbrev aS (o:AOp):AI:=⟨none,o,none⟩
abbrev aT (d g:Nat) (o:AOp):AI:=⟨some d,o,some (g,true)⟩
abbrev aF (d g:Nat) (o:AOp):AI:=⟨some d,o,some (g,false)⟩
abbrev f_zz5:FuncId:=4
abbrev f_zz69:FuncId:=8
abbrev f_zz11:FuncId:=9
abbrev f_zz64:FuncId:=10
abbrev f_zz70:FuncId:=11
abbrev f_zz29:FuncId:=12
abbrev f_zz10:FuncId:=13
abbrev f_zz35:FuncId:=14
abbrev f_zz12:FuncId:=15
abbrev f_zz44:FuncId:=16
abbrev f_zz22:FuncId:=17
abbrev f_zz18:FuncId:=18
abbrev f_zz72:FuncId:=19
abbrev f_zz30:FuncId:=20
abbrev f_zz15:FuncId:=21
abbrev f_zz65:FuncId:=22
abbrev f_zz14:FuncId:=23
abbrev f_zz43:FuncId:=24
abbrev f_zz13:FuncId:=25
abbrev f_zz42:FuncId:=26
abbrev f_zz33:FuncId:=27
abbrev f_zz28:FuncId:=28
abbrev f_zz48:FuncId:=32
abbrev f_zz47:FuncId:=33
abbrev f_zz6:FuncId:=37
abbrev f_zz34:FuncId:=38
abbrev f_zz27:FuncId:=39
abbrev f_zz7:FuncId:=40
abbrev f_zz57:FuncId:=41
abbrev f_zz56:FuncId:=42
abbrev f_zz55:FuncId:=43
abbrev f_zz71:FuncId:=44
abbrev f_zz68:FuncId:=45
abbrev f_zz8:FuncId:=46
abbrev f_zz19:FuncId:=47
abbrev f_zz23:FuncId:=48
abbrev f_zz24:FuncId:=49
abbrev f_zz52:FuncId:=50
abbrev f_zz1:FuncId:=51
abbrev f_zz54:FuncId:=52
abbrev f_zz60:FuncId:=53
abbrev f_zz21:FuncId:=54
abbrev f_zz61:FuncId:=55
abbrev f_zz66:FuncId:=56
abbrev f_zz4:FuncId:=57
abbrev f_zz26:FuncId:=58
abbrev f_zz45:FuncId:=59
abbrev f_zz9:FuncId:=60
abbrev f_zz51:FuncId:=61
abbrev f_zz0:FuncId:=62
abbrev f_zz67:FuncId:=63
abbrev f_zz53:FuncId:=64
abbrev f_zz37:FuncId:=65
abbrev f_zz59:FuncId:=68
abbrev f_zz16:FuncId:=69
abbrev f_zz36:FuncId:=70
abbrev f_zz62:FuncId:=71
abbrev f_zz49:FuncId:=72
abbrev f_zz63:FuncId:=73
abbrev f_zz3:FuncId:=74
abbrev f_zz46:FuncId:=75
abbrev f_zz2:FuncId:=76
abbrev f_zz50:FuncId:=79
abbrev f_zz41:FuncId:=80
abbrev f_zz40:FuncId:=81
abbrev f_zz25:FuncId:=93
abbrev f_zz58:FuncId:=94
abbrev f_zz32:FuncId:=95
abbrev f_zz17:FuncId:=102
abbrev f_zz38:FuncId:=119
abbrev f_zz31:FuncId:=120
abbrev f_zz39:FuncId:=121
abbrev f_zz20:FuncId:=122
abbrev zz69_r0:List AI:=[
 aI 2 (.mv true (.c .nilP))]
abbrev zz69_r1:List AI:=[
 aM 3 0,
 aI 4 (.bin .lss (.t 3) (.c (.int .i64 1))),
 aM 5 4,
 aF 6 5 (.mv false (.t 0)),
 aF 7 5 (.bin .gtr (.t 6) (.c (.int .i64 65536))),
 aI 8 (.pick (.t 5) (.c (.bool true)) (.t 7))]
abbrev zz69_r2:List AI:=[
 aI 2 (.mv true (.c .nilP))]
abbrev zz69_r3:List AI:=[
 aM 9 0,
 aI 10 (.gn (.mkSl 65 65 (zr 64 (.int .u8 0)++[(.bool false)])) [(.t 9),(.t 9)]),
 aI 11 (.gn .mkM []),
 aI 12 (.build [.nilS,.nilM,(.int .i64 0),(.int .i64 0),(.bool false)] [(0,1,(.t 10)),(1,1,(.t 11)),(3,1,(.c (.int .i64 (-1))))]),
 aI 13 (.gn (.box 5) [(.t 12)]),
 aN 2 13]
abbrev zz69_c:ACode:=.seq (.reg false zz69_r0) (.seq (.seq (.reg false zz69_r1) (.cond (.t 8) (.seq (.reg false zz69_r2) (.ret)) (.skip))) (.seq (.reg false zz69_r3) (.ret)))
def zz69_F:AFunc:=⟨14,[.tmp 2],zz69_c⟩
theorem zz69_cp:zf Try.prog [13] f_zz69=some zz69_F:=by kernel_rfl
abbrev zz48_r0:List AI:=[
 aI 2 (.mv true (.c (.int .i64 0)))]
abbrev zz48_r1:List AI:=[
 aM 3 0,
 aI 4 (.nilck (.t 3)),
 aI 5 (.faddr 0 (.t 4)),
 aI 6 (.load false 1 (.t 5) .any),
 aI 7 (.len false (.t 6)),
 aN 2 7]
abbrev zz48_c:ACode:=.seq (.reg false zz48_r0) (.seq (.reg false zz48_r1) (.ret))
def zz48_F:AFunc:=⟨8,[.tmp 2],zz48_c⟩
theorem zz48_cp:zf Try.prog [] f_zz48=some zz48_F:=by kernel_rfl
abbrev zz37_r0:List AI:=[
 aI 4 (.mv true (.c (.int .i64 0)))]
abbrev zz37_r1:List AI:=[
 aM 6 0,
 aI 7 (.nilck (.t 6)),
 aI 8 (.faddr 4 (.t 7)),
 aI 9 (.load false 1 (.t 8) .any),
 aN 5 9]
abbrev zz37_r2:List AI:=[
 aI 4 (.mv true (.c (.int .i64 12)))]
abbrev zz37_r3:List AI:=[
 aM 11 1,
 aI 12 (.bin .lss (.t 11) (.c (.int .i64 0))),
 aM 13 12,
 aF 14 13 (.mv false (.t 1)),
 aF 15 13 (.mv false (.t 0)),
 aF 16 13 (.nilck (.t 15)),
 aF 17 13 (.faddr 0 (.t 16)),
 aF 18 13 (.load false 1 (.t 17) .any),
 aF 19 13 (.len false (.t 18)),
 aF 20 13 (.bin .geq (.t 14) (.t 19)),
 aI 21 (.pick (.t 13) (.c (.bool true)) (.t 20)),
 aN 10 21]
abbrev zz37_r4:List AI:=[
 aI 4 (.mv true (.c (.int .i64 1)))]
abbrev zz37_b0:ACode:=.seq (.reg false zz37_r3) (.cond (.t 10) (.seq (.reg false zz37_r4) (.ret)) (.skip))
abbrev zz37_r5:List AI:=[
 aI 4 (.mv true (.c (.int .i64 0)))]
abbrev zz37_c:ACode:=.seq (.reg false zz37_r0) (.seq (.block 0 (.seq (.reg false zz37_r1) (.cond (.t 5) (.seq (.reg false zz37_r2) (.ret)) (zz37_b0)))) (.seq (.reg false zz37_r5) (.ret)))
def zz37_F:AFunc:=⟨22,[.tmp 4],zz37_c⟩
theorem zz37_cp:zf Try.prog [] f_zz37=some zz37_F:=by kernel_rfl
abbrev zz50_r0:List AI:=[
 aI 2 (.mv true (.c (.int .i64 0)))]
abbrev zz50_r1:List AI:=[
 aM 4 0,
 aI 5 (.nilck (.t 4)),
 aI 6 (.faddr 3 (.t 5)),
 aI 7 (.load false 1 (.t 6) .any),
 aI 8 (.bin .eql (.t 7) (.c (.int .i64 0))),
 aN 3 8]
abbrev zz50_r2:List AI:=[
 aM 9 0,
 aI 10 (.nilck (.t 9)),
 aI 11 (.faddr 4 (.t 10)),
 aS (.store 1 (.t 11) (.c (.bool true)) .any)]
abbrev zz50_r3:List AI:=[
 aI 2 (.mv true (.c (.int .i64 12)))]
abbrev zz50_b0:ACode:=.seq (.reg false zz50_r2) (.seq (.reg false zz50_r3) (.ret))
abbrev zz50_r4:List AI:=[
 aM 13 0,
 aI 14 (.nilck (.t 13)),
 aI 15 (.faddr 3 (.t 14)),
 aI 16 (.load false 1 (.t 15) .any),
 aI 17 (.bin .gtr (.t 16) (.c (.int .i64 0))),
 aN 12 17]
abbrev zz50_r5:List AI:=[
 aM 18 0,
 aI 19 (.nilck (.t 18)),
 aI 20 (.faddr 3 (.t 19)),
 aI 21 (.load false 1 (.t 20) .any),
 aI 22 (.bin .sub (.t 21) (.c (.int .i64 1))),
 aI 23 (.nilck (.t 18)),
 aI 24 (.faddr 3 (.t 23)),
 aS (.store 1 (.t 24) (.t 22) .any)]
abbrev zz50_b1:ACode:=.seq (.reg false zz50_r4) (.cond (.t 12) (.reg false zz50_r5) (.skip))
abbrev zz50_r6:List AI:=[
 aM 25 0,
 aI 26 (.nilck (.t 25)),
 aI 27 (.faddr 2 (.t 26)),
 aI 28 (.load false 1 (.t 27) .any),
 aI 29 (.bin .add (.t 28) (.c (.int .i64 1))),
 aI 30 (.nilck (.t 25)),
 aI 31 (.faddr 2 (.t 30)),
 aS (.store 1 (.t 31) (.t 29) .any)]
abbrev zz50_r7:List AI:=[
 aI 2 (.mv true (.c (.int .i64 0)))]
abbrev zz50_c:ACode:=.seq (.reg false zz50_r0) (.seq (.block 0 (.seq (.reg false zz50_r1) (.cond (.t 3) (zz50_b0) (zz50_b1)))) (.seq (.reg false zz50_r6) (.seq (.reg false zz50_r7) (.ret))))
def zz50_F:AFunc:=⟨32,[.tmp 2],zz50_c⟩
theorem zz50_cp:zf Try.prog [] f_zz50=some zz50_F:=by kernel_rfl
-- loop 0: [0, 19]
abbrev zz49_r0:List AI:=[
 aI 2 (.mv true (.c (.int .i64 0)))]
abbrev zz49_r1:List AI:=[
 aM 6 0,
 aI 7 (.call (.c (.fn f_zz37)) [(.t 6),(.c (.int .i64 0))] 0),
 aN 3 7]
abbrev zz49_r2:List AI:=[
 aM 8 3,
 aI 9 (.bin .eql (.t 8) (.c (.int .i64 0)))]
abbrev zz49_r3:List AI:=[
 aM 10 0,
 aI 11 (.call (.c (.fn f_zz50)) [(.t 10)] 0),
 aN 3 11]
abbrev zz49_r4:List AI:=[
 aM 12 3,
 aI 13 (.bin .neq (.t 12) (.c (.int .i64 0)))]
abbrev zz49_r5:List AI:=[
 aM 14 3,
 aN 2 14]
abbrev zz49_r6:List AI:=[
 aM 15 0,
 aI 16 (.nilck (.t 15)),
 aI 17 (.faddr 1 (.t 16)),
 aI 18 (.load false 1 (.t 17) .any),
 aI 19 (.gn .rng [(.t 18)])]
abbrev zz49_r7:List AI:=[
 aI 20 (.gn .nxt [(.t 19)]),
 aI 21 (.ext (.t 20) 0)]
abbrev zz49_r8:List AI:=[
 aI 22 (.gd .entry [(.t 19)]),
 aI 23 (.ext (.t 22) 0),
 aI 24 (.ext (.t 22) 1),
 aN 4 23,
 aN 5 24]
abbrev zz49_r9:List AI:=[
 aM 25 0,
 aI 26 (.nilck (.t 25)),
 aI 27 (.faddr 0 (.t 26)),
 aI 28 (.load false 1 (.t 27) .foreign),
 aM 29 4,
 aM 30 5,
 aM 31 5,
 aI 32 (.len false (.t 31)),
 aI 33 (.bin .sub (.t 32) (.c (.int .i64 1))),
 aI 34 (.iaddr 64 (.t 30) (.t 33)),
 aI 35 (.load true 64 (.t 34) .foreign),
 aI 36 (.build (zr 64 (.int .u8 0)++[(.bool false)]) [(0,64,(.t 35))]),
 aI 37 (.iaddr 65 (.t 28) (.t 29)),
 aS (.store 65 (.t 37) (.t 36) .gp)]
abbrev zz49_r10:List AI:=[
 aM 38 0,
 aI 39 (.nilck (.t 38)),
 aI 40 (.faddr 1 (.t 39)),
 aI 41 (.load false 1 (.t 40) .any),
 aM 42 4,
 aS (.gd (.mdel [.i]) [(.t 41),(.t 42)])]
abbrev zz49_l0:ACode:=.seq (.reg false zz49_r7) (.seq (.cond (.t 21) (.skip) (.exit 0)) (.block 1 (.seq (.reg false zz49_r8) (.seq (.reg true zz49_r9) (.reg false zz49_r10)))))
abbrev zz49_r11:List AI:=[
 aI 2 (.mv true (.c (.int .i64 0)))]
abbrev zz49_c:ACode:=.seq (.reg false zz49_r0) (.seq (.reg false zz49_r1) (.seq (.seq (.reg false zz49_r2) (.cond (.t 9) (.reg false zz49_r3) (.skip))) (.seq (.seq (.reg false zz49_r4) (.cond (.t 13) (.seq (.reg false zz49_r5) (.ret)) (.skip))) (.seq (.seq (.reg false zz49_r6) (.block 0 (.loop zz49_l0))) (.seq (.reg false zz49_r11) (.ret))))))
def zz49_F:AFunc:=⟨43,[.tmp 2],zz49_c⟩
theorem zz49_cp:zf Try.prog [] f_zz49=some zz49_F:=by kernel_rfl
abbrev zz47_r0:List AI:=[
 aI 4 (.alloc (zr 64 (.int .u8 0))),
 aI 5 (.mv true (.c (.int .i64 0)))]
abbrev zz47_r1:List AI:=[
 aM 8 0,
 aM 9 1,
 aI 10 (.call (.c (.fn f_zz37)) [(.t 8),(.t 9)] 0),
 aN 6 10]
abbrev zz47_r2:List AI:=[
 aM 11 6,
 aI 12 (.bin .neq (.t 11) (.c (.int .i64 0)))]
abbrev zz47_r3:List AI:=[
 aI 13 (.build (zr 64 (.int .u8 0)) []),
 aM 14 6,
 aS (.store 64 (.t 4) (.t 13) .any),
 aN 5 14]
abbrev zz47_r4:List AI:=[
 aM 15 0,
 aI 16 (.nilck (.t 15)),
 aI 17 (.faddr 1 (.t 16)),
 aI 18 (.load false 1 (.t 17) .any),
 aM 19 1,
 aI 20 (.gd (.mlook [.i] .nilS false) [(.t 18),(.t 19)]),
 aN 7 20]
abbrev zz47_r5:List AI:=[
 aM 21 7,
 aI 22 (.len false (.t 21)),
 aI 23 (.bin .gtr (.t 22) (.c (.int .i64 0)))]
abbrev zz47_r6:List AI:=[
 aM 24 7,
 aM 25 7,
 aI 26 (.len false (.t 25)),
 aI 27 (.bin .sub (.t 26) (.c (.int .i64 1))),
 aI 28 (.iaddr 64 (.t 24) (.t 27)),
 aI 29 (.load true 64 (.t 28) .any),
 aS (.store 64 (.t 4) (.t 29) .any),
 aI 5 (.mv true (.c (.int .i64 0)))]
abbrev zz47_r7:List AI:=[
 aM 30 0,
 aI 31 (.nilck (.t 30)),
 aI 32 (.faddr 0 (.t 31)),
 aI 33 (.load false 1 (.t 32) .any),
 aM 34 1,
 aI 35 (.iaddr 65 (.t 33) (.t 34)),
 aI 36 (.faddr 64 (.t 35)),
 aI 37 (.load false 1 (.t 36) .any)]
abbrev zz47_r8:List AI:=[
 aI 38 (.build (zr 64 (.int .u8 0)) []),
 aS (.store 64 (.t 4) (.t 38) .any),
 aI 5 (.mv true (.c (.int .i64 14)))]
abbrev zz47_r9:List AI:=[
 aM 39 0,
 aI 40 (.nilck (.t 39)),
 aI 41 (.faddr 0 (.t 40)),
 aI 42 (.load false 1 (.t 41) .any),
 aM 43 1,
 aI 44 (.iaddr 65 (.t 42) (.t 43)),
 aI 45 (.faddr 0 (.t 44)),
 aI 46 (.load true 64 (.t 45) .any),
 aS (.store 64 (.t 4) (.t 46) .any),
 aI 5 (.mv true (.c (.int .i64 0)))]
abbrev zz47_c:ACode:=.seq (.reg false zz47_r0) (.seq (.seq (.reg false zz47_r1) (.seq (.reg false zz47_r2) (.cond (.t 12) (.seq (.reg false zz47_r3) (.ret)) (.skip)))) (.seq (.seq (.reg false zz47_r4) (.seq (.reg false zz47_r5) (.cond (.t 23) (.seq (.reg false zz47_r6) (.ret)) (.skip)))) (.seq (.seq (.reg false zz47_r7) (.cond (.t 37) (.seq (.reg false zz47_r8) (.ret)) (.skip))) (.seq (.reg false zz47_r9) (.ret)))))
def zz47_F:AFunc:=⟨47,[.cell 4 true 64,.tmp 5],zz47_c⟩
theorem zz47_cp:zf Try.prog [] f_zz47=some zz47_F:=by kernel_rfl
abbrev zz36_r0:List AI:=[
 aI 5 (.box 64 (.t 2)),
 aI 6 (.mv true (.c (.int .i64 0)))]
abbrev zz36_r1:List AI:=[
 aM 8 0,
 aM 9 1,
 aI 10 (.call (.c (.fn f_zz37)) [(.t 8),(.t 9)] 0),
 aN 7 10]
abbrev zz36_r2:List AI:=[
 aM 11 7,
 aI 12 (.bin .eql (.t 11) (.c (.int .i64 0)))]
abbrev zz36_r3:List AI:=[
 aM 13 0,
 aI 14 (.call (.c (.fn f_zz50)) [(.t 13)] 0),
 aN 7 14]
abbrev zz36_r4:List AI:=[
 aM 15 7,
 aI 16 (.bin .eql (.t 15) (.c (.int .i64 0)))]
abbrev zz36_r5:List AI:=[
 aM 17 0,
 aI 18 (.nilck (.t 17)),
 aI 19 (.faddr 1 (.t 18)),
 aI 20 (.load false 1 (.t 19) .foreign),
 aM 21 1,
 aM 22 0,
 aI 23 (.nilck (.t 22)),
 aI 24 (.faddr 1 (.t 23)),
 aI 25 (.load false 1 (.t 24) .foreign),
 aM 26 1,
 aI 27 (.gd (.mlook [.i] .nilS false) [(.t 25),(.t 26)]),
 aI 28 (.load true 64 (.t 5) (.site 5)),
 aI 29 (.mkslice 64 1 (.agg (zr 64 (.int .u8 0))) [(0,(.t 28))]),
 aI 30 (.kp [(.ld false 1 (.t 19))] (.appG 64 64 (zr 64 (.int .u8 0)) (.t 27) (.t 29))),
 aS (.gd (.mset [.i]) [(.t 20),(.t 21),(.t 30)])]
abbrev zz36_r6:List AI:=[
 aM 31 7,
 aN 6 31]
abbrev zz36_c:ACode:=.seq (.reg false zz36_r0) (.seq (.reg false zz36_r1) (.seq (.seq (.reg false zz36_r2) (.cond (.t 12) (.reg false zz36_r3) (.skip))) (.seq (.seq (.reg false zz36_r4) (.cond (.t 16) (.reg true zz36_r5) (.skip))) (.seq (.reg false zz36_r6) (.ret)))))
def zz36_F:AFunc:=⟨32,[.tmp 6],zz36_c⟩
theorem zz36_cp:zf Try.prog [30] f_zz36=some zz36_F:=by kernel_rfl
-- loop 0: [0, 1, 31, 32]
abbrev zz57_r0:List AI:=[
 aI 6 (.mv true (.c (.int .i64 0)))]
abbrev zz57_r1:List AI:=[
 aM 9 2,
 aI 10 (.bin .lss (.t 9) (.c (.int .i64 1))),
 aM 11 10,
 aF 12 11 (.mv false (.t 1)),
 aF 13 11 (.bin .lss (.t 12) (.c (.int .i64 0))),
 aI 14 (.pick (.t 11) (.c (.bool true)) (.t 13)),
 aM 15 14,
 aF 16 15 (.mv false (.t 1)),
 aF 17 15 (.mv false (.t 0)),
 aF 18 15 (.call (.c (.fn f_zz48)) [(.t 17)] 0),
 aF 19 15 (.bin .gtr (.t 16) (.t 18)),
 aI 20 (.pick (.t 15) (.c (.bool true)) (.t 19)),
 aM 21 20,
 aF 22 21 (.mv false (.t 2)),
 aF 23 21 (.mv false (.t 0)),
 aF 24 21 (.call (.c (.fn f_zz48)) [(.t 23)] 0),
 aF 25 21 (.mv false (.t 1)),
 aF 26 21 (.bin .sub (.t 24) (.t 25)),
 aF 27 21 (.bin .quo (.t 26) (.c (.int .i64 2))),
 aF 28 21 (.bin .gtr (.t 22) (.t 27)),
 aI 29 (.pick (.t 21) (.c (.bool true)) (.t 28))]
abbrev zz57_r2:List AI:=[
 aI 6 (.mv true (.c (.int .i64 1)))]
abbrev zz57_r3:List AI:=[
 aM 30 2,
 aI 31 (.bin .mul (.c (.int .i64 2)) (.t 30)),
 aI 32 (.mv false (.c (.int .i64 0)))]
abbrev zz57_r4:List AI:=[
 aI 33 (.bin .lss (.t 32) (.t 31))]
abbrev zz57_r5:List AI:=[
 aM 34 32,
 aN 7 34]
abbrev zz57_r6:List AI:=[
 aM 35 0,
 aM 36 1,
 aM 37 7,
 aI 38 (.bin .add (.t 36) (.t 37)),
 aI 39 (.call (.c (.fn f_zz62)) [(.c (.int .u32 1)),(.c (.str []))] 0),
 aI 40 (.call (.c (.fn f_zz36)) [(.t 35),(.t 38),(.t 39)] 0),
 aN 8 40]
abbrev zz57_r7:List AI:=[
 aM 41 8,
 aI 42 (.bin .neq (.t 41) (.c (.int .i64 0)))]
abbrev zz57_r8:List AI:=[
 aM 43 8,
 aN 6 43]
abbrev zz57_r9:List AI:=[
 aI 44 (.bin .add (.t 32) (.c (.int .i64 1))),
 aM 32 44]
abbrev zz57_l0:ACode:=.seq (.reg false zz57_r4) (.seq (.cond (.t 33) (.skip) (.exit 0)) (.seq (.block 1 (.seq (.reg false zz57_r5) (.seq (.reg false zz57_r6) (.seq (.reg false zz57_r7) (.cond (.t 42) (.seq (.reg false zz57_r8) (.ret)) (.skip)))))) (.reg false zz57_r9)))
abbrev zz57_r10:List AI:=[
 aM 45 0,
 aI 46 (.call (.c (.fn f_zz49)) [(.t 45)] 0),
 aN 6 46]
abbrev zz57_c:ACode:=.seq (.reg false zz57_r0) (.seq (.seq (.reg false zz57_r1) (.cond (.t 29) (.seq (.reg false zz57_r2) (.ret)) (.skip))) (.seq (.seq (.reg false zz57_r3) (.block 0 (.loop zz57_l0))) (.seq (.reg false zz57_r10) (.ret))))
def zz57_F:AFunc:=⟨47,[.tmp 6],zz57_c⟩
theorem zz57_cp:zf Try.prog [] f_zz57=some zz57_F:=by kernel_rfl
-- loop 0: [0, 1, 9, 10, 42, 43]
abbrev zz63_r0:List AI:=[
 aI 6 (.mv true (.c .nilP)),
 aI 7 (.mv true (.c .nilS)),
 aI 8 (.mv true (.c (.int .i64 0)))]
abbrev zz63_r1:List AI:=[
 aM 15 2,
 aI 16 (.bin .lss (.t 15) (.c (.int .i64 1))),
 aM 17 16,
 aF 18 17 (.mv false (.t 1)),
 aF 19 17 (.bin .lss (.t 18) (.c (.int .i64 0))),
 aI 20 (.pick (.t 17) (.c (.bool true)) (.t 19)),
 aM 21 20,
 aF 22 21 (.mv false (.t 1)),
 aF 23 21 (.mv false (.t 0)),
 aF 24 21 (.call (.c (.fn f_zz48)) [(.t 23)] 0),
 aF 25 21 (.bin .gtr (.t 22) (.t 24)),
 aI 26 (.pick (.t 21) (.c (.bool true)) (.t 25)),
 aM 27 26,
 aF 28 27 (.mv false (.t 2)),
 aF 29 27 (.mv false (.t 0)),
 aF 30 27 (.call (.c (.fn f_zz48)) [(.t 29)] 0),
 aF 31 27 (.mv false (.t 1)),
 aF 32 27 (.bin .sub (.t 30) (.t 31)),
 aF 33 27 (.bin .quo (.t 32) (.c (.int .i64 2))),
 aF 34 27 (.bin .gtr (.t 28) (.t 33)),
 aI 35 (.pick (.t 27) (.c (.bool true)) (.t 34))]
abbrev zz63_r2:List AI:=[
 aI 6 (.mv true (.c .nilP)),
 aI 7 (.mv true (.c .nilS)),
 aI 8 (.mv true (.c (.int .i64 1)))]
abbrev zz63_r3:List AI:=[
 aM 36 0,
 aM 37 1,
 aM 38 2,
 aI 39 (.build [.nilP,(.int .i64 0),(.int .i64 0)] [(0,1,(.t 36)),(1,1,(.t 37)),(2,1,(.t 38))]),
 aI 40 (.build [.nilP,(.int .i64 0),(.int .i64 0)] [(0,3,(.t 39))]),
 aI 41 (.gn (.box 3) [(.t 40)]),
 aN 9 41]
abbrev zz63_r4:List AI:=[
 aI 10 (.mv true (.c .nilS))]
abbrev zz63_r5:List AI:=[
 aM 42 2,
 aI 43 (.mv false (.c (.int .i64 0)))]
abbrev zz63_r6:List AI:=[
 aI 44 (.bin .lss (.t 43) (.t 42))]
abbrev zz63_r7:List AI:=[
 aM 45 43,
 aN 11 45]
abbrev zz63_r8:List AI:=[
 aM 47 9,
 aI 48 (.nilck (.t 47)),
 aI 49 (.faddr 0 (.t 48)),
 aI 50 (.load true 3 (.t 49) .any),
 aM 51 11,
 aI 52 (.call (.c (.fn f_zz41)) [(.t 50),(.t 51)] 0),
 aM 46 52,
 aI 53 (.ext (.t 46) 0),
 aI 54 (.ext (.t 46) 1),
 aI 55 (.ext (.t 46) 2),
 aI 12 (.alloc (zr 64 (.int .u8 0)++[(.int .i64 0),(.bool false)])),
 aI 13 (.alloc (zr 64 (.int .u8 0)++[(.int .i64 0),(.bool false)])),
 aS (.store 66 (.t 12) (.t 53) .any),
 aS (.store 66 (.t 13) (.t 54) .any),
 aN 14 55]
abbrev zz63_r9:List AI:=[
 aM 56 14,
 aI 57 (.bin .neq (.t 56) (.c (.int .i64 0)))]
abbrev zz63_r10:List AI:=[
 aM 58 14,
 aI 6 (.mv true (.c .nilP)),
 aI 7 (.mv true (.c .nilS)),
 aN 8 58]
abbrev zz63_r11:List AI:=[
 aI 59 (.faddr 65 (.t 12)),
 aI 60 (.load false 1 (.t 59) .any)]
abbrev zz63_r12:List AI:=[
 aM 61 9,
 aI 62 (.nilck (.t 61)),
 aI 63 (.faddr 0 (.t 62)),
 aI 64 (.load true 3 (.t 63) .foreign),
 aI 65 (.load true 66 (.t 12) (.site 12)),
 aI 66 (.load true 66 (.t 13) (.site 13)),
 aI 67 (.call (.c (.fn f_zz40)) [(.t 64),(.t 65),(.t 66)] 2),
 aN 14 67]
abbrev zz63_r13:List AI:=[
 aN 68 10,
 aM 69 11,
 aI 70 (.mkslice 1 1 (.int .i64 0) [(0,(.t 69))]),
 aI 71 (.append 1 8 (.t 68) (.t 70)),
 aN 10 71]
abbrev zz63_r14:List AI:=[
 aM 72 0,
 aM 73 1,
 aM 74 11,
 aI 75 (.bin .mul (.c (.int .i64 2)) (.t 74)),
 aI 76 (.bin .add (.t 73) (.t 75)),
 aI 77 (.call (.c (.fn f_zz57)) [(.t 72),(.t 76),(.c (.int .i64 1))] 0),
 aN 14 77]
abbrev zz63_r15:List AI:=[
 aM 78 14,
 aI 79 (.bin .neq (.t 78) (.c (.int .i64 0)))]
abbrev zz63_r16:List AI:=[
 aM 80 14,
 aI 6 (.mv true (.c .nilP)),
 aI 7 (.mv true (.c .nilS)),
 aN 8 80]
abbrev zz63_r17:List AI:=[
 aI 81 (.bin .add (.t 43) (.c (.int .i64 1))),
 aM 43 81]
abbrev zz63_l0:ACode:=.seq (.reg false zz63_r6) (.seq (.cond (.t 44) (.skip) (.exit 0)) (.seq (.block 1 (.seq (.reg false zz63_r7) (.seq (.reg false zz63_r8) (.seq (.seq (.reg false zz63_r9) (.cond (.t 57) (.seq (.reg false zz63_r10) (.ret)) (.skip))) (.seq (.seq (.reg false zz63_r11) (.cond (.t 60) (.reg true zz63_r12) (.seq (.reg false zz63_r13) (.reg false zz63_r14)))) (.seq (.reg false zz63_r15) (.cond (.t 79) (.seq (.reg false zz63_r16) (.ret)) (.skip)))))))) (.reg false zz63_r17)))
abbrev zz63_r18:List AI:=[
 aM 82 9,
 aM 83 10,
 aN 6 82,
 aN 7 83,
 aI 8 (.mv true (.c (.int .i64 0)))]
abbrev zz63_c:ACode:=.seq (.reg false zz63_r0) (.seq (.seq (.reg false zz63_r1) (.cond (.t 35) (.seq (.reg false zz63_r2) (.ret)) (.skip))) (.seq (.reg false zz63_r3) (.seq (.reg false zz63_r4) (.seq (.seq (.reg false zz63_r5) (.block 0 (.loop zz63_l0))) (.seq (.reg false zz63_r18) (.ret))))))
def zz63_F:AFunc:=⟨84,[.tmp 6,.tmp 7,.tmp 8],zz63_c⟩
theorem zz63_cp:zf Try.prog [41,67] f_zz63=some zz63_F:=by kernel_rfl
abbrev zz39_r0:List AI:=[
 aI 6 (.mv true (.c (.int .i64 0)))]
abbrev zz39_r1:List AI:=[
 aM 7 1,
 aI 8 (.bin .lss (.t 7) (.c (.int .i64 0))),
 aM 9 8,
 aF 10 9 (.mv false (.t 1)),
 aF 11 9 (.mv false (.t 0)),
 aF 12 9 (.nilck (.t 11)),
 aF 13 9 (.faddr 0 (.t 12)),
 aF 14 9 (.faddr 2 (.t 13)),
 aF 15 9 (.load false 1 (.t 14) .any),
 aF 16 9 (.bin .geq (.t 10) (.t 15)),
 aI 17 (.pick (.t 9) (.c (.bool true)) (.t 16)),
 aM 18 17,
 aF 19 18 (.mv false (.t 2)),
 aF 20 18 (.len true (.t 19)),
 aF 21 18 (.bin .lss (.t 20) (.c (.int .i64 1))),
 aI 22 (.pick (.t 18) (.c (.bool true)) (.t 21)),
 aM 23 22,
 aF 24 23 (.mv false (.t 2)),
 aF 25 23 (.len true (.t 24)),
 aF 26 23 (.bin .gtr (.t 25) (.c (.int .i64 55))),
 aI 27 (.pick (.t 23) (.c (.bool true)) (.t 26))]
abbrev zz39_r2:List AI:=[
 aI 6 (.mv true (.c (.int .i64 1)))]
abbrev zz39_r3:List AI:=[
 aM 28 0,
 aM 29 1,
 aM 30 2,
 aI 31 (.call (.c (.fn f_zz20)) [(.t 28),(.t 29),(.t 30)] 0),
 aN 6 31]
abbrev zz39_c:ACode:=.seq (.reg false zz39_r0) (.seq (.seq (.reg false zz39_r1) (.cond (.t 27) (.seq (.reg false zz39_r2) (.ret)) (.skip))) (.seq (.reg false zz39_r3) (.ret)))
def zz39_F:AFunc:=⟨32,[.tmp 6],zz39_c⟩
theorem zz39_cp:zf Try.prog [] f_zz39=some zz39_F:=by kernel_rfl
abbrev zz31_r0:List AI:=[
 aI 4 (.mv true (.c (.int .i64 0)))]
abbrev zz31_r1:List AI:=[
 aM 5 1,
 aI 6 (.bin .lss (.t 5) (.c (.int .i64 0))),
 aM 7 6,
 aF 8 7 (.mv false (.t 1)),
 aF 9 7 (.mv false (.t 0)),
 aF 10 7 (.nilck (.t 9)),
 aF 11 7 (.faddr 0 (.t 10)),
 aF 12 7 (.faddr 2 (.t 11)),
 aF 13 7 (.load false 1 (.t 12) .any),
 aF 14 7 (.bin .geq (.t 8) (.t 13)),
 aI 15 (.pick (.t 7) (.c (.bool true)) (.t 14))]
abbrev zz31_r2:List AI:=[
 aI 4 (.mv true (.c (.int .i64 1)))]
abbrev zz31_r3:List AI:=[
 aM 16 0,
 aM 17 1,
 aI 18 (.call (.c (.fn f_zz20)) [(.t 16),(.t 17),(.c (.str []))] 0),
 aN 4 18]
abbrev zz31_c:ACode:=.seq (.reg false zz31_r0) (.seq (.seq (.reg false zz31_r1) (.cond (.t 15) (.seq (.reg false zz31_r2) (.ret)) (.skip))) (.seq (.reg false zz31_r3) (.ret)))
def zz31_F:AFunc:=⟨19,[.tmp 4],zz31_c⟩
theorem zz31_cp:zf Try.prog [] f_zz31=some zz31_F:=by kernel_rfl
abbrev zz38_r0:List AI:=[
 aI 4 (.mv true (.c (.str []))),
 aI 5 (.mv true (.c (.int .i64 0)))]
abbrev zz38_r1:List AI:=[
 aM 11 1,
 aI 12 (.bin .lss (.t 11) (.c (.int .i64 0))),
 aM 13 12,
 aF 14 13 (.mv false (.t 1)),
 aF 15 13 (.mv false (.t 0)),
 aF 16 13 (.nilck (.t 15)),
 aF 17 13 (.faddr 0 (.t 16)),
 aF 18 13 (.faddr 2 (.t 17)),
 aF 19 13 (.load false 1 (.t 18) .any),
 aF 20 13 (.bin .geq (.t 14) (.t 19)),
 aI 21 (.pick (.t 13) (.c (.bool true)) (.t 20))]
abbrev zz38_r2:List AI:=[
 aI 4 (.mv true (.c (.str []))),
 aI 5 (.mv true (.c (.int .i64 1)))]
abbrev zz38_r3:List AI:=[
 aM 23 0,
 aI 24 (.nilck (.t 23)),
 aI 25 (.faddr 0 (.t 24)),
 aI 26 (.load true 3 (.t 25) .any),
 aM 27 1,
 aI 28 (.call (.c (.fn f_zz41)) [(.t 26),(.t 27)] 0),
 aM 22 28,
 aI 29 (.ext (.t 22) 0),
 aI 30 (.ext (.t 22) 1),
 aI 31 (.ext (.t 22) 2),
 aI 6 (.gn (.alloc (zr 64 (.int .u8 0)++[(.int .i64 0),(.bool false)])) []),
 aI 7 (.alloc (zr 64 (.int .u8 0)++[(.int .i64 0),(.bool false)])),
 aS (.store 66 (.t 6) (.t 29) .any),
 aS (.store 66 (.t 7) (.t 30) .any),
 aN 8 31]
abbrev zz38_r4:List AI:=[
 aM 33 8,
 aI 34 (.bin .neq (.t 33) (.c (.int .i64 0))),
 aN 32 34]
abbrev zz38_r5:List AI:=[
 aM 35 8,
 aI 4 (.mv true (.c (.str []))),
 aN 5 35]
abbrev zz38_r6:List AI:=[
 aI 37 (.faddr 65 (.t 6)),
 aI 38 (.load false 1 (.t 37) .any),
 aI 39 (.not (.t 38)),
 aN 36 39]
abbrev zz38_r7:List AI:=[
 aI 4 (.mv true (.c (.str []))),
 aI 5 (.mv true (.c (.int .i64 14)))]
abbrev zz38_r8:List AI:=[
 aI 41 (.faddr 0 (.t 6)),
 aI 42 (.iaddrA 64 1 (.t 41) (.c (.int .i64 36))),
 aI 43 (.load false 1 (.t 42) .any),
 aI 44 (.bin .eql (.t 43) (.c (.int .u8 0))),
 aN 40 44]
abbrev zz38_r9:List AI:=[
 aI 4 (.mv true (.c (.str []))),
 aI 5 (.mv true (.c (.int .i64 8)))]
abbrev zz38_b0:ACode:=.seq (.reg false zz38_r8) (.cond (.t 40) (.seq (.reg false zz38_r9) (.ret)) (.skip))
abbrev zz38_b1:ACode:=.seq (.reg false zz38_r6) (.cond (.t 36) (.seq (.reg false zz38_r7) (.ret)) (zz38_b0))
abbrev zz38_r10:List AI:=[
 aI 45 (.faddr 0 (.t 6)),
 aI 46 (.iaddrA 64 1 (.t 45) (.c (.int .i64 36))),
 aI 47 (.load false 1 (.t 46) .any),
 aI 48 (.conv .i64 (.t 47)),
 aN 9 48]
abbrev zz38_r11:List AI:=[
 aI 49 (.mkG 1 0 (.int .u8 0) []),
 aI 50 (.faddr 0 (.t 6)),
 aM 51 9,
 aI 52 (.mn (.t 51) (.c (.int .i64 28))),
 aI 53 (.bin .add (.c (.int .i64 4)) (.t 52)),
 aI 54 (.gd (.arrS 1 64 true true false) [(.t 50),(.c (.int .i64 4)),(.t 53)]),
 aI 55 (.appG 1 1 [(.int .u8 0)] (.t 49) (.t 54)),
 aN 10 55]
abbrev zz38_r12:List AI:=[
 aM 56 9,
 aI 57 (.bin .gtr (.t 56) (.c (.int .i64 28)))]
abbrev zz38_r13:List AI:=[
 aN 58 10,
 aI 59 (.faddr 0 (.t 6)),
 aM 60 9,
 aI 61 (.bin .add (.c (.int .i64 37)) (.t 60)),
 aI 62 (.bin .sub (.t 61) (.c (.int .i64 28))),
 aI 63 (.gd (.arrS 1 64 true true false) [(.t 59),(.c (.int .i64 37)),(.t 62)]),
 aI 64 (.appG 1 1 [(.int .u8 0)] (.t 58) (.t 63)),
 aN 10 64]
abbrev zz38_r14:List AI:=[
 aM 65 10,
 aI 66 (.gd .b2s [(.t 65)]),
 aN 4 66,
 aI 5 (.mv true (.c (.int .i64 0)))]
abbrev zz38_c:ACode:=.seq (.reg false zz38_r0) (.seq (.seq (.reg false zz38_r1) (.cond (.t 21) (.seq (.reg false zz38_r2) (.ret)) (.skip))) (.seq (.reg false zz38_r3) (.seq (.block 0 (.seq (.reg false zz38_r4) (.cond (.t 32) (.seq (.reg false zz38_r5) (.ret)) (zz38_b1)))) (.seq (.reg false zz38_r10) (.seq (.reg false zz38_r11) (.seq (.seq (.reg false zz38_r12) (.cond (.t 57) (.reg false zz38_r13) (.skip))) (.seq (.reg false zz38_r14) (.ret))))))))
def zz38_F:AFunc:=⟨67,[.tmp 4,.tmp 5],zz38_c⟩
theorem zz38_cp:zf Try.prog [6,49,55,64,66] f_zz38=some zz38_F:=by kernel_rfl
-- loop 0: [0, 1, 4, 5, 9, 10]
abbrev zz62_r0:List AI:=[
 aI 4 (.alloc (zr 64 (.int .u8 0)))]
abbrev zz62_r1:List AI:=[
 aI 5 (.gn (.alloc (zr 64 (.int .u8 0))) [])]
abbrev zz62_r2:List AI:=[
 aI 9 (.build [(.int .i64 0),(.int .i64 0)] [(0,1,(.c (.int .i64 0))),(1,1,(.c (.int .i64 32)))]),
 aI 10 (.mv false (.c (.int .i64 0)))]
abbrev zz62_r3:List AI:=[
 aI 11 (.bin .lss (.t 10) (.c (.int .i64 2)))]
abbrev zz62_r4:List AI:=[
 aI 12 (.idxA false 2 1 (.t 9) (.t 10)),
 aN 7 12]
abbrev zz62_r5:List AI:=[
 aM 13 7,
 aM 14 7,
 aI 15 (.bin .add (.t 14) (.c (.int .i64 1))),
 aM 16 7,
 aI 17 (.bin .add (.t 16) (.c (.int .i64 2))),
 aM 18 7,
 aI 19 (.bin .add (.t 18) (.c (.int .i64 3))),
 aM 20 0,
 aI 21 (.bin .shr (.t 20) (.c (.int .u64 24))),
 aI 22 (.conv .u8 (.t 21)),
 aM 23 0,
 aI 24 (.bin .shr (.t 23) (.c (.int .u64 16))),
 aI 25 (.conv .u8 (.t 24)),
 aM 26 0,
 aI 27 (.bin .shr (.t 26) (.c (.int .u64 8))),
 aI 28 (.conv .u8 (.t 27)),
 aM 29 0,
 aI 30 (.conv .u8 (.t 29)),
 aI 31 (.iaddrA 64 1 (.t 5) (.t 13)),
 aS (.store 1 (.t 31) (.t 22) .any),
 aI 32 (.iaddrA 64 1 (.t 5) (.t 15)),
 aS (.store 1 (.t 32) (.t 25) .any),
 aI 33 (.iaddrA 64 1 (.t 5) (.t 17)),
 aS (.store 1 (.t 33) (.t 28) .any),
 aI 34 (.iaddrA 64 1 (.t 5) (.t 19)),
 aS (.store 1 (.t 34) (.t 30) .any)]
abbrev zz62_r6:List AI:=[
 aI 35 (.bin .add (.t 10) (.c (.int .i64 1))),
 aM 10 35]
abbrev zz62_l0:ACode:=.seq (.reg false zz62_r3) (.seq (.cond (.t 11) (.skip) (.exit 0)) (.seq (.block 1 (.seq (.reg false zz62_r4) (.reg false zz62_r5))) (.reg false zz62_r6)))
abbrev zz62_r7:List AI:=[
 aM 36 1,
 aI 37 (.len true (.t 36)),
 aI 38 (.conv .u8 (.t 37)),
 aI 39 (.iaddrA 64 1 (.t 5) (.c (.int .i64 36))),
 aS (.store 1 (.t 39) (.t 38) .any)]
abbrev zz62_r8:List AI:=[
 aI 40 (.gd (.arrS 1 64 true true false) [(.t 5),(.c (.int .i64 4)),(.c (.int .i64 32))]),
 aM 41 1,
 aI 42 (.gd .copyS [(.t 40),(.t 41)]),
 aN 8 42]
abbrev zz62_r9:List AI:=[
 aI 43 (.gd (.arrS 1 64 true false false) [(.t 5),(.c (.int .i64 37))]),
 aM 44 1,
 aM 45 8,
 aI 46 (.slS (.t 44) (some (.t 45)) none),
 aI 47 (.gd .copyS [(.t 43),(.t 46)])]
abbrev zz62_r10:List AI:=[
 aI 48 (.load true 64 (.t 5) .any),
 aS (.store 64 (.t 4) (.t 48) .any)]
abbrev zz62_c:ACode:=.seq (.reg false zz62_r0) (.seq (.reg false zz62_r1) (.seq (.seq (.reg false zz62_r2) (.block 0 (.loop zz62_l0))) (.seq (.reg false zz62_r7) (.seq (.reg false zz62_r8) (.seq (.reg true zz62_r9) (.seq (.reg false zz62_r10) (.ret)))))))
def zz62_F:AFunc:=⟨49,[.cell 4 true 64],zz62_c⟩
theorem zz62_cp:zf Try.prog [5] f_zz62=some zz62_F:=by kernel_rfl
-- loop 0: [4, 5, 6, 7, 13, 14]
abbrev zz41_r0:List AI:=[
 aI 2 (.box 3 (.t 0)),
 aI 4 (.gn (.alloc (zr 64 (.int .u8 0)++[(.int .i64 0),(.bool false)])) []),
 aI 5 (.gn (.alloc (zr 64 (.int .u8 0)++[(.int .i64 0),(.bool false)])) []),
 aI 6 (.gn (.alloc [(.int .i64 0)]) [])]
abbrev zz41_r1:List AI:=[
 aI 7 (.gn (.alloc [.nilS]) [])]
abbrev zz41_r2:List AI:=[
 aI 10 (.load true 3 (.t 2) .any),
 aM 11 1,
 aI 12 (.call (.c (.fn f_zz25)) [(.t 10),(.t 11)] 0)]
abbrev zz41_r3:List AI:=[
 aI 8 (.alloc (zr 64 (.int .u8 0)++[(.int .i64 0),(.bool false)])),
 aS (.store 66 (.t 8) (.t 13) .any)]
abbrev zz41_r4:List AI:=[
 aN 9 14]
abbrev zz41_r5:List AI:=[
 aM 15 9,
 aI 16 (.bin .neq (.t 15) (.c (.int .i64 0)))]
abbrev zz41_r6:List AI:=[
 aI 17 (.build (zr 64 (.int .u8 0)++[(.int .i64 0),(.bool false)]) []),
 aI 18 (.build (zr 64 (.int .u8 0)++[(.int .i64 0),(.bool false)]) []),
 aM 19 9,
 aS (.store 66 (.t 4) (.t 17) .any),
 aS (.store 66 (.t 5) (.t 18) .any),
 aS (.store 1 (.t 6) (.t 19) .any)]
abbrev zz41_r7:List AI:=[
 aI 20 (.load false 1 (.t 7) .any),
 aI 21 (.load true 66 (.t 8) .any),
 aI 22 (.mkslice 66 1 (.agg (zr 64 (.int .u8 0)++[(.int .i64 0),(.bool false)])) [(0,(.t 21))]),
 aI 23 (.appG 66 80 (zr 64 (.int .u8 0)++[(.int .i64 0),(.bool false)]) (.t 20) (.t 22)),
 aS (.store 1 (.t 7) (.t 23) .any)]
abbrev zbd:ACode:=.seq (.reg false zz41_r3) (.reg false zz41_r4)
abbrev zbe:ACode:=.block 1 (.seq (.seq (.reg false zz41_r5) (.cond (.t 16) (.seq (.reg false zz41_r6) (.ret)) (.skip))) (.reg false zz41_r7))
abbrev zz41_r8:List AI:=[
 aI 24 (.load false 1 (.t 7) .foreign),
 aI 25 (.iaddr 66 (.t 24) (.c (.int .i64 1))),
 aI 26 (.faddr 65 (.t 25)),
 aI 27 (.load false 1 (.t 26) .foreign),
 aM 28 27,
 aT 29 28 (.load false 1 (.t 7) .foreign),
 aT 30 28 (.iaddr 66 (.t 29) (.c (.int .i64 0))),
 aT 31 28 (.faddr 65 (.t 30)),
 aT 32 28 (.load false 1 (.t 31) .foreign),
 aT 33 28 (.not (.t 32)),
 aT 34 28 (.mv false (.t 33)),
 aF 35 34 (.load false 1 (.t 7) .foreign),
 aF 36 34 (.iaddr 66 (.t 35) (.c (.int .i64 1))),
 aF 37 34 (.faddr 0 (.t 36)),
 aF 38 34 (.load true 64 (.t 37) .foreign),
 aF 40 34 (.load false 1 (.t 7) .foreign),
 aF 41 34 (.iaddr 66 (.t 40) (.c (.int .i64 0))),
 aF 42 34 (.faddr 0 (.t 41)),
 aF 43 34 (.load true 64 (.t 42) .foreign),
 aF 39 34 (.call (.c (.fn f_zz58)) [(.t 38),(.c (.int .i64 0))] 1),
 aF 44 34 (.call (.c (.fn f_zz58)) [(.t 43),(.c (.int .i64 0))] 1),
 aF 45 34 (.bin .gtr (.t 39) (.t 44)),
 aT 46 28 (.pick (.t 34) (.c (.bool true)) (.t 45)),
 aI 47 (.pick (.t 28) (.t 46) (.c (.bool false)))]
abbrev zz41_r9:List AI:=[
 aI 48 (.load false 1 (.t 7) .foreign),
 aI 49 (.iaddr 66 (.t 48) (.c (.int .i64 1))),
 aI 50 (.load true 66 (.t 49) .foreign),
 aI 51 (.load false 1 (.t 7) .foreign),
 aI 52 (.iaddr 66 (.t 51) (.c (.int .i64 0))),
 aI 53 (.load true 66 (.t 52) .foreign),
 aS (.kp [(.ld false 1 (.t 7)),(.ld true 66 (.t 52))] (.store 66 (.t 4) (.t 50) .gp)),
 aS (.store 66 (.t 5) (.t 53) .gp),
 aS (.store 1 (.t 6) (.c (.int .i64 0)) .gp)]
abbrev zz41_r10:List AI:=[
 aI 54 (.load false 1 (.t 7) .foreign),
 aI 55 (.iaddr 66 (.t 54) (.c (.int .i64 0))),
 aI 56 (.load true 66 (.t 55) .foreign),
 aI 57 (.load false 1 (.t 7) .foreign),
 aI 58 (.iaddr 66 (.t 57) (.c (.int .i64 1))),
 aI 59 (.load true 66 (.t 58) .foreign),
 aS (.kp [(.ld false 1 (.t 7)),(.ld true 66 (.t 58))] (.store 66 (.t 4) (.t 56) .gp)),
 aS (.store 66 (.t 5) (.t 59) .gp),
 aS (.store 1 (.t 6) (.c (.int .i64 0)) .gp)]
abbrev zz41_c:ACode:=.seq (.reg false zz41_r0) (.seq (.reg false zz41_r1) (.seq (.seq (.reg false zz41_r2) (.block 0 (.rangeF (.t 12) [13,14] zbd zbe))) (.seq (.seq (.reg true zz41_r8) (.cond (.t 47) (.seq (.reg true zz41_r9) (.ret)) (.skip))) (.seq (.reg true zz41_r10) (.ret)))))
def zz41_F:AFunc:=⟨60,[.cell 4 true 66,.cell 5 true 66,.cell 6 false 1],zz41_c⟩
theorem zz41_cp:zf Try.prog [4,5,6,7,23] f_zz41=some zz41_F:=by kernel_rfl
abbrev zz40_r0:List AI:=[
 aI 3 (.box 3 (.t 0)),
 aI 4 (.box 66 (.t 1)),
 aI 5 (.box 66 (.t 2)),
 aI 6 (.mv true (.c (.int .i64 0)))]
abbrev zz40_r1:List AI:=[
 aI 7 (.faddr 65 (.t 4)),
 aI 8 (.load false 1 (.t 7) .any),
 aI 9 (.not (.t 8)),
 aM 10 9,
 aF 11 10 (.faddr 65 (.t 5)),
 aF 12 10 (.load false 1 (.t 11) .any),
 aF 13 10 (.mv false (.t 12)),
 aT 14 13 (.faddr 0 (.t 5)),
 aT 15 13 (.load true 64 (.t 14) .any),
 aT 16 13 (.faddr 0 (.t 4)),
 aT 17 13 (.load true 64 (.t 16) .any),
 aT 18 13 (.eqs false (kr 64 .i) (.t 15) (.t 17)),
 aF 19 10 (.pick (.t 13) (.t 18) (.c (.bool false))),
 aI 20 (.pick (.t 10) (.c (.bool true)) (.t 19))]
abbrev zz40_r2:List AI:=[
 aI 6 (.mv true (.c (.int .i64 0)))]
abbrev zz40_r3:List AI:=[
 aI 21 (.load true 3 (.t 3) .any),
 aI 22 (.faddr 64 (.t 5)),
 aI 23 (.load false 1 (.t 22) .any),
 aI 24 (.faddr 0 (.t 4)),
 aI 25 (.load true 64 (.t 24) .any),
 aI 26 (.call (.c (.fn f_zz32)) [(.t 21),(.t 23),(.t 25)] 0),
 aN 6 26]
abbrev zz40_c:ACode:=.seq (.reg false zz40_r0) (.seq (.seq (.reg false zz40_r1) (.cond (.t 20) (.seq (.reg false zz40_r2) (.ret)) (.skip))) (.seq (.reg false zz40_r3) (.ret)))
def zz40_F:AFunc:=⟨27,[.tmp 6],zz40_c⟩
theorem zz40_cp:zf Try.prog [] f_zz40=some zz40_F:=by kernel_rfl
abbrev zz20_r0:List AI:=[
 aI 6 (.mv true (.c (.int .i64 0)))]
abbrev zz20_r1:List AI:=[
 aM 15 0,
 aI 16 (.nilck (.t 15)),
 aI 17 (.faddr 0 (.t 16)),
 aI 18 (.load true 3 (.t 17) .any),
 aM 19 1,
 aI 20 (.call (.c (.fn f_zz41)) [(.t 18),(.t 19)] 0),
 aM 14 20,
 aI 21 (.ext (.t 14) 0),
 aI 22 (.ext (.t 14) 1),
 aI 23 (.ext (.t 14) 2),
 aI 7 (.alloc (zr 64 (.int .u8 0)++[(.int .i64 0),(.bool false)])),
 aI 8 (.alloc (zr 64 (.int .u8 0)++[(.int .i64 0),(.bool false)])),
 aS (.store 66 (.t 7) (.t 21) .any),
 aS (.store 66 (.t 8) (.t 22) .any),
 aN 9 23]
abbrev zz20_r2:List AI:=[
 aM 24 9,
 aI 25 (.bin .neq (.t 24) (.c (.int .i64 0)))]
abbrev zz20_r3:List AI:=[
 aM 26 9,
 aN 6 26]
abbrev zz20_r4:List AI:=[
 aM 27 0,
 aI 28 (.nilck (.t 27)),
 aI 29 (.faddr 0 (.t 28)),
 aI 30 (.load true 3 (.t 29) .foreign),
 aI 31 (.load true 66 (.t 7) (.site 7)),
 aI 32 (.load true 66 (.t 8) (.site 8)),
 aI 33 (.call (.c (.fn f_zz40)) [(.t 30),(.t 31),(.t 32)] 2),
 aN 10 33]
abbrev zz20_r5:List AI:=[
 aM 34 10,
 aI 35 (.bin .neq (.t 34) (.c (.int .i64 0)))]
abbrev zz20_r6:List AI:=[
 aM 36 10,
 aN 6 36]
abbrev zz20_r7:List AI:=[
 aI 11 (.mv true (.c (.int .u32 0)))]
abbrev zz20_r8:List AI:=[
 aI 37 (.faddr 65 (.t 7)),
 aI 38 (.load false 1 (.t 37) .any)]
abbrev zz20_r9:List AI:=[
 aI 39 (.faddr 0 (.t 7)),
 aI 40 (.load true 64 (.t 39) .any),
 aI 41 (.call (.c (.fn f_zz58)) [(.t 40),(.c (.int .i64 0))] 0),
 aN 11 41]
abbrev zz20_r10:List AI:=[
 aM 42 11,
 aI 43 (.bin .add (.t 42) (.c (.int .u32 1))),
 aM 44 2,
 aI 45 (.call (.c (.fn f_zz62)) [(.t 43),(.t 44)] 0),
 aI 12 (.alloc (zr 64 (.int .u8 0))),
 aS (.store 64 (.t 12) (.t 45) .any)]
abbrev zz20_r11:List AI:=[
 aM 46 0,
 aI 47 (.nilck (.t 46)),
 aI 48 (.faddr 0 (.t 47)),
 aI 49 (.load true 3 (.t 48) .foreign),
 aM 50 0,
 aI 51 (.nilck (.t 50)),
 aI 52 (.faddr 0 (.t 51)),
 aI 53 (.faddr 1 (.t 52)),
 aI 54 (.load false 1 (.t 53) .foreign),
 aM 55 1,
 aI 56 (.bin .mul (.c (.int .i64 2)) (.t 55)),
 aI 57 (.bin .add (.t 54) (.t 56)),
 aI 58 (.bin .add (.t 57) (.c (.int .i64 1))),
 aI 59 (.load true 64 (.t 12) (.site 12)),
 aI 60 (.call (.c (.fn f_zz32)) [(.t 49),(.t 58),(.t 59)] 2),
 aN 13 60]
abbrev zz20_r12:List AI:=[
 aM 61 13,
 aI 62 (.bin .neq (.t 61) (.c (.int .i64 0)))]
abbrev zz20_r13:List AI:=[
 aM 63 13,
 aN 6 63]
abbrev zz20_r14:List AI:=[
 aM 64 0,
 aI 65 (.nilck (.t 64)),
 aI 66 (.faddr 0 (.t 65)),
 aI 67 (.load true 3 (.t 66) .foreign),
 aM 68 0,
 aI 69 (.nilck (.t 68)),
 aI 70 (.faddr 0 (.t 69)),
 aI 71 (.faddr 1 (.t 70)),
 aI 72 (.load false 1 (.t 71) .foreign),
 aM 73 1,
 aI 74 (.bin .mul (.c (.int .i64 2)) (.t 73)),
 aI 75 (.bin .add (.t 72) (.t 74)),
 aI 76 (.load true 64 (.t 12) (.site 12)),
 aI 77 (.call (.c (.fn f_zz32)) [(.t 67),(.t 75),(.t 76)] 2),
 aN 6 77]
abbrev zz20_c:ACode:=.seq (.reg false zz20_r0) (.seq (.reg false zz20_r1) (.seq (.seq (.reg false zz20_r2) (.cond (.t 25) (.seq (.reg false zz20_r3) (.ret)) (.skip))) (.seq (.seq (.reg true zz20_r4) (.seq (.reg false zz20_r5) (.cond (.t 35) (.seq (.reg false zz20_r6) (.ret)) (.skip)))) (.seq (.reg false zz20_r7) (.seq (.seq (.reg false zz20_r8) (.cond (.t 38) (.reg false zz20_r9) (.skip))) (.seq (.reg false zz20_r10) (.seq (.seq (.reg true zz20_r11) (.seq (.reg false zz20_r12) (.cond (.t 62) (.seq (.reg false zz20_r13) (.ret)) (.skip)))) (.seq (.reg true zz20_r14) (.ret)))))))))
def zz20_F:AFunc:=⟨78,[.tmp 6],zz20_c⟩
theorem zz20_cp:zf Try.prog [33,60,77] f_zz20=some zz20_F:=by kernel_rfl
abbrev zz25_r0:List AI:=[
 aI 2 (.gn (.box 3) [(.t 0)]),
 aI 3 (.gn (.box 1) [(.t 1)]),
 aI 4 (.mv true (.c .nilF))]
abbrev zz25_r1:List AI:=[
 aI 5 (.gd (.clo f_zz17) [(.t 2),(.t 3)]),
 aN 4 5]
abbrev zz25_c:ACode:=.seq (.reg false zz25_r0) (.seq (.reg false zz25_r1) (.ret))
def zz25_F:AFunc:=⟨6,[.tmp 4],zz25_c⟩
theorem zz25_cp:zf Try.prog [2,3,5] f_zz25=some zz25_F:=by kernel_rfl
abbrev zz58_r0:List AI:=[
 aI 2 (.box 64 (.t 0)),
 aI 4 (.mv true (.c (.int .u32 0)))]
abbrev zz58_r1:List AI:=[
 aM 5 1,
 aI 6 (.iaddrA 64 1 (.t 2) (.t 5)),
 aI 7 (.load false 1 (.t 6) (.site 2)),
 aI 8 (.conv .u32 (.t 7)),
 aI 9 (.bin .shl (.t 8) (.c (.int .u64 24))),
 aM 10 1,
 aI 11 (.bin .add (.t 10) (.c (.int .i64 1))),
 aI 12 (.iaddrA 64 1 (.t 2) (.t 11)),
 aI 13 (.load false 1 (.t 12) (.site 2)),
 aI 14 (.conv .u32 (.t 13)),
 aI 15 (.bin .shl (.t 14) (.c (.int .u64 16))),
 aI 16 (.bin .or (.t 9) (.t 15)),
 aM 17 1,
 aI 18 (.bin .add (.t 17) (.c (.int .i64 2))),
 aI 19 (.iaddrA 64 1 (.t 2) (.t 18)),
 aI 20 (.load false 1 (.t 19) (.site 2)),
 aI 21 (.conv .u32 (.t 20)),
 aI 22 (.bin .shl (.t 21) (.c (.int .u64 8))),
 aI 23 (.bin .or (.t 16) (.t 22)),
 aM 24 1,
 aI 25 (.bin .add (.t 24) (.c (.int .i64 3))),
 aI 26 (.iaddrA 64 1 (.t 2) (.t 25)),
 aI 27 (.load false 1 (.t 26) (.site 2)),
 aI 28 (.conv .u32 (.t 27)),
 aI 29 (.bin .or (.t 23) (.t 28)),
 aN 4 29]
abbrev zz58_c:ACode:=.seq (.reg false zz58_r0) (.seq (.reg true zz58_r1) (.ret))
def zz58_F:AFunc:=⟨30,[.tmp 4],zz58_c⟩
theorem zz58_cp:zf Try.prog [] f_zz58=some zz58_F:=by kernel_rfl
abbrev zz32_r0:List AI:=[
 aI 3 (.box 3 (.t 0)),
 aI 5 (.box 64 (.t 2)),
 aI 6 (.mv true (.c (.int .i64 0)))]
abbrev zz32_r1:List AI:=[
 aI 8 (.faddr 0 (.t 3)),
 aI 9 (.load false 1 (.t 8) .any),
 aM 10 1,
 aI 11 (.load true 64 (.t 5) .any),
 aI 12 (.call (.c (.fn f_zz36)) [(.t 9),(.t 10),(.t 11)] 0),
 aN 7 12]
abbrev zz32_r2:List AI:=[
 aM 13 7,
 aI 14 (.bin .neq (.t 13) (.c (.int .i64 0)))]
abbrev zz32_r3:List AI:=[
 aM 15 7,
 aN 6 15]
abbrev zz32_r4:List AI:=[
 aI 16 (.faddr 0 (.t 3)),
 aI 17 (.load false 1 (.t 16) .any),
 aI 18 (.call (.c (.fn f_zz49)) [(.t 17)] 0),
 aN 6 18]
abbrev zz32_c:ACode:=.seq (.reg false zz32_r0) (.seq (.seq (.reg false zz32_r1) (.seq (.reg false zz32_r2) (.cond (.t 14) (.seq (.reg false zz32_r3) (.ret)) (.skip)))) (.seq (.reg false zz32_r4) (.ret)))
def zz32_F:AFunc:=⟨19,[.tmp 6],zz32_c⟩
theorem zz32_cp:zf Try.prog [] f_zz32=some zz32_F:=by kernel_rfl
-- loop 0: [0, 1, 2, 9]
abbrev zz17_r0:List AI:=[
 aI 9 (.mv false (.c (.int .i64 0)))]
abbrev zz17_r1:List AI:=[
 aI 10 (.bin .lss (.t 9) (.c (.int .i64 2)))]
abbrev zz17_r2:List AI:=[
 aM 11 9,
 aN 4 11]
abbrev zz17_r3:List AI:=[
 aI 12 (.faddr 1 (.t 1)),
 aI 13 (.load false 1 (.t 12) .any),
 aI 14 (.load false 1 (.t 2) .any),
 aI 15 (.bin .mul (.c (.int .i64 2)) (.t 14)),
 aI 16 (.bin .add (.t 13) (.t 15)),
 aM 17 4,
 aI 18 (.bin .add (.t 16) (.t 17)),
 aN 5 18]
abbrev zz17_r4:List AI:=[
 aI 20 (.faddr 0 (.t 1)),
 aI 21 (.load false 1 (.t 20) .any),
 aM 22 5,
 aI 23 (.call (.c (.fn f_zz47)) [(.t 21),(.t 22)] 0),
 aM 19 23,
 aI 24 (.ext (.t 19) 0),
 aI 25 (.ext (.t 19) 1),
 aI 6 (.alloc (zr 64 (.int .u8 0))),
 aS (.store 64 (.t 6) (.t 24) .any),
 aN 7 25]
abbrev zz17_r5:List AI:=[
 aI 26 (.load true 64 (.t 6) .any),
 aM 27 5,
 aI 28 (.build (zr 64 (.int .u8 0)++[(.int .i64 0),(.bool false)]) [(0,64,(.t 26)),(64,1,(.t 27))]),
 aI 8 (.alloc (zr 64 (.int .u8 0)++[(.int .i64 0),(.bool false)])),
 aS (.store 66 (.t 8) (.t 28) .any)]
abbrev zz17_r6:List AI:=[
 aM 29 7,
 aI 30 (.bin .eql (.t 29) (.c (.int .i64 0)))]
abbrev zz17_r7:List AI:=[
 aI 31 (.load true 64 (.t 6) (.site 6)),
 aI 33 (.load true 64 (.t 6) (.site 6)),
 aI 32 (.call (.c (.fn f_zz58)) [(.t 31),(.c (.int .i64 0))] 2),
 aI 34 (.call (.c (.fn f_zz58)) [(.t 33),(.c (.int .i64 32))] 2),
 aI 35 (.bin .eql (.t 32) (.t 34)),
 aM 36 35,
 aT 37 36 (.load true 64 (.t 6) (.site 6)),
 aT 38 36 (.call (.c (.fn f_zz58)) [(.t 37),(.c (.int .i64 0))] 2),
 aT 39 36 (.bin .geq (.t 38) (.c (.int .u32 1))),
 aI 40 (.pick (.t 36) (.t 39) (.c (.bool false))),
 aM 41 40,
 aT 42 41 (.iaddrA 64 1 (.t 6) (.c (.int .i64 36))),
 aT 43 41 (.load false 1 (.t 42) (.site 6)),
 aT 44 41 (.bin .leq (.t 43) (.c (.int .u8 55))),
 aI 45 (.pick (.t 41) (.t 44) (.c (.bool false))),
 aI 46 (.faddr 65 (.t 8)),
 aS (.store 1 (.t 46) (.t 45) (.site 8))]
abbrev zz17_r8:List AI:=[
 aM 47 7,
 aI 48 (.bin .eql (.t 47) (.c (.int .i64 14)))]
abbrev zz17_r9:List AI:=[
 aI 7 (.mv true (.c (.int .i64 0)))]
abbrev zz17_r10:List AI:=[
 aM 49 0,
 aI 50 (.load true 66 (.t 8) .any),
 aM 51 7,
 aI 52 (.call (.t 49) [(.t 50),(.t 51)] 0),
 aI 53 (.not (.t 52))]
abbrev zz17_r11:List AI:=[
 aI 54 (.bin .add (.t 9) (.c (.int .i64 1))),
 aM 9 54]
abbrev zz17_l0:ACode:=.seq (.reg false zz17_r1) (.seq (.cond (.t 10) (.skip) (.exit 0)) (.seq (.block 1 (.seq (.reg false zz17_r2) (.seq (.reg false zz17_r3) (.seq (.reg false zz17_r4) (.seq (.reg false zz17_r5) (.seq (.seq (.reg false zz17_r6) (.cond (.t 30) (.reg true zz17_r7) (.skip))) (.seq (.seq (.reg false zz17_r8) (.cond (.t 48) (.reg false zz17_r9) (.skip))) (.seq (.reg false zz17_r10) (.cond (.t 53) (.ret) (.skip)))))))))) (.reg false zz17_r11)))
abbrev zz17_c:ACode:=.seq (.reg false zz17_r0) (.block 0 (.loop zz17_l0))
def zz17_F:AFunc:=⟨55,[],zz17_c⟩
theorem zz17_cp:zf Try.prog [] f_zz17=some zz17_F:=by kernel_rfl
theorem fol:Try.prog.follows .mixedOrders=true:=by kernel_rfl
end
end Go.Proofs.Ytlejjdbmmdghmaa
